/- Great arrays: new ones, as keys of a map, in memory. No conditions. -/
import Derived.Test.YtehchnagjdmdgaaOw
import Derived.Test.YtehchnagjdmdgaaChecked
import Derived.Great.Ranges
import Derived.DeepKeys4
namespace Go.Proofs.Ytehchnagjdmdgaa
open Go.RowKit
/-- A block's numbers, by a function. -/
def B256 (f : Nat → Int) : List Int := (List.range 256).map f
theorem B256_len (f : Nat → Int) : (B256 f).length = 256 := by simp [B256]
theorem B256_get (f : Nat → Int) {k : Nat} (h : k < 256) : (B256 f)[k]? = some (f k) := by simp [B256, h]
theorem B256_nth (f : Nat → Int) {k : Nat} (h : k < 256) : nth (B256 f) k = f k := by simp [nth, B256_get f h]
theorem B256_set (f : Nat → Int) {k : Nat} (h : k < 256) (z : Int) : (B256 f).set k z = B256 (upd f k z) := by
  refine List.ext_getElem? fun i => ?_
  rw [List.getElem?_set, B256_len]
  by_cases hi : i < 256
  · by_cases e : k = i
    · subst e; rw [if_pos rfl, if_pos h, B256_get _ h, upd_same]
    · rw [if_neg e, B256_get _ hi, B256_get _ hi, upd_other _ _ (Ne.symm e)]
  · rw [if_neg (by omega), List.getElem?_eq_none (by rw [B256_len]; omega), List.getElem?_eq_none (by rw [B256_len]; omega)]
theorem B256_ext {f g : Nat → Int} (h : ∀ k, k < 256 → f k = g k) : B256 f = B256 g := List.map_congr_left fun k hk => h k (List.mem_range.1 hk)
theorem blk_is (other : Int) (es : List Ent) (p : Nat) : blkOf other es p = B256 fun k => cls other es ((p : Int) * 256 + (k : Nat)) := rfl
abbrev byteL (l : List Int) : Prop := l.length = 256 ∧ ∀ x ∈ l, 0 ≤ x ∧ x ≤ 255
def encB (l : List Int) : Value := .agg ((l.map (Value.int .u8)).toArray)
def Z76 : Array Value := (((B256 fun _ => 0)).map (Value.int .u8)).toArray
theorem info76 : (Try.prog.info? 76).map (fun i => (i.zero, i.size, i.bytes)) = some (some (.agg Z76), 256, 256) := by kernel_rfl
theorem zero76 : (Try.prog.info? 76).map (·.zero) = some (some (.agg Z76)) := by kernel_rfl
theorem size76 : (Try.prog.info? 76).map (·.size) = some 256 := by kernel_rfl
def Z67 (v : Value) : Array Value := (v :: (List.replicate 4352 (Value.int .i64 0) ++ List.replicate 4352 (Value.slice none 0 0))).toArray
def Z73 (v : Value) : Array Value := (v :: (List.replicate 4352 (Value.int .u16 0) ++ [Value.slice none 0 0])).toArray
set_option maxRecDepth 1000000 in
theorem built67 (A : Option Addr) (n c : Nat) : Try.prog.built 67 [(0, .slice A n c)] = some (Z67 (.slice A n c)) := by kernel_rfl
set_option maxRecDepth 1000000 in
theorem built73 (n : Int) : Try.prog.built 73 [(0, .int .i64 n)] = some (Z73 (.int .i64 n)) := by kernel_rfl
/-- A new variable of any type. -/
theorem wpList_alloc_of {P : Program} {ops : Array Oper} {rest : List Oper} {o : Oper} {a : Act} {w : World} {Q : Exit → Act → World → Prop} (hg : o.guard = none) (t : TypeId) (hop : o.op = .alloc t) (z : Value) (hz : (P.info? t).map (·.zero) = some (some z))
    (h : wpList P ops Q rest (a.put o.dst (.pointer (some ⟨w.heap.size, 0, none⟩))) (w.alloc (.cells z.cells t))) : wpList P ops Q (o :: rest) a w := by
  refine wpList_plain hg fun K hK => ?_
  cases hi : P.info? t with
  | none => rw [hi] at hz; cases hz
  | some i =>
    rw [hi] at hz
    have hz' : i.zero = some z := by simpa using hz
    unfold Oper.wp execOp
    simp [hop, Instr.alloc, zeroValue, typeInfo, hi, hz', newVar, newRow]
    exact hK _ _ h
theorem wpList_build_of {P : Program} {ops : Array Oper} {rest : List Oper} {o : Oper} {a : Act} {w : World} {Q : Exit → Act → World → Prop} (hg : o.guard = none) (t : TypeId) (x : Operand) (hop : o.op = .build t #[(0, x)]) (cs : Array Value) (v : Value) (hx : a.eval x = v) (hb : P.built t [(0, v)] = some cs)
    (h : wpList P ops Q rest (a.put o.dst (.agg cs)) w) : wpList P ops Q (o :: rest) a w := by
  refine wpList_build hg t #[(0, x)] hop ?_ ?_
  · simp [hx, hb]
  · simpa [hx, hb] using h
theorem u8wf {z : Int} (h : 0 ≤ z ∧ z ≤ 255) : (Lit.int .u8 z).wf = true := by
  simp [Lit.wf, IntKind.min, IntKind.max, IntKind.bits, IntKind.signed]
  omega
theorem cells76 : Try.prog.cellsOf 76 = 256 := by kernel_rfl
theorem cells5 : Try.prog.cellsOf 5 = 1 := by kernel_rfl
theorem keyT76 : Try.prog.keyType 76 = true := by kernel_rfl
theorem key_one (d : Nat) {z : Int} (h : 0 ≤ z ∧ z ≤ 255) : Try.prog.keyLits (d + 1) 5 [Value.int .u8 z] = some [Lit.int .u8 z] := by
  rw [Program.keyLits.eq_def]
  simp only [Try.underlying5]
  rw [if_pos ⟨trivial, u8wf h⟩]
theorem keyL' (d : Nat) (l : List Int) (h : ∀ x ∈ l, 0 ≤ x ∧ x ≤ 255) (F : Nat → Option (List Lit)) (hF : ∀ i, F i = Try.prog.keyLits (d + 1) 5 (((l.map (Value.int .u8)).drop (i * 1)).take 1)) : ∀ n, n ≤ l.length → (List.range n).mapM F = some ((l.take n).map fun z => [Lit.int .u8 z])
  | 0, _ => rfl
  | n + 1, hn => by
    have h1 : F n = some [Lit.int .u8 (nth l n)] := by
      rw [hF, ← key_one d (h _ (nth_mem hn)), Nat.mul_one, List.drop_eq_getElem_cons (by rw [List.length_map]; omega)]
      simp [nth, List.getElem?_eq_getElem (show n < l.length by omega)]
    rw [List.range_succ, List.mapM_append, keyL' d l h F hF n (by omega), take_nth hn]
    simp [h1]
theorem keyL (d : Nat) (l : List Int) (h : ∀ x ∈ l, 0 ≤ x ∧ x ≤ 255) : ((List.range l.length).mapM fun i => Try.prog.keyLits (d + 1) 5 (((l.map (Value.int .u8)).drop (i * 1)).take 1)) = some (l.map fun z => [Lit.int .u8 z]) := by
  have := keyL' d l h _ (fun i => rfl) l.length (Nat.le_refl _)
  rwa [List.take_length] at this
theorem byte_key {l : List Int} (h : byteL l) : ∃ k, keyOf Try.prog 76 (encB l) = some k := by
  have hf : (encB l).formed Try.prog 76 = true := by simp [encB, Value.formed, Try.underlying76, cells76, h.1]
  obtain ⟨d, hd⟩ : ∃ d, Try.prog.types.size + 1 = d + 2 := ⟨Try.prog.types.size - 1, by have : 1 ≤ Try.prog.types.size := of_decide_eq_true (by kernel_rfl); omega⟩
  have h2 : Try.prog.keyLits (d + 2) 76 (l.map (Value.int .u8)) = some ((l.map fun z => [Lit.int .u8 z]).flatten) := by
    rw [Program.keyLits.eq_def]
    simp only [Try.underlying76, cells76, cells5]
    rw [if_pos (by rw [List.length_map, h.1])]
    have e := keyL d l h.2
    rw [h.1] at e
    rw [e]
    rfl
  refine ⟨.string (keyBytes ((l.map fun z => [Lit.int .u8 z]).flatten)), ?_⟩
  unfold keyOf
  rw [Try.underlying76]
  simp only [keyT76, hf, Bool.and_self, if_true, hd]
  show Option.map _ (Try.prog.keyLits (d + 2) 76 ((l.map (Value.int .u8)).toArray.toList)) = _
  rw [List.toList_toArray, h2]
  rfl
theorem laidKy : laidOutB Try.prog = true := by kernel_rfl
theorem byteKey : MKey Try.prog 76 encB byteL :=
  ⟨fun {a b} h => by
    have h1 : (a.map (Value.int .u8)).toArray = (b.map (Value.int .u8)).toArray := by injection h
    have h2 : a.map (Value.int .u8) = b.map (Value.int .u8) := by simpa using h1
    exact (List.map_inj_right (fun x y e => by injection e)).1 h2,
   byte_key, Maps.Keyed.of_law (deep_law_laid laidKy (m := 3) (by omega) (of_decide_eq_true (by kernel_rfl)) (by kernel_rfl) (by kernel_rfl))⟩
abbrev OwnI (w : World) (B : Nat) (v : Value) (l : List Int) : Prop := w.ownsRow B 3 1 v l.length (l.map (.int .i64))
/-- The builder in memory: what is noted of the places. -/
structure Bd (w : World) (B q : Nat) (ev : Value) (b : Bl) : Prop where
  base : B ≤ q
  blk : ∃ cs : Array Value, w.heap[q]? = some (.cells cs 67 (0, 0)) ∧ cs.size = 8705 ∧ cs[0]? = some ev ∧ (∀ p, p < 4352 → cs[1 + p]? = some (.int .i64 (b.whole p))) ∧
    ∃ pv : Nat → Value, (∀ p, p < 4352 → cs[4353 + p]? = some (pv p)) ∧ (∀ p, p < 4352 → OwnI w B (pv p) (b.parts p)) ∧ ∀ p r k, p < 4352 → r < 4352 → (pv p).ownBlock = some k → (pv r).ownBlock = some k → p = r
section
variable {w w' : World} {B q : Nat} {ev : Value} {b : Bl}
theorem Bd.lt (h : Bd w B q ev b) : q < w.heap.size := by
  obtain ⟨cs, h1, -⟩ := h.blk
  exact (Array.getElem?_eq_some_iff.1 h1).1
theorem own_moved {w w' : World} {B e size n : Nat} {v : Value} {xs : List Value} (h : w.ownsRow B e size v n xs) (hk : ∀ q, v.ownBlock = some q → q < w.heap.size → w'.heap[q]? = w.heap[q]?) : w'.ownsRow B e size v n xs := by
  obtain ⟨r0, r1 | ⟨q, cap, cur, e1, hq, hh, r2⟩⟩ := h
  · exact ⟨r0, .inl r1⟩
  · subst e1
    exact ⟨r0, .inr ⟨q, cap, cur, rfl, hq, (hk q rfl (Array.getElem?_eq_some_iff.1 hh).1).trans hh, r2⟩⟩
theorem Bd.below (h : Bd w B q ev b) (hb : Below w.heap.size w w') : Bd w' B q ev b := by
  obtain ⟨cs, h1, h2, h3, h4, pv, h5, h6, h7⟩ := h.blk
  exact ⟨h.base, cs, (hb.block q h.lt).trans h1, h2, h3, h4, pv, h5, fun p hp => own_moved (h6 p hp) fun k _ hk => hb.block k hk, h7⟩
/-- The cells of a place. -/
theorem Bd.cells (h : Bd w B q ev b) : w.cell? ⟨q, 0, none⟩ = some ev ∧ (∀ p, p < 4352 → w.cell? ⟨q, 1 + p, none⟩ = some (.int .i64 (b.whole p))) ∧ (∀ i, w.frozen? ⟨q, i, none⟩ = false) ∧
    ∀ p, p < 4352 → ∃ A c, w.cell? ⟨q, 4353 + p, none⟩ = some (.slice A (b.parts p).length c) ∧ OwnI w B (.slice A (b.parts p).length c) (b.parts p) := by
  obtain ⟨cs, h1, h2, h3, h4, pv, h5, h6, h7⟩ := h.blk
  refine ⟨by rw [cell_of_row w q 0 cs 67 (0, 0) h1]; exact h3, fun p hp => by rw [cell_of_row w q _ cs 67 (0, 0) h1]; exact h4 p hp, fun i => frozen_of_row _ _ _ _ _ h1, fun p hp => ?_⟩
  obtain ⟨A, c, e, -⟩ := own_arr (h6 p hp)
  refine ⟨A, c, by rw [cell_of_row w q _ cs 67 (0, 0) h1, ← e]; exact h5 p hp, ?_⟩
  rw [← e]
  exact h6 p hp
theorem set_get (cs : Array Value) (i j : Nat) (v : Value) : (cs.setIfInBounds i v)[j]? = if i = j then (if i < cs.size then some v else none) else cs[j]? := by
  rw [Array.getElem?_setIfInBounds]
/-- A place is all of entry i's. -/
theorem Bd.setWhole (h : Bd w B q ev b) {p : Nat} (hp : p < 4352) (z : Int) : Bd ((w.setCell ⟨q, 1 + p, none⟩ (.int .i64 z)).setCell ⟨q, 4353 + p, none⟩ (.slice none 0 0)) B q ev ⟨upd b.whole p z, upd b.parts p []⟩ := by
  obtain ⟨cs, h1, h2, h3, h4, pv, h5, h6, h7⟩ := h.blk
  have e1 := heap_setCell_same w q (1 + p) _ _ (.int .i64 z) h1
  have e2 := heap_setCell_same _ q (4353 + p) _ _ (.slice none 0 0) e1
  refine ⟨h.base, _, e2, by simp [h2], ?_, fun r hr => ?_, upd pv p (.slice none 0 0), fun r hr => ?_, fun r hr => ?_, fun r s k hr hs e3 e4 => ?_⟩
  · rw [set_get, set_get, if_neg (by omega), if_neg (by omega)]; exact h3
  · show _ = some (Value.int .i64 (upd b.whole p z r))
    rw [set_get, set_get, if_neg (by omega)]
    by_cases e : r = p
    · subst e; rw [if_pos rfl, if_pos (by omega), upd_same]
    · rw [if_neg (by omega), upd_other _ _ e]; exact h4 r hr
  · rw [set_get, set_get]
    by_cases e : r = p
    · subst e; rw [if_pos rfl, if_pos (by simp [h2]; omega), upd_same]
    · rw [if_neg (by omega), if_neg (by omega), upd_other _ _ e]; exact h5 r hr
  · show OwnI _ B (upd pv p (.slice none 0 0) r) (upd b.parts p [] r)
    by_cases e : r = p
    · subst e; rw [upd_same, upd_same]; exact World.ownsRow_nil _ _ _ _
    · rw [upd_other _ _ e, upd_other _ _ e]
      refine own_moved (h6 r hr) fun k hk _ => ?_
      have hne : k ≠ q := fun e' => own_blk_ne (h6 r hr) h1 (by decide) (by rw [← e']; exact hk)
      rw [heap_setCell_other _ _ _ _ hne, heap_setCell_other _ _ _ _ hne]
  · have hr' : r ≠ p := fun e => by subst e; rw [upd_same] at e3; simp [Value.ownBlock] at e3
    have hs' : s ≠ p := fun e => by subst e; rw [upd_same] at e4; simp [Value.ownBlock] at e4
    rw [upd_other _ _ hr'] at e3
    rw [upd_other _ _ hs'] at e4
    exact h7 r s k hr hs e3 e4
/-- An entry more has some of a place. -/
theorem Bd.addPart {X w3 : World} {p : Nat} {z : Int} {v v' : Value} (h : Bd w B q ev b) (hp : p < 4352) (hc : w.cell? ⟨q, 4353 + p, none⟩ = some v) (hX : X = w.alloc (.cells #[.int .i64 z] 3)) (ho : OwnI w3 B v' (b.parts p ++ [z])) (hg : X.grownBy w3 v.ownBlock)
    (hv : v'.ownBlock = v.ownBlock ∨ v'.ownBlock = some X.heap.size) : Bd (w3.setCell ⟨q, 4353 + p, none⟩ v') B q ev ⟨b.whole, upd b.parts p (b.parts p ++ [z])⟩ := by
  obtain ⟨cs, h1, h2, h3, h4, pv, h5, h6, h7⟩ := h.blk
  have hvp : pv p = v := by
    have e := h5 p hp
    rw [← cell_of_row w q _ cs 67 (0, 0) h1, hc] at e
    injection e with e; exact e.symm
  subst hvp
  have sX : X.heap.size = w.heap.size + 1 := by rw [hX]; simp
  have hold : ∀ x, x < w.heap.size → (pv p).ownBlock ≠ some x → w3.heap[x]? = w.heap[x]? := fun x hx hne => by
    rw [hg.block x (by omega) fun e => hne e.symm, hX]
    exact heap_alloc_old _ _ hx
  have hq3 : w3.heap[q]? = some (.cells cs 67 (0, 0)) := (hold q h.lt (own_blk_ne (h6 p hp) h1 (by decide))).trans h1
  have e2 := heap_setCell_same _ q (4353 + p) _ _ v' hq3
  refine ⟨h.base, _, e2, by simp [h2], ?_, fun r hr => ?_, upd pv p v', fun r hr => ?_, fun r hr => ?_, fun r s k hr hs e3 e4 => ?_⟩
  · rw [set_get, if_neg (by omega)]; exact h3
  · rw [set_get, if_neg (by omega)]; exact h4 r hr
  · rw [set_get]
    by_cases e : r = p
    · subst e; rw [if_pos rfl, if_pos (by omega), upd_same]
    · rw [if_neg (by omega), upd_other _ _ e]; exact h5 r hr
  · show OwnI _ B (upd pv p v' r) (upd b.parts p (b.parts p ++ [z]) r)
    by_cases e : r = p
    · subst e
      rw [upd_same, upd_same]
      exact ownsRow_setCell_other ho (own_blk_ne ho hq3 (by decide)) _
    · rw [upd_other _ _ e, upd_other _ _ e]
      refine own_moved (h6 r hr) fun k hk hkl => ?_
      have hne : k ≠ q := fun e' => own_blk_ne (h6 r hr) h1 (by decide) (by rw [← e']; exact hk)
      rw [heap_setCell_other _ _ _ _ hne]
      exact hold k hkl fun e' => e (h7 r p k hr hp hk e')
  · have key : ∀ t, t < 4352 → t ≠ p → (pv t).ownBlock = some k → v'.ownBlock ≠ some k := fun t ht hne hk e => by
      rcases hv with hv | hv
      · rw [hv] at e; exact hne (h7 t p k ht hp hk e)
      · rw [hv] at e
        injection e with e
        have := ((h6 t ht).lt k hk).2
        omega
    by_cases hr' : r = p
    · by_cases hs' : s = p
      · omega
      · subst hr'
        rw [upd_same] at e3
        rw [upd_other _ _ hs'] at e4
        exact absurd e3 (key s hs hs' e4)
    · by_cases hs' : s = p
      · subst hs'
        rw [upd_same] at e4
        rw [upd_other _ _ hr'] at e3
        exact absurd e4 (key r hr hr' e3)
      · rw [upd_other _ _ hr'] at e3
        rw [upd_other _ _ hs'] at e4
        exact h7 r s k hr hs e3 e4
theorem info3 : (Try.prog.info? 3).map (fun i => (i.zero, i.size, i.bytes)) = some (some (.int .i64 0), 1, 8) := by kernel_rfl
/-- 'append(row, z)', the new number's cell made just before. -/
theorem wp_app_one {w0 : World} {o : Oper} {a : Act} {Kn : Act → World → Prop} {Q : Exit → Act → World → Prop} (s x : Operand) (hop : o.op = .call { callee := .builtin .append, args := #[s, x], argTypes := #[49, 49] }) {v : Value} {l : List Int} {z : Int}
    (hw : w = w0.alloc (.cells #[.int .i64 z] 3)) (hs : a.eval s = v) (hown : OwnI w0 B v l) (hx : a.eval x = .slice (some ⟨w0.heap.size, 0, none⟩) 1 1) (hn : l.length ≤ 1000000) (hB : B ≤ w0.heap.size)
    (h : ∀ A' c' w', OwnI w' B (.slice A' (l.length + 1) c') (l ++ [z]) → w.grownBy w' v.ownBlock → ((Value.slice A' (l.length + 1) c').ownBlock = v.ownBlock ∨ (Value.slice A' (l.length + 1) c').ownBlock = some w.heap.size) → Kn (a.put o.dst (.slice A' (l.length + 1) c')) w') : Oper.wp Try.prog o a w Kn Q := by
  obtain ⟨i0, hi0, hz0, hz1, hz2⟩ := info_parts info3
  subst hw
  refine wp_app _ s x 49 hop B 3 i0 _ 1 8 Try.underlying49 hi0 hz0 hz1 hz2 rfl (by decide) v _ _ hs (hown.alloc _) (some ⟨w0.heap.size, 0, none⟩) 1 1 _ hx (src_new w0 _ 3 1 rfl) (by simp [Value.oneCell']) (by simp only [maxLen]; omega) (by omega) (by simp; omega) fun v' w' h1 h2 h3 => ?_
  have h1' : OwnI w' B v' (l ++ [z]) := by
    have : (l ++ [z]).length = l.length + 1 := by simp
    show w'.ownsRow B 3 1 v' (l ++ [z]).length ((l ++ [z]).map (.int .i64))
    rw [this]
    simpa using h1
  obtain ⟨A', c', e, _⟩ := own_arr h1'
  rw [List.length_append, List.length_singleton] at e
  subst e
  exact h A' c' w' h1' h2 h3
theorem Bd.setBelow (h : Bd w B q ev b) (i : Nat) (v : Value) : Below B w (w.setCell ⟨q, i, none⟩ v) := (Below.refl B w).setCell (p := ⟨q, i, none⟩) h.base v
end
end Go.Proofs.Ytehchnagjdmdgaa
