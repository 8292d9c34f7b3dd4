/- A trie in memory, while it is made. Conditions: none. -/
import Derived.Test.YtehchnagjdmdgaaAt
import Derived.Great.BuildSlice
namespace Go.Proofs.Ytehchnagjdmdgaa
open Go.RowKit
def cellsB (l : List Int) : Array Value := (l.map (Value.int .u8)).toArray
theorem cellsB_size {l : List Int} (h : l.length = 256) : (cellsB l).size = 256 := by simp [cellsB, h]
theorem cellsB_one (l : List Int) : (cellsB l).all (·.oneCell') = true := by simp [cellsB, Value.oneCell']
theorem encB_cells (l : List Int) : encB l = .agg (cellsB l) := rfl
def flatB (bs : List (List Int)) : List Value := bs.flatMap fun l => l.map (Value.int .u8)
theorem flatB_snoc (bs : List (List Int)) (t : List Int) : flatB (bs ++ [t]) = flatB bs ++ t.map (Value.int .u8) := by simp [flatB]
theorem flatB_len : ∀ (bs : List (List Int)), (∀ l ∈ bs, l.length = 256) → (flatB bs).length = bs.length * 256
  | [], _ => rfl
  | l :: bs, h => by
    have e : flatB (l :: bs) = l.map (Value.int .u8) ++ flatB bs := rfl
    rw [e, List.length_append, flatB_len bs fun x hx => h x (List.mem_cons_of_mem _ hx), List.length_map, h l List.mem_cons_self, List.length_cons]
    omega
theorem flatB_get : ∀ (bs : List (List Int)), (∀ l ∈ bs, l.length = 256) → ∀ (i k : Nat) (l : List Int), bs[i]? = some l → k < 256 → (flatB bs)[i * 256 + k]? = some (.int .u8 (nth l k))
  | [], _, i, k, l, h, _ => by simp at h
  | l0 :: bs, hl, 0, k, l, h, hk => by
    have e1 : l0 = l := by simpa using h
    subst e1
    have e : flatB (l0 :: bs) = l0.map (Value.int .u8) ++ flatB bs := rfl
    have hl0 := hl l0 List.mem_cons_self
    rw [e, Nat.zero_mul, Nat.zero_add, List.getElem?_append_left (by rw [List.length_map]; omega), List.getElem?_map, some_nth (by omega)]
    rfl
  | l0 :: bs, hl, i + 1, k, l, h, hk => by
    have h' : bs[i]? = some l := by simpa using h
    have e : flatB (l0 :: bs) = l0.map (Value.int .u8) ++ flatB bs := rfl
    have hl0 := hl l0 List.mem_cons_self
    have ih := flatB_get bs (fun x hx => hl x (List.mem_cons_of_mem _ hx)) i k l h' hk
    rw [e, List.getElem?_append_right (by rw [List.length_map]; omega), List.length_map, show (i + 1) * 256 + k - l0.length = i * 256 + k by omega]
    exact ih
section
variable {w w' w0 : World} {B : Nat}
/-- '[]block{x}'. -/
theorem wp_one_blk {o : Oper} {a : Act} {K : Act → World → Prop} {Q : Exit → Act → World → Prop} (x : Operand) (hop : o.op = .buildSlice 71 1 #[(0, x)]) {l : List Int} (hl : l.length = 256) (hx : a.eval x = encB l)
    (h : K (a.put o.dst (.slice (some ⟨w.heap.size, 0, none⟩) 1 1)) (w.alloc (.cells (cellsB l) 76))) : o.wp Try.prog a w K Q := by
  obtain ⟨i0, hi0, hz0, hz1, hz2⟩ := info_parts info76
  refine wp_buildSlice 71 76 1 #[(0, x)] hop (cellsB l) i0 (.agg Z76) Try.underlying71 hi0 hz0 (by rw [hz1]; decide) (by rw [hz1]; decide) ?_ h
  have e : (#[((0 : Nat), x)].map fun (p : Nat × Operand) => (p.1, a.eval p.2)).toList = (([Value.agg (cellsB l)].zipIdx 0).map fun y => (y.2, y.1)) := by simp [hx, encB_cells]
  rw [hz1]
  have h2 := Great.fill_whole (s := 256) (by decide) [Value.agg (cellsB l)] ((Array.range (1 * 256)).map ((Value.agg Z76).cells[· % (Value.agg Z76).cells.size]!)) (fun v hv => by rw [List.mem_singleton.1 hv]; exact cellsB_size hl) (by simp)
  have h3 : (#[((0 : Nat), x)].map fun (i, x) => (i, a.eval x)).toList = (([Value.agg (cellsB l)].zipIdx 0).map fun y => (y.2, y.1)) := e
  rw [h3, h2]
  simp [Value.cells]
/-- 'append(t.blocks, x)', the new block's cells made just before. -/
theorem wp_app_blk {o : Oper} {a : Act} {Kn : Act → World → Prop} {Q : Exit → Act → World → Prop} (s x : Operand) (hop : o.op = .call { callee := .builtin .append, args := #[s, x], argTypes := #[71, 71] }) {v : Value} {bs : List (List Int)} {l : List Int}
    (hw : w = w0.alloc (.cells (cellsB l) 76)) (hs : a.eval s = v) (hown : w0.ownsRow B 76 256 v bs.length (flatB bs)) (hx : a.eval x = .slice (some ⟨w0.heap.size, 0, none⟩) 1 1) (hl : l.length = 256) (hn : bs.length ≤ 10000) (hB : B ≤ w0.heap.size)
    (h : ∀ A' c' w', w'.ownsRow B 76 256 (.slice A' (bs.length + 1) c') (bs.length + 1) (flatB (bs ++ [l])) → w.grownBy w' v.ownBlock → Kn (a.put o.dst (.slice A' (bs.length + 1) c')) w') : Oper.wp Try.prog o a w Kn Q := by
  obtain ⟨i0, hi0, hz0, hz1, hz2⟩ := info_parts info76
  subst hw
  have hnew : (w0.alloc (.cells (cellsB l) 76)).heap[w0.heap.size]? = some (.cells (cellsB l) 76 (0, 0)) := heap_alloc_new w0 _
  have hsrc : Src (w0.alloc (.cells (cellsB l) 76)) 256 (some ⟨w0.heap.size, 0, none⟩) 1 (l.map (Value.int .u8)) := ⟨by rw [List.length_map, hl], fun _ => ⟨_, rfl, fun j u hu => by
    rw [Addr.add_lit, Nat.zero_add, cell_of_row _ _ j _ _ _ hnew, ← Array.getElem?_toList]
    simpa [cellsB] using hu⟩⟩
  refine wp_app _ s x 71 hop B 76 i0 _ 256 256 Try.underlying71 hi0 hz0 hz1 hz2 z76_size (by decide) v _ _ hs (hown.alloc _) (some ⟨w0.heap.size, 0, none⟩) 1 1 _ hx hsrc (one_nums .u8 l) (by simp only [maxLen]; omega) (by omega) (by simp; omega) fun v' w' h1 h2 h3 => ?_
  obtain ⟨A', c', e, _⟩ := own_arr h1
  subst e
  exact h A' c' w' (by rw [flatB_snoc]; exact h1) h2
/-- A trie of which p places are laid. -/
structure Tb (w : World) (B tb : Nat) (other : Int) (first : List Int) (bs : List (List Int)) : Prop where
  base : B ≤ tb
  blk : ∃ (cs : Array Value) (v : Value), w.heap[tb]? = some (.cells cs 73 (0, 0)) ∧ cs.size = 4354 ∧ cs[0]? = some (.int .i64 other) ∧ (∀ q, q < first.length → cs[1 + q]? = some (.int .u16 (nth first q))) ∧
    (∀ q, q < 4352 → ∃ z, cs[1 + q]? = some (.int .u16 z)) ∧ cs[4353]? = some v ∧ w.ownsRow B 76 256 v bs.length (flatB bs)
theorem Tb.lt {tb : Nat} {other : Int} {first : List Int} {bs : List (List Int)} (h : Tb w B tb other first bs) : tb < w.heap.size := by
  obtain ⟨cs, v, h1, -⟩ := h.blk
  exact (Array.getElem?_eq_some_iff.1 h1).1
theorem Tb.below {tb : Nat} {other : Int} {first : List Int} {bs : List (List Int)} (h : Tb w B tb other first bs) (hb : Below w.heap.size w w') : Tb w' B tb other first bs := by
  obtain ⟨cs, v, h1, h2, h3, h4, h5, h6, h7⟩ := h.blk
  exact ⟨h.base, cs, v, (hb.block tb h.lt).trans h1, h2, h3, h4, h5, h6, own_moved h7 fun k _ hk => hb.block k hk⟩
theorem Tb.keep {tb m : Nat} {other : Int} {first : List Int} {bs : List (List Int)} (h : Tb w B tb other first bs) (hm : ∃ es clock, w.heap[m]? = some (.map es clock)) (hg : w.grownBy w' (some m)) : Tb w' B tb other first bs := by
  obtain ⟨cs, v, h1, h2, h3, h4, h5, h6, h7⟩ := h.blk
  obtain ⟨es, clock, hm⟩ := hm
  have hne : tb ≠ m := fun e => by rw [e, hm] at h1; cases h1
  refine ⟨h.base, cs, v, (hg.block tb h.lt fun e => hne (by injection e)).trans h1, h2, h3, h4, h5, h6, own_moved h7 fun k hk hkl => hg.block k hkl fun e => ?_⟩
  have : k = m := by injection e
  subst this
  rcases h7.2 with ⟨e1, -⟩ | ⟨q, cap, cur, e1, -, hh, -⟩
  · rw [e1] at hk; simp [Value.ownBlock] at hk
  · rw [e1] at hk
    have : q = k := by simpa [Value.ownBlock] using hk
    subst this
    rw [hm] at hh; cases hh
/-- A place's number is laid. -/
theorem Tb.setFirst {tb p : Nat} {other z : Int} {first : List Int} {bs : List (List Int)} (h : Tb w B tb other first bs) (hp : p = first.length) (hp2 : p < 4352) : Tb (w.setCell ⟨tb, 1 + p, none⟩ (.int .u16 z)) B tb other (first ++ [z]) bs := by
  obtain ⟨cs, v, h1, h2, h3, h4, h5, h6, h7⟩ := h.blk
  have e2 := heap_setCell_same w tb (1 + p) _ _ (.int .u16 z) h1
  refine ⟨h.base, _, v, e2, by simp [h2], by rw [set_get, if_neg (by omega)]; exact h3, fun q hq => ?_, fun q hq => ?_, by rw [set_get, if_neg (by omega)]; exact h6, ownsRow_setCell_other h7 (own_blk_ne h7 h1 (by decide)) _⟩
  · rw [List.length_append, List.length_singleton] at hq
    rw [set_get]
    by_cases e : q = p
    · subst e
      rw [if_pos rfl, if_pos (by omega)]
      rw [show nth (first ++ [z]) q = z by simp [nth, hp]]
    · rw [if_neg (by omega), show nth (first ++ [z]) q = nth first q by simp only [nth]; rw [List.getElem?_append_left (by omega)]]
      exact h4 q (by omega)
  · rw [set_get]
    by_cases e : q = p
    · subst e; rw [if_pos rfl, if_pos (by omega)]; exact ⟨z, rfl⟩
    · rw [if_neg (by omega)]; exact h5 q hq
/-- A block more. -/
theorem Tb.addBlk {X w3 : World} {tb : Nat} {other : Int} {first : List Int} {bs : List (List Int)} {l : List Int} {v v' : Value} (h : Tb w B tb other first bs) (hc : w.cell? ⟨tb, 4353, none⟩ = some v) (hX : Below w.heap.size w X) (ho : w3.ownsRow B 76 256 v' (bs.length + 1) (flatB (bs ++ [l]))) (hg : X.grownBy w3 v.ownBlock) :
    Tb (w3.setCell ⟨tb, 4353, none⟩ v') B tb other first (bs ++ [l]) := by
  obtain ⟨cs, v0, h1, h2, h3, h4, h5, h6, h7⟩ := h.blk
  have hv : v0 = v := by
    have e := h6
    rw [← cell_of_row w tb _ cs 73 (0, 0) h1, hc] at e
    injection e with e; exact e.symm
  subst hv
  have h13 : w3.heap[tb]? = some (.cells cs 73 (0, 0)) := (hg.block tb (Nat.lt_of_lt_of_le h.lt hX.size) fun e => own_blk_ne h7 h1 (by decide) e.symm).trans ((hX.block tb h.lt).trans h1)
  have e2 := heap_setCell_same w3 tb 4353 _ _ v' h13
  refine ⟨h.base, _, v', e2, by simp [h2], by rw [set_get, if_neg (by omega)]; exact h3, fun q hq => ?_, fun q hq => ?_, by rw [set_get, if_pos rfl, if_pos (by omega)], by rw [List.length_append, List.length_singleton]; exact ownsRow_setCell_other ho (own_blk_ne ho h13 (by decide)) _⟩
  · by_cases e : 1 + q = 4353
    · exfalso
      have := h4 q hq
      rw [e] at this
      rw [h6] at this
      injection this with this
      rcases h7.2 with ⟨e1, -⟩ | ⟨q', cap, cur, e1, -⟩
      · rw [e1] at this; cases this
      · rw [e1] at this; cases this
    · rw [set_get, if_neg (fun e' => e e'.symm)]; exact h4 q hq
  · rw [set_get, if_neg (by omega)]; exact h5 q hq
end
end Go.Proofs.Ytehchnagjdmdgaa
