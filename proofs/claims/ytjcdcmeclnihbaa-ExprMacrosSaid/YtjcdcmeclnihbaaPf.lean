/- The classes' names; a class's name, a name's class. Conditions: none. -/
import Derived.Test.YtjcdcmeclnihbaaPr
import Derived.Test.YtjcdcmeclnihbaaChecked
import Derived.Great.BuildSlice
namespace Go.Proofs.Ytjcdcmeclnihbaa
open Go.RowKit
set_option linter.unusedSimpArgs false
def nmL : List ByteArray := [⟨#[79, 116, 104, 101, 114]⟩, ⟨#[67, 82]⟩, ⟨#[76, 70]⟩, ⟨#[78, 101, 119, 108, 105, 110, 101]⟩, ⟨#[67, 111, 110, 116, 114, 111, 108]⟩, ⟨#[69, 120, 116, 101, 110, 100]⟩, ⟨#[90, 87, 74]⟩, ⟨#[70, 111, 114, 109, 97, 116]⟩, ⟨#[82, 101, 103, 105, 111, 110, 97, 108]⟩, ⟨#[80, 114, 101, 112, 101, 110, 100]⟩, ⟨#[83, 112, 97, 99, 105, 110, 103]⟩, ⟨#[76]⟩, ⟨#[86]⟩, ⟨#[84]⟩, ⟨#[76, 86]⟩, ⟨#[76, 86, 84]⟩, ⟨#[80, 105, 99, 116]⟩, ⟨#[85, 112, 112, 101, 114]⟩, ⟨#[76, 111, 119, 101, 114]⟩, ⟨#[76, 101, 116, 116, 101, 114]⟩, ⟨#[75, 97, 116, 97, 107, 97, 110, 97]⟩, ⟨#[73, 100, 101, 111, 103, 114, 97, 112, 104]⟩, ⟨#[68, 105, 103, 105, 116]⟩, ⟨#[77, 105, 100, 76, 101, 116, 116, 101, 114]⟩, ⟨#[77, 105, 100, 78, 117, 109]⟩, ⟨#[68, 111, 116]⟩, ⟨#[65, 112, 111, 115, 116, 114, 111, 112, 104, 101]⟩, ⟨#[81, 117, 111, 116, 101]⟩, ⟨#[74, 111, 105, 110, 101, 114]⟩, ⟨#[83, 112, 97, 99, 101]⟩, ⟨#[84, 101, 114, 109]⟩, ⟨#[79, 112, 101, 110]⟩, ⟨#[67, 108, 111, 115, 101]⟩, ⟨#[72, 121, 112, 104, 101, 110]⟩, ⟨#[71, 108, 117, 101]⟩, ⟨#[71, 97, 112]⟩]
def nmB : List Bs := [[79, 116, 104, 101, 114], [67, 82], [76, 70], [78, 101, 119, 108, 105, 110, 101], [67, 111, 110, 116, 114, 111, 108], [69, 120, 116, 101, 110, 100], [90, 87, 74], [70, 111, 114, 109, 97, 116], [82, 101, 103, 105, 111, 110, 97, 108], [80, 114, 101, 112, 101, 110, 100], [83, 112, 97, 99, 105, 110, 103], [76], [86], [84], [76, 86], [76, 86, 84], [80, 105, 99, 116], [85, 112, 112, 101, 114], [76, 111, 119, 101, 114], [76, 101, 116, 116, 101, 114], [75, 97, 116, 97, 107, 97, 110, 97], [73, 100, 101, 111, 103, 114, 97, 112, 104], [68, 105, 103, 105, 116], [77, 105, 100, 76, 101, 116, 116, 101, 114], [77, 105, 100, 78, 117, 109], [68, 111, 116], [65, 112, 111, 115, 116, 114, 111, 112, 104, 101], [81, 117, 111, 116, 101], [74, 111, 105, 110, 101, 114], [83, 112, 97, 99, 101], [84, 101, 114, 109], [79, 112, 101, 110], [67, 108, 111, 115, 101], [72, 121, 112, 104, 101, 110], [71, 108, 117, 101], [71, 97, 112]]
theorem nm_bytes : nmL.map bsOf = nmB := by rfl
def NMS : Array Value := (nmL.map Value.string).toArray
theorem NMS_size : NMS.size = 36 := rfl
theorem NMS_one : NMS.all (·.oneCell') = true := by simp [NMS, nmL, Value.oneCell']
def Z118 : Array Value := (List.replicate 36 (Value.string ⟨#[]⟩)).toArray
theorem zero118 : (Try.prog.info? 118).map (·.zero) = some (some (.agg Z118)) := by kernel_rfl
theorem size118 : (Try.prog.info? 118).map (·.size) = some 36 := by kernel_rfl
/-- A new variable of any type. -/
theorem wpList_alloc_of {P : Program} {ops : Array Oper} {rest : List Oper} {o : Oper} {a : Act} {w : World} {Q : Exit → Act → World → Prop} (hg : o.guard = none) (t : TypeId) (hop : o.op = .alloc t) (z : Value) (hz : (P.info? t).map (·.zero) = some (some z))
    (h : wpList P ops Q rest (a.put o.dst (.pointer (some ⟨w.heap.size, 0, none⟩))) (w.alloc (.cells z.cells t))) : wpList P ops Q (o :: rest) a w := by
  refine wpList_plain hg fun K hK => ?_
  cases hi : P.info? t with
  | none => rw [hi] at hz; cases hz
  | some i =>
    rw [hi] at hz
    have hz' : i.zero = some z := by simpa using hz
    unfold Oper.wp execOp
    simp [hop, Instr.alloc, zeroValue, typeInfo, hi, hz', newVar, newRow]
    exact hK _ _ h
set_option maxRecDepth 100000 in
set_option maxHeartbeats 2000000 in
theorem names_any (w : World) : Calls Try.prog 92 #[] w fun e w' => e = .returned (.agg NMS) ∧ Below w.heap.size w w' := by
  obtain ⟨X, hX⟩ : ∃ X, X = w.alloc (.cells Z118 118) := ⟨_, rfl⟩
  have HX := hid hX
  have HXB := hid (show X.heap[w.heap.size]? = some (.cells Z118 118 (0, 0)) by rw [hX]; exact heap_alloc_new _ _)
  clear hX
  go_enter Try.func92, Try.ntmps92
  go_wp2_with (first
    | (refine wpList_alloc_of rfl 118 rfl (.agg Z118) zero118 ?_; rw [show (Value.agg Z118).cells = Z118 from rfl, ← HX.out])
    | (refine wpList_buildTo rfl 118 _ rfl (some 1) rfl NMS (by kernel_rfl) ?_)
    | (refine wpList_store_rowTo rfl 118 (.tmp 0) (.tmp 1) rfl rfl w.heap.size NMS rfl rfl 118 Z118 HXB.out (by rw [size118, NMS_size]) rfl NMS_one ?_)
    | fail)
  have hrow := setRow_heap X w.heap.size Z118 NMS 118 (0, 0) HXB.out
  refine bodyPost_ret (v := .agg NMS) (results_cell_row rfl _ _ w.heap.size 118 NMS (0, 0) _ rfl hrow Try.underlying118 rfl (by rw [size118, NMS_size])) rfl ⟨rfl, ?_⟩
  rw [HX.out]
  have hb : Below w.heap.size w (w.alloc (.cells Z118 118)) := (Below.refl _ _).alloc (Nat.le_refl _) _
  refine ⟨hb.os, hb.tape, hb.output, ?_, fun x hx => ?_⟩
  · have := hb.size; simp only [World.setRow, Array.size_modify]; exact this
  · rw [← hb.block x hx]
    have : ¬ w.heap.size = x := by omega
    simp [World.setRow, Array.getElem?_modify, this]
theorem run_idx118 (cells : Array Value) (j : Nat) (x : Value) (hj : j < 36) (hx : cells[j]? = some x) (w : World) : (Instr.index 118 (.agg cells) (.int .i64 j)).run Try.prog w = .ok x w := by
  have h1 : (0:Int) ≤ j ∧ (j:Int) < 36 := by omega
  simp [Instr.index, run_underlying Try.underlying118, asIntOf, go_sem, h1, hj, hx]
def nameS (c : Int) : ByteArray := if 0 ≤ c ∧ c < 36 then (nmL[c.toNat]?).getD ⟨#[]⟩ else ⟨#[]⟩
theorem nm_len : nmL.length = 36 := rfl
set_option maxRecDepth 100000 in
theorem nameOf_any (c : Int) (w : World) : Calls Try.prog 76 #[.int .i64 c] w fun e w' => e = .returned (.string (nameS c)) ∧ Below w.heap.size w w' := by
  go_enter Try.func76, Try.ntmps76
  by_cases h0 : c < 0
  · have HN := hid (show nameS c = ⟨#[]⟩ from if_neg (by omega))
    go_wp2_with fail
    go_ret
    exact ⟨by rw [HN.out]; rfl, Below.refl _ _⟩
  · by_cases h1 : 36 ≤ c
    · have HN := hid (show nameS c = ⟨#[]⟩ from if_neg (by omega))
      go_wp2_with fail
      go_ret
      exact ⟨by rw [HN.out]; rfl, Below.refl _ _⟩
    · obtain ⟨k, rfl⟩ : ∃ k : Nat, c = (k : Int) := ⟨c.toNat, by omega⟩
      have hk : k < 36 := by omega
      obtain ⟨z, hz⟩ : ∃ z, nmL[k]? = some z := ⟨_, List.getElem?_eq_getElem (by rw [nm_len]; exact hk)⟩
      have HN := hid (show nameS k = z by unfold nameS; rw [if_pos (by omega), Int.toNat_natCast, hz]; rfl)
      have hix := run_idx118 NMS k (.string z) hk (by unfold NMS; simp [hz])
      clear hz
      go_wp2_with fail
      refine (names_any w).mono ?_
      rintro e w1 ⟨rfl, hb⟩
      have HB := hid hb
      clear hb
      go_wp2_with fail
      go_ret
      exact ⟨by rw [HN.out]; rfl, HB.out⟩
/-- Where a text is in a list; -1: nowhere. -/
def idxS (z : ByteArray) : Nat → List ByteArray → Int
  | _, [] => -1
  | k, x :: l => if x = z then (k : Int) else idxS z (k + 1) l
theorem text_ne {a b : ByteArray} (h : a ≠ b) : (a.toList == b.toList) = false := by
  rw [ByteArray.toList_eq, ByteArray.toList_eq, beq_eq_false_iff_ne]
  intro e
  exact h (ByteArray.ext (by have := congrArg List.toArray e; simpa using this))
set_option maxRecDepth 100000 in
set_option maxHeartbeats 1000000 in
theorem indexS_any (b o n c : Nat) (l : List ByteArray) (z : ByteArray) (w : World) (hn : n = l.length) (hl : l.length ≤ 100000) (h : ∀ k s, l[k]? = some s → w.cell? ⟨b, o + k, none⟩ = some (.string s)) :
    Calls Try.prog 118 #[.slice (some ⟨b, o, none⟩) n c, .string z] w fun e w' => e = .returned (.int .i64 (idxS z 0 l)) ∧ w' = w := by
  subst hn
  have H := hid h
  clear h
  go_enter Try.func118, Try.ntmps118
  go_wp2_with fail
  go_loopw [8] (fun s8 wr => ∃ k : Nat, k ≤ l.length ∧ s8 = .int .i64 k ∧ Hid (idxS z k (l.drop k) = idxS z 0 l) ∧ wr = w) (fun s8 _ => l.length - (intOf s8).toNat)
  case atStart => exact ⟨0, by omega, rfl, hid rfl, rfl⟩
  case round =>
    obtain ⟨k, hk, rfl, HT, rfl⟩ := hrel
    by_cases hlt : k < l.length
    · obtain ⟨y, hy⟩ : ∃ y, l[k]? = some y := ⟨_, List.getElem?_eq_getElem hlt⟩
      have hc := H.out k y hy
      have hst : (if y = z then (k : Int) else idxS z (k + 1) (l.drop (k + 1))) = idxS z 0 l := by
        rw [← HT.out, show l.drop k = y :: l.drop (k + 1) by
          obtain ⟨h1, h2⟩ := List.getElem?_eq_some_iff.1 hy
          rw [List.drop_eq_getElem_cons h1, h2]]
        rfl
      have HST := hid hst
      clear hst hy
      by_cases hyz : y = z
      · have HE := hid (show (k : Int) = idxS z 0 l by rw [← HST.out, if_pos hyz])
        subst hyz
        go_wp2_with fail
        go_ret
        exact ⟨ret_int HE.out, rfl⟩
      · have HN := hid (show idxS z (k + 1) (l.drop (k + 1)) = idxS z 0 l by rw [← HST.out, if_neg hyz])
        have hne : (z.toList == y.toList) = false := text_ne fun e => hyz e.symm
        have hne2 : (y.toList == z.toList) = false := text_ne hyz
        go_wp2_with fail
        go_roundw
        case rel => exact ⟨k + 1, by omega, by go_num, HN, trivial⟩
        case measure => simp [intOf]; omega
    · have HE := hid (show (-1 : Int) = idxS z 0 l by rw [← HT.out, List.drop_eq_nil_of_le (by omega)]; rfl)
      go_wp2_with fail
      go_ret
      exact ⟨ret_int HE.out, rfl⟩
/-- A name's class. -/
def numB (n : Bs) : Option Int := (nmB.findIdx? fun x => x == n).map fun (i : Nat) => (i : Int)
theorem bsOf_inj {a b : ByteArray} (h : bsOf a = bsOf b) : a = b := by
  unfold bsOf at h
  have h2 : a.data.toList = b.data.toList := (List.map_inj_right (fun x y e => UInt8.toNat_inj.1 e)).1 h
  exact ByteArray.ext (Array.toList_inj.1 h2)
theorem idx_find (z : ByteArray) : ∀ (l : List ByteArray) (k : Nat), idxS z k l = match (l.map bsOf).findIdx? fun x => x == bsOf z with
    | some i => ((k + i : Nat) : Int)
    | none => -1
  | [], k => rfl
  | x :: l, k => by
    rw [List.map_cons, List.findIdx?_cons]
    unfold idxS
    by_cases e : x = z
    · rw [if_pos e, e, if_pos (by simp)]; rfl
    · rw [if_neg e, if_neg (by simp; exact fun h => e (bsOf_inj h)), idx_find z l (k + 1)]
      cases (l.map bsOf).findIdx? fun x => x == bsOf z with
      | none => rfl
      | some i => simp only [Option.map_some]; congr 1; omega
theorem num_idx (z : ByteArray) : numB (bsOf z) = if 0 ≤ idxS z 0 nmL then some (idxS z 0 nmL) else none := by
  rw [idx_find, nm_bytes]
  unfold numB
  cases nmB.findIdx? fun x => x == bsOf z with
  | none => rfl
  | some i => simp
set_option maxRecDepth 100000 in
set_option maxHeartbeats 1000000 in
theorem number_any (z : ByteArray) (w : World) : Calls Try.prog 115 #[.string z] w fun e w' => ∃ c b, e = .returned (.tuple #[.int .i64 c, .bool b]) ∧ numB (bsOf z) = (if b = true then some c else none) ∧ Below w.heap.size w w' := by
  have HNUM := hid (num_idx z)
  obtain ⟨q, hq⟩ : ∃ q, q = idxS z 0 nmL := ⟨_, rfl⟩
  rw [← hq] at HNUM
  have HQ := hid hq
  clear hq
  go_enter Try.func115, Try.ntmps115
  go_wp2_with fail
  refine (names_any w).mono ?_
  rintro e w1 ⟨rfl, hb⟩
  obtain ⟨X, hX⟩ : ∃ X, X = w1.alloc (.cells Z118 118) := ⟨_, rfl⟩
  obtain ⟨Y, hY⟩ : ∃ Y, Y = X.setRow w1.heap.size NMS := ⟨_, rfl⟩
  have HX := hid hX
  have HY := hid hY
  have HXB := hid (show X.heap[w1.heap.size]? = some (.cells Z118 118 (0, 0)) by rw [hX]; exact heap_alloc_new _ _)
  have HYB := hid (show Y.heap[w1.heap.size]? = some (.cells NMS 118 (0, 0)) by rw [hY]; exact setRow_heap X _ Z118 NMS 118 (0, 0) HXB.out)
  have HBY := hid (show Below w.heap.size w Y by
    have h1 : Below w.heap.size w X := by rw [hX]; exact hb.alloc hb.size _
    refine ⟨by rw [hY]; exact h1.os, by rw [hY]; exact h1.tape, by rw [hY]; exact h1.output, by rw [hY]; simp only [World.setRow, Array.size_modify]; exact h1.size, fun x hx => ?_⟩
    rw [← h1.block x hx, hY]
    have h2 := hb.size
    have : ¬ w1.heap.size = x := by omega
    simp [World.setRow, Array.getElem?_modify, this])
  have HCE := hid (show ∀ k s, nmL[k]? = some s → Y.cell? ⟨w1.heap.size, 0 + k, none⟩ = some (.string s) from fun k s hk => by
    rw [Nat.zero_add, cell_of_row _ _ _ _ _ _ HYB.out]
    unfold NMS
    simp [hk])
  clear hX hY hb
  go_wp2_with (first
    | (refine wpList_alloc_of rfl 118 rfl (.agg Z118) zero118 ?_; rw [show (Value.agg Z118).cells = Z118 from rfl, ← HX.out])
    | (refine wpList_store_rowTo rfl 118 (.tmp 4) (.tmp 6) rfl rfl w1.heap.size NMS rfl rfl 118 Z118 HXB.out (by rw [size118, NMS_size]) rfl NMS_one ?_; rw [← HY.out])
    | fail)
  refine (indexS_any w1.heap.size 0 36 36 nmL z Y rfl (by rw [nm_len]; decide) HCE.out).mono ?_
  rintro e w2 ⟨rfl, h2⟩
  rw [h2, ← HQ.out]
  clear h2 w2
  by_cases h0 : 0 ≤ q
  · have HM := hid (HNUM.out.trans (if_pos h0))
    go_wp2_with fail
    go_ret2
    refine ⟨_, _, rfl, ?_, HBY.out⟩
    rw [HM.out]; rfl
  · have HM := hid (HNUM.out.trans (if_neg h0))
    go_wp2_with fail
    go_ret2
    refine ⟨_, _, rfl, ?_, HBY.out⟩
    rw [HM.out, if_neg (by simp; omega)]
section
variable {w w' a : World} {r : Nat} {s : ByteArray} {kv : Value} {at' op bad e : Int} {row : Option Nat}
theorem Rd.other (h : Rd w r s kv at' op bad e) {g i : Nat} (hg : r ≠ g) (u : Value) : Rd (w.setCell ⟨g, i, none⟩ u) r s kv at' op bad e := (heap_setCell_other _ _ _ _ hg).trans h
theorem grown_new (h : a.grownBy w row) {g : Nat} (hg : a.heap.size ≤ g) (i : Nat) (u : Value) : a.grownBy (w.setCell ⟨g, i, none⟩ u) row :=
  h.andThen (grown_setCell (World.grownBy.refl w (some g)) i u) fun j e => by injection e with e; exact .inl (by omega)
theorem grown_alloc (h : a.grownBy w row) (o : Obj) : a.grownBy (w.alloc o) row := h.andThen (World.grownBy_alloc w o none) fun j e => by cases e
theorem Rd.alloc (h : Rd w r s kv at' op bad e) (o : Obj) : Rd (w.alloc o) r s kv at' op bad e := h.below ((Below.refl _ _).alloc (Nat.le_refl _) _)
/-- A node's three cells are laid in a block of the call's own. -/
def put3w (w : World) (g : Nat) (u0 u1 u2 : Value) : World := ((w.setCell ⟨g, 0, none⟩ u0).setCell ⟨g, 1, none⟩ u1).setCell ⟨g, 2, none⟩ u2
theorem Rd.put3 (h : Rd w r s kv at' op bad e) {g : Nat} (hg : r ≠ g) (u0 u1 u2 : Value) : Rd (put3w w g u0 u1 u2) r s kv at' op bad e := ((h.other hg u0).other hg u1).other hg u2
theorem grown_put3 (h : a.grownBy w row) {g : Nat} (hg : a.heap.size ≤ g) (u0 u1 u2 : Value) : a.grownBy (put3w w g u0 u1 u2) row := grown_new (grown_new (grown_new h hg 0 u0) hg 1 u1) hg 2 u2
end
def nodeC : Array Value := #[.int .i64 0, .int .i64 0, .slice none 0 0]
def nodeV : Value := .agg nodeC
theorem zero45 : (Try.prog.info? 45).map (·.zero) = some (some (.agg nodeC)) := by kernel_rfl
theorem size45 : (Try.prog.info? 45).map (·.size) = some 3 := by kernel_rfl
/-- A call's end whose result is a node's cells. -/
theorem ret_node {fn : Func} {p : Tmp} (hres : fn.results = #[.cell p 45]) {Q : Ending → World → Prop} {a : Act} {Y : World} {g : Nat} {u0 u1 u2 c0 c1 c2 : Value} (hp : a.tmps.getD p undef = .pointer (some ⟨g, 0, none⟩)) (hY : Y.heap[g]? = some (.cells #[c0, c1, c2] 45 (0, 0))) (hd : a.defers = [])
    (hq : Q (.returned (.agg #[u0, u1, u2])) (put3w Y g u0 u1 u2)) : bodyPost Try.prog fn Q Exit.ret a (put3w Y g u0 u1 u2) := by
  refine bodyPost_ret (v := .agg #[u0, u1, u2]) (results_cell_row hres _ _ g 45 #[u0, u1, u2] (0, 0) _ hp (Go.Proofs.Ytjcdcmeclnihbaa.put3 u0 u1 u2 hY) Try.underlying45 rfl (by rw [size45]; rfl)) hd hq
set_option maxRecDepth 100000 in
set_option maxHeartbeats 1000000 in
theorem fail_any {w : World} {r : Nat} {s : ByteArray} {kv : Value} {at' op bad : Int} (p e' : Int) (h : Rd w r s kv at' op bad 0) :
    Calls Try.prog 54 #[.pointer (some ⟨r, 0, none⟩), .int .i64 p, .int .i64 e'] w fun x w' => x = .returned nodeV ∧ Rd w' r s kv at' op p e' ∧ w.grownBy w' (some r) := by
  obtain ⟨X, hX⟩ : ∃ X, X = w.alloc (.cells nodeC 45) := ⟨_, rfl⟩
  have HX := hid hX
  have HR := hid (show Rd X r s kv at' op bad 0 by rw [hX]; exact h.alloc _)
  have HG := hid (show w.grownBy X (some r) by rw [hX]; exact World.grownBy_alloc _ _ _)
  have HXB := hid (show X.heap[w.heap.size]? = some (.cells nodeC 45 (0, 0)) by rw [hX]; exact heap_alloc_new _ _)
  have hrg : r ≠ w.heap.size := by have := h.lt; omega
  have HNE := hid hrg
  clear hX h
  go_enter Try.func54, Try.ntmps54
  obtain ⟨-, -, -, -, c4, c5⟩ := HR.out.cells
  have hf4 := HR.out.frozen 4
  have hf5 := HR.out.frozen 5
  obtain ⟨Y, hY⟩ : ∃ Y, Y = (X.setCell ⟨r, 4, none⟩ (.int .i64 p)).setCell ⟨r, 5, none⟩ (.int .i64 e') := ⟨_, rfl⟩
  have HRY := hid (show Rd Y r s kv at' op p e' by rw [hY]; exact (HR.out.setBad p).setE e')
  have HGY := hid (show w.grownBy Y (some r) by rw [hY]; exact grown_setCell (grown_setCell HG.out 4 _) 5 _)
  have HYB := hid (show Y.heap[w.heap.size]? = some (.cells nodeC 45 (0, 0)) by rw [hY, heap_setCell_other _ _ _ _ hrg.symm, heap_setCell_other _ _ _ _ hrg.symm]; exact HXB.out)
  have HY := hid hY
  clear hY
  obtain ⟨g, hg⟩ : ∃ g, g = w.heap.size := ⟨_, rfl⟩
  obtain ⟨y0, y1, y2, yf⟩ := slot3 (show X.heap[g]? = some (.cells #[.int .i64 0, .int .i64 0, .slice none 0 0] 45 (0, 0)) by rw [hg]; exact HXB.out)
  have yf0 := yf 0
  have yf1 := yf 1
  have yf2 := yf 2
  have HGE := hid hg
  clear hg yf
  go_wp2_with (first
    | (refine wpList_alloc_of rfl 45 rfl (.agg nodeC) zero45 ?_; rw [show (Value.agg nodeC).cells = nodeC from rfl, ← HX.out, ← HGE.out])
    | fail)
  rw [← HY.out]
  have hyb := HYB.out
  have hne := HNE.out
  rw [← HGE.out] at hyb hne
  exact ret_node (p := 6) rfl rfl hyb rfl ⟨rfl, HRY.out.put3 hne _ _ _, grown_put3 HGY.out (Nat.le_of_eq HGE.out.symm) _ _ _⟩
end Go.Proofs.Ytjcdcmeclnihbaa
