/- Slices of bools; places united with places: the program's union. Conditions: none. -/
import Derived.Test.YtjcdcmeclnihbaaOw
import Derived.Test.YtjcdcmeclnihbaaBaseC
namespace Go.Proofs.Ytjcdcmeclnihbaa
open Go.RowKit
def nthB (l : List Bool) (k : Nat) : Bool := l[k]?.getD false
theorem some_nthB {l : List Bool} {k : Nat} (h : k < l.length) : l[k]? = some (nthB l k) := by simp [nthB, List.getElem?_eq_getElem h]
theorem nthB_ext {a b : List Bool} (hl : a.length = b.length) (h : ∀ k, k < a.length → nthB a k = nthB b k) : a = b := by
  apply List.ext_getElem?
  intro k
  by_cases hk : k < a.length
  · rw [some_nthB hk, some_nthB (by omega), h k hk]
  · rw [List.getElem?_eq_none (by omega), List.getElem?_eq_none (by omega)]
theorem nthB_set {l : List Bool} {i j : Nat} {z : Bool} (h : i < l.length) : nthB (l.set i z) j = if i = j then z else nthB l j := by
  simp only [nthB, List.getElem?_set]
  by_cases e : i = j
  · subst e; simp [h]
  · simp [e]
def IsBools (w : World) (S : Nat → Prop) (v : Value) (bs : List Bool) : Prop :=
  ∃ A c, v = .slice A bs.length c ∧ bs.length ≤ c ∧ c ≤ maxLen ∧ Arr w S A (bs.map .bool)
def BoolBlk (w : World) (g : Nat) (l : List Bool) : Prop := w.heap[g]? = some (.cells ((l.map Value.bool).toArray) 4 (0, 0))
section
variable {w w' : World} {S S' : Nat → Prop} {v : Value} {l bs : List Bool} {g : Nat}
theorem IsBools.keep (h : IsBools w S v bs) (hk : ∀ b, S b → b < w.heap.size → w'.heap[b]? = w.heap[b]?) : IsBools w' S v bs := by
  obtain ⟨A, c, e, h1, h2, h3⟩ := h
  exact ⟨A, c, e, h1, h2, h3.keep hk⟩
theorem IsBools.mono (h : IsBools w S v bs) (hS : ∀ b, S b → b < w.heap.size → S' b) : IsBools w S' v bs := by
  obtain ⟨A, c, e, h1, h2, h3⟩ := h
  exact ⟨A, c, e, h1, h2, h3.mono hS⟩
theorem IsBools.below (h : IsBools w S v bs) (hb : Below w.heap.size w w') : IsBools w' S v bs := h.keep fun b _ hlt => hb.block b hlt
theorem IsBools.open (h : IsBools w S v bs) : ∃ A c, v = .slice A bs.length c ∧ bs.length ≤ 9223372036854775807 ∧ Arr w S A (bs.map .bool) := by
  obtain ⟨A, c, e, h1, h2, h3⟩ := h
  exact ⟨A, c, e, by unfold maxLen at h2; omega, h3⟩
theorem Arr.bool {A : Option Addr} (h : Arr w S A (bs.map .bool)) {j : Nat} (hj : j < bs.length) : ∃ b o, A = some ⟨b, o, none⟩ ∧ S b ∧ b < w.heap.size ∧ w.cell? ⟨b, o + j, none⟩ = some (.bool (nthB bs j)) :=
  h.at (k := j) (v := .bool (nthB bs j)) (by simp [some_nthB hj])
theorem BoolBlk.lt (h : BoolBlk w g l) : g < w.heap.size := (Array.getElem?_eq_some_iff.1 h).1
theorem BoolBlk.cell (h : BoolBlk w g l) {j : Nat} (hj : j < l.length) : w.cell? ⟨g, j, none⟩ = some (.bool (nthB l j)) := by
  rw [cell_of_row _ _ _ _ _ _ h, ← Array.getElem?_toList]
  simp [some_nthB hj]
theorem BoolBlk.frozen (h : BoolBlk w g l) (j : Nat) : w.frozen? ⟨g, j, none⟩ = false := frozen_of_row _ _ _ _ _ h
theorem BoolBlk.set (h : BoolBlk w g l) (j : Nat) (z : Bool) : BoolBlk (w.setCell ⟨g, j, none⟩ (.bool z)) g (l.set j z) := by
  have h1 := heap_setCell_same w g j _ 4 (.bool z) h
  unfold BoolBlk
  rw [h1]
  simp [List.map_set]
theorem BoolBlk.keep (h : BoolBlk w g l) (hk : w'.heap[g]? = w.heap[g]?) : BoolBlk w' g l := hk.trans h
theorem BoolBlk.below (h : BoolBlk w g l) (hb : Below w.heap.size w w') : BoolBlk w' g l := h.keep (hb.block g h.lt)
theorem BoolBlk.bools (h : BoolBlk w g l) (hl : l.length ≤ 1000000) : IsBools w (fun b => b = g) (.slice (some ⟨g, 0, none⟩) l.length l.length) l :=
  ⟨_, _, rfl, Nat.le_refl _, by unfold maxLen; omega, fun _ => ⟨g, 0, rfl, rfl, fun k u hu => by
    rw [Nat.zero_add, cell_of_row _ _ _ _ _ _ h, ← Array.getElem?_toList]; exact hu⟩⟩
end
theorem info4 : (Try.prog.info? 4).map (fun i => (i.zero, i.size, i.bytes)) = some (some (.bool false), 1, 1) := by kernel_rfl
theorem run_make_bools' {P : Program} (t e : TypeId) (kl kc : IntKind) (ht : P.underlying t = some (.slice e)) (hi : (P.info? e).map (fun i => (i.zero, i.size, i.bytes)) = some (some (.bool false), 1, 1)) (n : Nat) (hn : n ≤ 1000000) (w : World) :
    (Instr.makeSlice t (.int kl (n : Int)) (.int kc (n : Int))).run P w = .ok (.slice (some ⟨w.heap.size, 0, none⟩) n n) (w.alloc (.cells (((List.replicate n false).map Value.bool).toArray) e)) := by
  obtain ⟨i, hi0, hz, hs, hb⟩ := info_parts hi
  have hr := run_make (P := P) w t e i (.bool false) ht hi0 hz kl kc n n (by omega) (by omega) (by rw [hb]; omega) (by omega)
  simp only [Int.toNat_natCast, hs, Nat.mul_one] at hr
  rw [hr]
  congr 2
  have h2 : (madeCells (Value.bool false).cells n) = (((List.replicate n false).map Value.bool).toArray) := by
    apply Array.ext'
    show (madeCells #[Value.bool false] n).toList = _
    rw [toList_madeCells_one]; simp
  rw [h2]
theorem rep_bools (n : Nat) : ((List.replicate n false).map Value.bool).toArray = Array.replicate n (Value.bool false) := by simp
theorem run_make_bools (kl kc : IntKind) (n : Nat) (hn : n ≤ 1000000) (w : World) : (Instr.makeSlice 28 (.int kl (n : Int)) (.int kc (n : Int))).run Try.prog w = .ok (.slice (some ⟨w.heap.size, 0, none⟩) n n) (w.alloc (.cells (Array.replicate n (Value.bool false)) 4)) := by
  rw [← rep_bools]; exact run_make_bools' 28 4 kl kc Try.underlying28 info4 n hn w
/-- Places of either list; whether the second one has places that the first one hasn't. -/
def uni (a b : List Bool) : List Bool := List.zipWith (fun x y => x || y) a b
def moreFrom (a b : List Bool) (k : Nat) : Bool := (List.range k).any fun i => nthB b i && !nthB a i
def moreB (a b : List Bool) : Bool := moreFrom a b b.length
theorem moreFrom_succ (a b : List Bool) (k : Nat) : moreFrom a b (k + 1) = (moreFrom a b k || (nthB b k && !nthB a k)) := by
  simp [moreFrom, List.range_succ]
/-- What the first list has become behind so many places. -/
def uniTo (a b : List Bool) (k : Nat) : List Bool := uni (a.take k) (b.take k) ++ a.drop k
theorem uni_len {a b : List Bool} (h : b.length = a.length) : (uni a b).length = a.length := by simp [uni, h]
theorem nthB_uni {a b : List Bool} {j : Nat} (h : b.length = a.length) (hj : j < a.length) : nthB (uni a b) j = (nthB a j || nthB b j) := by
  unfold nthB uni
  rw [List.getElem?_zipWith, List.getElem?_eq_getElem hj, List.getElem?_eq_getElem (by omega)]
  rfl
theorem uniTo_len {a b : List Bool} {k : Nat} (h : b.length = a.length) : (uniTo a b k).length = a.length := by
  simp [uniTo, uni, h]; omega
theorem nthB_uniTo {a b : List Bool} {k j : Nat} (h : b.length = a.length) (hk : k ≤ a.length) (hj : j < a.length) : nthB (uniTo a b k) j = if j < k then (nthB a j || nthB b j) else nthB a j := by
  have hl : (uni (a.take k) (b.take k)).length = k := by simp [uni, h]; omega
  unfold uniTo nthB
  by_cases hjk : j < k
  · rw [List.getElem?_append_left (by omega), if_pos hjk]
    unfold uni
    rw [List.getElem?_zipWith, List.getElem?_take, List.getElem?_take, if_pos hjk, if_pos hjk, List.getElem?_eq_getElem hj, List.getElem?_eq_getElem (by omega)]
    rfl
  · rw [List.getElem?_append_right (by omega), if_neg hjk, hl, List.getElem?_drop, show k + (j - k) = j by omega]
theorem uniTo_zero (a b : List Bool) : uniTo a b 0 = a := by simp [uniTo, uni]
theorem uniTo_all {a b : List Bool} (h : b.length = a.length) : uniTo a b b.length = uni a b := by
  simp [uniTo, h]
  rw [← h, List.take_length]
theorem uniTo_skip {a b : List Bool} {k : Nat} (h : b.length = a.length) (hk : k < a.length) (hs : nthB b k = false ∨ nthB a k = true) : uniTo a b (k + 1) = uniTo a b k := by
  refine nthB_ext (by rw [uniTo_len h, uniTo_len h]) fun j hj => ?_
  rw [uniTo_len h] at hj
  rw [nthB_uniTo h (by omega) hj, nthB_uniTo h (by omega) hj]
  by_cases e : j = k
  · subst e
    rw [if_pos (by omega), if_neg (by omega)]
    rcases hs with hs | hs <;> simp [hs]
  · by_cases hjk : j < k
    · rw [if_pos (by omega), if_pos hjk]
    · rw [if_neg (by omega), if_neg hjk]
theorem uniTo_put {a b : List Bool} {k : Nat} (h : b.length = a.length) (hk : k < a.length) (hb : nthB b k = true) : uniTo a b (k + 1) = (uniTo a b k).set k true := by
  refine nthB_ext (by rw [List.length_set, uniTo_len h, uniTo_len h]) fun j hj => ?_
  rw [uniTo_len h] at hj
  rw [nthB_set (by rw [uniTo_len h]; exact hk), nthB_uniTo h (by omega) hj, nthB_uniTo h (by omega) hj]
  by_cases e : j = k
  · subst e
    rw [if_pos (by omega), if_pos rfl, hb]; simp
  · rw [if_neg (show ¬ k = j from fun e' => e e'.symm)]
    by_cases hjk : j < k
    · rw [if_pos (by omega), if_pos hjk]
    · rw [if_neg (by omega), if_neg hjk]
set_option maxRecDepth 100000 in
set_option maxHeartbeats 2000000 in
theorem union_any (S : Nat → Prop) (g : Nat) (a b : List Bool) (bv : Value) (w : World) (hg : BoolBlk w g a) (h : IsBools w S bv b) (hl : b.length = a.length) (hS : ∀ k, S k → k ≠ g) (hn : a.length ≤ 1000000) :
    Calls Try.prog 73 #[.slice (some ⟨g, 0, none⟩) a.length a.length, bv] w fun e w' => e = .returned (.bool (moreB a b)) ∧ BoolBlk w' g (uni a b) ∧ w.grownBy w' (some g) ∧ w'.heap.size = w.heap.size := by
  obtain ⟨A, c, rfl, hle, hA⟩ := h.open
  have HA := hid hA
  have HG := hid hg
  have HS := hid hS
  have HL := hid hl
  clear hA h hg hS
  rw [hl]
  clear hl
  obtain ⟨n, hnn⟩ : ∃ n, n = a.length := ⟨_, rfl⟩
  have HN := hid hnn
  rw [← hnn] at hn ⊢
  clear hnn
  have HBl := hid (show b.length = n by rw [HL.out, ← HN.out])
  go_enter Try.func73, Try.ntmps73
  go_wp2_with fail
  go_loopw [5, 6, 7, 10] (fun s5 _ _ s10 wr => ∃ k : Nat, k ≤ n ∧ s10 = .int .i64 k ∧ s5 = .bool (moreFrom a b k) ∧ Hid (BoolBlk wr g (uniTo a b k)) ∧ Hid (w.grownBy wr (some g)) ∧ Hid (wr.heap.size = w.heap.size)) (fun _ _ _ s10 _ => n - (intOf s10).toNat)
  case atStart => exact ⟨0, by omega, rfl, rfl, hid (by rw [uniTo_zero]; exact HG.out), hid (World.grownBy.refl _ _), hid rfl⟩
  case round =>
    obtain ⟨k, hk, rfl, rfl, HB, HW, HZ⟩ := hrel
    have hAr := HA.out.keep (w' := wr) (fun b hb hlt => HW.out.block b hlt (by intro e; injection e with e; exact HS.out b hb e))
    by_cases hlt : k < n
    · obtain ⟨b0, o, rfl, -, hbs, hc⟩ := hAr.bool (j := k) (by rw [HBl.out]; exact hlt)
      have hku : k < (uniTo a b k).length := by rw [uniTo_len HL.out, ← HN.out]; exact hlt
      have hca := HB.out.cell hku
      have hfa := HB.out.frozen k
      have hua : nthB (uniTo a b k) k = nthB a k := by rw [nthB_uniTo HL.out (by rw [← HN.out]; omega) (by rw [← HN.out]; exact hlt), if_neg (by omega)]
      rw [hua] at hca
      have hm := moreFrom_succ a b k
      clear hua hku hAr
      cases hb : nthB b k with
      | false =>
        rw [hb] at hc hm
        have HM := hid (show moreFrom a b k = moreFrom a b (k + 1) by rw [hm]; simp)
        have HT := hid (show BoolBlk wr g (uniTo a b (k + 1)) by rw [uniTo_skip HL.out (by rw [← HN.out]; exact hlt) (.inl hb)]; exact HB.out)
        clear hb hm
        go_wp2_with fail
        go_roundw
        case rel => exact ⟨k + 1, by omega, by go_num, by rw [HM.out], HT, HW, HZ⟩
        case measure => simp [intOf]; omega
      | true =>
        rw [hb] at hc hm
        cases ha : nthB a k with
        | true =>
          rw [ha] at hca hm
          have HM := hid (show moreFrom a b k = moreFrom a b (k + 1) by rw [hm]; simp)
          have HT := hid (show BoolBlk wr g (uniTo a b (k + 1)) by rw [uniTo_skip HL.out (by rw [← HN.out]; exact hlt) (.inr ha)]; exact HB.out)
          clear hb hm ha
          go_wp2_with fail
          go_roundw
          case rel => exact ⟨k + 1, by omega, by go_num, by rw [HM.out], HT, HW, HZ⟩
          case measure => simp [intOf]; omega
        | false =>
          rw [ha] at hca hm
          have HM := hid (show true = moreFrom a b (k + 1) by rw [hm]; simp)
          have HT := hid (show BoolBlk (wr.setCell ⟨g, k, none⟩ (.bool true)) g (uniTo a b (k + 1)) by rw [uniTo_put HL.out (by rw [← HN.out]; exact hlt) hb]; exact HB.out.set k true)
          clear hb hm ha
          go_wp2_with fail
          go_roundw
          case rel => exact ⟨k + 1, by omega, by go_num, by rw [HM.out], HT, hid (grown_setCell HW.out k _), hid (by rw [← HZ.out]; simp)⟩
          case measure => simp [intOf]; omega
    · obtain rfl : k = n := by omega
      have HE := hid (show moreFrom a b k = moreB a b by unfold moreB; rw [HBl.out])
      have HT := hid (show BoolBlk wr g (uni a b) by rw [← uniTo_all HL.out, HBl.out]; exact HB.out)
      go_wp2_with fail
      go_ret
      exact ⟨ret_bool HE.out, HT.out, HW.out, HZ.out⟩
end Go.Proofs.Ytjcdcmeclnihbaa
