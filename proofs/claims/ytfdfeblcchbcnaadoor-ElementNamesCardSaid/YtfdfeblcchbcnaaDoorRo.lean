/- What a name is by the document's lists: what the reference's List and Of return; Has; the statement ElementOf walked. Condition: the table of blanks as it is laid. -/
import Derived.Test.YtfdfeblcchbcnaaDoorEl
namespace Go.Proofs.YtfdfeblcchbcnaaDoor
open Go.RowKit

def sumOf : Nat → List UInt8 → Nat
  | 0, _ => 0
  | i + 1, s => sumOf i s + 2 ^ i * (nmsOf (2 ^ i)).count s
theorem sum_all : allNames.all (fun s => sumOf 7 s == valOf s) = true := by decide +kernel
theorem count_none {l : List (List UInt8)} {s : List UInt8} (h : s ∉ l) : l.count s = 0 := List.count_eq_zero.2 h
theorem sum_val (s : List UInt8) : sumOf 7 s = valOf s := by
  by_cases h : s ∈ allNames
  · exact beq_iff_eq.1 (List.all_eq_true.1 sum_all s h)
  · rw [valOf_none h]
    unfold allNames at h
    simp only [List.mem_append, not_or] at h
    obtain ⟨⟨⟨⟨⟨⟨h1, h2⟩, h3⟩, h4⟩, h5⟩, h6⟩, h7⟩ := h
    show 0 + 2 ^ 0 * nms1.count s + 2 ^ 1 * nms2.count s + 2 ^ 2 * nms4.count s + 2 ^ 3 * nms8.count s + 2 ^ 4 * nms16.count s + 2 ^ 5 * nms32.count s + 2 ^ 6 * nms64.count s = 0
    rw [count_none h1, count_none h2, count_none h3, count_none h4, count_none h5, count_none h6, count_none h7]
theorem pow_bit {i : Nat} (h : i < 7) : isBit (2 ^ i) = true ∧ 1 ≤ 2 ^ i ∧ 2 ^ i ≤ 64 ∧ 2 ^ (i + 1) = 2 * 2 ^ i := by
  match i, h with
  | 0, _ => decide
  | 1, _ => decide
  | 2, _ => decide
  | 3, _ => decide
  | 4, _ => decide
  | 5, _ => decide
  | 6, _ => decide
theorem count_le (b : Nat) (s : List UInt8) (j : Nat) : ((nmsOf b).take j).count s ≤ 100 := by
  have h1 : ((nmsOf b).take j).count s ≤ ((nmsOf b).take j).length := List.count_le_length
  have h2 := (lenOf b).2
  have h3 : ((nmsOf b).take j).length ≤ (nmsOf b).length := by rw [List.length_take]; omega
  omega
theorem sumOf_le (s : List UInt8) : ∀ i, i ≤ 7 → sumOf i s ≤ 100 * 2 ^ i := by
  intro i
  induction i with
  | zero => intro _; simp [sumOf]
  | succ i ih =>
    intro hi
    obtain ⟨_, h1, h2, h3⟩ := pow_bit (show i < 7 by omega)
    have h4 := ih (by omega)
    have h5 := count_le (2 ^ i) s (nmsOf (2 ^ i)).length
    rw [List.take_length] at h5
    have h6 : 2 ^ i * (nmsOf (2 ^ i)).count s ≤ 2 ^ i * 100 := Nat.mul_le_mul_left _ h5
    simp only [sumOf]
    omega

set_option maxRecDepth 100000 in
set_option maxHeartbeats 2000000 in
theorem list_any (b : Nat) (hb : isBit b = true) (w : World) :
    Calls Tryd.prog 22 #[.int .i64 b] w fun e w' => e = .returned (.slice (some ⟨w.heap.size, 0, none⟩) (nmsOf b).length (nmsOf b).length) ∧ w.alloc (.cells ((nmsOf b).map fun l => Value.string (strOf l)).toArray 9) = w' := by
  rcases isBit_cases hb with rfl | rfl | rfl | rfl | rfl | rfl | rfl
  all_goals
    clear hb
    go_enter Tryd.func22, Tryd.ntmps22
    go_wp2
    go_ret
    exact ⟨rfl, rfl⟩

set_option maxHeartbeats 400000 in
theorem has_val (s : ByteArray) (N : Nat) (bit : Int) (h : valOf s.data.toList = N) (hs : s.size ≤ 100) (w : World) (ht : Tab w) :
    Calls Tryd.prog 13 #[.string s, .int .i64 bit] w fun e w' => e = .returned (.bool (bits .and .i64 (N : Int) bit != 0)) ∧ Below w.heap.size w w' := by
  have HT := hid ht
  have HN := hid h
  clear ht h
  go_enter Tryd.func13, Tryd.ntmps13
  go_wp2_with fail
  refine (of_val s N HN.out hs w HT.out).mono ?_
  rintro e w1 ⟨rfl, hb1⟩
  go_wp2_with fail
  go_ret
  exact ⟨rfl, hb1⟩

set_option maxRecDepth 100000 in
set_option maxHeartbeats 2000000 in
theorem refOf_val (s : ByteArray) (N : Nat) (h : valOf s.data.toList = N) (w : World) :
    Calls Tryd.prog 12 #[.string s] w fun e w' => e = .returned (.int .i64 N) ∧ Below w.heap.size w w' := by
  have HN := hid (show sumOf 7 s.data.toList = N by rw [sum_val]; exact h)
  clear h
  go_enter Tryd.func12, Tryd.ntmps12
  go_wp2_with fail
  go_loopw [3, 4] (fun s3 s4 wr => ∃ (i P A : Nat), i ≤ 7 ∧ s4 = .int .i64 P ∧ s3 = .int .i64 A ∧ Hid (P = 2 ^ i) ∧ Hid (A = sumOf i s.data.toList) ∧ Below w.heap.size w wr) (fun _ s4 _ => 200 - (intOf s4).toNat)
  case atStart => exact ⟨0, 1, 0, by omega, rfl, rfl, rfl, rfl, Below.refl _ _⟩
  case round =>
    obtain ⟨i, P, A, hi, rfl, rfl, HP, HA, hbw⟩ := hrel
    by_cases hlt : i < 7
    · obtain ⟨p1, p2, p3, p4⟩ := pow_bit hlt
      have hA := sumOf_le s.data.toList i hi
      rw [← HP.out] at p1 p2 p3 p4 hA
      rw [← HA.out] at hA
      have HBIT := hid p1
      have HP4 := hid p4
      have hA2 : A ≤ 6400 := by omega
      have hlen := (lenOf P).2
      clear p1 p4 hA
      go_wp2_with fail
      refine (list_any P HBIT.out _).mono ?_
      rintro e w2 ⟨rfl, hw2⟩
      have hblk : w2.heap[wr.heap.size]? = some (.cells ((nmsOf P).map fun l => Value.string (strOf l)).toArray 9 (0, 0)) := by rw [← hw2]; exact heap_alloc_new _ _
      have hB2 : Below w.heap.size w w2 := by rw [← hw2]; exact hbw.alloc hbw.size _
      clear hw2
      go_wp2_with fail
      obtain ⟨g, hg⟩ : ∃ g, g = wr.heap.size := ⟨_, rfl⟩
      rw [← hg] at hblk ⊢
      clear hg hbw
      go_loopw [3, 6] (fun s3 s6 wx => ∃ (j C : Nat), j ≤ (nmsOf P).length ∧ s6 = .int .i64 j ∧ s3 = .int .i64 C ∧ Hid (C = A + P * ((nmsOf P).take j).count s.data.toList) ∧ w2 = wx) (fun _ s6 _ => (nmsOf P).length - (intOf s6).toNat)
      case atStart => exact ⟨0, A, by omega, rfl, rfl, (by show A = _; simp), rfl⟩
      case round =>
        obtain ⟨j, C, hj, rfl, rfl, HC, rfl⟩ := hrel
        have hcnt := count_le P s.data.toList j
        have hmul : P * ((nmsOf P).take j).count s.data.toList ≤ 64 * 100 := Nat.mul_le_mul p3 hcnt
        have hC : C ≤ 20000 := by have := HC.out; omega
        clear hcnt hmul
        by_cases hltj : j < (nmsOf P).length
        · obtain ⟨l, hl⟩ : ∃ l, (nmsOf P)[j]? = some l := ⟨_, List.getElem?_eq_getElem hltj⟩
          have hcl : w2.cell? ⟨g, j, none⟩ = some (.string (strOf l)) := by rw [cell_of_row _ _ _ _ _ _ hblk]; simp [hl]
          have htk := hid (show ((nmsOf P).take (j + 1)).count s.data.toList = ((nmsOf P).take j).count s.data.toList + if l == s.data.toList then 1 else 0 by
            rw [List.take_add_one, hl]
            simp [List.count_append, List.count_cons])
          have HBK := hid hblk
          clear hl hblk
          cases hq : (l == s.data.toList) with
          | true =>
            have heb : (l == s.toList) = true := by rw [ByteArray.toList_eq]; exact hq
            have hnew := hid (show C + P = A + P * ((nmsOf P).take (j + 1)).count s.data.toList by
              rw [htk.out, hq, if_pos rfl, Nat.mul_add, Nat.mul_one, HC.out]; omega)
            clear hq
            go_wp2_with fail
            go_roundw
            case rel => exact ⟨j + 1, C + P, by omega, by go_num, by go_num, hnew, by first | rfl | trivial⟩
            case measure => simp [intOf]; omega
          | false =>
            have heb : (l == s.toList) = false := by rw [ByteArray.toList_eq]; exact hq
            have hnew := hid (show C = A + P * ((nmsOf P).take (j + 1)).count s.data.toList by
              rw [htk.out, hq, if_neg (by simp), Nat.add_zero, HC.out])
            clear hq
            go_wp2_with fail
            go_roundw
            case rel => exact ⟨j + 1, C, by omega, by go_num, rfl, hnew, by first | rfl | trivial⟩
            case measure => simp [intOf]; omega
        · obtain rfl : j = (nmsOf P).length := by omega
          have hnew := hid (show C = sumOf (i + 1) s.data.toList by
            have h := HC.out
            rw [List.take_length] at h
            simp only [sumOf]
            rw [← HP.out, ← HA.out]
            exact h)
          have hP2 := hid (show 2 * P = 2 ^ (i + 1) by rw [HP4.out])
          clear hblk
          go_wp2_with fail
          go_roundw
          case rel => exact ⟨i + 1, 2 * P, C, by omega, by go_num, rfl, hP2, hnew, hB2⟩
          case measure => simp [intOf]; omega
    · obtain rfl : i = 7 := by omega
      have hP : P = 128 := HP.out
      subst hP
      have hA := HA.out
      rw [HN.out] at hA
      subst hA
      go_wp2_with fail
      go_ret
      exact ⟨rfl, hbw⟩
end Go.Proofs.YtfdfeblcchbcnaaDoor
