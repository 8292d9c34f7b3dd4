/- Lists of expressions: whether they are more than is asked of, whether all are right. Conditions: none but trees in memory. -/
import Derived.Test.YthdhbkngbmjjkaaRr
import Derived.Test.YthdhbkngbmjjkaaCn
namespace Go.Proofs.Ythdhbkngbmjjkaa
open Go.RowKit
set_option linter.unusedSimpArgs false
def cntE (d : Nat) (l : List (Tr d)) : Nat := cntL (fun t => cnt d t) l
set_option maxRecDepth 100000 in
set_option maxHeartbeats 4000000 in
theorem over_any (S : Nat → Prop) (d : Nat) (A : Option Addr) (c : Nat) (l : List (Tr d)) (w : World) (h : Row3 (IsTr w S d) w S A l) (hle : l.length ≤ 9223372036854775807) :
    Calls Try.prog 27 #[.slice A l.length c, .int .i64 80] w fun e w' => e = .returned (.bool (decide (80 < cntE d l))) ∧ Below w.heap.size w w' := by
  have H := hid h
  clear h
  go_enter Try.func27, Try.ntmps27
  go_wp2_with fail
  go_loopw [5, 6] (fun s5 s6 wr => ∃ (k : Nat) (z : Int), k ≤ l.length ∧ s6 = .int .i64 k ∧ s5 = .int .i64 z ∧ 0 ≤ z ∧ z ≤ 161 ∧ Hid (z ≤ 80 → z + cntE d (l.drop k) = cntE d l) ∧ Hid (80 < z → 80 < cntE d l) ∧ Hid (Below w.heap.size w wr)) (fun _ s6 _ => l.length - (intOf s6).toNat)
  case atStart => exact ⟨0, 0, by omega, rfl, rfl, by omega, by omega, hid (fun _ => by rw [List.drop_zero]; omega), hid (fun h => by omega), hid (Below.refl _ _)⟩
  case round =>
    obtain ⟨k, z, hk, rfl, rfl, hz0, hz1, HA, HG, HB⟩ := hrel
    by_cases hlt : k < l.length
    · by_cases hz : z ≤ 80
      · obtain ⟨b, o, v0, v1, v2, rfl, -, hbs, c0, c1, c2, ht⟩ := (H.out.below HB.out).at (List.getElem?_eq_getElem hlt)
        obtain ⟨k0, k1, A2, n2, cp2, rfl, rfl, rfl⟩ := ht.cells
        have HTr := hid ht
        clear ht
        have hsz := sizeT_bd d 80 l[k] (by omega)
        obtain ⟨y, hy⟩ : ∃ y, y = sizeT d 80 l[k] := ⟨_, rfl⟩
        rw [← hy] at hsz
        have HY := hid hy
        have HD := hid (show (cntE d (l.drop k) : Int) = cnt d l[k] + cntE d (l.drop (k + 1)) by unfold cntE; rw [cntL_drop hlt]; omega)
        have HC := hid (sizeT_cnt d 80 l[k] (by omega))
        have hY : z + y ≤ 80 → z + y + cntE d (l.drop (k + 1)) = cntE d l := fun hq => by
          have h1 := HA.out hz
          have h2 := HD.out
          have h3 := HC.out
          rw [← HY.out] at h3
          omega
        have hY2 : 80 < z + y → 80 < cntE d l := fun hq => by
          have h1 := HA.out hz
          have h2 := HD.out
          have h3 := HC.out
          rw [← HY.out] at h3
          omega
        have HYa := hid hY
        have HYb := hid hY2
        clear hy hY hY2
        go_wp2_with fail
        refine (size_any S d _ _ 80 _ HTr.out (by omega) (by omega)).mono ?_
        rintro e w2 ⟨rfl, hb2⟩
        rw [← HY.out]
        have HB2 := hid (HB.out.trans (hb2.mono HB.out.size))
        clear hb2
        go_wp2_with fail
        go_roundw
        case rel => exact ⟨k + 1, z + y, by omega, by go_num, by go_num, by omega, by omega, HYa, HYb, HB2⟩
        case measure => simp [intOf]; omega
      · have HE := hid (show decide (80 < cntE d l) = true from decide_eq_true (HG.out (by omega)))
        go_wp2_with fail
        go_ret
        exact ⟨ret_bool HE.out.symm, HB.out⟩
    · obtain rfl : k = l.length := by omega
      have HE := hid (show decide (80 < cntE d l) = decide (80 < z) by
        by_cases hz : z ≤ 80
        · have h1 := HA.out hz
          rw [List.drop_eq_nil_of_le (Nat.le_refl _)] at h1
          have h2 : (cntE d ([] : List (Tr d))) = 0 := rfl
          exact decide_eq_decide.2 (by omega)
        · rw [decide_eq_true (HG.out (by omega)), decide_eq_true (by omega : 80 < z)])
      clear hlt
      go_wp2_with fail
      go_ret
      exact ⟨ret_bool HE.out.symm, HB.out⟩
set_option maxRecDepth 100000 in
theorem great_any (S : Nat → Prop) (d : Nat) (A : Option Addr) (c : Nat) (l : List (Tr d)) (w : World) (h : Row3 (IsTr w S d) w S A l) (hle : l.length ≤ 9223372036854775807) :
    Calls Try.prog 13 #[.slice A l.length c] w fun e w' => e = .returned (.bool (decide (80 < cntE d l))) ∧ Below w.heap.size w w' := by
  have H := hid h
  clear h
  go_enter Try.func13, Try.ntmps13
  go_wp2_with fail
  refine (over_any S d A c l w H.out hle).mono ?_
  rintro e w1 ⟨rfl, hb1⟩
  have HB1 := hid hb1
  clear hb1
  go_wp2_with fail
  go_ret
  exact ⟨rfl, HB1.out⟩
def rightE (d : Nat) (l : List (Tr d)) : Bool := l.all fun t => fitsT d false t
set_option maxRecDepth 100000 in
set_option maxHeartbeats 4000000 in
theorem rights_any (S : Nat → Prop) (d : Nat) (A : Option Addr) (c : Nat) (l : List (Tr d)) (w : World) (h : Row3 (IsTr w S d) w S A l) (hle : l.length ≤ 9223372036854775807) (hc : cntE d l ≤ 80) :
    Calls Try.prog 17 #[.slice A l.length c] w fun e w' => e = .returned (.bool (rightE d l && decide (l.length ≤ 40))) ∧ Below w.heap.size w w' := by
  have H := hid h
  have HC := hid hc
  clear h hc
  go_enter Try.func17, Try.ntmps17
  go_wp2_with fail
  go_loopw [3] (fun s3 wr => ∃ (k : Nat), k ≤ l.length ∧ s3 = .int .i64 k ∧ Hid ((l.drop k).all (fun t => fitsT d false t) = rightE d l) ∧ Hid (Below w.heap.size w wr)) (fun s3 _ => l.length - (intOf s3).toNat)
  case atStart => exact ⟨0, by omega, rfl, hid (by rw [List.drop_zero]; rfl), hid (Below.refl _ _)⟩
  case round =>
    obtain ⟨k, hk, rfl, HA, HB⟩ := hrel
    by_cases hlt : k < l.length
    · obtain ⟨b, o, v0, v1, v2, rfl, -, hbs, c0, c1, c2, ht⟩ := (H.out.below HB.out).at (List.getElem?_eq_getElem hlt)
      obtain ⟨k0, k1, A2, n2, cp2, rfl, rfl, rfl⟩ := ht.cells
      have HTr := hid ht
      clear ht
      have HCk := hid (show cnt d l[k] ≤ 2000 by have h1 := cntL_mem (f := fun k => cnt d k) (List.getElem_mem hlt); have h2 := HC.out; unfold cntE at h2; omega)
      have HD := hid (List.drop_eq_getElem_cons hlt)
      cases hf : fitsT d false l[k] with
      | false =>
        have HF := hid hf
        have HE := hid (show (rightE d l && decide (l.length ≤ 40)) = false by rw [← HA.out, HD.out, List.all_cons, hf]; rfl)
        clear hf
        go_wp2_with fail
        refine (rright_any S d _ _ false _ HTr.out HCk.out).mono ?_
        rintro e w2 ⟨rfl, hb2⟩
        rw [HF.out]
        have HB2 := hid (HB.out.trans (hb2.mono HB.out.size))
        clear hb2
        go_wp2_with fail
        go_ret
        exact ⟨ret_bool HE.out.symm, HB2.out⟩
      | true =>
        have HF := hid hf
        have HN := hid (show (l.drop (k + 1)).all (fun t => fitsT d false t) = rightE d l by rw [← HA.out, HD.out, List.all_cons, hf, Bool.true_and])
        clear hf
        go_wp2_with fail
        refine (rright_any S d _ _ false _ HTr.out HCk.out).mono ?_
        rintro e w2 ⟨rfl, hb2⟩
        rw [HF.out]
        have HB2 := hid (HB.out.trans (hb2.mono HB.out.size))
        clear hb2
        go_wp2_with fail
        go_roundw
        case rel => exact ⟨k + 1, by omega, by go_num, HN, HB2⟩
        case measure => simp [intOf]; omega
    · have HE := hid (show rightE d l = true by rw [← HA.out, List.drop_eq_nil_of_le (by omega)]; rfl)
      go_wp2_with fail
      go_ret
      exact ⟨ret_bool (by rw [HE.out, Bool.true_and]; exact decide_eq_decide.2 (by omega)), HB.out⟩
end Go.Proofs.Ythdhbkngbmjjkaa
