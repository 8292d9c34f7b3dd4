/- Two lists, compared: the law's Ints.Is. No conditions. -/
import Derived.Test.YthdhbkngbmjjkaaNt
namespace Go.Proofs.Ythdhbkngbmjjkaa
open Go.RowKit
set_option linter.unusedSimpArgs false
theorem eq_first {a b : List Int} (hl : a.length = b.length) {k : Nat} (hk : k < a.length) : (decide (a.drop k = b.drop k)) = (decide (nth a k = nth b k) && decide (a.drop (k + 1) = b.drop (k + 1))) := by
  rw [drop_nth hk, drop_nth (by omega : k < b.length)]
  simp
set_option maxRecDepth 100000 in
set_option maxHeartbeats 4000000 in
theorem is_any (S1 S2 : Nat → Prop) (u v : Value) (a b : List Int) (w : World) (hu : IsNums .i64 w S1 u a) (hv : IsNums .i64 w S2 v b) :
    Calls Try.prog 21 #[u, v] w fun e w' => e = .returned (.bool (decide (a = b))) ∧ Below w.heap.size w w' := by
  have HU := hid hu
  have HV := hid hv
  obtain ⟨A1, c1, rfl⟩ := hu.form
  obtain ⟨A2, c2, rfl⟩ := hv.form
  have hl1 := hu.le
  have hl2 := hv.le
  clear hu hv
  by_cases hl : a.length = b.length
  · have HL := hid hl
    have hbl : ((a.length : Int) == (b.length : Int)) = true := by rw [hl]; exact beq_self_eq_true _
    rw [hl] at hl1 hbl ⊢
    go_enter Try.func21, Try.ntmps21
    go_wp2_with fail
    go_loopw [5] (fun s5 wr => ∃ (k : Nat), k ≤ b.length ∧ s5 = .int .i64 k ∧ Hid (decide (a = b) = decide (a.drop k = b.drop k)) ∧ Hid (Below w.heap.size w wr)) (fun s5 _ => b.length - (intOf s5).toNat)
    case atStart => exact ⟨0, by omega, rfl, hid rfl, hid (Below.refl _ _)⟩
    case round =>
      obtain ⟨k, hk, rfl, HE, HB⟩ := hrel
      by_cases hlt : k < b.length
      · obtain ⟨rb, ro, cm, hem, -, -, c0⟩ := (HU.out.below HB.out).at (j := k) (by rw [HL.out]; exact hlt)
        obtain ⟨rfl, -⟩ : A1 = some ⟨rb, ro, none⟩ ∧ True := by simpa using (show A1 = some ⟨rb, ro, none⟩ by injection hem)
        obtain ⟨sb, so, cn, hen, -, -, d0⟩ := (HV.out.below HB.out).at (j := k) hlt
        obtain ⟨rfl, -⟩ : A2 = some ⟨sb, so, none⟩ ∧ True := by simpa using (show A2 = some ⟨sb, so, none⟩ by injection hen)
        clear hem hen
        have HF := hid (eq_first HL.out (k := k) (by rw [HL.out]; exact hlt))
        obtain ⟨x, hx⟩ : ∃ x, x = nth a k := ⟨_, rfl⟩
        obtain ⟨y, hy⟩ : ∃ y, y = nth b k := ⟨_, rfl⟩
        rw [← hx] at c0 HF
        rw [← hy] at d0 HF
        clear hx hy
        by_cases hxy : x = y
        · have HN := hid (show decide (a = b) = decide (a.drop (k + 1) = b.drop (k + 1)) by rw [HE.out, HF.out]; simp [hxy])
          subst hxy
          go_wp2_with fail
          go_region
          go_wp2_with fail
          refine ⟨⟨k + 1, by omega, by go_num, HN, hid HB.out.drew⟩, by simp [intOf]; omega⟩
        · have HN := hid (show decide (a = b) = false by rw [HE.out, HF.out]; simp [hxy])
          have hne : (x != y) = true := ine_true hxy
          go_wp2_with fail
          go_region
          go_wp2_with fail
          go_ret
          exact ⟨by rw [HN.out]; rfl, HB.out.drew⟩
      · obtain rfl : k = b.length := by omega
        have HN := hid (show decide (a = b) = true by rw [HE.out, List.drop_eq_nil_of_le (by rw [HL.out]; exact Nat.le_refl _), List.drop_eq_nil_of_le (Nat.le_refl _)]; rfl)
        go_wp2_with fail
        go_ret
        exact ⟨by rw [HN.out]; rfl, HB.out⟩
  · have hne : decide (a = b) = false := decide_eq_false (fun e => hl (by rw [e]))
    have hbl : ((a.length : Int) == (b.length : Int)) = false := ieq_false (by omega)
    have hbl2 : ((a.length : Int) != (b.length : Int)) = true := ine_true (by omega)
    rw [hne]
    go_enter Try.func21, Try.ntmps21
    go_wp2_with fail
    go_ret
    exact ⟨rfl, Below.refl _ _⟩
end Go.Proofs.Ythdhbkngbmjjkaa
