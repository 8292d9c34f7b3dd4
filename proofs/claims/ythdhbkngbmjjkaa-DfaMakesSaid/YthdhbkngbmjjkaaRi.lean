/- Whether a number is in a list, whether a leaf takes a mark: the document's. Condition: a right leaf. -/
import Derived.Test.YthdhbkngbmjjkaaRp
namespace Go.Proofs.Ythdhbkngbmjjkaa
open Go.RowKit
set_option linter.unusedSimpArgs false
set_option maxRecDepth 100000 in
set_option maxHeartbeats 4000000 in
theorem rin_any (S : Nat → Prop) (v : Value) (l : List Int) (z : Int) (w : World) (h : IsNums .i64 w S v l) :
    Calls Try.prog 53 #[v, .int .i64 z] w fun e w' => e = .returned (.bool (decide (z ∈ l))) ∧ w' = w := by
  have hl := h.le
  have HL := hid h
  obtain ⟨A, c, rfl⟩ := h.form
  clear h
  go_enter Try.func53, Try.ntmps53
  go_wp2_with fail
  go_loop [5] (fun s5 => ∃ k : Nat, k ≤ l.length ∧ s5 = .int .i64 k ∧ Hid (z ∉ l.take k)) (fun s5 => l.length - (intOf s5).toNat)
  case atStart => exact ⟨0, by omega, rfl, hid (by simp)⟩
  case round =>
    obtain ⟨k, hk, rfl, HN⟩ := hrel
    by_cases hlt : k < l.length
    · obtain ⟨b, o, c', e, -, -, hc⟩ := HL.out.at hlt
      obtain ⟨rfl, rfl⟩ : A = some ⟨b, o, none⟩ ∧ c = c' := by simpa using e
      have HT := hid (take_nth hlt)
      have HM := hid (nth_mem hlt)
      obtain ⟨x, hx⟩ : ∃ x, x = nth l k := ⟨_, rfl⟩
      rw [← hx] at hc HT HM
      clear e hx
      by_cases hxz : x = z
      · have hxb := ieq_true hxz
        have HR := hid (show decide (z ∈ l) = true from decide_eq_true (hxz ▸ HM.out))
        clear hxz
        go_wp2_with fail
        go_ret
        exact ⟨ret_bool HR.out.symm, rfl⟩
      · have hxb := ieq_false hxz
        have HN2 := hid (show z ∉ l.take (k + 1) by
          rw [HT.out]
          intro e
          rcases List.mem_append.1 e with e | e
          · exact HN.out e
          · exact hxz (List.mem_singleton.1 e).symm)
        clear hxz
        go_wp2_with fail
        go_round
        case rel => exact ⟨k + 1, by omega, by go_num, HN2⟩
        case measure => simp [intOf]; omega
    · obtain rfl : k = l.length := by omega
      have HR := hid (show decide (z ∈ l) = false from decide_eq_false (by have h := HN.out; rw [List.take_length] at h; exact h))
      go_wp2_with fail
      go_ret
      exact ⟨ret_bool HR.out.symm, rfl⟩
set_option maxRecDepth 100000 in
set_option maxHeartbeats 4000000 in
theorem rtakes_any (k c m : Int) (KA : Option Addr) (n cp : Nat) (w : World) (hk : 0 ≤ k ∧ k ≤ 3) :
    Calls Try.prog 57 #[.agg #[.int .i64 k, .int .i64 c, .slice KA n cp], .int .i64 m] w fun e w' => e = .returned (.bool (takesB k c m)) ∧ Below w.heap.size w w' := by
  obtain ⟨W, hW⟩ : ∃ W, W = w.alloc (.cells #[.int .i64 k, .int .i64 c, .slice KA n cp] 48) := ⟨_, rfl⟩
  have HB := hid (show Below w.heap.size w W by rw [hW]; exact (Below.refl _ _).alloc (Nat.le_refl _) _)
  obtain ⟨f0, f1, f2, -⟩ := slot3 (show W.heap[w.heap.size]? = some (.cells #[.int .i64 k, .int .i64 c, .slice KA n cp] 48 (0, 0)) by rw [hW]; exact heap_alloc_new _ _)
  have hk4 : k = 3 ∨ k = 0 ∨ k = 1 ∨ k = 2 := by omega
  rcases hk4 with rfl | hk4
  · clear hk
    by_cases h36 : m = 36
    · have h36a := ieq_true h36
      have H := hid h36
      clear h36
      go_enter Try.func57, Try.ntmps57
      go_wp2_with fail
      rw [← hW]
      clear hW
      go_wp2_with fail
      go_ret
      refine ⟨ret_bool ?_, HB.out⟩
      unfold takesB
      simp [H.out]
    · have h36a := ieq_false h36
      have H := hid h36
      clear h36
      go_enter Try.func57, Try.ntmps57
      go_wp2_with fail
      rw [← hW]
      clear hW
      go_wp2_with fail
      go_ret
      refine ⟨ret_bool ?_, HB.out⟩
      unfold takesB
      simp [H.out]
  · clear hk
    by_cases h0 : 0 ≤ m
    · by_cases h1 : m ≤ 35
      · by_cases h2 : m = c
        · have h2a := ieq_true h2
          have h2b := ine_false h2
          have H0 := hid (show m = c ∧ 0 ≤ m ∧ m ≤ 35 from ⟨h2, h0, h1⟩)
          clear h2
          rcases hk4 with rfl | rfl | rfl
          all_goals
            go_enter Try.func57, Try.ntmps57
            go_wp2_with fail
            rw [← hW]
            clear hW
            go_wp2_with fail
            go_ret
            refine ⟨ret_bool ?_, HB.out⟩
            have a1 := H0.out
            unfold takesB
            simp
            try omega
        · have h2a := ieq_false h2
          have h2b := ine_true h2
          have H0 := hid (show m ≠ c ∧ 0 ≤ m ∧ m ≤ 35 from ⟨h2, h0, h1⟩)
          clear h2
          rcases hk4 with rfl | rfl | rfl
          all_goals
            go_enter Try.func57, Try.ntmps57
            go_wp2_with fail
            rw [← hW]
            clear hW
            go_wp2_with fail
            go_ret
            refine ⟨ret_bool ?_, HB.out⟩
            have a1 := H0.out
            unfold takesB
            simp
            try omega
      · have H0 := hid (show ¬ m ≤ 35 from h1)
        rcases hk4 with rfl | rfl | rfl
        all_goals
          go_enter Try.func57, Try.ntmps57
          go_wp2_with fail
          rw [← hW]
          clear hW
          go_wp2_with fail
          go_ret
          refine ⟨ret_bool ?_, HB.out⟩
          have a1 := H0.out
          unfold takesB
          simp
          try omega
    · have H0 := hid (show ¬ 0 ≤ m from h0)
      rcases hk4 with rfl | rfl | rfl
      all_goals
        go_enter Try.func57, Try.ntmps57
        go_wp2_with fail
        rw [← hW]
        clear hW
        go_wp2_with fail
        go_ret
        refine ⟨ret_bool ?_, HB.out⟩
        have a1 := H0.out
        unfold takesB
        simp
        try omega
end Go.Proofs.Ythdhbkngbmjjkaa
