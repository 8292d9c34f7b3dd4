/- Whether a node without parts matches a mark: the program's takes, the document's one. No conditions. -/
import Derived.Test.YtjcdcmeclnihbaaFl
namespace Go.Proofs.Ytjcdcmeclnihbaa
open Go.RowKit
def takesT (kd cl m : Int) : Bool := if kd = 0 then m == cl else if kd = 1 then decide (0 ≤ m) && decide (m < 36) else if kd = 2 then decide (0 ≤ m) && decide (m < 36) && (m != cl) else kd == 3 && m == 36
set_option maxRecDepth 100000 in
set_option maxHeartbeats 1000000 in
theorem takes_any (kd cl m : Int) (A : Option Addr) (n c : Nat) (w : World) :
    Calls Try.prog 75 #[.agg #[.int .i64 kd, .int .i64 cl, .slice A n c], .int .i64 m] w fun e w' => e = .returned (.bool (takesT kd cl m)) ∧ Below w.heap.size w w' := by
  obtain ⟨W, hW0⟩ : ∃ W, W = w.alloc (.cells #[.int .i64 kd, .int .i64 cl, .slice A n c] 45) := ⟨_, rfl⟩
  have HB := hid (box3 hW0).1
  have HW := hid hW0
  clear hW0
  by_cases h0 : kd = 0
  · subst h0
    have HE := hid (show (m == cl) = takesT 0 cl m from rfl)
    go_enter Try.func75, Try.ntmps75
    go_wp2_with fail
    go_ret
    exact ⟨ret_bool HE.out, by rw [← HW.out]; exact HB.out⟩
  have b0 := ieq_false h0
  by_cases h1 : kd = 1
  · subst h1
    have hE : takesT 1 cl m = (decide (0 ≤ m) && decide (m < 36)) := rfl
    clear h0 b0
    by_cases hm : 0 ≤ m
    · have c0 := ile_true hm
      have HE := hid (show decide (m < 36) = takesT 1 cl m by rw [hE, c0]; rfl)
      obtain ⟨q, hq⟩ : ∃ q, q = decide (m < 36) := ⟨_, rfl⟩
      rw [← hq] at HE
      have c1 := hq.symm
      clear hE hm hq
      go_enter Try.func75, Try.ntmps75
      go_wp2_with fail
      go_ret
      exact ⟨ret_bool HE.out, by rw [← HW.out]; exact HB.out⟩
    · have c0 := ile_false hm
      have HE := hid (show false = takesT 1 cl m by rw [hE, c0]; rfl)
      clear hE hm
      go_enter Try.func75, Try.ntmps75
      go_wp2_with fail
      go_ret
      exact ⟨ret_bool HE.out, by rw [← HW.out]; exact HB.out⟩
  have b1 := ieq_false h1
  by_cases h2 : kd = 2
  · subst h2
    have hE : takesT 2 cl m = (decide (0 ≤ m) && decide (m < 36) && (m != cl)) := rfl
    clear h0 b0 h1 b1
    by_cases hm : 0 ≤ m
    · have c0 := ile_true hm
      by_cases hn : m < 36
      · have c1 := ilt_true hn
        have HE := hid (show (m != cl) = takesT 2 cl m by rw [hE, c0, ilt_true hn]; rfl)
        clear hE hm hn
        go_enter Try.func75, Try.ntmps75
        go_wp2_with fail
        go_ret
        exact ⟨ret_bool HE.out, by rw [← HW.out]; exact HB.out⟩
      · have c1 := ilt_false hn
        have HE := hid (show false = takesT 2 cl m by rw [hE, ilt_false hn]; simp)
        clear hE hm hn
        go_enter Try.func75, Try.ntmps75
        go_wp2_with fail
        go_ret
        exact ⟨ret_bool HE.out, by rw [← HW.out]; exact HB.out⟩
    · have c0 := ile_false hm
      have HE := hid (show false = takesT 2 cl m by rw [hE, c0]; rfl)
      clear hE hm
      go_enter Try.func75, Try.ntmps75
      go_wp2_with fail
      go_ret
      exact ⟨ret_bool HE.out, by rw [← HW.out]; exact HB.out⟩
  have b2 := ieq_false h2
  by_cases h3 : kd = 3
  · subst h3
    have HE := hid (show (m == 36) = takesT 3 cl m from rfl)
    clear h0 h1 h2 b0 b1 b2
    go_enter Try.func75, Try.ntmps75
    go_wp2_with fail
    go_ret
    exact ⟨ret_bool HE.out, by rw [← HW.out]; exact HB.out⟩
  have b3 := ieq_false h3
  have HE := hid (show false = takesT kd cl m by unfold takesT; rw [if_neg h0, if_neg h1, if_neg h2, b3]; rfl)
  clear h0 h1 h2 h3
  go_enter Try.func75, Try.ntmps75
  go_wp2_with fail
  go_ret
  exact ⟨ret_bool HE.out, by rw [← HW.out]; exact HB.out⟩

set_option maxRecDepth 100000 in
set_option maxHeartbeats 1000000 in
theorem one_any (kd cl m : Int) (A : Option Addr) (n c : Nat) (w : World) :
    Calls Try.prog 68 #[.agg #[.int .i64 kd, .int .i64 cl, .slice A n c], .int .i64 m] w fun e w' => e = .returned (.bool (takesT kd cl m)) ∧ Below w.heap.size w w' := by
  obtain ⟨W, hW0⟩ : ∃ W, W = w.alloc (.cells #[.int .i64 kd, .int .i64 cl, .slice A n c] 51) := ⟨_, rfl⟩
  have HB := hid (box3 hW0).1
  have HW := hid hW0
  clear hW0
  by_cases h0 : kd = 0
  · subst h0
    have HE := hid (show (m == cl) = takesT 0 cl m from rfl)
    go_enter Try.func68, Try.ntmps68
    go_wp2_with fail
    go_ret
    exact ⟨ret_bool HE.out, by rw [← HW.out]; exact HB.out⟩
  have b0 := ieq_false h0
  by_cases h1 : kd = 1
  · subst h1
    have hE : takesT 1 cl m = (decide (0 ≤ m) && decide (m < 36)) := rfl
    clear h0 b0
    by_cases hm : 0 ≤ m
    · have c0 := ile_true hm
      have HE := hid (show decide (m < 36) = takesT 1 cl m by rw [hE, c0]; rfl)
      obtain ⟨q, hq⟩ : ∃ q, q = decide (m < 36) := ⟨_, rfl⟩
      rw [← hq] at HE
      have c1 := (show decide (m ≤ 35) = q by rw [hq]; exact decide_eq_decide.2 (by omega))
      clear hE hm hq
      go_enter Try.func68, Try.ntmps68
      go_wp2_with fail
      go_ret
      exact ⟨ret_bool HE.out, by rw [← HW.out]; exact HB.out⟩
    · have c0 := ile_false hm
      have HE := hid (show false = takesT 1 cl m by rw [hE, c0]; rfl)
      clear hE hm
      go_enter Try.func68, Try.ntmps68
      go_wp2_with fail
      go_ret
      exact ⟨ret_bool HE.out, by rw [← HW.out]; exact HB.out⟩
  have b1 := ieq_false h1
  by_cases h2 : kd = 2
  · subst h2
    have hE : takesT 2 cl m = (decide (0 ≤ m) && decide (m < 36) && (m != cl)) := rfl
    clear h0 b0 h1 b1
    by_cases hm : 0 ≤ m
    · have c0 := ile_true hm
      by_cases hn : m < 36
      · have c1 := ile_true (show m ≤ 35 by omega)
        have HE := hid (show (m != cl) = takesT 2 cl m by rw [hE, c0, ilt_true hn]; rfl)
        clear hE hm hn
        go_enter Try.func68, Try.ntmps68
        go_wp2_with fail
        go_ret
        exact ⟨ret_bool HE.out, by rw [← HW.out]; exact HB.out⟩
      · have c1 := ile_false (show ¬ m ≤ 35 by omega)
        have HE := hid (show false = takesT 2 cl m by rw [hE, ilt_false hn]; simp)
        clear hE hm hn
        go_enter Try.func68, Try.ntmps68
        go_wp2_with fail
        go_ret
        exact ⟨ret_bool HE.out, by rw [← HW.out]; exact HB.out⟩
    · have c0 := ile_false hm
      have HE := hid (show false = takesT 2 cl m by rw [hE, c0]; rfl)
      clear hE hm
      go_enter Try.func68, Try.ntmps68
      go_wp2_with fail
      go_ret
      exact ⟨ret_bool HE.out, by rw [← HW.out]; exact HB.out⟩
  have b2 := ieq_false h2
  by_cases h3 : kd = 3
  · subst h3
    have HE := hid (show (m == 36) = takesT 3 cl m from rfl)
    clear h0 h1 h2 b0 b1 b2
    go_enter Try.func68, Try.ntmps68
    go_wp2_with fail
    go_ret
    exact ⟨ret_bool HE.out, by rw [← HW.out]; exact HB.out⟩
  have b3 := ieq_false h3
  have HE := hid (show false = takesT kd cl m by unfold takesT; rw [if_neg h0, if_neg h1, if_neg h2, b3]; rfl)
  clear h0 h1 h2 h3
  go_enter Try.func68, Try.ntmps68
  go_wp2_with fail
  go_ret
  exact ⟨ret_bool HE.out, by rw [← HW.out]; exact HB.out⟩

end Go.Proofs.Ytjcdcmeclnihbaa
