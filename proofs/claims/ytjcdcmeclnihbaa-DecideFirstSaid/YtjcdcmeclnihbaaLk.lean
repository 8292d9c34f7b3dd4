/- What is wrong with a right expression of a rule; whether a rule is right: both the program's and the document's. Condition: no more nodes than there may be. -/
import Derived.Test.YtjcdcmeclnihbaaLn
import Derived.Test.YtjcdcmeclnihbaaRr
import Derived.Test.YtjcdcmeclnihbaaRu
namespace Go.Proofs.Ytjcdcmeclnihbaa
open Go.RowKit
def looksT (d : Nat) (t : Tr d) : Int := if hasT d 3 t = true then 4 else if longT d t < 0 ∨ 4 < longT d t then 8 else 0
def okR {d : Nat} (r : Rl d) : Bool := rightT d r.L && rightT d r.R && (looksT d r.R == 0)
theorem rightT_cnt {d : Nat} {t : Tr d} (h : rightT d t = true) : cnt d t ≤ 2000 ∧ fitsT d false t = true := by
  simp only [rightT, Bool.and_eq_true, decide_eq_true_eq] at h
  exact ⟨by have := (sizeT_le (by omega)).1 h.1; omega, h.2⟩
set_option maxRecDepth 100000 in
theorem elongest_any (S : Nat → Prop) (d : Nat) (v : Value) (t : Tr d) (w : World) (h : IsTr w S d v t) (hr : rightT d t = true) :
    Calls Try.prog 34 #[v] w fun e w' => e = .returned (.tuple #[.int .i64 (max (longT d t) 0), .bool (decide (0 ≤ longT d t))]) ∧ Below w.heap.size w w' := by
  have H := hid h
  have HR := hid hr
  have hc := rightT_cnt hr
  clear hr
  cases d with
  | zero => exact t.elim
  | succ d =>
    obtain ⟨A, c, rfl, hle, -⟩ := h.open
    clear h
    obtain ⟨W, hW0⟩ : ∃ W, W = w.alloc (.cells #[.int .i64 (Tr.kind t), .int .i64 (Tr.cls t), .slice A (Tr.kids t).length c] 45) := ⟨_, rfl⟩
    have HX := hid (box3 hW0)
    have HT := hid (H.out.below HX.out.1)
    clear H
    obtain ⟨z, hz⟩ : ∃ z, z = longT (d + 1) t := ⟨_, rfl⟩
    rw [← hz]
    have HZ := hid hz
    clear hz
    obtain ⟨m, hm⟩ : ∃ m, m = max z 0 := ⟨_, rfl⟩
    rw [← hm]
    have hm0 : (z < 0 ∧ m = 0) ∨ (¬ z < 0 ∧ m = z) := by rw [hm]; omega
    clear hm
    rcases hm0 with ⟨hz, rfl⟩ | ⟨hz, rfl⟩
    · have b1 := ile_false (show ¬ 0 ≤ z by omega)
      rw [b1]
      go_enter Try.func34, Try.ntmps34
      go_wp2_with fail
      rw [← hW0]
      refine (eright_any S _ _ _ _ HT.out).mono ?_
      rintro e w1 ⟨rfl, hb1⟩
      rw [HR.out]
      obtain ⟨g0, g1, g2⟩ := HX.out.2 w1 hb1
      go_wp2_with fail
      refine (longest_any S _ _ _ _ _ (HT.out.below hb1) hc.2 hc.1).mono ?_
      rintro e w2 ⟨rfl, hb2⟩
      rw [← HZ.out]
      go_wp2_with fail
      go_ret2
      exact ⟨rfl, HX.out.1.trans ((hb1.trans (hb2.mono hb1.size)).mono HX.out.1.size)⟩
    · have b1 := ile_true (show 0 ≤ m by omega)
      rw [b1]
      go_enter Try.func34, Try.ntmps34
      go_wp2_with fail
      rw [← hW0]
      refine (eright_any S _ _ _ _ HT.out).mono ?_
      rintro e w1 ⟨rfl, hb1⟩
      rw [HR.out]
      obtain ⟨g0, g1, g2⟩ := HX.out.2 w1 hb1
      go_wp2_with fail
      refine (longest_any S _ _ _ _ _ (HT.out.below hb1) hc.2 hc.1).mono ?_
      rintro e w2 ⟨rfl, hb2⟩
      rw [← HZ.out]
      go_wp2_with fail
      go_ret2
      exact ⟨rfl, HX.out.1.trans ((hb1.trans (hb2.mono hb1.size)).mono HX.out.1.size)⟩
set_option maxRecDepth 100000 in
set_option maxHeartbeats 2000000 in
theorem looks_any (S : Nat → Prop) (d : Nat) (v : Value) (t : Tr d) (w : World) (h : IsTr w S d v t) (hr : rightT d t = true) :
    Calls Try.prog 71 #[v] w fun e w' => e = .returned (.int .i64 (looksT d t)) ∧ Below w.heap.size w w' := by
  have H := hid h
  have HR := hid hr
  clear hr
  cases d with
  | zero => exact t.elim
  | succ d =>
    obtain ⟨A, c, rfl, hle, -⟩ := h.open
    clear h
    obtain ⟨W, hW0⟩ : ∃ W, W = w.alloc (.cells #[.int .i64 (Tr.kind t), .int .i64 (Tr.cls t), .slice A (Tr.kids t).length c] 45) := ⟨_, rfl⟩
    have HX := hid (box3 hW0)
    have HT := hid (H.out.below HX.out.1)
    clear H
    obtain ⟨z, hz⟩ : ∃ z, z = longT (d + 1) t := ⟨_, rfl⟩
    have HZ := hid hz
    obtain ⟨m, hm⟩ : ∃ m, m = max z 0 := ⟨_, rfl⟩
    have HM := hid hm
    have hm0 : z < 0 ∨ 0 ≤ z ∧ m = z := by rw [hm]; omega
    clear hz hm
    cases hh : hasT (d + 1) 3 t with
    | true =>
      have HE := hid (show (4 : Int) = looksT (d + 1) t by unfold looksT; rw [if_pos hh])
      have HH := hid hh
      clear hm0 hh
      go_enter Try.func71, Try.ntmps71
      go_wp2_with fail
      rw [← hW0]
      refine (elongest_any S _ _ _ _ HT.out HR.out).mono ?_
      rintro e w1 ⟨rfl, hb1⟩
      rw [← HZ.out, ← HM.out]
      obtain ⟨g0, g1, g2⟩ := HX.out.2 w1 hb1
      go_wp2_with fail
      refine (ehas_any S _ _ _ _ _ (HT.out.below hb1)).mono ?_
      rintro e w2 ⟨rfl, hb2⟩
      rw [HR.out, HH.out]
      go_wp2_with fail
      go_ret
      exact ⟨ret_int HE.out, HX.out.1.trans ((hb1.trans (hb2.mono hb1.size)).mono HX.out.1.size)⟩
    | false =>
      have HH := hid hh
      by_cases h1 : z < 0
      · have b1 := ile_false (show ¬ (0 : Int) ≤ z by omega)
        have HE := hid (show (8 : Int) = looksT (d + 1) t by unfold looksT; rw [if_neg (by rw [hh]; simp), ← HZ.out, if_pos (.inl h1)])
        clear hm0 hh h1
        go_enter Try.func71, Try.ntmps71
        go_wp2_with fail
        rw [← hW0]
        refine (elongest_any S _ _ _ _ HT.out HR.out).mono ?_
        rintro e w1 ⟨rfl, hb1⟩
        rw [← HZ.out, ← HM.out]
        obtain ⟨g0, g1, g2⟩ := HX.out.2 w1 hb1
        go_wp2_with fail
        refine (ehas_any S _ _ _ _ _ (HT.out.below hb1)).mono ?_
        rintro e w2 ⟨rfl, hb2⟩
        rw [HR.out, HH.out]
        go_wp2_with fail
        go_ret
        exact ⟨ret_int HE.out, HX.out.1.trans ((hb1.trans (hb2.mono hb1.size)).mono HX.out.1.size)⟩
      · have b1 := ile_true (show (0 : Int) ≤ z by omega)
        by_cases h2 : 4 < m
        · have b2 := ilt_true h2
          have HE := hid (show (8 : Int) = looksT (d + 1) t by unfold looksT; rw [if_neg (by rw [hh]; simp), ← HZ.out, if_pos (.inr (by omega))])
          clear hm0 hh h1 h2
          go_enter Try.func71, Try.ntmps71
          go_wp2_with fail
          rw [← hW0]
          refine (elongest_any S _ _ _ _ HT.out HR.out).mono ?_
          rintro e w1 ⟨rfl, hb1⟩
          rw [← HZ.out, ← HM.out]
          obtain ⟨g0, g1, g2⟩ := HX.out.2 w1 hb1
          go_wp2_with fail
          refine (ehas_any S _ _ _ _ _ (HT.out.below hb1)).mono ?_
          rintro e w2 ⟨rfl, hb2⟩
          rw [HR.out, HH.out]
          go_wp2_with fail
          go_ret
          exact ⟨ret_int HE.out, HX.out.1.trans ((hb1.trans (hb2.mono hb1.size)).mono HX.out.1.size)⟩
        · have b2 := ilt_false h2
          have HE := hid (show (0 : Int) = looksT (d + 1) t by unfold looksT; rw [if_neg (by rw [hh]; simp), ← HZ.out, if_neg (by omega)])
          clear hm0 hh h1 h2
          go_enter Try.func71, Try.ntmps71
          go_wp2_with fail
          rw [← hW0]
          refine (elongest_any S _ _ _ _ HT.out HR.out).mono ?_
          rintro e w1 ⟨rfl, hb1⟩
          rw [← HZ.out, ← HM.out]
          obtain ⟨g0, g1, g2⟩ := HX.out.2 w1 hb1
          go_wp2_with fail
          refine (ehas_any S _ _ _ _ _ (HT.out.below hb1)).mono ?_
          rintro e w2 ⟨rfl, hb2⟩
          rw [HR.out, HH.out]
          go_wp2_with fail
          go_ret
          exact ⟨ret_int HE.out, HX.out.1.trans ((hb1.trans (hb2.mono hb1.size)).mono HX.out.1.size)⟩
set_option maxRecDepth 100000 in
set_option maxHeartbeats 2000000 in
theorem wrong_any (S : Nat → Prop) (d : Nat) (v : Value) (t : Tr d) (w : World) (h : IsTr w S d v t) (hc : cnt d t ≤ 2000) :
    Calls Try.prog 67 #[v] w fun e w' => e = .returned (.int .i64 (looksT d t)) ∧ Below w.heap.size w w' := by
  have H := hid h
  have HC := hid hc
  clear hc
  cases d with
  | zero => exact t.elim
  | succ d =>
    obtain ⟨A, c, rfl, hle, -⟩ := h.open
    clear h
    obtain ⟨W, hW0⟩ : ∃ W, W = w.alloc (.cells #[.int .i64 (Tr.kind t), .int .i64 (Tr.cls t), .slice A (Tr.kids t).length c] 51) := ⟨_, rfl⟩
    have HX := hid (box3 hW0)
    have HT := hid (H.out.below HX.out.1)
    clear H
    obtain ⟨z, hz⟩ : ∃ z, z = longT (d + 1) t := ⟨_, rfl⟩
    have HZ := hid hz
    clear hz
    have key : ∀ (R : Int), (hasT (d + 1) 3 t = true ∧ R = 4) ∨ (hasT (d + 1) 3 t = false ∧ z < 0 ∧ R = 8) ∨ (hasT (d + 1) 3 t = false ∧ ¬ z < 0 ∧ 4 < z ∧ R = 8) ∨ (hasT (d + 1) 3 t = false ∧ ¬ z < 0 ∧ ¬ 4 < z ∧ R = 0) → R = looksT (d + 1) t := by
      intro R hR
      unfold looksT
      rw [← HZ.out]
      rcases hR with ⟨h1, rfl⟩ | ⟨h1, h2, rfl⟩ | ⟨h1, h2, h3, rfl⟩ | ⟨h1, h2, h3, rfl⟩
      · rw [if_pos h1]
      · rw [if_neg (by rw [h1]; simp), if_pos (.inl h2)]
      · rw [if_neg (by rw [h1]; simp), if_pos (.inr h3)]
      · rw [if_neg (by rw [h1]; simp), if_neg (by omega)]
    have KEY := hid key
    clear key
    cases hh : hasT (d + 1) 3 t with
    | true =>
      have HE := hid (KEY.out 4 (.inl ⟨hh, rfl⟩))
      have HH := hid hh
      clear hh
      go_enter Try.func67, Try.ntmps67
      go_wp2_with fail
      rw [← hW0]
      refine (rlongest_any S _ _ _ _ HT.out HC.out).mono ?_
      rintro e w1 ⟨rfl, hb1⟩
      rw [← HZ.out]
      obtain ⟨g0, g1, g2⟩ := HX.out.2 w1 hb1
      go_wp2_with fail
      refine (rhas_any S _ _ _ _ _ (HT.out.below hb1)).mono ?_
      rintro e w2 ⟨rfl, hb2⟩
      rw [HH.out]
      go_wp2_with fail
      go_ret
      exact ⟨ret_int HE.out, HX.out.1.trans ((hb1.trans (hb2.mono hb1.size)).mono HX.out.1.size)⟩
    | false =>
      have HH := hid hh
      by_cases h1 : z < 0
      · have b1 := ilt_true h1
        have HE := hid (KEY.out 8 (.inr (.inl ⟨hh, h1, rfl⟩)))
        clear hh h1
        go_enter Try.func67, Try.ntmps67
        go_wp2_with fail
        rw [← hW0]
        refine (rlongest_any S _ _ _ _ HT.out HC.out).mono ?_
        rintro e w1 ⟨rfl, hb1⟩
        rw [← HZ.out]
        obtain ⟨g0, g1, g2⟩ := HX.out.2 w1 hb1
        go_wp2_with fail
        refine (rhas_any S _ _ _ _ _ (HT.out.below hb1)).mono ?_
        rintro e w2 ⟨rfl, hb2⟩
        rw [HH.out]
        go_wp2_with fail
        go_ret
        exact ⟨ret_int HE.out, HX.out.1.trans ((hb1.trans (hb2.mono hb1.size)).mono HX.out.1.size)⟩
      · have b1 := ilt_false h1
        by_cases h2 : 4 < z
        · have b2 := ilt_true h2
          have HE := hid (KEY.out 8 (.inr (.inr (.inl ⟨hh, h1, h2, rfl⟩))))
          clear hh h1 h2
          go_enter Try.func67, Try.ntmps67
          go_wp2_with fail
          rw [← hW0]
          refine (rlongest_any S _ _ _ _ HT.out HC.out).mono ?_
          rintro e w1 ⟨rfl, hb1⟩
          rw [← HZ.out]
          obtain ⟨g0, g1, g2⟩ := HX.out.2 w1 hb1
          go_wp2_with fail
          refine (rhas_any S _ _ _ _ _ (HT.out.below hb1)).mono ?_
          rintro e w2 ⟨rfl, hb2⟩
          rw [HH.out]
          go_wp2_with fail
          go_ret
          exact ⟨ret_int HE.out, HX.out.1.trans ((hb1.trans (hb2.mono hb1.size)).mono HX.out.1.size)⟩
        · have b2 := ilt_false h2
          have HE := hid (KEY.out 0 (.inr (.inr (.inr ⟨hh, h1, h2, rfl⟩))))
          clear hh h1 h2
          go_enter Try.func67, Try.ntmps67
          go_wp2_with fail
          rw [← hW0]
          refine (rlongest_any S _ _ _ _ HT.out HC.out).mono ?_
          rintro e w1 ⟨rfl, hb1⟩
          rw [← HZ.out]
          obtain ⟨g0, g1, g2⟩ := HX.out.2 w1 hb1
          go_wp2_with fail
          refine (rhas_any S _ _ _ _ _ (HT.out.below hb1)).mono ?_
          rintro e w2 ⟨rfl, hb2⟩
          rw [HH.out]
          go_wp2_with fail
          go_ret
          exact ⟨ret_int HE.out, HX.out.1.trans ((hb1.trans (hb2.mono hb1.size)).mono HX.out.1.size)⟩
end Go.Proofs.Ytjcdcmeclnihbaa
