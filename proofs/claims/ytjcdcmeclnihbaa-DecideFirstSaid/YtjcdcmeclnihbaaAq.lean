/- Whether a rule applies: the program's some, applies. Conditions: lists that are not empty, at most a thousand marks. -/
import Derived.Test.YtjcdcmeclnihbaaAp
namespace Go.Proofs.Ytjcdcmeclnihbaa
open Go.RowKit
def someB (most : Nat) (p : Nat → Bool) : Bool := (List.range (most + 1)).any p
theorem any_range_succ (p : Nat → Bool) (k : Nat) : (List.range (k + 1)).any p = ((List.range k).any p || p k) := by simp [List.range_succ]
theorem any_range_hit {p : Nat → Bool} {k n : Nat} (hk : k < n) (h : p k = true) : (List.range n).any p = true := List.any_eq_true.2 ⟨k, List.mem_range.2 hk, h⟩
def appliesB {d : Nat} (r : Rl d) (left right : List Int) : Bool := someB left.length (fun k => matchesT r.L (left.drop k)) && someB (min right.length 4) (fun k => matchesT r.R (right.take k))
set_option maxRecDepth 100000 in
set_option maxHeartbeats 2000000 in
theorem some84_any (d : Nat) (t : Tr d) (k0 k1 : Int) (A0 : Option Addr) (n0 p0 b1 b2 b o c : Nat) (l : List Int) (hn : l.length ≤ 1000) (w : World)
    (hL : IsTr w Any d (.agg #[.int .i64 k0, .int .i64 k1, .slice A0 n0 p0]) t) (hl : IsNums .i64 w Any (.slice (some ⟨b, o, none⟩) l.length c) l)
    (hc : w.cell? ⟨b1, 0, none⟩ = some (.int .i64 k0) ∧ w.cell? ⟨b1, 1, none⟩ = some (.int .i64 k1) ∧ w.cell? ⟨b1, 2, none⟩ = some (.slice A0 n0 p0) ∧ w.cell? ⟨b2, 0, none⟩ = some (.slice (some ⟨b, o, none⟩) l.length c)) :
    Calls Try.prog 83 #[.int .i64 l.length, .func (.func 84) #[] #[.pointer (some ⟨b1, 0, none⟩), .pointer (some ⟨b2, 0, none⟩)]] w fun e w' => e = .returned (.bool (someB l.length fun k => matchesT t (l.drop k))) ∧ Below w.heap.size w w' := by
  have HS := hid hc
  have HL := hid hL
  have HN := hid hl
  have HLN := hid hn
  obtain ⟨n, hnn⟩ : ∃ n, n = l.length := ⟨_, rfl⟩
  have HNN := hid hnn
  have hn2 : n ≤ 1000 := by omega
  rw [← hnn]
  clear hc hL hl hnn hn
  go_enter Try.func83, Try.ntmps83
  go_wp2_with fail
  go_loopw [5, 8] (fun _ s8 wr => ∃ k : Nat, k ≤ n + 1 ∧ s8 = .int .i64 k ∧ Hid ((List.range k).any (fun k => matchesT t (l.drop k)) = false) ∧ Hid (Below w.heap.size w wr)) (fun _ s8 _ => n + 1 - (intOf s8).toNat)
  case atStart => exact ⟨0, by omega, rfl, hid rfl, hid (Below.refl _ _)⟩
  case round =>
    obtain ⟨k, hk, rfl, HT, HW⟩ := hrel
    by_cases hlt : k < n + 1
    · have HC := hid (left1_any d t k0 k1 A0 n0 p0 b1 b2 b o c l k (by rw [← HNN.out]; omega) HLN.out wr (HL.out.below HW.out) (HN.out.below HW.out) ⟨cell_later HW.out HS.out.1, cell_later HW.out HS.out.2.1, cell_later HW.out HS.out.2.2.1, cell_later HW.out HS.out.2.2.2⟩)
      have hlt2 : (k : Int) < (n : Int) + 1 := by omega
      cases hp : matchesT t (l.drop k) with
      | true =>
        have HE := hid (show true = someB n fun k => matchesT t (l.drop k) from (any_range_hit hlt hp).symm)
        have HP := hid hp
        clear hp
        go_wp2_with (go_at_call 84; refine HC.out.mono ?_; rintro e w1 ⟨rfl, hb1⟩; rw [HP.out])
        go_ret
        exact ⟨ret_bool HE.out, HW.out.trans (hb1.mono HW.out.size)⟩
      | false =>
        have HN2 := hid (show (List.range (k + 1)).any (fun k => matchesT t (l.drop k)) = false by rw [any_range_succ, HT.out, hp]; rfl)
        have HP := hid hp
        clear hp
        go_wp2_with (go_at_call 84; refine HC.out.mono ?_; rintro e w1 ⟨rfl, hb1⟩; rw [HP.out])
        go_roundw
        case rel => exact ⟨k + 1, by omega, by go_num, HN2, hid (HW.out.trans (hb1.mono HW.out.size))⟩
        case measure => simp [intOf]; omega
    · obtain rfl : k = n + 1 := by omega
      have HE := hid (show false = someB n fun k => matchesT t (l.drop k) from HT.out.symm)
      have hlt2 : ¬ ((n : Int) + 1 < (n : Int) + 1) := by omega
      go_wp2_with fail
      go_ret
      exact ⟨ret_bool HE.out, HW.out⟩
set_option maxRecDepth 100000 in
set_option maxHeartbeats 2000000 in
theorem some85_any (d : Nat) (t : Tr d) (k0 k1 : Int) (A0 : Option Addr) (n0 p0 b1 b2 b o c : Nat) (l : List Int) (hn : l.length ≤ 1000) (n : Nat) (hnl : n ≤ l.length) (w : World)
    (hL : IsTr w Any d (.agg #[.int .i64 k0, .int .i64 k1, .slice A0 n0 p0]) t) (hl : IsNums .i64 w Any (.slice (some ⟨b, o, none⟩) l.length c) l)
    (hc : w.cell? ⟨b1, 3, none⟩ = some (.int .i64 k0) ∧ w.cell? ⟨b1, 4, none⟩ = some (.int .i64 k1) ∧ w.cell? ⟨b1, 5, none⟩ = some (.slice A0 n0 p0) ∧ w.cell? ⟨b2, 0, none⟩ = some (.slice (some ⟨b, o, none⟩) l.length c)) :
    Calls Try.prog 83 #[.int .i64 n, .func (.func 85) #[] #[.pointer (some ⟨b1, 0, none⟩), .pointer (some ⟨b2, 0, none⟩)]] w fun e w' => e = .returned (.bool (someB n fun k => matchesT t (l.take k))) ∧ Below w.heap.size w w' := by
  have HS := hid hc
  have HL := hid hL
  have HN := hid hl
  have HLN := hid hn
  have HNN := hid hnl
  have hn2 : n ≤ 1000 := by omega
  clear hc hL hl hnl hn
  go_enter Try.func83, Try.ntmps83
  go_wp2_with fail
  go_loopw [5, 8] (fun _ s8 wr => ∃ k : Nat, k ≤ n + 1 ∧ s8 = .int .i64 k ∧ Hid ((List.range k).any (fun k => matchesT t (l.take k)) = false) ∧ Hid (Below w.heap.size w wr)) (fun _ s8 _ => n + 1 - (intOf s8).toNat)
  case atStart => exact ⟨0, by omega, rfl, hid rfl, hid (Below.refl _ _)⟩
  case round =>
    obtain ⟨k, hk, rfl, HT, HW⟩ := hrel
    by_cases hlt : k < n + 1
    · have HC := hid (right1c_any d t k0 k1 A0 n0 p0 b1 b2 b o c l k (by have := HNN.out; omega) HLN.out wr (HL.out.below HW.out) (HN.out.below HW.out) ⟨cell_later HW.out HS.out.1, cell_later HW.out HS.out.2.1, cell_later HW.out HS.out.2.2.1, cell_later HW.out HS.out.2.2.2⟩)
      have hlt2 : (k : Int) < (n : Int) + 1 := by omega
      cases hp : matchesT t (l.take k) with
      | true =>
        have HE := hid (show true = someB n fun k => matchesT t (l.take k) from (any_range_hit hlt hp).symm)
        have HP := hid hp
        clear hp
        go_wp2_with (go_at_call 85; refine HC.out.mono ?_; rintro e w1 ⟨rfl, hb1⟩; rw [HP.out])
        go_ret
        exact ⟨ret_bool HE.out, HW.out.trans (hb1.mono HW.out.size)⟩
      | false =>
        have HN2 := hid (show (List.range (k + 1)).any (fun k => matchesT t (l.take k)) = false by rw [any_range_succ, HT.out, hp]; rfl)
        have HP := hid hp
        clear hp
        go_wp2_with (go_at_call 85; refine HC.out.mono ?_; rintro e w1 ⟨rfl, hb1⟩; rw [HP.out])
        go_roundw
        case rel => exact ⟨k + 1, by omega, by go_num, HN2, hid (HW.out.trans (hb1.mono HW.out.size))⟩
        case measure => simp [intOf]; omega
    · obtain rfl : k = n + 1 := by omega
      have HE := hid (show false = someB n fun k => matchesT t (l.take k) from HT.out.symm)
      have hlt2 : ¬ ((n : Int) + 1 < (n : Int) + 1) := by omega
      go_wp2_with fail
      go_ret
      exact ⟨ret_bool HE.out, HW.out⟩
set_option maxRecDepth 100000 in
set_option maxHeartbeats 4000000 in
theorem applies_any (d : Nat) (v lv rv : Value) (r : Rl d) (left right : List Int) (w : World) (h : IsRl w Any d v r) (hl : IsNums .i64 w Any lv left) (hr : IsNums .i64 w Any rv right) (h0 : 0 < left.length) (h1 : 0 < right.length) (hn : left.length ≤ 1000) (hm : right.length ≤ 1000) :
    Calls Try.prog 65 #[v, lv, rv] w fun e w' => e = .returned (.bool (appliesB r left right)) ∧ Below w.heap.size w w' := by
  obtain ⟨k0, k1, A0, n0, p0, j0, j1, A1, n1, p1, rfl, hL, hR⟩ := h.open
  obtain ⟨lb, lo, lc, rfl, -, -, -⟩ := hl.at h0
  obtain ⟨rb, ro, rc, rfl, -, -, -⟩ := hr.at h1
  clear h
  obtain ⟨W, hW0⟩ : ∃ W, W = ((w.alloc (.cells #[.int .i64 k0, .int .i64 k1, .slice A0 n0 p0, .int .i64 j0, .int .i64 j1, .slice A1 n1 p1, .bool r.br] 47)).alloc (.cells #[.slice (some ⟨lb, lo, none⟩) left.length lc] 22)).alloc (.cells #[.slice (some ⟨rb, ro, none⟩) right.length rc] 22) := ⟨_, rfl⟩
  have HW := hid (alloc3 hW0)
  have HWb := hid (show Below w.heap.size w W by rw [hW0]; exact (((Below.refl _ _).alloc (Nat.le_refl _) _).alloc (by simp) _).alloc (by simp; omega) _)
  obtain ⟨q, hq⟩ : ∃ q, q = w.heap.size := ⟨_, rfl⟩
  rw [← hq] at HW
  have HC := hid (show ∀ Y, Below W.heap.size W Y → (Y.cell? ⟨q, 0, none⟩ = some (.int .i64 k0) ∧ Y.cell? ⟨q, 1, none⟩ = some (.int .i64 k1) ∧ Y.cell? ⟨q, 2, none⟩ = some (.slice A0 n0 p0) ∧ Y.cell? ⟨q + 1, 0, none⟩ = some (.slice (some ⟨lb, lo, none⟩) left.length lc)) ∧
      (Y.cell? ⟨q, 3, none⟩ = some (.int .i64 j0) ∧ Y.cell? ⟨q, 4, none⟩ = some (.int .i64 j1) ∧ Y.cell? ⟨q, 5, none⟩ = some (.slice A1 n1 p1) ∧ Y.cell? ⟨q + 1 + 1, 0, none⟩ = some (.slice (some ⟨rb, ro, none⟩) right.length rc)) from fun Y hY => by
    have e0 := (hY.block q (by rw [HW.out.2.2.2]; omega)).trans HW.out.1
    have e1 := (hY.block (q + 1) (by rw [HW.out.2.2.2]; omega)).trans HW.out.2.1
    have e2 := (hY.block (q + 2) (by rw [HW.out.2.2.2]; omega)).trans HW.out.2.2.1
    refine ⟨⟨?_, ?_, ?_, ?_⟩, ?_, ?_, ?_, ?_⟩
    · rw [cell_of_row _ _ _ _ _ _ e0]; rfl
    · rw [cell_of_row _ _ _ _ _ _ e0]; rfl
    · rw [cell_of_row _ _ _ _ _ _ e0]; rfl
    · rw [cell_of_row _ _ _ _ _ _ e1]; rfl
    · rw [cell_of_row _ _ _ _ _ _ e0]; rfl
    · rw [cell_of_row _ _ _ _ _ _ e0]; rfl
    · rw [cell_of_row _ _ _ _ _ _ e0]; rfl
    · rw [cell_of_row _ _ _ _ _ _ e2]; rfl)
  have HL := hid (hL.below HWb.out)
  have HR := hid (hR.below HWb.out)
  have Hl := hid (hl.below HWb.out)
  have Hr := hid (hr.below HWb.out)
  have HN := hid hn
  have HM := hid hm
  clear hL hR hl hr h0 h1
  obtain ⟨m, hmm⟩ : ∃ m, m = min right.length 4 := ⟨_, rfl⟩
  have HE := hid (show appliesB r left right = (someB left.length (fun k => matchesT r.L (left.drop k)) && someB m (fun k => matchesT r.R (right.take k))) by unfold appliesB; rw [hmm])
  have hm0 : (right.length < 4 ∧ m = right.length) ∨ (¬ right.length < 4 ∧ m = 4) := by omega
  have HML := hid (show m ≤ right.length by omega)
  clear hmm hn hm
  rcases hm0 with ⟨h4, rfl⟩ | ⟨h4, rfl⟩
  · have c4 : ¬ (4 : Int) < right.length := by omega
    clear h4
    
    cases ha : someB left.length (fun k => matchesT r.L (left.drop k)) with
    | false =>
      have HA := hid ha
      have HF := hid (show false = appliesB r left right by rw [HE.out, ha]; rfl)
      clear ha
      go_enter Try.func65, Try.ntmps65
      go_wp2_with fail
      rw [← hW0, ← hq]
      refine (some84_any d r.L k0 k1 A0 n0 p0 q (q + 1) lb lo lc left HN.out W HL.out Hl.out (HC.out W (Below.refl _ _)).1).mono ?_
      rintro e w1 ⟨rfl, hb1⟩
      rw [HA.out]
      go_wp2_with fail
      go_ret
      exact ⟨ret_bool HF.out, HWb.out.trans (hb1.mono HWb.out.size)⟩
    | true =>
      have HA := hid ha
      have HF := hid (show someB right.length (fun k => matchesT r.R (right.take k)) = appliesB r left right by rw [HE.out, ha]; rfl)
      clear ha
      go_enter Try.func65, Try.ntmps65
      go_wp2_with fail
      rw [← hW0, ← hq]
      refine (some84_any d r.L k0 k1 A0 n0 p0 q (q + 1) lb lo lc left HN.out W HL.out Hl.out (HC.out W (Below.refl _ _)).1).mono ?_
      rintro e w1 ⟨rfl, hb1⟩
      rw [HA.out]
      have HB1 := hid hb1
      clear hb1 hW0 hq
      go_wp2_with fail
      refine (some85_any d r.R j0 j1 A1 n1 p1 q (q + 1 + 1) rb ro rc right HM.out right.length HML.out w1 (HR.out.below HB1.out) (Hr.out.below HB1.out) (HC.out w1 HB1.out).2).mono ?_
      rintro e w2 ⟨rfl, hb2⟩
      go_wp2_with fail
      go_ret
      exact ⟨ret_bool HF.out, HWb.out.trans ((HB1.out.trans (hb2.mono HB1.out.size)).mono HWb.out.size)⟩
  · by_cases c5 : right.length = 4
    · have c4 : ¬ (4 : Int) < right.length := by omega
      have HE2 := hid (show appliesB r left right = (someB left.length (fun k => matchesT r.L (left.drop k)) && someB right.length (fun k => matchesT r.R (right.take k))) by rw [HE.out, c5])
      have HML2 := hid (Nat.le_refl right.length)
      clear h4 c5
      
      cases ha : someB left.length (fun k => matchesT r.L (left.drop k)) with
      | false =>
        have HA := hid ha
        have HF := hid (show false = appliesB r left right by rw [HE2.out, ha]; rfl)
        clear ha
        go_enter Try.func65, Try.ntmps65
        go_wp2_with fail
        rw [← hW0, ← hq]
        refine (some84_any d r.L k0 k1 A0 n0 p0 q (q + 1) lb lo lc left HN.out W HL.out Hl.out (HC.out W (Below.refl _ _)).1).mono ?_
        rintro e w1 ⟨rfl, hb1⟩
        rw [HA.out]
        go_wp2_with fail
        go_ret
        exact ⟨ret_bool HF.out, HWb.out.trans (hb1.mono HWb.out.size)⟩
      | true =>
        have HA := hid ha
        have HF := hid (show someB right.length (fun k => matchesT r.R (right.take k)) = appliesB r left right by rw [HE2.out, ha]; rfl)
        clear ha
        go_enter Try.func65, Try.ntmps65
        go_wp2_with fail
        rw [← hW0, ← hq]
        refine (some84_any d r.L k0 k1 A0 n0 p0 q (q + 1) lb lo lc left HN.out W HL.out Hl.out (HC.out W (Below.refl _ _)).1).mono ?_
        rintro e w1 ⟨rfl, hb1⟩
        rw [HA.out]
        have HB1 := hid hb1
        clear hb1 hW0 hq
        go_wp2_with fail
        refine (some85_any d r.R j0 j1 A1 n1 p1 q (q + 1 + 1) rb ro rc right HM.out right.length HML2.out w1 (HR.out.below HB1.out) (Hr.out.below HB1.out) (HC.out w1 HB1.out).2).mono ?_
        rintro e w2 ⟨rfl, hb2⟩
        go_wp2_with fail
        go_ret
        exact ⟨ret_bool HF.out, HWb.out.trans ((HB1.out.trans (hb2.mono HB1.out.size)).mono HWb.out.size)⟩
    · have c4 : (4 : Int) < right.length := by omega
      clear h4 c5
      
      cases ha : someB left.length (fun k => matchesT r.L (left.drop k)) with
      | false =>
        have HA := hid ha
        have HF := hid (show false = appliesB r left right by rw [HE.out, ha]; rfl)
        clear ha
        go_enter Try.func65, Try.ntmps65
        go_wp2_with fail
        rw [← hW0, ← hq]
        refine (some84_any d r.L k0 k1 A0 n0 p0 q (q + 1) lb lo lc left HN.out W HL.out Hl.out (HC.out W (Below.refl _ _)).1).mono ?_
        rintro e w1 ⟨rfl, hb1⟩
        rw [HA.out]
        go_wp2_with fail
        go_ret
        exact ⟨ret_bool HF.out, HWb.out.trans (hb1.mono HWb.out.size)⟩
      | true =>
        have HA := hid ha
        have HF := hid (show someB 4 (fun k => matchesT r.R (right.take k)) = appliesB r left right by rw [HE.out, ha]; rfl)
        clear ha
        go_enter Try.func65, Try.ntmps65
        go_wp2_with fail
        rw [← hW0, ← hq]
        refine (some84_any d r.L k0 k1 A0 n0 p0 q (q + 1) lb lo lc left HN.out W HL.out Hl.out (HC.out W (Below.refl _ _)).1).mono ?_
        rintro e w1 ⟨rfl, hb1⟩
        rw [HA.out]
        have HB1 := hid hb1
        clear hb1 hW0 hq
        go_wp2_with fail
        refine (some85_any d r.R j0 j1 A1 n1 p1 q (q + 1 + 1) rb ro rc right HM.out 4 HML.out w1 (HR.out.below HB1.out) (Hr.out.below HB1.out) (HC.out w1 HB1.out).2).mono ?_
        rintro e w2 ⟨rfl, hb2⟩
        go_wp2_with fail
        go_ret
        exact ⟨ret_bool HF.out, HWb.out.trans ((HB1.out.trans (hb2.mono HB1.out.size)).mono HWb.out.size)⟩
end Go.Proofs.Ytjcdcmeclnihbaa
