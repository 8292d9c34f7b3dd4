/- The document's Take of a start tag, where one is seen. Conditions: counts within what they may be. -/
import Derived.Test.YtfdfeblcchbcnaaDoorTp
namespace Go.Proofs.YtfdfeblcchbcnaaDoor
open Go.RowKit

set_option maxRecDepth 100000 in
set_option maxHeartbeats 1000000 in
theorem rt_10111 (h p n : Int) (v : Nat) (name : ByteArray) (w : World) (ho : okN ⟨h, p, n⟩) (hn : valOf name.data.toList = v) (hb1 : bitB v 1 = true) (hb2 : bitB v 2 = true) (hal : (h == 0) = true) :
    Calls Tryd.prog 17 #[stV ⟨h, p, n⟩, .bool false, .bool true, .string name] w (RTakeAns w ⟨h, p, n⟩ v false true) := by
  have hv : v < 128 := by rw [← hn]; exact seven_lt _
  obtain ⟨e1, e2, e4, e8, e16, e32, e64, e33⟩ := rem_bits v hv
  have hv0 : (0 : Int) ≤ (v : Int) := by omega
  have HN := hid hn
  clear hn
  obtain ⟨b4, hb4⟩ : ∃ b, bitB v 4 = b := ⟨_, rfl⟩
  obtain ⟨b8, hb8⟩ : ∃ b, bitB v 8 = b := ⟨_, rfl⟩
  obtain ⟨b16, hb16⟩ : ∃ b, bitB v 16 = b := ⟨_, rfl⟩
  obtain ⟨b32, hb32⟩ : ∃ b, bitB v 32 = b := ⟨_, rfl⟩
  obtain ⟨b64, hb64⟩ : ∃ b, bitB v 64 = b := ⟨_, rfl⟩
  have HBS := hid (show bitB v 1 = true ∧ bitB v 2 = true ∧ bitB v 4 = b4 ∧ bitB v 8 = b8 ∧ bitB v 16 = b16 ∧ bitB v 33 = (true || b32) ∧ bitB v 64 = b64 ∧ (h == 0) = true from ⟨hb1, hb2, hb4, hb8, hb16, by rw [e33, hb1, hb32], hb64, hal⟩)
  rw [hb1] at e1
  rw [hb2] at e2
  rw [hb4] at e4
  rw [hb8] at e8
  rw [hb16] at e16
  rw [hb32] at e32
  rw [hb64] at e64
  clear e33 hb1 hb2 hb4 hb8 hb16 hb32 hb64
  have HO := hid ho
  obtain ⟨⟨o1, o2⟩, ⟨o3, o4⟩, o5, o6⟩ := ho
  obtain ⟨w0, hw0⟩ : ∃ w0, w0 = (w.alloc (.cells #[.int .i64 h, .int .i64 p, .int .i64 n] 30)).alloc (.cells #[.int .i64 0, .int .i64 0, .int .i64 0] 30) := ⟨_, rfl⟩
  have HB0 := hid (show Below w.heap.size w w0 by rw [hw0]; exact ((Below.refl _ _).alloc (Nat.le_refl _) _).alloc (by simp) _)
  have hn0 : IsN30 w0 w.heap.size ⟨h, p, n⟩ := by rw [hw0]; exact (heap_alloc_old _ _ (by simp)).trans (heap_alloc_new _ _)
  have hr0 : IsN30 w0 (w.heap.size + 1) ⟨0, 0, 0⟩ := by
    have := heap_alloc_new (w.alloc (.cells #[.int .i64 h, .int .i64 p, .int .i64 n] 30)) (.cells #[.int .i64 0, .int .i64 0, .int .i64 0] 30); rw [show (w.alloc (.cells #[.int .i64 h, .int .i64 p, .int .i64 n] 30)).heap.size = w.heap.size + 1 by simp] at this; rw [hw0]; exact this
  have HN0 := hid hn0
  have HR0 := hid hr0
  clear hn0 hr0
  subst hw0
  go_enter Tryd.func17, Tryd.ntmps17
  go_wp2_with fail
  refine (refOf_val name v HN.out _).mono ?_
  rintro e w1 ⟨rfl, hb1⟩
  have HB1 := hid (HB0.out.trans (hb1.mono HB0.out.size))
  have HN1 := hid (show IsN30 w1 w.heap.size ⟨h, p, n⟩ from (hb1.block _ HN0.out.lt).trans HN0.out)
  have HR1 := hid (show IsN30 w1 (w.heap.size + 1) ⟨0, 0, 0⟩ from (hb1.block _ HR0.out.lt).trans HR0.out)
  obtain ⟨c0, c1, c2⟩ := HN1.out.cells
  clear hb1 HB0 HN0 HR0
  go_wp2_with fail
  have E8 := hid e8
  have E16 := hid e16
  have HAL := hid hal
  clear e1 e2 e8 e16 e32 e64 hal o3 o4 o5 o6
  obtain ⟨P, hP⟩ : ∃ P, P = w.heap.size := ⟨_, rfl⟩
  have HP := hid hP
  rw [← hP] at HN1 HR1 c0 c1 c2 ⊢
  clear hP
  have hq1 : (v : Int).tdiv 4 = (v : Int) / 4 := Int.tdiv_eq_ediv_of_nonneg hv0
  have hq2 : IntKind.i64.wrap ((v : Int) / 4) = (v : Int) / 4 := IntWalk.i64_in _ (by omega)
  have hq3 : ((v : Int) / 4).tmod 2 = (v : Int) / 4 % 2 := Int.tmod_eq_emod_of_nonneg (by omega)
  have hq4 : IntKind.i64.wrap ((v : Int) / 4 % 2) = (v : Int) / 4 % 2 := IntWalk.i64_in _ (by omega)
  go_region_held3 (fun Y => Y.cell? ⟨P, 0, none⟩ = some (.int .i64 h) ∧ Y.cell? ⟨P, 1, none⟩ = some (.int .i64 p) ∧ Y.cell? ⟨P, 2, none⟩ = some (.int .i64 n))
    (exact IsN30.cells (s := ⟨h, p, n⟩) (keep30 HN1.out (by (repeat' (first | assumption | exact Below.refl _ _ | refine Below.drew ?_ | refine Below.alloc ?_ ?_ _ | refine Below.setCell ?_ ?_ _)) <;> (first | omega | (simp <;> omega)))))
    (first | (go_at_call 26; refine (turn_any h b4 (0) ⟨o1, o2⟩ (by omega) _).mono ?_; rintro e w2 ⟨rfl, rfl⟩))
  all_goals
    rename_i hHeld
    clear hHeld
    obtain ⟨g, hg⟩ : ∃ g, g = w1.heap.size := ⟨_, rfl⟩
    have HG := hid hg
    rw [← hg]
    clear hg
    generalize hW2 : (World.drew _) = W2
    have hgl : P + 1 < g := by rw [HG.out]; exact HR1.out.lt
    have HA2 := hid (show IsN30 W2 g ⟨turnI h b4 (0), p, n⟩ by rw [← hW2, HG.out]; exact heap_alloc_new _ _)
    have HS2 := hid (show IsN30 W2 P ⟨h, p, n⟩ by rw [← hW2]; exact (heap_alloc_old _ _ (by exact HN1.out.lt)).trans HN1.out)
    have HR2 := hid (show IsN30 W2 (P + 1) ⟨0, 0, 0⟩ by rw [← hW2]; exact (heap_alloc_old _ _ (by exact HR1.out.lt)).trans HR1.out)
    have HB2 := hid (show Below w.heap.size w W2 by rw [← hW2]; exact (HB1.out.alloc HB1.out.size _).drew)
    clear hW2 HR1 HN1 HB1 hq1 hq2 hq3 hq4
    obtain ⟨d0, d1, d2⟩ := HS2.out.cells
    obtain ⟨a0, a1, a2⟩ := HA2.out.cells
    have f1 : W2.frozen? ⟨g, 1, none⟩ = false := frozen_of_row _ _ _ _ _ HA2.out
    have e8 := E8.out
    clear e4
    go_wp2_with fail
    refine (turn_any p b8 (0) HO.out.2.1 (by omega) _).mono ?_
    rintro e w5 ⟨rfl, rfl⟩
    clear e8
    have HA3 := hid (show IsN30 (W2.setCell ⟨g, 1, none⟩ (.int .i64 (turnI p b8 (0)))) g ⟨turnI h b4 (0), turnI p b8 (0), n⟩ from heap_setCell_same _ g 1 _ 30 _ HA2.out)
    have HS3 := hid (show IsN30 (W2.setCell ⟨g, 1, none⟩ (.int .i64 (turnI p b8 (0)))) P ⟨h, p, n⟩ from (heap_setCell_other _ ⟨g, 1, none⟩ P _ (by simp; omega)).trans HS2.out)
    have HR3 := hid (show IsN30 (W2.setCell ⟨g, 1, none⟩ (.int .i64 (turnI p b8 (0)))) (P + 1) ⟨0, 0, 0⟩ from (heap_setCell_other _ ⟨g, 1, none⟩ (P + 1) _ (by simp; omega)).trans HR2.out)
    have HB3 := hid (show Below w.heap.size w (W2.setCell ⟨g, 1, none⟩ (.int .i64 (turnI p b8 (0)))) from Below.setCell HB2.out (by have := HP.out; simp; omega) _)
    obtain ⟨W3, hW3⟩ : ∃ W3, W3 = W2.setCell ⟨g, 1, none⟩ (.int .i64 (turnI p b8 (0))) := ⟨_, rfl⟩
    rw [← hW3] at HA3 HS3 HR3 HB3
    have l2 : (W2.setCell ⟨g, 1, none⟩ (.int .i64 (turnI p b8 (0)))).cell? ⟨P, 2, none⟩ = some (.int .i64 n) := by rw [← hW3]; exact HS3.out.cells.2.2
    have hW3' := hid hW3
    clear hW3 d0 d1 d2 HA2 HS2 HR2 HB2
    have e16 := E16.out
    go_wp2_with fail
    refine (turn_any n b16 (0) HO.out.2.2 (by omega) _).mono ?_
    rintro e w6 ⟨rfl, rfl⟩
    clear e16 l2 f1 a0 a1 a2
    rw [← hW3'.out]
    obtain ⟨a0, a1, a2⟩ := HA3.out.cells
    have f2 : W3.frozen? ⟨g, 2, none⟩ = false := frozen_of_row _ _ _ _ _ HA3.out
    have HA4 := hid (show IsN30 (W3.setCell ⟨g, 2, none⟩ (.int .i64 (turnI n b16 (0)))) g ⟨turnI h b4 (0), turnI p b8 (0), turnI n b16 (0)⟩ from heap_setCell_same _ g 2 _ 30 _ HA3.out)
    have HR4 := hid (show IsN30 (W3.setCell ⟨g, 2, none⟩ (.int .i64 (turnI n b16 (0)))) (P + 1) ⟨0, 0, 0⟩ from (heap_setCell_other _ ⟨g, 2, none⟩ (P + 1) _ (by simp; omega)).trans HR3.out)
    have HB4 := hid (show Below w.heap.size w (W3.setCell ⟨g, 2, none⟩ (.int .i64 (turnI n b16 (0)))) from Below.setCell HB3.out (by have := HP.out; simp; omega) _)
    obtain ⟨x0, x1, x2⟩ := HA4.out.cells
    obtain ⟨a, ha⟩ : ∃ a, a = turnI h b4 (0) := ⟨_, rfl⟩
    obtain ⟨b, hb⟩ : ∃ b, b = turnI p b8 (0) := ⟨_, rfl⟩
    obtain ⟨c, hc⟩ : ∃ c, c = turnI n b16 (0) := ⟨_, rfl⟩
    have HABC := hid (show a = turnI h b4 (0) ∧ b = turnI p b8 (0) ∧ c = turnI n b16 (0) from ⟨ha, hb, hc⟩)
    rw [← ha] at x0 HA4 HA3 a0 ⊢
    rw [← hb] at x1 HA4 HA3 a1 ⊢
    rw [← hc] at x0 x1 x2 HA4 HR4 HB4 ⊢
    clear ha hb hc
    have R1 := hid (show IsN30 ((W3.setCell ⟨g, 2, none⟩ (.int .i64 c)).setCell ⟨P + 1, 0, none⟩ (.int .i64 a)) (P + 1) ⟨a, 0, 0⟩ from heap_setCell_same _ (P + 1) 0 _ 30 _ HR4.out)
    have R2 := hid (show IsN30 (((W3.setCell ⟨g, 2, none⟩ (.int .i64 c)).setCell ⟨P + 1, 0, none⟩ (.int .i64 a)).setCell ⟨P + 1, 1, none⟩ (.int .i64 b)) (P + 1) ⟨a, b, 0⟩ from heap_setCell_same _ (P + 1) 1 _ 30 _ R1.out)
    have R3 := hid (show IsN30 ((((W3.setCell ⟨g, 2, none⟩ (.int .i64 c)).setCell ⟨P + 1, 0, none⟩ (.int .i64 a)).setCell ⟨P + 1, 1, none⟩ (.int .i64 b)).setCell ⟨P + 1, 2, none⟩ (.int .i64 c)) (P + 1) ⟨a, b, c⟩ from heap_setCell_same _ (P + 1) 2 _ 30 _ R2.out)
    have HB5 := hid (show Below w.heap.size w ((((W3.setCell ⟨g, 2, none⟩ (.int .i64 c)).setCell ⟨P + 1, 0, none⟩ (.int .i64 a)).setCell ⟨P + 1, 1, none⟩ (.int .i64 b)).setCell ⟨P + 1, 2, none⟩ (.int .i64 c)) from
      Below.setCell (Below.setCell (Below.setCell HB4.out (by have := HP.out; simp; omega) _) (by have := HP.out; simp; omega) _) (by have := HP.out; simp; omega) _)
    obtain ⟨r0, _, _⟩ := HR4.out.cells
    have fr0 : (W3.setCell ⟨g, 2, none⟩ (.int .i64 c)).frozen? ⟨P + 1, 0, none⟩ = false := frozen_of_row _ _ _ _ _ HR4.out
    obtain ⟨_, r1, _⟩ := R1.out.cells
    have fr1 : ((W3.setCell ⟨g, 2, none⟩ (.int .i64 c)).setCell ⟨P + 1, 0, none⟩ (.int .i64 a)).frozen? ⟨P + 1, 1, none⟩ = false := frozen_of_row _ _ _ _ _ R1.out
    obtain ⟨_, _, r2⟩ := R2.out.cells
    have fr2 : (((W3.setCell ⟨g, 2, none⟩ (.int .i64 c)).setCell ⟨P + 1, 0, none⟩ (.int .i64 a)).setCell ⟨P + 1, 1, none⟩ (.int .i64 b)).frozen? ⟨P + 1, 2, none⟩ = false := frozen_of_row _ _ _ _ _ R2.out
    obtain ⟨s0, s1, s2⟩ := R3.out.cells
    go_wp2_with fail
    have fin := hid (rt_ans (v := v) false true HBS.out HO.out)
    have habc := HABC.out
    obtain ⟨t1, t2, t3⟩ := fin.out
    refine bodyPost_ret (v := .tuple #[.agg #[.int .i64 a, .int .i64 b, .int .i64 c], .bool true, .bool b64]) ?_ rfl ⟨?_, HB5.out⟩
    · simp [results, Tryd.results17, go_sem, s0, s1, s2]
    · obtain ⟨rfl, rfl, rfl⟩ := habc
      rw [t1, t2, t3]
      rfl

set_option maxRecDepth 100000 in
set_option maxHeartbeats 1000000 in
theorem rt_10110 (h p n : Int) (v : Nat) (name : ByteArray) (w : World) (ho : okN ⟨h, p, n⟩) (hn : valOf name.data.toList = v) (hb1 : bitB v 1 = false) (hb2 : bitB v 2 = true) (hal : (h == 0) = true) :
    Calls Tryd.prog 17 #[stV ⟨h, p, n⟩, .bool false, .bool true, .string name] w (RTakeAns w ⟨h, p, n⟩ v false true) := by
  have hv : v < 128 := by rw [← hn]; exact seven_lt _
  obtain ⟨e1, e2, e4, e8, e16, e32, e64, e33⟩ := rem_bits v hv
  have hv0 : (0 : Int) ≤ (v : Int) := by omega
  have HN := hid hn
  clear hn
  obtain ⟨b4, hb4⟩ : ∃ b, bitB v 4 = b := ⟨_, rfl⟩
  obtain ⟨b8, hb8⟩ : ∃ b, bitB v 8 = b := ⟨_, rfl⟩
  obtain ⟨b16, hb16⟩ : ∃ b, bitB v 16 = b := ⟨_, rfl⟩
  obtain ⟨b32, hb32⟩ : ∃ b, bitB v 32 = b := ⟨_, rfl⟩
  obtain ⟨b64, hb64⟩ : ∃ b, bitB v 64 = b := ⟨_, rfl⟩
  have HBS := hid (show bitB v 1 = false ∧ bitB v 2 = true ∧ bitB v 4 = b4 ∧ bitB v 8 = b8 ∧ bitB v 16 = b16 ∧ bitB v 33 = (false || b32) ∧ bitB v 64 = b64 ∧ (h == 0) = true from ⟨hb1, hb2, hb4, hb8, hb16, by rw [e33, hb1, hb32], hb64, hal⟩)
  rw [hb1] at e1
  rw [hb2] at e2
  rw [hb4] at e4
  rw [hb8] at e8
  rw [hb16] at e16
  rw [hb32] at e32
  rw [hb64] at e64
  clear e33 hb1 hb2 hb4 hb8 hb16 hb32 hb64
  have HO := hid ho
  obtain ⟨⟨o1, o2⟩, ⟨o3, o4⟩, o5, o6⟩ := ho
  obtain ⟨w0, hw0⟩ : ∃ w0, w0 = (w.alloc (.cells #[.int .i64 h, .int .i64 p, .int .i64 n] 30)).alloc (.cells #[.int .i64 0, .int .i64 0, .int .i64 0] 30) := ⟨_, rfl⟩
  have HB0 := hid (show Below w.heap.size w w0 by rw [hw0]; exact ((Below.refl _ _).alloc (Nat.le_refl _) _).alloc (by simp) _)
  have hn0 : IsN30 w0 w.heap.size ⟨h, p, n⟩ := by rw [hw0]; exact (heap_alloc_old _ _ (by simp)).trans (heap_alloc_new _ _)
  have hr0 : IsN30 w0 (w.heap.size + 1) ⟨0, 0, 0⟩ := by
    have := heap_alloc_new (w.alloc (.cells #[.int .i64 h, .int .i64 p, .int .i64 n] 30)) (.cells #[.int .i64 0, .int .i64 0, .int .i64 0] 30); rw [show (w.alloc (.cells #[.int .i64 h, .int .i64 p, .int .i64 n] 30)).heap.size = w.heap.size + 1 by simp] at this; rw [hw0]; exact this
  have HN0 := hid hn0
  have HR0 := hid hr0
  clear hn0 hr0
  subst hw0
  go_enter Tryd.func17, Tryd.ntmps17
  go_wp2_with fail
  refine (refOf_val name v HN.out _).mono ?_
  rintro e w1 ⟨rfl, hb1⟩
  have HB1 := hid (HB0.out.trans (hb1.mono HB0.out.size))
  have HN1 := hid (show IsN30 w1 w.heap.size ⟨h, p, n⟩ from (hb1.block _ HN0.out.lt).trans HN0.out)
  have HR1 := hid (show IsN30 w1 (w.heap.size + 1) ⟨0, 0, 0⟩ from (hb1.block _ HR0.out.lt).trans HR0.out)
  obtain ⟨c0, c1, c2⟩ := HN1.out.cells
  clear hb1 HB0 HN0 HR0
  go_wp2_with fail
  have E8 := hid e8
  have E16 := hid e16
  have HAL := hid hal
  clear e1 e2 e8 e16 e32 e64 hal o3 o4 o5 o6
  obtain ⟨P, hP⟩ : ∃ P, P = w.heap.size := ⟨_, rfl⟩
  have HP := hid hP
  rw [← hP] at HN1 HR1 c0 c1 c2 ⊢
  clear hP
  have hq1 : (v : Int).tdiv 4 = (v : Int) / 4 := Int.tdiv_eq_ediv_of_nonneg hv0
  have hq2 : IntKind.i64.wrap ((v : Int) / 4) = (v : Int) / 4 := IntWalk.i64_in _ (by omega)
  have hq3 : ((v : Int) / 4).tmod 2 = (v : Int) / 4 % 2 := Int.tmod_eq_emod_of_nonneg (by omega)
  have hq4 : IntKind.i64.wrap ((v : Int) / 4 % 2) = (v : Int) / 4 % 2 := IntWalk.i64_in _ (by omega)
  go_region_held3 (fun Y => Y.cell? ⟨P, 0, none⟩ = some (.int .i64 h) ∧ Y.cell? ⟨P, 1, none⟩ = some (.int .i64 p) ∧ Y.cell? ⟨P, 2, none⟩ = some (.int .i64 n))
    (exact IsN30.cells (s := ⟨h, p, n⟩) (keep30 HN1.out (by (repeat' (first | assumption | exact Below.refl _ _ | refine Below.drew ?_ | refine Below.alloc ?_ ?_ _ | refine Below.setCell ?_ ?_ _)) <;> (first | omega | (simp <;> omega)))))
    (first | (go_at_call 26; refine (turn_any h b4 (0) ⟨o1, o2⟩ (by omega) _).mono ?_; rintro e w2 ⟨rfl, rfl⟩))
  all_goals
    rename_i hHeld
    clear hHeld
    obtain ⟨g, hg⟩ : ∃ g, g = w1.heap.size := ⟨_, rfl⟩
    have HG := hid hg
    rw [← hg]
    clear hg
    generalize hW2 : (World.drew _) = W2
    have hgl : P + 1 < g := by rw [HG.out]; exact HR1.out.lt
    have HA2 := hid (show IsN30 W2 g ⟨turnI h b4 (0), p, n⟩ by rw [← hW2, HG.out]; exact heap_alloc_new _ _)
    have HS2 := hid (show IsN30 W2 P ⟨h, p, n⟩ by rw [← hW2]; exact (heap_alloc_old _ _ (by exact HN1.out.lt)).trans HN1.out)
    have HR2 := hid (show IsN30 W2 (P + 1) ⟨0, 0, 0⟩ by rw [← hW2]; exact (heap_alloc_old _ _ (by exact HR1.out.lt)).trans HR1.out)
    have HB2 := hid (show Below w.heap.size w W2 by rw [← hW2]; exact (HB1.out.alloc HB1.out.size _).drew)
    clear hW2 HR1 HN1 HB1 hq1 hq2 hq3 hq4
    obtain ⟨d0, d1, d2⟩ := HS2.out.cells
    obtain ⟨a0, a1, a2⟩ := HA2.out.cells
    have f1 : W2.frozen? ⟨g, 1, none⟩ = false := frozen_of_row _ _ _ _ _ HA2.out
    have e8 := E8.out
    clear e4
    go_wp2_with fail
    refine (turn_any p b8 (0) HO.out.2.1 (by omega) _).mono ?_
    rintro e w5 ⟨rfl, rfl⟩
    clear e8
    have HA3 := hid (show IsN30 (W2.setCell ⟨g, 1, none⟩ (.int .i64 (turnI p b8 (0)))) g ⟨turnI h b4 (0), turnI p b8 (0), n⟩ from heap_setCell_same _ g 1 _ 30 _ HA2.out)
    have HS3 := hid (show IsN30 (W2.setCell ⟨g, 1, none⟩ (.int .i64 (turnI p b8 (0)))) P ⟨h, p, n⟩ from (heap_setCell_other _ ⟨g, 1, none⟩ P _ (by simp; omega)).trans HS2.out)
    have HR3 := hid (show IsN30 (W2.setCell ⟨g, 1, none⟩ (.int .i64 (turnI p b8 (0)))) (P + 1) ⟨0, 0, 0⟩ from (heap_setCell_other _ ⟨g, 1, none⟩ (P + 1) _ (by simp; omega)).trans HR2.out)
    have HB3 := hid (show Below w.heap.size w (W2.setCell ⟨g, 1, none⟩ (.int .i64 (turnI p b8 (0)))) from Below.setCell HB2.out (by have := HP.out; simp; omega) _)
    obtain ⟨W3, hW3⟩ : ∃ W3, W3 = W2.setCell ⟨g, 1, none⟩ (.int .i64 (turnI p b8 (0))) := ⟨_, rfl⟩
    rw [← hW3] at HA3 HS3 HR3 HB3
    have l2 : (W2.setCell ⟨g, 1, none⟩ (.int .i64 (turnI p b8 (0)))).cell? ⟨P, 2, none⟩ = some (.int .i64 n) := by rw [← hW3]; exact HS3.out.cells.2.2
    have hW3' := hid hW3
    clear hW3 d0 d1 d2 HA2 HS2 HR2 HB2
    have e16 := E16.out
    go_wp2_with fail
    refine (turn_any n b16 (0) HO.out.2.2 (by omega) _).mono ?_
    rintro e w6 ⟨rfl, rfl⟩
    clear e16 l2 f1 a0 a1 a2
    rw [← hW3'.out]
    obtain ⟨a0, a1, a2⟩ := HA3.out.cells
    have f2 : W3.frozen? ⟨g, 2, none⟩ = false := frozen_of_row _ _ _ _ _ HA3.out
    have HA4 := hid (show IsN30 (W3.setCell ⟨g, 2, none⟩ (.int .i64 (turnI n b16 (0)))) g ⟨turnI h b4 (0), turnI p b8 (0), turnI n b16 (0)⟩ from heap_setCell_same _ g 2 _ 30 _ HA3.out)
    have HR4 := hid (show IsN30 (W3.setCell ⟨g, 2, none⟩ (.int .i64 (turnI n b16 (0)))) (P + 1) ⟨0, 0, 0⟩ from (heap_setCell_other _ ⟨g, 2, none⟩ (P + 1) _ (by simp; omega)).trans HR3.out)
    have HB4 := hid (show Below w.heap.size w (W3.setCell ⟨g, 2, none⟩ (.int .i64 (turnI n b16 (0)))) from Below.setCell HB3.out (by have := HP.out; simp; omega) _)
    obtain ⟨x0, x1, x2⟩ := HA4.out.cells
    obtain ⟨a, ha⟩ : ∃ a, a = turnI h b4 (0) := ⟨_, rfl⟩
    obtain ⟨b, hb⟩ : ∃ b, b = turnI p b8 (0) := ⟨_, rfl⟩
    obtain ⟨c, hc⟩ : ∃ c, c = turnI n b16 (0) := ⟨_, rfl⟩
    have HABC := hid (show a = turnI h b4 (0) ∧ b = turnI p b8 (0) ∧ c = turnI n b16 (0) from ⟨ha, hb, hc⟩)
    rw [← ha] at x0 HA4 HA3 a0 ⊢
    rw [← hb] at x1 HA4 HA3 a1 ⊢
    rw [← hc] at x0 x1 x2 HA4 HR4 HB4 ⊢
    clear ha hb hc
    have R1 := hid (show IsN30 ((W3.setCell ⟨g, 2, none⟩ (.int .i64 c)).setCell ⟨P + 1, 0, none⟩ (.int .i64 a)) (P + 1) ⟨a, 0, 0⟩ from heap_setCell_same _ (P + 1) 0 _ 30 _ HR4.out)
    have R2 := hid (show IsN30 (((W3.setCell ⟨g, 2, none⟩ (.int .i64 c)).setCell ⟨P + 1, 0, none⟩ (.int .i64 a)).setCell ⟨P + 1, 1, none⟩ (.int .i64 b)) (P + 1) ⟨a, b, 0⟩ from heap_setCell_same _ (P + 1) 1 _ 30 _ R1.out)
    have R3 := hid (show IsN30 ((((W3.setCell ⟨g, 2, none⟩ (.int .i64 c)).setCell ⟨P + 1, 0, none⟩ (.int .i64 a)).setCell ⟨P + 1, 1, none⟩ (.int .i64 b)).setCell ⟨P + 1, 2, none⟩ (.int .i64 c)) (P + 1) ⟨a, b, c⟩ from heap_setCell_same _ (P + 1) 2 _ 30 _ R2.out)
    have HB5 := hid (show Below w.heap.size w ((((W3.setCell ⟨g, 2, none⟩ (.int .i64 c)).setCell ⟨P + 1, 0, none⟩ (.int .i64 a)).setCell ⟨P + 1, 1, none⟩ (.int .i64 b)).setCell ⟨P + 1, 2, none⟩ (.int .i64 c)) from
      Below.setCell (Below.setCell (Below.setCell HB4.out (by have := HP.out; simp; omega) _) (by have := HP.out; simp; omega) _) (by have := HP.out; simp; omega) _)
    obtain ⟨r0, _, _⟩ := HR4.out.cells
    have fr0 : (W3.setCell ⟨g, 2, none⟩ (.int .i64 c)).frozen? ⟨P + 1, 0, none⟩ = false := frozen_of_row _ _ _ _ _ HR4.out
    obtain ⟨_, r1, _⟩ := R1.out.cells
    have fr1 : ((W3.setCell ⟨g, 2, none⟩ (.int .i64 c)).setCell ⟨P + 1, 0, none⟩ (.int .i64 a)).frozen? ⟨P + 1, 1, none⟩ = false := frozen_of_row _ _ _ _ _ R1.out
    obtain ⟨_, _, r2⟩ := R2.out.cells
    have fr2 : (((W3.setCell ⟨g, 2, none⟩ (.int .i64 c)).setCell ⟨P + 1, 0, none⟩ (.int .i64 a)).setCell ⟨P + 1, 1, none⟩ (.int .i64 b)).frozen? ⟨P + 1, 2, none⟩ = false := frozen_of_row _ _ _ _ _ R2.out
    obtain ⟨s0, s1, s2⟩ := R3.out.cells
    go_wp2_with fail
    have fin := hid (rt_ans (v := v) false true HBS.out HO.out)
    have habc := HABC.out
    obtain ⟨t1, t2, t3⟩ := fin.out
    refine bodyPost_ret (v := .tuple #[.agg #[.int .i64 a, .int .i64 b, .int .i64 c], .bool b32, .bool b64]) ?_ rfl ⟨?_, HB5.out⟩
    · simp [results, Tryd.results17, go_sem, s0, s1, s2]
    · obtain ⟨rfl, rfl, rfl⟩ := habc
      rw [t1, t2, t3]
      rfl

set_option maxRecDepth 100000 in
set_option maxHeartbeats 1000000 in
theorem rt_10101 (h p n : Int) (v : Nat) (name : ByteArray) (w : World) (ho : okN ⟨h, p, n⟩) (hn : valOf name.data.toList = v) (hb1 : bitB v 1 = true) (hb2 : bitB v 2 = true) (hal : (h == 0) = true) :
    Calls Tryd.prog 17 #[stV ⟨h, p, n⟩, .bool false, .bool false, .string name] w (RTakeAns w ⟨h, p, n⟩ v false false) := by
  have hv : v < 128 := by rw [← hn]; exact seven_lt _
  obtain ⟨e1, e2, e4, e8, e16, e32, e64, e33⟩ := rem_bits v hv
  have hv0 : (0 : Int) ≤ (v : Int) := by omega
  have HN := hid hn
  clear hn
  obtain ⟨b4, hb4⟩ : ∃ b, bitB v 4 = b := ⟨_, rfl⟩
  obtain ⟨b8, hb8⟩ : ∃ b, bitB v 8 = b := ⟨_, rfl⟩
  obtain ⟨b16, hb16⟩ : ∃ b, bitB v 16 = b := ⟨_, rfl⟩
  obtain ⟨b32, hb32⟩ : ∃ b, bitB v 32 = b := ⟨_, rfl⟩
  obtain ⟨b64, hb64⟩ : ∃ b, bitB v 64 = b := ⟨_, rfl⟩
  have HBS := hid (show bitB v 1 = true ∧ bitB v 2 = true ∧ bitB v 4 = b4 ∧ bitB v 8 = b8 ∧ bitB v 16 = b16 ∧ bitB v 33 = (true || b32) ∧ bitB v 64 = b64 ∧ (h == 0) = true from ⟨hb1, hb2, hb4, hb8, hb16, by rw [e33, hb1, hb32], hb64, hal⟩)
  rw [hb1] at e1
  rw [hb2] at e2
  rw [hb4] at e4
  rw [hb8] at e8
  rw [hb16] at e16
  rw [hb32] at e32
  rw [hb64] at e64
  clear e33 hb1 hb2 hb4 hb8 hb16 hb32 hb64
  have HO := hid ho
  obtain ⟨⟨o1, o2⟩, ⟨o3, o4⟩, o5, o6⟩ := ho
  obtain ⟨w0, hw0⟩ : ∃ w0, w0 = (w.alloc (.cells #[.int .i64 h, .int .i64 p, .int .i64 n] 30)).alloc (.cells #[.int .i64 0, .int .i64 0, .int .i64 0] 30) := ⟨_, rfl⟩
  have HB0 := hid (show Below w.heap.size w w0 by rw [hw0]; exact ((Below.refl _ _).alloc (Nat.le_refl _) _).alloc (by simp) _)
  have hn0 : IsN30 w0 w.heap.size ⟨h, p, n⟩ := by rw [hw0]; exact (heap_alloc_old _ _ (by simp)).trans (heap_alloc_new _ _)
  have hr0 : IsN30 w0 (w.heap.size + 1) ⟨0, 0, 0⟩ := by
    have := heap_alloc_new (w.alloc (.cells #[.int .i64 h, .int .i64 p, .int .i64 n] 30)) (.cells #[.int .i64 0, .int .i64 0, .int .i64 0] 30); rw [show (w.alloc (.cells #[.int .i64 h, .int .i64 p, .int .i64 n] 30)).heap.size = w.heap.size + 1 by simp] at this; rw [hw0]; exact this
  have HN0 := hid hn0
  have HR0 := hid hr0
  clear hn0 hr0
  subst hw0
  go_enter Tryd.func17, Tryd.ntmps17
  go_wp2_with fail
  refine (refOf_val name v HN.out _).mono ?_
  rintro e w1 ⟨rfl, hb1⟩
  have HB1 := hid (HB0.out.trans (hb1.mono HB0.out.size))
  have HN1 := hid (show IsN30 w1 w.heap.size ⟨h, p, n⟩ from (hb1.block _ HN0.out.lt).trans HN0.out)
  have HR1 := hid (show IsN30 w1 (w.heap.size + 1) ⟨0, 0, 0⟩ from (hb1.block _ HR0.out.lt).trans HR0.out)
  obtain ⟨c0, c1, c2⟩ := HN1.out.cells
  clear hb1 HB0 HN0 HR0
  go_wp2_with fail
  have E8 := hid e8
  have E16 := hid e16
  have HAL := hid hal
  clear e1 e2 e8 e16 e32 e64 hal o3 o4 o5 o6
  obtain ⟨P, hP⟩ : ∃ P, P = w.heap.size := ⟨_, rfl⟩
  have HP := hid hP
  rw [← hP] at HN1 HR1 c0 c1 c2 ⊢
  clear hP
  have hq1 : (v : Int).tdiv 4 = (v : Int) / 4 := Int.tdiv_eq_ediv_of_nonneg hv0
  have hq2 : IntKind.i64.wrap ((v : Int) / 4) = (v : Int) / 4 := IntWalk.i64_in _ (by omega)
  have hq3 : ((v : Int) / 4).tmod 2 = (v : Int) / 4 % 2 := Int.tmod_eq_emod_of_nonneg (by omega)
  have hq4 : IntKind.i64.wrap ((v : Int) / 4 % 2) = (v : Int) / 4 % 2 := IntWalk.i64_in _ (by omega)
  go_region_held3 (fun Y => Y.cell? ⟨P, 0, none⟩ = some (.int .i64 h) ∧ Y.cell? ⟨P, 1, none⟩ = some (.int .i64 p) ∧ Y.cell? ⟨P, 2, none⟩ = some (.int .i64 n))
    (exact IsN30.cells (s := ⟨h, p, n⟩) (keep30 HN1.out (by (repeat' (first | assumption | exact Below.refl _ _ | refine Below.drew ?_ | refine Below.alloc ?_ ?_ _ | refine Below.setCell ?_ ?_ _)) <;> (first | omega | (simp <;> omega)))))
    (first | (go_at_call 26; refine (turn_any h b4 (0) ⟨o1, o2⟩ (by omega) _).mono ?_; rintro e w2 ⟨rfl, rfl⟩))
  all_goals
    rename_i hHeld
    clear hHeld
    obtain ⟨g, hg⟩ : ∃ g, g = w1.heap.size := ⟨_, rfl⟩
    have HG := hid hg
    rw [← hg]
    clear hg
    generalize hW2 : (World.drew _) = W2
    have hgl : P + 1 < g := by rw [HG.out]; exact HR1.out.lt
    have HA2 := hid (show IsN30 W2 g ⟨turnI h b4 (0), p, n⟩ by rw [← hW2, HG.out]; exact heap_alloc_new _ _)
    have HS2 := hid (show IsN30 W2 P ⟨h, p, n⟩ by rw [← hW2]; exact (heap_alloc_old _ _ (by exact HN1.out.lt)).trans HN1.out)
    have HR2 := hid (show IsN30 W2 (P + 1) ⟨0, 0, 0⟩ by rw [← hW2]; exact (heap_alloc_old _ _ (by exact HR1.out.lt)).trans HR1.out)
    have HB2 := hid (show Below w.heap.size w W2 by rw [← hW2]; exact (HB1.out.alloc HB1.out.size _).drew)
    clear hW2 HR1 HN1 HB1 hq1 hq2 hq3 hq4
    obtain ⟨d0, d1, d2⟩ := HS2.out.cells
    obtain ⟨a0, a1, a2⟩ := HA2.out.cells
    have f1 : W2.frozen? ⟨g, 1, none⟩ = false := frozen_of_row _ _ _ _ _ HA2.out
    have e8 := E8.out
    clear e4
    go_wp2_with fail
    refine (turn_any p b8 (0) HO.out.2.1 (by omega) _).mono ?_
    rintro e w5 ⟨rfl, rfl⟩
    clear e8
    have HA3 := hid (show IsN30 (W2.setCell ⟨g, 1, none⟩ (.int .i64 (turnI p b8 (0)))) g ⟨turnI h b4 (0), turnI p b8 (0), n⟩ from heap_setCell_same _ g 1 _ 30 _ HA2.out)
    have HS3 := hid (show IsN30 (W2.setCell ⟨g, 1, none⟩ (.int .i64 (turnI p b8 (0)))) P ⟨h, p, n⟩ from (heap_setCell_other _ ⟨g, 1, none⟩ P _ (by simp; omega)).trans HS2.out)
    have HR3 := hid (show IsN30 (W2.setCell ⟨g, 1, none⟩ (.int .i64 (turnI p b8 (0)))) (P + 1) ⟨0, 0, 0⟩ from (heap_setCell_other _ ⟨g, 1, none⟩ (P + 1) _ (by simp; omega)).trans HR2.out)
    have HB3 := hid (show Below w.heap.size w (W2.setCell ⟨g, 1, none⟩ (.int .i64 (turnI p b8 (0)))) from Below.setCell HB2.out (by have := HP.out; simp; omega) _)
    obtain ⟨W3, hW3⟩ : ∃ W3, W3 = W2.setCell ⟨g, 1, none⟩ (.int .i64 (turnI p b8 (0))) := ⟨_, rfl⟩
    rw [← hW3] at HA3 HS3 HR3 HB3
    have l2 : (W2.setCell ⟨g, 1, none⟩ (.int .i64 (turnI p b8 (0)))).cell? ⟨P, 2, none⟩ = some (.int .i64 n) := by rw [← hW3]; exact HS3.out.cells.2.2
    have hW3' := hid hW3
    clear hW3 d0 d1 d2 HA2 HS2 HR2 HB2
    have e16 := E16.out
    go_wp2_with fail
    refine (turn_any n b16 (0) HO.out.2.2 (by omega) _).mono ?_
    rintro e w6 ⟨rfl, rfl⟩
    clear e16 l2 f1 a0 a1 a2
    rw [← hW3'.out]
    obtain ⟨a0, a1, a2⟩ := HA3.out.cells
    have f2 : W3.frozen? ⟨g, 2, none⟩ = false := frozen_of_row _ _ _ _ _ HA3.out
    have HA4 := hid (show IsN30 (W3.setCell ⟨g, 2, none⟩ (.int .i64 (turnI n b16 (0)))) g ⟨turnI h b4 (0), turnI p b8 (0), turnI n b16 (0)⟩ from heap_setCell_same _ g 2 _ 30 _ HA3.out)
    have HR4 := hid (show IsN30 (W3.setCell ⟨g, 2, none⟩ (.int .i64 (turnI n b16 (0)))) (P + 1) ⟨0, 0, 0⟩ from (heap_setCell_other _ ⟨g, 2, none⟩ (P + 1) _ (by simp; omega)).trans HR3.out)
    have HB4 := hid (show Below w.heap.size w (W3.setCell ⟨g, 2, none⟩ (.int .i64 (turnI n b16 (0)))) from Below.setCell HB3.out (by have := HP.out; simp; omega) _)
    obtain ⟨x0, x1, x2⟩ := HA4.out.cells
    obtain ⟨a, ha⟩ : ∃ a, a = turnI h b4 (0) := ⟨_, rfl⟩
    obtain ⟨b, hb⟩ : ∃ b, b = turnI p b8 (0) := ⟨_, rfl⟩
    obtain ⟨c, hc⟩ : ∃ c, c = turnI n b16 (0) := ⟨_, rfl⟩
    have HABC := hid (show a = turnI h b4 (0) ∧ b = turnI p b8 (0) ∧ c = turnI n b16 (0) from ⟨ha, hb, hc⟩)
    rw [← ha] at x0 HA4 HA3 a0 ⊢
    rw [← hb] at x1 HA4 HA3 a1 ⊢
    rw [← hc] at x0 x1 x2 HA4 HR4 HB4 ⊢
    clear ha hb hc
    have R1 := hid (show IsN30 ((W3.setCell ⟨g, 2, none⟩ (.int .i64 c)).setCell ⟨P + 1, 0, none⟩ (.int .i64 a)) (P + 1) ⟨a, 0, 0⟩ from heap_setCell_same _ (P + 1) 0 _ 30 _ HR4.out)
    have R2 := hid (show IsN30 (((W3.setCell ⟨g, 2, none⟩ (.int .i64 c)).setCell ⟨P + 1, 0, none⟩ (.int .i64 a)).setCell ⟨P + 1, 1, none⟩ (.int .i64 b)) (P + 1) ⟨a, b, 0⟩ from heap_setCell_same _ (P + 1) 1 _ 30 _ R1.out)
    have R3 := hid (show IsN30 ((((W3.setCell ⟨g, 2, none⟩ (.int .i64 c)).setCell ⟨P + 1, 0, none⟩ (.int .i64 a)).setCell ⟨P + 1, 1, none⟩ (.int .i64 b)).setCell ⟨P + 1, 2, none⟩ (.int .i64 c)) (P + 1) ⟨a, b, c⟩ from heap_setCell_same _ (P + 1) 2 _ 30 _ R2.out)
    have HB5 := hid (show Below w.heap.size w ((((W3.setCell ⟨g, 2, none⟩ (.int .i64 c)).setCell ⟨P + 1, 0, none⟩ (.int .i64 a)).setCell ⟨P + 1, 1, none⟩ (.int .i64 b)).setCell ⟨P + 1, 2, none⟩ (.int .i64 c)) from
      Below.setCell (Below.setCell (Below.setCell HB4.out (by have := HP.out; simp; omega) _) (by have := HP.out; simp; omega) _) (by have := HP.out; simp; omega) _)
    obtain ⟨r0, _, _⟩ := HR4.out.cells
    have fr0 : (W3.setCell ⟨g, 2, none⟩ (.int .i64 c)).frozen? ⟨P + 1, 0, none⟩ = false := frozen_of_row _ _ _ _ _ HR4.out
    obtain ⟨_, r1, _⟩ := R1.out.cells
    have fr1 : ((W3.setCell ⟨g, 2, none⟩ (.int .i64 c)).setCell ⟨P + 1, 0, none⟩ (.int .i64 a)).frozen? ⟨P + 1, 1, none⟩ = false := frozen_of_row _ _ _ _ _ R1.out
    obtain ⟨_, _, r2⟩ := R2.out.cells
    have fr2 : (((W3.setCell ⟨g, 2, none⟩ (.int .i64 c)).setCell ⟨P + 1, 0, none⟩ (.int .i64 a)).setCell ⟨P + 1, 1, none⟩ (.int .i64 b)).frozen? ⟨P + 1, 2, none⟩ = false := frozen_of_row _ _ _ _ _ R2.out
    obtain ⟨s0, s1, s2⟩ := R3.out.cells
    go_wp2_with fail
    have fin := hid (rt_ans (v := v) false false HBS.out HO.out)
    have habc := HABC.out
    obtain ⟨t1, t2, t3⟩ := fin.out
    refine bodyPost_ret (v := .tuple #[.agg #[.int .i64 a, .int .i64 b, .int .i64 c], .bool true, .bool b64]) ?_ rfl ⟨?_, HB5.out⟩
    · simp [results, Tryd.results17, go_sem, s0, s1, s2]
    · obtain ⟨rfl, rfl, rfl⟩ := habc
      rw [t1, t2, t3]
      rfl

set_option maxRecDepth 100000 in
set_option maxHeartbeats 1000000 in
theorem rt_10100 (h p n : Int) (v : Nat) (name : ByteArray) (w : World) (ho : okN ⟨h, p, n⟩) (hn : valOf name.data.toList = v) (hb1 : bitB v 1 = false) (hb2 : bitB v 2 = true) (hal : (h == 0) = true) :
    Calls Tryd.prog 17 #[stV ⟨h, p, n⟩, .bool false, .bool false, .string name] w (RTakeAns w ⟨h, p, n⟩ v false false) := by
  have hv : v < 128 := by rw [← hn]; exact seven_lt _
  obtain ⟨e1, e2, e4, e8, e16, e32, e64, e33⟩ := rem_bits v hv
  have hv0 : (0 : Int) ≤ (v : Int) := by omega
  have HN := hid hn
  clear hn
  obtain ⟨b4, hb4⟩ : ∃ b, bitB v 4 = b := ⟨_, rfl⟩
  obtain ⟨b8, hb8⟩ : ∃ b, bitB v 8 = b := ⟨_, rfl⟩
  obtain ⟨b16, hb16⟩ : ∃ b, bitB v 16 = b := ⟨_, rfl⟩
  obtain ⟨b32, hb32⟩ : ∃ b, bitB v 32 = b := ⟨_, rfl⟩
  obtain ⟨b64, hb64⟩ : ∃ b, bitB v 64 = b := ⟨_, rfl⟩
  have HBS := hid (show bitB v 1 = false ∧ bitB v 2 = true ∧ bitB v 4 = b4 ∧ bitB v 8 = b8 ∧ bitB v 16 = b16 ∧ bitB v 33 = (false || b32) ∧ bitB v 64 = b64 ∧ (h == 0) = true from ⟨hb1, hb2, hb4, hb8, hb16, by rw [e33, hb1, hb32], hb64, hal⟩)
  rw [hb1] at e1
  rw [hb2] at e2
  rw [hb4] at e4
  rw [hb8] at e8
  rw [hb16] at e16
  rw [hb32] at e32
  rw [hb64] at e64
  clear e33 hb1 hb2 hb4 hb8 hb16 hb32 hb64
  have HO := hid ho
  obtain ⟨⟨o1, o2⟩, ⟨o3, o4⟩, o5, o6⟩ := ho
  obtain ⟨w0, hw0⟩ : ∃ w0, w0 = (w.alloc (.cells #[.int .i64 h, .int .i64 p, .int .i64 n] 30)).alloc (.cells #[.int .i64 0, .int .i64 0, .int .i64 0] 30) := ⟨_, rfl⟩
  have HB0 := hid (show Below w.heap.size w w0 by rw [hw0]; exact ((Below.refl _ _).alloc (Nat.le_refl _) _).alloc (by simp) _)
  have hn0 : IsN30 w0 w.heap.size ⟨h, p, n⟩ := by rw [hw0]; exact (heap_alloc_old _ _ (by simp)).trans (heap_alloc_new _ _)
  have hr0 : IsN30 w0 (w.heap.size + 1) ⟨0, 0, 0⟩ := by
    have := heap_alloc_new (w.alloc (.cells #[.int .i64 h, .int .i64 p, .int .i64 n] 30)) (.cells #[.int .i64 0, .int .i64 0, .int .i64 0] 30); rw [show (w.alloc (.cells #[.int .i64 h, .int .i64 p, .int .i64 n] 30)).heap.size = w.heap.size + 1 by simp] at this; rw [hw0]; exact this
  have HN0 := hid hn0
  have HR0 := hid hr0
  clear hn0 hr0
  subst hw0
  go_enter Tryd.func17, Tryd.ntmps17
  go_wp2_with fail
  refine (refOf_val name v HN.out _).mono ?_
  rintro e w1 ⟨rfl, hb1⟩
  have HB1 := hid (HB0.out.trans (hb1.mono HB0.out.size))
  have HN1 := hid (show IsN30 w1 w.heap.size ⟨h, p, n⟩ from (hb1.block _ HN0.out.lt).trans HN0.out)
  have HR1 := hid (show IsN30 w1 (w.heap.size + 1) ⟨0, 0, 0⟩ from (hb1.block _ HR0.out.lt).trans HR0.out)
  obtain ⟨c0, c1, c2⟩ := HN1.out.cells
  clear hb1 HB0 HN0 HR0
  go_wp2_with fail
  have E8 := hid e8
  have E16 := hid e16
  have HAL := hid hal
  clear e1 e2 e8 e16 e32 e64 hal o3 o4 o5 o6
  obtain ⟨P, hP⟩ : ∃ P, P = w.heap.size := ⟨_, rfl⟩
  have HP := hid hP
  rw [← hP] at HN1 HR1 c0 c1 c2 ⊢
  clear hP
  have hq1 : (v : Int).tdiv 4 = (v : Int) / 4 := Int.tdiv_eq_ediv_of_nonneg hv0
  have hq2 : IntKind.i64.wrap ((v : Int) / 4) = (v : Int) / 4 := IntWalk.i64_in _ (by omega)
  have hq3 : ((v : Int) / 4).tmod 2 = (v : Int) / 4 % 2 := Int.tmod_eq_emod_of_nonneg (by omega)
  have hq4 : IntKind.i64.wrap ((v : Int) / 4 % 2) = (v : Int) / 4 % 2 := IntWalk.i64_in _ (by omega)
  go_region_held3 (fun Y => Y.cell? ⟨P, 0, none⟩ = some (.int .i64 h) ∧ Y.cell? ⟨P, 1, none⟩ = some (.int .i64 p) ∧ Y.cell? ⟨P, 2, none⟩ = some (.int .i64 n))
    (exact IsN30.cells (s := ⟨h, p, n⟩) (keep30 HN1.out (by (repeat' (first | assumption | exact Below.refl _ _ | refine Below.drew ?_ | refine Below.alloc ?_ ?_ _ | refine Below.setCell ?_ ?_ _)) <;> (first | omega | (simp <;> omega)))))
    (first | (go_at_call 26; refine (turn_any h b4 (0) ⟨o1, o2⟩ (by omega) _).mono ?_; rintro e w2 ⟨rfl, rfl⟩))
  all_goals
    rename_i hHeld
    clear hHeld
    obtain ⟨g, hg⟩ : ∃ g, g = w1.heap.size := ⟨_, rfl⟩
    have HG := hid hg
    rw [← hg]
    clear hg
    generalize hW2 : (World.drew _) = W2
    have hgl : P + 1 < g := by rw [HG.out]; exact HR1.out.lt
    have HA2 := hid (show IsN30 W2 g ⟨turnI h b4 (0), p, n⟩ by rw [← hW2, HG.out]; exact heap_alloc_new _ _)
    have HS2 := hid (show IsN30 W2 P ⟨h, p, n⟩ by rw [← hW2]; exact (heap_alloc_old _ _ (by exact HN1.out.lt)).trans HN1.out)
    have HR2 := hid (show IsN30 W2 (P + 1) ⟨0, 0, 0⟩ by rw [← hW2]; exact (heap_alloc_old _ _ (by exact HR1.out.lt)).trans HR1.out)
    have HB2 := hid (show Below w.heap.size w W2 by rw [← hW2]; exact (HB1.out.alloc HB1.out.size _).drew)
    clear hW2 HR1 HN1 HB1 hq1 hq2 hq3 hq4
    obtain ⟨d0, d1, d2⟩ := HS2.out.cells
    obtain ⟨a0, a1, a2⟩ := HA2.out.cells
    have f1 : W2.frozen? ⟨g, 1, none⟩ = false := frozen_of_row _ _ _ _ _ HA2.out
    have e8 := E8.out
    clear e4
    go_wp2_with fail
    refine (turn_any p b8 (0) HO.out.2.1 (by omega) _).mono ?_
    rintro e w5 ⟨rfl, rfl⟩
    clear e8
    have HA3 := hid (show IsN30 (W2.setCell ⟨g, 1, none⟩ (.int .i64 (turnI p b8 (0)))) g ⟨turnI h b4 (0), turnI p b8 (0), n⟩ from heap_setCell_same _ g 1 _ 30 _ HA2.out)
    have HS3 := hid (show IsN30 (W2.setCell ⟨g, 1, none⟩ (.int .i64 (turnI p b8 (0)))) P ⟨h, p, n⟩ from (heap_setCell_other _ ⟨g, 1, none⟩ P _ (by simp; omega)).trans HS2.out)
    have HR3 := hid (show IsN30 (W2.setCell ⟨g, 1, none⟩ (.int .i64 (turnI p b8 (0)))) (P + 1) ⟨0, 0, 0⟩ from (heap_setCell_other _ ⟨g, 1, none⟩ (P + 1) _ (by simp; omega)).trans HR2.out)
    have HB3 := hid (show Below w.heap.size w (W2.setCell ⟨g, 1, none⟩ (.int .i64 (turnI p b8 (0)))) from Below.setCell HB2.out (by have := HP.out; simp; omega) _)
    obtain ⟨W3, hW3⟩ : ∃ W3, W3 = W2.setCell ⟨g, 1, none⟩ (.int .i64 (turnI p b8 (0))) := ⟨_, rfl⟩
    rw [← hW3] at HA3 HS3 HR3 HB3
    have l2 : (W2.setCell ⟨g, 1, none⟩ (.int .i64 (turnI p b8 (0)))).cell? ⟨P, 2, none⟩ = some (.int .i64 n) := by rw [← hW3]; exact HS3.out.cells.2.2
    have hW3' := hid hW3
    clear hW3 d0 d1 d2 HA2 HS2 HR2 HB2
    have e16 := E16.out
    go_wp2_with fail
    refine (turn_any n b16 (0) HO.out.2.2 (by omega) _).mono ?_
    rintro e w6 ⟨rfl, rfl⟩
    clear e16 l2 f1 a0 a1 a2
    rw [← hW3'.out]
    obtain ⟨a0, a1, a2⟩ := HA3.out.cells
    have f2 : W3.frozen? ⟨g, 2, none⟩ = false := frozen_of_row _ _ _ _ _ HA3.out
    have HA4 := hid (show IsN30 (W3.setCell ⟨g, 2, none⟩ (.int .i64 (turnI n b16 (0)))) g ⟨turnI h b4 (0), turnI p b8 (0), turnI n b16 (0)⟩ from heap_setCell_same _ g 2 _ 30 _ HA3.out)
    have HR4 := hid (show IsN30 (W3.setCell ⟨g, 2, none⟩ (.int .i64 (turnI n b16 (0)))) (P + 1) ⟨0, 0, 0⟩ from (heap_setCell_other _ ⟨g, 2, none⟩ (P + 1) _ (by simp; omega)).trans HR3.out)
    have HB4 := hid (show Below w.heap.size w (W3.setCell ⟨g, 2, none⟩ (.int .i64 (turnI n b16 (0)))) from Below.setCell HB3.out (by have := HP.out; simp; omega) _)
    obtain ⟨x0, x1, x2⟩ := HA4.out.cells
    obtain ⟨a, ha⟩ : ∃ a, a = turnI h b4 (0) := ⟨_, rfl⟩
    obtain ⟨b, hb⟩ : ∃ b, b = turnI p b8 (0) := ⟨_, rfl⟩
    obtain ⟨c, hc⟩ : ∃ c, c = turnI n b16 (0) := ⟨_, rfl⟩
    have HABC := hid (show a = turnI h b4 (0) ∧ b = turnI p b8 (0) ∧ c = turnI n b16 (0) from ⟨ha, hb, hc⟩)
    rw [← ha] at x0 HA4 HA3 a0 ⊢
    rw [← hb] at x1 HA4 HA3 a1 ⊢
    rw [← hc] at x0 x1 x2 HA4 HR4 HB4 ⊢
    clear ha hb hc
    have R1 := hid (show IsN30 ((W3.setCell ⟨g, 2, none⟩ (.int .i64 c)).setCell ⟨P + 1, 0, none⟩ (.int .i64 a)) (P + 1) ⟨a, 0, 0⟩ from heap_setCell_same _ (P + 1) 0 _ 30 _ HR4.out)
    have R2 := hid (show IsN30 (((W3.setCell ⟨g, 2, none⟩ (.int .i64 c)).setCell ⟨P + 1, 0, none⟩ (.int .i64 a)).setCell ⟨P + 1, 1, none⟩ (.int .i64 b)) (P + 1) ⟨a, b, 0⟩ from heap_setCell_same _ (P + 1) 1 _ 30 _ R1.out)
    have R3 := hid (show IsN30 ((((W3.setCell ⟨g, 2, none⟩ (.int .i64 c)).setCell ⟨P + 1, 0, none⟩ (.int .i64 a)).setCell ⟨P + 1, 1, none⟩ (.int .i64 b)).setCell ⟨P + 1, 2, none⟩ (.int .i64 c)) (P + 1) ⟨a, b, c⟩ from heap_setCell_same _ (P + 1) 2 _ 30 _ R2.out)
    have HB5 := hid (show Below w.heap.size w ((((W3.setCell ⟨g, 2, none⟩ (.int .i64 c)).setCell ⟨P + 1, 0, none⟩ (.int .i64 a)).setCell ⟨P + 1, 1, none⟩ (.int .i64 b)).setCell ⟨P + 1, 2, none⟩ (.int .i64 c)) from
      Below.setCell (Below.setCell (Below.setCell HB4.out (by have := HP.out; simp; omega) _) (by have := HP.out; simp; omega) _) (by have := HP.out; simp; omega) _)
    obtain ⟨r0, _, _⟩ := HR4.out.cells
    have fr0 : (W3.setCell ⟨g, 2, none⟩ (.int .i64 c)).frozen? ⟨P + 1, 0, none⟩ = false := frozen_of_row _ _ _ _ _ HR4.out
    obtain ⟨_, r1, _⟩ := R1.out.cells
    have fr1 : ((W3.setCell ⟨g, 2, none⟩ (.int .i64 c)).setCell ⟨P + 1, 0, none⟩ (.int .i64 a)).frozen? ⟨P + 1, 1, none⟩ = false := frozen_of_row _ _ _ _ _ R1.out
    obtain ⟨_, _, r2⟩ := R2.out.cells
    have fr2 : (((W3.setCell ⟨g, 2, none⟩ (.int .i64 c)).setCell ⟨P + 1, 0, none⟩ (.int .i64 a)).setCell ⟨P + 1, 1, none⟩ (.int .i64 b)).frozen? ⟨P + 1, 2, none⟩ = false := frozen_of_row _ _ _ _ _ R2.out
    obtain ⟨s0, s1, s2⟩ := R3.out.cells
    go_wp2_with fail
    have fin := hid (rt_ans (v := v) false false HBS.out HO.out)
    have habc := HABC.out
    obtain ⟨t1, t2, t3⟩ := fin.out
    refine bodyPost_ret (v := .tuple #[.agg #[.int .i64 a, .int .i64 b, .int .i64 c], .bool b32, .bool b64]) ?_ rfl ⟨?_, HB5.out⟩
    · simp [results, Tryd.results17, go_sem, s0, s1, s2]
    · obtain ⟨rfl, rfl, rfl⟩ := habc
      rw [t1, t2, t3]
      rfl

set_option maxRecDepth 100000 in
set_option maxHeartbeats 1000000 in
theorem rt_10011 (h p n : Int) (v : Nat) (name : ByteArray) (w : World) (ho : okN ⟨h, p, n⟩) (hn : valOf name.data.toList = v) (hb1 : bitB v 1 = true) (hb2 : bitB v 2 = false) (hal : (h == 0) = true) :
    Calls Tryd.prog 17 #[stV ⟨h, p, n⟩, .bool false, .bool true, .string name] w (RTakeAns w ⟨h, p, n⟩ v false true) := by
  have hv : v < 128 := by rw [← hn]; exact seven_lt _
  obtain ⟨e1, e2, e4, e8, e16, e32, e64, e33⟩ := rem_bits v hv
  have hv0 : (0 : Int) ≤ (v : Int) := by omega
  have HN := hid hn
  clear hn
  obtain ⟨b4, hb4⟩ : ∃ b, bitB v 4 = b := ⟨_, rfl⟩
  obtain ⟨b8, hb8⟩ : ∃ b, bitB v 8 = b := ⟨_, rfl⟩
  obtain ⟨b16, hb16⟩ : ∃ b, bitB v 16 = b := ⟨_, rfl⟩
  obtain ⟨b32, hb32⟩ : ∃ b, bitB v 32 = b := ⟨_, rfl⟩
  obtain ⟨b64, hb64⟩ : ∃ b, bitB v 64 = b := ⟨_, rfl⟩
  have HBS := hid (show bitB v 1 = true ∧ bitB v 2 = false ∧ bitB v 4 = b4 ∧ bitB v 8 = b8 ∧ bitB v 16 = b16 ∧ bitB v 33 = (true || b32) ∧ bitB v 64 = b64 ∧ (h == 0) = true from ⟨hb1, hb2, hb4, hb8, hb16, by rw [e33, hb1, hb32], hb64, hal⟩)
  rw [hb1] at e1
  rw [hb2] at e2
  rw [hb4] at e4
  rw [hb8] at e8
  rw [hb16] at e16
  rw [hb32] at e32
  rw [hb64] at e64
  clear e33 hb1 hb2 hb4 hb8 hb16 hb32 hb64
  have HO := hid ho
  obtain ⟨⟨o1, o2⟩, ⟨o3, o4⟩, o5, o6⟩ := ho
  obtain ⟨w0, hw0⟩ : ∃ w0, w0 = (w.alloc (.cells #[.int .i64 h, .int .i64 p, .int .i64 n] 30)).alloc (.cells #[.int .i64 0, .int .i64 0, .int .i64 0] 30) := ⟨_, rfl⟩
  have HB0 := hid (show Below w.heap.size w w0 by rw [hw0]; exact ((Below.refl _ _).alloc (Nat.le_refl _) _).alloc (by simp) _)
  have hn0 : IsN30 w0 w.heap.size ⟨h, p, n⟩ := by rw [hw0]; exact (heap_alloc_old _ _ (by simp)).trans (heap_alloc_new _ _)
  have hr0 : IsN30 w0 (w.heap.size + 1) ⟨0, 0, 0⟩ := by
    have := heap_alloc_new (w.alloc (.cells #[.int .i64 h, .int .i64 p, .int .i64 n] 30)) (.cells #[.int .i64 0, .int .i64 0, .int .i64 0] 30); rw [show (w.alloc (.cells #[.int .i64 h, .int .i64 p, .int .i64 n] 30)).heap.size = w.heap.size + 1 by simp] at this; rw [hw0]; exact this
  have HN0 := hid hn0
  have HR0 := hid hr0
  clear hn0 hr0
  subst hw0
  go_enter Tryd.func17, Tryd.ntmps17
  go_wp2_with fail
  refine (refOf_val name v HN.out _).mono ?_
  rintro e w1 ⟨rfl, hb1⟩
  have HB1 := hid (HB0.out.trans (hb1.mono HB0.out.size))
  have HN1 := hid (show IsN30 w1 w.heap.size ⟨h, p, n⟩ from (hb1.block _ HN0.out.lt).trans HN0.out)
  have HR1 := hid (show IsN30 w1 (w.heap.size + 1) ⟨0, 0, 0⟩ from (hb1.block _ HR0.out.lt).trans HR0.out)
  obtain ⟨c0, c1, c2⟩ := HN1.out.cells
  clear hb1 HB0 HN0 HR0
  go_wp2_with fail
  have E8 := hid e8
  have E16 := hid e16
  have HAL := hid hal
  clear e1 e2 e8 e16 e32 e64 hal o3 o4 o5 o6
  obtain ⟨P, hP⟩ : ∃ P, P = w.heap.size := ⟨_, rfl⟩
  have HP := hid hP
  rw [← hP] at HN1 HR1 c0 c1 c2 ⊢
  clear hP
  have hq1 : (v : Int).tdiv 4 = (v : Int) / 4 := Int.tdiv_eq_ediv_of_nonneg hv0
  have hq2 : IntKind.i64.wrap ((v : Int) / 4) = (v : Int) / 4 := IntWalk.i64_in _ (by omega)
  have hq3 : ((v : Int) / 4).tmod 2 = (v : Int) / 4 % 2 := Int.tmod_eq_emod_of_nonneg (by omega)
  have hq4 : IntKind.i64.wrap ((v : Int) / 4 % 2) = (v : Int) / 4 % 2 := IntWalk.i64_in _ (by omega)
  go_region_held3 (fun Y => Y.cell? ⟨P, 0, none⟩ = some (.int .i64 h) ∧ Y.cell? ⟨P, 1, none⟩ = some (.int .i64 p) ∧ Y.cell? ⟨P, 2, none⟩ = some (.int .i64 n))
    (exact IsN30.cells (s := ⟨h, p, n⟩) (keep30 HN1.out (by (repeat' (first | assumption | exact Below.refl _ _ | refine Below.drew ?_ | refine Below.alloc ?_ ?_ _ | refine Below.setCell ?_ ?_ _)) <;> (first | omega | (simp <;> omega)))))
    (first | (go_at_call 26; refine (turn_any h b4 (0) ⟨o1, o2⟩ (by omega) _).mono ?_; rintro e w2 ⟨rfl, rfl⟩))
  all_goals
    rename_i hHeld
    clear hHeld
    obtain ⟨g, hg⟩ : ∃ g, g = w1.heap.size := ⟨_, rfl⟩
    have HG := hid hg
    rw [← hg]
    clear hg
    generalize hW2 : (World.drew _) = W2
    have hgl : P + 1 < g := by rw [HG.out]; exact HR1.out.lt
    have HA2 := hid (show IsN30 W2 g ⟨turnI h b4 (0), p, n⟩ by rw [← hW2, HG.out]; exact heap_alloc_new _ _)
    have HS2 := hid (show IsN30 W2 P ⟨h, p, n⟩ by rw [← hW2]; exact (heap_alloc_old _ _ (by exact HN1.out.lt)).trans HN1.out)
    have HR2 := hid (show IsN30 W2 (P + 1) ⟨0, 0, 0⟩ by rw [← hW2]; exact (heap_alloc_old _ _ (by exact HR1.out.lt)).trans HR1.out)
    have HB2 := hid (show Below w.heap.size w W2 by rw [← hW2]; exact (HB1.out.alloc HB1.out.size _).drew)
    clear hW2 HR1 HN1 HB1 hq1 hq2 hq3 hq4
    obtain ⟨d0, d1, d2⟩ := HS2.out.cells
    obtain ⟨a0, a1, a2⟩ := HA2.out.cells
    have f1 : W2.frozen? ⟨g, 1, none⟩ = false := frozen_of_row _ _ _ _ _ HA2.out
    have e8 := E8.out
    clear e4
    go_wp2_with fail
    refine (turn_any p b8 (0) HO.out.2.1 (by omega) _).mono ?_
    rintro e w5 ⟨rfl, rfl⟩
    clear e8
    have HA3 := hid (show IsN30 (W2.setCell ⟨g, 1, none⟩ (.int .i64 (turnI p b8 (0)))) g ⟨turnI h b4 (0), turnI p b8 (0), n⟩ from heap_setCell_same _ g 1 _ 30 _ HA2.out)
    have HS3 := hid (show IsN30 (W2.setCell ⟨g, 1, none⟩ (.int .i64 (turnI p b8 (0)))) P ⟨h, p, n⟩ from (heap_setCell_other _ ⟨g, 1, none⟩ P _ (by simp; omega)).trans HS2.out)
    have HR3 := hid (show IsN30 (W2.setCell ⟨g, 1, none⟩ (.int .i64 (turnI p b8 (0)))) (P + 1) ⟨0, 0, 0⟩ from (heap_setCell_other _ ⟨g, 1, none⟩ (P + 1) _ (by simp; omega)).trans HR2.out)
    have HB3 := hid (show Below w.heap.size w (W2.setCell ⟨g, 1, none⟩ (.int .i64 (turnI p b8 (0)))) from Below.setCell HB2.out (by have := HP.out; simp; omega) _)
    obtain ⟨W3, hW3⟩ : ∃ W3, W3 = W2.setCell ⟨g, 1, none⟩ (.int .i64 (turnI p b8 (0))) := ⟨_, rfl⟩
    rw [← hW3] at HA3 HS3 HR3 HB3
    have l2 : (W2.setCell ⟨g, 1, none⟩ (.int .i64 (turnI p b8 (0)))).cell? ⟨P, 2, none⟩ = some (.int .i64 n) := by rw [← hW3]; exact HS3.out.cells.2.2
    have hW3' := hid hW3
    clear hW3 d0 d1 d2 HA2 HS2 HR2 HB2
    have e16 := E16.out
    go_wp2_with fail
    refine (turn_any n b16 (0) HO.out.2.2 (by omega) _).mono ?_
    rintro e w6 ⟨rfl, rfl⟩
    clear e16 l2 f1 a0 a1 a2
    rw [← hW3'.out]
    obtain ⟨a0, a1, a2⟩ := HA3.out.cells
    have f2 : W3.frozen? ⟨g, 2, none⟩ = false := frozen_of_row _ _ _ _ _ HA3.out
    have HA4 := hid (show IsN30 (W3.setCell ⟨g, 2, none⟩ (.int .i64 (turnI n b16 (0)))) g ⟨turnI h b4 (0), turnI p b8 (0), turnI n b16 (0)⟩ from heap_setCell_same _ g 2 _ 30 _ HA3.out)
    have HR4 := hid (show IsN30 (W3.setCell ⟨g, 2, none⟩ (.int .i64 (turnI n b16 (0)))) (P + 1) ⟨0, 0, 0⟩ from (heap_setCell_other _ ⟨g, 2, none⟩ (P + 1) _ (by simp; omega)).trans HR3.out)
    have HB4 := hid (show Below w.heap.size w (W3.setCell ⟨g, 2, none⟩ (.int .i64 (turnI n b16 (0)))) from Below.setCell HB3.out (by have := HP.out; simp; omega) _)
    obtain ⟨x0, x1, x2⟩ := HA4.out.cells
    obtain ⟨a, ha⟩ : ∃ a, a = turnI h b4 (0) := ⟨_, rfl⟩
    obtain ⟨b, hb⟩ : ∃ b, b = turnI p b8 (0) := ⟨_, rfl⟩
    obtain ⟨c, hc⟩ : ∃ c, c = turnI n b16 (0) := ⟨_, rfl⟩
    have HABC := hid (show a = turnI h b4 (0) ∧ b = turnI p b8 (0) ∧ c = turnI n b16 (0) from ⟨ha, hb, hc⟩)
    rw [← ha] at x0 HA4 HA3 a0 ⊢
    rw [← hb] at x1 HA4 HA3 a1 ⊢
    rw [← hc] at x0 x1 x2 HA4 HR4 HB4 ⊢
    clear ha hb hc
    have R1 := hid (show IsN30 ((W3.setCell ⟨g, 2, none⟩ (.int .i64 c)).setCell ⟨P + 1, 0, none⟩ (.int .i64 a)) (P + 1) ⟨a, 0, 0⟩ from heap_setCell_same _ (P + 1) 0 _ 30 _ HR4.out)
    have R2 := hid (show IsN30 (((W3.setCell ⟨g, 2, none⟩ (.int .i64 c)).setCell ⟨P + 1, 0, none⟩ (.int .i64 a)).setCell ⟨P + 1, 1, none⟩ (.int .i64 b)) (P + 1) ⟨a, b, 0⟩ from heap_setCell_same _ (P + 1) 1 _ 30 _ R1.out)
    have R3 := hid (show IsN30 ((((W3.setCell ⟨g, 2, none⟩ (.int .i64 c)).setCell ⟨P + 1, 0, none⟩ (.int .i64 a)).setCell ⟨P + 1, 1, none⟩ (.int .i64 b)).setCell ⟨P + 1, 2, none⟩ (.int .i64 c)) (P + 1) ⟨a, b, c⟩ from heap_setCell_same _ (P + 1) 2 _ 30 _ R2.out)
    have HB5 := hid (show Below w.heap.size w ((((W3.setCell ⟨g, 2, none⟩ (.int .i64 c)).setCell ⟨P + 1, 0, none⟩ (.int .i64 a)).setCell ⟨P + 1, 1, none⟩ (.int .i64 b)).setCell ⟨P + 1, 2, none⟩ (.int .i64 c)) from
      Below.setCell (Below.setCell (Below.setCell HB4.out (by have := HP.out; simp; omega) _) (by have := HP.out; simp; omega) _) (by have := HP.out; simp; omega) _)
    obtain ⟨r0, _, _⟩ := HR4.out.cells
    have fr0 : (W3.setCell ⟨g, 2, none⟩ (.int .i64 c)).frozen? ⟨P + 1, 0, none⟩ = false := frozen_of_row _ _ _ _ _ HR4.out
    obtain ⟨_, r1, _⟩ := R1.out.cells
    have fr1 : ((W3.setCell ⟨g, 2, none⟩ (.int .i64 c)).setCell ⟨P + 1, 0, none⟩ (.int .i64 a)).frozen? ⟨P + 1, 1, none⟩ = false := frozen_of_row _ _ _ _ _ R1.out
    obtain ⟨_, _, r2⟩ := R2.out.cells
    have fr2 : (((W3.setCell ⟨g, 2, none⟩ (.int .i64 c)).setCell ⟨P + 1, 0, none⟩ (.int .i64 a)).setCell ⟨P + 1, 1, none⟩ (.int .i64 b)).frozen? ⟨P + 1, 2, none⟩ = false := frozen_of_row _ _ _ _ _ R2.out
    obtain ⟨s0, s1, s2⟩ := R3.out.cells
    go_wp2_with fail
    have fin := hid (rt_ans (v := v) false true HBS.out HO.out)
    have habc := HABC.out
    obtain ⟨t1, t2, t3⟩ := fin.out
    refine bodyPost_ret (v := .tuple #[.agg #[.int .i64 a, .int .i64 b, .int .i64 c], .bool true, .bool b64]) ?_ rfl ⟨?_, HB5.out⟩
    · simp [results, Tryd.results17, go_sem, s0, s1, s2]
    · obtain ⟨rfl, rfl, rfl⟩ := habc
      rw [t1, t2, t3]
      rfl

set_option maxRecDepth 100000 in
set_option maxHeartbeats 1000000 in
theorem rt_10010 (h p n : Int) (v : Nat) (name : ByteArray) (w : World) (ho : okN ⟨h, p, n⟩) (hn : valOf name.data.toList = v) (hb1 : bitB v 1 = false) (hb2 : bitB v 2 = false) (hal : (h == 0) = true) :
    Calls Tryd.prog 17 #[stV ⟨h, p, n⟩, .bool false, .bool true, .string name] w (RTakeAns w ⟨h, p, n⟩ v false true) := by
  have hv : v < 128 := by rw [← hn]; exact seven_lt _
  obtain ⟨e1, e2, e4, e8, e16, e32, e64, e33⟩ := rem_bits v hv
  have hv0 : (0 : Int) ≤ (v : Int) := by omega
  have HN := hid hn
  clear hn
  obtain ⟨b4, hb4⟩ : ∃ b, bitB v 4 = b := ⟨_, rfl⟩
  obtain ⟨b8, hb8⟩ : ∃ b, bitB v 8 = b := ⟨_, rfl⟩
  obtain ⟨b16, hb16⟩ : ∃ b, bitB v 16 = b := ⟨_, rfl⟩
  obtain ⟨b32, hb32⟩ : ∃ b, bitB v 32 = b := ⟨_, rfl⟩
  obtain ⟨b64, hb64⟩ : ∃ b, bitB v 64 = b := ⟨_, rfl⟩
  have HBS := hid (show bitB v 1 = false ∧ bitB v 2 = false ∧ bitB v 4 = b4 ∧ bitB v 8 = b8 ∧ bitB v 16 = b16 ∧ bitB v 33 = (false || b32) ∧ bitB v 64 = b64 ∧ (h == 0) = true from ⟨hb1, hb2, hb4, hb8, hb16, by rw [e33, hb1, hb32], hb64, hal⟩)
  rw [hb1] at e1
  rw [hb2] at e2
  rw [hb4] at e4
  rw [hb8] at e8
  rw [hb16] at e16
  rw [hb32] at e32
  rw [hb64] at e64
  clear e33 hb1 hb2 hb4 hb8 hb16 hb32 hb64
  have HO := hid ho
  obtain ⟨⟨o1, o2⟩, ⟨o3, o4⟩, o5, o6⟩ := ho
  obtain ⟨w0, hw0⟩ : ∃ w0, w0 = (w.alloc (.cells #[.int .i64 h, .int .i64 p, .int .i64 n] 30)).alloc (.cells #[.int .i64 0, .int .i64 0, .int .i64 0] 30) := ⟨_, rfl⟩
  have HB0 := hid (show Below w.heap.size w w0 by rw [hw0]; exact ((Below.refl _ _).alloc (Nat.le_refl _) _).alloc (by simp) _)
  have hn0 : IsN30 w0 w.heap.size ⟨h, p, n⟩ := by rw [hw0]; exact (heap_alloc_old _ _ (by simp)).trans (heap_alloc_new _ _)
  have hr0 : IsN30 w0 (w.heap.size + 1) ⟨0, 0, 0⟩ := by
    have := heap_alloc_new (w.alloc (.cells #[.int .i64 h, .int .i64 p, .int .i64 n] 30)) (.cells #[.int .i64 0, .int .i64 0, .int .i64 0] 30); rw [show (w.alloc (.cells #[.int .i64 h, .int .i64 p, .int .i64 n] 30)).heap.size = w.heap.size + 1 by simp] at this; rw [hw0]; exact this
  have HN0 := hid hn0
  have HR0 := hid hr0
  clear hn0 hr0
  subst hw0
  go_enter Tryd.func17, Tryd.ntmps17
  go_wp2_with fail
  refine (refOf_val name v HN.out _).mono ?_
  rintro e w1 ⟨rfl, hb1⟩
  have HB1 := hid (HB0.out.trans (hb1.mono HB0.out.size))
  have HN1 := hid (show IsN30 w1 w.heap.size ⟨h, p, n⟩ from (hb1.block _ HN0.out.lt).trans HN0.out)
  have HR1 := hid (show IsN30 w1 (w.heap.size + 1) ⟨0, 0, 0⟩ from (hb1.block _ HR0.out.lt).trans HR0.out)
  obtain ⟨c0, c1, c2⟩ := HN1.out.cells
  clear hb1 HB0 HN0 HR0
  go_wp2_with fail
  have E8 := hid e8
  have E16 := hid e16
  have HAL := hid hal
  clear e1 e2 e8 e16 e32 e64 hal o3 o4 o5 o6
  obtain ⟨P, hP⟩ : ∃ P, P = w.heap.size := ⟨_, rfl⟩
  have HP := hid hP
  rw [← hP] at HN1 HR1 c0 c1 c2 ⊢
  clear hP
  have hq1 : (v : Int).tdiv 4 = (v : Int) / 4 := Int.tdiv_eq_ediv_of_nonneg hv0
  have hq2 : IntKind.i64.wrap ((v : Int) / 4) = (v : Int) / 4 := IntWalk.i64_in _ (by omega)
  have hq3 : ((v : Int) / 4).tmod 2 = (v : Int) / 4 % 2 := Int.tmod_eq_emod_of_nonneg (by omega)
  have hq4 : IntKind.i64.wrap ((v : Int) / 4 % 2) = (v : Int) / 4 % 2 := IntWalk.i64_in _ (by omega)
  go_region_held3 (fun Y => Y.cell? ⟨P, 0, none⟩ = some (.int .i64 h) ∧ Y.cell? ⟨P, 1, none⟩ = some (.int .i64 p) ∧ Y.cell? ⟨P, 2, none⟩ = some (.int .i64 n))
    (exact IsN30.cells (s := ⟨h, p, n⟩) (keep30 HN1.out (by (repeat' (first | assumption | exact Below.refl _ _ | refine Below.drew ?_ | refine Below.alloc ?_ ?_ _ | refine Below.setCell ?_ ?_ _)) <;> (first | omega | (simp <;> omega)))))
    (first | (go_at_call 26; refine (turn_any h b4 (0) ⟨o1, o2⟩ (by omega) _).mono ?_; rintro e w2 ⟨rfl, rfl⟩))
  all_goals
    rename_i hHeld
    clear hHeld
    obtain ⟨g, hg⟩ : ∃ g, g = w1.heap.size := ⟨_, rfl⟩
    have HG := hid hg
    rw [← hg]
    clear hg
    generalize hW2 : (World.drew _) = W2
    have hgl : P + 1 < g := by rw [HG.out]; exact HR1.out.lt
    have HA2 := hid (show IsN30 W2 g ⟨turnI h b4 (0), p, n⟩ by rw [← hW2, HG.out]; exact heap_alloc_new _ _)
    have HS2 := hid (show IsN30 W2 P ⟨h, p, n⟩ by rw [← hW2]; exact (heap_alloc_old _ _ (by exact HN1.out.lt)).trans HN1.out)
    have HR2 := hid (show IsN30 W2 (P + 1) ⟨0, 0, 0⟩ by rw [← hW2]; exact (heap_alloc_old _ _ (by exact HR1.out.lt)).trans HR1.out)
    have HB2 := hid (show Below w.heap.size w W2 by rw [← hW2]; exact (HB1.out.alloc HB1.out.size _).drew)
    clear hW2 HR1 HN1 HB1 hq1 hq2 hq3 hq4
    obtain ⟨d0, d1, d2⟩ := HS2.out.cells
    obtain ⟨a0, a1, a2⟩ := HA2.out.cells
    have f1 : W2.frozen? ⟨g, 1, none⟩ = false := frozen_of_row _ _ _ _ _ HA2.out
    have e8 := E8.out
    clear e4
    go_wp2_with fail
    refine (turn_any p b8 (0) HO.out.2.1 (by omega) _).mono ?_
    rintro e w5 ⟨rfl, rfl⟩
    clear e8
    have HA3 := hid (show IsN30 (W2.setCell ⟨g, 1, none⟩ (.int .i64 (turnI p b8 (0)))) g ⟨turnI h b4 (0), turnI p b8 (0), n⟩ from heap_setCell_same _ g 1 _ 30 _ HA2.out)
    have HS3 := hid (show IsN30 (W2.setCell ⟨g, 1, none⟩ (.int .i64 (turnI p b8 (0)))) P ⟨h, p, n⟩ from (heap_setCell_other _ ⟨g, 1, none⟩ P _ (by simp; omega)).trans HS2.out)
    have HR3 := hid (show IsN30 (W2.setCell ⟨g, 1, none⟩ (.int .i64 (turnI p b8 (0)))) (P + 1) ⟨0, 0, 0⟩ from (heap_setCell_other _ ⟨g, 1, none⟩ (P + 1) _ (by simp; omega)).trans HR2.out)
    have HB3 := hid (show Below w.heap.size w (W2.setCell ⟨g, 1, none⟩ (.int .i64 (turnI p b8 (0)))) from Below.setCell HB2.out (by have := HP.out; simp; omega) _)
    obtain ⟨W3, hW3⟩ : ∃ W3, W3 = W2.setCell ⟨g, 1, none⟩ (.int .i64 (turnI p b8 (0))) := ⟨_, rfl⟩
    rw [← hW3] at HA3 HS3 HR3 HB3
    have l2 : (W2.setCell ⟨g, 1, none⟩ (.int .i64 (turnI p b8 (0)))).cell? ⟨P, 2, none⟩ = some (.int .i64 n) := by rw [← hW3]; exact HS3.out.cells.2.2
    have hW3' := hid hW3
    clear hW3 d0 d1 d2 HA2 HS2 HR2 HB2
    have e16 := E16.out
    go_wp2_with fail
    refine (turn_any n b16 (0) HO.out.2.2 (by omega) _).mono ?_
    rintro e w6 ⟨rfl, rfl⟩
    clear e16 l2 f1 a0 a1 a2
    rw [← hW3'.out]
    obtain ⟨a0, a1, a2⟩ := HA3.out.cells
    have f2 : W3.frozen? ⟨g, 2, none⟩ = false := frozen_of_row _ _ _ _ _ HA3.out
    have HA4 := hid (show IsN30 (W3.setCell ⟨g, 2, none⟩ (.int .i64 (turnI n b16 (0)))) g ⟨turnI h b4 (0), turnI p b8 (0), turnI n b16 (0)⟩ from heap_setCell_same _ g 2 _ 30 _ HA3.out)
    have HR4 := hid (show IsN30 (W3.setCell ⟨g, 2, none⟩ (.int .i64 (turnI n b16 (0)))) (P + 1) ⟨0, 0, 0⟩ from (heap_setCell_other _ ⟨g, 2, none⟩ (P + 1) _ (by simp; omega)).trans HR3.out)
    have HB4 := hid (show Below w.heap.size w (W3.setCell ⟨g, 2, none⟩ (.int .i64 (turnI n b16 (0)))) from Below.setCell HB3.out (by have := HP.out; simp; omega) _)
    obtain ⟨x0, x1, x2⟩ := HA4.out.cells
    obtain ⟨a, ha⟩ : ∃ a, a = turnI h b4 (0) := ⟨_, rfl⟩
    obtain ⟨b, hb⟩ : ∃ b, b = turnI p b8 (0) := ⟨_, rfl⟩
    obtain ⟨c, hc⟩ : ∃ c, c = turnI n b16 (0) := ⟨_, rfl⟩
    have HABC := hid (show a = turnI h b4 (0) ∧ b = turnI p b8 (0) ∧ c = turnI n b16 (0) from ⟨ha, hb, hc⟩)
    rw [← ha] at x0 HA4 HA3 a0 ⊢
    rw [← hb] at x1 HA4 HA3 a1 ⊢
    rw [← hc] at x0 x1 x2 HA4 HR4 HB4 ⊢
    clear ha hb hc
    have R1 := hid (show IsN30 ((W3.setCell ⟨g, 2, none⟩ (.int .i64 c)).setCell ⟨P + 1, 0, none⟩ (.int .i64 a)) (P + 1) ⟨a, 0, 0⟩ from heap_setCell_same _ (P + 1) 0 _ 30 _ HR4.out)
    have R2 := hid (show IsN30 (((W3.setCell ⟨g, 2, none⟩ (.int .i64 c)).setCell ⟨P + 1, 0, none⟩ (.int .i64 a)).setCell ⟨P + 1, 1, none⟩ (.int .i64 b)) (P + 1) ⟨a, b, 0⟩ from heap_setCell_same _ (P + 1) 1 _ 30 _ R1.out)
    have R3 := hid (show IsN30 ((((W3.setCell ⟨g, 2, none⟩ (.int .i64 c)).setCell ⟨P + 1, 0, none⟩ (.int .i64 a)).setCell ⟨P + 1, 1, none⟩ (.int .i64 b)).setCell ⟨P + 1, 2, none⟩ (.int .i64 c)) (P + 1) ⟨a, b, c⟩ from heap_setCell_same _ (P + 1) 2 _ 30 _ R2.out)
    have HB5 := hid (show Below w.heap.size w ((((W3.setCell ⟨g, 2, none⟩ (.int .i64 c)).setCell ⟨P + 1, 0, none⟩ (.int .i64 a)).setCell ⟨P + 1, 1, none⟩ (.int .i64 b)).setCell ⟨P + 1, 2, none⟩ (.int .i64 c)) from
      Below.setCell (Below.setCell (Below.setCell HB4.out (by have := HP.out; simp; omega) _) (by have := HP.out; simp; omega) _) (by have := HP.out; simp; omega) _)
    obtain ⟨r0, _, _⟩ := HR4.out.cells
    have fr0 : (W3.setCell ⟨g, 2, none⟩ (.int .i64 c)).frozen? ⟨P + 1, 0, none⟩ = false := frozen_of_row _ _ _ _ _ HR4.out
    obtain ⟨_, r1, _⟩ := R1.out.cells
    have fr1 : ((W3.setCell ⟨g, 2, none⟩ (.int .i64 c)).setCell ⟨P + 1, 0, none⟩ (.int .i64 a)).frozen? ⟨P + 1, 1, none⟩ = false := frozen_of_row _ _ _ _ _ R1.out
    obtain ⟨_, _, r2⟩ := R2.out.cells
    have fr2 : (((W3.setCell ⟨g, 2, none⟩ (.int .i64 c)).setCell ⟨P + 1, 0, none⟩ (.int .i64 a)).setCell ⟨P + 1, 1, none⟩ (.int .i64 b)).frozen? ⟨P + 1, 2, none⟩ = false := frozen_of_row _ _ _ _ _ R2.out
    obtain ⟨s0, s1, s2⟩ := R3.out.cells
    go_wp2_with fail
    have fin := hid (rt_ans (v := v) false true HBS.out HO.out)
    have habc := HABC.out
    obtain ⟨t1, t2, t3⟩ := fin.out
    refine bodyPost_ret (v := .tuple #[.agg #[.int .i64 a, .int .i64 b, .int .i64 c], .bool b32, .bool b64]) ?_ rfl ⟨?_, HB5.out⟩
    · simp [results, Tryd.results17, go_sem, s0, s1, s2]
    · obtain ⟨rfl, rfl, rfl⟩ := habc
      rw [t1, t2, t3]
      rfl

set_option maxRecDepth 100000 in
set_option maxHeartbeats 1000000 in
theorem rt_10001 (h p n : Int) (v : Nat) (name : ByteArray) (w : World) (ho : okN ⟨h, p, n⟩) (hn : valOf name.data.toList = v) (hb1 : bitB v 1 = true) (hb2 : bitB v 2 = false) (hal : (h == 0) = true) :
    Calls Tryd.prog 17 #[stV ⟨h, p, n⟩, .bool false, .bool false, .string name] w (RTakeAns w ⟨h, p, n⟩ v false false) := by
  have hv : v < 128 := by rw [← hn]; exact seven_lt _
  obtain ⟨e1, e2, e4, e8, e16, e32, e64, e33⟩ := rem_bits v hv
  have hv0 : (0 : Int) ≤ (v : Int) := by omega
  have HN := hid hn
  clear hn
  obtain ⟨b4, hb4⟩ : ∃ b, bitB v 4 = b := ⟨_, rfl⟩
  obtain ⟨b8, hb8⟩ : ∃ b, bitB v 8 = b := ⟨_, rfl⟩
  obtain ⟨b16, hb16⟩ : ∃ b, bitB v 16 = b := ⟨_, rfl⟩
  obtain ⟨b32, hb32⟩ : ∃ b, bitB v 32 = b := ⟨_, rfl⟩
  obtain ⟨b64, hb64⟩ : ∃ b, bitB v 64 = b := ⟨_, rfl⟩
  have HBS := hid (show bitB v 1 = true ∧ bitB v 2 = false ∧ bitB v 4 = b4 ∧ bitB v 8 = b8 ∧ bitB v 16 = b16 ∧ bitB v 33 = (true || b32) ∧ bitB v 64 = b64 ∧ (h == 0) = true from ⟨hb1, hb2, hb4, hb8, hb16, by rw [e33, hb1, hb32], hb64, hal⟩)
  rw [hb1] at e1
  rw [hb2] at e2
  rw [hb4] at e4
  rw [hb8] at e8
  rw [hb16] at e16
  rw [hb32] at e32
  rw [hb64] at e64
  clear e33 hb1 hb2 hb4 hb8 hb16 hb32 hb64
  have HO := hid ho
  obtain ⟨⟨o1, o2⟩, ⟨o3, o4⟩, o5, o6⟩ := ho
  obtain ⟨w0, hw0⟩ : ∃ w0, w0 = (w.alloc (.cells #[.int .i64 h, .int .i64 p, .int .i64 n] 30)).alloc (.cells #[.int .i64 0, .int .i64 0, .int .i64 0] 30) := ⟨_, rfl⟩
  have HB0 := hid (show Below w.heap.size w w0 by rw [hw0]; exact ((Below.refl _ _).alloc (Nat.le_refl _) _).alloc (by simp) _)
  have hn0 : IsN30 w0 w.heap.size ⟨h, p, n⟩ := by rw [hw0]; exact (heap_alloc_old _ _ (by simp)).trans (heap_alloc_new _ _)
  have hr0 : IsN30 w0 (w.heap.size + 1) ⟨0, 0, 0⟩ := by
    have := heap_alloc_new (w.alloc (.cells #[.int .i64 h, .int .i64 p, .int .i64 n] 30)) (.cells #[.int .i64 0, .int .i64 0, .int .i64 0] 30); rw [show (w.alloc (.cells #[.int .i64 h, .int .i64 p, .int .i64 n] 30)).heap.size = w.heap.size + 1 by simp] at this; rw [hw0]; exact this
  have HN0 := hid hn0
  have HR0 := hid hr0
  clear hn0 hr0
  subst hw0
  go_enter Tryd.func17, Tryd.ntmps17
  go_wp2_with fail
  refine (refOf_val name v HN.out _).mono ?_
  rintro e w1 ⟨rfl, hb1⟩
  have HB1 := hid (HB0.out.trans (hb1.mono HB0.out.size))
  have HN1 := hid (show IsN30 w1 w.heap.size ⟨h, p, n⟩ from (hb1.block _ HN0.out.lt).trans HN0.out)
  have HR1 := hid (show IsN30 w1 (w.heap.size + 1) ⟨0, 0, 0⟩ from (hb1.block _ HR0.out.lt).trans HR0.out)
  obtain ⟨c0, c1, c2⟩ := HN1.out.cells
  clear hb1 HB0 HN0 HR0
  go_wp2_with fail
  have E8 := hid e8
  have E16 := hid e16
  have HAL := hid hal
  clear e1 e2 e8 e16 e32 e64 hal o3 o4 o5 o6
  obtain ⟨P, hP⟩ : ∃ P, P = w.heap.size := ⟨_, rfl⟩
  have HP := hid hP
  rw [← hP] at HN1 HR1 c0 c1 c2 ⊢
  clear hP
  have hq1 : (v : Int).tdiv 4 = (v : Int) / 4 := Int.tdiv_eq_ediv_of_nonneg hv0
  have hq2 : IntKind.i64.wrap ((v : Int) / 4) = (v : Int) / 4 := IntWalk.i64_in _ (by omega)
  have hq3 : ((v : Int) / 4).tmod 2 = (v : Int) / 4 % 2 := Int.tmod_eq_emod_of_nonneg (by omega)
  have hq4 : IntKind.i64.wrap ((v : Int) / 4 % 2) = (v : Int) / 4 % 2 := IntWalk.i64_in _ (by omega)
  go_region_held3 (fun Y => Y.cell? ⟨P, 0, none⟩ = some (.int .i64 h) ∧ Y.cell? ⟨P, 1, none⟩ = some (.int .i64 p) ∧ Y.cell? ⟨P, 2, none⟩ = some (.int .i64 n))
    (exact IsN30.cells (s := ⟨h, p, n⟩) (keep30 HN1.out (by (repeat' (first | assumption | exact Below.refl _ _ | refine Below.drew ?_ | refine Below.alloc ?_ ?_ _ | refine Below.setCell ?_ ?_ _)) <;> (first | omega | (simp <;> omega)))))
    (first | (go_at_call 26; refine (turn_any h b4 (1) ⟨o1, o2⟩ (by omega) _).mono ?_; rintro e w2 ⟨rfl, rfl⟩))
  all_goals
    rename_i hHeld
    clear hHeld
    obtain ⟨g, hg⟩ : ∃ g, g = w1.heap.size := ⟨_, rfl⟩
    have HG := hid hg
    rw [← hg]
    clear hg
    generalize hW2 : (World.drew _) = W2
    have hgl : P + 1 < g := by rw [HG.out]; exact HR1.out.lt
    have HA2 := hid (show IsN30 W2 g ⟨turnI h b4 (1), p, n⟩ by rw [← hW2, HG.out]; exact heap_alloc_new _ _)
    have HS2 := hid (show IsN30 W2 P ⟨h, p, n⟩ by rw [← hW2]; exact (heap_alloc_old _ _ (by exact HN1.out.lt)).trans HN1.out)
    have HR2 := hid (show IsN30 W2 (P + 1) ⟨0, 0, 0⟩ by rw [← hW2]; exact (heap_alloc_old _ _ (by exact HR1.out.lt)).trans HR1.out)
    have HB2 := hid (show Below w.heap.size w W2 by rw [← hW2]; exact (HB1.out.alloc HB1.out.size _).drew)
    clear hW2 HR1 HN1 HB1 hq1 hq2 hq3 hq4
    obtain ⟨d0, d1, d2⟩ := HS2.out.cells
    obtain ⟨a0, a1, a2⟩ := HA2.out.cells
    have f1 : W2.frozen? ⟨g, 1, none⟩ = false := frozen_of_row _ _ _ _ _ HA2.out
    have e8 := E8.out
    clear e4
    go_wp2_with fail
    refine (turn_any p b8 (1) HO.out.2.1 (by omega) _).mono ?_
    rintro e w5 ⟨rfl, rfl⟩
    clear e8
    have HA3 := hid (show IsN30 (W2.setCell ⟨g, 1, none⟩ (.int .i64 (turnI p b8 (1)))) g ⟨turnI h b4 (1), turnI p b8 (1), n⟩ from heap_setCell_same _ g 1 _ 30 _ HA2.out)
    have HS3 := hid (show IsN30 (W2.setCell ⟨g, 1, none⟩ (.int .i64 (turnI p b8 (1)))) P ⟨h, p, n⟩ from (heap_setCell_other _ ⟨g, 1, none⟩ P _ (by simp; omega)).trans HS2.out)
    have HR3 := hid (show IsN30 (W2.setCell ⟨g, 1, none⟩ (.int .i64 (turnI p b8 (1)))) (P + 1) ⟨0, 0, 0⟩ from (heap_setCell_other _ ⟨g, 1, none⟩ (P + 1) _ (by simp; omega)).trans HR2.out)
    have HB3 := hid (show Below w.heap.size w (W2.setCell ⟨g, 1, none⟩ (.int .i64 (turnI p b8 (1)))) from Below.setCell HB2.out (by have := HP.out; simp; omega) _)
    obtain ⟨W3, hW3⟩ : ∃ W3, W3 = W2.setCell ⟨g, 1, none⟩ (.int .i64 (turnI p b8 (1))) := ⟨_, rfl⟩
    rw [← hW3] at HA3 HS3 HR3 HB3
    have l2 : (W2.setCell ⟨g, 1, none⟩ (.int .i64 (turnI p b8 (1)))).cell? ⟨P, 2, none⟩ = some (.int .i64 n) := by rw [← hW3]; exact HS3.out.cells.2.2
    have hW3' := hid hW3
    clear hW3 d0 d1 d2 HA2 HS2 HR2 HB2
    have e16 := E16.out
    go_wp2_with fail
    refine (turn_any n b16 (1) HO.out.2.2 (by omega) _).mono ?_
    rintro e w6 ⟨rfl, rfl⟩
    clear e16 l2 f1 a0 a1 a2
    rw [← hW3'.out]
    obtain ⟨a0, a1, a2⟩ := HA3.out.cells
    have f2 : W3.frozen? ⟨g, 2, none⟩ = false := frozen_of_row _ _ _ _ _ HA3.out
    have HA4 := hid (show IsN30 (W3.setCell ⟨g, 2, none⟩ (.int .i64 (turnI n b16 (1)))) g ⟨turnI h b4 (1), turnI p b8 (1), turnI n b16 (1)⟩ from heap_setCell_same _ g 2 _ 30 _ HA3.out)
    have HR4 := hid (show IsN30 (W3.setCell ⟨g, 2, none⟩ (.int .i64 (turnI n b16 (1)))) (P + 1) ⟨0, 0, 0⟩ from (heap_setCell_other _ ⟨g, 2, none⟩ (P + 1) _ (by simp; omega)).trans HR3.out)
    have HB4 := hid (show Below w.heap.size w (W3.setCell ⟨g, 2, none⟩ (.int .i64 (turnI n b16 (1)))) from Below.setCell HB3.out (by have := HP.out; simp; omega) _)
    obtain ⟨x0, x1, x2⟩ := HA4.out.cells
    obtain ⟨a, ha⟩ : ∃ a, a = turnI h b4 (1) := ⟨_, rfl⟩
    obtain ⟨b, hb⟩ : ∃ b, b = turnI p b8 (1) := ⟨_, rfl⟩
    obtain ⟨c, hc⟩ : ∃ c, c = turnI n b16 (1) := ⟨_, rfl⟩
    have HABC := hid (show a = turnI h b4 (1) ∧ b = turnI p b8 (1) ∧ c = turnI n b16 (1) from ⟨ha, hb, hc⟩)
    rw [← ha] at x0 HA4 HA3 a0 ⊢
    rw [← hb] at x1 HA4 HA3 a1 ⊢
    rw [← hc] at x0 x1 x2 HA4 HR4 HB4 ⊢
    clear ha hb hc
    have R1 := hid (show IsN30 ((W3.setCell ⟨g, 2, none⟩ (.int .i64 c)).setCell ⟨P + 1, 0, none⟩ (.int .i64 a)) (P + 1) ⟨a, 0, 0⟩ from heap_setCell_same _ (P + 1) 0 _ 30 _ HR4.out)
    have R2 := hid (show IsN30 (((W3.setCell ⟨g, 2, none⟩ (.int .i64 c)).setCell ⟨P + 1, 0, none⟩ (.int .i64 a)).setCell ⟨P + 1, 1, none⟩ (.int .i64 b)) (P + 1) ⟨a, b, 0⟩ from heap_setCell_same _ (P + 1) 1 _ 30 _ R1.out)
    have R3 := hid (show IsN30 ((((W3.setCell ⟨g, 2, none⟩ (.int .i64 c)).setCell ⟨P + 1, 0, none⟩ (.int .i64 a)).setCell ⟨P + 1, 1, none⟩ (.int .i64 b)).setCell ⟨P + 1, 2, none⟩ (.int .i64 c)) (P + 1) ⟨a, b, c⟩ from heap_setCell_same _ (P + 1) 2 _ 30 _ R2.out)
    have HB5 := hid (show Below w.heap.size w ((((W3.setCell ⟨g, 2, none⟩ (.int .i64 c)).setCell ⟨P + 1, 0, none⟩ (.int .i64 a)).setCell ⟨P + 1, 1, none⟩ (.int .i64 b)).setCell ⟨P + 1, 2, none⟩ (.int .i64 c)) from
      Below.setCell (Below.setCell (Below.setCell HB4.out (by have := HP.out; simp; omega) _) (by have := HP.out; simp; omega) _) (by have := HP.out; simp; omega) _)
    obtain ⟨r0, _, _⟩ := HR4.out.cells
    have fr0 : (W3.setCell ⟨g, 2, none⟩ (.int .i64 c)).frozen? ⟨P + 1, 0, none⟩ = false := frozen_of_row _ _ _ _ _ HR4.out
    obtain ⟨_, r1, _⟩ := R1.out.cells
    have fr1 : ((W3.setCell ⟨g, 2, none⟩ (.int .i64 c)).setCell ⟨P + 1, 0, none⟩ (.int .i64 a)).frozen? ⟨P + 1, 1, none⟩ = false := frozen_of_row _ _ _ _ _ R1.out
    obtain ⟨_, _, r2⟩ := R2.out.cells
    have fr2 : (((W3.setCell ⟨g, 2, none⟩ (.int .i64 c)).setCell ⟨P + 1, 0, none⟩ (.int .i64 a)).setCell ⟨P + 1, 1, none⟩ (.int .i64 b)).frozen? ⟨P + 1, 2, none⟩ = false := frozen_of_row _ _ _ _ _ R2.out
    obtain ⟨s0, s1, s2⟩ := R3.out.cells
    go_wp2_with fail
    have fin := hid (rt_ans (v := v) false false HBS.out HO.out)
    have habc := HABC.out
    obtain ⟨t1, t2, t3⟩ := fin.out
    refine bodyPost_ret (v := .tuple #[.agg #[.int .i64 a, .int .i64 b, .int .i64 c], .bool true, .bool b64]) ?_ rfl ⟨?_, HB5.out⟩
    · simp [results, Tryd.results17, go_sem, s0, s1, s2]
    · obtain ⟨rfl, rfl, rfl⟩ := habc
      rw [t1, t2, t3]
      rfl

set_option maxRecDepth 100000 in
set_option maxHeartbeats 1000000 in
theorem rt_10000 (h p n : Int) (v : Nat) (name : ByteArray) (w : World) (ho : okN ⟨h, p, n⟩) (hn : valOf name.data.toList = v) (hb1 : bitB v 1 = false) (hb2 : bitB v 2 = false) (hal : (h == 0) = true) :
    Calls Tryd.prog 17 #[stV ⟨h, p, n⟩, .bool false, .bool false, .string name] w (RTakeAns w ⟨h, p, n⟩ v false false) := by
  have hv : v < 128 := by rw [← hn]; exact seven_lt _
  obtain ⟨e1, e2, e4, e8, e16, e32, e64, e33⟩ := rem_bits v hv
  have hv0 : (0 : Int) ≤ (v : Int) := by omega
  have HN := hid hn
  clear hn
  obtain ⟨b4, hb4⟩ : ∃ b, bitB v 4 = b := ⟨_, rfl⟩
  obtain ⟨b8, hb8⟩ : ∃ b, bitB v 8 = b := ⟨_, rfl⟩
  obtain ⟨b16, hb16⟩ : ∃ b, bitB v 16 = b := ⟨_, rfl⟩
  obtain ⟨b32, hb32⟩ : ∃ b, bitB v 32 = b := ⟨_, rfl⟩
  obtain ⟨b64, hb64⟩ : ∃ b, bitB v 64 = b := ⟨_, rfl⟩
  have HBS := hid (show bitB v 1 = false ∧ bitB v 2 = false ∧ bitB v 4 = b4 ∧ bitB v 8 = b8 ∧ bitB v 16 = b16 ∧ bitB v 33 = (false || b32) ∧ bitB v 64 = b64 ∧ (h == 0) = true from ⟨hb1, hb2, hb4, hb8, hb16, by rw [e33, hb1, hb32], hb64, hal⟩)
  rw [hb1] at e1
  rw [hb2] at e2
  rw [hb4] at e4
  rw [hb8] at e8
  rw [hb16] at e16
  rw [hb32] at e32
  rw [hb64] at e64
  clear e33 hb1 hb2 hb4 hb8 hb16 hb32 hb64
  have HO := hid ho
  obtain ⟨⟨o1, o2⟩, ⟨o3, o4⟩, o5, o6⟩ := ho
  obtain ⟨w0, hw0⟩ : ∃ w0, w0 = (w.alloc (.cells #[.int .i64 h, .int .i64 p, .int .i64 n] 30)).alloc (.cells #[.int .i64 0, .int .i64 0, .int .i64 0] 30) := ⟨_, rfl⟩
  have HB0 := hid (show Below w.heap.size w w0 by rw [hw0]; exact ((Below.refl _ _).alloc (Nat.le_refl _) _).alloc (by simp) _)
  have hn0 : IsN30 w0 w.heap.size ⟨h, p, n⟩ := by rw [hw0]; exact (heap_alloc_old _ _ (by simp)).trans (heap_alloc_new _ _)
  have hr0 : IsN30 w0 (w.heap.size + 1) ⟨0, 0, 0⟩ := by
    have := heap_alloc_new (w.alloc (.cells #[.int .i64 h, .int .i64 p, .int .i64 n] 30)) (.cells #[.int .i64 0, .int .i64 0, .int .i64 0] 30); rw [show (w.alloc (.cells #[.int .i64 h, .int .i64 p, .int .i64 n] 30)).heap.size = w.heap.size + 1 by simp] at this; rw [hw0]; exact this
  have HN0 := hid hn0
  have HR0 := hid hr0
  clear hn0 hr0
  subst hw0
  go_enter Tryd.func17, Tryd.ntmps17
  go_wp2_with fail
  refine (refOf_val name v HN.out _).mono ?_
  rintro e w1 ⟨rfl, hb1⟩
  have HB1 := hid (HB0.out.trans (hb1.mono HB0.out.size))
  have HN1 := hid (show IsN30 w1 w.heap.size ⟨h, p, n⟩ from (hb1.block _ HN0.out.lt).trans HN0.out)
  have HR1 := hid (show IsN30 w1 (w.heap.size + 1) ⟨0, 0, 0⟩ from (hb1.block _ HR0.out.lt).trans HR0.out)
  obtain ⟨c0, c1, c2⟩ := HN1.out.cells
  clear hb1 HB0 HN0 HR0
  go_wp2_with fail
  have E8 := hid e8
  have E16 := hid e16
  have HAL := hid hal
  clear e1 e2 e8 e16 e32 e64 hal o3 o4 o5 o6
  obtain ⟨P, hP⟩ : ∃ P, P = w.heap.size := ⟨_, rfl⟩
  have HP := hid hP
  rw [← hP] at HN1 HR1 c0 c1 c2 ⊢
  clear hP
  have hq1 : (v : Int).tdiv 4 = (v : Int) / 4 := Int.tdiv_eq_ediv_of_nonneg hv0
  have hq2 : IntKind.i64.wrap ((v : Int) / 4) = (v : Int) / 4 := IntWalk.i64_in _ (by omega)
  have hq3 : ((v : Int) / 4).tmod 2 = (v : Int) / 4 % 2 := Int.tmod_eq_emod_of_nonneg (by omega)
  have hq4 : IntKind.i64.wrap ((v : Int) / 4 % 2) = (v : Int) / 4 % 2 := IntWalk.i64_in _ (by omega)
  go_region_held3 (fun Y => Y.cell? ⟨P, 0, none⟩ = some (.int .i64 h) ∧ Y.cell? ⟨P, 1, none⟩ = some (.int .i64 p) ∧ Y.cell? ⟨P, 2, none⟩ = some (.int .i64 n))
    (exact IsN30.cells (s := ⟨h, p, n⟩) (keep30 HN1.out (by (repeat' (first | assumption | exact Below.refl _ _ | refine Below.drew ?_ | refine Below.alloc ?_ ?_ _ | refine Below.setCell ?_ ?_ _)) <;> (first | omega | (simp <;> omega)))))
    (first | (go_at_call 26; refine (turn_any h b4 (1) ⟨o1, o2⟩ (by omega) _).mono ?_; rintro e w2 ⟨rfl, rfl⟩))
  all_goals
    rename_i hHeld
    clear hHeld
    obtain ⟨g, hg⟩ : ∃ g, g = w1.heap.size := ⟨_, rfl⟩
    have HG := hid hg
    rw [← hg]
    clear hg
    generalize hW2 : (World.drew _) = W2
    have hgl : P + 1 < g := by rw [HG.out]; exact HR1.out.lt
    have HA2 := hid (show IsN30 W2 g ⟨turnI h b4 (1), p, n⟩ by rw [← hW2, HG.out]; exact heap_alloc_new _ _)
    have HS2 := hid (show IsN30 W2 P ⟨h, p, n⟩ by rw [← hW2]; exact (heap_alloc_old _ _ (by exact HN1.out.lt)).trans HN1.out)
    have HR2 := hid (show IsN30 W2 (P + 1) ⟨0, 0, 0⟩ by rw [← hW2]; exact (heap_alloc_old _ _ (by exact HR1.out.lt)).trans HR1.out)
    have HB2 := hid (show Below w.heap.size w W2 by rw [← hW2]; exact (HB1.out.alloc HB1.out.size _).drew)
    clear hW2 HR1 HN1 HB1 hq1 hq2 hq3 hq4
    obtain ⟨d0, d1, d2⟩ := HS2.out.cells
    obtain ⟨a0, a1, a2⟩ := HA2.out.cells
    have f1 : W2.frozen? ⟨g, 1, none⟩ = false := frozen_of_row _ _ _ _ _ HA2.out
    have e8 := E8.out
    clear e4
    go_wp2_with fail
    refine (turn_any p b8 (1) HO.out.2.1 (by omega) _).mono ?_
    rintro e w5 ⟨rfl, rfl⟩
    clear e8
    have HA3 := hid (show IsN30 (W2.setCell ⟨g, 1, none⟩ (.int .i64 (turnI p b8 (1)))) g ⟨turnI h b4 (1), turnI p b8 (1), n⟩ from heap_setCell_same _ g 1 _ 30 _ HA2.out)
    have HS3 := hid (show IsN30 (W2.setCell ⟨g, 1, none⟩ (.int .i64 (turnI p b8 (1)))) P ⟨h, p, n⟩ from (heap_setCell_other _ ⟨g, 1, none⟩ P _ (by simp; omega)).trans HS2.out)
    have HR3 := hid (show IsN30 (W2.setCell ⟨g, 1, none⟩ (.int .i64 (turnI p b8 (1)))) (P + 1) ⟨0, 0, 0⟩ from (heap_setCell_other _ ⟨g, 1, none⟩ (P + 1) _ (by simp; omega)).trans HR2.out)
    have HB3 := hid (show Below w.heap.size w (W2.setCell ⟨g, 1, none⟩ (.int .i64 (turnI p b8 (1)))) from Below.setCell HB2.out (by have := HP.out; simp; omega) _)
    obtain ⟨W3, hW3⟩ : ∃ W3, W3 = W2.setCell ⟨g, 1, none⟩ (.int .i64 (turnI p b8 (1))) := ⟨_, rfl⟩
    rw [← hW3] at HA3 HS3 HR3 HB3
    have l2 : (W2.setCell ⟨g, 1, none⟩ (.int .i64 (turnI p b8 (1)))).cell? ⟨P, 2, none⟩ = some (.int .i64 n) := by rw [← hW3]; exact HS3.out.cells.2.2
    have hW3' := hid hW3
    clear hW3 d0 d1 d2 HA2 HS2 HR2 HB2
    have e16 := E16.out
    go_wp2_with fail
    refine (turn_any n b16 (1) HO.out.2.2 (by omega) _).mono ?_
    rintro e w6 ⟨rfl, rfl⟩
    clear e16 l2 f1 a0 a1 a2
    rw [← hW3'.out]
    obtain ⟨a0, a1, a2⟩ := HA3.out.cells
    have f2 : W3.frozen? ⟨g, 2, none⟩ = false := frozen_of_row _ _ _ _ _ HA3.out
    have HA4 := hid (show IsN30 (W3.setCell ⟨g, 2, none⟩ (.int .i64 (turnI n b16 (1)))) g ⟨turnI h b4 (1), turnI p b8 (1), turnI n b16 (1)⟩ from heap_setCell_same _ g 2 _ 30 _ HA3.out)
    have HR4 := hid (show IsN30 (W3.setCell ⟨g, 2, none⟩ (.int .i64 (turnI n b16 (1)))) (P + 1) ⟨0, 0, 0⟩ from (heap_setCell_other _ ⟨g, 2, none⟩ (P + 1) _ (by simp; omega)).trans HR3.out)
    have HB4 := hid (show Below w.heap.size w (W3.setCell ⟨g, 2, none⟩ (.int .i64 (turnI n b16 (1)))) from Below.setCell HB3.out (by have := HP.out; simp; omega) _)
    obtain ⟨x0, x1, x2⟩ := HA4.out.cells
    obtain ⟨a, ha⟩ : ∃ a, a = turnI h b4 (1) := ⟨_, rfl⟩
    obtain ⟨b, hb⟩ : ∃ b, b = turnI p b8 (1) := ⟨_, rfl⟩
    obtain ⟨c, hc⟩ : ∃ c, c = turnI n b16 (1) := ⟨_, rfl⟩
    have HABC := hid (show a = turnI h b4 (1) ∧ b = turnI p b8 (1) ∧ c = turnI n b16 (1) from ⟨ha, hb, hc⟩)
    rw [← ha] at x0 HA4 HA3 a0 ⊢
    rw [← hb] at x1 HA4 HA3 a1 ⊢
    rw [← hc] at x0 x1 x2 HA4 HR4 HB4 ⊢
    clear ha hb hc
    have R1 := hid (show IsN30 ((W3.setCell ⟨g, 2, none⟩ (.int .i64 c)).setCell ⟨P + 1, 0, none⟩ (.int .i64 a)) (P + 1) ⟨a, 0, 0⟩ from heap_setCell_same _ (P + 1) 0 _ 30 _ HR4.out)
    have R2 := hid (show IsN30 (((W3.setCell ⟨g, 2, none⟩ (.int .i64 c)).setCell ⟨P + 1, 0, none⟩ (.int .i64 a)).setCell ⟨P + 1, 1, none⟩ (.int .i64 b)) (P + 1) ⟨a, b, 0⟩ from heap_setCell_same _ (P + 1) 1 _ 30 _ R1.out)
    have R3 := hid (show IsN30 ((((W3.setCell ⟨g, 2, none⟩ (.int .i64 c)).setCell ⟨P + 1, 0, none⟩ (.int .i64 a)).setCell ⟨P + 1, 1, none⟩ (.int .i64 b)).setCell ⟨P + 1, 2, none⟩ (.int .i64 c)) (P + 1) ⟨a, b, c⟩ from heap_setCell_same _ (P + 1) 2 _ 30 _ R2.out)
    have HB5 := hid (show Below w.heap.size w ((((W3.setCell ⟨g, 2, none⟩ (.int .i64 c)).setCell ⟨P + 1, 0, none⟩ (.int .i64 a)).setCell ⟨P + 1, 1, none⟩ (.int .i64 b)).setCell ⟨P + 1, 2, none⟩ (.int .i64 c)) from
      Below.setCell (Below.setCell (Below.setCell HB4.out (by have := HP.out; simp; omega) _) (by have := HP.out; simp; omega) _) (by have := HP.out; simp; omega) _)
    obtain ⟨r0, _, _⟩ := HR4.out.cells
    have fr0 : (W3.setCell ⟨g, 2, none⟩ (.int .i64 c)).frozen? ⟨P + 1, 0, none⟩ = false := frozen_of_row _ _ _ _ _ HR4.out
    obtain ⟨_, r1, _⟩ := R1.out.cells
    have fr1 : ((W3.setCell ⟨g, 2, none⟩ (.int .i64 c)).setCell ⟨P + 1, 0, none⟩ (.int .i64 a)).frozen? ⟨P + 1, 1, none⟩ = false := frozen_of_row _ _ _ _ _ R1.out
    obtain ⟨_, _, r2⟩ := R2.out.cells
    have fr2 : (((W3.setCell ⟨g, 2, none⟩ (.int .i64 c)).setCell ⟨P + 1, 0, none⟩ (.int .i64 a)).setCell ⟨P + 1, 1, none⟩ (.int .i64 b)).frozen? ⟨P + 1, 2, none⟩ = false := frozen_of_row _ _ _ _ _ R2.out
    obtain ⟨s0, s1, s2⟩ := R3.out.cells
    go_wp2_with fail
    have fin := hid (rt_ans (v := v) false false HBS.out HO.out)
    have habc := HABC.out
    obtain ⟨t1, t2, t3⟩ := fin.out
    refine bodyPost_ret (v := .tuple #[.agg #[.int .i64 a, .int .i64 b, .int .i64 c], .bool b32, .bool b64]) ?_ rfl ⟨?_, HB5.out⟩
    · simp [results, Tryd.results17, go_sem, s0, s1, s2]
    · obtain ⟨rfl, rfl, rfl⟩ := habc
      rw [t1, t2, t3]
      rfl
end Go.Proofs.YtfdfeblcchbcnaaDoor
