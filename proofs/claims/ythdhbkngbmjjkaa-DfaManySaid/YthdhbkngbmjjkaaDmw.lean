/- DfaMany, walked. No conditions. -/
import Derived.Test.YthdhbkngbmjjkaaDp
import Derived.Test.YthdhbkngbmjjkaaDz
import Derived.Deep.QuietTactic
import Derived.BigQuiet
namespace Go.Proofs.Ythdhbkngbmjjkaa
open Go.RowKit
set_option linter.unusedSimpArgs false
def kidV (j : Nat) : Value × Value × Value := if j = 0 then (.int .i64 0, .int .i64 5, .slice none 0 0) else (.int .i64 1, .int .i64 0, .slice none 0 0)
theorem kidV_next (j : Nat) : kidV (j + 1) = (.int .i64 1, .int .i64 0, .slice none 0 0) := rfl
theorem kidsV_row {w : World} {N : Nat} {v : Value} {k : Nat} (h : w.ownsRow N 52 3 v (k + 2) (flat3 (k + 2) kidV)) : ∃ b c, v = .slice (some ⟨b, 0, none⟩) (k + 2) c ∧ k + 2 ≤ c ∧ c ≤ maxLen ∧ Row3 (IsTr w (fun b => b < w.heap.size) 1) w (fun b => b < w.heap.size) (some ⟨b, 0, none⟩) (kidsM k) := by
  obtain ⟨-, ⟨-, h0⟩ | ⟨b, c, cur, rfl, hB, hh, r1, r2, r3, r4⟩⟩ := id h
  · omega
  · have hb := (Array.getElem?_eq_some_iff.1 hh).1
    refine ⟨b, c, rfl, r1, r2, fun j t ht => ?_⟩
    have hj : j < k + 2 := by rw [← kids_len k]; exact (List.getElem?_eq_some_iff.1 ht).1
    have hc := fun i hi => (h.cellAt (j * 3 + i) (by omega)).trans (flat3_at (f := kidV) (n := k + 2) (i := j) (j := i) hj hi)
    have hkey : Tr.kids t = [] ∧ kidV j = (.int .i64 (Tr.kind t), .int .i64 (Tr.cls t), .slice none 0 0) := by
      cases j with
      | zero => injection ht with ht; subst ht; exact ⟨rfl, rfl⟩
      | succ j =>
        have ht' : (List.replicate (k + 1) anyM)[j]? = some t := ht
        rw [List.getElem?_replicate] at ht'
        split at ht'
        · injection ht' with ht'; subst ht'; exact ⟨rfl, rfl⟩
        · cases ht'
    obtain ⟨hk, hv⟩ := hkey
    rw [hv] at hc
    refine ⟨b, 0, .int .i64 (Tr.kind t), .int .i64 (Tr.cls t), .slice none 0 0, rfl, hb, hb, ?_, ?_, ?_, ⟨none, 0, ?_, by rw [hk]; exact Nat.le_refl _, Nat.zero_le _, fun a u hu => by rw [hk] at hu; simp at hu⟩⟩
    · rw [Nat.zero_add]; exact hc 0 (by omega)
    · rw [Nat.zero_add]; exact hc 1 (by omega)
    · rw [Nat.zero_add]; exact hc 2 (by omega)
    · rw [hk]; rfl
set_option maxRecDepth 100000 in
set_option maxHeartbeats 8000000 in
theorem many_walk (n : Nat) (w : World) (hn : n ≤ 255) : Calls Try.prog 9 #[.int .u8 n] w fun e w' => e = .returned (.bool true) ∧ Below w.heap.size w w' := by
  obtain ⟨i0, hi0, hz0, hz1, hz2⟩ := info_parts info45
  obtain ⟨k, hk⟩ : ∃ k, k = n % 12 := ⟨_, rfl⟩
  have hk11 : k < 12 := by omega
  have htm : ((n : Int).tmod 12) = (k : Int) := by rw [Int.tmod_eq_emod_of_nonneg (by omega)]; omega
  have htm2 : ((n : Int) % 12) = (k : Int) := by omega
  clear hk
  go_enter Try.func9, Try.ntmps9
  go_wp2_with fail
  refine (dawake_any w).mono ?_
  rintro e w1 ⟨rfl, hb1⟩
  have HB1 := hid hb1
  clear hb1
  go_wp2_with fail
  clear htm htm2
  obtain ⟨N, hNN⟩ : ∃ N, N = w1.heap.size := ⟨_, rfl⟩
  obtain ⟨X0, hX0⟩ : ∃ X, X = w1.alloc (.cells #[.int .i64 0, .int .i64 5, .slice none 0 0, .int .i64 1, .int .i64 0, .slice none 0 0] 52) := ⟨_, rfl⟩
  have HB0 := hid (show Below N w1 X0 by rw [hX0, hNN]; exact (Below.refl _ _).alloc (Nat.le_refl _) _)
  have HO0 := hid (show X0.ownsRow N 52 3 (.slice (some ⟨N, 0, none⟩) 2 2) (0 + 2) (flat3 (0 + 2) kidV) from ⟨by rw [flat3_len], .inr ⟨N, 2, #[.int .i64 0, .int .i64 5, .slice none 0 0, .int .i64 1, .int .i64 0, .slice none 0 0], rfl, Nat.le_refl _, by rw [hX0, hNN]; exact heap_alloc_new _ _, Nat.le_refl _, by decide, rfl, rfl⟩⟩)
  have HNN := hid (show w.heap.size ≤ N by rw [hNN]; exact HB1.out.size)
  have HN1 := hid hNN
  rw [← hX0, ← hNN]
  clear hNN hX0
  go_loopw [4, 5] (fun s4 s5 wr => ∃ (j : Nat), j ≤ k ∧ s5 = .int .i64 j ∧ Hid (wr.ownsRow N 52 3 s4 (j + 2) (flat3 (j + 2) kidV)) ∧ Hid (Below N w1 wr) ∧ Hid (N ≤ wr.heap.size)) (fun _ s5 _ => k - (intOf s5).toNat)
  case atStart => exact ⟨0, by omega, rfl, HO0, HB0, hid (by rw [HN1.out]; exact HB0.out.size)⟩
  case round =>
    clear HO0 HB0
    obtain ⟨j, hj, rfl, HO, HB, HS⟩ := hrel
    by_cases hlt : j < k
    · obtain ⟨X, hX⟩ : ∃ X, X = wr.alloc (.cells #[.int .i64 1, .int .i64 0, .slice none 0 0] 52) := ⟨_, rfl⟩
      have HXB := hid (show Below wr.heap.size wr X by rw [hX]; exact (Below.refl _ _).alloc (Nat.le_refl _) _)
      have HOX := hid (HO.out.kept (grown_of_below HXB.out none) (Classical.em _))
      have HSX := hid (Nat.le_trans HS.out HXB.out.size)
      have HBX := hid (HB.out.trans (HXB.out.mono HS.out))
      go_wp2_with (first
        | (at_builtin; refine wpList_app _ rfl (.tmp 25) (.tmp 27) 30 rfl N 52 i0 _ 3 40 Try.underlying30 hi0 hz0 hz1 hz2 rfl (by decide) _ (j + 2) (flat3 (j + 2) kidV) rfl (by rw [← hX]; exact HOX.out) _ 1 1 [.int .i64 1, .int .i64 0, .slice none 0 0] rfl (src_new3 _ _ _ _ _) (by intro u hu; simp at hu; rcases hu with rfl | rfl | rfl <;> rfl) (by simp only [maxLen]; omega) (by omega) (by rw [← hX]; exact HSX.out) ?_; rw [← hX]; clear hX; intro v' w' hown hgrow hat; have HBW := hid (below_own HBX.out HOX.out hgrow HSX.out); have HOW := hid (show w'.ownsRow N 52 3 v' (j + 1 + 2) (flat3 (j + 1 + 2) kidV) by rw [show j + 1 + 2 = j + 2 + 1 by omega, flat3_succ, kidV_next]; exact hown); have HSW := hid (show N ≤ w'.heap.size from Nat.le_trans HSX.out hgrow.size); clear hown hgrow hat)
        | fail)
      refine ⟨⟨j + 1, by omega, by go_num, HOW, HBW, HSW⟩, by simp [intOf]; omega⟩
    · obtain rfl : j = k := by omega
      obtain ⟨b, c, rfl, r1, r2, hrow⟩ := kidsV_row HO.out
      have HROW := hid hrow
      clear hrow
      obtain ⟨W, hW⟩ : ∃ W, W = wr.alloc (.cells #[.int .i64 4, .int .i64 0, .slice (some ⟨b, 0, none⟩) (j + 2) c] 52) := ⟨_, rfl⟩
      have HWB := hid (show Below wr.heap.size wr W by rw [hW]; exact (Below.refl _ _).alloc (Nat.le_refl _) _)
      have HBW := hid (show Below w.heap.size w W from HB1.out.trans (((show Below N w1 W from HB.out.trans (HWB.out.mono HS.out))).mono HNN.out))
      have HTR := hid (show Row3 (IsTr W (fun b => b < W.heap.size) 2) W (fun b => b < W.heap.size) (some ⟨wr.heap.size, 0, none⟩) [treeM j] from fun a t ht => by
        have hh : W.heap[wr.heap.size]? = some (.cells #[.int .i64 4, .int .i64 0, .slice (some ⟨b, 0, none⟩) (j + 2) c] 52 (0, 0)) := by rw [hW]; exact heap_alloc_new _ _
        have hl := (Array.getElem?_eq_some_iff.1 hh).1
        have hc : ∀ i, W.cell? ⟨wr.heap.size, i, none⟩ = (#[Value.int .i64 4, .int .i64 0, .slice (some ⟨b, 0, none⟩) (j + 2) c])[i]? := fun i => cell_of_row _ _ i _ _ _ hh
        match a, ht with
        | 0, ht =>
          injection ht with ht
          subst ht
          refine ⟨_, _, _, _, _, rfl, hl, hl, (hc _).trans rfl, (hc _).trans rfl, (hc _).trans rfl, ⟨some ⟨b, 0, none⟩, c, ?_, ?_, r2, ?_⟩⟩
          · show _ = Value.agg #[.int .i64 4, .int .i64 0, .slice (some ⟨b, 0, none⟩) (kidsM j).length c]
            rw [kids_len]; rfl
          · show (kidsM j).length ≤ c
            rw [kids_len]; exact r1
          · intro a t ht
            obtain ⟨q1, q2, q3, q4, q5, e, s1, s2, s3, s4, s5, s6⟩ := (HROW.out.below HWB.out) a t ht
            have hsz := HWB.out.size
            have hq : q1 < wr.heap.size := s1
            exact ⟨q1, q2, q3, q4, q5, e, by omega, s2, s3, s4, s5, s6.mono fun b hb _ => by have hb' : b < wr.heap.size := hb; omega⟩
        | a + 1, ht => cases ht)
      have HF := hid (many_fine hk11)
      clear HO HROW
      go_wp2_with fail
      rw [← hW]
      clear hW
      refine (new_right 2 _ 1 [treeM j] true W HTR.out HF.out.cnt HF.out.right HF.out.few).mono ?_
      rintro e w2 ⟨g, rfl, hn2, hb2⟩
      have HN2 := hid hn2
      have HB2 := hid (HBW.out.trans (hb2.mono HBW.out.size))
      have HGD := hid HF.out.good
      clear hn2 hb2
      by_cases hk8 : j < 8
      · have HD := hid (many_ends hk11)
        have hp : 2 ^ (j + 2) ≤ 1000 := Nat.le_trans (Nat.pow_le_pow_right (by decide) (show j + 2 ≤ 9 by omega)) (by decide)
        have HP := hid hp
        clear hp
        go_wp2_with fail
        refine (dnew_done HN2.out HGD.out HD.out HP.out).mono ?_
        rintro e w3 ⟨v, rfl, hv, hb3⟩
        obtain ⟨NA, nc, TA, nt, tc, rfl⟩ : ∃ NA nc TA nt tc, v = .agg #[.slice NA (2 ^ (j + 2)) nc, .slice TA nt tc] := by
          obtain ⟨nv, tv, e1, e2, e3⟩ := hv
          obtain ⟨NA, nc, e4⟩ := e2.form
          obtain ⟨TA, tc, e5⟩ := e3.form
          rw [(outB_len true (builtB [treeM j]) _).1] at e4
          exact ⟨NA, nc, TA, _, tc, by rw [e1, e4, e5]⟩
        obtain ⟨p2, hp2⟩ : ∃ p2, p2 = 2 ^ (j + 2) := ⟨_, rfl⟩
        have HP2 := hid hp2
        rw [← hp2]
        have HB3 := hid (HB2.out.trans (hb3.mono HB2.out.size))
        obtain ⟨q, hq⟩ : ∃ q, q = w3.heap.size := ⟨_, rfl⟩
        obtain ⟨X, hX⟩ : ∃ X, X = w3.alloc (.cells #[.slice NA p2 nc, .slice TA nt tc] 59) := ⟨_, rfl⟩
        have HX := hid (show X.heap[q]? = some (.cells #[.slice NA p2 nc, .slice TA nt tc] 59 (0, 0)) by rw [hX, hq]; exact heap_alloc_new _ _)
        have HXB := hid (show Below w3.heap.size w3 X by rw [hX]; exact (Below.refl _ _).alloc (Nat.le_refl _) _)
        clear hv hb3 hp2
        go_wp2_with fail
        rw [← hX, ← hq]
        clear hX hq
        refine (dnew_nil X).mono ?_
        rintro e w4 ⟨rfl, hb4⟩
        obtain ⟨Y, hY⟩ : ∃ Y, Y = w4.alloc (.cells #[.slice none 0 0, .slice none 0 0] 59) := ⟨_, rfl⟩
        have HY4 := hid (show Below w4.heap.size w4 Y by rw [hY]; exact (Below.refl _ _).alloc (Nat.le_refl _) _)
        have HXY := hid (show Below X.heap.size X Y from hb4.trans (HY4.out.mono hb4.size))
        have HBY := hid (HB3.out.trans ((HXB.out.trans (HXY.out.mono HXB.out.size)).mono HB3.out.size))
        obtain ⟨y0, y1, -⟩ := slot2 ((HXY.out.block _ (Array.getElem?_eq_some_iff.1 HX.out).1).trans HX.out)
        obtain ⟨z0, z1, -⟩ := slot2 (show Y.heap[w4.heap.size]? = some (.cells #[.slice none 0 0, .slice none 0 0] 59 (0, 0)) by rw [hY]; exact heap_alloc_new _ _)
        rw [hY] at y0 y1 z0 z1
        clear hb4
        go_wp2_with fail
        rw [← hY] at y0 ⊢
        clear hY y1 z0 z1
        have hj0 : 0 ≤ (j : Int) + 2 := by omega
        have hjt : ((j : Int) + 2).toNat = j + 2 := by omega
        have hjw : IntKind.i64.wrap ((j : Int) + 2) = (j : Int) + 2 := IntWalk.i64_in _ (by omega)
        have HSH := hid (show ((p2 : Int) == wrap64 (2 ^ (j + 2))) = true by
          have h1 : ((2 : Int) ^ (j + 2)) = (p2 : Int) := by rw [HP2.out]; simp
          have h2 := HP.out
          rw [← HP2.out] at h2
          rw [h1, IntWalk.wrap64_in _ ⟨by omega, by omega⟩]
          simp)
        go_quiet (fail)
        go_wp2_with fail
        go_ret
        exact ⟨ret_bool HSH.out, below_drewN HBY.out _⟩
      · have hp : 1000 < 2 ^ (j + 2) := Nat.lt_of_lt_of_le (by decide : 1000 < 2 ^ 10) (Nat.pow_le_pow_right (by decide) (show 10 ≤ j + 2 by omega))
        have HP := hid hp
        clear hp
        go_wp2_with fail
        refine (dnew_any HN2.out HGD.out).mono ?_
        rintro e w3 ⟨hb3, ⟨m, hm, h1, h2, -⟩ | ⟨m, -, -, -, rfl⟩⟩
        · exfalso
          have h3 := many_done hk11 (n := m) ⟨fun i hi => (h1 i hi).1, h2⟩
          have h4 := HP.out
          omega
        have HB3 := hid (HB2.out.trans (hb3.mono HB2.out.size))
        obtain ⟨q, hq⟩ : ∃ q, q = w3.heap.size := ⟨_, rfl⟩
        obtain ⟨X, hX⟩ : ∃ X, X = w3.alloc (.cells #[.slice none 0 0, .slice none 0 0] 59) := ⟨_, rfl⟩
        have HX := hid (show X.heap[q]? = some (.cells #[.slice none 0 0, .slice none 0 0] 59 (0, 0)) by rw [hX, hq]; exact heap_alloc_new _ _)
        have HXB := hid (show Below w3.heap.size w3 X by rw [hX]; exact (Below.refl _ _).alloc (Nat.le_refl _) _)
        clear hb3
        go_wp2_with fail
        rw [← hX, ← hq]
        clear hX hq
        refine (dnew_nil X).mono ?_
        rintro e w4 ⟨rfl, hb4⟩
        obtain ⟨Y, hY⟩ : ∃ Y, Y = w4.alloc (.cells #[.slice none 0 0, .slice none 0 0] 59) := ⟨_, rfl⟩
        have HY4 := hid (show Below w4.heap.size w4 Y by rw [hY]; exact (Below.refl _ _).alloc (Nat.le_refl _) _)
        have HXY := hid (show Below X.heap.size X Y from hb4.trans (HY4.out.mono hb4.size))
        have HBY := hid (HB3.out.trans ((HXB.out.trans (HXY.out.mono HXB.out.size)).mono HB3.out.size))
        obtain ⟨y0, y1, -⟩ := slot2 ((HXY.out.block _ (Array.getElem?_eq_some_iff.1 HX.out).1).trans HX.out)
        obtain ⟨z0, z1, -⟩ := slot2 (show Y.heap[w4.heap.size]? = some (.cells #[.slice none 0 0, .slice none 0 0] 59 (0, 0)) by rw [hY]; exact heap_alloc_new _ _)
        rw [hY] at y0 y1 z0 z1
        clear hb4
        go_wp2_with fail
        rw [← hY]
        go_ret
        exact ⟨rfl, HBY.out⟩
end Go.Proofs.Ythdhbkngbmjjkaa
