/- NfaCounts, walked. No conditions. -/
import Derived.Test.YthdhbkngbmjjkaaNc
namespace Go.Proofs.Ythdhbkngbmjjkaa
open Go.RowKit
set_option linter.unusedSimpArgs false
def kidC (_ : Nat) : Value × Value × Value := (.int .i64 1, .int .i64 0, .slice none 0 0)
theorem kids_row {w : World} {N : Nat} {v : Value} {k : Nat} (h : w.ownsRow N 52 3 v k (flat3 k kidC)) (hk : 0 < k) : ∃ b c, v = .slice (some ⟨b, 0, none⟩) k c ∧ k ≤ c ∧ c ≤ maxLen ∧ Row3 (IsTr w (fun b => b < w.heap.size) 1) w (fun b => b < w.heap.size) (some ⟨b, 0, none⟩) (List.replicate k anyT) := by
  obtain ⟨-, ⟨-, h0⟩ | ⟨b, c, cur, rfl, hB, hh, r1, r2, r3, r4⟩⟩ := id h
  · omega
  · have hb := (Array.getElem?_eq_some_iff.1 hh).1
    refine ⟨b, c, rfl, r1, r2, fun j t ht => ?_⟩
    rw [List.getElem?_replicate] at ht
    split at ht
    · rename_i hj
      injection ht with ht
      subst ht
      have hc := fun i hi => (h.cellAt (j * 3 + i) (by omega)).trans (flat3_at (f := kidC) (n := k) (i := j) (j := i) hj hi)
      refine ⟨b, 0, _, _, _, rfl, hb, hb, ?_, ?_, ?_, ⟨none, 0, rfl, Nat.le_refl _, Nat.zero_le _, fun a t ht => by simp [anyT, Tr.kids] at ht⟩⟩
      · rw [Nat.zero_add]; exact hc 0 (by omega)
      · rw [Nat.zero_add]; exact hc 1 (by omega)
      · rw [Nat.zero_add]; exact hc 2 (by omega)
    · cases ht
set_option maxRecDepth 100000 in
set_option maxHeartbeats 8000000 in
theorem counts_walk (n : Nat) (m : Int) (w : World) (hn : n ≤ 255) : Calls Try.prog 6 #[.int .u8 n, .int .i64 m] w fun e w' => e = .returned (.bool true) ∧ Below w.heap.size w w' := by
  obtain ⟨i0, hi0, hz0, hz1, hz2⟩ := info_parts info45
  obtain ⟨r, hr⟩ : ∃ r, r = n % 10 := ⟨_, rfl⟩
  have hr9 : r ≤ 9 := by omega
  have htm : ((n : Int).tmod 10) = (r : Int) := by rw [Int.tmod_eq_emod_of_nonneg (by omega)]; omega
  obtain ⟨k, hk⟩ : ∃ k, k = 995 + r := ⟨_, rfl⟩
  have hk1 : 995 ≤ k ∧ k ≤ 1004 := by omega
  have HK := hid hk
  clear hk hr
  go_enter Try.func6, Try.ntmps6
  go_wp2_with fail
  refine (awake_any w).mono ?_
  rintro e w1 ⟨rfl, hb1⟩
  have HB1 := hid hb1
  clear hb1
  go_wp2_with fail
  rw [show (995 : Int) + (r : Int) = (k : Int) by have := HK.out; omega]
  clear htm hr9
  obtain ⟨N, hNN⟩ : ∃ N, N = w.heap.size := ⟨_, rfl⟩
  have HNN := hid hNN
  have HB1' := hid (show Below N w w1 by rw [hNN]; exact HB1.out)
  clear hNN
  go_loopw [6, 7] (fun s6 s7 wr => ∃ (j : Nat), j ≤ k ∧ s7 = .int .i64 j ∧ Hid (wr.ownsRow N 52 3 s6 j (flat3 j kidC)) ∧ Hid (Below N w wr)) (fun _ s7 _ => k - (intOf s7).toNat)
  case atStart => exact ⟨0, by omega, rfl, hid (World.ownsRow_nil _ _ _ _), HB1'⟩
  case round =>
    obtain ⟨j, hj, rfl, HO, HB⟩ := hrel
    have HS := hid (show N ≤ wr.heap.size by have h1 := HB.out.size; rw [HNN.out]; exact h1)
    by_cases hlt : j < k
    · obtain ⟨X, hX⟩ : ∃ X, X = wr.alloc (.cells #[.int .i64 1, .int .i64 0, .slice none 0 0] 52) := ⟨_, rfl⟩
      have HXB := hid (show Below wr.heap.size wr X by rw [hX]; exact (Below.refl _ _).alloc (Nat.le_refl _) _)
      have HOX := hid (HO.out.kept (grown_of_below HXB.out none) (Classical.em _))
      have HSX := hid (Nat.le_trans HS.out HXB.out.size)
      have HBX := hid (HB.out.trans (HXB.out.mono HS.out))
      go_wp2_with (first
        | (at_builtin; refine wpList_app _ rfl (.tmp 22) (.tmp 24) 30 rfl N 52 i0 _ 3 40 Try.underlying30 hi0 hz0 hz1 hz2 rfl (by decide) _ j (flat3 j kidC) rfl (by rw [← hX]; exact HOX.out) _ 1 1 [.int .i64 1, .int .i64 0, .slice none 0 0] rfl (src_new3 _ _ _ _ _) (by intro u hu; simp at hu; rcases hu with rfl | rfl | rfl <;> rfl) (by simp only [maxLen]; omega) (by omega) (by rw [← hX]; exact HSX.out) ?_; rw [← hX]; clear hX; intro v' w' hown hgrow hat; have HBW := hid (below_own HBX.out HOX.out hgrow HSX.out); have HOW := hid (show w'.ownsRow N 52 3 v' (j + 1) (flat3 (j + 1) kidC) by rw [flat3_succ]; exact hown); clear hown hgrow hat)
        | fail)
      refine ⟨⟨j + 1, by omega, by go_num, HOW, HBW⟩, by simp [intOf]; omega⟩
    · obtain rfl : j = k := by omega
      obtain ⟨b, c, rfl, r1, r2, hrow⟩ := kids_row HO.out (by omega)
      have HROW := hid hrow
      clear hrow
      obtain ⟨W, hW⟩ : ∃ W, W = wr.alloc (.cells #[.int .i64 5, .int .i64 0, .slice (some ⟨b, 0, none⟩) j c] 52) := ⟨_, rfl⟩
      have HWB := hid (show Below wr.heap.size wr W by rw [hW]; exact (Below.refl _ _).alloc (Nat.le_refl _) _)
      have HBW := hid (show Below w.heap.size w W by rw [← HNN.out]; exact HB.out.trans (HWB.out.mono HS.out))
      have HTR := hid (show Row3 (IsTr W (fun b => b < W.heap.size) 2) W (fun b => b < W.heap.size) (some ⟨wr.heap.size, 0, none⟩) [altT j] from fun a t ht => by
        have hh : W.heap[wr.heap.size]? = some (.cells #[.int .i64 5, .int .i64 0, .slice (some ⟨b, 0, none⟩) j c] 52 (0, 0)) := by rw [hW]; exact heap_alloc_new _ _
        have hl := (Array.getElem?_eq_some_iff.1 hh).1
        have hc : ∀ i, W.cell? ⟨wr.heap.size, i, none⟩ = (#[Value.int .i64 5, .int .i64 0, .slice (some ⟨b, 0, none⟩) j c])[i]? := fun i => cell_of_row _ _ i _ _ _ hh
        match a, ht with
        | 0, ht =>
          injection ht with ht
          subst ht
          refine ⟨_, _, _, _, _, rfl, hl, hl, (hc _).trans rfl, (hc _).trans rfl, (hc _).trans rfl, ⟨some ⟨b, 0, none⟩, c, ?_, ?_, r2, ?_⟩⟩
          · show _ = Value.agg #[.int .i64 5, .int .i64 0, .slice (some ⟨b, 0, none⟩) (List.replicate j anyT).length c]
            rw [List.length_replicate]; rfl
          · show (List.replicate j anyT).length ≤ c
            rw [List.length_replicate]; exact r1
          · intro a t ht
            obtain ⟨q1, q2, q3, q4, q5, e, s1, s2, s3, s4, s5, s6⟩ := (HROW.out.below HWB.out) a t ht
            have hsz := HWB.out.size
            have hq : q1 < wr.heap.size := s1
            exact ⟨q1, q2, q3, q4, q5, e, by omega, s2, s3, s4, s5, s6.mono fun b hb _ => by have hb' : b < wr.heap.size := hb; omega⟩
        | a + 1, ht => cases ht)
      go_wp2_with fail
      rw [← hW]
      clear hW
      refine new_any 2 _ 1 [altT j] false W HTR.out (by simp) (by intro t ht; rw [List.mem_singleton.1 ht]; exact count_right (by omega) (by omega)) _ (fun h7 W2 hb2 => ?_) (fun h7 W2 g b1 b2 H hnb hkn _ _ _ _ _ hb2 => ?_)
      · rw [count_leaves (by omega)] at h7
        have HB2 := hid (HBW.out.trans (hb2.mono HBW.out.size))
        clear hb2
        go_wp2_with fail
        refine (begin_nil W2).mono ?_
        rintro e w3 ⟨rfl, rfl⟩
        go_wp2_with fail
        refine (step_nil _ m _).mono ?_
        rintro e w4 ⟨rfl, rfl⟩
        go_wp2_with fail
        refine (tells_nil _ _).mono ?_
        rintro e w5 ⟨rfl, rfl⟩
        go_wp2_with fail
        refine (count_nil _).mono ?_
        rintro e w6 ⟨rfl, rfl⟩
        go_wp2_with fail
        go_ret
        exact ⟨rfl, (HB2.out.alloc HB2.out.size _).alloc (by have := HB2.out.size; simp; omega) _⟩
      · rw [count_leaves (by omega)] at h7
        have hj : j ≤ 999 := by omega
        rw [count_built] at hnb hkn
        have HNF := hid (show IsNfa W2 g false (countS j) from ⟨_, _, _, _, hnb, hkn⟩)
        have HB2 := hid (HBW.out.trans (hb2.mono HBW.out.size))
        obtain ⟨e1, e2, e3, e4, e5⟩ := buildL_keeps [altT j] 0 1 startB startB_ok.1 startB_ok.2.1 startB_ok.2.2 (by simp [startB]) (by simp) (by intro t ht; rw [List.mem_singleton.1 ht]; exact count_right (by omega) (by omega))
        rw [show buildL 0 [altT j] startB = countS j from count_built j] at e1 e2 e3 e4 e5
        have HL := hid (show (countS j).lfs.length = j by simp [countS])
        have HNX := hid (show ∀ z, (nextOf (countS j) z).length ≤ 1000000 from fun z => by have h1 := next_len (s := countS j) e1 (by rw [← count_built]; exact built_tot _) e4 z; rw [HL.out] at h1; omega)
        have HOK := hid e1
        have HI0 := hid (show i64ok 0 by unfold i64ok; decide)
        clear hb2 hnb hkn e1 e2 e3 e4 e5
        go_wp2_with fail
        refine (begin_nil W2).mono ?_
        rintro e w3 ⟨rfl, rfl⟩
        go_wp2_with fail
        refine (step_nil _ m _).mono ?_
        rintro e w4 ⟨rfl, rfl⟩
        go_wp2_with fail
        refine (tells_nil _ _).mono ?_
        rintro e w5 ⟨rfl, rfl⟩
        go_wp2_with fail
        refine (count_nil _).mono ?_
        rintro e w6 ⟨rfl, rfl⟩
        go_wp2_with fail
        obtain ⟨V, hV⟩ : ∃ V, V = (w3.alloc (.cells #[.int .i64 0] 3)).alloc (.cells #[.int .i64 0] 3) := ⟨_, rfl⟩
        have HVB := hid (show Below w3.heap.size w3 V by rw [hV]; exact ((Below.refl _ _).alloc (Nat.le_refl _) _).alloc (by simp) _)
        rw [← hV]
        clear hV
        have HNV := hid (HNF.out.below HVB.out)
        have HBV := hid (HB2.out.trans (HVB.out.mono HB2.out.size))
        refine (count_any g false (countS j) V HNV.out (by rw [HL.out]; omega)).mono ?_
        rintro e w7 ⟨rfl, rfl⟩
        rw [HL.out]
        have hcj : ((j + 1 : Nat) : Int) = (j : Int) + 1 := by omega
        rw [hcj]
        clear hcj
        go_wp2_with fail
        refine (begin_any g w7).mono ?_
        rintro e w8 ⟨v8, rfl, hv8, hb8⟩
        have HV8 := hid hv8
        have HN8 := hid (HNV.out.below hb8)
        have HB8 := hid (HBV.out.trans (hb8.mono HBV.out.size))
        clear hv8 hb8
        go_wp2_with fail
        refine (step_any g false (countS j) _ v8 [0] 3 w8 HN8.out HOK.out HNX.out HV8.out (by intro z hz; rw [List.mem_singleton.1 hz]; exact HI0.out) (by decide) (by rw [HL.out]; omega)).mono ?_
        rintro e w9 ⟨v9, rfl, hv9, hb9⟩
        rw [count_step] at hv9
        obtain ⟨A9, c9, rfl⟩ := hv9.form
        rw [upTo_len]
        have HB9 := hid (HB8.out.trans (hb9.mono HB8.out.size))
        clear hv9 hb9
        go_wp2_with fail
        go_ret
        exact ⟨rfl, HB9.out⟩
end Go.Proofs.Ythdhbkngbmjjkaa
