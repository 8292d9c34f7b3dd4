/- Which rule decides at any place: the walk of the law DecideWhich. No conditions. -/
import Derived.Test.YtjcdcmeclnihbaaHi
import Derived.Test.YtjcdcmeclnihbaaWk
namespace Go.Proofs.Ytjcdcmeclnihbaa
open Go.RowKit
set_option linter.unusedSimpArgs false
theorem which_max {d : Nat} (t : Tx d) (ids : List Int) {k : Nat} (h0 : 0 < k) (hk : k < ids.length) :
    whichP t ids (k : Int) = max (rAt (knownT t).rs (ids.map classOf) (hidL (knownT t).ig (knownT t).kp (ids.map classOf)) k) (-1) := by
  unfold whichP
  rw [if_neg (by omega), Int.toNat_natCast]
  cases hb : nthB (hidL (knownT t).ig (knownT t).kp (ids.map classOf)) k with
  | true =>
    rw [if_pos rfl]
    unfold rAt
    rw [if_pos hb]; rfl
  | false =>
    rw [if_neg (by simp), ← rAt_is t (by rw [List.length_map]; omega) hb]
    have : -1 ≤ rAt (knownT t).rs (ids.map classOf) (hidL (knownT t).ig (knownT t).kp (ids.map classOf)) k := by
      unfold rAt
      rw [if_neg (by rw [hb]; simp)]
      rcases idx_bd (fun r => aheadB r.L (wayOf (ids.map classOf) (hidL (knownT t).ig (knownT t).kp (ids.map classOf))) (posOf (ids.map classOf) (hidL (knownT t).ig (knownT t).kp (ids.map classOf)) k) && behindB r.R (wayOf (ids.map classOf) (hidL (knownT t).ig (knownT t).kp (ids.map classOf))) (posOf (ids.map classOf) (hidL (knownT t).ig (knownT t).kp (ids.map classOf)) k)) (knownT t).rs 0 with h | ⟨j, h, _, _⟩
      · rw [h]; exact Int.le_refl _
      · rw [h]; omega
    rw [Int.max_def]
    split
    · omega
    · rfl
set_option maxRecDepth 100000 in
set_option maxHeartbeats 4000000 in
theorem which_walk (d : Nat) (v lv : Value) (t : Tx d) (ids : List Int) (i : Int) (w : World) (h : IsTx w Any d v t) (hl : IsNums .i64 w Any lv ids) :
    Calls Try.prog 6 #[v, lv, .int .i64 i] w fun e w' => e = .returned (.bool true) ∧ Below w.heap.size w w' := by
  obtain ⟨I, ic, K, kc, A, c, rfl, -, -, -, -, -, -⟩ := h.open
  have H := hid h
  clear h
  obtain ⟨M, cm, rfl⟩ := hl.form
  have hle := hl.le
  have HMw := hid hl
  clear hl
  obtain ⟨q, hq⟩ : ∃ q, q = w.heap.size := ⟨_, rfl⟩
  obtain ⟨W, hW0⟩ : ∃ W, W = w.alloc (.cells #[.slice I t.ig.length ic, .slice K t.kp.length kc, .slice A t.rs.length c] 25) := ⟨_, rfl⟩
  have HX := hid (box3 hW0)
  have HWw := hid HX.out.1
  have HT := hid (H.out.below HWw.out)
  have HM := hid (HMw.out.below HWw.out)
  rw [← hq] at HX
  clear H HMw
  cases hg : greatX t with
  | true =>
    have HG := hid hg
    clear hg
    go_enter Try.func6, Try.ntmps6
    go_wp2_with fail
    rw [← hW0]
    refine (great_any d _ t W HT.out).mono ?_
    rintro e w1 ⟨rfl, hb1⟩
    rw [HG.out]
    go_wp2_with fail
    refine (awake_any w1).mono ?_
    rintro e w2 ⟨rfl, hb2⟩
    go_wp2_with fail
    go_ret
    exact ⟨rfl, HWw.out.trans ((hb1.trans (hb2.mono hb1.size)).mono HWw.out.size)⟩
  | false =>
    have HG := hid hg
    obtain ⟨hn45, hcnt⟩ := great_no hg
    have HSM := hid (show t.rs.length ≤ 1000 ∧ ∀ r ∈ t.rs, cnt d r.L ≤ 2000 ∧ cnt d r.R ≤ 2000 from ⟨by omega, fun r hr => by have := hcnt r hr; omega⟩)
    have HSM2 := hid (show SmallT t from HSM.out.2)
    clear hg hn45 hcnt
    by_cases h60 : (14 : Int) < ids.length
    · have b60 := ilt_true h60
      clear h60
      go_enter Try.func6, Try.ntmps6
      go_wp2_with fail
      rw [← hW0]
      refine (great_any d _ t W HT.out).mono ?_
      rintro e w1 ⟨rfl, hb1⟩
      rw [HG.out]
      go_wp2_with fail
      refine (awake_any w1).mono ?_
      rintro e w2 ⟨rfl, hb2⟩
      go_wp2_with fail
      go_ret
      exact ⟨rfl, HWw.out.trans ((hb1.trans (hb2.mono hb1.size)).mono HWw.out.size)⟩
    · have b60 := ilt_false h60
      have hn60 : ids.length ≤ 14 := by omega
      clear h60
      go_enter Try.func6, Try.ntmps6
      go_wp2_with fail
      rw [← hW0]
      refine (great_any d _ t W HT.out).mono ?_
      rintro e w1 ⟨rfl, hb1⟩
      rw [HG.out]
      go_wp2_with fail
      refine (awake_any w1).mono ?_
      rintro e w2 ⟨rfl, hb2⟩
      have HB2 := hid (hb1.trans (hb2.mono hb1.size))
      obtain ⟨h0, h1, h2⟩ := HX.out.2 _ HB2.out
      clear hb1 hb2
      rw [← hq]
      clear hq hW0
      go_wp2_with fail
      refine (totext_any d _ t _ (HT.out.below HB2.out) HSM.out.2 HSM.out.1).mono ?_
      rintro e w3 ⟨v3, rfl, ht3, hb3⟩
      have HB3 := hid (HB2.out.trans (hb3.mono HB2.out.size))
      have HT3 := hid ht3
      obtain ⟨I3, ic3, K3, kc3, A3, c3, rfl, -, -, -, -, -, -⟩ := ht3.open
      clear hb3 ht3 h0 h1 h2
      go_wp2_with fail
      refine (Which_any d _ _ t ids i _ HT3.out (HM.out.below HB3.out) (by omega)).mono ?_
      rintro e w4 ⟨rfl, hb4⟩
      have HB4 := hid (HB3.out.trans (hb4.mono HB3.out.size))
      clear hb4
      obtain ⟨x, hx⟩ : ∃ x, x = whichP t ids i := ⟨_, rfl⟩
      have HXX := hid hx
      rw [← hx]
      clear hx
      by_cases hi0 : i ≤ 0
      · have b0 := ile_true hi0
        have HE := hid (show x = -1 by rw [HXX.out]; unfold whichP; rw [if_pos (.inl hi0)])
        have bx : (x == -1) = true := ieq_true HE.out
        clear hi0
        go_wp2_with fail
        go_ret
        exact ⟨rfl, HWw.out.trans (HB4.out.mono HWw.out.size)⟩
      have b0 := ile_false hi0
      by_cases hi1 : (ids.length : Int) ≤ i
      · have b1 := ile_true hi1
        have HE := hid (show x = -1 by rw [HXX.out]; unfold whichP; rw [if_pos (.inr hi1)])
        have bx : (x == -1) = true := ieq_true HE.out
        clear hi0 hi1
        go_wp2_with fail
        go_ret
        exact ⟨rfl, HWw.out.trans (HB4.out.mono HWw.out.size)⟩
      have b1 := ile_false hi1
      obtain ⟨k, rfl⟩ : ∃ k : Nat, i = (k : Int) := ⟨i.toNat, by omega⟩
      have hk0 : ¬ k = 0 := by omega
      have hkn : k < ids.length := by omega
      have HE := hid (show x = max (rAt (knownT t).rs (ids.map classOf) (hidL (knownT t).ig (knownT t).kp (ids.map classOf)) k) (-1) by rw [HXX.out]; exact which_max t ids (by omega) hkn)
      obtain ⟨h0, h1, h2⟩ := HX.out.2 _ HB4.out
      have bn : decide (ids.length ≤ k) = false := decide_eq_false (by omega)
      clear hi0 hi1
      go_wp2_with fail
      refine (rknown_any Any d _ t _ (HT.out.below HB4.out) HSM2.out).mono ?_
      rintro e w5 ⟨v5, rfl, ht5, hb5⟩
      have HB5 := hid (HB4.out.trans (hb5.mono HB4.out.size))
      have HT5 := hid ht5
      obtain ⟨I5, ic5, K5, kc5, A5, c5, rfl, -, -, -, -, -, -⟩ := ht5.open
      clear hb5 ht5 h0 h1 h2
      go_wp2_with fail
      refine (rwhich_any d _ _ (knownT t) ids _ HT5.out (HM.out.below HB5.out) (by omega)).mono ?_
      rintro e w6 ⟨v6, rfl, hv6, hb6⟩
      have HB6 := hid (HB5.out.trans (hb6.mono HB5.out.size))
      obtain ⟨R, hR⟩ : ∃ R, R = (List.range ids.length).map (rAt (knownT t).rs (ids.map classOf) (hidL (knownT t).ig (knownT t).kp (ids.map classOf))) := ⟨_, rfl⟩
      rw [← hR] at hv6
      have hRl : R.length = ids.length := by rw [hR]; simp
      have hRk : nth R k = rAt (knownT t).rs (ids.map classOf) (hidL (knownT t).ig (knownT t).kp (ids.map classOf)) k := by rw [hR]; unfold nth; simp [hkn]
      obtain ⟨b6, o6, c6, rfl, -, -, hc6⟩ := hv6.at (j := k) (by rw [hRl]; exact hkn)
      rw [hRk] at hc6
      rw [hRl]
      obtain ⟨y, hy⟩ : ∃ y, y = rAt (knownT t).rs (ids.map classOf) (hidL (knownT t).ig (knownT t).kp (ids.map classOf)) k := ⟨_, rfl⟩
      rw [← hy] at hc6 HE
      clear hv6 hb6 hR hRl hRk hy
      go_wp2_with fail
      all_goals
        go_ret
        refine ⟨ret_bool (ieq_true ?_), HWw.out.trans (HB6.out.mono HWw.out.size)⟩
        have h := HE.out
        rw [Int.max_def] at h
        split at h <;> omega
end Go.Proofs.Ytjcdcmeclnihbaa
