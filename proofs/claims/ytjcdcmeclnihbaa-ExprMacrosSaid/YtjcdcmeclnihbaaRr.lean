/- Whether an expression is right, within another one or by itself: the document's Right. Condition: no more nodes than there may be. -/
import Derived.Test.YtjcdcmeclnihbaaFl
import Derived.Test.YtjcdcmeclnihbaaCn
namespace Go.Proofs.Ytjcdcmeclnihbaa
open Go.RowKit
theorem rightT_fits {d : Nat} {t : Tr d} (h : cnt d t ≤ 2000) : rightT d t = fitsT d false t := by
  unfold rightT
  rw [decide_eq_true (sizeT_le (by omega) |>.2 (by omega))]; rfl
theorem fitB_leaf {on : Bool} {k c n : Int} (h : k = 0 ∨ k = 2) (hn : n = 0) (h0 : 0 ≤ c) (h1 : c ≤ 35) : fitB on k c n = true := by
  refine fitB_yes (by omega) (by omega) (by omega) ?_ ?_ ?_
  · unfold least; rw [if_neg (by omega), if_neg (by omega)]; omega
  · unfold most; rw [if_neg (by omega), if_neg (by omega)]; omega
  · rw [if_pos h]; omega
theorem fitB_one {on : Bool} {k n : Int} (h : k = 1 ∨ k = 3 ∨ k = 9) (hin : ¬ (k = 9 ∧ on = true)) (hn : n = 0) : fitB on k 0 n = true := by
  refine fitB_yes (by omega) (by omega) hin ?_ ?_ ?_
  · unfold least; rw [if_neg (by omega), if_neg (by omega)]; omega
  · unfold most; rw [if_neg (by omega), if_neg (by omega)]; omega
  · rw [if_neg (by omega)]
theorem fitB_nkid {on : Bool} {k c n : Int} (h : k ≤ 3 ∨ k = 9) (hn : 0 < n) : fitB on k c n = false := by
  refine fitB_few (.inr ?_)
  unfold most; rw [if_neg (by omega), if_neg (by omega)]; exact hn
theorem fitB_two {on : Bool} {k c n : Int} (h : k = 4 ∨ k = 5) (hn : 2 ≤ n) (hm : n ≤ 2000) : fitB on k c n = (c == 0) := by
  by_cases hc : c = 0
  · rw [ieq_true hc]
    refine fitB_yes (by omega) (by omega) (by omega) ?_ ?_ ?_
    · unfold least; rw [if_pos h]; exact hn
    · unfold most; rw [if_pos h]; exact hm
    · rw [if_neg (by omega)]; exact hc
  · rw [ieq_false hc]; exact fitB_plain (by omega) hc
theorem fitB_oft {on : Bool} {k c n : Int} (h : k = 6 ∨ k = 7 ∨ k = 8) (hn : n = 1) : fitB on k c n = (c == 0) := by
  by_cases hc : c = 0
  · rw [ieq_true hc]
    refine fitB_yes (by omega) (by omega) (by omega) ?_ ?_ ?_
    · unfold least; rw [if_neg (by omega), if_pos h]; omega
    · unfold most; rw [if_neg (by omega), if_pos h]; omega
    · rw [if_neg (by omega)]; exact hc
  · rw [ieq_false hc]; exact fitB_plain (by omega) hc
set_option maxRecDepth 100000 in
set_option maxHeartbeats 8000000 in
theorem rright_any (S : Nat → Prop) : ∀ (d : Nat) (v : Value) (t : Tr d) (on : Bool) (w : World), IsTr w S d v t → cnt d t ≤ 2000 →
    Calls Try.prog 26 #[v, .bool on] w fun e w' => e = .returned (.bool (fitsT d on t)) ∧ Below w.heap.size w w' := by
  intro d
  induction d with
  | zero => intro v t; exact t.elim
  | succ d ih =>
    intro v t on w h hn
    obtain ⟨A, c, rfl, hle, hkids⟩ := h.open
    obtain ⟨W, hW0⟩ : ∃ W, W = w.alloc (.cells #[.int .i64 (Tr.kind t), .int .i64 (Tr.cls t), .slice A (Tr.kids t).length c] 51) := ⟨_, rfl⟩
    have HX := hid (box3 hW0)
    have HT := hid (h.below HX.out.1)
    have HS := hid (show sizeT (d + 1) 2000 t ≤ 2000 from sizeT_le (by omega) |>.2 (by omega))
    obtain ⟨kd, hkd⟩ : ∃ kd, kd = Tr.kind t := ⟨_, rfl⟩
    obtain ⟨cl, hcl⟩ : ∃ cl, cl = Tr.cls t := ⟨_, rfl⟩
    obtain ⟨l, hl⟩ : ∃ l, l = Tr.kids t := ⟨_, rfl⟩
    have hres := hid (show fitsT (d + 1) on t = (fitB on kd cl l.length && l.all (fun x => fitsT d true x)) by rw [hl, hkd, hcl]; rfl)
    have HM := hid (show cntL (fun k => cnt d k) l ≤ 1999 by rw [hl]; simp only [cnt] at hn; omega)
    have HM2 := hid (show l.length ≤ 1999 from Nat.le_trans (cntL_len (fun x => cnt_pos d x) l) HM.out)
    rw [← hkd, ← hcl, ← hl] at HT hW0 HX
    rw [← hkd, ← hcl, ← hl]
    rw [← hl] at hkids hle
    clear hkd hcl hl h hn
    have HW := hid hW0
    have HK := hid (hkids.below HX.out.1)
    have IH := hid ih
    have hn1 : l.length ≤ 1999 := HM2.out
    clear hkids ih hW0 hle
    obtain ⟨z, hz⟩ : ∃ z, z = sizeT (d + 1) 2000 t := ⟨_, rfl⟩
    have HZ := hid hz
    have bz : decide (2000 < z) = false := ilt_false (by rw [hz]; have := HS.out; omega)
    clear hz
    have HN := hid (show fitB on kd cl l.length = false → false = fitsT (d + 1) on t from fun h => by rw [hres.out, h]; rfl)
    by_cases h1 : kd < 0
    · have b1 := ilt_true h1
      have HE := hid (HN.out (fitB_lo h1))
      clear h1
      cases on with
      | false =>
        go_enter Try.func26, Try.ntmps26
        go_wp2_with fail
        rw [← HW.out]
        refine (size_any S _ _ _ _ _ HT.out (by omega) (by omega)).mono ?_
        rintro e w1 ⟨rfl, hb1⟩
        rw [← HZ.out]
        obtain ⟨g0, g1, g2⟩ := HX.out.2 w1 hb1
        go_wp2_with fail
        go_ret
        exact ⟨ret_bool HE.out, HX.out.1.trans (hb1.mono HX.out.1.size)⟩
      | true =>
        go_enter Try.func26, Try.ntmps26
        go_wp2_with fail
        go_ret
        exact ⟨ret_bool HE.out, by rw [← HW.out]; exact HX.out.1⟩
    by_cases h2 : 9 < kd
    · have b1 := ilt_false h1
      have b2 := ilt_true h2
      have HE := hid (HN.out (fitB_hi h2))
      clear h1 h2
      cases on with
      | false =>
        go_enter Try.func26, Try.ntmps26
        go_wp2_with fail
        rw [← HW.out]
        refine (size_any S _ _ _ _ _ HT.out (by omega) (by omega)).mono ?_
        rintro e w1 ⟨rfl, hb1⟩
        rw [← HZ.out]
        obtain ⟨g0, g1, g2⟩ := HX.out.2 w1 hb1
        go_wp2_with fail
        go_ret
        exact ⟨ret_bool HE.out, HX.out.1.trans (hb1.mono HX.out.1.size)⟩
      | true =>
        go_enter Try.func26, Try.ntmps26
        go_wp2_with fail
        go_ret
        exact ⟨ret_bool HE.out, by rw [← HW.out]; exact HX.out.1⟩
    have hlo : 0 ≤ kd := by omega
    have hhi : kd ≤ 9 := by omega
    clear h1 h2
    by_cases e0 : kd = 0
    · subst e0
      by_cases hl : l.length = 0
      · have bl : ((l.length : Int) == 0) = true := ieq_true (by omega)
        by_cases hc : 0 ≤ cl
        · have bc := ile_true hc
          by_cases hd : cl ≤ 35
          · have bd := ile_true hd
            have HE := hid (show true = fitsT (d + 1) on t by rw [hres.out, fitB_leaf (by simp) (by omega) hc hd, List.length_eq_zero_iff.1 hl]; rfl)
            clear hc hd hl hn1
            cases on with
            | false =>
              go_enter Try.func26, Try.ntmps26
              go_wp2_with fail
              rw [← HW.out]
              refine (size_any S _ _ _ _ _ HT.out (by omega) (by omega)).mono ?_
              rintro e w1 ⟨rfl, hb1⟩
              rw [← HZ.out]
              obtain ⟨g0, g1, g2⟩ := HX.out.2 w1 hb1
              go_wp2_with fail
              go_ret
              exact ⟨ret_bool HE.out, HX.out.1.trans (hb1.mono HX.out.1.size)⟩
            | true =>
              go_enter Try.func26, Try.ntmps26
              go_wp2_with fail
              go_ret
              exact ⟨ret_bool HE.out, by rw [← HW.out]; exact HX.out.1⟩
          · have bd := ile_false hd
            have HE := hid (HN.out (fitB_named (by simp) (.inr (by omega))))
            clear hc hd hl hn1
            cases on with
            | false =>
              go_enter Try.func26, Try.ntmps26
              go_wp2_with fail
              rw [← HW.out]
              refine (size_any S _ _ _ _ _ HT.out (by omega) (by omega)).mono ?_
              rintro e w1 ⟨rfl, hb1⟩
              rw [← HZ.out]
              obtain ⟨g0, g1, g2⟩ := HX.out.2 w1 hb1
              go_wp2_with fail
              go_ret
              exact ⟨ret_bool HE.out, HX.out.1.trans (hb1.mono HX.out.1.size)⟩
            | true =>
              go_enter Try.func26, Try.ntmps26
              go_wp2_with fail
              go_ret
              exact ⟨ret_bool HE.out, by rw [← HW.out]; exact HX.out.1⟩
        · have bc := ile_false hc
          have HE := hid (HN.out (fitB_named (by simp) (.inl (by omega))))
          clear hc hl hn1
          cases on with
          | false =>
            go_enter Try.func26, Try.ntmps26
            go_wp2_with fail
            rw [← HW.out]
            refine (size_any S _ _ _ _ _ HT.out (by omega) (by omega)).mono ?_
            rintro e w1 ⟨rfl, hb1⟩
            rw [← HZ.out]
            obtain ⟨g0, g1, g2⟩ := HX.out.2 w1 hb1
            go_wp2_with fail
            go_ret
            exact ⟨ret_bool HE.out, HX.out.1.trans (hb1.mono HX.out.1.size)⟩
          | true =>
            go_enter Try.func26, Try.ntmps26
            go_wp2_with fail
            go_ret
            exact ⟨ret_bool HE.out, by rw [← HW.out]; exact HX.out.1⟩
      · have bl : ((l.length : Int) == 0) = false := ieq_false (by omega)
        have HE := hid (HN.out (fitB_nkid (by omega) (by omega)))
        clear hl hn1
        cases on with
        | false =>
          go_enter Try.func26, Try.ntmps26
          go_wp2_with fail
          rw [← HW.out]
          refine (size_any S _ _ _ _ _ HT.out (by omega) (by omega)).mono ?_
          rintro e w1 ⟨rfl, hb1⟩
          rw [← HZ.out]
          obtain ⟨g0, g1, g2⟩ := HX.out.2 w1 hb1
          go_wp2_with fail
          go_ret
          exact ⟨ret_bool HE.out, HX.out.1.trans (hb1.mono HX.out.1.size)⟩
        | true =>
          go_enter Try.func26, Try.ntmps26
          go_wp2_with fail
          go_ret
          exact ⟨ret_bool HE.out, by rw [← HW.out]; exact HX.out.1⟩
    by_cases e2 : kd = 2
    · subst e2
      by_cases hl : l.length = 0
      · have bl : ((l.length : Int) == 0) = true := ieq_true (by omega)
        by_cases hc : 0 ≤ cl
        · have bc := ile_true hc
          by_cases hd : cl ≤ 35
          · have bd := ile_true hd
            have HE := hid (show true = fitsT (d + 1) on t by rw [hres.out, fitB_leaf (by simp) (by omega) hc hd, List.length_eq_zero_iff.1 hl]; rfl)
            clear hc hd hl hn1
            cases on with
            | false =>
              go_enter Try.func26, Try.ntmps26
              go_wp2_with fail
              rw [← HW.out]
              refine (size_any S _ _ _ _ _ HT.out (by omega) (by omega)).mono ?_
              rintro e w1 ⟨rfl, hb1⟩
              rw [← HZ.out]
              obtain ⟨g0, g1, g2⟩ := HX.out.2 w1 hb1
              go_wp2_with fail
              go_ret
              exact ⟨ret_bool HE.out, HX.out.1.trans (hb1.mono HX.out.1.size)⟩
            | true =>
              go_enter Try.func26, Try.ntmps26
              go_wp2_with fail
              go_ret
              exact ⟨ret_bool HE.out, by rw [← HW.out]; exact HX.out.1⟩
          · have bd := ile_false hd
            have HE := hid (HN.out (fitB_named (by simp) (.inr (by omega))))
            clear hc hd hl hn1
            cases on with
            | false =>
              go_enter Try.func26, Try.ntmps26
              go_wp2_with fail
              rw [← HW.out]
              refine (size_any S _ _ _ _ _ HT.out (by omega) (by omega)).mono ?_
              rintro e w1 ⟨rfl, hb1⟩
              rw [← HZ.out]
              obtain ⟨g0, g1, g2⟩ := HX.out.2 w1 hb1
              go_wp2_with fail
              go_ret
              exact ⟨ret_bool HE.out, HX.out.1.trans (hb1.mono HX.out.1.size)⟩
            | true =>
              go_enter Try.func26, Try.ntmps26
              go_wp2_with fail
              go_ret
              exact ⟨ret_bool HE.out, by rw [← HW.out]; exact HX.out.1⟩
        · have bc := ile_false hc
          have HE := hid (HN.out (fitB_named (by simp) (.inl (by omega))))
          clear hc hl hn1
          cases on with
          | false =>
            go_enter Try.func26, Try.ntmps26
            go_wp2_with fail
            rw [← HW.out]
            refine (size_any S _ _ _ _ _ HT.out (by omega) (by omega)).mono ?_
            rintro e w1 ⟨rfl, hb1⟩
            rw [← HZ.out]
            obtain ⟨g0, g1, g2⟩ := HX.out.2 w1 hb1
            go_wp2_with fail
            go_ret
            exact ⟨ret_bool HE.out, HX.out.1.trans (hb1.mono HX.out.1.size)⟩
          | true =>
            go_enter Try.func26, Try.ntmps26
            go_wp2_with fail
            go_ret
            exact ⟨ret_bool HE.out, by rw [← HW.out]; exact HX.out.1⟩
      · have bl : ((l.length : Int) == 0) = false := ieq_false (by omega)
        have HE := hid (HN.out (fitB_nkid (by omega) (by omega)))
        clear hl hn1
        cases on with
        | false =>
          go_enter Try.func26, Try.ntmps26
          go_wp2_with fail
          rw [← HW.out]
          refine (size_any S _ _ _ _ _ HT.out (by omega) (by omega)).mono ?_
          rintro e w1 ⟨rfl, hb1⟩
          rw [← HZ.out]
          obtain ⟨g0, g1, g2⟩ := HX.out.2 w1 hb1
          go_wp2_with fail
          go_ret
          exact ⟨ret_bool HE.out, HX.out.1.trans (hb1.mono HX.out.1.size)⟩
        | true =>
          go_enter Try.func26, Try.ntmps26
          go_wp2_with fail
          go_ret
          exact ⟨ret_bool HE.out, by rw [← HW.out]; exact HX.out.1⟩
    by_cases e1 : kd = 1
    · subst e1
      by_cases hl : l.length = 0
      · have bl : ((l.length : Int) == 0) = true := ieq_true (by omega)
        by_cases hc : cl = 0
        · subst hc
          have HE := hid (show true = fitsT (d + 1) _ t by rw [hres.out, fitB_one (by simp) (by simp) (by omega), List.length_eq_zero_iff.1 hl]; rfl)
          clear hl hn1
          cases on with
          | false =>
            go_enter Try.func26, Try.ntmps26
            go_wp2_with fail
            rw [← HW.out]
            refine (size_any S _ _ _ _ _ HT.out (by omega) (by omega)).mono ?_
            rintro e w1 ⟨rfl, hb1⟩
            rw [← HZ.out]
            obtain ⟨g0, g1, g2⟩ := HX.out.2 w1 hb1
            go_wp2_with fail
            go_ret
            exact ⟨ret_bool HE.out, HX.out.1.trans (hb1.mono HX.out.1.size)⟩
          | true =>
            go_enter Try.func26, Try.ntmps26
            go_wp2_with fail
            go_ret
            exact ⟨ret_bool HE.out, by rw [← HW.out]; exact HX.out.1⟩
        · have bc := ieq_false hc
          have HE := hid (HN.out (fitB_plain (by omega) hc))
          clear hc hl hn1
          cases on with
          | false =>
            go_enter Try.func26, Try.ntmps26
            go_wp2_with fail
            rw [← HW.out]
            refine (size_any S _ _ _ _ _ HT.out (by omega) (by omega)).mono ?_
            rintro e w1 ⟨rfl, hb1⟩
            rw [← HZ.out]
            obtain ⟨g0, g1, g2⟩ := HX.out.2 w1 hb1
            go_wp2_with fail
            go_ret
            exact ⟨ret_bool HE.out, HX.out.1.trans (hb1.mono HX.out.1.size)⟩
          | true =>
            go_enter Try.func26, Try.ntmps26
            go_wp2_with fail
            go_ret
            exact ⟨ret_bool HE.out, by rw [← HW.out]; exact HX.out.1⟩
      · have bl : ((l.length : Int) == 0) = false := ieq_false (by omega)
        have HE := hid (HN.out (fitB_nkid (by omega) (by omega)))
        clear hl hn1
        cases on with
        | false =>
          go_enter Try.func26, Try.ntmps26
          go_wp2_with fail
          rw [← HW.out]
          refine (size_any S _ _ _ _ _ HT.out (by omega) (by omega)).mono ?_
          rintro e w1 ⟨rfl, hb1⟩
          rw [← HZ.out]
          obtain ⟨g0, g1, g2⟩ := HX.out.2 w1 hb1
          go_wp2_with fail
          go_ret
          exact ⟨ret_bool HE.out, HX.out.1.trans (hb1.mono HX.out.1.size)⟩
        | true =>
          go_enter Try.func26, Try.ntmps26
          go_wp2_with fail
          go_ret
          exact ⟨ret_bool HE.out, by rw [← HW.out]; exact HX.out.1⟩
    by_cases e3 : kd = 3
    · subst e3
      by_cases hl : l.length = 0
      · have bl : ((l.length : Int) == 0) = true := ieq_true (by omega)
        by_cases hc : cl = 0
        · subst hc
          have HE := hid (show true = fitsT (d + 1) _ t by rw [hres.out, fitB_one (by simp) (by simp) (by omega), List.length_eq_zero_iff.1 hl]; rfl)
          clear hl hn1
          cases on with
          | false =>
            go_enter Try.func26, Try.ntmps26
            go_wp2_with fail
            rw [← HW.out]
            refine (size_any S _ _ _ _ _ HT.out (by omega) (by omega)).mono ?_
            rintro e w1 ⟨rfl, hb1⟩
            rw [← HZ.out]
            obtain ⟨g0, g1, g2⟩ := HX.out.2 w1 hb1
            go_wp2_with fail
            go_ret
            exact ⟨ret_bool HE.out, HX.out.1.trans (hb1.mono HX.out.1.size)⟩
          | true =>
            go_enter Try.func26, Try.ntmps26
            go_wp2_with fail
            go_ret
            exact ⟨ret_bool HE.out, by rw [← HW.out]; exact HX.out.1⟩
        · have bc := ieq_false hc
          have HE := hid (HN.out (fitB_plain (by omega) hc))
          clear hc hl hn1
          cases on with
          | false =>
            go_enter Try.func26, Try.ntmps26
            go_wp2_with fail
            rw [← HW.out]
            refine (size_any S _ _ _ _ _ HT.out (by omega) (by omega)).mono ?_
            rintro e w1 ⟨rfl, hb1⟩
            rw [← HZ.out]
            obtain ⟨g0, g1, g2⟩ := HX.out.2 w1 hb1
            go_wp2_with fail
            go_ret
            exact ⟨ret_bool HE.out, HX.out.1.trans (hb1.mono HX.out.1.size)⟩
          | true =>
            go_enter Try.func26, Try.ntmps26
            go_wp2_with fail
            go_ret
            exact ⟨ret_bool HE.out, by rw [← HW.out]; exact HX.out.1⟩
      · have bl : ((l.length : Int) == 0) = false := ieq_false (by omega)
        have HE := hid (HN.out (fitB_nkid (by omega) (by omega)))
        clear hl hn1
        cases on with
        | false =>
          go_enter Try.func26, Try.ntmps26
          go_wp2_with fail
          rw [← HW.out]
          refine (size_any S _ _ _ _ _ HT.out (by omega) (by omega)).mono ?_
          rintro e w1 ⟨rfl, hb1⟩
          rw [← HZ.out]
          obtain ⟨g0, g1, g2⟩ := HX.out.2 w1 hb1
          go_wp2_with fail
          go_ret
          exact ⟨ret_bool HE.out, HX.out.1.trans (hb1.mono HX.out.1.size)⟩
        | true =>
          go_enter Try.func26, Try.ntmps26
          go_wp2_with fail
          go_ret
          exact ⟨ret_bool HE.out, by rw [← HW.out]; exact HX.out.1⟩
    by_cases e9 : kd = 9
    · subst e9
      cases on with
      | true =>
        have HE := hid (HN.out fitB_in)
        go_enter Try.func26, Try.ntmps26
        go_wp2_with fail
        go_ret
        exact ⟨ret_bool HE.out, by rw [← HW.out]; exact HX.out.1⟩
      | false =>
        by_cases hl : l.length = 0
        · have bl : ((l.length : Int) == 0) = true := ieq_true (by omega)
          by_cases hc : cl = 0
          · subst hc
            have HE := hid (show true = fitsT (d + 1) _ t by rw [hres.out, fitB_one (by simp) (by simp) (by omega), List.length_eq_zero_iff.1 hl]; rfl)
            clear hl hn1
            go_enter Try.func26, Try.ntmps26
            go_wp2_with fail
            rw [← HW.out]
            refine (size_any S _ _ _ _ _ HT.out (by omega) (by omega)).mono ?_
            rintro e w1 ⟨rfl, hb1⟩
            rw [← HZ.out]
            obtain ⟨g0, g1, g2⟩ := HX.out.2 w1 hb1
            go_wp2_with fail
            go_ret
            exact ⟨ret_bool HE.out, HX.out.1.trans (hb1.mono HX.out.1.size)⟩
          · have bc := ieq_false hc
            have HE := hid (HN.out (fitB_plain (by omega) hc))
            clear hc hl hn1
            go_enter Try.func26, Try.ntmps26
            go_wp2_with fail
            rw [← HW.out]
            refine (size_any S _ _ _ _ _ HT.out (by omega) (by omega)).mono ?_
            rintro e w1 ⟨rfl, hb1⟩
            rw [← HZ.out]
            obtain ⟨g0, g1, g2⟩ := HX.out.2 w1 hb1
            go_wp2_with fail
            go_ret
            exact ⟨ret_bool HE.out, HX.out.1.trans (hb1.mono HX.out.1.size)⟩
        · have bl : ((l.length : Int) == 0) = false := ieq_false (by omega)
          have HE := hid (HN.out (fitB_nkid (by omega) (by omega)))
          clear hl hn1
          go_enter Try.func26, Try.ntmps26
          go_wp2_with fail
          rw [← HW.out]
          refine (size_any S _ _ _ _ _ HT.out (by omega) (by omega)).mono ?_
          rintro e w1 ⟨rfl, hb1⟩
          rw [← HZ.out]
          obtain ⟨g0, g1, g2⟩ := HX.out.2 w1 hb1
          go_wp2_with fail
          go_ret
          exact ⟨ret_bool HE.out, HX.out.1.trans (hb1.mono HX.out.1.size)⟩
    by_cases e4 : kd = 4
    · subst e4
      by_cases hl : (l.length : Int) < 2
      · have bl := ilt_true hl
        have HE := hid (HN.out (fitB_few (.inl hl)))
        clear hl hn1
        cases on with
        | false =>
          go_enter Try.func26, Try.ntmps26
          go_wp2_with fail
          rw [← HW.out]
          refine (size_any S _ _ _ _ _ HT.out (by omega) (by omega)).mono ?_
          rintro e w1 ⟨rfl, hb1⟩
          rw [← HZ.out]
          obtain ⟨g0, g1, g2⟩ := HX.out.2 w1 hb1
          go_wp2_with fail
          go_ret
          exact ⟨ret_bool HE.out, HX.out.1.trans (hb1.mono HX.out.1.size)⟩
        | true =>
          go_enter Try.func26, Try.ntmps26
          go_wp2_with fail
          go_ret
          exact ⟨ret_bool HE.out, by rw [← HW.out]; exact HX.out.1⟩
      have bl := ilt_false hl
      have HL := hid (fitB_two (on := on) (c := cl) (show (4 : Int) = 4 ∨ (4 : Int) = 5 by omega) (show (2 : Int) ≤ l.length by omega) (by omega))
      clear hl
      cases on with
      | false =>
        go_enter Try.func26, Try.ntmps26
        go_wp2_with fail
        rw [← HW.out]
        refine (size_any S _ _ _ _ _ HT.out (by omega) (by omega)).mono ?_
        rintro e w1 ⟨rfl, hb1⟩
        rw [← HZ.out]
        obtain ⟨g0, g1, g2⟩ := HX.out.2 w1 hb1
        go_wp2_with fail
        have HB1 := hid hb1
        clear hb1
        go_loopw [6] (fun s6 wr => ∃ k : Nat, k ≤ l.length ∧ s6 = .int .i64 k ∧ Hid ((l.drop k).all (fun x => fitsT d true x) = l.all (fun x => fitsT d true x)) ∧ Hid (Below W.heap.size W wr)) (fun s6 _ => l.length - (intOf s6).toNat)
        case atStart => exact ⟨0, by omega, rfl, hid rfl, HB1⟩
        case round =>
          obtain ⟨k, hk, rfl, HA, HV⟩ := hrel
          obtain ⟨f0, f1, f2⟩ := HX.out.2 _ HV.out
          clear g0 g1 g2
          by_cases hlt : k < l.length
          · obtain ⟨b, o, v0, v1, v2, rfl, -, hbs, c0, c1, c2, ht⟩ := (HK.out.below HV.out).at (List.getElem?_eq_getElem hlt)
            have HTr := hid ht
            clear ht
            have HC := hid (show cnt d l[k] ≤ 2000 by have h1 := cntL_mem (f := fun k => cnt d k) (List.getElem_mem hlt); have h2 := HM.out; omega)
            cases hf : fitsT d true l[k] with
            | false =>
              have HE := hid (show false = fitsT (d + 1) _ t by rw [hres.out, ← HA.out, List.drop_eq_getElem_cons hlt, List.all_cons, hf, Bool.false_and, Bool.and_false])
              have HF := hid hf
              clear hf
              go_wp2_with fail
              refine (IH.out _ _ _ _ HTr.out HC.out).mono ?_
              rintro e w2 ⟨rfl, hb2⟩
              rw [HF.out]
              go_wp2_with fail
              go_ret
              exact ⟨ret_bool HE.out, HX.out.1.trans ((HV.out.trans (hb2.mono HV.out.size)).mono HX.out.1.size)⟩
            | true =>
              have HN2 := hid (show (l.drop (k + 1)).all (fun x => fitsT d true x) = l.all (fun x => fitsT d true x) by rw [← HA.out, List.drop_eq_getElem_cons hlt, List.all_cons, hf, Bool.true_and])
              have HF := hid hf
              clear hf
              go_wp2_with fail
              refine (IH.out _ _ _ _ HTr.out HC.out).mono ?_
              rintro e w2 ⟨rfl, hb2⟩
              rw [HF.out]
              go_wp2_with fail
              go_roundw
              case rel => exact ⟨k + 1, by omega, by go_num, HN2, hid (HV.out.trans (hb2.mono HV.out.size))⟩
              case measure => simp [intOf]; omega
          · have HE := hid (show (cl == 0) = fitsT (d + 1) _ t by rw [hres.out, HL.out, ← HA.out, List.drop_eq_nil_of_le (by omega)]; simp)
            go_wp2_with fail
            go_ret
            exact ⟨ret_bool HE.out, HX.out.1.trans (HV.out.mono HX.out.1.size)⟩
      | true =>
        go_enter Try.func26, Try.ntmps26
        go_wp2_with fail
        rw [← HW.out]
        have hb1 := Below.refl W.heap.size W
        obtain ⟨g0, g1, g2⟩ := HX.out.2 W hb1
        go_wp2_with fail
        have HB1 := hid hb1
        clear hb1
        go_loopw [6] (fun s6 wr => ∃ k : Nat, k ≤ l.length ∧ s6 = .int .i64 k ∧ Hid ((l.drop k).all (fun x => fitsT d true x) = l.all (fun x => fitsT d true x)) ∧ Hid (Below W.heap.size W wr)) (fun s6 _ => l.length - (intOf s6).toNat)
        case atStart => exact ⟨0, by omega, rfl, hid rfl, HB1⟩
        case round =>
          obtain ⟨k, hk, rfl, HA, HV⟩ := hrel
          obtain ⟨f0, f1, f2⟩ := HX.out.2 _ HV.out
          clear g0 g1 g2
          by_cases hlt : k < l.length
          · obtain ⟨b, o, v0, v1, v2, rfl, -, hbs, c0, c1, c2, ht⟩ := (HK.out.below HV.out).at (List.getElem?_eq_getElem hlt)
            have HTr := hid ht
            clear ht
            have HC := hid (show cnt d l[k] ≤ 2000 by have h1 := cntL_mem (f := fun k => cnt d k) (List.getElem_mem hlt); have h2 := HM.out; omega)
            cases hf : fitsT d true l[k] with
            | false =>
              have HE := hid (show false = fitsT (d + 1) _ t by rw [hres.out, ← HA.out, List.drop_eq_getElem_cons hlt, List.all_cons, hf, Bool.false_and, Bool.and_false])
              have HF := hid hf
              clear hf
              go_wp2_with fail
              refine (IH.out _ _ _ _ HTr.out HC.out).mono ?_
              rintro e w2 ⟨rfl, hb2⟩
              rw [HF.out]
              go_wp2_with fail
              go_ret
              exact ⟨ret_bool HE.out, HX.out.1.trans ((HV.out.trans (hb2.mono HV.out.size)).mono HX.out.1.size)⟩
            | true =>
              have HN2 := hid (show (l.drop (k + 1)).all (fun x => fitsT d true x) = l.all (fun x => fitsT d true x) by rw [← HA.out, List.drop_eq_getElem_cons hlt, List.all_cons, hf, Bool.true_and])
              have HF := hid hf
              clear hf
              go_wp2_with fail
              refine (IH.out _ _ _ _ HTr.out HC.out).mono ?_
              rintro e w2 ⟨rfl, hb2⟩
              rw [HF.out]
              go_wp2_with fail
              go_roundw
              case rel => exact ⟨k + 1, by omega, by go_num, HN2, hid (HV.out.trans (hb2.mono HV.out.size))⟩
              case measure => simp [intOf]; omega
          · have HE := hid (show (cl == 0) = fitsT (d + 1) _ t by rw [hres.out, HL.out, ← HA.out, List.drop_eq_nil_of_le (by omega)]; simp)
            go_wp2_with fail
            go_ret
            exact ⟨ret_bool HE.out, HX.out.1.trans (HV.out.mono HX.out.1.size)⟩
    by_cases e5 : kd = 5
    · subst e5
      by_cases hl : (l.length : Int) < 2
      · have bl := ilt_true hl
        have HE := hid (HN.out (fitB_few (.inl hl)))
        clear hl hn1
        cases on with
        | false =>
          go_enter Try.func26, Try.ntmps26
          go_wp2_with fail
          rw [← HW.out]
          refine (size_any S _ _ _ _ _ HT.out (by omega) (by omega)).mono ?_
          rintro e w1 ⟨rfl, hb1⟩
          rw [← HZ.out]
          obtain ⟨g0, g1, g2⟩ := HX.out.2 w1 hb1
          go_wp2_with fail
          go_ret
          exact ⟨ret_bool HE.out, HX.out.1.trans (hb1.mono HX.out.1.size)⟩
        | true =>
          go_enter Try.func26, Try.ntmps26
          go_wp2_with fail
          go_ret
          exact ⟨ret_bool HE.out, by rw [← HW.out]; exact HX.out.1⟩
      have bl := ilt_false hl
      have HL := hid (fitB_two (on := on) (c := cl) (show (5 : Int) = 4 ∨ (5 : Int) = 5 by omega) (show (2 : Int) ≤ l.length by omega) (by omega))
      clear hl
      cases on with
      | false =>
        go_enter Try.func26, Try.ntmps26
        go_wp2_with fail
        rw [← HW.out]
        refine (size_any S _ _ _ _ _ HT.out (by omega) (by omega)).mono ?_
        rintro e w1 ⟨rfl, hb1⟩
        rw [← HZ.out]
        obtain ⟨g0, g1, g2⟩ := HX.out.2 w1 hb1
        go_wp2_with fail
        have HB1 := hid hb1
        clear hb1
        go_loopw [6] (fun s6 wr => ∃ k : Nat, k ≤ l.length ∧ s6 = .int .i64 k ∧ Hid ((l.drop k).all (fun x => fitsT d true x) = l.all (fun x => fitsT d true x)) ∧ Hid (Below W.heap.size W wr)) (fun s6 _ => l.length - (intOf s6).toNat)
        case atStart => exact ⟨0, by omega, rfl, hid rfl, HB1⟩
        case round =>
          obtain ⟨k, hk, rfl, HA, HV⟩ := hrel
          obtain ⟨f0, f1, f2⟩ := HX.out.2 _ HV.out
          clear g0 g1 g2
          by_cases hlt : k < l.length
          · obtain ⟨b, o, v0, v1, v2, rfl, -, hbs, c0, c1, c2, ht⟩ := (HK.out.below HV.out).at (List.getElem?_eq_getElem hlt)
            have HTr := hid ht
            clear ht
            have HC := hid (show cnt d l[k] ≤ 2000 by have h1 := cntL_mem (f := fun k => cnt d k) (List.getElem_mem hlt); have h2 := HM.out; omega)
            cases hf : fitsT d true l[k] with
            | false =>
              have HE := hid (show false = fitsT (d + 1) _ t by rw [hres.out, ← HA.out, List.drop_eq_getElem_cons hlt, List.all_cons, hf, Bool.false_and, Bool.and_false])
              have HF := hid hf
              clear hf
              go_wp2_with fail
              refine (IH.out _ _ _ _ HTr.out HC.out).mono ?_
              rintro e w2 ⟨rfl, hb2⟩
              rw [HF.out]
              go_wp2_with fail
              go_ret
              exact ⟨ret_bool HE.out, HX.out.1.trans ((HV.out.trans (hb2.mono HV.out.size)).mono HX.out.1.size)⟩
            | true =>
              have HN2 := hid (show (l.drop (k + 1)).all (fun x => fitsT d true x) = l.all (fun x => fitsT d true x) by rw [← HA.out, List.drop_eq_getElem_cons hlt, List.all_cons, hf, Bool.true_and])
              have HF := hid hf
              clear hf
              go_wp2_with fail
              refine (IH.out _ _ _ _ HTr.out HC.out).mono ?_
              rintro e w2 ⟨rfl, hb2⟩
              rw [HF.out]
              go_wp2_with fail
              go_roundw
              case rel => exact ⟨k + 1, by omega, by go_num, HN2, hid (HV.out.trans (hb2.mono HV.out.size))⟩
              case measure => simp [intOf]; omega
          · have HE := hid (show (cl == 0) = fitsT (d + 1) _ t by rw [hres.out, HL.out, ← HA.out, List.drop_eq_nil_of_le (by omega)]; simp)
            go_wp2_with fail
            go_ret
            exact ⟨ret_bool HE.out, HX.out.1.trans (HV.out.mono HX.out.1.size)⟩
      | true =>
        go_enter Try.func26, Try.ntmps26
        go_wp2_with fail
        rw [← HW.out]
        have hb1 := Below.refl W.heap.size W
        obtain ⟨g0, g1, g2⟩ := HX.out.2 W hb1
        go_wp2_with fail
        have HB1 := hid hb1
        clear hb1
        go_loopw [6] (fun s6 wr => ∃ k : Nat, k ≤ l.length ∧ s6 = .int .i64 k ∧ Hid ((l.drop k).all (fun x => fitsT d true x) = l.all (fun x => fitsT d true x)) ∧ Hid (Below W.heap.size W wr)) (fun s6 _ => l.length - (intOf s6).toNat)
        case atStart => exact ⟨0, by omega, rfl, hid rfl, HB1⟩
        case round =>
          obtain ⟨k, hk, rfl, HA, HV⟩ := hrel
          obtain ⟨f0, f1, f2⟩ := HX.out.2 _ HV.out
          clear g0 g1 g2
          by_cases hlt : k < l.length
          · obtain ⟨b, o, v0, v1, v2, rfl, -, hbs, c0, c1, c2, ht⟩ := (HK.out.below HV.out).at (List.getElem?_eq_getElem hlt)
            have HTr := hid ht
            clear ht
            have HC := hid (show cnt d l[k] ≤ 2000 by have h1 := cntL_mem (f := fun k => cnt d k) (List.getElem_mem hlt); have h2 := HM.out; omega)
            cases hf : fitsT d true l[k] with
            | false =>
              have HE := hid (show false = fitsT (d + 1) _ t by rw [hres.out, ← HA.out, List.drop_eq_getElem_cons hlt, List.all_cons, hf, Bool.false_and, Bool.and_false])
              have HF := hid hf
              clear hf
              go_wp2_with fail
              refine (IH.out _ _ _ _ HTr.out HC.out).mono ?_
              rintro e w2 ⟨rfl, hb2⟩
              rw [HF.out]
              go_wp2_with fail
              go_ret
              exact ⟨ret_bool HE.out, HX.out.1.trans ((HV.out.trans (hb2.mono HV.out.size)).mono HX.out.1.size)⟩
            | true =>
              have HN2 := hid (show (l.drop (k + 1)).all (fun x => fitsT d true x) = l.all (fun x => fitsT d true x) by rw [← HA.out, List.drop_eq_getElem_cons hlt, List.all_cons, hf, Bool.true_and])
              have HF := hid hf
              clear hf
              go_wp2_with fail
              refine (IH.out _ _ _ _ HTr.out HC.out).mono ?_
              rintro e w2 ⟨rfl, hb2⟩
              rw [HF.out]
              go_wp2_with fail
              go_roundw
              case rel => exact ⟨k + 1, by omega, by go_num, HN2, hid (HV.out.trans (hb2.mono HV.out.size))⟩
              case measure => simp [intOf]; omega
          · have HE := hid (show (cl == 0) = fitsT (d + 1) _ t by rw [hres.out, HL.out, ← HA.out, List.drop_eq_nil_of_le (by omega)]; simp)
            go_wp2_with fail
            go_ret
            exact ⟨ret_bool HE.out, HX.out.1.trans (HV.out.mono HX.out.1.size)⟩
    have b0 := ieq_false e0
    have b2 := ieq_false e2
    have b1 := ieq_false e1
    have b3 := ieq_false e3
    have b9 := ieq_false e9
    have b4 := ieq_false e4
    have b5 := ieq_false e5
    have hk6 : kd = 6 ∨ kd = 7 ∨ kd = 8 := by omega
    have c0 := ilt_false (show ¬ kd < 0 by omega)
    have c9 := ilt_false (show ¬ 9 < kd by omega)
    clear e0 e1 e2 e3 e4 e5 e9 hlo hhi
    by_cases hl : (l.length : Int) = 1
    · have bl := ine_false hl
      have HL := hid (fitB_oft (on := on) (c := cl) hk6 hl)
      clear hl hk6
      cases on with
      | false =>
        go_enter Try.func26, Try.ntmps26
        go_wp2_with fail
        rw [← HW.out]
        refine (size_any S _ _ _ _ _ HT.out (by omega) (by omega)).mono ?_
        rintro e w1 ⟨rfl, hb1⟩
        rw [← HZ.out]
        obtain ⟨g0, g1, g2⟩ := HX.out.2 w1 hb1
        go_wp2_with fail
        have HB1 := hid hb1
        clear hb1
        go_loopw [6] (fun s6 wr => ∃ k : Nat, k ≤ l.length ∧ s6 = .int .i64 k ∧ Hid ((l.drop k).all (fun x => fitsT d true x) = l.all (fun x => fitsT d true x)) ∧ Hid (Below W.heap.size W wr)) (fun s6 _ => l.length - (intOf s6).toNat)
        case atStart => exact ⟨0, by omega, rfl, hid rfl, HB1⟩
        case round =>
          obtain ⟨k, hk, rfl, HA, HV⟩ := hrel
          obtain ⟨f0, f1, f2⟩ := HX.out.2 _ HV.out
          clear g0 g1 g2
          by_cases hlt : k < l.length
          · obtain ⟨b, o, v0, v1, v2, rfl, -, hbs, c0, c1, c2, ht⟩ := (HK.out.below HV.out).at (List.getElem?_eq_getElem hlt)
            have HTr := hid ht
            clear ht
            have HC := hid (show cnt d l[k] ≤ 2000 by have h1 := cntL_mem (f := fun k => cnt d k) (List.getElem_mem hlt); have h2 := HM.out; omega)
            cases hf : fitsT d true l[k] with
            | false =>
              have HE := hid (show false = fitsT (d + 1) _ t by rw [hres.out, ← HA.out, List.drop_eq_getElem_cons hlt, List.all_cons, hf, Bool.false_and, Bool.and_false])
              have HF := hid hf
              clear hf
              go_wp2_with fail
              refine (IH.out _ _ _ _ HTr.out HC.out).mono ?_
              rintro e w2 ⟨rfl, hb2⟩
              rw [HF.out]
              go_wp2_with fail
              go_ret
              exact ⟨ret_bool HE.out, HX.out.1.trans ((HV.out.trans (hb2.mono HV.out.size)).mono HX.out.1.size)⟩
            | true =>
              have HN2 := hid (show (l.drop (k + 1)).all (fun x => fitsT d true x) = l.all (fun x => fitsT d true x) by rw [← HA.out, List.drop_eq_getElem_cons hlt, List.all_cons, hf, Bool.true_and])
              have HF := hid hf
              clear hf
              go_wp2_with fail
              refine (IH.out _ _ _ _ HTr.out HC.out).mono ?_
              rintro e w2 ⟨rfl, hb2⟩
              rw [HF.out]
              go_wp2_with fail
              go_roundw
              case rel => exact ⟨k + 1, by omega, by go_num, HN2, hid (HV.out.trans (hb2.mono HV.out.size))⟩
              case measure => simp [intOf]; omega
          · have HE := hid (show (cl == 0) = fitsT (d + 1) _ t by rw [hres.out, HL.out, ← HA.out, List.drop_eq_nil_of_le (by omega)]; simp)
            go_wp2_with fail
            go_ret
            exact ⟨ret_bool HE.out, HX.out.1.trans (HV.out.mono HX.out.1.size)⟩
      | true =>
        go_enter Try.func26, Try.ntmps26
        go_wp2_with fail
        rw [← HW.out]
        have hb1 := Below.refl W.heap.size W
        obtain ⟨g0, g1, g2⟩ := HX.out.2 W hb1
        go_wp2_with fail
        have HB1 := hid hb1
        clear hb1
        go_loopw [6] (fun s6 wr => ∃ k : Nat, k ≤ l.length ∧ s6 = .int .i64 k ∧ Hid ((l.drop k).all (fun x => fitsT d true x) = l.all (fun x => fitsT d true x)) ∧ Hid (Below W.heap.size W wr)) (fun s6 _ => l.length - (intOf s6).toNat)
        case atStart => exact ⟨0, by omega, rfl, hid rfl, HB1⟩
        case round =>
          obtain ⟨k, hk, rfl, HA, HV⟩ := hrel
          obtain ⟨f0, f1, f2⟩ := HX.out.2 _ HV.out
          clear g0 g1 g2
          by_cases hlt : k < l.length
          · obtain ⟨b, o, v0, v1, v2, rfl, -, hbs, c0, c1, c2, ht⟩ := (HK.out.below HV.out).at (List.getElem?_eq_getElem hlt)
            have HTr := hid ht
            clear ht
            have HC := hid (show cnt d l[k] ≤ 2000 by have h1 := cntL_mem (f := fun k => cnt d k) (List.getElem_mem hlt); have h2 := HM.out; omega)
            cases hf : fitsT d true l[k] with
            | false =>
              have HE := hid (show false = fitsT (d + 1) _ t by rw [hres.out, ← HA.out, List.drop_eq_getElem_cons hlt, List.all_cons, hf, Bool.false_and, Bool.and_false])
              have HF := hid hf
              clear hf
              go_wp2_with fail
              refine (IH.out _ _ _ _ HTr.out HC.out).mono ?_
              rintro e w2 ⟨rfl, hb2⟩
              rw [HF.out]
              go_wp2_with fail
              go_ret
              exact ⟨ret_bool HE.out, HX.out.1.trans ((HV.out.trans (hb2.mono HV.out.size)).mono HX.out.1.size)⟩
            | true =>
              have HN2 := hid (show (l.drop (k + 1)).all (fun x => fitsT d true x) = l.all (fun x => fitsT d true x) by rw [← HA.out, List.drop_eq_getElem_cons hlt, List.all_cons, hf, Bool.true_and])
              have HF := hid hf
              clear hf
              go_wp2_with fail
              refine (IH.out _ _ _ _ HTr.out HC.out).mono ?_
              rintro e w2 ⟨rfl, hb2⟩
              rw [HF.out]
              go_wp2_with fail
              go_roundw
              case rel => exact ⟨k + 1, by omega, by go_num, HN2, hid (HV.out.trans (hb2.mono HV.out.size))⟩
              case measure => simp [intOf]; omega
          · have HE := hid (show (cl == 0) = fitsT (d + 1) _ t by rw [hres.out, HL.out, ← HA.out, List.drop_eq_nil_of_le (by omega)]; simp)
            go_wp2_with fail
            go_ret
            exact ⟨ret_bool HE.out, HX.out.1.trans (HV.out.mono HX.out.1.size)⟩
    have bl := ine_true hl
    have HE := hid (HN.out (fitB_few (by unfold least most; rw [if_neg (by omega), if_pos hk6, if_neg (by omega)]; omega)))
    clear hl hk6 hn1
    cases on with
    | false =>
      go_enter Try.func26, Try.ntmps26
      go_wp2_with fail
      rw [← HW.out]
      refine (size_any S _ _ _ _ _ HT.out (by omega) (by omega)).mono ?_
      rintro e w1 ⟨rfl, hb1⟩
      rw [← HZ.out]
      obtain ⟨g0, g1, g2⟩ := HX.out.2 w1 hb1
      go_wp2_with fail
      go_ret
      exact ⟨ret_bool HE.out, HX.out.1.trans (hb1.mono HX.out.1.size)⟩
    | true =>
      go_enter Try.func26, Try.ntmps26
      go_wp2_with fail
      go_ret
      exact ⟨ret_bool HE.out, by rw [← HW.out]; exact HX.out.1⟩
end Go.Proofs.Ytjcdcmeclnihbaa
