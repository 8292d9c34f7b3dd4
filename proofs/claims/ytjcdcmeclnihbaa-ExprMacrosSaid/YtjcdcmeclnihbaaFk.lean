/- Whether an expression's nodes fit, and whether it is right: what the program's fits and Right return. Conditions: none. -/
import Derived.Test.YtjcdcmeclnihbaaFj
namespace Go.Proofs.Ytjcdcmeclnihbaa
open Go.RowKit

theorem ilt_true {a b : Int} (h : a < b) : decide (a < b) = true := by simpa using h
theorem ilt_false {a b : Int} (h : ¬ a < b) : decide (a < b) = false := by simpa using h
theorem ile_true {a b : Int} (h : a ≤ b) : decide (a ≤ b) = true := by simpa using h
theorem ile_false {a b : Int} (h : ¬ a ≤ b) : decide (a ≤ b) = false := by simpa using h
theorem fitB_lo {on : Bool} {k c n : Int} (h : k < 0) : fitB on k c n = false := by unfold fitB; rw [decide_eq_false (p := 0 ≤ k ∧ k ≤ 9) (by omega)]; rfl
theorem fitB_hi {on : Bool} {k c n : Int} (h : 9 < k) : fitB on k c n = false := by unfold fitB; rw [decide_eq_false (p := 0 ≤ k ∧ k ≤ 9) (by omega)]; rfl
theorem fitB_in {c n : Int} : fitB true 9 c n = false := by unfold fitB; simp
theorem fitB_few {on : Bool} {k c n : Int} (h : n < least k ∨ most k < n) : fitB on k c n = false := by unfold fitB; rw [decide_eq_false (p := least k ≤ n ∧ n ≤ most k) (by omega)]; simp
theorem fitB_named {on : Bool} {k c n : Int} (h : k = 0 ∨ k = 2) (hc : c < 0 ∨ 36 ≤ c) : fitB on k c n = false := by unfold fitB; rw [if_pos h, decide_eq_false (p := 0 ≤ c ∧ c < 36) (by omega)]; simp
theorem fitB_plain {on : Bool} {k c n : Int} (h : ¬ (k = 0 ∨ k = 2)) (hc : c ≠ 0) : fitB on k c n = false := by unfold fitB; rw [if_neg h, decide_eq_false (p := c = 0) hc]; simp
theorem fitB_yes {on : Bool} {k c n : Int} (h0 : 0 ≤ k) (h9 : k ≤ 9) (hin : ¬ (k = 9 ∧ on = true)) (hl : least k ≤ n) (hm : n ≤ most k) (hc : if k = 0 ∨ k = 2 then 0 ≤ c ∧ c < 36 else c = 0) : fitB on k c n = true := by
  unfold fitB
  rw [decide_eq_true (p := 0 ≤ k ∧ k ≤ 9) ⟨h0, h9⟩, decide_eq_true (p := least k ≤ n ∧ n ≤ most k) ⟨hl, hm⟩]
  have h1 : (decide (k = 9) && on) = false := by
    cases on with
    | false => simp
    | true => simpa using hin
  rw [h1]
  split
  · rename_i h; rw [if_pos h] at hc; simpa using hc
  · rename_i h; rw [if_neg h] at hc; simpa using hc

theorem any_not {T : Type} (l : List T) (p : T → Bool) : (!(l.any fun t => !p t)) = l.all p := by
  induction l with
  | nil => rfl
  | cons x r ih => simp only [List.any_cons, List.all_cons, Bool.not_or, Bool.not_not, ih]

set_option maxRecDepth 100000 in
set_option maxHeartbeats 4000000 in
theorem fits_any (S : Nat → Prop) : ∀ d : Nat, FitsIH S d := by
  intro d
  induction d with
  | zero => intro v t; exact t.elim
  | succ d ih =>
    intro v t on w h
    obtain ⟨A, c, rfl, hle, hkids⟩ := h.open
    obtain ⟨kd, hkd⟩ : ∃ kd, kd = Tr.kind t := ⟨_, rfl⟩
    obtain ⟨cl, hcl⟩ : ∃ cl, cl = Tr.cls t := ⟨_, rfl⟩
    obtain ⟨l, hl⟩ : ∃ l, l = Tr.kids t := ⟨_, rfl⟩
    have hres := hid (show fitsT (d + 1) on t = (fitB on kd cl l.length && l.all (fun x => fitsT d true x)) by rw [hl, hkd, hcl]; rfl)
    rw [← hkd, ← hcl, ← hl]
    rw [← hl] at hkids hle
    clear hkd hcl hl h
    obtain ⟨W, hW0⟩ : ∃ W, W = w.alloc (.cells #[.int .i64 kd, .int .i64 cl, .slice A l.length c] 45) := ⟨_, rfl⟩
    have HB := hid (show Below w.heap.size w W by rw [hW0]; exact (Below.refl _ _).alloc (Nat.le_refl _) _)
    have HW := hid hW0
    have HK := hid (hkids.below HB.out)
    have IH := hid ih
    clear hkids ih hW0
    have hno : fitB on kd cl l.length = false → Hid (false = fitsT (d + 1) on t) := fun h => hid (by rw [hres.out, h]; rfl)
    have HN := hid hno
    clear hno
    by_cases h1 : kd < 0
    · have b0 := ieq_false (show kd ≠ 0 by omega)
      have b2 := ieq_false (show kd ≠ 2 by omega)
      have b1 := ilt_true h1
      have HE := HN.out (fitB_lo h1)
      clear h1
      go_enter Try.func72, Try.ntmps72
      go_wp2_with fail
      refine (many_any _ _).mono ?_
      rintro e w1 ⟨rfl, rfl⟩
      go_wp2_with fail
      go_ret
      exact ⟨ret_bool HE.out, by rw [← HW.out]; exact HB.out⟩
    by_cases h2 : 9 < kd
    · have b0 := ieq_false (show kd ≠ 0 by omega)
      have b2 := ieq_false (show kd ≠ 2 by omega)
      have b1 := ilt_false h1
      have b3 := ilt_true h2
      have HE := HN.out (fitB_hi h2)
      clear h1 h2
      go_enter Try.func72, Try.ntmps72
      go_wp2_with fail
      refine (many_any _ _).mono ?_
      rintro e w1 ⟨rfl, rfl⟩
      go_wp2_with fail
      go_ret
      exact ⟨ret_bool HE.out, by rw [← HW.out]; exact HB.out⟩
    have b1 := ilt_false h1
    have b3 := ilt_false h2
    by_cases h3 : kd = 9 ∧ on = true
    · obtain ⟨rfl, rfl⟩ := h3
      have HE := HN.out fitB_in
      clear h1 h2 b1 b3
      go_enter Try.func72, Try.ntmps72
      go_wp2_with fail
      refine (many_any _ _).mono ?_
      rintro e w1 ⟨rfl, rfl⟩
      go_wp2_with fail
      go_ret
      exact ⟨ret_bool HE.out, by rw [← HW.out]; exact HB.out⟩
    obtain ⟨q, hq⟩ : ∃ q, q = (kd == 9) := ⟨_, rfl⟩
    have hp : q = true → on = false := fun h => by
      rw [hq] at h
      cases on with
      | false => rfl
      | true => exact absurd ⟨by simpa using h, rfl⟩ h3
    have b9 := hq.symm
    have H123 := hid (show 0 ≤ kd ∧ kd ≤ 9 ∧ ¬ (kd = 9 ∧ on = true) from ⟨by omega, by omega, h3⟩)
    clear h1 h2 h3 hq
    obtain ⟨x0, hx0⟩ : ∃ x, x = (kd == 0) := ⟨_, rfl⟩
    obtain ⟨x2, hx2⟩ : ∃ x, x = (kd == 2) := ⟨_, rfl⟩
    have b0 := hx0.symm
    have b2 := hx2.symm
    clear hx0 hx2
    have HNM := hid (show (x0 || x2) = true ↔ (kd = 0 ∨ kd = 2) by rw [← b0, ← b2]; simp)
    have HP := hid hp
    clear hp
    have hq1 : q = false ∨ (q = true ∧ on = false) := by
      cases q with
      | false => exact .inl rfl
      | true => exact .inr ⟨rfl, HP.out rfl⟩
    obtain ⟨n, hn⟩ : ∃ n : Int, n = l.length := ⟨_, rfl⟩
    by_cases hl : (l.length : Int) < least kd
    · have bl := ilt_true hl
      have HE := HN.out (fitB_few (.inl hl))
      clear hl
      rcases hq1 with rfl | ⟨rfl, rfl⟩ <;> cases x0 <;> cases x2
      all_goals
        go_enter Try.func72, Try.ntmps72
        go_wp2_with fail
        refine (many_any _ _).mono ?_
        rintro e w1 ⟨rfl, rfl⟩
        go_wp2_with fail
        go_ret
        exact ⟨ret_bool HE.out, by rw [← HW.out]; exact HB.out⟩
    have bl := ilt_false hl
    by_cases hm : most kd < (l.length : Int)
    · have bm := ilt_true hm
      have HE := HN.out (fitB_few (.inr hm))
      clear hl hm
      rcases hq1 with rfl | ⟨rfl, rfl⟩ <;> cases x0 <;> cases x2
      all_goals
        go_enter Try.func72, Try.ntmps72
        go_wp2_with fail
        refine (many_any _ _).mono ?_
        rintro e w1 ⟨rfl, rfl⟩
        go_wp2_with fail
        go_ret
        exact ⟨ret_bool HE.out, by rw [← HW.out]; exact HB.out⟩
    have bm := ilt_false hm
    have HLM := hid (show least kd ≤ (l.length : Int) ∧ (l.length : Int) ≤ most kd from ⟨by omega, by omega⟩)
    clear hl hm
    have HL := hid hle
    clear hle
    by_cases hn : kd = 0 ∨ kd = 2
    · have hq0 : q = false := by rw [← b9]; rcases hn with rfl | rfl <;> rfl
      subst hq0
      by_cases hc : cl < 0
      · have bc := ilt_true hc
        have HE := HN.out (fitB_named hn (.inl hc))
        clear hc
        rcases hn with rfl | rfl
        all_goals
          subst b0 b2
          go_enter Try.func72, Try.ntmps72
          go_wp2_with fail
          refine (many_any _ _).mono ?_
          rintro e w1 ⟨rfl, rfl⟩
          go_wp2_with fail
          go_ret
          exact ⟨ret_bool HE.out, by rw [← HW.out]; exact HB.out⟩
      by_cases hd : 36 ≤ cl
      · have bc := ilt_false hc
        have bd := ile_true hd
        have HE := HN.out (fitB_named hn (.inr hd))
        clear hc hd
        rcases hn with rfl | rfl
        all_goals
          subst b0 b2
          go_enter Try.func72, Try.ntmps72
          go_wp2_with fail
          refine (many_any _ _).mono ?_
          rintro e w1 ⟨rfl, rfl⟩
          go_wp2_with fail
          go_ret
          exact ⟨ret_bool HE.out, by rw [← HW.out]; exact HB.out⟩
      have bc := ilt_false hc
      have bd := ile_false hd
      have HE := hid (show fitsT (d + 1) on t = l.all (fun x => fitsT d true x) by
        rw [hres.out, fitB_yes H123.out.1 H123.out.2.1 H123.out.2.2 HLM.out.1 HLM.out.2 (by rw [if_pos hn]; exact ⟨by omega, by omega⟩)]; rfl)
      clear hc hd
      rcases hn with rfl | rfl
      all_goals
        subst b0 b2
        go_enter Try.func72, Try.ntmps72
        go_wp2_with fail
        refine (many_any _ _).mono ?_
        rintro e w1 ⟨rfl, rfl⟩
        go_wp2_with fail
        rw [← HW.out]
        refine (containsFits_any S d IH A c l _ HK.out HL.out).mono ?_
        rintro e w1 ⟨rfl, hb1⟩
        go_wp2_with fail
        go_ret
        exact ⟨ret_bool (by rw [HE.out, any_not]), HB.out.trans (hb1.mono HB.out.size)⟩
    have h0' : x0 = false := by rw [← b0]; exact ieq_false (fun h => hn (.inl h))
    have h2' : x2 = false := by rw [← b2]; exact ieq_false (fun h => hn (.inr h))
    subst h0' h2'
    by_cases hc : cl = 0
    · subst hc
      have HE := hid (show fitsT (d + 1) on t = l.all (fun x => fitsT d true x) by
        rw [hres.out, fitB_yes H123.out.1 H123.out.2.1 H123.out.2.2 HLM.out.1 HLM.out.2 (by rw [if_neg hn])]; rfl)
      clear hn
      rcases hq1 with rfl | ⟨rfl, rfl⟩
      all_goals
        go_enter Try.func72, Try.ntmps72
        go_wp2_with fail
        refine (many_any _ _).mono ?_
        rintro e w1 ⟨rfl, rfl⟩
        go_wp2_with fail
        rw [← HW.out]
        refine (containsFits_any S d IH A c l _ HK.out HL.out).mono ?_
        rintro e w1 ⟨rfl, hb1⟩
        go_wp2_with fail
        go_ret
        exact ⟨ret_bool (by rw [HE.out, any_not]), HB.out.trans (hb1.mono HB.out.size)⟩
    have bc := ine_true hc
    have HE := HN.out (fitB_plain hn hc)
    clear hn hc
    rcases hq1 with rfl | ⟨rfl, rfl⟩
    all_goals
      go_enter Try.func72, Try.ntmps72
      go_wp2_with fail
      refine (many_any _ _).mono ?_
      rintro e w1 ⟨rfl, rfl⟩
      go_wp2_with fail
      go_ret
      exact ⟨ret_bool HE.out, by rw [← HW.out]; exact HB.out⟩

end Go.Proofs.Ytjcdcmeclnihbaa
