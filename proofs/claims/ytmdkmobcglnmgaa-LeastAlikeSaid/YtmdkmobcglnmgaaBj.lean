/- The first marks that tell two states apart: the law's walk. Conditions: none. -/
import Derived.Test.YtmdkmobcglnmgaaBi
namespace Go.Proofs.Ytmdkmobcglnmgaa
open Go.RowKit
set_option linter.unusedSimpArgs false

set_option maxRecDepth 100000 in
set_option maxHeartbeats 4000000 in
theorem leastApart_walk (S : Nat → Prop) (v : Value) (d : D) (p q : Int) (w : World) (h : IsD w S v d) (hu : ∀ z ∈ d.tells, u64ok z) :
    Calls Try.prog 9 #[v, .int .i64 p, .int .i64 q] w fun e w' => e = .returned (.bool true) ∧ Below w.heap.size w w' := by
  obtain ⟨nv, tv, rfl, hn, ht⟩ := id h
  obtain ⟨NA, nc, rfl⟩ := hn.form
  obtain ⟨TA, tc, rfl⟩ := ht.form
  have HD := hid h
  have HU := hid hu
  obtain ⟨w1, hw1⟩ : ∃ w1, w1 = w.alloc (.cells #[.slice NA d.next.length nc, .slice TA d.tells.length tc] 29) := ⟨_, rfl⟩
  have hb1 : Below w.heap.size w w1 := by rw [hw1]; exact (Below.refl _ _).alloc (Nat.le_refl _) _
  have HB1 := hid hb1
  have HP := hid (show w1.heap[w.heap.size]? = some (.cells #[.slice NA d.next.length nc, .slice TA d.tells.length tc] 29 (0, 0)) by rw [hw1]; exact heap_alloc_new _ _)
  have HL1 := hid (show w.heap.size < w1.heap.size by rw [hw1]; simp)
  have HX1 := hid (show ∀ Y, Below w1.heap.size w1 Y → Y.cell? ⟨w.heap.size, 0, none⟩ = some (.slice NA d.next.length nc) ∧ Y.cell? ⟨w.heap.size, 1, none⟩ = some (.slice TA d.tells.length tc) from fun Y hY => by
    obtain ⟨a, b, _⟩ := slot2 ((hY.block w.heap.size HL1.out).trans HP.out)
    exact ⟨a, b⟩)
  have HBA := hid (show ∀ Y, Below w1.heap.size w1 Y → Below w.heap.size w Y from fun Y hY => HB1.out.trans (hY.mono HB1.out.size))
  obtain ⟨x0, x1⟩ := HX1.out w1 (Below.refl _ _)
  rw [hw1] at x0 x1
  clear h hn ht hu hb1
  cases hg : greatB d with
  | true =>
    have HG := hid hg
    clear hg
    go_enter Try.func9, Try.ntmps9
    go_wp2_with (first
      | (go_at_call 14; rw [← hw1]; refine (great_any S _ d _ (HD.out.below HB1.out)).mono ?_; rintro e w2 ⟨rfl, hb2⟩; rw [HG.out]; have HB2 := hid hb2; clear hb2)
      | (go_at_call 31; refine (awake_any _).mono ?_; rintro e w3 ⟨rfl, hb3⟩; have HB3 := hid (HB2.out.trans (hb3.mono HB2.out.size)); clear hb3)
      | fail)
    go_ret
    exact ⟨rfl, HBA.out _ HB3.out⟩
  | false =>
    have HG := hid hg
    clear hg
    cases hk : okB d p q with
    | false =>
      have HK := hid hk
      clear hk
      cases hr : rightB d with
      | false =>
        have HR := hid hr
        clear hr
        go_enter Try.func9, Try.ntmps9
        go_wp2_with (first
          | (go_at_call 14; rw [← hw1]; refine (great_any S _ d _ (HD.out.below HB1.out)).mono ?_; rintro e w2 ⟨rfl, hb2⟩; rw [HG.out]; have HB2 := hid hb2; clear hb2)
          | (go_at_call 31; refine (awake_any _).mono ?_; rintro e w3 ⟨rfl, hb3⟩; have HB3 := hid (HB2.out.trans (hb3.mono HB2.out.size)); obtain ⟨y0, y1⟩ := HX1.out _ HB3.out; clear hb3)
          | (go_at_call 15; refine (to_any _ _ _ _ _ _ _).mono ?_; rintro e w4 ⟨rfl, hb4⟩; have HB4 := hid (HB3.out.trans (hb4.mono HB3.out.size)); clear hb4)
          | (go_at_call 38; refine (apart_no S _ d p q _ (HD.out.below (HBA.out _ HB4.out)) HK.out).mono ?_; rintro e w5 ⟨rfl, hb5⟩; have HB5 := hid (HB4.out.trans (hb5.mono HB4.out.size)); obtain ⟨z0, z1⟩ := HX1.out _ HB5.out; clear hb5)
          | (go_at_call 22; refine (refRight_any S _ d _ (HD.out.below (HBA.out _ HB5.out))).mono ?_; rintro e w6 ⟨rfl, hb6⟩; rw [HR.out]; have HB6 := hid (HB5.out.trans (hb6.mono HB5.out.size)); obtain ⟨u0, u1⟩ := HX1.out _ HB6.out; clear hb6)
          | fail)
        go_ret
        exact ⟨rfl, HBA.out _ HB6.out⟩
      | true =>
        have HR := hid hr
        clear hr
        rcases Int.lt_or_le p 0 with hp | hp
        · have h1 : decide (p < 0) = true := by simpa using hp
          go_enter Try.func9, Try.ntmps9
          go_wp2_with (first
            | (go_at_call 14; rw [← hw1]; refine (great_any S _ d _ (HD.out.below HB1.out)).mono ?_; rintro e w2 ⟨rfl, hb2⟩; rw [HG.out]; have HB2 := hid hb2; clear hb2)
            | (go_at_call 31; refine (awake_any _).mono ?_; rintro e w3 ⟨rfl, hb3⟩; have HB3 := hid (HB2.out.trans (hb3.mono HB2.out.size)); obtain ⟨y0, y1⟩ := HX1.out _ HB3.out; clear hb3)
            | (go_at_call 15; refine (to_any _ _ _ _ _ _ _).mono ?_; rintro e w4 ⟨rfl, hb4⟩; have HB4 := hid (HB3.out.trans (hb4.mono HB3.out.size)); clear hb4)
            | (go_at_call 38; refine (apart_no S _ d p q _ (HD.out.below (HBA.out _ HB4.out)) HK.out).mono ?_; rintro e w5 ⟨rfl, hb5⟩; have HB5 := hid (HB4.out.trans (hb5.mono HB4.out.size)); obtain ⟨z0, z1⟩ := HX1.out _ HB5.out; clear hb5)
            | (go_at_call 22; refine (refRight_any S _ d _ (HD.out.below (HBA.out _ HB5.out))).mono ?_; rintro e w6 ⟨rfl, hb6⟩; rw [HR.out]; have HB6 := hid (HB5.out.trans (hb6.mono HB5.out.size)); obtain ⟨u0, u1⟩ := HX1.out _ HB6.out; clear hb6)
            | fail)
          go_ret
          exact ⟨rfl, HBA.out _ HB6.out⟩
        · have h1 : decide (p < 0) = false := by simp; omega
          rcases Int.lt_or_le q 0 with hq | hq
          · have h2 : decide (q < 0) = true := by simpa using hq
            go_enter Try.func9, Try.ntmps9
            go_wp2_with (first
              | (go_at_call 14; rw [← hw1]; refine (great_any S _ d _ (HD.out.below HB1.out)).mono ?_; rintro e w2 ⟨rfl, hb2⟩; rw [HG.out]; have HB2 := hid hb2; clear hb2)
              | (go_at_call 31; refine (awake_any _).mono ?_; rintro e w3 ⟨rfl, hb3⟩; have HB3 := hid (HB2.out.trans (hb3.mono HB2.out.size)); obtain ⟨y0, y1⟩ := HX1.out _ HB3.out; clear hb3)
              | (go_at_call 15; refine (to_any _ _ _ _ _ _ _).mono ?_; rintro e w4 ⟨rfl, hb4⟩; have HB4 := hid (HB3.out.trans (hb4.mono HB3.out.size)); clear hb4)
              | (go_at_call 38; refine (apart_no S _ d p q _ (HD.out.below (HBA.out _ HB4.out)) HK.out).mono ?_; rintro e w5 ⟨rfl, hb5⟩; have HB5 := hid (HB4.out.trans (hb5.mono HB4.out.size)); obtain ⟨z0, z1⟩ := HX1.out _ HB5.out; clear hb5)
              | (go_at_call 22; refine (refRight_any S _ d _ (HD.out.below (HBA.out _ HB5.out))).mono ?_; rintro e w6 ⟨rfl, hb6⟩; rw [HR.out]; have HB6 := hid (HB5.out.trans (hb6.mono HB5.out.size)); obtain ⟨u0, u1⟩ := HX1.out _ HB6.out; clear hb6)
              | fail)
            go_ret
            exact ⟨rfl, HBA.out _ HB6.out⟩
          · have h2 : decide (q < 0) = false := by simp; omega
            rcases Int.lt_or_le p d.next.length with hp2 | hp2
            · have h3 : decide ((d.next.length : Int) ≤ p) = false := by simp; omega
              have hq2 : (d.next.length : Int) ≤ q := by
                refine Int.not_lt.1 fun hlt => ?_
                have := HK.out
                simp [okB, HR.out, hp, hq, hp2, hlt] at this
              have h4 : decide ((d.next.length : Int) ≤ q) = true := by simpa using hq2
              go_enter Try.func9, Try.ntmps9
              go_wp2_with (first
                | (go_at_call 14; rw [← hw1]; refine (great_any S _ d _ (HD.out.below HB1.out)).mono ?_; rintro e w2 ⟨rfl, hb2⟩; rw [HG.out]; have HB2 := hid hb2; clear hb2)
                | (go_at_call 31; refine (awake_any _).mono ?_; rintro e w3 ⟨rfl, hb3⟩; have HB3 := hid (HB2.out.trans (hb3.mono HB2.out.size)); obtain ⟨y0, y1⟩ := HX1.out _ HB3.out; clear hb3)
                | (go_at_call 15; refine (to_any _ _ _ _ _ _ _).mono ?_; rintro e w4 ⟨rfl, hb4⟩; have HB4 := hid (HB3.out.trans (hb4.mono HB3.out.size)); clear hb4)
                | (go_at_call 38; refine (apart_no S _ d p q _ (HD.out.below (HBA.out _ HB4.out)) HK.out).mono ?_; rintro e w5 ⟨rfl, hb5⟩; have HB5 := hid (HB4.out.trans (hb5.mono HB4.out.size)); obtain ⟨z0, z1⟩ := HX1.out _ HB5.out; clear hb5)
                | (go_at_call 22; refine (refRight_any S _ d _ (HD.out.below (HBA.out _ HB5.out))).mono ?_; rintro e w6 ⟨rfl, hb6⟩; rw [HR.out]; have HB6 := hid (HB5.out.trans (hb6.mono HB5.out.size)); obtain ⟨u0, u1⟩ := HX1.out _ HB6.out; clear hb6)
                | fail)
              go_ret
              exact ⟨rfl, HBA.out _ HB6.out⟩
            · have h3 : decide ((d.next.length : Int) ≤ p) = true := by simpa using hp2
              go_enter Try.func9, Try.ntmps9
              go_wp2_with (first
                | (go_at_call 14; rw [← hw1]; refine (great_any S _ d _ (HD.out.below HB1.out)).mono ?_; rintro e w2 ⟨rfl, hb2⟩; rw [HG.out]; have HB2 := hid hb2; clear hb2)
                | (go_at_call 31; refine (awake_any _).mono ?_; rintro e w3 ⟨rfl, hb3⟩; have HB3 := hid (HB2.out.trans (hb3.mono HB2.out.size)); obtain ⟨y0, y1⟩ := HX1.out _ HB3.out; clear hb3)
                | (go_at_call 15; refine (to_any _ _ _ _ _ _ _).mono ?_; rintro e w4 ⟨rfl, hb4⟩; have HB4 := hid (HB3.out.trans (hb4.mono HB3.out.size)); clear hb4)
                | (go_at_call 38; refine (apart_no S _ d p q _ (HD.out.below (HBA.out _ HB4.out)) HK.out).mono ?_; rintro e w5 ⟨rfl, hb5⟩; have HB5 := hid (HB4.out.trans (hb5.mono HB4.out.size)); obtain ⟨z0, z1⟩ := HX1.out _ HB5.out; clear hb5)
                | (go_at_call 22; refine (refRight_any S _ d _ (HD.out.below (HBA.out _ HB5.out))).mono ?_; rintro e w6 ⟨rfl, hb6⟩; rw [HR.out]; have HB6 := hid (HB5.out.trans (hb6.mono HB5.out.size)); obtain ⟨u0, u1⟩ := HX1.out _ HB6.out; clear hb6)
                | fail)
              go_ret
              exact ⟨rfl, HBA.out _ HB6.out⟩
    | true =>
      have hk2 := hk
      simp only [okB, Bool.and_eq_true, decide_eq_true_eq] at hk2
      obtain ⟨⟨⟨⟨hr, hp0⟩, hq0⟩, hp1⟩, hq1⟩ := hk2
      obtain ⟨p, rfl⟩ : ∃ n : Nat, p = n := ⟨p.toNat, by omega⟩
      obtain ⟨q, rfl⟩ : ∃ n : Nat, q = n := ⟨q.toNat, by omega⟩
      have hp2 : p < d.next.length := by omega
      have hq2 : q < d.next.length := by omega
      have HR := hid hr
      have HRT := hid (rt_of_right hr)
      have h := HD.out
      obtain ⟨nb, no, nc', tb, to', tc', e1, e2, hx⟩ := tabX_of h hr HU.out
      obtain ⟨e1a, e1c⟩ : NA = some ⟨nb, no, none⟩ ∧ nc = nc' := by simpa using e1
      obtain ⟨e2a, e2b, e2c⟩ : TA = some ⟨tb, to', none⟩ ∧ d.tells.length = d.next.length ∧ tc = tc' := by simpa using e2
      subst e1a e1c e2a e2c
      rw [e2b] at HD HP HX1 x0 x1 hw1 ⊢
      have HTX := hid hx
      have h1 : decide ((p : Int) < 0) = false := by simp
      have h2 : decide ((q : Int) < 0) = false := by simp
      have h3 : decide ((d.next.length : Int) ≤ (p : Int)) = false := by simp; omega
      have h4 : decide ((d.next.length : Int) ≤ (q : Int)) = false := by simp; omega
      clear hr h e1 e2 e2b hx hk
      have HAP := hid (show ∀ Y, Below w1.heap.size w1 Y → Calls Try.prog 38 #[.agg #[.slice (some ⟨nb, no, none⟩) d.next.length nc, .slice (some ⟨tb, to', none⟩) d.next.length tc], .int .i64 p, .int .i64 q] Y (SearchAns Y d d p q) from fun Y hY =>
        apart_yes S _ d p q Y (HD.out.below (HBA.out _ hY)) HR.out HU.out hp2 hq2)
      go_enter Try.func9, Try.ntmps9
      go_wp2_with (first
        | (go_at_call 14; rw [← hw1]; refine (great_any S _ d _ (HD.out.below HB1.out)).mono ?_; rintro e w2 ⟨rfl, hb2⟩; rw [HG.out]; have HB2 := hid hb2; clear hb2)
        | (go_at_call 31; refine (awake_any _).mono ?_; rintro e w3 ⟨rfl, hb3⟩; have HB3 := hid (HB2.out.trans (hb3.mono HB2.out.size)); obtain ⟨y0, y1⟩ := HX1.out _ HB3.out; clear hb3)
        | (go_at_call 15; refine (to_any _ _ _ _ _ _ _).mono ?_; rintro e w4 ⟨rfl, hb4⟩; have HB4 := hid (HB3.out.trans (hb4.mono HB3.out.size)); clear hb4)
        | fail)
      clear hw1 x0 x1 y0 y1
      refine (HAP.out _ HB4.out).mono ?_
      rintro e w5 (⟨v, u, rfl, hf, hi, hb5⟩ | ⟨rfl, hno, hb5⟩)
      · have HF := hid hf
        have HI := hid hi
        have HB5 := hid (HB4.out.trans (hb5.mono HB4.out.size))
        obtain ⟨z0, z1⟩ := HX1.out _ HB5.out
        obtain ⟨VA, vc, hve⟩ := hi.form
        have HUL := hid (show (u.map fun (m : Nat) => (m : Int)).length = u.length from by simp)
        rw [HUL.out] at hve
        subst hve
        clear hf hi hb5
        go_wp2_with (first
          | (go_at_call 22; refine (refRight_any S _ d _ (HD.out.below (HBA.out _ HB5.out))).mono ?_; rintro e w6 ⟨rfl, hb6⟩; rw [HR.out]; have HB6 := hid (HB5.out.trans (hb6.mono HB5.out.size)); obtain ⟨u0, u1⟩ := HX1.out _ HB6.out; have HI6 := hid (HI.out.below hb6); clear hb6)
          | (go_at_call 35
             refine (refApart_any _ nb no nc tb to' tc _ d.next d.tells (HTX.out.below (HBA.out _ HB6.out))).mono ?_
             rintro e w7 ⟨xb, rb, M, rfl, hx7, hrb7, hm7, ha7, hb7⟩
             have HB7 := hid (HB6.out.trans (hb7.mono HB6.out.size))
             have HM7 := hid hm7
             have HA7 := hid ha7
             have HI7 := hid (HI6.out.below hb7)
             have hpos : 0 ≤ M p q := by
               refine Int.not_lt.1 fun hlt => ?_
               exact (greedy_none HRT.out.1 HRT.out.2.1 ha7 hp2 hq2).1 hlt u HF.out.ok HF.out.sep
             have c1 := hm7.cell hp2
             have c2 := hm7.at hp2 hq2
             obtain ⟨v0, v1⟩ := HX1.out _ HB7.out
             obtain ⟨E, hE⟩ : ∃ E, E = M p q := ⟨_, rfl⟩
             have HE := hid hE
             rw [← hE] at c2 hpos
             clear hm7 ha7 hb7 hx7 hrb7 hE)
          | (go_at_call 39
             refine (word_any _ nb no nc tb to' tc _ xb rb M d (HTX.out.below (HBA.out _ HB7.out)) HM7.out HA7.out p q hp2 hq2 (by rw [← HE.out]; exact hpos)).mono ?_
             rintro e w8 ⟨v8, u8, rfl, hf8, hi8, hb8⟩
             have HUQ := hid (show u8 = u from hf8.uniq HF.out)
             have HB8 := hid (HB7.out.trans (hb8.mono HB7.out.size))
             have HI8 := hid (HI7.out.below hb8)
             have HJ8 := hid hi8
             clear hf8 hi8 hb8)
          | (go_at_call 18
             refine (f18_any _ _ _ _ _ _ _ HI8.out HJ8.out).mono ?_
             rintro e w9 ⟨rfl, nn, rfl⟩
             rw [HUQ.out]
             have HB9 := hid (below_drewN HB8.out nn))
          | fail)
        go_ret
        exact ⟨by simp, HBA.out _ HB9.out⟩
      · have HNO := hid hno
        have HB5 := hid (HB4.out.trans (hb5.mono HB4.out.size))
        obtain ⟨z0, z1⟩ := HX1.out _ HB5.out
        clear hno hb5
        go_wp2_with (first
          | (go_at_call 22; refine (refRight_any S _ d _ (HD.out.below (HBA.out _ HB5.out))).mono ?_; rintro e w6 ⟨rfl, hb6⟩; rw [HR.out]; have HB6 := hid (HB5.out.trans (hb6.mono HB5.out.size)); obtain ⟨u0, u1⟩ := HX1.out _ HB6.out; clear hb6)
          | (go_at_call 35
             refine (refApart_any _ nb no nc tb to' tc _ d.next d.tells (HTX.out.below (HBA.out _ HB6.out))).mono ?_
             rintro e w7 ⟨xb, rb, M, rfl, hx7, hrb7, hm7, ha7, hb7⟩
             have HB7 := hid (HB6.out.trans (hb7.mono HB6.out.size))
             have hneg : M p q < 0 := (greedy_none HRT.out.1 HRT.out.2.1 ha7 hp2 hq2).2 HNO.out
             have c1 := hm7.cell hp2
             have c2 := hm7.at hp2 hq2
             obtain ⟨E, hE⟩ : ∃ E, E = M p q := ⟨_, rfl⟩
             rw [← hE] at c2 hneg
             clear hm7 ha7 hb7 hx7 hrb7 hE)
          | fail)
        go_ret
        exact ⟨rfl, HBA.out _ HB7.out⟩
end Go.Proofs.Ytmdkmobcglnmgaa
