/- DfaSame, walked. No conditions but what lies in memory. -/
import Derived.Test.YthdhbkngbmjjkaaDz
import Derived.Test.YthdhbkngbmjjkaaEq
import Derived.Deep.RegionHeld3
namespace Go.Proofs.Ythdhbkngbmjjkaa
open Go.RowKit
set_option linter.unusedSimpArgs false
theorem sameD_self (a : D) : sameD a a = true := by simp [sameD]
set_option maxRecDepth 100000 in
set_option maxHeartbeats 4000000 in
theorem dsame_walk (S : Nat → Prop) (NA TA NB TB : Option Addr) (na nc ta tc nb nd tb td : Nat) (a b : D) (w : World) (ha : IsD w S (.agg #[.slice NA na nc, .slice TA ta tc]) a) (hb : IsD w S (.agg #[.slice NB nb nd, .slice TB tb td]) b) :
    Calls Try.prog 12 #[.agg #[.slice NA na nc, .slice TA ta tc], .agg #[.slice NB nb nd, .slice TB tb td]] w fun e w' => e = .returned (.bool true) ∧ Below w.heap.size w w' := by
  obtain ⟨W, hW⟩ : ∃ W, W = (w.alloc (.cells #[.slice NA na nc, .slice TA ta tc] 62)).alloc (.cells #[.slice NB nb nd, .slice TB tb td] 62) := ⟨_, rfl⟩
  have HB := hid (show Below w.heap.size w W by rw [hW]; exact ((Below.refl _ _).alloc (Nat.le_refl _) _).alloc (by simp) _)
  have HC := hid (show ∀ Y, Below W.heap.size W Y → Y.cell? ⟨w.heap.size, 0, none⟩ = some (.slice NA na nc) ∧ Y.cell? ⟨w.heap.size, 1, none⟩ = some (.slice TA ta tc) ∧ Y.cell? ⟨w.heap.size + 1, 0, none⟩ = some (.slice NB nb nd) ∧ Y.cell? ⟨w.heap.size + 1, 1, none⟩ = some (.slice TB tb td) from fun Y hY => by
    have h0 : W.heap[w.heap.size]? = some (.cells #[.slice NA na nc, .slice TA ta tc] 62 (0, 0)) := by rw [hW, heap_alloc_old _ _ (by simp)]; exact heap_alloc_new _ _
    have h1 : W.heap[w.heap.size + 1]? = some (.cells #[.slice NB nb nd, .slice TB tb td] 62 (0, 0)) := by
      have := heap_alloc_new (w.alloc (.cells #[.slice NA na nc, .slice TA ta tc] 62)) (.cells #[.slice NB nb nd, .slice TB tb td] 62)
      rw [hW]; simpa using this
    obtain ⟨a0, a1, -⟩ := slot2 ((hY.block _ (by rw [hW]; simp; omega)).trans h0)
    obtain ⟨b0, b1, -⟩ := slot2 ((hY.block _ (by rw [hW]; simp)).trans h1)
    exact ⟨a0, a1, b0, b1⟩)
  have HA := hid (ha.below HB.out)
  have HBB := hid (hb.below HB.out)
  obtain ⟨c0, c1, c2, c3⟩ := HC.out W (Below.refl _ _)
  clear ha hb
  cases hga : greatB a with
  | true =>
    have HGA := hid hga
    clear hga
    go_enter Try.func12, Try.ntmps12
    go_wp2_with fail
    rw [← hW]
    clear hW
    go_wp2_with fail
    refine (dgreat_any S _ a W HA.out).mono ?_
    rintro e w1 ⟨rfl, hb1⟩
    rw [HGA.out]
    have HB1 := hid (HB.out.trans (hb1.mono HB.out.size))
    clear hb1
    go_wp2_with fail
    refine (dawake_any _).mono ?_
    rintro e w2 ⟨rfl, hb2⟩
    have HB2 := hid (ends_true HB1.out hb2)
    clear hb2
    go_wp2_with fail
    go_ret
    exact ⟨rfl, HB2.out⟩
  | false =>
  cases hgb : greatB b with
  | true =>
    have HGA := hid hga
    have HGB := hid hgb
    clear hga hgb
    go_enter Try.func12, Try.ntmps12
    go_wp2_with fail
    rw [← hW]
    clear hW
    go_wp2_with fail
    refine (dgreat_any S _ a W HA.out).mono ?_
    rintro e w1 ⟨rfl, hb1⟩
    rw [HGA.out]
    have HB1 := hid hb1
    obtain ⟨d0, d1, d2, d3⟩ := HC.out w1 hb1
    clear hb1
    go_wp2_with fail
    refine (dgreat_any S _ b w1 (HBB.out.below HB1.out)).mono ?_
    rintro e w2 ⟨rfl, hb2⟩
    rw [HGB.out]
    have HB2 := hid (ends_true HB1.out hb2)
    clear hb2
    go_wp2_with fail
    refine (dawake_any _).mono ?_
    rintro e w3 ⟨rfl, hb3⟩
    have HB3 := hid (ends_true HB2.out hb3)
    clear hb3
    go_wp2_with fail
    go_ret
    exact ⟨rfl, HB.out.trans (HB3.out.mono HB.out.size)⟩
  | false =>
    have HGA := hid hga
    have HGB := hid hgb
    clear hga hgb
    go_enter Try.func12, Try.ntmps12
    go_wp2_with fail
    rw [← hW]
    clear hW
    go_wp2_with fail
    refine (dgreat_any S _ a W HA.out).mono ?_
    rintro e w1 ⟨rfl, hb1⟩
    rw [HGA.out]
    have HB1 := hid hb1
    obtain ⟨d0, d1, d2, d3⟩ := HC.out w1 hb1
    clear hb1
    go_wp2_with fail
    refine (dgreat_any S _ b w1 (HBB.out.below HB1.out)).mono ?_
    rintro e w2 ⟨rfl, hb2⟩
    rw [HGB.out]
    have HB2 := hid (ends_true HB1.out hb2)
    clear hb2
    go_wp2_with fail
    refine (dawake_any _).mono ?_
    rintro e w3 ⟨rfl, hb3⟩
    have HB3 := hid (ends_true HB2.out hb3)
    clear hb3
    go_wp2_with fail
    clear c0 c1 c2 c3 d0 d1 d2 d3
    have HSS := hid (sameD_self a)
    have HX := hid (show ∀ x : Bool, (x == x) = true from fun x => by simp)
    cases hsm : sameD a b with
    | _ =>
      have HSM := hid hsm
      clear hsm
      have HZ := HB3
      clear HB3
      go_region_held3 (fun Y => Y.cell? ⟨w.heap.size, 0, none⟩ = some (.slice NA na nc) ∧ Y.cell? ⟨w.heap.size, 1, none⟩ = some (.slice TA ta tc) ∧ Y.cell? ⟨w.heap.size + 1, 0, none⟩ = some (.slice NB nb nd) ∧ Y.cell? ⟨w.heap.size + 1, 1, none⟩ = some (.slice TB tb td)) (first | exact HC.out _ HZ.out | exact HC.out _ (below_drewN HZ.out 1) | exact HC.out _ HZ.out.drew)
        (first
          | (go_at_call 37; refine (dto_any _ _ _ _ _ _ _).mono ?_; rintro e w4 ⟨rfl, hb4⟩; (first | (replace HZ := hid (HZ.out.trans (hb4.mono HZ.out.size))) | (replace HZ := hid (HZ.out.drew.trans (hb4.mono HZ.out.drew.size)))); clear hb4)
          | (go_at_call 40; refine (same_any S S _ _ a b _ (by first | exact HA.out.below HZ.out | exact HA.out.below HZ.out.drew) (by first | exact HBB.out.below HZ.out | exact HBB.out.below HZ.out.drew)).mono ?_; rintro e w4 ⟨rfl, hb4⟩; rw [HSM.out]; (first | (replace HZ := hid (HZ.out.trans (hb4.mono HZ.out.size))) | (replace HZ := hid (HZ.out.drew.trans (hb4.mono HZ.out.drew.size)))); clear hb4)
          | (go_at_call 31; refine (refSame_any S S _ _ a b _ (by first | exact HA.out.below HZ.out | exact HA.out.below HZ.out.drew) (by first | exact HBB.out.below HZ.out | exact HBB.out.below HZ.out.drew)).mono ?_; rintro e w4 ⟨rfl, hb4⟩; rw [HSM.out]; (first | (replace HZ := hid (HZ.out.trans (hb4.mono HZ.out.size))) | (replace HZ := hid (HZ.out.drew.trans (hb4.mono HZ.out.drew.size)))); clear hb4)
          | (go_at_call 40; refine (same_any S S _ _ a a _ (by first | exact HA.out.below HZ.out | exact HA.out.below HZ.out.drew) (by first | exact HA.out.below HZ.out | exact HA.out.below HZ.out.drew)).mono ?_; rintro e w4 ⟨rfl, hb4⟩; rw [HSS.out]; (first | (replace HZ := hid (HZ.out.trans (hb4.mono HZ.out.size))) | (replace HZ := hid (HZ.out.drew.trans (hb4.mono HZ.out.drew.size)))); clear hb4)
          | fail)
      all_goals
        go_wp2_with fail
        go_ret
        exact ⟨rfl, HB.out.trans (HZ.out.mono HB.out.size)⟩
end Go.Proofs.Ythdhbkngbmjjkaa
