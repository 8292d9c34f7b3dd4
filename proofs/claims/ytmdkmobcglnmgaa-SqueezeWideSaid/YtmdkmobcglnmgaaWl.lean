/- The statement SqueezeWide, walked. Conditions: none beyond the input's shape. -/
import Derived.Test.YtmdkmobcglnmgaaRw
import Derived.Test.YtmdkmobcglnmgaaAwk
import Derived.Test.YtmdkmobcglnmgaaTab
import Derived.Test.YtmdkmobcglnmgaaSame
namespace Go.Proofs.Ytmdkmobcglnmgaa
open Go.RowKit

theorem great_bounds {d : D} (h : greatB d = false) : d.next.length ≤ 20 ∧ d.tells.length ≤ 20 ∧ ∀ r ∈ d.next, r.length ≤ 60 := by
  unfold greatB at h
  simp at h
  exact ⟨by omega, by omega, fun r hr => by have := h.2 r hr; omega⟩
theorem sameD_self (d : D) : sameD d d = true := by simp [sameD]

set_option maxRecDepth 100000 in
set_option maxHeartbeats 4000000 in
theorem widel_walk (S : Nat → Prop) (GA NA TA : Option Addr) (gc nc tc : Nat) (gs : List Int) (d : D) (w : World) (hg0 : IsNums .i64 w S (.slice GA gs.length gc) gs) (h : IsD w S (.agg #[.slice NA d.next.length nc, .slice TA d.tells.length tc]) d) :
    Calls Try.prog 6 #[.agg #[.slice GA gs.length gc, .slice NA d.next.length nc, .slice TA d.tells.length tc]] w (fun e w' => e = .returned (.bool true) ∧ Below w.heap.size w w') := by
  obtain ⟨W, hW0⟩ : ∃ W, W = w.alloc (.cells #[.slice GA gs.length gc, .slice NA d.next.length nc, .slice TA d.tells.length tc] 45) := ⟨_, rfl⟩
  have hWb : Below w.heap.size w W := by rw [hW0]; exact (Below.refl _ _).alloc (Nat.le_refl _) _
  have hWz : W.heap.size = w.heap.size + 1 := by rw [hW0]; simp
  have q0 : W.heap[w.heap.size]? = some (.cells #[.slice GA gs.length gc, .slice NA d.next.length nc, .slice TA d.tells.length tc] 45 (0, 0)) := by rw [hW0]; exact heap_alloc_new _ _
  have hcells : ∀ w1, Below W.heap.size W w1 → w1.cell? ⟨w.heap.size, 0, none⟩ = some (.slice GA gs.length gc) ∧ w1.cell? ⟨w.heap.size, 1, none⟩ = some (.slice NA d.next.length nc) ∧ w1.cell? ⟨w.heap.size, 2, none⟩ = some (.slice TA d.tells.length tc) := by
    intro w1 hb
    obtain ⟨a1, a2, a3, _⟩ := slot3 ((hb.block (w.heap.size) (by omega)).trans q0)
    exact ⟨a1, a2, a3⟩
  have HC := hid hcells
  have HB := hid hWb
  have HG := hid (hg0.below hWb)
  have HD := hid (h.below hWb)
  have hgl := hg0.le
  obtain ⟨f1, f2, f3⟩ := hcells W (Below.refl _ _)
  clear hcells hWb hWz q0 h hg0
  cases hg : greatB d with
  | true =>
    go_enter Try.func6, Try.ntmps6
    go_wp2_with fail
    rw [← hW0]
    clear hW0
    go_wp2_with (first
      | (go_at_call 14; refine (great_any S _ d _ HD.out).mono ?_; rintro e w1 ⟨rfl, hb1⟩; rw [hg])
      | (go_at_call 13; refine (awake_any _).mono ?_; rintro e w2 ⟨rfl, hb2⟩))
    have hbel := HB.out.trans ((hb1.trans (hb2.mono hb1.size)).mono HB.out.size)
    go_ret
    exact ⟨rfl, hbel⟩
  | false =>
    by_cases h60 : 60 < gs.length
    · have h60i : decide ((60 : Int) < (gs.length : Int)) = true := by simp; omega
      go_enter Try.func6, Try.ntmps6
      go_wp2_with fail
      rw [← hW0]
      clear hW0
      go_wp2_with (first
        | (go_at_call 14; refine (great_any S _ d _ HD.out).mono ?_; rintro e w1 ⟨rfl, hb1⟩; rw [hg]; obtain ⟨g1, g2, g3⟩ := HC.out w1 hb1)
        | (go_at_call 13; refine (awake_any _).mono ?_; rintro e w2 ⟨rfl, hb2⟩))
      have hbel := HB.out.trans ((hb1.trans (hb2.mono hb1.size)).mono HB.out.size)
      go_ret
      exact ⟨rfl, hbel⟩
    · have h60i : decide ((60 : Int) < (gs.length : Int)) = false := by simp; omega
      obtain ⟨hn20, ht20, _⟩ := great_bounds hg
      have hn1 : d.next.length ≤ 1000 := by omega
      have ht1 : d.tells.length ≤ 1000 := by omega
      cases hr : rightB (widD gs d) with
      | true =>
        go_enter Try.func6, Try.ntmps6
        go_wp2_with fail
        rw [← hW0]
        clear hW0
        go_wp2_with (first
          | (go_at_call 14; refine (great_any S _ d _ HD.out).mono ?_; rintro e w1 ⟨rfl, hb1⟩; rw [hg]; obtain ⟨g1, g2, g3⟩ := HC.out w1 hb1)
          | (go_at_call 13; refine (awake_any _).mono ?_; rintro e w2 ⟨rfl, hb2⟩; have hB2 := hb1.trans (hb2.mono hb1.size); obtain ⟨k1, k2, k3⟩ := HC.out w2 hB2)
          | (go_at_call 27; refine (nwide_any S GA NA TA gc nc tc gs d _ ((HG.out.below hB2).below ((Below.refl _ _).alloc (Nat.le_refl _) _)) ((HD.out.below hB2).below ((Below.refl _ _).alloc (Nat.le_refl _) _)) hn1 ht1).mono ?_; rintro e w3 ⟨x, XA, xc, YA, yc, hx, rfl, hxd, hb3⟩; rw [hr]
             have hB3 : Below W.heap.size W w3 := hB2.trans ((((Below.refl _ _).alloc (Nat.le_refl _) _).trans (hb3.mono (by simp))).mono hB2.size)
             have hy3 := slot_kept hb3
             have hB3a : Below W.heap.size W (w3.alloc (.cells #[.slice XA x.next.length xc, .slice YA x.tells.length yc] 30)) := hB3.alloc hB3.size _
             obtain ⟨l1, l2, l3⟩ := HC.out _ hB3a
             have HX := hid (hxd.below ((Below.refl _ w3).alloc (Nat.le_refl _) (.cells #[.slice XA x.next.length xc, .slice YA x.tells.length yc] 30)))
             have HXE := hid hx
             clear hxd hx)
          | (go_at_call 28; refine (rwide_any S _ _ _ gs d _ (HG.out.below hB3a) (HD.out.below hB3a) hn1 ht1).mono ?_; rintro e w4 ⟨y, YA1, yc1, YA2, yc2, hy, rfl, hyd, hb4⟩; rw [hr]; obtain rfl : y = x := hy.trans HXE.out.symm; clear hy
             have hB4 : Below W.heap.size W w4 := hB3a.trans (hb4.mono hB3a.size)))
        obtain ⟨Wq, hWq⟩ : ∃ Wq, Wq = w4.alloc (.cells #[.slice YA1 y.next.length yc1, .slice YA2 y.tells.length yc2] 29) := ⟨_, rfl⟩
        have hq4 : Below w4.heap.size w4 Wq := by rw [hWq]; exact (Below.refl _ _).alloc (Nat.le_refl _) _
        have hqW : Below W.heap.size W Wq := hB4.trans (hq4.mono hB4.size)
        have h4a := (Array.getElem?_eq_some_iff.1 hy3).1
        have h4b := hb4.size
        simp only [World.size_alloc] at h4b
        have hc2 : Wq.heap[w2.heap.size]? = some (.cells #[.slice GA gs.length gc, .slice NA d.next.length nc, .slice TA d.tells.length tc] 40 (0, 0)) :=
          (hq4.block _ (by omega)).trans ((hb4.block _ (by simp; omega)).trans ((heap_alloc_old _ _ h4a).trans hy3))
        have hc3 : Wq.heap[w3.heap.size]? = some (.cells #[.slice XA y.next.length xc, .slice YA y.tells.length yc] 30 (0, 0)) := (hq4.block _ (by omega)).trans (slot_kept hb4)
        have hc4 : Wq.heap[w4.heap.size]? = some (.cells #[.slice YA1 y.next.length yc1, .slice YA2 y.tells.length yc2] 29 (0, 0)) := by rw [hWq]; exact heap_alloc_new _ _
        have hall : ∀ Y, Below Wq.heap.size Wq Y → Y.cell? ⟨w2.heap.size, 0, none⟩ = some (.slice GA gs.length gc) ∧ Y.cell? ⟨w2.heap.size, 1, none⟩ = some (.slice NA d.next.length nc) ∧ Y.cell? ⟨w2.heap.size, 2, none⟩ = some (.slice TA d.tells.length tc) ∧ Y.cell? ⟨w3.heap.size, 0, none⟩ = some (.slice XA y.next.length xc) ∧ Y.cell? ⟨w3.heap.size, 1, none⟩ = some (.slice YA y.tells.length yc) ∧ Y.cell? ⟨w4.heap.size, 0, none⟩ = some (.slice YA1 y.next.length yc1) ∧ Y.cell? ⟨w4.heap.size, 1, none⟩ = some (.slice YA2 y.tells.length yc2) := by
          intro Y hY
          obtain ⟨s1, s2, s3, _⟩ := slot3 ((hY.block _ (Array.getElem?_eq_some_iff.1 hc2).1).trans hc2)
          obtain ⟨s4, s5, _⟩ := slot2 ((hY.block _ (Array.getElem?_eq_some_iff.1 hc3).1).trans hc3)
          obtain ⟨s6, s7, _⟩ := slot2 ((hY.block _ (Array.getElem?_eq_some_iff.1 hc4).1).trans hc4)
          exact ⟨s1, s2, s3, s4, s5, s6, s7⟩
        have HALL := hid hall
        have HYD := hid (hyd.below hq4)
        have HXD := hid ((HX.out.below hb4).below hq4)
        have HQW := hid hqW
        obtain ⟨s1, s2, s3, s4, s5, s6, s7⟩ := hall Wq (Below.refl _ _)
        rw [← hWq]
        clear hall hc2 hc3 hc4 hWq hyd hy3 l1 l2 l3 k1 k2 k3 g1 g2 g3 f1 f2 f3 h4a h4b
        go_region_held3 (fun Y => Y.cell? ⟨w2.heap.size, 0, none⟩ = some (.slice GA gs.length gc) ∧ Y.cell? ⟨w2.heap.size, 1, none⟩ = some (.slice NA d.next.length nc) ∧ Y.cell? ⟨w2.heap.size, 2, none⟩ = some (.slice TA d.tells.length tc) ∧ Y.cell? ⟨w3.heap.size, 0, none⟩ = some (.slice XA y.next.length xc) ∧ Y.cell? ⟨w3.heap.size, 1, none⟩ = some (.slice YA y.tells.length yc) ∧ Y.cell? ⟨w4.heap.size, 0, none⟩ = some (.slice YA1 y.next.length yc1) ∧ Y.cell? ⟨w4.heap.size, 1, none⟩ = some (.slice YA2 y.tells.length yc2))
          (first | go_keep | exact HALL.out _ hB6 | exact HALL.out _ hB7 | exact HALL.out _ hB8)
          (first
            | (go_at_call 29; refine (nright_any S GA NA TA gc nc tc gs d _ (by first | exact HG.out.below HQW.out | exact (HG.out.below HQW.out).below ((Below.refl _ _).drew)) (by first | exact HD.out.below HQW.out | exact (HD.out.below HQW.out).below ((Below.refl _ _).drew)) hn1 ht1).mono ?_; rintro e w6 ⟨rfl, hb6⟩; rw [hr]; have hB6 : Below Wq.heap.size Wq w6 := (by first | exact hb6 | exact ((Below.refl _ _).drew).trans hb6))
            | (go_at_call 30; refine (of_any _ _ _ _ _ _ _).mono ?_; rintro e w7 ⟨rfl, hb7⟩; have hB7 : Below Wq.heap.size Wq w7 := hB6.trans (hb7.mono hB6.size))
            | (go_at_call 25; refine (refSame_any _ _ _ _ y y _ (HXD.out.below hB7) (HYD.out.below hB7)).mono ?_; rintro e w8 ⟨rfl, hb8⟩; rw [sameD_self]; have hB8 : Below Wq.heap.size Wq w8 := hB7.trans (hb8.mono hB7.size)))
        all_goals
          go_wp2_with fail
          have hbel := HB.out.trans ((HQW.out.trans (hB8.mono HQW.out.size)).mono HB.out.size)
          go_ret
          exact ⟨rfl, hbel⟩
      | false =>
        go_enter Try.func6, Try.ntmps6
        go_wp2_with fail
        rw [← hW0]
        clear hW0
        go_wp2_with (first
          | (go_at_call 14; refine (great_any S _ d _ HD.out).mono ?_; rintro e w1 ⟨rfl, hb1⟩; rw [hg]; obtain ⟨g1, g2, g3⟩ := HC.out w1 hb1)
          | (go_at_call 13; refine (awake_any _).mono ?_; rintro e w2 ⟨rfl, hb2⟩; have hB2 := hb1.trans (hb2.mono hb1.size); obtain ⟨k1, k2, k3⟩ := HC.out w2 hB2)
          | (go_at_call 27; refine (nwide_any S GA NA TA gc nc tc gs d _ ((HG.out.below hB2).below ((Below.refl _ _).alloc (Nat.le_refl _) _)) ((HD.out.below hB2).below ((Below.refl _ _).alloc (Nat.le_refl _) _)) hn1 ht1).mono ?_; rintro e w3 ⟨x, XA, xc, YA, yc, hx, rfl, hxd, hb3⟩; rw [hr]
             have hB3 : Below W.heap.size W w3 := hB2.trans ((((Below.refl _ _).alloc (Nat.le_refl _) _).trans (hb3.mono (by simp))).mono hB2.size)
             have hy3 := slot_kept hb3
             have hB3a : Below W.heap.size W (w3.alloc (.cells #[.slice XA x.next.length xc, .slice YA x.tells.length yc] 30)) := hB3.alloc hB3.size _
             obtain ⟨l1, l2, l3⟩ := HC.out _ hB3a
             have HX := hid (hxd.below ((Below.refl _ w3).alloc (Nat.le_refl _) (.cells #[.slice XA x.next.length xc, .slice YA x.tells.length yc] 30)))
             have HXE := hid hx
             clear hxd hx)
          | (go_at_call 28; refine (rwide_any S _ _ _ gs d _ (HG.out.below hB3a) (HD.out.below hB3a) hn1 ht1).mono ?_; rintro e w4 ⟨y, YA1, yc1, YA2, yc2, hy, rfl, hyd, hb4⟩; rw [hr]; obtain rfl : y = x := hy.trans HXE.out.symm; clear hy
             have hB4 : Below W.heap.size W w4 := hB3a.trans (hb4.mono hB3a.size)))
        obtain ⟨Wq, hWq⟩ : ∃ Wq, Wq = w4.alloc (.cells #[.slice YA1 y.next.length yc1, .slice YA2 y.tells.length yc2] 29) := ⟨_, rfl⟩
        have hq4 : Below w4.heap.size w4 Wq := by rw [hWq]; exact (Below.refl _ _).alloc (Nat.le_refl _) _
        have hqW : Below W.heap.size W Wq := hB4.trans (hq4.mono hB4.size)
        have h4a := (Array.getElem?_eq_some_iff.1 hy3).1
        have h4b := hb4.size
        simp only [World.size_alloc] at h4b
        have hc2 : Wq.heap[w2.heap.size]? = some (.cells #[.slice GA gs.length gc, .slice NA d.next.length nc, .slice TA d.tells.length tc] 40 (0, 0)) :=
          (hq4.block _ (by omega)).trans ((hb4.block _ (by simp; omega)).trans ((heap_alloc_old _ _ h4a).trans hy3))
        have hc3 : Wq.heap[w3.heap.size]? = some (.cells #[.slice XA y.next.length xc, .slice YA y.tells.length yc] 30 (0, 0)) := (hq4.block _ (by omega)).trans (slot_kept hb4)
        have hc4 : Wq.heap[w4.heap.size]? = some (.cells #[.slice YA1 y.next.length yc1, .slice YA2 y.tells.length yc2] 29 (0, 0)) := by rw [hWq]; exact heap_alloc_new _ _
        have hall : ∀ Y, Below Wq.heap.size Wq Y → Y.cell? ⟨w2.heap.size, 0, none⟩ = some (.slice GA gs.length gc) ∧ Y.cell? ⟨w2.heap.size, 1, none⟩ = some (.slice NA d.next.length nc) ∧ Y.cell? ⟨w2.heap.size, 2, none⟩ = some (.slice TA d.tells.length tc) ∧ Y.cell? ⟨w3.heap.size, 0, none⟩ = some (.slice XA y.next.length xc) ∧ Y.cell? ⟨w3.heap.size, 1, none⟩ = some (.slice YA y.tells.length yc) ∧ Y.cell? ⟨w4.heap.size, 0, none⟩ = some (.slice YA1 y.next.length yc1) ∧ Y.cell? ⟨w4.heap.size, 1, none⟩ = some (.slice YA2 y.tells.length yc2) := by
          intro Y hY
          obtain ⟨s1, s2, s3, _⟩ := slot3 ((hY.block _ (Array.getElem?_eq_some_iff.1 hc2).1).trans hc2)
          obtain ⟨s4, s5, _⟩ := slot2 ((hY.block _ (Array.getElem?_eq_some_iff.1 hc3).1).trans hc3)
          obtain ⟨s6, s7, _⟩ := slot2 ((hY.block _ (Array.getElem?_eq_some_iff.1 hc4).1).trans hc4)
          exact ⟨s1, s2, s3, s4, s5, s6, s7⟩
        have HALL := hid hall
        have HYD := hid (hyd.below hq4)
        have HXD := hid ((HX.out.below hb4).below hq4)
        have HQW := hid hqW
        obtain ⟨s1, s2, s3, s4, s5, s6, s7⟩ := hall Wq (Below.refl _ _)
        rw [← hWq]
        clear hall hc2 hc3 hc4 hWq hyd hy3 l1 l2 l3 k1 k2 k3 g1 g2 g3 f1 f2 f3 h4a h4b
        go_region_held3 (fun Y => Y.cell? ⟨w2.heap.size, 0, none⟩ = some (.slice GA gs.length gc) ∧ Y.cell? ⟨w2.heap.size, 1, none⟩ = some (.slice NA d.next.length nc) ∧ Y.cell? ⟨w2.heap.size, 2, none⟩ = some (.slice TA d.tells.length tc) ∧ Y.cell? ⟨w3.heap.size, 0, none⟩ = some (.slice XA y.next.length xc) ∧ Y.cell? ⟨w3.heap.size, 1, none⟩ = some (.slice YA y.tells.length yc) ∧ Y.cell? ⟨w4.heap.size, 0, none⟩ = some (.slice YA1 y.next.length yc1) ∧ Y.cell? ⟨w4.heap.size, 1, none⟩ = some (.slice YA2 y.tells.length yc2))
          (first | go_keep | exact HALL.out _ hB6 | exact HALL.out _ hB7 | exact HALL.out _ hB8)
          (first
            | (go_at_call 29; refine (nright_any S GA NA TA gc nc tc gs d _ (by first | exact HG.out.below HQW.out | exact (HG.out.below HQW.out).below ((Below.refl _ _).drew)) (by first | exact HD.out.below HQW.out | exact (HD.out.below HQW.out).below ((Below.refl _ _).drew)) hn1 ht1).mono ?_; rintro e w6 ⟨rfl, hb6⟩; rw [hr]; have hB6 : Below Wq.heap.size Wq w6 := (by first | exact hb6 | exact ((Below.refl _ _).drew).trans hb6))
            | (go_at_call 30; refine (of_any _ _ _ _ _ _ _).mono ?_; rintro e w7 ⟨rfl, hb7⟩; have hB7 : Below Wq.heap.size Wq w7 := hB6.trans (hb7.mono hB6.size))
            | (go_at_call 25; refine (refSame_any _ _ _ _ y y _ (HXD.out.below hB7) (HYD.out.below hB7)).mono ?_; rintro e w8 ⟨rfl, hb8⟩; rw [sameD_self]; have hB8 : Below Wq.heap.size Wq w8 := hB7.trans (hb8.mono hB7.size)))
        all_goals
          go_wp2_with fail
          have hbel := HB.out.trans ((HQW.out.trans (hB8.mono HQW.out.size)).mono HB.out.size)
          go_ret
          exact ⟨rfl, hbel⟩
end Go.Proofs.Ytmdkmobcglnmgaa
