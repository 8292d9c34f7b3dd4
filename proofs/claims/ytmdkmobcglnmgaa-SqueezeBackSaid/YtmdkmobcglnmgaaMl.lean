/- The statement SqueezeMakes, walked: by any grouping any table's narrow one. Conditions: none beyond the input's shape. -/
import Derived.Test.YtmdkmobcglnmgaaRm
import Derived.Test.YtmdkmobcglnmgaaAwk
namespace Go.Proofs.Ytmdkmobcglnmgaa
open Go.RowKit

theorem great_bounds' {d : D} (h : greatB d = false) : d.next.length ≤ 20 ∧ d.tells.length ≤ 20 ∧ ∀ r ∈ d.next, r.length ≤ 60 := by
  unfold greatB at h
  simp at h
  exact ⟨by omega, by omega, fun r hr => by have := h.2 r hr; omega⟩
theorem sameD_self' (d : D) : sameD d d = true := by simp [sameD]
theorem make_bad (S S' : Nat → Prop) (vg vd : Value) (gs : List Int) (d : D) (w : World) (hg : IsNums .i64 w S vg gs) (hd : IsD w S' vd d) (hm : manyL gs = 0 ∨ rightB d = false) :
    Calls Try.prog 21 #[vg, vd] w fun e w' => e = .returned (.tuple #[.agg #[.slice none 0 0, .slice none 0 0, .slice none 0 0], .int .i64 1]) ∧ Below w.heap.size w w' := (make_any S S' vg vd gs d w hg hd).mono fun e w' h => by
  obtain ⟨hb, ⟨_, he⟩ | ⟨⟨h1, h2, _⟩, _⟩ | ⟨⟨h1, h2, _⟩, _⟩⟩ := h
  · exact ⟨he, hb⟩
  · rcases hm with h | h
    · exact absurd h h1
    · rw [h] at h2; cases h2
  · rcases hm with h | h
    · exact absurd h h1
    · rw [h] at h2; cases h2
theorem make_form (S S' : Nat → Prop) (vg vd : Value) (gs : List Int) (d : D) (w : World) (hg : IsNums .i64 w S vg gs) (hd : IsD w S' vd d) (hm : manyL gs ≠ 0) (hr : rightB d = true) (hf : ∃ r ∈ d.next, fitsB gs r (manyL gs).toNat = false) :
    Calls Try.prog 21 #[vg, vd] w fun e w' => e = .returned (.tuple #[.agg #[.slice none 0 0, .slice none 0 0, .slice none 0 0], .int .i64 4]) ∧ Below w.heap.size w w' := (make_any S S' vg vd gs d w hg hd).mono fun e w' h => by
  obtain ⟨hb, ⟨h1 | h1, _⟩ | ⟨_, he⟩ | ⟨⟨_, _, h1⟩, _⟩⟩ := h
  · exact absurd h1 hm
  · rw [hr] at h1; cases h1
  · exact ⟨he, hb⟩
  · obtain ⟨r, hr1, hr2⟩ := hf
    rw [h1 r hr1] at hr2; cases hr2
theorem rmake_form (S S' : Nat → Prop) (vg vd : Value) (gs : List Int) (d : D) (w : World) (hg : IsNums .i64 w S vg gs) (hd : IsD w S' vd d) (hm : manyL gs ≠ 0) (hr : rightB d = true) (hf : ∃ r ∈ d.next, fitsB gs r (manyL gs).toNat = false) :
    Calls Try.prog 23 #[vg, vd] w fun e w' => e = .returned (.tuple #[.agg #[.slice none 0 0, .slice none 0 0, .slice none 0 0], .bool false]) ∧ Below w.heap.size w w' := (rmake_any S S' vg vd gs d w hg hd hm hr).mono fun e w' h => by
  rcases h with ⟨h1, _⟩ | ⟨_, h⟩
  · obtain ⟨r, hr1, hr2⟩ := hf
    rw [h1 r hr1] at hr2; cases hr2
  · exact h
/-- What ref.Make answers where it has a narrow table. -/
def RMade (w : World) (gs : List Int) (d : D) (e : Ending) (w' : World) : Prop :=
  ∃ GA gc nA nc TA tc, e = .returned (.tuple #[.agg #[.slice GA gs.length gc, .slice nA d.next.length nc, .slice TA d.tells.length tc], .bool true]) ∧ IsNums .i64 w' (fun _ => True) (.slice GA gs.length gc) gs ∧
    IsRows w' (fun _ => True) (.slice nA d.next.length nc) (d.next.map fun r => narrowL gs r (manyL gs).toNat) ∧ IsNums .u64 w' (fun _ => True) (.slice TA d.tells.length tc) d.tells ∧ Below w.heap.size w w'
theorem rmake_ok (S S' : Nat → Prop) (vg vd : Value) (gs : List Int) (d : D) (w : World) (hg : IsNums .i64 w S vg gs) (hd : IsD w S' vd d) (hm : manyL gs ≠ 0) (hr : rightB d = true) (hf : ∀ r ∈ d.next, fitsB gs r (manyL gs).toNat = true) :
    Calls Try.prog 23 #[vg, vd] w (RMade w gs d) := (rmake_any S S' vg vd gs d w hg hd hm hr).mono fun e w' h => by
  rcases h with ⟨_, ⟨a, b, c, d, e, f, h1, h2, h3, h4⟩, h5⟩ | ⟨⟨r, hr1, hr2⟩, _⟩
  · exact ⟨a, b, c, d, e, f, h1, h2, h3, h4, h5⟩
  · rw [hf r hr1] at hr2; cases hr2

theorem isRows_nil (w : World) (S : Nat → Prop) : IsRows w S (.slice none 0 0) [] := ⟨none, 0, [], rfl, Nat.le_refl _, Nat.zero_le _, Arr.nil, rfl, (fun k r h => by simp at h)⟩
/-- What a boxed triple holds behind what comes later. -/
theorem box3 {X : World} {a b c : Value} {t : TypeId} (w : World) (hX : X = w.alloc (.cells #[a, b, c] t)) : ∀ Y, Below X.heap.size X Y → Y.cell? ⟨w.heap.size, 0, none⟩ = some a ∧ Y.cell? ⟨w.heap.size, 1, none⟩ = some b ∧ Y.cell? ⟨w.heap.size, 2, none⟩ = some c := by
  subst hX
  intro Y hY
  obtain ⟨h1, h2, h3, _⟩ := slot3 (slot_kept hY)
  exact ⟨h1, h2, h3⟩
theorem box2 {X : World} {a b : Value} {t : TypeId} (w : World) (hX : X = w.alloc (.cells #[a, b] t)) : ∀ Y, Below X.heap.size X Y → Y.cell? ⟨w.heap.size, 0, none⟩ = some a ∧ Y.cell? ⟨w.heap.size, 1, none⟩ = some b := by
  subst hX
  intro Y hY
  have h2 := slot_kept hY
  exact ⟨by rw [cell_of_row _ _ _ _ _ _ h2]; rfl, by rw [cell_of_row _ _ _ _ _ _ h2]; rfl⟩

set_option maxRecDepth 100000 in
set_option maxHeartbeats 4000000 in
theorem makesl_walk (S : Nat → Prop) (GA NA TA : Option Addr) (gc nc tc : Nat) (gs : List Int) (d : D) (w : World) (hg0 : IsNums .i64 w S (.slice GA gs.length gc) gs) (h : IsD w S (.agg #[.slice NA d.next.length nc, .slice TA d.tells.length tc]) d) :
    Calls Try.prog 4 #[.slice GA gs.length gc, .agg #[.slice NA d.next.length nc, .slice TA d.tells.length tc]] w (fun e w' => e = .returned (.bool true) ∧ Below w.heap.size w w') := by
  obtain ⟨W, hW0⟩ : ∃ W, W = w.alloc (.cells #[.slice NA d.next.length nc, .slice TA d.tells.length tc] 29) := ⟨_, rfl⟩
  have hWb : Below w.heap.size w W := by rw [hW0]; exact (Below.refl _ _).alloc (Nat.le_refl _) _
  have hcells := box2 w hW0
  have HC := hid hcells
  have HB := hid hWb
  have HG := hid (hg0.below hWb)
  have HD := hid (h.below hWb)
  have hgl := hg0.le
  obtain ⟨f1, f2⟩ := hcells W (Below.refl _ _)
  clear hcells hWb h hg0
  cases hg : greatB d with
  | true =>
    go_enter Try.func4, Try.ntmps4
    go_wp2_with fail
    rw [← hW0]
    clear hW0
    go_wp2_with fail
    refine (great_any S _ d _ HD.out).mono ?_
    rintro e w1 ⟨rfl, hb1⟩
    rw [hg]
    go_wp2_with fail
    refine (awake_any _).mono ?_
    rintro e w2 ⟨rfl, hb2⟩
    have hbel := HB.out.trans ((hb1.trans (hb2.mono hb1.size)).mono HB.out.size)
    go_wp2_with fail
    go_ret
    exact ⟨rfl, hbel⟩
  | false =>
    by_cases h60 : 60 < gs.length
    · have h60i : decide ((60 : Int) < (gs.length : Int)) = true := by simp; omega
      go_enter Try.func4, Try.ntmps4
      go_wp2_with fail
      rw [← hW0]
      clear hW0
      go_wp2_with fail
      refine (great_any S _ d _ HD.out).mono ?_
      rintro e w1 ⟨rfl, hb1⟩
      rw [hg]
      go_wp2_with fail
      refine (awake_any _).mono ?_
      rintro e w2 ⟨rfl, hb2⟩
      have hbel := HB.out.trans ((hb1.trans (hb2.mono hb1.size)).mono HB.out.size)
      go_wp2_with fail
      go_ret
      exact ⟨rfl, hbel⟩
    · have h60i : decide ((60 : Int) < (gs.length : Int)) = false := by simp; omega
      obtain ⟨hn20, ht20, _⟩ := great_bounds' hg
      by_cases hz : manyL gs = 0
      · have hzb := ieq_true hz
        have HBAD := hid (show manyL gs = 0 ∨ rightB d = false from .inl hz)
        clear hz
        go_enter Try.func4, Try.ntmps4
        go_wp2_with fail
        rw [← hW0]
        clear hW0
        go_wp2_with fail
        refine (great_any S _ d _ HD.out).mono ?_
        rintro e w1 ⟨rfl, hb1⟩
        rw [hg]
        go_wp2_with fail
        refine (awake_any _).mono ?_
        rintro e w2 ⟨rfl, hb2⟩
        have hB2 := hb1.trans (hb2.mono hb1.size)
        obtain ⟨g1, g2⟩ := HC.out w2 hB2
        go_wp2_with fail
        refine (to_any _ _ _ _ _ _ _).mono ?_
        rintro e w3 ⟨rfl, hb3⟩
        have hB3 := hB2.trans (hb3.mono hB2.size)
        go_wp2_with fail
        refine (make_bad S S _ _ gs d _ (HG.out.below hB3) (HD.out.below hB3) HBAD.out).mono ?_
        rintro e w4 ⟨rfl, hb4⟩
        have hB4 := hB3.trans (hb4.mono hB3.size)
        obtain ⟨X, hX⟩ : ∃ X, X = w4.alloc (.cells #[.slice none 0 0, .slice none 0 0, .slice none 0 0] 40) := ⟨_, rfl⟩
        have hBX : Below W.heap.size W X := by rw [hX]; exact hB4.alloc hB4.size _
        have HX3 := hid (box3 w4 hX)
        go_wp2_with fail
        rw [← hX]
        clear hX
        refine (many_any S _ gs _ (HG.out.below hBX)).mono ?_
        rintro e w5 ⟨rfl, hb5⟩
        go_wp2_with fail
        refine (refMany_any S _ gs _ ((HG.out.below hBX).below hb5)).mono ?_
        rintro e w6 ⟨rfl, hb6⟩
        have hb56 := hb5.trans (hb6.mono hb5.size)
        go_wp2_with fail
        refine (refMany_any S _ gs _ ((HG.out.below hBX).below hb56)).mono ?_
        rintro e w7 ⟨rfl, hb7⟩
        have hb57 := hb56.trans (hb7.mono hb56.size)
        have hB7 := hBX.trans (hb57.mono hBX.size)
        obtain ⟨y1, y2, y3⟩ := HX3.out w7 hb57
        go_wp2_with fail
        go_ret
        exact ⟨rfl, HB.out.trans (hB7.mono HB.out.size)⟩
      · have hzb := ieq_false hz
        cases hr : rightB d with
        | false =>
        have HBAD := hid (show manyL gs = 0 ∨ rightB d = false from .inr hr)
        clear hz
        go_enter Try.func4, Try.ntmps4
        go_wp2_with fail
        rw [← hW0]
        clear hW0
        go_wp2_with fail
        refine (great_any S _ d _ HD.out).mono ?_
        rintro e w1 ⟨rfl, hb1⟩
        rw [hg]
        go_wp2_with fail
        refine (awake_any _).mono ?_
        rintro e w2 ⟨rfl, hb2⟩
        have hB2 := hb1.trans (hb2.mono hb1.size)
        obtain ⟨g1, g2⟩ := HC.out w2 hB2
        go_wp2_with fail
        refine (to_any _ _ _ _ _ _ _).mono ?_
        rintro e w3 ⟨rfl, hb3⟩
        have hB3 := hB2.trans (hb3.mono hB2.size)
        go_wp2_with fail
        refine (make_bad S S _ _ gs d _ (HG.out.below hB3) (HD.out.below hB3) HBAD.out).mono ?_
        rintro e w4 ⟨rfl, hb4⟩
        have hB4 := hB3.trans (hb4.mono hB3.size)
        obtain ⟨X, hX⟩ : ∃ X, X = w4.alloc (.cells #[.slice none 0 0, .slice none 0 0, .slice none 0 0] 40) := ⟨_, rfl⟩
        have hBX : Below W.heap.size W X := by rw [hX]; exact hB4.alloc hB4.size _
        have HX3 := hid (box3 w4 hX)
        go_wp2_with fail
        rw [← hX]
        clear hX
        refine (many_any S _ gs _ (HG.out.below hBX)).mono ?_
        rintro e w5 ⟨rfl, hb5⟩
        go_wp2_with fail
        refine (refMany_any S _ gs _ ((HG.out.below hBX).below hb5)).mono ?_
        rintro e w6 ⟨rfl, hb6⟩
        have hb56 := hb5.trans (hb6.mono hb5.size)
        go_wp2_with fail
        refine (refMany_any S _ gs _ ((HG.out.below hBX).below hb56)).mono ?_
        rintro e w7 ⟨rfl, hb7⟩
        have hb57 := hb56.trans (hb7.mono hb56.size)
        have hB7 := hBX.trans (hb57.mono hBX.size)
        obtain ⟨k1, k2⟩ := HC.out w7 hB7
        go_wp2_with fail
        refine (refRight_any S _ d _ (HD.out.below hB7)).mono ?_
        rintro e w8 ⟨rfl, hb8⟩
        rw [hr]
        have hb58 := hb57.trans (hb8.mono hb57.size)
        have hB8 := hBX.trans (hb58.mono hBX.size)
        obtain ⟨y1, y2, y3⟩ := HX3.out w8 hb58
        go_wp2_with fail
        go_ret
        exact ⟨rfl, HB.out.trans (hB8.mono HB.out.size)⟩
        | true =>
        have HZ := hid hz
        have HR := hid hr
        by_cases hf : ∃ r ∈ d.next, fitsB gs r (manyL gs).toNat = false
        · have HF := hid hf
          clear hz hf
          go_enter Try.func4, Try.ntmps4
          go_wp2_with fail
          rw [← hW0]
          clear hW0
          go_wp2_with fail
          refine (great_any S _ d _ HD.out).mono ?_
          rintro e w1 ⟨rfl, hb1⟩
          rw [hg]
          go_wp2_with fail
          refine (awake_any _).mono ?_
          rintro e w2 ⟨rfl, hb2⟩
          have hB2 := hb1.trans (hb2.mono hb1.size)
          obtain ⟨g1, g2⟩ := HC.out w2 hB2
          go_wp2_with fail
          refine (to_any _ _ _ _ _ _ _).mono ?_
          rintro e w3 ⟨rfl, hb3⟩
          have hB3 := hB2.trans (hb3.mono hB2.size)
          go_wp2_with fail
          refine (make_form S S _ _ gs d _ (HG.out.below hB3) (HD.out.below hB3) HZ.out HR.out HF.out).mono ?_
          rintro e w4 ⟨rfl, hb4⟩
          have hB4 := hB3.trans (hb4.mono hB3.size)
          obtain ⟨X, hX⟩ : ∃ X, X = w4.alloc (.cells #[.slice none 0 0, .slice none 0 0, .slice none 0 0] 40) := ⟨_, rfl⟩
          have hBX : Below W.heap.size W X := by rw [hX]; exact hB4.alloc hB4.size _
          have HX3 := hid (box3 w4 hX)
          go_wp2_with fail
          rw [← hX]
          clear hX
          refine (many_any S _ gs _ (HG.out.below hBX)).mono ?_
          rintro e w5 ⟨rfl, hb5⟩
          go_wp2_with fail
          refine (refMany_any S _ gs _ ((HG.out.below hBX).below hb5)).mono ?_
          rintro e w6 ⟨rfl, hb6⟩
          have hb56 := hb5.trans (hb6.mono hb5.size)
          go_wp2_with fail
          refine (refMany_any S _ gs _ ((HG.out.below hBX).below hb56)).mono ?_
          rintro e w7 ⟨rfl, hb7⟩
          have hb57 := hb56.trans (hb7.mono hb56.size)
          have hB7 := hBX.trans (hb57.mono hBX.size)
          obtain ⟨k1, k2⟩ := HC.out w7 hB7
          go_wp2_with fail
          refine (refRight_any S _ d _ (HD.out.below hB7)).mono ?_
          rintro e w8 ⟨rfl, hb8⟩
          rw [hr]
          have hb58 := hb57.trans (hb8.mono hb57.size)
          have hB8 := hBX.trans (hb58.mono hBX.size)
          obtain ⟨k3, k4⟩ := HC.out w8 hB8
          go_wp2_with fail
          refine (rmake_form S S _ _ gs d _ (HG.out.below hB8) (HD.out.below hB8) HZ.out HR.out HF.out).mono ?_
          rintro e w9 ⟨rfl, hb9⟩
          have hb59 := hb58.trans (hb9.mono hb58.size)
          have hB9 := hBX.trans (hb59.mono hBX.size)
          have hb59a := hb59.alloc hb59.size (.cells #[.slice none 0 0, .slice none 0 0, .slice none 0 0] 45)
          obtain ⟨y1, y2, y3⟩ := HX3.out _ hb59a
          go_wp2_with fail
          go_ret
          exact ⟨rfl, HB.out.trans ((hB9.alloc hB9.size _).mono HB.out.size)⟩
        · have HF := hid (show ∀ r ∈ d.next, fitsB gs r (manyL gs).toNat = true from fun r h1 => by
            cases h2 : fitsB gs r (manyL gs).toNat with
            | true => rfl
            | false => exact absurd ⟨r, h1, h2⟩ hf)
          have hg37 := ((manyL_le gs).2.2 hz).1
          have HG37 := hid hg37
          clear hz hf hg37
          go_enter Try.func4, Try.ntmps4
          go_wp2_with fail
          rw [← hW0]
          clear hW0
          go_wp2_with fail
          refine (great_any S _ d _ HD.out).mono ?_
          rintro e w1 ⟨rfl, hb1⟩
          rw [hg]
          go_wp2_with fail
          refine (awake_any _).mono ?_
          rintro e w2 ⟨rfl, hb2⟩
          have hB2 := hb1.trans (hb2.mono hb1.size)
          obtain ⟨g1, g2⟩ := HC.out w2 hB2
          go_wp2_with fail
          refine (to_any _ _ _ _ _ _ _).mono ?_
          rintro e w3 ⟨rfl, hb3⟩
          have hB3 := hB2.trans (hb3.mono hB2.size)
          go_wp2_with fail
          refine (make_ok S S _ _ gs d _ (HG.out.below hB3) (HD.out.below hB3) HZ.out HR.out HF.out).mono ?_
          rintro e w4 ⟨gA, gc4, nA, nc4, tA, tc4, us, rfl, o1, o2, o3, o4, hb4⟩
          have hB4 := hB3.trans (hb4.mono hB3.size)
          have r2 := made_rows o2 o3
          have r1 := own_nums o1
          have r4 := own_nums o4
          obtain ⟨X, hX⟩ : ∃ X, X = w4.alloc (.cells #[.slice gA 37 gc4, .slice nA d.next.length nc4, .slice tA d.tells.length tc4] 40) := ⟨_, rfl⟩
          have hXb : Below w4.heap.size w4 X := by rw [hX]; exact (Below.refl _ _).alloc (Nat.le_refl _) _
          have hBX : Below W.heap.size W X := hB4.trans (hXb.mono hB4.size)
          have HX3 := hid (box3 w4 hX)
          have R1 := hid (r1.below hXb)
          have R2 := hid (r2.below hXb)
          have R4 := hid (r4.below hXb)
          clear o1 o2 o3 o4 r1 r2 r4
          go_wp2_with fail
          rw [← hX]
          clear hX
          refine (many_any S _ gs _ (HG.out.below hBX)).mono ?_
          rintro e w5 ⟨rfl, hb5⟩
          go_wp2_with fail
          refine (refMany_any S _ gs _ ((HG.out.below hBX).below hb5)).mono ?_
          rintro e w6 ⟨rfl, hb6⟩
          have hb56 := hb5.trans (hb6.mono hb5.size)
          go_wp2_with fail
          refine (refMany_any S _ gs _ ((HG.out.below hBX).below hb56)).mono ?_
          rintro e w7 ⟨rfl, hb7⟩
          have hb57 := hb56.trans (hb7.mono hb56.size)
          have hB7 := hBX.trans (hb57.mono hBX.size)
          obtain ⟨k1, k2⟩ := HC.out w7 hB7
          go_wp2_with fail
          refine (refRight_any S _ d _ (HD.out.below hB7)).mono ?_
          rintro e w8 ⟨rfl, hb8⟩
          rw [hr]
          have hb58 := hb57.trans (hb8.mono hb57.size)
          have hB8 := hBX.trans (hb58.mono hBX.size)
          obtain ⟨k3, k4⟩ := HC.out w8 hB8
          go_wp2_with fail
          refine (rmake_ok S S _ _ gs d _ (HG.out.below hB8) (HD.out.below hB8) HZ.out HR.out HF.out).mono ?_
          rintro e w9 ⟨gA', gc9, nA', nc9, tA', tc9, rfl, m1, m2, m3, hb9⟩
          have hb59 := hb58.trans (hb9.mono hb58.size)
          obtain ⟨Y, hY⟩ : ∃ Y, Y = w9.alloc (.cells #[.slice gA' gs.length gc9, .slice nA' d.next.length nc9, .slice tA' d.tells.length tc9] 45) := ⟨_, rfl⟩
          have hYb : Below w9.heap.size w9 Y := by rw [hY]; exact (Below.refl _ _).alloc (Nat.le_refl _) _
          have hbXY := hb59.trans (hYb.mono hb59.size)
          have hBY := hBX.trans (hbXY.mono hBX.size)
          have HY3 := hid (box3 w9 hY)
          have M1 := hid (m1.below hYb)
          have M2 := hid (m2.below hYb)
          have M3 := hid (m3.below hYb)
          clear m1 m2 m3
          obtain ⟨y1, y2, y3⟩ := HX3.out _ hbXY
          obtain ⟨z1, z2, z3⟩ := HY3.out _ (Below.refl _ _)
          have hlits := And.intro y1 (And.intro y2 (And.intro y3 (And.intro z1 (And.intro z2 z3))))
          rw [hY] at hlits
          obtain ⟨l1, l2, l3, l4, l5, l6⟩ := hlits
          go_wp2_with fail
          rw [← hY]
          clear hY l1 l2 l3 l4 l5 l6
          refine (f18_any _ _ _ _ gs gs _ (R1.out.below hbXY) M1.out).mono ?_
          rintro e w10 ⟨rfl, n10, rfl⟩
          rw [decide_eq_true (rfl : gs = gs)]
          go_wp2_with fail
          refine (rows_any _ _ _ _ _ _ _ ((R2.out.below hbXY).drewN n10) (M2.out.drewN n10)).mono ?_
          rintro e w11 ⟨rfl, n11, rfl⟩
          rw [World.drewN_drewN, decide_eq_true (rfl : (d.next.map fun r => narrowL gs r (manyL gs).toNat) = _)]
          go_wp2_with fail
          refine (refSame_any _ (fun _ => True) _ _ ⟨[], d.tells⟩ ⟨[], d.tells⟩ _ ⟨_, _, rfl, isRows_nil _ _, (R4.out.below hbXY).drewN _⟩ ⟨_, _, rfl, isRows_nil _ _, M3.out.drewN _⟩).mono ?_
          rintro e w12 ⟨rfl, hb12⟩
          rw [sameD_self']
          have hbel := below_drewN hBY (n10 + n11)
          have hbel2 := hbel.trans (hb12.mono hbel.size)
          go_wp2_with fail
          go_ret
          exact ⟨rfl, HB.out.trans (hbel2.mono HB.out.size)⟩
end Go.Proofs.Ytmdkmobcglnmgaa
