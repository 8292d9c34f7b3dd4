/- The law's awake of tables: two automata of no expressions. No conditions. -/
import Derived.Test.YthdhbkngbmjjkaaDa
import Derived.Test.YthdhbkngbmjjkaaEq
namespace Go.Proofs.Ythdhbkngbmjjkaa
open Go.RowKit
set_option linter.unusedSimpArgs false
theorem nil_row (w : World) : Row3 (IsTr w (fun b => b < w.heap.size) 0) w (fun b => b < w.heap.size) none ([] : List (Tr 0)) := fun k t h => by simp at h
theorem awake_run {ts : List Int} (h : ts.length = 2) : runL ⟨[List.replicate 37 1, List.replicate 37 1], ts⟩ 0 [36, 5] = 1 := by
  match ts, h with
  | [a, b], _ => rfl
set_option maxRecDepth 100000 in
set_option maxHeartbeats 4000000 in
theorem dawake_any (w : World) : Calls Try.prog 28 #[] w fun e w' => e = .returned (.bool true) ∧ Below w.heap.size w w' := by
  go_enter Try.func28, Try.ntmps28
  go_wp2_with fail
  refine (new_right 0 none 0 [] false w (nil_row w) fine_nil.cnt fine_nil.right fine_nil.few).mono ?_
  rintro e w1 ⟨g1, rfl, hn1, hb1⟩
  have HN1 := hid hn1
  have HB1 := hid hb1
  clear hn1 hb1
  go_wp2_with fail
  refine (new_right 0 none 0 [] true w1 (nil_row w1) fine_nil.cnt fine_nil.right fine_nil.few).mono ?_
  rintro e w2 ⟨g2, rfl, hn2, hb2⟩
  have HN2 := hid hn2
  have HN12 := hid (HN1.out.below hb2)
  have HB2 := hid (ends_true HB1.out hb2)
  clear hn2 hb2
  go_wp2_with fail
  refine (dnew_done HN12.out fine_nil.good done_false (by decide)).mono ?_
  rintro e w3 ⟨v3, rfl, hv3, hb3⟩
  have hl := outB_len false (builtB ([] : List (Tr 0))) 2
  have HR3 := hid (awake_run (ts := (outB false (builtB ([] : List (Tr 0))) 2).2.2) hl.2)
  have HV3 := hid (show IsD w3 (fun b => w2.heap.size ≤ b) v3 ⟨[List.replicate 37 1, List.replicate 37 1], (outB false (builtB ([] : List (Tr 0))) 2).2.2⟩ from by rw [← out_false.2.2]; exact hv3)
  have HB3 := hid (ends_true HB2.out hb3)
  have HN3 := hid (HN2.out.below hb3)
  clear hl hv3 hb3
  obtain ⟨NA, nc, TA, tc, ev⟩ : ∃ NA nc TA tc, v3 = .agg #[.slice NA 2 nc, .slice TA 2 tc] := by
    obtain ⟨nv, tv, e1, e2, e3⟩ := HV3.out
    obtain ⟨NA, nc, e4⟩ := e2.form
    obtain ⟨TA, tc, e5⟩ := e3.form
    rw [(outB_len false (builtB ([] : List (Tr 0))) 2).2] at e5
    exact ⟨NA, nc, TA, tc, by rw [e1, e4, e5]; rfl⟩
  subst ev
  obtain ⟨W, hW⟩ : ∃ W, W = w3.alloc (.cells #[.slice NA 2 nc, .slice TA 2 tc] 59) := ⟨_, rfl⟩
  have HW := hid (show W.heap[w3.heap.size]? = some (.cells #[.slice NA 2 nc, .slice TA 2 tc] 59 (0, 0)) by rw [hW]; exact heap_alloc_new _ _)
  have HWB := hid (show Below w3.heap.size w3 W by rw [hW]; exact (Below.refl _ _).alloc (Nat.le_refl _) _)
  go_wp2_with fail
  rw [← hW]
  obtain ⟨q, hq⟩ : ∃ q, q = w3.heap.size := ⟨_, rfl⟩
  rw [← hq] at HW ⊢
  have hqW := hid (show q < W.heap.size by rw [hW, hq]; simp)
  clear hW hq
  refine (dnew_done (HN3.out.below HWB.out) fine_nil.good done_true (by decide)).mono ?_
  rintro e w4 ⟨v4, rfl, hv4, hb4⟩
  obtain ⟨NB, nd, TB, td, ev⟩ : ∃ NB nd TB td, v4 = .agg #[.slice NB 1 nd, .slice TB 1 td] := by
    obtain ⟨nv, tv, e1, e2, e3⟩ := hv4
    obtain ⟨NA, nc, e4⟩ := e2.form
    obtain ⟨TA, tc, e5⟩ := e3.form
    rw [(outB_len true (builtB ([] : List (Tr 0))) 1).2] at e5
    rw [(outB_len true (builtB ([] : List (Tr 0))) 1).1] at e4
    exact ⟨NA, nc, TA, tc, by rw [e1, e4, e5]⟩
  subst ev
  obtain ⟨X, hX⟩ : ∃ X, X = w4.alloc (.cells #[.slice NB 1 nd, .slice TB 1 td] 59) := ⟨_, rfl⟩
  have HXB := hid (show Below w4.heap.size w4 X by rw [hX]; exact (Below.refl _ _).alloc (Nat.le_refl _) _)
  have HX4 := hid (show Below W.heap.size W X from hb4.trans (HXB.out.mono hb4.size))
  have HVX := hid ((HV3.out.below HWB.out).below HX4.out)
  have HBX := hid (ends_true HB3.out (HWB.out.trans (HX4.out.mono HWB.out.size)))
  obtain ⟨y0, y1, -⟩ := slot2 ((HX4.out.block _ hqW.out).trans HW.out)
  obtain ⟨z0, z1, -⟩ := slot2 (show X.heap[w4.heap.size]? = some (.cells #[.slice NB 1 nd, .slice TB 1 td] 59 (0, 0)) by rw [hX]; exact heap_alloc_new _ _)
  rw [hX] at y0 y1 z0 z1
  clear hv4 hb4
  go_wp2_with fail
  rw [← hX]
  have hsz : w4.heap.size + 1 = X.heap.size := by rw [hX]; simp
  obtain ⟨Y, hY⟩ : ∃ Y, Y = X.alloc (.cells #[.int .i64 36, .int .i64 5] 3) := ⟨_, rfl⟩
  have HYB := hid (show Below X.heap.size X Y by rw [hY]; exact (Below.refl _ _).alloc (Nat.le_refl _) _)
  have HYN := hid (show IsNums .i64 Y (fun b => b = w4.heap.size + 1) (.slice (some ⟨w4.heap.size + 1, 0, none⟩) 2 2) [36, 5] from IntBlk.nums (l := [36, 5]) (by show Y.heap[w4.heap.size + 1]? = _; rw [hY, hsz]; exact heap_alloc_new _ _) (by decide))
  rw [← hY]
  clear hX hY hsz y0 y1 z0 z1
  have hl := (outB_len false (builtB ([] : List (Tr 0))) 2).2
  have hv := HVX.out.below HYB.out
  obtain ⟨ts, hts⟩ : ∃ ts, ts = (outB false (builtB ([] : List (Tr 0))) 2).2.2 := ⟨_, rfl⟩
  rw [← hts] at hl hv HR3
  have hr := run_any (fun b => w2.heap.size ≤ b) (fun b => b = w4.heap.size + 1) NA TA nc tc (.slice (some ⟨w4.heap.size + 1, 0, none⟩) 2 2) ⟨[List.replicate 37 1, List.replicate 37 1], ts⟩ 0 [36, 5] Y
  rw [show (D.mk [List.replicate 37 1, List.replicate 37 1] ts).tells.length = 2 from hl] at hr
  refine (hr hv HYN.out).mono ?_
  clear hr hv hl hts
  rintro e w5 ⟨rfl, hb5⟩
  rw [HR3.out]
  have HB5 := hid (ends_true HBX.out (HYB.out.trans (hb5.mono HYB.out.size)))
  clear hb5
  go_wp2_with fail
  go_ret
  exact ⟨rfl, HB5.out⟩
end Go.Proofs.Ythdhbkngbmjjkaa
