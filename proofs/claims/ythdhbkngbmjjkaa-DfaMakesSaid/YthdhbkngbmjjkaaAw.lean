/- The law's awake: the document's example. No conditions. -/
import Derived.Test.YthdhbkngbmjjkaaSt
import Derived.Test.YthdhbkngbmjjkaaTt
import Derived.Test.YthdhbkngbmjjkaaNa
namespace Go.Proofs.Ythdhbkngbmjjkaa
open Go.RowKit
set_option linter.unusedSimpArgs false
def exT : Tr 3 := ((4, 0, [((0, 11, []) : Int × Int × List (Tr 1)), ((6, 0, [((0, 12, []) : Int × Int × List (Tr 0))]) : Int × Int × List (Tr 1))]) : Int × Int × List (Tr 2))
theorem ex_right : rightT 3 exT = true := by decide +kernel
theorem ex_leaves : sumL (fun t => leavesT 3 t) [exT] = 2 := by decide +kernel
theorem ex_lfs : (builtB [exT]).lfs.length = 2 := by decide +kernel
theorem ex_step1 : stepB true (builtB [exT]) 11 [0] = [0, 1] := by
  refine up_ext (setB_lt _) (by decide) fun x => ?_
  show x ∈ setB _ ↔ _
  rw [setB_mem, show rawB true (builtB [exT]) 11 [0] = [0, 1] by decide +kernel]
theorem ex_step2 : stepB true (builtB [exT]) 12 [0, 1] = [0, 2] := by
  refine up_ext (setB_lt _) (by decide) fun x => ?_
  show x ∈ setB _ ↔ _
  rw [setB_mem, show rawB true (builtB [exT]) 12 [0, 1] = [0, 2] by decide +kernel]
theorem ex_tells : tellsB (builtB [exT]) [0, 2] = 1 := by decide +kernel
theorem ex_row (w W : World) (hW : W = (((w.alloc (.cells #[.int .i64 0, .int .i64 12, .slice none 0 0] 52)).alloc (.cells #[.int .i64 0, .int .i64 11, .slice none 0 0, .int .i64 6, .int .i64 0, .slice (some ⟨w.heap.size, 0, none⟩) 1 1] 52)).alloc (.cells #[.int .i64 4, .int .i64 0, .slice (some ⟨w.heap.size + 1, 0, none⟩) 2 2] 52)).alloc (.cells #[.int .i64 4, .int .i64 0, .slice (some ⟨w.heap.size + 1, 0, none⟩) 2 2] 52)) :
    Row3 (IsTr W (fun b => b < W.heap.size) 3) W (fun b => b < W.heap.size) (some ⟨w.heap.size + 1 + 1 + 1, 0, none⟩) [exT] ∧ Below w.heap.size w W := by
  have hs : W.heap.size = w.heap.size + 4 := by rw [hW]; simp
  have h1 : W.heap[w.heap.size]? = some (.cells #[.int .i64 0, .int .i64 12, .slice none 0 0] 52 (0, 0)) := by
    rw [hW]
    exact (heap_alloc_old _ _ (by simp; omega)).trans ((heap_alloc_old _ _ (by simp; omega)).trans ((heap_alloc_old _ _ (by simp)).trans (heap_alloc_new _ _)))
  have h2 : W.heap[w.heap.size + 1]? = some (.cells #[.int .i64 0, .int .i64 11, .slice none 0 0, .int .i64 6, .int .i64 0, .slice (some ⟨w.heap.size, 0, none⟩) 1 1] 52 (0, 0)) := by
    rw [hW]
    refine (heap_alloc_old _ _ (by simp <;> omega)).trans ((heap_alloc_old _ _ (by simp <;> omega)).trans ?_)
    simpa using heap_alloc_new (w.alloc (.cells #[.int .i64 0, .int .i64 12, .slice none 0 0] 52)) (.cells #[.int .i64 0, .int .i64 11, .slice none 0 0, .int .i64 6, .int .i64 0, .slice (some ⟨w.heap.size, 0, none⟩) 1 1] 52)
  have h4 : W.heap[w.heap.size + 1 + 1 + 1]? = some (.cells #[.int .i64 4, .int .i64 0, .slice (some ⟨w.heap.size + 1, 0, none⟩) 2 2] 52 (0, 0)) := by
    rw [hW]
    have := heap_alloc_new (((w.alloc (.cells #[.int .i64 0, .int .i64 12, .slice none 0 0] 52)).alloc (.cells #[.int .i64 0, .int .i64 11, .slice none 0 0, .int .i64 6, .int .i64 0, .slice (some ⟨w.heap.size, 0, none⟩) 1 1] 52)).alloc (.cells #[.int .i64 4, .int .i64 0, .slice (some ⟨w.heap.size + 1, 0, none⟩) 2 2] 52)) (.cells #[.int .i64 4, .int .i64 0, .slice (some ⟨w.heap.size + 1, 0, none⟩) 2 2] 52)
    simpa using this
  have hcell : ∀ (b j : Nat) (cs : Array Value), W.heap[b]? = some (.cells cs 52 (0, 0)) → W.cell? ⟨b, j, none⟩ = cs[j]? := fun b j cs h => cell_of_row _ _ j _ _ _ h
  refine ⟨?_, ?_⟩
  · intro k t hk
    match k, hk with
    | 0, hk =>
      obtain rfl : exT = t := by simpa using hk
      refine ⟨_, _, _, _, _, rfl, by omega, by omega, (hcell _ _ _ h4).trans rfl, (hcell _ _ _ h4).trans rfl, (hcell _ _ _ h4).trans rfl, ⟨_, _, rfl, by decide, by decide, ?_⟩⟩
      intro k t hk
      match k, hk with
      | 0, hk =>
        injection hk with hk
        subst hk
        exact ⟨_, _, _, _, _, rfl, by omega, by omega, (hcell _ _ _ h2).trans rfl, (hcell _ _ _ h2).trans rfl, (hcell _ _ _ h2).trans rfl, ⟨_, _, rfl, by decide, by decide, fun k t hk => by simp [Tr.kids] at hk⟩⟩
      | 1, hk =>
        injection hk with hk
        subst hk
        refine ⟨_, _, _, _, _, rfl, by omega, by omega, (hcell _ _ _ h2).trans rfl, (hcell _ _ _ h2).trans rfl, (hcell _ _ _ h2).trans rfl, ⟨_, _, rfl, by decide, by decide, ?_⟩⟩
        intro k t hk
        match k, hk with
        | 0, hk =>
          injection hk with hk
          subst hk
          exact ⟨_, _, _, _, _, rfl, by omega, by omega, (hcell _ _ _ h1).trans rfl, (hcell _ _ _ h1).trans rfl, (hcell _ _ _ h1).trans rfl, ⟨_, _, rfl, by decide, by decide, fun k t hk => by simp [Tr.kids] at hk⟩⟩
        | k + 1, hk => cases hk
      | k + 2, hk => cases hk
    | k + 1, hk => simp at hk
  · rw [hW]
    exact ((((Below.refl _ _).alloc (Nat.le_refl _) _).alloc (by simp <;> omega) _).alloc (by simp <;> omega) _).alloc (by simp <;> omega) _
set_option maxRecDepth 100000 in
set_option maxHeartbeats 4000000 in
theorem awake_any (w : World) : Calls Try.prog 14 #[] w fun e w' => e = .returned (.bool true) ∧ Below w.heap.size w w' := by
  obtain ⟨W, hW⟩ : ∃ W, W = (((w.alloc (.cells #[.int .i64 0, .int .i64 12, .slice none 0 0] 52)).alloc (.cells #[.int .i64 0, .int .i64 11, .slice none 0 0, .int .i64 6, .int .i64 0, .slice (some ⟨w.heap.size, 0, none⟩) 1 1] 52)).alloc (.cells #[.int .i64 4, .int .i64 0, .slice (some ⟨w.heap.size + 1, 0, none⟩) 2 2] 52)).alloc (.cells #[.int .i64 4, .int .i64 0, .slice (some ⟨w.heap.size + 1, 0, none⟩) 2 2] 52) := ⟨_, rfl⟩
  obtain ⟨hrow, hbw⟩ := ex_row w W hW
  have HROW := hid hrow
  have HBW := hid hbw
  clear hrow hbw
  go_enter Try.func14, Try.ntmps14
  go_wp2_with fail
  rw [← hW]
  clear hW
  refine new_any 3 _ 1 [exT] true W HROW.out (by decide) (by intro t ht; rw [List.mem_singleton.1 ht]; exact ex_right) _ (fun h => by rw [ex_leaves] at h; omega) (fun _ w1 g b1 b2 H hn hk _ _ _ _ _ hb => ?_)
  obtain ⟨s, hs⟩ : ∃ s, s = builtB [exT] := ⟨_, rfl⟩
  have HS := hid hs
  have HNF := hid (show IsNfa w1 g true s from ⟨_, _, _, _, hs ▸ hn, hs ▸ hk⟩)
  have HB1 := hid (HBW.out.trans (hb.mono HBW.out.size))
  obtain ⟨e1, e2, e3, e4, e5⟩ := buildL_keeps [exT] 0 1 startB startB_ok.1 startB_ok.2.1 startB_ok.2.2 (by simp [startB]) (by decide) (by intro t ht; rw [List.mem_singleton.1 ht]; exact ex_right)
  have HOK := hid (show s.ok ∧ s.fin64 by rw [hs]; exact ⟨e1, e2⟩)
  have HL := hid (show s.lfs.length = 2 by rw [hs]; exact ex_lfs)
  have HNX := hid (show ∀ z, (nextOf s z).length ≤ 1000000 from fun z => by have h1 := next_len (s := s) HOK.out.1 (by rw [hs]; exact built_tot _) (by rw [hs]; exact e4) z; rw [HL.out] at h1; omega)
  have i64s : ∀ z : Int, 0 ≤ z ∧ z ≤ 1000 → i64ok z := fun z hz => by unfold i64ok; simp [Lit.wf, IntKind.min, IntKind.max, IntKind.bits, IntKind.signed]; omega
  clear hn hk hb hs e1 e2 e3 e4 e5
  go_wp2_with fail
  refine (begin_any g w1).mono ?_
  rintro e w2 ⟨v2, rfl, hv2, hb2⟩
  have HV2 := hid hv2
  have HNF2 := hid (HNF.out.below hb2)
  have HB2 := hid (HB1.out.trans (hb2.mono HB1.out.size))
  clear hv2 hb2
  go_wp2_with fail
  refine (step_any g true s _ v2 [0] 11 w2 HNF2.out HOK.out.1 HNX.out HV2.out (by intro z hz; rw [List.mem_singleton.1 hz]; exact i64s 0 (by omega)) (by decide) (by rw [HL.out]; decide)).mono ?_
  rintro e w3 ⟨v3, rfl, hv3, hb3⟩
  rw [show stepB true s 11 [0] = [0, 1] by rw [HS.out]; exact ex_step1] at hv3
  have HV3 := hid hv3
  have HNF3 := hid (HNF2.out.below hb3)
  have HB3 := hid (HB2.out.trans (hb3.mono HB2.out.size))
  clear hv3 hb3
  go_wp2_with fail
  refine (step_any g true s _ v3 [0, 1] 12 w3 HNF3.out HOK.out.1 HNX.out HV3.out (by intro z hz; simp at hz; exact i64s z (by omega)) (by decide) (by rw [HL.out]; decide)).mono ?_
  rintro e w4 ⟨v4, rfl, hv4, hb4⟩
  rw [show stepB true s 12 [0, 1] = [0, 2] by rw [HS.out]; exact ex_step2] at hv4
  have HV4 := hid hv4
  have HNF4 := hid (HNF3.out.below hb4)
  have HB4 := hid (HB3.out.trans (hb4.mono HB3.out.size))
  clear hv4 hb4
  go_wp2_with fail
  refine (count_any g true s w4 HNF4.out (by rw [HL.out]; decide)).mono ?_
  rintro e w5 ⟨rfl, rfl⟩
  rw [HL.out]
  go_wp2_with fail
  obtain ⟨X, hX⟩ : ∃ X, X = w5.alloc (.cells #[.int .i64 0, .int .i64 2] 3) := ⟨_, rfl⟩
  have HXB := hid (show Below w5.heap.size w5 X by rw [hX]; exact (Below.refl _ _).alloc (Nat.le_refl _) _)
  have HVX := hid (show IsNums .i64 X (fun _ => True) (.slice (some ⟨w5.heap.size, 0, none⟩) 2 2) [0, 2] by rw [hX]; exact nums_new w5 [0, 2] (fun _ => True) trivial (by decide))
  rw [← hX]
  clear hX
  refine (is_any _ _ v4 _ [0, 2] [0, 2] X (HV4.out.below HXB.out) HVX.out).mono ?_
  rintro e w6 ⟨rfl, hb6⟩
  rw [show decide (([0, 2] : List Int) = [0, 2]) = true by decide]
  have HB6 := hid (HXB.out.trans (hb6.mono HXB.out.size))
  have HNF6 := hid (HNF4.out.below HB6.out)
  have HV6 := hid (HV4.out.below HB6.out)
  have HBB := hid (HB4.out.trans (HB6.out.mono HB4.out.size))
  clear hb6
  go_wp2_with fail
  refine (tells_any g true s _ v4 [0, 2] w6 HNF6.out HOK.out.2 HV6.out (by intro z hz; simp at hz; exact i64s z (by omega))).mono ?_
  rintro e w7 ⟨rfl, n, rfl⟩
  rw [show tellsB s [0, 2] = 1 by rw [HS.out]; exact ex_tells]
  go_wp2_with fail
  go_ret
  exact ⟨rfl, HBB.out.trans ⟨rfl, rfl, rfl, Nat.le_refl _, fun _ _ => rfl⟩⟩
end Go.Proofs.Ythdhbkngbmjjkaa
