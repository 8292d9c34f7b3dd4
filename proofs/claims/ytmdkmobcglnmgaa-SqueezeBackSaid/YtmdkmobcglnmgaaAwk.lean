/- The document's example is right: the walk of awake. Conditions: none. -/
import Derived.Test.YtmdkmobcglnmgaaAw
namespace Go.Proofs.Ytmdkmobcglnmgaa
open Go.RowKit

theorem blk_rows {w : World} {S : Nat → Prop} {p t : Nat} {c : Nat} {r : List Int} {A : Option Addr} (hp : w.heap[p]? = some (.cells #[.slice A r.length c] t (0, 0))) (hS : S p) (hr : IsNums .i64 w S (.slice A r.length c) r) :
    IsRows w S (.slice (some ⟨p, 0, none⟩) 1 1) [r] := by
  refine ⟨_, 1, [.slice A r.length c], rfl, Nat.le_refl _, by simp [maxLen], fun _ => ⟨p, 0, rfl, hS, ?_⟩, rfl, ?_⟩
  · intro k v hk
    rw [cell_of_row _ _ _ _ _ _ hp]
    simpa using hk
  · intro k d' hk
    have : k = 0 := by
      have := (List.getElem?_eq_some_iff.1 hk).1
      simp at this; exact this
    subst this
    simp at hk
    subst hk
    exact ⟨_, rfl, hr⟩
theorem blk_nums {k : IntKind} {w : World} {S : Nat → Prop} {p t : Nat} {zs : List Int} (hp : w.heap[p]? = some (.cells ((zs.map (Value.int k)).toArray) t (0, 0))) (hS : S p) (hl : zs.length ≤ 1000000) :
    IsNums k w S (.slice (some ⟨p, 0, none⟩) zs.length zs.length) zs := by
  refine ⟨_, zs.length, rfl, Nat.le_refl _, by unfold maxLen; omega, fun _ => ⟨p, 0, rfl, hS, ?_⟩⟩
  intro j v hj
  rw [cell_of_row _ _ _ _ _ _ hp]
  simpa using hj
theorem alloc_at {X : World} {O : Obj} {n : Nat} (h : n = X.heap.size) : (X.alloc O).heap[n]? = some O := by subst h; exact heap_alloc_new _ _
theorem set3r {Y W : World} {B B2 p t : Nat} {a b c a0 b0 c0 v : Value} {rs : List (List Int)} (hy : Y.heap[p]? = some (.cells #[a0, b0, c0] t (0, 0))) (hr : IsRows Y (fun b => B2 ≤ b) v rs) (h2 : p < B2)
    (hb : Below B W Y) (hp : B ≤ p) :
    (((Y.setCell ⟨p, 0, none⟩ a).setCell ⟨p, 1, none⟩ b).setCell ⟨p, 2, none⟩ c).heap[p]? = some (.cells #[a, b, c] t (0, 0)) ∧
    IsRows (((Y.setCell ⟨p, 0, none⟩ a).setCell ⟨p, 1, none⟩ b).setCell ⟨p, 2, none⟩ c) (fun _ => True) v rs ∧
    Below B W (((Y.setCell ⟨p, 0, none⟩ a).setCell ⟨p, 1, none⟩ b).setCell ⟨p, 2, none⟩ c) := by
  have e1 := heap_setCell_same Y p 0 _ t a hy
  have e2 := heap_setCell_same _ p 1 _ t b e1
  have e3 := heap_setCell_same _ p 2 _ t c e2
  have hg : Y.grownBy (((Y.setCell ⟨p, 0, none⟩ a).setCell ⟨p, 1, none⟩ b).setCell ⟨p, 2, none⟩ c) (some p) := grown_setCell (grown_setCell (grown_setCell (World.grownBy.refl _ _) _ _) _ _) _ _
  exact ⟨e3, (hr.keep (fun b hb hlt => hg.block b hlt (fun e => by injection e with e; omega))).mono (fun _ _ _ => trivial), ((hb.setCell hp _).setCell hp _).setCell hp _⟩

set_option maxRecDepth 100000 in
set_option maxHeartbeats 4000000 in
theorem awake_any (w : World) : Calls Try.prog 13 #[] w (fun e w' => e = .returned (.bool true) ∧ Below w.heap.size w w') := by
  obtain ⟨Z, hZ⟩ : ∃ Z : Array Value, Z = ((List.replicate 37 (0 : Int)).map (Value.int .i64)).toArray := ⟨_, rfl⟩
  have hmk : ∀ w : World, (Instr.makeSlice 32 (.int .i64 37) (.int .i64 37)).run Try.prog w = .ok (.slice (some ⟨w.heap.size, 0, none⟩) 37 37) (w.alloc (.cells Z 3)) := by
    intro w; rw [hZ]
    exact run_make_ints (P := Try.prog) 32 3 .i64 .i64 .i64 Try.underlying32 info3 37 (by omega) w
  obtain ⟨W, hW0⟩ : ∃ W, W = (((w.alloc (.cells Z 3)).alloc (.cells #[.slice (some ⟨w.heap.size, 0, none⟩) 37 37] 32)).alloc (.cells #[.int .u64 5] 52)).alloc
    (.cells #[.slice (some ⟨w.heap.size + 1, 0, none⟩) 1 1, .slice (some ⟨w.heap.size + 1 + 1, 0, none⟩) 1 1] 30) := ⟨_, rfl⟩
  have hWb : Below w.heap.size w W := by rw [hW0]; exact ((((Below.refl _ _).alloc (Nat.le_refl _) _).alloc (by simp) _).alloc (by simp; omega) _).alloc (by simp; omega) _
  have hWz : W.heap.size = w.heap.size + 4 := by rw [hW0]; simp
  have q3 : W.heap[w.heap.size + 3]? = some (.cells #[.slice (some ⟨w.heap.size + 1, 0, none⟩) 1 1, .slice (some ⟨w.heap.size + 1 + 1, 0, none⟩) 1 1] 30 (0, 0)) := by rw [hW0]; exact alloc_at (by simp)
  have q2 : W.heap[w.heap.size + 1 + 1]? = some (.cells #[.int .u64 5] 52 (0, 0)) := by rw [hW0]; exact (heap_alloc_old _ _ (by simp)).trans (alloc_at (by simp))
  have q1 : W.heap[w.heap.size + 1]? = some (.cells #[.slice (some ⟨w.heap.size, 0, none⟩) 37 37] 32 (0, 0)) := by rw [hW0]; exact (heap_alloc_old _ _ (by simp <;> omega)).trans ((heap_alloc_old _ _ (by simp)).trans (alloc_at (by simp)))
  have q0 : W.heap[w.heap.size]? = some (.cells Z 3 (0, 0)) := by rw [hW0]; exact (heap_alloc_old _ _ (by simp <;> omega)).trans ((heap_alloc_old _ _ (by simp <;> omega)).trans ((heap_alloc_old _ _ (by simp)).trans (alloc_at (by simp))))
  have hn0 : IsNums .i64 W (fun _ => True) (.slice (some ⟨w.heap.size, 0, none⟩) 37 37) (List.replicate 37 0) := blk_nums (zs := List.replicate 37 (0 : Int)) (by rw [← hZ]; exact q0) trivial (by simp)
  have hn : IsRows W (fun _ => True) (.slice (some ⟨w.heap.size + 1, 0, none⟩) 1 1) d0.next := blk_rows (r := List.replicate 37 (0 : Int)) q1 trivial hn0
  have ht : IsNums .u64 W (fun _ => True) (.slice (some ⟨w.heap.size + 1 + 1, 0, none⟩) 1 1) d0.tells := blk_nums (zs := [5]) q2 trivial (by simp)
  have hcells : ∀ w1, Below W.heap.size W w1 → w1.cell? ⟨w.heap.size + 1 + 1 + 1, 0, none⟩ = some (.slice (some ⟨w.heap.size + 1, 0, none⟩) 1 1) ∧ w1.cell? ⟨w.heap.size + 1 + 1 + 1, 1, none⟩ = some (.slice (some ⟨w.heap.size + 1 + 1, 0, none⟩) 1 1) := by
    intro w1 hb
    have h2 := (hb.block (w.heap.size + 3) (by omega)).trans q3
    exact ⟨by rw [cell_of_row _ _ _ _ _ _ h2]; rfl, by rw [cell_of_row _ _ _ _ _ _ h2]; rfl⟩
  have HC := hid hcells
  have HF := hid (show ∀ r ∈ d0.next, fitsB (List.replicate 37 0) r (manyL (List.replicate 37 0)).toNat = true by rw [d0_many]; exact d0_fits)
  have HW := hid hW0
  have HN := hid hn
  have HT := hid ht
  have HZ := hid hWz
  have HB := hid hWb
  clear hcells hn0 hn ht hZ q0 q1 q2 q3 hWz hWb
  go_enter Try.func13, Try.ntmps13
  go_wp2_with fail
  rw [← hW0]
  clear hW0 hmk
  obtain ⟨f1, f2⟩ := HC.out W (Below.refl _ _)
  go_cut [2, 3] from 4 (fun s2 s3 wc => s3 = .int .i64 0 ∧ ∃ p gA gc nA nc tA tc, s2 = .pointer (some ⟨p, 0, none⟩) ∧ W.heap.size ≤ p ∧ wc.heap[p]? = some (.cells #[.slice gA 37 gc, .slice nA 1 nc, .slice tA 1 tc] 40 (0, 0)) ∧
     IsRows wc (fun _ => True) (.slice nA 1 nc) (d0.next.map fun r => narrowL (List.replicate 37 0) r 1) ∧ Below W.heap.size W wc)
  case first =>
    go_region_held3 (fun w' => w'.cell? ⟨w.heap.size + 1 + 1 + 1, 0, none⟩ = some (.slice (some ⟨w.heap.size + 1, 0, none⟩) 1 1) ∧ w'.cell? ⟨w.heap.size + 1 + 1 + 1, 1, none⟩ = some (.slice (some ⟨w.heap.size + 1 + 1, 0, none⟩) 1 1))
      (first | go_keep | exact HC.out _ hB1 | exact HC.out _ (hB1.alloc hB1.size _) | exact HC.out _ hB2 | exact HC.out _ (hB2.alloc hB2.size _) | exact HC.out _ (((hB2.setCell hpW _).setCell hpW _).setCell hpW _))
      (first
      | (go_at_call 16; refine (groups_one (fun _ => True) _ 30 _ _ d0 _ (by first | exact heap_alloc_new _ _ | exact heap_alloc2_new _ _ _ | exact heap_alloc2_old _ _ _) trivial (HN.out.below (by (first | exact Below.refl _ _ | exact (Below.refl _ _).alloc (Nat.le_refl _) _ | exact ((Below.refl _ _).alloc (Nat.le_refl _) _).drew | exact ((Below.refl _ _).alloc (Nat.le_refl _) _).alloc (by simp) _ | exact (((Below.refl _ _).alloc (Nat.le_refl _) _).alloc (by simp) _).drew | exact (((Below.refl _ _).alloc (Nat.le_refl _) _).drew).alloc (by simp) _))) (HT.out.below (by (first | exact Below.refl _ _ | exact (Below.refl _ _).alloc (Nat.le_refl _) _ | exact ((Below.refl _ _).alloc (Nat.le_refl _) _).drew | exact ((Below.refl _ _).alloc (Nat.le_refl _) _).alloc (by simp) _ | exact (((Below.refl _ _).alloc (Nat.le_refl _) _).alloc (by simp) _).drew | exact (((Below.refl _ _).alloc (Nat.le_refl _) _).drew).alloc (by simp) _)))).mono ?_; rintro e w1 ⟨A, c, rfl, hown1, hb1⟩; rw [d0_groups] at hown1; have hB1 : Below W.heap.size W w1 := (by (first | exact Below.refl _ _ | exact (Below.refl _ _).alloc (Nat.le_refl _) _ | exact ((Below.refl _ _).alloc (Nat.le_refl _) _).drew | exact ((Below.refl _ _).alloc (Nat.le_refl _) _).alloc (by simp) _ | exact (((Below.refl _ _).alloc (Nat.le_refl _) _).alloc (by simp) _).drew | exact (((Below.refl _ _).alloc (Nat.le_refl _) _).drew).alloc (by simp) _) : Below W.heap.size W _).trans (hb1.mono (by simp; try omega)); obtain ⟨f3, f4⟩ := HC.out w1 hB1)
      | (go_at_call 21; refine (make_ok _ (fun _ => True) _ _ (List.replicate 37 0) d0 _ ((own_nums hown1).below (by first | exact Below.refl _ _ | exact (Below.refl _ _).alloc (Nat.le_refl _) _ | exact ((Below.refl _ _).alloc (Nat.le_refl _) _).drew)) ⟨_, _, rfl, (HN.out.below hB1).below (by first | exact Below.refl _ _ | exact (Below.refl _ _).alloc (Nat.le_refl _) _ | exact ((Below.refl _ _).alloc (Nat.le_refl _) _).drew), (HT.out.below hB1).below (by first | exact Below.refl _ _ | exact (Below.refl _ _).alloc (Nat.le_refl _) _ | exact ((Below.refl _ _).alloc (Nat.le_refl _) _).drew)⟩ (by rw [d0_many]; decide) d0_right HF.out).mono ?_; rintro e w2 ⟨gA, gc, nA, nc, tA, tc, us, rfl, hown2, hrw1, hrw2, hown3, hb2⟩; have hrow2 := made_rows hrw1 hrw2; have hB2 : Below W.heap.size W w2 := hB1.trans (((by first | exact Below.refl _ _ | exact (Below.refl _ _).alloc (Nat.le_refl _) _ | exact ((Below.refl _ _).alloc (Nat.le_refl _) _).drew) : Below w1.heap.size w1 _).trans (hb2.mono (by simp; try omega)) |>.mono hB1.size); have y2 : w2.heap[W.heap.size]? = some (.cells #[.slice none 0 0, .slice none 0 0, .slice none 0 0] 40 (0, 0)) := (hb2.block _ (by first | exact Nat.lt_of_lt_of_le (by simp <;> omega) hb1.size | (have := hb1.size; simp at this ⊢; omega))).trans ((hb1.block _ (by simp <;> omega)).trans ((heap_alloc_old _ _ (by simp)).trans (heap_alloc_new _ _))); have hpW : W.heap.size ≤ W.heap.size := Nat.le_refl _; obtain ⟨z1, z2, z3, z4, z5, z6⟩ := slot3 y2)
      | (go_at_call 21; refine (make_ok _ (fun _ => True) _ _ (List.replicate 37 0) d0 _ ((own_nums hown1).below (by first | exact Below.refl _ _ | exact (Below.refl _ _).alloc (Nat.le_refl _) _ | exact ((Below.refl _ _).alloc (Nat.le_refl _) _).drew)) ⟨_, _, rfl, (HN.out.below hB1).below (by first | exact Below.refl _ _ | exact (Below.refl _ _).alloc (Nat.le_refl _) _ | exact ((Below.refl _ _).alloc (Nat.le_refl _) _).drew), (HT.out.below hB1).below (by first | exact Below.refl _ _ | exact (Below.refl _ _).alloc (Nat.le_refl _) _ | exact ((Below.refl _ _).alloc (Nat.le_refl _) _).drew)⟩ (by rw [d0_many]; decide) d0_right HF.out).mono ?_; rintro e w2 ⟨gA, gc, nA, nc, tA, tc, us, rfl, hown2, hrw1, hrw2, hown3, hb2⟩; have hrow2 := made_rows hrw1 hrw2; have hB2 : Below W.heap.size W w2 := hB1.trans (((by first | exact Below.refl _ _ | exact (Below.refl _ _).alloc (Nat.le_refl _) _ | exact ((Below.refl _ _).alloc (Nat.le_refl _) _).drew) : Below w1.heap.size w1 _).trans (hb2.mono (by simp; try omega)) |>.mono hB1.size); have y2 : w2.heap[W.heap.size + 1]? = some (.cells #[.slice none 0 0, .slice none 0 0, .slice none 0 0] 40 (0, 0)) := (hb2.block _ (by first | exact Nat.lt_of_lt_of_le (by simp <;> omega) hb1.size | (have := hb1.size; simp at this ⊢; omega))).trans ((hb1.block _ (by simp <;> omega)).trans (alloc_at (by simp))); have hpW : W.heap.size ≤ W.heap.size + 1 := Nat.le_succ _; obtain ⟨z1, z2, z3, z4, z5, z6⟩ := slot3 y2)
      | (go_at_call 21; refine (make_ok _ (fun _ => True) _ _ (List.replicate 37 0) d0 _ ((own_nums hown1).below (by first | exact Below.refl _ _ | exact (Below.refl _ _).alloc (Nat.le_refl _) _ | exact ((Below.refl _ _).alloc (Nat.le_refl _) _).drew)) ⟨_, _, rfl, (HN.out.below hB1).below (by first | exact Below.refl _ _ | exact (Below.refl _ _).alloc (Nat.le_refl _) _ | exact ((Below.refl _ _).alloc (Nat.le_refl _) _).drew), (HT.out.below hB1).below (by first | exact Below.refl _ _ | exact (Below.refl _ _).alloc (Nat.le_refl _) _ | exact ((Below.refl _ _).alloc (Nat.le_refl _) _).drew)⟩ (by rw [d0_many]; decide) d0_right HF.out).mono ?_; rintro e w2 ⟨gA, gc, nA, nc, tA, tc, us, rfl, hown2, hrw1, hrw2, hown3, hb2⟩; have hrow2 := made_rows hrw1 hrw2; have hB2 : Below W.heap.size W w2 := hB1.trans (((by first | exact Below.refl _ _ | exact (Below.refl _ _).alloc (Nat.le_refl _) _ | exact ((Below.refl _ _).alloc (Nat.le_refl _) _).drew) : Below w1.heap.size w1 _).trans (hb2.mono (by simp; try omega)) |>.mono hB1.size); have y2 : w2.heap[w1.heap.size]? = some (.cells #[.slice none 0 0, .slice none 0 0, .slice none 0 0] 40 (0, 0)) := (hb2.block _ (by simp)).trans (heap_alloc_new _ _); have hpW := hB1.size; obtain ⟨z1, z2, z3, z4, z5, z6⟩ := slot3 y2)
      | (go_at_call 21; refine (make_ok _ (fun _ => True) _ _ (List.replicate 37 0) d0 _ ((own_nums hown1).below (by first | exact Below.refl _ _ | exact (Below.refl _ _).alloc (Nat.le_refl _) _ | exact ((Below.refl _ _).alloc (Nat.le_refl _) _).drew)) ⟨_, _, rfl, (HN.out.below hB1).below (by first | exact Below.refl _ _ | exact (Below.refl _ _).alloc (Nat.le_refl _) _ | exact ((Below.refl _ _).alloc (Nat.le_refl _) _).drew), (HT.out.below hB1).below (by first | exact Below.refl _ _ | exact (Below.refl _ _).alloc (Nat.le_refl _) _ | exact ((Below.refl _ _).alloc (Nat.le_refl _) _).drew)⟩ (by rw [d0_many]; decide) d0_right HF.out).mono ?_; rintro e w2 ⟨gA, gc, nA, nc, tA, tc, us, rfl, hown2, hrw1, hrw2, hown3, hb2⟩; have hrow2 := made_rows hrw1 hrw2; have hB2 : Below W.heap.size W w2 := hB1.trans (((by first | exact Below.refl _ _ | exact (Below.refl _ _).alloc (Nat.le_refl _) _ | exact ((Below.refl _ _).alloc (Nat.le_refl _) _).drew) : Below w1.heap.size w1 _).trans (hb2.mono (by simp; try omega)) |>.mono hB1.size)))
    · go_wp2_with fail
      go_meet
      exact ⟨rfl, _, gA, gc, nA, nc, tA, tc, rfl, hB2.size, heap_alloc_new _ _, (hrow2.below ((Below.refl _ _).alloc (Nat.le_refl _) _)).mono (fun _ _ _ => trivial), hB2.alloc hB2.size _⟩
    · have kk := set3r (a := .slice gA 37 gc) (b := .slice nA 1 nc) (c := .slice tA 1 tc) y2 hrow2 (by simp) hB2 hpW
      go_wp2_with fail
      go_meet
      exact ⟨rfl, _, gA, gc, nA, nc, tA, tc, rfl, hpW, kk.1, kk.2.1, kk.2.2⟩
    · have kk := set3r (a := .slice gA 37 gc) (b := .slice nA 1 nc) (c := .slice tA 1 tc) y2 hrow2 (by have := hb1.size; simp at this; omega) hB2 hpW
      go_wp2_with fail
      go_meet
      exact ⟨rfl, _, gA, gc, nA, nc, tA, tc, rfl, hpW, kk.1, kk.2.1, kk.2.2⟩
    · have kk := set3r (a := .slice gA 37 gc) (b := .slice nA 1 nc) (c := .slice tA 1 tc) y2 hrow2 (by have := hb1.size; simp at this; omega) hB2 hpW
      go_wp2_with fail
      go_meet
      exact ⟨rfl, _, gA, gc, nA, nc, tA, tc, rfl, hpW, kk.1, kk.2.1, kk.2.2⟩
  case rest =>
    obtain ⟨rfl, p, gA, gc, nA, nc, tA, tc, rfl, hp, hy, hrw, hbc⟩ := hcut
    obtain ⟨g1, g2⟩ := HC.out wc hbc
    obtain ⟨z1, z2, z3, z4, z5, z6⟩ := slot3 hy
    have hpl : p < wc.heap.size := (Array.getElem?_eq_some_iff.1 hy).1
    have hyk : ∀ w5, Below wc.heap.size wc w5 → w5.cell? ⟨p, 1, none⟩ = some (.slice nA 1 nc) := fun w5 h5 => (h5.cell (p := ⟨p, 1, none⟩) hpl).trans z2
    have hrk : ∃ b o A c, nA = some ⟨b, o, none⟩ ∧ ∀ w5, Below wc.heap.size wc w5 → w5.cell? ⟨b, o, none⟩ = some (.slice A 1 c) := by
      obtain ⟨A, c, us, e0, hnl, hNA, hNR⟩ := hrw.open
      obtain ⟨e1, _, e2⟩ : nA = A ∧ 1 = d0.next.length ∧ nc = c := by simpa using e0
      subst e1 e2
      obtain ⟨b1, o1, A1, c1, rfl, _, hb1, hc1, _⟩ := hNR.at hNA (k := 0) (by simp [d0])
      have hl : (row (d0.next.map fun r => narrowL (List.replicate 37 0) r 1) 0).length = 1 := by simp [row, d0, narrowL_len]
      rw [hl] at hc1
      exact ⟨b1, o1, A1, c1, rfl, fun w5 h5 => (h5.cell (p := ⟨b1, o1, none⟩) hb1).trans hc1⟩
    obtain ⟨b, o, A, c, rfl, hrk⟩ := hrk
    have HYK := hid hyk
    have HRK := hid hrk
    clear hyk hrk hrw hy z1 z2 z3 z4 z5 z6
    go_wp2_with (first
      | (go_at_call 16; refine (groups_one (fun _ => True) _ 30 _ _ d0 _ (heap_alloc_new _ _) trivial ((HN.out.below hbc).below ((Below.refl _ _).alloc (Nat.le_refl _) _)) ((HT.out.below hbc).below ((Below.refl _ _).alloc (Nat.le_refl _) _))).mono ?_; rintro e w1 ⟨A5, c5, rfl, hown1, hb1⟩; rw [d0_groups] at hown1; have hB1 : Below wc.heap.size wc w1 := ((Below.refl _ _).alloc (Nat.le_refl _) _).trans (hb1.mono (by simp)))
      | (go_at_call 19; refine (many_any _ _ _ _ (own_nums hown1)).mono ?_; rintro e w2 ⟨rfl, hb2⟩; rw [d0_many]; have hB2 : Below wc.heap.size wc w2 := hB1.trans (hb2.mono hB1.size); have y1 := HYK.out _ hB2; have y2 := HRK.out _ hB2))
    have hbel := HB.out.trans ((hbc.trans (hB2.mono hbc.size)).mono HB.out.size)
    go_ret
    exact ⟨rfl, hbel⟩
end Go.Proofs.Ytmdkmobcglnmgaa
