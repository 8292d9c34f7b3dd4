/- Wide and Right: what they return. Conditions: a table that is not too long. -/
import Derived.Test.YtmdkmobcglnmgaaWd
namespace Go.Proofs.Ytmdkmobcglnmgaa
open Go.RowKit

set_option maxRecDepth 100000 in
set_option maxHeartbeats 1000000 in
theorem nright_any (S : Nat → Prop) (gA nA tA : Option Addr) (gc nc tc : Nat) (gs : List Int) (d : D) (w : World) (hg : IsNums .i64 w S (.slice gA gs.length gc) gs) (hd : IsD w S (.agg #[.slice nA d.next.length nc, .slice tA d.tells.length tc]) d) (hn1000 : d.next.length ≤ 1000) (ht1000 : d.tells.length ≤ 1000) :
    Calls Try.prog 29 #[.agg #[.slice gA gs.length gc, .slice nA d.next.length nc, .slice tA d.tells.length tc]] w fun e w' => e = .returned (.bool (rightB (widD gs d))) ∧ Below w.heap.size w w' := by
  obtain ⟨W, hW0⟩ : ∃ W, W = w.alloc (Obj.cells #[.slice gA gs.length gc, .slice nA d.next.length nc, .slice tA d.tells.length tc] 40) := ⟨_, rfl⟩
  have hWb : Below w.heap.size w W := by rw [hW0]; exact (Below.refl _ _).alloc (Nat.le_refl _) _
  obtain ⟨x1, x2, x3, _, _, _⟩ := slot3 (show W.heap[w.heap.size]? = some (.cells #[.slice gA gs.length gc, .slice nA d.next.length nc, .slice tA d.tells.length tc] 40 (0, 0)) by rw [hW0]; exact heap_alloc_new _ _)
  have HG := hid (hg.below hWb)
  have HD := hid (hd.below hWb)
  clear hg hd
  go_enter Try.func29, Try.ntmps29
  go_wp2_with fail
  rw [← hW0]
  clear hW0
  go_wp2_with (first
    | (go_at_call 55; refine (wide_any S _ _ _ gs d _ HG.out HD.out hn1000 ht1000).mono ?_; rintro e w1 ⟨A1, c1, A2, c2, rfl, hd1, hb1⟩)
    | (go_at_call 26; refine (right_any _ _ _ _ hd1).mono ?_; rintro e w2 ⟨rfl, hb2⟩))
  have hbel := hWb.trans ((hb1.trans (hb2.mono hb1.size)).mono hWb.size)
  go_ret
  exact ⟨rfl, hbel⟩

/-- What Wide answers. -/
def WideAns (w : World) (gs : List Int) (d : D) (e : Ending) (w' : World) : Prop :=
  ∃ x : D, ∃ NA nc TA tc, x = (if rightB (widD gs d) = true then widD gs d else ⟨[], []⟩) ∧ e = .returned (.tuple #[.agg #[.slice NA x.next.length nc, .slice TA x.tells.length tc], .bool (rightB (widD gs d))]) ∧
    IsD w' (fun b => w.heap.size ≤ b) (.agg #[.slice NA x.next.length nc, .slice TA x.tells.length tc]) x ∧ Below w.heap.size w w'

set_option maxRecDepth 100000 in
set_option maxHeartbeats 1000000 in
theorem nwide_any (S : Nat → Prop) (gA nA tA : Option Addr) (gc nc tc : Nat) (gs : List Int) (d : D) (w : World) (hg : IsNums .i64 w S (.slice gA gs.length gc) gs) (hd : IsD w S (.agg #[.slice nA d.next.length nc, .slice tA d.tells.length tc]) d) (hn1000 : d.next.length ≤ 1000) (ht1000 : d.tells.length ≤ 1000) :
    Calls Try.prog 27 #[.agg #[.slice gA gs.length gc, .slice nA d.next.length nc, .slice tA d.tells.length tc]] w (WideAns w gs d) := by
  obtain ⟨W, hW0⟩ : ∃ W, W = (w.alloc (Obj.cells #[.slice gA gs.length gc, .slice nA d.next.length nc, .slice tA d.tells.length tc] 40)).alloc (Obj.cells #[.slice none 0 0, .slice none 0 0] 30) := ⟨_, rfl⟩
  have hWb : Below w.heap.size w W := by rw [hW0]; exact ((Below.refl _ _).alloc (Nat.le_refl _) _).alloc (by simp) _
  have hWz : W.heap.size = w.heap.size + 2 := by rw [hW0]; simp
  obtain ⟨x1, x2, x3, _, _, _⟩ := slot3 (show W.heap[w.heap.size]? = some (.cells #[.slice gA gs.length gc, .slice nA d.next.length nc, .slice tA d.tells.length tc] 40 (0, 0)) by rw [hW0]; exact (heap_alloc_old _ _ (by simp)).trans (heap_alloc_new _ _))
  have q2 : W.heap[w.heap.size + 1]? = some (.cells #[.slice none 0 0, .slice none 0 0] 30 (0, 0)) := by rw [hW0]; exact heap_alloc2_new _ _ _
  have hq : ∀ Y, Below W.heap.size W Y → Y.heap[w.heap.size + 1]? = some (.cells #[.slice none 0 0, .slice none 0 0] 30 (0, 0)) := fun Y hY => (hY.block _ (by omega)).trans q2
  have HQ := hid hq
  have HG := hid (hg.below hWb)
  have HD := hid (hd.below hWb)
  have HWZ := hid hWz
  obtain ⟨y1, y2, y3, y4⟩ := slot2 q2
  clear hg hd hq q2 hWz
  cases hr : rightB (widD gs d) with
  | true =>
    go_enter Try.func27, Try.ntmps27
    go_wp2_with fail
    rw [← hW0]
    clear hW0
    go_wp2_with (first
      | (go_at_call 55; refine (wide_any S _ _ _ gs d _ HG.out HD.out hn1000 ht1000).mono ?_; rintro e w1 ⟨A1, c1, A2, c2, rfl, hd1, hb1⟩)
      | (go_at_call 26; refine (right_any _ _ _ _ (hd1.below ((Below.refl _ _).alloc (Nat.le_refl _) _))).mono ?_; rintro e w2 ⟨rfl, hb2⟩; rw [hr]
         obtain ⟨z1, z2, z3, z4⟩ := slot2 (slot_kept hb2)
         have hB2 : Below W.heap.size W w2 := (hb1.alloc hb1.size _).trans (hb2.mono (by have := hb1.size; simp; omega))
         have hd2 := hid ((hd1.below ((Below.refl _ _).alloc (Nat.le_refl _) _)).below hb2)
         clear y1 y2 y3 y4
         obtain ⟨y1, y2, y3, y4⟩ := slot2 (HQ.out _ hB2)))
    have hWZ := HWZ.out
    have hbel := hWb.trans (hB2.mono hWb.size)
    have hend : Below w.heap.size w ((w2.setCell ⟨w.heap.size + 1, 0, none⟩ (.slice A1 (widD gs d).next.length c1)).setCell ⟨w.heap.size + 1, 1, none⟩ (.slice A2 (widD gs d).tells.length c2)) := (hbel.setCell (by simp) _).setCell (by simp) _
    have hgq : w2.grownBy ((w2.setCell ⟨w.heap.size + 1, 0, none⟩ (.slice A1 (widD gs d).next.length c1)).setCell ⟨w.heap.size + 1, 1, none⟩ (.slice A2 (widD gs d).tells.length c2)) (some (w.heap.size + 1)) := grown_setCell (grown_setCell (World.grownBy.refl _ _) _ _) _ _
    have hd3 := (hd2.out.keep (fun b hb hlt => hgq.block b hlt (fun e => by injection e with e; omega))).mono (S' := fun b => w.heap.size ≤ b) (fun b hb _ => by omega)
    exact bodyPost_ret (v := .tuple #[.agg #[.slice A1 (widD gs d).next.length c1, .slice A2 (widD gs d).tells.length c2], .bool true]) (by simp [results, Try.results27, go_sem, y1, y2]) rfl ⟨widD gs d, A1, c1, A2, c2, by rw [if_pos hr], by rw [hr], hd3, hend⟩
  | false =>
    go_enter Try.func27, Try.ntmps27
    go_wp2_with fail
    rw [← hW0]
    clear hW0
    go_wp2_with (first
      | (go_at_call 55; refine (wide_any S _ _ _ gs d _ HG.out HD.out hn1000 ht1000).mono ?_; rintro e w1 ⟨A1, c1, A2, c2, rfl, hd1, hb1⟩)
      | (go_at_call 26; refine (right_any _ _ _ _ (hd1.below ((Below.refl _ _).alloc (Nat.le_refl _) _))).mono ?_; rintro e w2 ⟨rfl, hb2⟩; rw [hr]
         obtain ⟨z1, z2, z3, z4⟩ := slot2 (slot_kept hb2)
         have hB2 : Below W.heap.size W w2 := (hb1.alloc hb1.size _).trans (hb2.mono (by have := hb1.size; simp; omega))
         have hd2 := hid ((hd1.below ((Below.refl _ _).alloc (Nat.le_refl _) _)).below hb2)
         clear y1 y2 y3 y4
         obtain ⟨y1, y2, y3, y4⟩ := slot2 (HQ.out _ hB2)))
    have hWZ := HWZ.out
    have hbel := hWb.trans (hB2.mono hWb.size)
    have hend : Below w.heap.size w ((w2.setCell ⟨w.heap.size + 1, 0, none⟩ (.slice none 0 0)).setCell ⟨w.heap.size + 1, 1, none⟩ (.slice none 0 0)) := (hbel.setCell (by simp) _).setCell (by simp) _
    exact bodyPost_ret (v := .tuple #[.agg #[.slice none 0 0, .slice none 0 0], .bool false]) (by simp [results, Try.results27, go_sem, y1, y2]) rfl ⟨⟨[], []⟩, none, 0, none, 0, by rw [if_neg (by rw [hr]; decide)], by rw [hr]; rfl, isD_nil _ _, hend⟩
end Go.Proofs.Ytmdkmobcglnmgaa
