/- The memory that a table takes while it is made of rows of the call's own; all below stays. No conditions. -/
import Derived.Test.YtmdkmobcglnmgaaMw
namespace Go.Proofs.Ytmdkmobcglnmgaa
open Go.RowKit

structure LeN (B p ty : Nat) (wB w : World) (f r : Value × List Int) (rows : List (Value × List Int)) (nx tl : Value) (ts : List Int) : Prop where
  bel : Below B wB w
  out : w.heap[p]? = some (.cells #[nx, tl] ty (0, 0))
  rs : RowSet w B (f :: r :: rows)
  nxo : w.ownsRow B 32 1 nx rows.length (rows.map (·.1))
  tlo : w.ownsRow B 52 1 tl ts.length (ts.map (.int .u64))
  lt : B ≤ p ∧ B ≤ wB.heap.size ∧ 3 ≠ ty ∧ 32 ≠ ty ∧ 52 ≠ ty
section
variable {B p ty : Nat} {wB w w' : World} {f r : Value × List Int} {rows : List (Value × List Int)} {nx tl : Value} {ts : List Int}
theorem LeN.size (h : LeN B p ty wB w f r rows nx tl ts) : B ≤ w.heap.size := Nat.le_trans h.lt.2.1 h.bel.size
theorem LeN.grown (h : LeN B p ty wB w f r rows nx tl ts) (hb : Below w.heap.size w w') : LeN B p ty wB w' f r rows nx tl ts :=
  ⟨h.bel.trans (hb.mono h.size), (hb.block _ (Array.getElem?_eq_some_iff.1 h.out).1).trans h.out, h.rs.below hb,
   h.nxo.kept (grown_of_below hb none) (Classical.em _), h.tlo.kept (grown_of_below hb none) (Classical.em _), h.lt⟩
theorem LeN.alloc (h : LeN B p ty wB w f r rows nx tl ts) (o : Obj) : LeN B p ty wB (w.alloc o) f r rows nx tl ts := h.grown ((Below.refl _ _).alloc (Nat.le_refl _) _)
theorem LeN.put (h : LeN B p ty wB w f r rows nx tl ts) {v : Value} {n : Nat} {xs : List Value} (ho : w.ownsRow B 3 1 v n xs) (hg : w.grownBy w' v.ownBlock) {f' r' : Value × List Int} (hrs : RowSet w' B (f' :: r' :: rows)) : LeN B p ty wB w' f' r' rows nx tl ts :=
  ⟨below_own h.bel ho hg h.size, (hg.block _ (Array.getElem?_eq_some_iff.1 h.out).1 (Ne.symm (own_blk_ne ho h.out h.lt.2.2.1))).trans h.out, hrs, h.nxo.kept hg (own_own h.nxo ho (by decide)), h.tlo.kept hg (own_own h.tlo ho (by decide)), h.lt⟩
theorem LeN.putF {v : Value} {z z' : List Int} (h : LeN B p ty wB w (v, z) r rows nx tl ts) (hg : w.grownBy w' v.ownBlock) {v' : Value} (hown : OwnI w' B v' z') (hat : v'.ownBlock = v.ownBlock ∨ ∃ g, v'.ownBlock = some g ∧ w.heap.size ≤ g) : LeN B p ty wB w' (v', z') r rows nx tl ts :=
  h.put h.rs.head hg (h.rs.put hg hown hat)
theorem LeN.putR {v : Value} {z z' : List Int} (h : LeN B p ty wB w f (v, z) rows nx tl ts) (hg : w.grownBy w' v.ownBlock) {v' : Value} (hown : OwnI w' B v' z') (hat : v'.ownBlock = v.ownBlock ∨ ∃ g, v'.ownBlock = some g ∧ w.heap.size ≤ g) : LeN B p ty wB w' f (v', z') rows nx tl ts :=
  h.put h.rs.tail.head hg (h.rs.swap.put hg hown hat).swap
theorem LeN.row {v : Value} {z : List Int} (h : LeN B p ty wB w f (v, z) rows nx tl ts) (hg : w.grownBy w' nx.ownBlock) {nx' : Value} (hown : w'.ownsRow B 32 1 nx' (rows ++ [(v, z)]).length ((rows ++ [(v, z)]).map (·.1))) :
    w'.heap[p]? = some (.cells #[nx, tl] ty (0, 0)) ∧ LeN B p ty wB (w'.setCell ⟨p, 0, none⟩ nx') f (.slice none 0 0, []) (rows ++ [(v, z)]) nx' tl ts := by
  have hl := h.lt
  have ho : w'.heap[p]? = some (.cells #[nx, tl] ty (0, 0)) := (hg.block _ (Array.getElem?_eq_some_iff.1 h.out).1 (Ne.symm (own_blk_ne h.nxo h.out h.lt.2.2.2.1))).trans h.out
  have hs : w'.grownBy (w'.setCell ⟨p, 0, none⟩ nx') (some p) := grown_setCell (World.grownBy.refl _ _) _ _
  have hr : RowSet w' B (f :: (v, z) :: rows) := h.rs.other hg h.nxo (by decide)
  have ht := h.tlo.kept hg (own_own h.tlo h.nxo (by decide))
  exact ⟨ho, (below_own h.bel h.nxo hg h.size).setCell hl.1 _, heap_setCell_same w' p 0 _ ty _ ho, (hr.push.cells hs ho h.lt.2.2.1).fresh.swap, hown.kept hs (.inr (own_blk_ne hown ho h.lt.2.2.2.1)), ht.kept hs (.inr (own_blk_ne ht ho h.lt.2.2.2.2)), h.lt⟩
theorem LeN.tell (h : LeN B p ty wB w f r rows nx tl ts) (hg : w.grownBy w' tl.ownBlock) {tl' : Value} {z : Int} (hown : w'.ownsRow B 52 1 tl' (ts ++ [z]).length ((ts ++ [z]).map (.int .u64))) :
    w'.heap[p]? = some (.cells #[nx, tl] ty (0, 0)) ∧ LeN B p ty wB (w'.setCell ⟨p, 1, none⟩ tl') f r rows nx tl' (ts ++ [z]) := by
  have hl := h.lt
  have ho : w'.heap[p]? = some (.cells #[nx, tl] ty (0, 0)) := (hg.block _ (Array.getElem?_eq_some_iff.1 h.out).1 (Ne.symm (own_blk_ne h.tlo h.out h.lt.2.2.2.2))).trans h.out
  have hs : w'.grownBy (w'.setCell ⟨p, 1, none⟩ tl') (some p) := grown_setCell (World.grownBy.refl _ _) _ _
  have hr : RowSet w' B (f :: r :: rows) := h.rs.other hg h.tlo (by decide)
  have hx := h.nxo.kept hg (own_own h.nxo h.tlo (by decide))
  exact ⟨ho, (below_own h.bel h.tlo hg h.size).setCell hl.1 _, heap_setCell_same w' p 1 _ ty _ ho, hr.cells hs ho h.lt.2.2.1, hx.kept hs (.inr (own_blk_ne hx ho h.lt.2.2.2.1)), hown.kept hs (.inr (own_blk_ne hown ho h.lt.2.2.2.2)), h.lt⟩
/-- While what is told is appended to, the rest is as it was. -/
theorem LeN.seen (h : LeN B p ty wB w f r rows nx tl ts) (hg : w.grownBy w' tl.ownBlock) : Below B wB w' ∧ OwnI w' B f.1 f.2 :=
  ⟨below_own h.bel h.tlo hg h.size, h.rs.head.kept hg (own_own h.rs.head h.tlo (by decide))⟩
end
end Go.Proofs.Ytmdkmobcglnmgaa
