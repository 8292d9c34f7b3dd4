/- The document's table while it is made: what lies in memory. Conditions: none. -/
import Derived.Test.YthdhbkngbmjjkaaDm
import Derived.Test.YthdhbkngbmjjkaaDw
namespace Go.Proofs.Ythdhbkngbmjjkaa
open Go.RowKit
/-- The blocks that are still written. -/
def T9 (db : Nat) (vs nv tv rv : Value) (b : Nat) : Prop := b = db ∨ vs.ownBlock = some b ∨ nv.ownBlock = some b ∨ tv.ownBlock = some b ∨ rv.ownBlock = some b
def RowsAt (w : World) (S : Nat → Prop) (us : List Value) (rs : List (List Int)) : Prop := us.length = rs.length ∧ ∀ (j : Nat) (r : List Int), rs[j]? = some r → ∃ u, us[j]? = some u ∧ IsNums .i64 w S u r
theorem RowsAt.keep {w w' : World} {S S' : Nat → Prop} {us : List Value} {rs : List (List Int)} (h : RowsAt w S us rs) (hk : ∀ b, S b → b < w.heap.size → w'.heap[b]? = w.heap[b]? ∧ S' b) : RowsAt w' S' us rs :=
  ⟨h.1, fun j r hr => by
    obtain ⟨u, h1, h2⟩ := h.2 j r hr
    refine ⟨u, h1, ?_⟩
    have h3 := h2.mono (S' := fun b => S b ∧ S' b ∧ b < w.heap.size) fun b hb hl => ⟨hb, (hk b hb hl).2, hl⟩
    exact (h3.keep fun b hb hl => (hk b hb.1 hl).1).mono fun b hb _ => hb.2.1⟩
theorem RowsAt.snoc {w : World} {S : Nat → Prop} {us : List Value} {rs : List (List Int)} {u : Value} {r : List Int} (h : RowsAt w S us rs) (hu : IsNums .i64 w S u r) : RowsAt w S (us ++ [u]) (rs ++ [r]) := by
  refine ⟨by rw [List.length_append, List.length_append, h.1]; rfl, fun j q hq => ?_⟩
  by_cases hj : j < rs.length
  · rw [List.getElem?_append_left hj] at hq
    obtain ⟨v, h1, h2⟩ := h.2 j q hq
    exact ⟨v, by rw [List.getElem?_append_left (by rw [h.1]; exact hj)]; exact h1, h2⟩
  · rw [List.getElem?_append_right (by omega)] at hq
    obtain ⟨hj2, e⟩ := List.getElem?_eq_some_iff.1 hq
    have : j = rs.length := by simp at hj2; omega
    subst this
    refine ⟨u, by rw [List.getElem?_append_right (by rw [h.1]; exact Nat.le_refl _), h.1, Nat.sub_self]; rfl, ?_⟩
    have e2 : r = q := by simpa using e
    exact e2 ▸ hu
theorem own_moved {w w' : World} {B e size n : Nat} {v : Value} {xs : List Value} (h : w.ownsRow B e size v n xs) (hk : ∀ q, v.ownBlock = some q → q < w.heap.size → w'.heap[q]? = w.heap[q]?) : w'.ownsRow B e size v n xs := by
  obtain ⟨r0, r1 | ⟨q, cap, cur, e1, hq, hh, r2⟩⟩ := h
  · exact ⟨r0, .inl r1⟩
  · subst e1
    exact ⟨r0, .inr ⟨q, cap, cur, rfl, hq, (hk q rfl (Array.getElem?_eq_some_iff.1 hh).1).trans hh, r2⟩⟩
structure Mm (w : World) (B db : Nat) (vs nv tv rv : Value) (sets rows : List (List Int)) (tells row : List Int) : Prop where
  base : B ≤ db
  cell : w.heap[db]? = some (.cells #[nv, tv] 62 (0, 0))
  sets : ∃ us, w.ownsRow B 23 1 vs sets.length us ∧ RowsAt w (fun b => B ≤ b ∧ ¬ T9 db vs nv tv rv b) us sets
  rows : ∃ us, w.ownsRow B 23 1 nv rows.length us ∧ RowsAt w (fun b => B ≤ b ∧ ¬ T9 db vs nv tv rv b) us rows
  tells : w.ownsRow B 37 1 tv tells.length (tells.map (.int .u64))
  row : OwnI w B rv row
  sep : ∀ k, nv.ownBlock = some k → vs.ownBlock ≠ some k
section
variable {w w' X w3 w4 : World} {B db : Nat} {vs nv tv rv : Value} {sets rows : List (List Int)} {tells row : List Int}
theorem Mm.lt (h : Mm w B db vs nv tv rv sets rows tells row) : ∀ b, T9 db vs nv tv rv b → B ≤ b ∧ b < w.heap.size := fun b hb => by
  obtain ⟨us, hus, -⟩ := h.sets
  obtain ⟨ur, hur, -⟩ := h.rows
  rcases hb with rfl | e | e | e | e
  · exact ⟨h.base, (Array.getElem?_eq_some_iff.1 h.cell).1⟩
  · exact hus.lt b e
  · exact hur.lt b e
  · exact h.tells.lt b e
  · exact h.row.lt b e
/-- Nothing of it is touched. -/
theorem Mm.below (h : Mm w B db vs nv tv rv sets rows tells row) (hb : Below w.heap.size w w') : Mm w' B db vs nv tv rv sets rows tells row := by
  obtain ⟨us, hus, hu⟩ := h.sets
  obtain ⟨ur, hur, hr⟩ := h.rows
  exact ⟨h.base, (hb.block db (Array.getElem?_eq_some_iff.1 h.cell).1).trans h.cell, ⟨us, own_moved hus fun q _ hq => hb.block q hq, hu.keep fun b h1 h2 => ⟨hb.block b h2, h1⟩⟩,
    ⟨ur, own_moved hur fun q _ hq => hb.block q hq, hr.keep fun b h1 h2 => ⟨hb.block b h2, h1⟩⟩, own_moved h.tells fun q _ hq => hb.block q hq, own_moved h.row fun q _ hq => hb.block q hq, h.sep⟩
theorem kept_one {o : Obj} {O : Option Nat} (hX : X = w.alloc o) (hg : X.grownBy w3 O) : ∀ x, x < w.heap.size → O ≠ some x → w3.heap[x]? = w.heap[x]? := fun x hx h2 => by
  have sX : X.heap.size = w.heap.size + 1 := by rw [hX]; simp
  rw [hg.block x (by omega) fun e => h2 e.symm, hX]
  exact heap_alloc_old _ _ hx
theorem below_one {o : Obj} {O : Option Nat} (hB : B ≤ w.heap.size) (hX : X = w.alloc o) (hg : X.grownBy w3 O) (hO : ∀ k, O = some k → B ≤ k) : Below B w w3 := by
  have b1 : Below B w X := by rw [hX]; exact (Below.refl _ _).alloc hB _
  have sX : X.heap.size = w.heap.size + 1 := by rw [hX]; simp
  exact b1.trans ⟨hg.os, hg.tape, hg.output, hg.size, fun x hx => hg.block x (by omega) fun e => by have := hO x e.symm; omega⟩
/-- A set more. -/
theorem Mm.addSet {vs' u : Value} {us : List Value} {t : List Int} (h : Mm w B db vs nv tv rv sets rows tells row) (hus : w.ownsRow B 23 1 vs sets.length us) (hu : RowsAt w (fun b => B ≤ b ∧ ¬ T9 db vs nv tv rv b) us sets)
    (ht : IsNums .i64 w (fun b => B ≤ b ∧ ¬ T9 db vs nv tv rv b) u t) (hX : X = w.alloc (.cells #[u] 23)) (ho : w3.ownsRow B 23 1 vs' (sets.length + 1) (us ++ [u])) (hg : X.grownBy w3 vs.ownBlock) (hv : vs'.ownBlock = vs.ownBlock ∨ vs'.ownBlock = some X.heap.size) :
    Mm w3 B db vs' nv tv rv (sets ++ [t]) rows tells row ∧ Below B w w3 := by
  have sX : X.heap.size = w.heap.size + 1 := by rw [hX]; simp
  have hk := kept_one hX hg
  have hlt := h.lt
  obtain ⟨ur, hur, hr⟩ := h.rows
  have hT : ∀ b, (B ≤ b ∧ ¬ T9 db vs nv tv rv b) → b < w.heap.size → w3.heap[b]? = w.heap[b]? ∧ B ≤ b ∧ ¬ T9 db vs' nv tv rv b := fun b hb hl => by
    refine ⟨hk b hl fun e => hb.2 (.inr (.inl e)), hb.1, fun e => ?_⟩
    rcases e with e | e | e
    · exact hb.2 (.inl e)
    · rcases hv with hv | hv
      · rw [hv] at e; exact hb.2 (.inr (.inl e))
      · rw [hv] at e; injection e with e; omega
    · exact hb.2 (.inr (.inr e))
  have hn : ∀ k, nv.ownBlock = some k → vs.ownBlock ≠ some k := h.sep
  refine ⟨⟨h.base, (hk db (Array.getElem?_eq_some_iff.1 h.cell).1 (own_blk_ne hus h.cell (by decide))).trans h.cell, ⟨us ++ [u], by rw [List.length_append]; exact ho, (hu.snoc ht).keep hT⟩, ⟨ur, own_moved hur fun q e hq => hk q hq (hn q e), hr.keep hT⟩,
    own_moved h.tells fun q e hq => hk q hq fun e2 => ?_, own_moved h.row fun q e hq => hk q hq fun e2 => ?_, fun k e e2 => ?_⟩, below_one (Nat.le_trans h.base (Nat.le_of_lt (Array.getElem?_eq_some_iff.1 h.cell).1)) hX hg fun k e => (hus.lt k e).1⟩
  · obtain ⟨cs, hc⟩ := own_blk h.tells e
    exact own_blk_ne hus hc (by decide) e2
  · obtain ⟨cs, hc⟩ := own_blk h.row e
    exact own_blk_ne hus hc (by decide) e2
  · rcases hv with hv | hv
    · rw [hv] at e2; exact hn k e e2
    · rw [hv] at e2; injection e2 with e2
      have := (hlt k (.inr (.inr (.inl e)))).2
      omega
/-- A number more in the row. -/
theorem Mm.addNum {rv' : Value} {z : Int} (h : Mm w B db vs nv tv rv sets rows tells row) (hX : X = w.alloc (.cells #[.int .i64 z] 3)) (ho : OwnI w3 B rv' (row ++ [z])) (hg : X.grownBy w3 rv.ownBlock) (hv : rv'.ownBlock = rv.ownBlock ∨ rv'.ownBlock = some X.heap.size) :
    Mm w3 B db vs nv tv rv' sets rows tells (row ++ [z]) ∧ Below B w w3 := by
  have sX : X.heap.size = w.heap.size + 1 := by rw [hX]; simp
  have hk := kept_one hX hg
  have hlt := h.lt
  obtain ⟨us, hus, hu⟩ := h.sets
  obtain ⟨ur, hur, hr⟩ := h.rows
  have hT : ∀ b, (B ≤ b ∧ ¬ T9 db vs nv tv rv b) → b < w.heap.size → w3.heap[b]? = w.heap[b]? ∧ B ≤ b ∧ ¬ T9 db vs nv tv rv' b := fun b hb hl => by
    refine ⟨hk b hl fun e => hb.2 (.inr (.inr (.inr (.inr e)))), hb.1, fun e => ?_⟩
    rcases e with e | e | e | e | e
    · exact hb.2 (.inl e)
    · exact hb.2 (.inr (.inl e))
    · exact hb.2 (.inr (.inr (.inl e)))
    · exact hb.2 (.inr (.inr (.inr (.inl e))))
    · rcases hv with hv | hv
      · rw [hv] at e; exact hb.2 (.inr (.inr (.inr (.inr e))))
      · rw [hv] at e; injection e with e; omega
  have hne : ∀ {e n : Nat} {v : Value} {xs : List Value}, w.ownsRow B e 1 v n xs → 3 ≠ e → ∀ q, v.ownBlock = some q → rv.ownBlock ≠ some q := fun hv he q e => by
    obtain ⟨cs, hc⟩ := own_blk hv e
    exact own_blk_ne h.row hc he
  exact ⟨⟨h.base, (hk db (Array.getElem?_eq_some_iff.1 h.cell).1 (own_blk_ne h.row h.cell (by decide))).trans h.cell, ⟨us, own_moved hus fun q e hq => hk q hq (hne hus (by decide) q e), hu.keep hT⟩, ⟨ur, own_moved hur fun q e hq => hk q hq (hne hur (by decide) q e), hr.keep hT⟩,
    own_moved h.tells fun q e hq => hk q hq (hne h.tells (by decide) q e), ho, h.sep⟩, below_one (Nat.le_trans h.base (Nat.le_of_lt (Array.getElem?_eq_some_iff.1 h.cell).1)) hX hg fun k e => (h.row.lt k e).1⟩
/-- The row is done: it is a row of the table's. -/
theorem Mm.addRow {nv' : Value} {ur : List Value} (h : Mm w B db vs nv tv rv sets rows tells row) (hur : w.ownsRow B 23 1 nv rows.length ur) (hr : RowsAt w (fun b => B ≤ b ∧ ¬ T9 db vs nv tv rv b) ur rows)
    (hrow : IsNums .i64 w (fun b => rv.ownBlock = some b) rv row) (hX : X = w.alloc (.cells #[rv] 23)) (ho : w3.ownsRow B 23 1 nv' (rows.length + 1) (ur ++ [rv])) (hg : X.grownBy w3 nv.ownBlock) (hv : nv'.ownBlock = nv.ownBlock ∨ nv'.ownBlock = some X.heap.size) (h4 : w4 = w3.setCell ⟨db, 0, none⟩ nv') :
    Mm w4 B db vs nv' tv (.slice none 0 0) sets (rows ++ [row]) tells [] ∧ Below B w w4 := by
  have sX : X.heap.size = w.heap.size + 1 := by rw [hX]; simp
  have hk := kept_one hX hg
  have hlt := h.lt
  have hdl := (Array.getElem?_eq_some_iff.1 h.cell).1
  obtain ⟨us, hus, hu⟩ := h.sets
  have hdn : nv.ownBlock ≠ some db := own_blk_ne hur h.cell (by decide)
  have hd3 : w3.heap[db]? = some (.cells #[nv, tv] 62 (0, 0)) := (hk db hdl hdn).trans h.cell
  have hd4 : w4.heap[db]? = some (.cells #[nv', tv] 62 (0, 0)) := by rw [h4]; exact heap_setCell_same _ db 0 _ _ nv' hd3
  have hk4 : ∀ x, x < w.heap.size → x ≠ db → nv.ownBlock ≠ some x → w4.heap[x]? = w.heap[x]? := fun x h1 h2 h3 => by
    rw [h4, heap_setCell_other _ _ _ _ h2]; exact hk x h1 h3
  have hne : ∀ {e n : Nat} {v : Value} {xs : List Value}, w.ownsRow B e 1 v n xs → 23 ≠ e → e ≠ 62 → ∀ q, v.ownBlock = some q → q < w.heap.size → w4.heap[q]? = w.heap[q]? := fun hv he he2 q e hq => by
    obtain ⟨cs, hc⟩ := own_blk hv e
    exact hk4 q hq (cells_ne hc h.cell he2) (own_blk_ne hur hc he)
  have hR : ∀ b, rv.ownBlock = some b → b ≠ db ∧ vs.ownBlock ≠ some b ∧ nv.ownBlock ≠ some b ∧ tv.ownBlock ≠ some b := fun b e => by
    obtain ⟨cs, hc⟩ := own_blk h.row e
    exact ⟨cells_ne hc h.cell (by decide), own_blk_ne hus hc (by decide), own_blk_ne hur hc (by decide), own_blk_ne h.tells hc (by decide)⟩
  have hT2 : ∀ b, B ≤ b → b ≠ db → vs.ownBlock ≠ some b → nv.ownBlock ≠ some b → tv.ownBlock ≠ some b → b < w.heap.size → w4.heap[b]? = w.heap[b]? ∧ B ≤ b ∧ ¬ T9 db vs nv' tv (.slice none 0 0) b := fun b hb n1 n2 n3 n4 hl => by
    refine ⟨hk4 b hl n1 n3, hb, fun e => ?_⟩
    rcases e with e | e | e | e | e
    · exact n1 e
    · exact n2 e
    · rcases hv with hv | hv
      · rw [hv] at e; exact n3 e
      · rw [hv] at e; injection e with e; omega
    · exact n4 e
    · exact absurd e (by simp [Value.ownBlock])
  have hT : ∀ b, (B ≤ b ∧ ¬ T9 db vs nv tv rv b) → b < w.heap.size → w4.heap[b]? = w.heap[b]? ∧ B ≤ b ∧ ¬ T9 db vs nv' tv (.slice none 0 0) b := fun b hb hl =>
    hT2 b hb.1 (fun e => hb.2 (.inl e)) (fun e => hb.2 (.inr (.inl e))) (fun e => hb.2 (.inr (.inr (.inl e)))) (fun e => hb.2 (.inr (.inr (.inr (.inl e))))) hl
  have ho4 : w4.ownsRow B 23 1 nv' (rows ++ [row]).length (ur ++ [rv]) := by
    rw [List.length_append, List.length_singleton, h4]
    exact ownsRow_setCell_other ho (own_blk_ne ho hd3 (by decide)) _
  have hs : RowsAt w (fun b => B ≤ b ∧ b ≠ db ∧ vs.ownBlock ≠ some b ∧ nv.ownBlock ≠ some b ∧ tv.ownBlock ≠ some b) (ur ++ [rv]) (rows ++ [row]) :=
    (hr.keep (w' := w) (S' := fun b => B ≤ b ∧ b ≠ db ∧ vs.ownBlock ≠ some b ∧ nv.ownBlock ≠ some b ∧ tv.ownBlock ≠ some b) fun b hb _ => ⟨rfl, hb.1, fun e => hb.2 (.inl e), fun e => hb.2 (.inr (.inl e)), fun e => hb.2 (.inr (.inr (.inl e))), fun e => hb.2 (.inr (.inr (.inr (.inl e))))⟩).snoc
      (hrow.mono fun b e _ => ⟨(h.row.lt b e).1, hR b e⟩)
  refine ⟨⟨h.base, hd4, ⟨us, own_moved hus fun q e hq => ?_, hu.keep hT⟩, ⟨_, ho4, hs.keep fun b hb hl => hT2 b hb.1 hb.2.1 hb.2.2.1 hb.2.2.2.1 hb.2.2.2.2 hl⟩, own_moved h.tells (hne h.tells (by decide) (by decide)), World.ownsRow_nil _ _ _ _, fun k e e2 => ?_⟩, ?_⟩
  · obtain ⟨cs, hc⟩ := own_blk hus e
    exact hk4 q hq (cells_ne hc h.cell (by decide)) fun e2 => h.sep q e2 e
  · rcases hv with hv | hv
    · rw [hv] at e; exact h.sep k e e2
    · rw [hv] at e; injection e with e; have := (hlt k (.inr (.inl e2))).2; omega
  · rw [h4]
    exact (below_one (Nat.le_trans h.base (Nat.le_of_lt hdl)) hX hg fun k e => (hur.lt k e).1).setCell (p := ⟨db, 0, none⟩) h.base _
/-- What a set tells is noted. -/
theorem Mm.addTell {tv' : Value} {z : Int} (h : Mm w B db vs nv tv rv sets rows tells row) (hX : X = w.alloc (.cells #[.int .u64 z] 37)) (ho : w3.ownsRow B 37 1 tv' (tells.length + 1) ((tells ++ [z]).map (.int .u64))) (hg : X.grownBy w3 tv.ownBlock) (hv : tv'.ownBlock = tv.ownBlock ∨ tv'.ownBlock = some X.heap.size) (h4 : w4 = w3.setCell ⟨db, 1, none⟩ tv') :
    Mm w4 B db vs nv tv' rv sets rows (tells ++ [z]) row ∧ Below B w w4 := by
  have sX : X.heap.size = w.heap.size + 1 := by rw [hX]; simp
  have hk := kept_one hX hg
  have hdl := (Array.getElem?_eq_some_iff.1 h.cell).1
  obtain ⟨us, hus, hu⟩ := h.sets
  obtain ⟨ur, hur, hr⟩ := h.rows
  have hd3 : w3.heap[db]? = some (.cells #[nv, tv] 62 (0, 0)) := (hk db hdl (own_blk_ne h.tells h.cell (by decide))).trans h.cell
  have hd4 : w4.heap[db]? = some (.cells #[nv, tv'] 62 (0, 0)) := by rw [h4]; exact heap_setCell_same _ db 1 _ _ tv' hd3
  have hk4 : ∀ x, x < w.heap.size → x ≠ db → tv.ownBlock ≠ some x → w4.heap[x]? = w.heap[x]? := fun x h1 h2 h3 => by
    rw [h4, heap_setCell_other _ _ _ _ h2]; exact hk x h1 h3
  have hne : ∀ {e n : Nat} {v : Value} {xs : List Value}, w.ownsRow B e 1 v n xs → 37 ≠ e → e ≠ 62 → ∀ q, v.ownBlock = some q → q < w.heap.size → w4.heap[q]? = w.heap[q]? := fun hv he he2 q e hq => by
    obtain ⟨cs, hc⟩ := own_blk hv e
    exact hk4 q hq (cells_ne hc h.cell he2) (own_blk_ne h.tells hc he)
  have hT : ∀ b, (B ≤ b ∧ ¬ T9 db vs nv tv rv b) → b < w.heap.size → w4.heap[b]? = w.heap[b]? ∧ B ≤ b ∧ ¬ T9 db vs nv tv' rv b := fun b hb hl => by
    refine ⟨hk4 b hl (fun e => hb.2 (.inl e)) fun e => hb.2 (.inr (.inr (.inr (.inl e)))), hb.1, fun e => ?_⟩
    rcases e with e | e | e | e | e
    · exact hb.2 (.inl e)
    · exact hb.2 (.inr (.inl e))
    · exact hb.2 (.inr (.inr (.inl e)))
    · rcases hv with hv | hv
      · rw [hv] at e; exact hb.2 (.inr (.inr (.inr (.inl e))))
      · rw [hv] at e; injection e with e; omega
    · exact hb.2 (.inr (.inr (.inr (.inr e))))
  have ho4 : w4.ownsRow B 37 1 tv' (tells ++ [z]).length ((tells ++ [z]).map (.int .u64)) := by
    rw [List.length_append, List.length_singleton, h4]
    exact ownsRow_setCell_other ho (own_blk_ne ho hd3 (by decide)) _
  refine ⟨⟨h.base, hd4, ⟨us, own_moved hus (hne hus (by decide) (by decide)), hu.keep hT⟩, ⟨ur, own_moved hur (hne hur (by decide) (by decide)), hr.keep hT⟩, ho4, own_moved h.row (hne h.row (by decide) (by decide)), h.sep⟩, ?_⟩
  rw [h4]
  exact (below_one (Nat.le_trans h.base (Nat.le_of_lt hdl)) hX hg fun k e => (h.tells.lt k e).1).setCell (p := ⟨db, 1, none⟩) h.base _
theorem own_rowN {v : Value} {l : List Int} (h : OwnI w B v l) : IsNums .i64 w (fun b => v.ownBlock = some b) v l := by
  obtain ⟨A, c, e, h1, h2, h3⟩ := own_arr h
  exact ⟨A, c, e, h1, h2, h3.mono fun b hb _ => hb.2⟩
theorem rows_is {S : Nat → Prop} {v : Value} {us : List Value} {rs : List (List Int)} (h : w.ownsRow B 23 1 v rs.length us) (hu : RowsAt w (fun b => B ≤ b ∧ S b) us rs) : IsRows w (fun b => B ≤ b) v rs := by
  obtain ⟨A, c, e, h1, h2, h3⟩ := own_arr h
  refine ⟨A, c, us, e, h1, h2, h3.mono fun b hb _ => hb.1, hu.1, fun k r hr => ?_⟩
  obtain ⟨u, h4, h5⟩ := hu.2 k r hr
  exact ⟨u, h4, h5.mono fun b hb _ => hb.1⟩
theorem Mm.isSets (h : Mm w B db vs nv tv rv sets rows tells row) : IsRows w (fun b => B ≤ b) vs sets := by
  obtain ⟨us, h1, h2⟩ := h.sets
  exact rows_is h1 h2
/-- What is made is a table. -/
theorem Mm.isD (h : Mm w B db vs nv tv rv sets rows tells row) : IsD w (fun b => B ≤ b) (.agg #[nv, tv]) ⟨rows, tells⟩ := by
  obtain ⟨us, h1, h2⟩ := h.rows
  refine ⟨nv, tv, rfl, rows_is h1 h2, ?_⟩
  obtain ⟨A, c, e, h3, h4, h5⟩ := own_arr h.tells
  exact ⟨A, c, e, h3, h4, h5.mono fun b hb _ => hb.1⟩
/-- 'append(sets, set)', the new one's cell made just before. -/
theorem wp_app_set {w0 : World} {o : Oper} {a : Act} {Kn : Act → World → Prop} {Q : Exit → Act → World → Prop} (s x : Operand) (hop : o.op = .call { callee := .builtin .append, args := #[s, x], argTypes := #[56, 56] }) {v : Value} {us : List Value} {n m c : Nat} {A : Option Addr}
    (hw : w = w0.alloc (.cells #[.slice A m c] 23)) (hs : a.eval s = v) (hown : w0.ownsRow B 23 1 v n us) (hx : a.eval x = .slice (some ⟨w0.heap.size, 0, none⟩) 1 1) (hn : n ≤ 1000000) (hB : B ≤ w0.heap.size)
    (h : ∀ A' c' w', w'.ownsRow B 23 1 (.slice A' (n + 1) c') (n + 1) (us ++ [.slice A m c]) → w.grownBy w' v.ownBlock → ((Value.slice A' (n + 1) c').ownBlock = v.ownBlock ∨ (Value.slice A' (n + 1) c').ownBlock = some w.heap.size) → Kn (a.put o.dst (.slice A' (n + 1) c')) w') : Oper.wp Try.prog o a w Kn Q := by
  obtain ⟨i0, hi0, hz0, hz1, hz2⟩ := info_parts info23
  subst hw
  refine wp_app _ s x 56 hop B 23 i0 _ 1 24 Try.underlying56 hi0 hz0 hz1 hz2 rfl (by decide) v n us hs (hown.alloc _) (some ⟨w0.heap.size, 0, none⟩) 1 1 _ hx (src_new w0 _ 23 1 rfl) (by simp [Value.oneCell']) (by simp only [maxLen]; omega) (by omega) (by simp; omega) fun v' w' h1 h2 h3 => ?_
  obtain ⟨A', c', e, _⟩ := own_arr h1
  subst e
  exact h A' c' w' h1 h2 h3
theorem wpList_app_tl {w0 : World} {ops : Array Oper} {rest : List Oper} {o : Oper} {a : Act} {Q : Exit → Act → World → Prop} (hg : o.guard = none) (s x : Operand) (hop : o.op = .call { callee := .builtin .append, args := #[s, x], argTypes := #[57, 57] }) {v : Value} {l : List Int} {z : Int}
    (hw : w = w0.alloc (.cells #[.int .u64 z] 37)) (hs : a.eval s = v) (hown : w0.ownsRow B 37 1 v l.length (l.map (.int .u64))) (hx : a.eval x = .slice (some ⟨w0.heap.size, 0, none⟩) 1 1) (hn : l.length ≤ 1000000) (hB : B ≤ w0.heap.size)
    (h : ∀ A' c' w', w'.ownsRow B 37 1 (.slice A' (l.length + 1) c') (l.length + 1) ((l ++ [z]).map (.int .u64)) → w.grownBy w' v.ownBlock → ((Value.slice A' (l.length + 1) c').ownBlock = v.ownBlock ∨ (Value.slice A' (l.length + 1) c').ownBlock = some w.heap.size) → wpList Try.prog ops Q rest (a.put o.dst (.slice A' (l.length + 1) c')) w') : wpList Try.prog ops Q (o :: rest) a w :=
  wpList_plain hg fun _ hK => by
    obtain ⟨i0, hi0, hz0, hz1, hz2⟩ := info_parts info37b
    subst hw
    refine wp_app _ s x 57 hop B 37 i0 _ 1 8 Try.underlying57 hi0 hz0 hz1 hz2 rfl (by decide) v _ _ hs (hown.alloc _) (some ⟨w0.heap.size, 0, none⟩) 1 1 _ hx (src_new w0 _ 37 1 rfl) (by simp [Value.oneCell']) (by simp only [maxLen]; omega) (by omega) (by simp; omega) fun v' w' h1 h2 h3 => ?_
    obtain ⟨A', c', e, _⟩ := own_arr h1
    subst e
    exact hK _ _ (h A' c' w' (by rw [List.map_append]; exact h1) h2 h3)
/-- 'append(row, z)', the new number's cell made just before. -/
theorem wp_app_one {w0 : World} {o : Oper} {a : Act} {Kn : Act → World → Prop} {Q : Exit → Act → World → Prop} (s x : Operand) (hop : o.op = .call { callee := .builtin .append, args := #[s, x], argTypes := #[23, 23] }) {v : Value} {l : List Int} {z : Int}
    (hw : w = w0.alloc (.cells #[.int .i64 z] 3)) (hs : a.eval s = v) (hown : OwnI w0 B v l) (hx : a.eval x = .slice (some ⟨w0.heap.size, 0, none⟩) 1 1) (hn : l.length ≤ 1000000) (hB : B ≤ w0.heap.size)
    (h : ∀ A' c' w', OwnI w' B (.slice A' (l.length + 1) c') (l ++ [z]) → w.grownBy w' v.ownBlock → ((Value.slice A' (l.length + 1) c').ownBlock = v.ownBlock ∨ (Value.slice A' (l.length + 1) c').ownBlock = some w.heap.size) → Kn (a.put o.dst (.slice A' (l.length + 1) c')) w') : Oper.wp Try.prog o a w Kn Q := by
  obtain ⟨i0, hi0, hz0, hz1, hz2⟩ := info_parts info3
  subst hw
  refine wp_app _ s x 23 hop B 3 i0 _ 1 8 Try.underlying23 hi0 hz0 hz1 hz2 rfl (by decide) v _ _ hs (hown.alloc _) (some ⟨w0.heap.size, 0, none⟩) 1 1 _ hx (src_new w0 _ 3 1 rfl) (by simp [Value.oneCell']) (by simp only [maxLen]; omega) (by omega) (by simp; omega) fun v' w' h1 h2 h3 => ?_
  have h1' : OwnI w' B v' (l ++ [z]) := by
    have : (l ++ [z]).length = l.length + 1 := by simp
    show w'.ownsRow B 3 1 v' (l ++ [z]).length ((l ++ [z]).map (.int .i64))
    rw [this]
    simpa using h1
  obtain ⟨A', c', e, _⟩ := own_arr h1'
  rw [List.length_append, List.length_singleton] at e
  subst e
  exact h A' c' w' h1' h2 h3
end
end Go.Proofs.Ythdhbkngbmjjkaa
