/- A block of numbers of one's own: its cells, a store, as a slice. Condition: none. -/
import Derived.Test.YtjcdcmeclnihbaaLe
import Derived.Test.YtjcdcmeclnihbaaLg
namespace Go.Proofs.Ytjcdcmeclnihbaa
open Go.RowKit
def NumBlk (w : World) (g : Nat) (l : List Int) : Prop := w.heap[g]? = some (.cells ((l.map (Value.int .i64)).toArray) 3 (0, 0))
section
variable {w w' : World} {l : List Int} {g : Nat}
theorem NumBlk.lt (h : NumBlk w g l) : g < w.heap.size := (Array.getElem?_eq_some_iff.1 h).1
theorem NumBlk.cell (h : NumBlk w g l) {j : Nat} (hj : j < l.length) : w.cell? ⟨g, j, none⟩ = some (.int .i64 (nth l j)) := by
  rw [cell_of_row _ _ _ _ _ _ h, ← Array.getElem?_toList]
  simp [some_nth hj]
theorem NumBlk.frozen (h : NumBlk w g l) (j : Nat) : w.frozen? ⟨g, j, none⟩ = false := frozen_of_row _ _ _ _ _ h
theorem NumBlk.set (h : NumBlk w g l) (j : Nat) (z : Int) : NumBlk (w.setCell ⟨g, j, none⟩ (.int .i64 z)) g (l.set j z) := by
  have h1 := heap_setCell_same w g j _ 3 (.int .i64 z) h
  unfold NumBlk
  rw [h1]
  simp [List.map_set]
theorem NumBlk.keep (h : NumBlk w g l) (hk : w'.heap[g]? = w.heap[g]?) : NumBlk w' g l := hk.trans h
theorem NumBlk.below (h : NumBlk w g l) (hb : Below w.heap.size w w') : NumBlk w' g l := h.keep (hb.block g h.lt)
end
set_option maxRecDepth 100000 in
theorem run_make_nums (kl kc : IntKind) (n : Nat) (hn : n ≤ 1000000) (w : World) : (Instr.makeSlice 22 (.int kl (n : Int)) (.int kc (n : Int))).run Try.prog w = .ok (.slice (some ⟨w.heap.size, 0, none⟩) n n) (w.alloc (.cells (Array.replicate n (Value.int .i64 0)) 3)) := by
  obtain ⟨i, hi0, hz, hs, hb⟩ := info_parts info3
  have hr := run_make (P := Try.prog) w 22 3 i (.int .i64 0) Try.underlying22 hi0 hz kl kc n n (by omega) (by omega) (by rw [hb]; omega) (by omega)
  simp only [Int.toNat_natCast, hs, Nat.mul_one] at hr
  rw [hr]
  congr 2
  have h2 : (madeCells (Value.int .i64 0).cells n) = Array.replicate n (Value.int .i64 0) := by
    apply Array.ext'
    show (madeCells #[Value.int .i64 0] n).toList = _
    rw [toList_madeCells_one]; simp
  rw [h2]
theorem NumBlk.new (w : World) (n : Nat) : NumBlk (w.alloc (.cells (Array.replicate n (Value.int .i64 0)) 3)) w.heap.size (List.replicate n 0) := by
  unfold NumBlk
  rw [List.map_replicate, List.toArray_replicate]
  exact heap_alloc_new _ _
end Go.Proofs.Ytjcdcmeclnihbaa
