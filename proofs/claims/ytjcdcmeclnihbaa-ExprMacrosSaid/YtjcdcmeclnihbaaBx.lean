/- A boxed struct of three cells. No conditions. -/
import Derived.Test.YtjcdcmeclnihbaaTr
namespace Go.Proofs.Ytjcdcmeclnihbaa
open Go.RowKit
theorem box3 {w W : World} {v0 v1 v2 : Value} {T : Nat} (hW : W = w.alloc (.cells #[v0, v1, v2] T)) : Below w.heap.size w W ∧
    ∀ Y, Below W.heap.size W Y → Y.cell? ⟨w.heap.size, 0, none⟩ = some v0 ∧ Y.cell? ⟨w.heap.size, 1, none⟩ = some v1 ∧ Y.cell? ⟨w.heap.size, 2, none⟩ = some v2 := by
  have hb : Below w.heap.size w W := by rw [hW]; exact (Below.refl _ _).alloc (Nat.le_refl _) _
  have q0 : W.heap[w.heap.size]? = some (.cells #[v0, v1, v2] T (0, 0)) := by rw [hW]; exact heap_alloc_new _ _
  refine ⟨hb, fun Y hY => ?_⟩
  have h2 := (hY.block _ (by rw [hW]; simp)).trans q0
  refine ⟨?_, ?_, ?_⟩ <;> (rw [cell_of_row _ _ _ _ _ _ h2]; rfl)
end Go.Proofs.Ytjcdcmeclnihbaa
