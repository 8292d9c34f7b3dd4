/- A right expression is no greater than it may be. Plain. No conditions. -/
import Derived.Test.YtjcdcmeclnihbaaFl
import Derived.Test.YtjcdcmeclnihbaaTo
import Derived.Deep.RegionHeld3
namespace Go.Proofs.Ytjcdcmeclnihbaa
theorem rightT_cnt {d : Nat} {t : Tr d} (h : rightT d t = true) : cnt d t ≤ 2000 ∧ fitsT d false t = true := by
  simp only [rightT, Bool.and_eq_true, decide_eq_true_eq] at h
  exact ⟨by have := (sizeT_le (by omega)).1 h.1; omega, h.2⟩
theorem cell_set_other {Y : World} {g i b j : Nat} {v : Value} (h : b ≠ g ∨ j ≠ i) : (Y.setCell ⟨g, i, none⟩ v).cell? ⟨b, j, none⟩ = Y.cell? ⟨b, j, none⟩ := by
  rcases h with h | h
  · exact cell_same (heap_setCell_other _ _ _ _ h)
  · exact World.cell?_setCell_other (w := Y) (a := ⟨g, i, none⟩) (b := ⟨b, j, none⟩) (v := v) (by intro e; cases e; exact h rfl)
end Go.Proofs.Ytjcdcmeclnihbaa
