/- A trie's blocks as whole rows in memory. Conditions: a trie in memory. -/
import Derived.Test.YtehchnagjdmdgaaGe
import Derived.Deep.MidRow
namespace Go.Proofs.Ytehchnagjdmdgaa
open Go.RowKit
/-- Its blocks: each a row of 256. -/
theorem Tb.blks {w : World} {B t : Nat} {other : Int} {first : List Int} {bs : List (List Int)} (h : Tb w B t other first bs) (hall : ∀ l ∈ bs, l.length = 256) : ∃ VA vc, w.cell? ⟨t, 4353, none⟩ = some (.slice VA bs.length vc) ∧
    ∀ (q : Nat) (l : List Int), bs[q]? = some l → ∃ bb bo, VA = some ⟨bb, bo, none⟩ ∧ w.rangeAt bb (bo + q * 256) (l.map (.int .u8)) := by
  obtain ⟨VA, vc, c1, h1, -⟩ := h.blocksCell
  refine ⟨VA, vc, c1, fun q l e2 => ?_⟩
  obtain ⟨A', c', e, -, -, harr⟩ := own_arr h1
  obtain ⟨bb, bo, ea, -, -, -⟩ := harr.at (flatB_get bs hall q 0 _ e2 (by omega))
  refine ⟨bb, bo, ?_, fun j v hj => ?_⟩
  · injection e with e3
    rw [e3]; exact ea
  · have hl := hall l (List.mem_of_getElem? e2)
    have hj2 : j < 256 := by have := (List.getElem?_eq_some_iff.1 hj).1; rw [List.length_map, hl] at this; exact this
    obtain ⟨bb', bo', ea', -, -, hc⟩ := harr.at (flatB_get bs hall q j _ e2 hj2)
    obtain ⟨rfl, rfl⟩ : bb = bb' ∧ bo = bo' := by rw [ea] at ea'; injection ea' with ea'; injection ea' with a b; exact ⟨a, b⟩
    rw [Nat.add_assoc, hc]
    have hv : v = .int .u8 (nth l j) := by
      rw [List.getElem?_map, List.getElem?_eq_getElem (by omega)] at hj
      injection hj with hj
      rw [← hj, nth, List.getElem?_eq_getElem (by omega)]; rfl
    rw [hv]
theorem IsTrie.blk {w : World} {t : Nat} {other : Int} {es : List Ent} (h : IsTrie w t other es) : ∃ VA vc, w.cell? ⟨t, 4353, none⟩ = some (.slice VA (blksTo other es 4352).length vc) ∧
    ∀ (q : Nat) (l : List Int), (blksTo other es 4352)[q]? = some l → ∃ bb bo, VA = some ⟨bb, bo, none⟩ ∧ w.rangeAt bb (bo + q * 256) (l.map (.int .u8)) := by
  obtain ⟨B, h⟩ := h
  exact h.blks (all256 other es _)
end Go.Proofs.Ytehchnagjdmdgaa
