/- Whether an expression is right: the program's Right. Conditions: none. -/
import Derived.Test.YtjcdcmeclnihbaaFk
import Derived.Test.YtjcdcmeclnihbaaBx
namespace Go.Proofs.Ytjcdcmeclnihbaa
open Go.RowKit
/-- Right, of an expression by itself. -/
def rightT (d : Nat) (t : Tr d) : Bool := decide (sizeT d 2000 t ≤ 2000) && fitsT d false t
set_option maxRecDepth 100000 in
theorem eright_any (S : Nat → Prop) (d : Nat) (v : Value) (t : Tr d) (w : World) (h : IsTr w S d v t) :
    Calls Try.prog 49 #[v] w fun e w' => e = .returned (.bool (rightT d t)) ∧ Below w.heap.size w w' := by
  have H := hid h
  cases d with
  | zero => exact t.elim
  | succ d =>
    obtain ⟨A, c, rfl, hle, -⟩ := h.open
    clear h
    obtain ⟨W, hW0⟩ : ∃ W, W = w.alloc (.cells #[.int .i64 (Tr.kind t), .int .i64 (Tr.cls t), .slice A (Tr.kids t).length c] 45) := ⟨_, rfl⟩
    have HX := hid (box3 hW0)
    have HT := hid (H.out.below HX.out.1)
    clear H
    obtain ⟨k, hk⟩ : ∃ k, k = sizeT (d + 1) 2000 t := ⟨_, rfl⟩
    by_cases hs : k ≤ 2000
    · have bs := ile_true hs
      have HE := hid (show fitsT (d + 1) false t = rightT (d + 1) t by unfold rightT; rw [← hk, bs]; rfl)
      clear hs
      go_enter Try.func49, Try.ntmps49
      go_wp2_with fail
      rw [← hW0]
      refine (esize_any S _ _ _ _ _ HT.out (by omega) (by omega)).mono ?_
      rintro e w1 ⟨rfl, hb1⟩
      rw [← hk]
      clear hk
      obtain ⟨g0, g1, g2⟩ := HX.out.2 w1 hb1
      go_wp2_with fail
      refine (fits_any S _ _ _ _ _ (HT.out.below hb1)).mono ?_
      rintro e w2 ⟨rfl, hb2⟩
      rw [HE.out]
      go_wp2_with fail
      go_ret
      exact ⟨rfl, HX.out.1.trans ((hb1.trans (hb2.mono hb1.size)).mono HX.out.1.size)⟩
    · have bs := ile_false hs
      have HE := hid (show false = rightT (d + 1) t by unfold rightT; rw [← hk, bs]; rfl)
      clear hs
      go_enter Try.func49, Try.ntmps49
      go_wp2_with fail
      rw [← hW0]
      refine (esize_any S _ _ _ _ _ HT.out (by omega) (by omega)).mono ?_
      rintro e w1 ⟨rfl, hb1⟩
      rw [← hk]
      clear hk
      go_wp2_with fail
      go_ret
      exact ⟨ret_bool HE.out, HX.out.1.trans (hb1.mono HX.out.1.size)⟩
end Go.Proofs.Ytjcdcmeclnihbaa
