/- Whether an expression matches marks: the program's Matches. Condition: at most a thousand marks. -/
import Derived.Test.YtjcdcmeclnihbaaEx
import Derived.Test.YtjcdcmeclnihbaaRc
namespace Go.Proofs.Ytjcdcmeclnihbaa
open Go.RowKit
def matchesT {d : Nat} (t : Tr d) (marks : List Int) : Bool := rightT d t && nthB (endsT d t marks (true :: noB marks.length)) marks.length
theorem rep_set0 (n : Nat) : (Array.replicate (n + 1) (Value.bool false)).setIfInBounds 0 (.bool true) = ((true :: List.replicate n false).map Value.bool).toArray := by
  rw [← rep_bools, List.replicate_succ]
  simp
set_option maxRecDepth 100000 in
set_option maxHeartbeats 4000000 in
theorem matches_any (d : Nat) (v mv : Value) (t : Tr d) (marks : List Int) (w : World) (h : IsTr w Any d v t) (hm : IsNums .i64 w Any mv marks) (hn : marks.length ≤ 1000) :
    Calls Try.prog 27 #[v, mv] w fun e w' => e = .returned (.bool (matchesT t marks)) ∧ Below w.heap.size w w' := by
  have H := hid h
  cases d with
  | zero => exact t.elim
  | succ d =>
    obtain ⟨A, c, rfl, hle, -⟩ := h.open
    clear h
    obtain ⟨M, cm, rfl⟩ := hm.form
    have HMw := hid hm
    have HN := hid hn
    clear hm
    obtain ⟨n, hnn⟩ : ∃ n, n = marks.length := ⟨_, rfl⟩
    have HNN := hid hnn
    rw [← hnn] at hn
    have hml : marks.length = n := hnn.symm
    rw [hml]
    clear hnn hml
    obtain ⟨W, hW0⟩ : ∃ W, W = w.alloc (.cells #[.int .i64 (Tr.kind t), .int .i64 (Tr.cls t), .slice A (Tr.kids t).length c] 45) := ⟨_, rfl⟩
    have HX := hid (box3 hW0)
    have HT := hid (H.out.below HX.out.1)
    clear H
    have hmk := run_make_bools .i64 .i64 (n + 1) (by omega)
    have ec : ((n + 1 : Nat) : Int) = (n : Int) + 1 := by omega
    rw [ec] at hmk
    clear ec
    cases hr : rightT (d + 1) t with
    | false =>
      have HR := hid hr
      have HE := hid (show false = matchesT t marks by unfold matchesT; rw [hr]; rfl)
      clear hr
      go_enter Try.func27, Try.ntmps27
      go_wp2_with fail
      rw [← hW0]
      refine (eright_any Any _ _ _ _ HT.out).mono ?_
      rintro e w1 ⟨rfl, hb1⟩
      rw [HR.out]
      go_wp2_with fail
      go_ret
      exact ⟨ret_bool HE.out, HX.out.1.trans (hb1.mono HX.out.1.size)⟩
    | true =>
      have HR := hid hr
      have HFi := hid (rightT_cnt hr).2
      have HE := hid (show nthB (endsT (d + 1) t marks (true :: noB n)) n = matchesT t marks by unfold matchesT; rw [hr, HNN.out]; rfl)
      clear hr
      go_enter Try.func27, Try.ntmps27
      go_wp2_with fail
      rw [← hW0]
      refine (eright_any Any _ _ _ _ HT.out).mono ?_
      rintro e w1 ⟨rfl, hb1⟩
      rw [HR.out]
      obtain ⟨W2, hW2⟩ : ∃ W2, W2 = w1.alloc (.cells ((Array.replicate (n + 1) (Value.bool false)).setIfInBounds 0 (.bool true)) 4) := ⟨_, rfl⟩
      have HB2 := hid (hb1.trans ((show Below w1.heap.size w1 W2 by rw [hW2]; exact (Below.refl _ _).alloc (Nat.le_refl _) _).mono hb1.size))
      obtain ⟨g0, g1, g2⟩ := HX.out.2 W2 HB2.out
      rw [hW2] at g0 g1 g2
      go_wp2_with fail
      rw [← hW2]
      obtain ⟨q, hq⟩ : ∃ q, q = w1.heap.size := ⟨_, rfl⟩
      have HQ := hid (show W.heap.size ≤ q by rw [hq]; exact hb1.size)
      have HBK := hid (show BoolBlk W2 q (true :: noB n) by unfold BoolBlk noB; rw [← rep_set0, hW2, hq]; exact heap_alloc_new _ _)
      have HL2 := hid (show (true :: noB n).length = n + 1 by simp [noB])
      have HB2w := hid (HX.out.1.trans (HB2.out.mono HX.out.1.size))
      have hbs := HBK.out.bools (by rw [HL2.out]; omega)
      rw [HL2.out] at hbs
      have HBS := hid hbs
      rw [← hq]
      clear hq hW2 hb1 g0 g1 g2 hbs hmk
      refine (ends_any (d + 1) (fun b => b = q) _ t false _ _ marks _ W2 (HT.out.below HB2.out) HFi.out (by have h := HMw.out.below HB2w.out; rw [← HNN.out] at h; exact h) HBS.out (by rw [HL2.out, HNN.out]) HN.out).mono ?_
      rintro e w2 ⟨v2, rfl, hv2, hb2⟩
      have hlE : (endsT (d + 1) t marks (true :: noB n)).length = n + 1 := by rw [endsT_len _ _ _ _ (by rw [HL2.out, HNN.out]), HNN.out]
      obtain ⟨B2, c2, rfl, -, hA2⟩ := hv2.open
      obtain ⟨b, o, rfl, -, -, hc⟩ := hA2.bool (j := n) (by rw [hlE]; omega)
      rw [HE.out] at hc
      rw [hlE]
      have hn1 : n < n + 1 := by omega
      have HB3 := hid (HB2w.out.trans (hb2.mono HB2w.out.size))
      clear hlE hA2 hv2 hb2
      go_wp2_with fail
      go_ret
      exact ⟨rfl, HB3.out⟩
end Go.Proofs.Ytjcdcmeclnihbaa
