/- The first rule that applies at a place: the program's Which. Condition: at most 900 places. -/
import Derived.Test.YtjcdcmeclnihbaaKn
namespace Go.Proofs.Ytjcdcmeclnihbaa
open Go.RowKit
/-- What Which answers. -/
def whichP {d : Nat} (t : Tx d) (ids : List Int) (i : Int) : Int :=
  if i ≤ 0 ∨ (ids.length : Int) ≤ i then -1 else if nthB (hidL (knownT t).ig (knownT t).kp (ids.map classOf)) i.toNat = true then -1
  else atI (knownT t).rs (ids.map classOf) (hidL (knownT t).ig (knownT t).kp (ids.map classOf)) i.toNat
theorem put3_below {w Y : World} {p q : Nat} {u0 u1 u2 : Value} (h : Below q w Y) (hp : q ≤ p) : Below q w (((Y.setCell ⟨p, 0, none⟩ u0).setCell ⟨p, 1, none⟩ u1).setCell ⟨p, 2, none⟩ u2) :=
  ((h.setCell (p := ⟨p, 0, none⟩) hp _).setCell (p := ⟨p, 1, none⟩) hp _).setCell (p := ⟨p, 2, none⟩) hp _
theorem put3_keep {Y : World} {p b : Nat} {u0 u1 u2 : Value} (h : b ≠ p) : (((Y.setCell ⟨p, 0, none⟩ u0).setCell ⟨p, 1, none⟩ u1).setCell ⟨p, 2, none⟩ u2).heap[b]? = Y.heap[b]? := by
  rw [heap_setCell_other _ _ _ _ h, heap_setCell_other _ _ _ _ h, heap_setCell_other _ _ _ _ h]
theorem hidL_len (ig kp l : List Int) : (hidL ig kp l).length = l.length := by simp [hidL]
set_option maxRecDepth 100000 in
set_option maxHeartbeats 4000000 in
theorem Which_any (d : Nat) (v lv : Value) (t : Tx d) (ids : List Int) (i : Int) (w : World) (h : IsTx w Any d v t) (hl : IsNums .i64 w Any lv ids) (hn : ids.length ≤ 900) :
    Calls Try.prog 20 #[v, lv, .int .i64 i] w fun e w' => e = .returned (.int .i64 (whichP t ids i)) ∧ Below w.heap.size w w' := by
  have H := hid (h.imp (w' := w) (S' := fun b => b < w.heap.size) (fun _ _ _ => rfl) fun _ _ hlt => hlt)
  obtain ⟨I, ic, K, kc, A, c, rfl, -, -, -, -, -, -⟩ := h.open
  clear h
  obtain ⟨M, cm, rfl⟩ := hl.form
  have HM := hid hl
  have HN := hid hn
  clear hl hn
  obtain ⟨q, hq⟩ : ∃ q, q = w.heap.size := ⟨_, rfl⟩
  have HQ := hid hq
  obtain ⟨W, hW0⟩ : ∃ W, W = w.alloc (.cells #[.slice I t.ig.length ic, .slice K t.kp.length kc, .slice A t.rs.length c] 33) := ⟨_, rfl⟩
  have HX := hid (box3 hW0)
  have HBX := hid (show W.heap[q]? = some (.cells #[.slice I t.ig.length ic, .slice K t.kp.length kc, .slice A t.rs.length c] 33 (0, 0)) by rw [hW0, hq]; exact heap_alloc_new _ _)
  have HT := hid (H.out.below HX.out.1)
  clear H
  go_enter Try.func20, Try.ntmps20
  go_wp2_with fail
  rw [← hW0, ← hq]
  refine (known_any (fun b => b < w.heap.size) d _ t W HT.out).mono ?_
  rintro e w1 ⟨v1, rfl, ht1, hb1⟩
  obtain ⟨t1, hte⟩ : ∃ t1, t1 = knownT t := ⟨_, rfl⟩
  have HTE := hid hte
  rw [← hte] at ht1
  have HT1 := hid ht1
  obtain ⟨I1, ic1, K1, kc1, A1, c1, rfl, -, -, -, -, -, -⟩ := ht1.open
  have HB1 := hid (show Below q w w1 by rw [HQ.out]; exact HX.out.1.trans (hb1.mono HX.out.1.size))
  have HX1 := hid ((hb1.block q (by have := (Array.getElem?_eq_some_iff.1 HBX.out).1; omega)).trans HBX.out)
  clear ht1 hb1 hW0 hq hte
  obtain ⟨h0, h1, h2, hf⟩ := slot3 HX1.out
  have hf0 := hf 0
  have hf1 := hf 1
  have hf2 := hf 2
  clear hf
  go_wp2_with fail
  obtain ⟨w2, hw2⟩ : ∃ w2, w2 = (((w1.setCell ⟨q, 0, none⟩ (.slice I1 t1.ig.length ic1)).setCell ⟨q, 1, none⟩ (.slice K1 t1.kp.length kc1)).setCell ⟨q, 2, none⟩ (.slice A1 t1.rs.length c1)) := ⟨_, rfl⟩
  have HX2 := hid (show w2.heap[q]? = some (.cells #[.slice I1 t1.ig.length ic1, .slice K1 t1.kp.length kc1, .slice A1 t1.rs.length c1] 33 (0, 0)) by rw [hw2]; exact put3 _ _ _ HX1.out)
  have HB2 := hid (show Below q w w2 by rw [hw2]; exact put3_below HB1.out (Nat.le_refl _))
  have HB2' := hid (show Below w.heap.size w w2 by rw [← HQ.out]; exact HB2.out)
  have HT2 := hid (show IsTx w2 Any d (.agg #[.slice I1 t1.ig.length ic1, .slice K1 t1.kp.length kc1, .slice A1 t1.rs.length c1]) t1 from HT1.out.imp (fun b hb _ => by rw [hw2]; exact put3_keep (by rw [HQ.out]; omega)) fun _ _ _ => trivial)
  rw [← hw2]
  clear hw2 h0 h1 h2 hf0 hf1 hf2
  refine (classes_any Any _ ids w2 (HM.out.below HB2'.out) (by have := HN.out; omega)).mono ?_
  rintro e w3 ⟨v3, rfl, hv3, hb3⟩
  obtain ⟨l, hle⟩ : ∃ l, l = ids.map classOf := ⟨_, rfl⟩
  have hll : l.length = ids.length := by rw [hle]; simp
  rw [← hle] at hv3
  have HV3 := hid (hv3.mono (S' := Any) fun _ _ _ => trivial)
  obtain ⟨L3, c3, rfl⟩ := hv3.form
  have HX3 := hid ((hb3.block q (Array.getElem?_eq_some_iff.1 HX2.out).1).trans HX2.out)
  have HT3 := hid (HT2.out.below hb3)
  have HB3 := hid (HB2'.out.trans (hb3.mono HB2'.out.size))
  have HLL := hid hll
  have HLE := hid hle
  clear hv3 hb3 hle hll
  obtain ⟨n, hnn⟩ : ∃ n, n = l.length := ⟨_, rfl⟩
  have HNN := hid hnn
  have hn9 : n ≤ 900 := by rw [hnn, HLL.out]; exact HN.out
  rw [← hnn]
  clear hnn
  obtain ⟨h0, h1, h2, -⟩ := slot3 HX3.out
  go_wp2_with fail
  refine (hidden_any d _ _ t1 l w3 HT3.out (show IsNums .i64 w3 Any (.slice L3 n c3) l by have h := HV3.out; rw [← HNN.out] at h; exact h) (by rw [← HNN.out]; omega)).mono ?_
  rintro e w4 ⟨v4, rfl, hv4, hb4⟩
  obtain ⟨hide, hhe⟩ : ∃ hide, hide = hidL t1.ig t1.kp l := ⟨_, rfl⟩
  have HHL := hid (show hide.length = n by rw [hhe, hidL_len, HNN.out])
  rw [← hhe] at hv4
  have HV4 := hid (hv4.mono (S' := Any) fun _ _ _ => trivial)
  obtain ⟨H4, c4, rfl, -, -⟩ := hv4.open
  have HX4 := hid ((hb4.block q (Array.getElem?_eq_some_iff.1 HX3.out).1).trans HX3.out)
  have HT4 := hid (HT3.out.below hb4)
  have HL4 := hid ((show IsNums .i64 w3 Any (.slice L3 n c3) l by have h := HV3.out; rw [← HNN.out] at h; exact h).below hb4)
  have HB4 := hid (HB3.out.trans (hb4.mono HB3.out.size))
  have hh4 : hide.length = n := HHL.out
  rw [hh4]
  have hW : whichP t ids i = if i ≤ 0 ∨ (n : Int) ≤ i then -1 else if nthB hide i.toNat = true then -1 else atI t1.rs l hide i.toNat := by
    unfold whichP
    rw [← HTE.out, ← HLE.out, ← hhe, HNN.out, HLL.out]
  have HWP := hid hW
  clear hv4 hb4 hhe hW h0 h1 h2 hh4
  by_cases c0 : i ≤ 0
  · have b0 := ile_true c0
    have HE := hid (show (-1 : Int) = whichP t ids i by rw [HWP.out, if_pos (.inl c0)])
    clear c0
    go_wp2_with fail
    go_ret
    exact ⟨ret_int HE.out, HB4.out⟩
  have b0 := ile_false c0
  by_cases c1' : (n : Int) ≤ i
  · have b1 := ile_true c1'
    have HE := hid (show (-1 : Int) = whichP t ids i by rw [HWP.out, if_pos (.inr c1')])
    clear c0 c1'
    go_wp2_with fail
    go_ret
    exact ⟨ret_int HE.out, HB4.out⟩
  have HE0 := hid (show whichP t ids i = if nthB hide i.toNat = true then -1 else atI t1.rs l hide i.toNat by rw [HWP.out, if_neg (by omega)])
  obtain ⟨k, rfl⟩ : ∃ k : Nat, i = (k : Int) := ⟨i.toNat, by omega⟩
  have hk0 : 0 < k := by omega
  have hkn : k < n := by omega
  have HKK := hid (And.intro hk0 hkn)
  rw [Int.toNat_natCast] at HE0
  have b1 := ile_false c1'
  have hk1 : ¬ k = 0 := by omega
  have bn : decide (n ≤ k) = false := decide_eq_false (by omega)
  clear c0 c1' hk0
  obtain ⟨B4, cb4, heB, -, hA4⟩ := HV4.out.open
  rw [HHL.out] at heB
  obtain ⟨rfl, rfl⟩ : H4 = B4 ∧ c4 = cb4 := by simpa using heB
  obtain ⟨bh, oh, rfl, -, -, hch⟩ := hA4.bool (j := k) (by rw [HHL.out]; exact hkn)
  have HHB := hid (show IsBools w4 Any (.slice (some ⟨bh, oh, none⟩) hide.length c4) hide by have h := HV4.out; exact h)
  clear heB hA4
  cases hb : nthB hide k with
  | true =>
    rw [hb] at hch
    have HE := hid (show (-1 : Int) = whichP t ids k by rw [HE0.out, if_pos hb])
    clear hb
    go_wp2_with fail
    go_ret
    exact ⟨ret_int HE.out, HB4.out⟩
  | false =>
    rw [hb] at hch
    have HE := hid (show atI t1.rs l hide k = whichP t ids k by rw [HE0.out, if_neg (by rw [hb]; simp)])
    have HHF := hid hb
    obtain ⟨bl, ol, cl', hel, -, -, -⟩ := HL4.out.at (j := k) (by rw [← HNN.out]; exact hkn)
    obtain ⟨rfl, -⟩ : L3 = some ⟨bl, ol, none⟩ ∧ True := by simpa using (show L3 = some ⟨bl, ol, none⟩ by injection hel)
    have HLI := hid (show IsNums .i64 w4 Any (.slice (some ⟨bl, ol, none⟩) l.length c3) l by have h := HL4.out; rw [HNN.out] at h; exact h)
    obtain ⟨h0, h1, h2, -⟩ := slot3 HX4.out
    have hAT := at_any d _ t1 bl ol c3 bh oh c4 l hide k w4 HT4.out HLI.out HHB.out (by rw [HHL.out, HNN.out]) HKK.out.1 (by rw [← HNN.out]; exact HKK.out.2) HHF.out (by rw [← HNN.out]; exact hn9)
    rw [HHL.out, ← HNN.out] at hAT
    have HAT := hid hAT
    clear hb hel hAT
    go_wp2_with fail
    refine HAT.out.mono ?_
    rintro e w5 ⟨rfl, hb5⟩
    go_wp2_with fail
    go_ret
    exact ⟨ret_int HE.out, HB4.out.trans (hb5.mono HB4.out.size)⟩
end Go.Proofs.Ytjcdcmeclnihbaa
