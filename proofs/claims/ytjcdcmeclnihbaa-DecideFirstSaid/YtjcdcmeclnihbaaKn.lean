/- A meaning, or none, if it isn't right: the program's known; which places are hidden: Hidden; the first rule that applies: Which. Condition: at most 900 places. -/
import Derived.Test.YtjcdcmeclnihbaaAt
import Derived.Test.YtjcdcmeclnihbaaHd
namespace Go.Proofs.Ytjcdcmeclnihbaa
open Go.RowKit
def knownT {d : Nat} (t : Tx d) : Tx d := if txB t = true then t else ⟨[], [], []⟩
theorem IsTx.nil (w : World) (S : Nat → Prop) (d : Nat) : IsTx w S d (.agg #[.slice none 0 0, .slice none 0 0, .slice none 0 0]) (⟨[], [], []⟩ : Tx d) :=
  ⟨_, _, none, 0, rfl, ⟨none, 0, rfl, Nat.le_refl _, Nat.zero_le _, Arr.nil⟩, ⟨none, 0, rfl, Nat.le_refl _, Nat.zero_le _, Arr.nil⟩, Nat.le_refl _, Nat.zero_le _, fun k r h => by simp at h⟩
set_option maxRecDepth 100000 in
set_option maxHeartbeats 2000000 in
theorem known_any (S : Nat → Prop) (d : Nat) (v : Value) (t : Tx d) (w : World) (h : IsTx w S d v t) :
    Calls Try.prog 37 #[v] w fun e w' => ∃ v', e = .returned v' ∧ IsTx w' S d v' (knownT t) ∧ Below w.heap.size w w' := by
  have H := hid h
  obtain ⟨I, ic, K, kc, A, c, rfl, -, -, -, -, -, -⟩ := h.open
  clear h
  obtain ⟨q, hq⟩ : ∃ q, q = w.heap.size := ⟨_, rfl⟩
  have HQ := hid hq
  obtain ⟨W, hW0⟩ : ∃ W, W = (w.alloc (.cells #[.slice I t.ig.length ic, .slice K t.kp.length kc, .slice A t.rs.length c] 33)).alloc (.cells #[.slice none 0 0, .slice none 0 0, .slice none 0 0] 33) := ⟨_, rfl⟩
  have HWW := hid (alloc2 hW0)
  rw [← hq] at HWW
  have HWw := hid (show Below w.heap.size w W by rw [← HQ.out]; exact HWW.out.2.2.2)
  have HT := hid (H.out.below HWw.out)
  cases hr : txB t with
  | false =>
    have HR := hid hr
    have HE := hid (show knownT t = ⟨[], [], []⟩ by unfold knownT; rw [hr]; rfl)
    clear hr
    go_enter Try.func37, Try.ntmps37
    go_wp2_with fail
    rw [← hW0]
    refine (txRight_any S d _ t W HT.out).mono ?_
    rintro e w1 ⟨rfl, hb1⟩
    rw [HR.out, ← hq]
    have HP := hid ((hb1.block (q + 1) (by rw [HWW.out.2.2.1]; omega)).trans HWW.out.2.1)
    have HB1 := hid (show Below q w w1 by rw [HQ.out]; exact HWw.out.trans (hb1.mono HWw.out.size))
    clear hb1 hW0 hq
    obtain ⟨h0, h1, h2, hf⟩ := slot3 HP.out
    have hf0 := hf 0
    have hf1 := hf 1
    have hf2 := hf 2
    clear hf
    go_wp2_with fail
    obtain ⟨e0, e1, e2, -⟩ := slot3 (put3 (.slice none 0 0) (.slice none 0 0) (.slice none 0 0) HP.out)
    refine bodyPost_ret (v := .agg #[.slice none 0 0, .slice none 0 0, .slice none 0 0]) (by simp [results, Try.results37, go_sem, e0, e1, e2]) rfl ⟨_, rfl, ?_, ?_⟩
    · rw [HE.out]; exact IsTx.nil _ _ _
    · rw [← HQ.out]
      exact ((HB1.out.setCell (p := ⟨q + 1, 0, none⟩) (by show q ≤ q + 1; omega) _).setCell (p := ⟨q + 1, 1, none⟩) (by show q ≤ q + 1; omega) _).setCell (p := ⟨q + 1, 2, none⟩) (by show q ≤ q + 1; omega) _
  | true =>
    have HR := hid hr
    have HE := hid (show knownT t = t by unfold knownT; rw [hr]; rfl)
    clear hr
    go_enter Try.func37, Try.ntmps37
    go_wp2_with fail
    rw [← hW0]
    refine (txRight_any S d _ t W HT.out).mono ?_
    rintro e w1 ⟨rfl, hb1⟩
    rw [HR.out, ← hq]
    have HP := hid ((hb1.block (q + 1) (by rw [HWW.out.2.2.1]; omega)).trans HWW.out.2.1)
    have HX := hid ((hb1.block q (by rw [HWW.out.2.2.1]; omega)).trans HWW.out.1)
    have HB1 := hid (show Below q w w1 by rw [HQ.out]; exact HWw.out.trans (hb1.mono HWw.out.size))
    clear hb1 hW0 hq
    obtain ⟨h0, h1, h2, hf⟩ := slot3 HP.out
    have hf0 := hf 0
    have hf1 := hf 1
    have hf2 := hf 2
    clear hf
    obtain ⟨g0, g1, g2, -⟩ := slot3 HX.out
    go_wp2_with fail
    obtain ⟨e0, e1, e2, -⟩ := slot3 (put3 (.slice I t.ig.length ic) (.slice K t.kp.length kc) (.slice A t.rs.length c) HP.out)
    have hbf : Below q w (((w1.setCell ⟨q + 1, 0, none⟩ (.slice I t.ig.length ic)).setCell ⟨q + 1, 1, none⟩ (.slice K t.kp.length kc)).setCell ⟨q + 1, 2, none⟩ (.slice A t.rs.length c)) :=
      ((HB1.out.setCell (p := ⟨q + 1, 0, none⟩) (by show q ≤ q + 1; omega) _).setCell (p := ⟨q + 1, 1, none⟩) (by show q ≤ q + 1; omega) _).setCell (p := ⟨q + 1, 2, none⟩) (by show q ≤ q + 1; omega) _
    refine bodyPost_ret (v := .agg #[.slice I t.ig.length ic, .slice K t.kp.length kc, .slice A t.rs.length c]) (by simp [results, Try.results37, go_sem, e0, e1, e2]) rfl ⟨_, rfl, ?_, ?_⟩
    · rw [HE.out]; rw [HQ.out] at hbf; rw [HQ.out]; exact H.out.below hbf
    · rw [← HQ.out]; exact hbf
set_option maxRecDepth 100000 in
set_option maxHeartbeats 2000000 in
theorem Hidden_any (d : Nat) (v lv : Value) (t : Tx d) (ids : List Int) (w : World) (h : IsTx w Any d v t) (hl : IsNums .i64 w Any lv ids) (hn : ids.length ≤ 1000) :
    Calls Try.prog 18 #[v, lv] w fun e w' => ∃ v', e = .returned v' ∧ IsBools w' (fun b => w.heap.size ≤ b) v' (hidL (knownT t).ig (knownT t).kp (ids.map classOf)) ∧ Below w.heap.size w w' := by
  have H := hid h
  obtain ⟨I, ic, K, kc, A, c, rfl, -, -, -, -, -, -⟩ := h.open
  clear h
  obtain ⟨M, cm, rfl⟩ := hl.form
  have HM := hid hl
  have HN := hid hn
  clear hl hn
  obtain ⟨W, hW0⟩ : ∃ W, W = w.alloc (.cells #[.slice I t.ig.length ic, .slice K t.kp.length kc, .slice A t.rs.length c] 33) := ⟨_, rfl⟩
  have HX := hid (box3 hW0)
  have HT := hid (H.out.below HX.out.1)
  clear H
  go_enter Try.func18, Try.ntmps18
  go_wp2_with fail
  rw [← hW0]
  refine (known_any Any d _ t W HT.out).mono ?_
  rintro e w1 ⟨v1, rfl, ht1, hb1⟩
  have HT1 := hid ht1
  have HB1 := hid (HX.out.1.trans (hb1.mono HX.out.1.size))
  clear ht1 hb1 hW0
  go_wp2_with fail
  refine (classes_any Any _ ids w1 (HM.out.below HB1.out) HN.out).mono ?_
  rintro e w2 ⟨v2, rfl, hv2, hb2⟩
  have HV2 := hid (hv2.mono (S' := Any) fun _ _ _ => trivial)
  have HT2 := hid (HT1.out.below hb2)
  have HB2 := hid (HB1.out.trans (hb2.mono HB1.out.size))
  clear hv2 hb2
  go_wp2_with fail
  refine (hidden_any d _ _ (knownT t) (ids.map classOf) w2 HT2.out HV2.out (by rw [List.length_map]; exact HN.out)).mono ?_
  rintro e w3 ⟨v3, rfl, hv3, hb3⟩
  have HV3 := hid (hv3.mono (S' := fun b => w.heap.size ≤ b) fun b hb _ => Nat.le_trans HB2.out.size hb)
  have HB3 := hid (HB2.out.trans (hb3.mono HB2.out.size))
  clear hv3 hb3
  go_wp2_with fail
  go_ret
  exact ⟨_, rfl, HV3.out, HB3.out⟩
end Go.Proofs.Ytjcdcmeclnihbaa
