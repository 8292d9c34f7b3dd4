/- The places to which a node leads from places: the program's ends: the walk. Conditions: a tree that fits; at most a thousand marks. -/
import Derived.Test.YtjcdcmeclnihbaaEm
namespace Go.Proofs.Ytjcdcmeclnihbaa
open Go.RowKit
/-- What stands behind so many marks. -/
def stepTo (kd cl : Int) (marks : List Int) (frm : List Bool) (k : Nat) : List Bool := (stepL kd cl marks frm).take (k + 1) ++ noB (frm.length - (k + 1))
theorem stepL_len {kd cl : Int} {marks : List Int} {frm : List Bool} (h : frm.length = marks.length + 1) : (stepL kd cl marks frm).length = frm.length := by simp [stepL, h]
theorem stepL_nth {kd cl : Int} {marks : List Int} {frm : List Bool} (h : frm.length = marks.length + 1) {k : Nat} (hk : k < marks.length) : nthB (stepL kd cl marks frm) (k + 1) = (nthB frm k && takesT kd cl (nth marks k)) := by
  unfold stepL nthB nth
  rw [List.getElem?_cons_succ, List.getElem?_zipWith, List.getElem?_eq_getElem hk, List.getElem?_eq_getElem (show k < frm.length by omega)]
  rfl
theorem stepTo_len {kd cl : Int} {marks : List Int} {frm : List Bool} {k : Nat} (h : frm.length = marks.length + 1) (hk : k ≤ marks.length) : (stepTo kd cl marks frm k).length = frm.length := by
  have := stepL_len (kd := kd) (cl := cl) h
  simp [stepTo, noB]; omega
theorem stepTo_nth {kd cl : Int} {marks : List Int} {frm : List Bool} {k j : Nat} (h : frm.length = marks.length + 1) (hk : k ≤ marks.length) (_hj : j < frm.length) : nthB (stepTo kd cl marks frm k) j = if j ≤ k then nthB (stepL kd cl marks frm) j else false := by
  have hl := stepL_len (kd := kd) (cl := cl) h
  unfold stepTo nthB
  by_cases e : j ≤ k
  · rw [if_pos e, List.getElem?_append_left (by simp; omega), List.getElem?_take, if_pos (by omega)]
  · rw [if_neg e, List.getElem?_append_right (by simp; omega)]
    unfold noB
    rw [List.getElem?_replicate]
    split <;> rfl
theorem stepTo_zero {kd cl : Int} {marks : List Int} {frm : List Bool} (h : frm.length = marks.length + 1) : stepTo kd cl marks frm 0 = noB frm.length := by
  unfold stepTo stepL noB
  rw [show frm.length = (frm.length - (0 + 1)) + 1 by omega, List.replicate_succ]
  rfl
theorem stepTo_all {kd cl : Int} {marks : List Int} {frm : List Bool} (h : frm.length = marks.length + 1) : stepTo kd cl marks frm marks.length = stepL kd cl marks frm := by
  unfold stepTo
  rw [List.take_of_length_le (by rw [stepL_len h]; omega), show frm.length - (marks.length + 1) = 0 by omega]
  simp [noB]
theorem stepTo_set {kd cl : Int} {marks : List Int} {frm : List Bool} {k : Nat} {z : Bool} (h : frm.length = marks.length + 1) (hk : k < marks.length) (hz : z = (nthB frm k && takesT kd cl (nth marks k))) : stepTo kd cl marks frm (k + 1) = (stepTo kd cl marks frm k).set (k + 1) z := by
  refine nthB_ext (by rw [List.length_set, stepTo_len h (by omega), stepTo_len h (by omega)]) fun j hj => ?_
  rw [stepTo_len h (by omega)] at hj
  rw [nthB_set (by rw [stepTo_len h (by omega)]; omega), stepTo_nth h (by omega) hj, stepTo_nth h (by omega) hj]
  by_cases e : k + 1 = j
  · subst e
    rw [if_pos (Nat.le_refl _), if_pos rfl, stepL_nth h hk, hz]
  · rw [if_neg e]
    by_cases hjk : j ≤ k
    · rw [if_pos (by omega), if_pos hjk]
    · rw [if_neg (by omega), if_neg hjk]
set_option maxRecDepth 100000 in
set_option maxHeartbeats 8000000 in
theorem ends_any : ∀ d : Nat, EndsIH d := by
  intro d
  induction d with
  | zero => intro S v t; exact t.elim
  | succ d ih =>
    intro S v t on mv fv marks frm w h hfit hm hf hl hn
    have HLOOP := hid (fun hk W hb => loop_any d (hid ih) (fun b => S b ∧ b < w.heap.size) v t on mv fv marks frm W (h.below hb) hfit (hm.below hb) ((hf.mono (S' := fun b => S b ∧ b < w.heap.size) fun b hs hlt => ⟨hs, hlt⟩).below hb) hl hn hk)
    obtain ⟨A, c, rfl, hle, hkids⟩ := h.open
    have hk1 := fitsT_kind hfit
    have hk2 := fun x hx => fitsT_kid hfit (x := x) hx
    have hres0 : endsT (d + 1) t marks frm = endsK (Tr.kind t) (Tr.cls t) (Tr.kids t) (fun k x => endsT d k marks x) marks frm := rfl
    obtain ⟨kd, hkd0⟩ : ∃ kd, kd = Tr.kind t := ⟨_, rfl⟩
    obtain ⟨cl, hcl⟩ : ∃ cl, cl = Tr.cls t := ⟨_, rfl⟩
    obtain ⟨l, hll⟩ : ∃ l, l = Tr.kids t := ⟨_, rfl⟩
    rw [← hkd0, ← hll] at hk1
    rw [← hll] at hk2
    rw [← hkd0, ← hcl, ← hll] at hres0 HLOOP ⊢
    rw [← hll] at hkids hle
    have HRES := hid hres0
    have HF := hid hk2
    clear hkd0 hcl hll h hfit hres0 hk2
    obtain ⟨R, hR⟩ : ∃ R, R = endsT (d + 1) t marks frm := ⟨_, rfl⟩
    rw [← hR] at HRES HLOOP ⊢
    have HRL := hid (show R.length = marks.length + 1 by rw [hR]; exact endsT_len (d + 1) t marks frm hl)
    clear hR
    obtain ⟨n, hnn⟩ : ∃ n, n = frm.length := ⟨_, rfl⟩
    have HNN := hid hnn
    have hn2 : n ≤ 1001 := by omega
    have hmn : n = marks.length + 1 := by omega
    have HMN := hid hmn
    have HML := hid hn
    have HFL := hid hl
    obtain ⟨B, cb, rfl, hbl, hBA⟩ := hf.open
    obtain ⟨M, cm, rfl⟩ := hm.form
    have HMw := hid hm
    have HFw := hid (hf.mono (S' := fun b => S b ∧ b < w.heap.size) fun b hs hlt => ⟨hs, hlt⟩)
    have HKw := hid hkids
    have IH := hid ih
    rw [← hnn] at HFw HLOOP ⊢
    have HSZ := hid (show (noB n).length = n by simp [noB])
    clear hf hm hkids hBA hbl hnn hmn hl ih
    have hmk := run_make_bools .i64 .i64 n (by omega)
    obtain ⟨q, hq⟩ : ∃ q, q = w.heap.size := ⟨_, rfl⟩
    have HQ := hid hq
    obtain ⟨W, hW0⟩ : ∃ W, W = (w.alloc (.cells #[.int .i64 kd, .int .i64 cl, .slice A l.length c] 45)).alloc (.cells (Array.replicate n (Value.bool false)) 4) := ⟨_, rfl⟩
    have HWW := hid (alloc2 hW0)
    rw [← hq] at HWW
    have HG0 := hid (show BoolBlk W (q + 1) (noB n) by unfold BoolBlk noB; rw [rep_bools]; exact HWW.out.2.1)
    have HWw := hid (show Below w.heap.size w W by rw [← HQ.out]; exact HWW.out.2.2.2)
    by_cases h4 : kd = 4
    · subst h4
      have HR := hid (show l.foldl (fun x k => endsT d k marks x) frm = R by rw [HRES.out]; unfold endsK; rw [if_pos rfl])
      clear hk1
      go_enter Try.func50, Try.ntmps50
      go_wp2_with fail
      rw [← hW0]
      clear hW0 hmk
      go_loopw [2, 9, 24] (fun s2 _ s24 wr => ∃ (k : Nat) (cur : List Bool), k ≤ l.length ∧ s24 = .int .i64 k ∧ Hid (cur.length = n) ∧ Hid (IsBools wr (fun b => S b ∧ b < w.heap.size ∨ w.heap.size ≤ b) s2 cur) ∧ Hid ((l.drop k).foldl (fun x k => endsT d k marks x) cur = R) ∧ Hid (Below w.heap.size w wr)) (fun _ _ s24 _ => l.length - (intOf s24).toNat)
      case atStart => exact ⟨0, frm, by omega, rfl, hid HNN.out.symm, hid (((HFw.out.below HWw.out).mono fun b hb _ => .inl hb)), hid HR.out, HWw⟩
      case round =>
        obtain ⟨k, cur, hk, rfl, HCL, HV, HT, HW⟩ := hrel
        obtain ⟨B2, cb2, rfl, -, -⟩ := HV.out.open
        by_cases hlt : k < l.length
        · obtain ⟨b, o, v0, v1, v2, rfl, -, hbs, c0, c1, c2, ht⟩ := (HKw.out.below HW.out).at (List.getElem?_eq_getElem hlt)
          obtain ⟨k0, k1, A2, n2, cp2, rfl, rfl, rfl⟩ := ht.cells
          have HFk := hid (HF.out _ (List.getElem_mem hlt))
          obtain ⟨X, hX⟩ : ∃ X, X = wr.alloc (.cells #[.int .i64 k0, .int .i64 k1, .slice A2 n2 cp2] 45) := ⟨_, rfl⟩
          have HXb := hid (box3 hX).1
          have HTX := hid (ht.below HXb.out)
          have HWX := hid (HW.out.trans (HXb.out.mono HW.out.size))
          have HVX := hid (HV.out.below HXb.out)
          have HN := hid (show (l.drop (k + 1)).foldl (fun x k => endsT d k marks x) (endsT d l[k] marks cur) = R by
            rw [← HT.out, List.drop_eq_getElem_cons hlt, List.foldl_cons])
          have HNL := hid (show (endsT d l[k] marks cur).length = n by rw [endsT_len d _ _ _ (by rw [HCL.out, HMN.out]), HMN.out])
          clear ht
          go_wp2_with fail
          rw [← hX]
          clear hX
          refine (IH.out _ _ _ _ _ _ _ _ _ HTX.out HFk.out (HMw.out.below HWX.out) HVX.out (by rw [HCL.out, HMN.out]) HML.out).mono ?_
          rintro e w1 ⟨v1, rfl, hv1, hb1⟩
          have HV1 := hid (hv1.mono (S' := fun b => S b ∧ b < w.heap.size ∨ w.heap.size ≤ b) (fun b hb _ => hb.elim (fun h => h) (fun h => .inr (Nat.le_trans HWX.out.size h))))
          have HW1 := hid (HWX.out.trans (hb1.mono HWX.out.size))
          clear hv1 hb1
          go_wp2_with fail
          go_roundw
          case rel => exact ⟨k + 1, _, by omega, by go_num, HNL, HV1, HN, HW1⟩
          case measure => simp [intOf]; omega
        · have HE := hid (show cur = R by rw [← HT.out, List.drop_eq_nil_of_le (by omega)]; rfl)
          go_wp2_with fail
          go_ret
          refine ⟨_, rfl, ?_, HW.out⟩
          rw [← HE.out]
          exact HV.out.mono fun b hb _ => hb.elim (fun h => .inl h.1) .inr
    by_cases h5 : kd = 5
    · subst h5
      have HR := hid (show l.foldl (fun o k => uni o (endsT d k marks frm)) (noB n) = R by rw [HRES.out]; unfold endsK; rw [if_neg h4, if_pos rfl, HNN.out])
      clear hk1 h4
      go_enter Try.func50, Try.ntmps50
      go_wp2_with fail
      rw [← hW0]
      rw [← hq]
      clear hW0 hmk hq
      go_loopw [11, 39] (fun _ s39 wr => ∃ (k : Nat) (o : List Bool), k ≤ l.length ∧ s39 = .int .i64 k ∧ Hid (o.length = n) ∧ Hid (BoolBlk wr (q + 1) o) ∧ Hid ((l.drop k).foldl (fun o k => uni o (endsT d k marks frm)) o = R) ∧ Hid (Below q w wr)) (fun _ s39 _ => l.length - (intOf s39).toNat)
      case atStart => exact ⟨0, noB n, by omega, rfl, HSZ, HG0, hid HR.out, hid HWW.out.2.2.2⟩
      case round =>
        obtain ⟨k, o1, hk, rfl, HOL, HG, HT, HW⟩ := hrel
        have HWr := hid (show Below w.heap.size w wr by rw [← HQ.out]; exact HW.out)
        by_cases hlt : k < l.length
        · obtain ⟨b, o, v0, v1, v2, rfl, -, hbs, c0, c1, c2, ht⟩ := (HKw.out.below HWr.out).at (List.getElem?_eq_getElem hlt)
          obtain ⟨k0, k1, A2, n2, cp2, rfl, rfl, rfl⟩ := ht.cells
          have HFk := hid (HF.out _ (List.getElem_mem hlt))
          obtain ⟨X, hX⟩ : ∃ X, X = wr.alloc (.cells #[.int .i64 k0, .int .i64 k1, .slice A2 n2 cp2] 45) := ⟨_, rfl⟩
          have HXb := hid (box3 hX).1
          have HTX := hid (ht.below HXb.out)
          have HWX := hid (HWr.out.trans (HXb.out.mono HWr.out.size))
          have HGX := hid (HG.out.below HXb.out)
          have HN := hid (show (l.drop (k + 1)).foldl (fun o k => uni o (endsT d k marks frm)) (uni o1 (endsT d l[k] marks frm)) = R by
            rw [← HT.out, List.drop_eq_getElem_cons hlt, List.foldl_cons])
          have HNL := hid (show (endsT d l[k] marks frm).length = n by rw [endsT_len d _ _ _ HFL.out, HMN.out])
          clear ht
          go_wp2_with fail
          rw [← hX]
          clear hX
          refine (IH.out _ _ _ _ _ _ _ _ _ HTX.out HFk.out (HMw.out.below HWX.out) (HFw.out.below HWX.out) HFL.out HML.out).mono ?_
          rintro e w1 ⟨v1, rfl, hv1, hb1⟩
          have HG1 := hid (HGX.out.below hb1)
          have HW1 := hid (HWX.out.trans (hb1.mono HWX.out.size))
          have HU := union_any (fun b => (S b ∧ b < w.heap.size) ∨ X.heap.size ≤ b) (q + 1) o1 _ v1 w1 HG1.out hv1 (by rw [HNL.out, HOL.out]) (fun k hk => hk.elim (fun h => by rw [HQ.out]; omega) (fun h => by have := HGX.out.lt; omega)) (by rw [HOL.out]; omega)
          rw [HOL.out] at HU
          replace HU := hid HU
          clear hv1 hb1
          go_wp2_with fail
          refine HU.out.mono ?_
          rintro e w2 ⟨rfl, hg2, hgr, hz2⟩
          have HG2 := hid hg2
          have HO2 := hid (show (uni o1 (endsT d l[k] marks frm)).length = n by rw [uni_len (by rw [HNL.out, HOL.out]), HOL.out])
          have HW2 := hid (show Below q w w2 from (show Below q w w1 by rw [HQ.out]; exact HW1.out).grown hgr (by have := HG1.out.lt; omega) (fun k e => by cases e; omega))
          clear hg2 hgr hz2
          go_wp2_with fail
          go_roundw
          case rel => exact ⟨k + 1, _, by omega, by go_num, HO2, HG2, HN, HW2⟩
          case measure => simp [intOf]; omega
        · have HE := hid (show o1 = R by rw [← HT.out, List.drop_eq_nil_of_le (by omega)]; rfl)
          go_wp2_with fail
          go_ret
          have hb := HG.out.bools (by rw [HOL.out]; omega)
          rw [HOL.out] at hb
          rw [HE.out] at hb
          exact ⟨_, rfl, hb.mono (fun b' hb' _ => .inr (by rw [hb', ← HQ.out]; omega)), HWr.out⟩
    by_cases h67 : kd = 6 ∨ kd = 7
    · have HLP := hid (HLOOP.out h67 W HWw.out)
      clear hk1 h4 h5 HLOOP
      have hLT : ∀ KD : Int, kd = KD → Calls Try.prog 74 #[.agg #[.int .i64 KD, .int .i64 cl, .slice A l.length c], .slice M marks.length cm, .slice B n cb] W (EndsAns (fun b => S b ∧ b < w.heap.size) W R) := fun KD e => by rw [← e]; exact HLP.out
      have HLT := hid hLT
      clear hLT
      rcases h67 with rfl | rfl
      · go_enter Try.func50, Try.ntmps50
        go_wp2_with fail
        rw [← hW0]
        refine (HLT.out _ rfl).mono ?_
        rintro e w1 ⟨v1, rfl, hv1, hb1⟩
        have HV1 := hid (hv1.mono (S' := fun b => S b ∨ w.heap.size ≤ b) (fun b hb _ => hb.elim (fun h => .inl h.1) (fun h => .inr (Nat.le_trans HWw.out.size h))))
        have HW1 := hid (HWw.out.trans (hb1.mono HWw.out.size))
        clear hv1 hb1
        go_wp2_with fail
        go_ret
        exact ⟨_, rfl, HV1.out, HW1.out⟩
      · go_enter Try.func50, Try.ntmps50
        go_wp2_with fail
        rw [← hW0]
        refine (HLT.out _ rfl).mono ?_
        rintro e w1 ⟨v1, rfl, hv1, hb1⟩
        have HV1 := hid (hv1.mono (S' := fun b => S b ∨ w.heap.size ≤ b) (fun b hb _ => hb.elim (fun h => .inl h.1) (fun h => .inr (Nat.le_trans HWw.out.size h))))
        have HW1 := hid (HWw.out.trans (hb1.mono HWw.out.size))
        clear hv1 hb1
        go_wp2_with fail
        go_ret
        exact ⟨_, rfl, HV1.out, HW1.out⟩
    clear HLOOP
    by_cases h8 : kd = 8
    · subst h8
      have hlen : l.length = 1 := by
        have h1 := hk1.2.2
        unfold least most at h1
        rw [if_neg (by omega), if_pos (by omega), if_neg (by omega)] at h1
        omega
      obtain ⟨x, rfl⟩ : ∃ x, l = [x] := by
        match l, hlen with
        | [x], _ => exact ⟨x, rfl⟩
      have HFx := hid (HF.out x (by simp))
      have HR := hid (show uni (uni (noB n) frm) (endsT d x marks frm) = R by rw [HRES.out]; unfold endsK; rw [if_neg h4, if_neg h5, if_neg h67, if_pos rfl, HNN.out])
      obtain ⟨b, o, k0, k1, A2, n2, p2, rfl, hbw, c0, c1, c2, hx⟩ := HKw.out.head
      have HTx := hid hx
      have HAT := hid (show ∀ Y : World, Below q w Y → Y.cell? ⟨b, o, none⟩ = some (.int .i64 k0) ∧ Y.cell? ⟨b, o + 1, none⟩ = some (.int .i64 k1) ∧ Y.cell? ⟨b, o + 2, none⟩ = some (.slice A2 n2 p2) from fun Y hY => by
        have hb := hY.block b (by rw [HQ.out]; exact hbw)
        exact ⟨(cell_same hb).trans c0, (cell_same hb).trans c1, (cell_same hb).trans c2⟩)
      have HU1 := union_any (fun b' => S b' ∧ b' < w.heap.size) (q + 1) (noB n) frm _ W HG0.out (HFw.out.below HWw.out) (by rw [HSZ.out, HNN.out]) (fun k hk => by have := hk.2; rw [HQ.out]; omega) (by rw [HSZ.out]; omega)
      rw [HSZ.out] at HU1
      replace HU1 := hid HU1
      clear hk1 h4 h5 h67 hlen hx c0 c1 c2
      simp only [List.length_singleton] at hW0
      go_enter Try.func50, Try.ntmps50
      go_wp2_with fail
      rw [← hW0]
      rw [← hq]
      refine HU1.out.mono ?_
      rintro e W1 ⟨rfl, hg1, hgr, hz1⟩
      have HO := hid (show (uni (noB n) frm).length = n by rw [uni_len (by rw [HSZ.out, HNN.out]), HSZ.out])
      have HG1 := hid hg1
      have HX1 := hid ((hgr.block q (by rw [HWW.out.2.2.1]; omega) (by simp)).trans HWW.out.1)
      have HWB := hid (HWW.out.2.2.2.grown hgr (by rw [HWW.out.2.2.1]; omega) (fun k e => by cases e; omega))
      have HWB' := hid (show Below w.heap.size w W1 by rw [← HQ.out]; exact HWB.out)
      clear hg1 hgr hz1 HU1 hq hmk hW0
      obtain ⟨f0, f1, f2, -⟩ := slot3 HX1.out
      obtain ⟨a0, a1, a2⟩ := HAT.out _ HWB.out
      go_wp2_with fail
      clear f0 f1 f2 a0 a1 a2
      refine (IH.out _ _ _ _ _ _ _ _ _ (HTx.out.below HWB'.out) HFx.out (HMw.out.below HWB'.out) (HFw.out.below HWB'.out) HFL.out HML.out).mono ?_
      rintro e w1 ⟨v1, rfl, hv1, hb1⟩
      have HNL := hid (show (endsT d x marks frm).length = n by rw [endsT_len d _ _ _ HFL.out, HMN.out])
      have HG2 := hid (HG1.out.below hb1)
      have HW1 := hid (HWB'.out.trans (hb1.mono HWB'.out.size))
      have HU := union_any (fun b => (S b ∧ b < w.heap.size) ∨ W1.heap.size ≤ b) (q + 1) (uni (noB n) frm) _ v1 w1 HG2.out hv1 (by rw [HNL.out, HO.out]) (fun k hk => hk.elim (fun h => by rw [HQ.out]; omega) (fun h => by have := HG1.out.lt; omega)) (by rw [HO.out]; omega)
      rw [HO.out] at HU
      replace HU := hid HU
      clear hv1 hb1
      go_wp2_with fail
      refine HU.out.mono ?_
      rintro e w2 ⟨rfl, hg2, hgr, hz2⟩
      have HG3 := hid hg2
      have HW2 := hid (HW1.out.grown hgr (by have := HG2.out.lt; rw [← HQ.out]; omega) (fun k e => by cases e; rw [← HQ.out]; omega))
      clear hg2 hgr hz2
      go_wp2_with fail
      go_ret
      have hb := HG3.out.bools (by rw [HR.out, HRL.out, ← HMN.out]; omega)
      rw [HR.out, HRL.out, ← HMN.out] at hb
      exact ⟨_, rfl, hb.mono (fun b' hb' _ => .inr (by rw [hb', ← HQ.out]; omega)), HW2.out⟩
    by_cases h9 : kd = 9
    · subst h9
      have HR := hid (show frm = R by rw [HRES.out]; unfold endsK; rw [if_neg h4, if_neg h5, if_neg h67, if_neg h8, if_pos rfl])
      clear hk1 h4 h5 h67 h8
      go_enter Try.func50, Try.ntmps50
      go_wp2_with fail
      rw [← hW0]
      go_ret
      rw [← HR.out]
      exact ⟨_, rfl, ((HFw.out.below HWw.out).mono fun b hb _ => .inl hb.1), HWw.out⟩
    have HR := hid (show stepL kd cl marks frm = R by rw [HRES.out]; unfold endsK; rw [if_neg h4, if_neg h5, if_neg h67, if_neg h8, if_neg h9])
    have b4 := ieq_false h4
    have b5 := ieq_false h5
    have b6 := ieq_false (show kd ≠ 6 from fun e => h67 (.inl e))
    have b7 := ieq_false (show kd ≠ 7 from fun e => h67 (.inr e))
    have b8 := ieq_false h8
    have b9 := ieq_false h9
    have hml := HML.out
    clear hk1 h4 h5 h67 h8 h9
    go_enter Try.func50, Try.ntmps50
    go_wp2_with fail
    rw [← hW0]
    rw [← hq]
    clear hW0 hmk hq b4 b5 b6 b7 b8 b9
    go_loopw [12, 13, 78] (fun _ _ s78 wr => ∃ (k : Nat), k ≤ marks.length ∧ s78 = .int .i64 k ∧ Hid (BoolBlk wr (q + 1) (stepTo kd cl marks frm k)) ∧ Hid (wr.heap[q]? = some (.cells #[.int .i64 kd, .int .i64 cl, .slice A l.length c] 45 (0, 0))) ∧ Hid (Below q w wr)) (fun _ _ s78 _ => marks.length - (intOf s78).toNat)
    case atStart => exact ⟨0, by omega, rfl, hid (by rw [stepTo_zero HFL.out, ← HNN.out]; exact HG0.out), hid HWW.out.1, hid HWW.out.2.2.2⟩
    case round =>
      obtain ⟨k, hk, rfl, HG, HX, HW⟩ := hrel
      have HWr := hid (show Below w.heap.size w wr by rw [← HQ.out]; exact HW.out)
      by_cases hlt : k < marks.length
      · obtain ⟨bm, om, cm', hem, -, hbm, hcm⟩ := (HMw.out.below HWr.out).at hlt
        obtain ⟨rfl, rfl⟩ : M = some ⟨bm, om, none⟩ ∧ cm = cm' := by simpa using hem
        obtain ⟨B', cb', heB, -, hBA⟩ := (HFw.out.below HWr.out).open
        obtain ⟨rfl, rfl⟩ : B = B' ∧ cb = cb' := by simpa [HNN.out] using heB
        obtain ⟨bf, of', rfl, -, hbf, hcf⟩ := hBA.bool (j := k) (by rw [← HNN.out]; have := HMN.out; omega)
        have hku : k + 1 < (stepTo kd cl marks frm k).length := by rw [stepTo_len HFL.out (by omega), ← HNN.out]; have := HMN.out; omega
        have hkn : k < n := by have := HMN.out; omega
        have hkn1 : k + 1 < n := by have := HMN.out; omega
        have hcg := HG.out.cell hku
        have hfg := HG.out.frozen (k + 1)
        obtain ⟨y, hy⟩ : ∃ y, y = nthB (stepTo kd cl marks frm k) (k + 1) := ⟨_, rfl⟩
        rw [← hy] at hcg
        obtain ⟨m, hm⟩ : ∃ m, m = nth marks k := ⟨_, rfl⟩
        rw [← hm] at hcm
        clear hem heB hBA hku hy
        cases hfk : nthB frm k with
        | false =>
          rw [hfk] at hcf
          have HN := hid (show BoolBlk (wr.setCell ⟨q + 1, k + 1, none⟩ (.bool false)) (q + 1) (stepTo kd cl marks frm (k + 1)) by
            rw [stepTo_set (z := false) HFL.out hlt (by rw [hfk]; rfl)]; exact HG.out.set _ _)
          have HX2 := hid (show (wr.setCell ⟨q + 1, k + 1, none⟩ (.bool false)).heap[q]? = _ from (heap_setCell_other _ _ _ _ (by simp)).trans HX.out)
          have HW2 := hid (show Below q w (wr.setCell ⟨q + 1, k + 1, none⟩ (.bool false)) from HW.out.setCell (p := ⟨q + 1, k + 1, none⟩) (by show q ≤ q + 1; omega) _)
          clear hfk hm
          go_wp2_with fail
          go_roundw
          case rel => exact ⟨k + 1, by omega, by go_num, HN, HX2, HW2⟩
          case measure => simp [intOf]; omega
        | true =>
          rw [hfk] at hcf
          obtain ⟨f0, f1, f2, -⟩ := slot3 HX.out
          have HZ := hid (show takesT kd cl m = (nthB frm k && takesT kd cl (nth marks k)) by rw [hfk, ← hm]; rfl)
          have HGl := hid HG.out.lt
          clear hfk hm hcg hfg
          go_wp2_with (go_at_call 75; refine (takes_any _ _ _ _ _ _ _).mono ?_; rintro e w1 ⟨rfl, hb1⟩; have HG1 := hid (HG.out.below hb1); have hfg := HG1.out.frozen (k + 1); have hcg := HG1.out.cell (j := k + 1) (by rw [stepTo_len HFL.out (by omega), ← HNN.out]; exact hkn1))
          have HN := hid (show BoolBlk (w1.setCell ⟨q + 1, k + 1, none⟩ (.bool (takesT kd cl m))) (q + 1) (stepTo kd cl marks frm (k + 1)) by
            rw [stepTo_set HFL.out hlt HZ.out]; exact HG1.out.set _ _)
          have HX2 := hid (show (w1.setCell ⟨q + 1, k + 1, none⟩ (.bool (takesT kd cl m))).heap[q]? = _ from (heap_setCell_other _ _ _ _ (by simp)).trans ((hb1.block q (by have := HGl.out; omega)).trans HX.out))
          have HW2 := hid (show Below q w (w1.setCell ⟨q + 1, k + 1, none⟩ (.bool (takesT kd cl m))) from (HW.out.trans (hb1.mono (by have := HGl.out; omega))).setCell (p := ⟨q + 1, k + 1, none⟩) (by show q ≤ q + 1; omega) _)
          clear hcg hfg f0 f1 f2 hb1
          go_wp2_with fail
          go_roundw
          case rel => exact ⟨k + 1, by omega, by go_num, HN, HX2, HW2⟩
          case measure => simp [intOf]; omega
      · obtain rfl : k = marks.length := by omega
        have HE := hid (show BoolBlk wr (q + 1) R by rw [← HR.out, ← stepTo_all HFL.out]; exact HG.out)
        go_wp2_with fail
        go_ret
        have hb := HE.out.bools (by rw [HRL.out]; omega)
        rw [HRL.out, ← HMN.out] at hb
        exact ⟨_, rfl, hb.mono (fun b' hb' _ => .inr (by rw [hb', ← HQ.out]; omega)), HWr.out⟩
end Go.Proofs.Ytjcdcmeclnihbaa
