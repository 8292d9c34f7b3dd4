/- As many parts as one likes: the program's loop, given what ends does of the part: the walk. Conditions: a tree that fits; at most a thousand marks. -/
import Derived.Test.YtjcdcmeclnihbaaEl
namespace Go.Proofs.Ytjcdcmeclnihbaa
open Go.RowKit
set_option maxRecDepth 100000 in
set_option maxHeartbeats 4000000 in
theorem loop_any (d : Nat) (IH : Hid (EndsIH d)) (S : Nat → Prop) (v : Value) (t : Tr (d + 1)) (on : Bool) (mv fv : Value) (marks : List Int) (frm : List Bool) (w : World) (h : IsTr w Any (d + 1) v t) (hfit : fitsT (d + 1) on t = true)
    (hm : IsNums .i64 w Any mv marks) (hf : IsBools w S fv frm) (hl : frm.length = marks.length + 1) (hn : marks.length ≤ 1000) (hkd : Tr.kind t = 6 ∨ Tr.kind t = 7) :
    Calls Try.prog 74 #[v, mv, fv] w (EndsAns S w (endsT (d + 1) t marks frm)) := by
  obtain ⟨A, c, rfl, hle, hkids⟩ := h.open
  have hk1 := fitsT_kind hfit
  have hk2 := fun x hx => fitsT_kid hfit (x := x) hx
  have hres0 : endsT (d + 1) t marks frm = endsK (Tr.kind t) (Tr.cls t) (Tr.kids t) (fun k x => endsT d k marks x) marks frm := rfl
  obtain ⟨kd, hkd0⟩ : ∃ kd, kd = Tr.kind t := ⟨_, rfl⟩
  obtain ⟨cl, hcl⟩ : ∃ cl, cl = Tr.cls t := ⟨_, rfl⟩
  obtain ⟨l, hll⟩ : ∃ l, l = Tr.kids t := ⟨_, rfl⟩
  rw [← hkd0, ← hll] at hk1
  rw [← hll] at hk2
  rw [← hkd0, ← hcl, ← hll] at hres0 ⊢
  rw [← hkd0] at hkd
  rw [← hll] at hkids
  clear hkd0 hcl hll h hle hfit
  have hlen : l.length = 1 := by
    have h1 := hk1.2.2
    unfold least most at h1
    rw [if_neg (by omega), if_pos (by omega), if_neg (by omega)] at h1
    omega
  obtain ⟨x, rfl⟩ : ∃ x, l = [x] := by
    match l, hlen with
    | [x], _ => exact ⟨x, rfl⟩
  have HFx := hid (hk2 x (by simp))
  clear hk1 hk2 hlen
  obtain ⟨FF, hFF⟩ : ∃ FF : List Bool → List Bool, FF = fun y => endsT d x marks y := ⟨_, rfl⟩
  have hlenF : ∀ y, y.length = marks.length + 1 → (FF y).length = marks.length + 1 := fun y hy => by rw [hFF]; exact endsT_len d x marks y hy
  obtain ⟨n, hnn⟩ : ∃ n, n = frm.length := ⟨_, rfl⟩
  have HNN := hid hnn
  have hn1 : n = marks.length + 1 := by rw [hnn, hl]
  have HLF := hid (show ∀ y : List Bool, y.length = n → (FF y).length = n by rw [hn1]; exact hlenF)
  have HFF := hid hFF
  have HML := hid hn
  have HFL := hid hl
  have hn2 : n ≤ 1001 := by omega
  obtain ⟨B, cb, rfl, hbl, hBA⟩ := hf.open
  obtain ⟨M, cm, rfl⟩ := hm.form
  have HMw := hid hm
  have HFw := hid (hf.mono (S' := fun b => S b ∧ b < w.heap.size) fun b hs hlt => ⟨hs, hlt⟩)
  have HKw := hid hkids
  obtain ⟨b, o, k0, k1, A2, n2, p2, rfl, hbw, c0, c1, c2, hx⟩ := hkids.head
  have HTx := hid hx
  clear hx
  rw [← hnn] at HFw ⊢
  have hbl2 : n ≤ 9223372036854775807 := by omega
  clear hf hm hkids hBA hbl hnn hn1 hlenF hFF hn hl
  have hmk := run_make_bools .i64 .i64 n (by omega)
  obtain ⟨q, hq⟩ : ∃ q, q = w.heap.size := ⟨_, rfl⟩
  have HQ := hid hq
  obtain ⟨W, hW0⟩ : ∃ W, W = (w.alloc (.cells #[.int .i64 kd, .int .i64 cl, .slice (some ⟨b, o, none⟩) 1 c] 45)).alloc (.cells (Array.replicate n (Value.bool false)) 4) := ⟨_, rfl⟩
  have HWW := hid (alloc2 hW0)
  rw [← hq] at HWW
  have HG0 := hid (show BoolBlk W (q + 1) (noB n) by unfold BoolBlk noB; rw [rep_bools]; exact HWW.out.2.1)
  -- what lies in any later world
  have hat : ∀ Y : World, Below q w Y → Y.cell? ⟨b, o, none⟩ = some (.int .i64 k0) ∧ Y.cell? ⟨b, o + 1, none⟩ = some (.int .i64 k1) ∧ Y.cell? ⟨b, o + 2, none⟩ = some (.slice A2 n2 p2) := fun Y hY => by
    have hb := hY.block b (by rw [HQ.out]; exact hbw)
    exact ⟨(cell_same hb).trans c0, (cell_same hb).trans c1, (cell_same hb).trans c2⟩
  have HAT := hid hat
  clear hat c0 c1 c2
  rcases hkd with rfl | rfl
  · have HR := hid (show loopP FF (n + 1) (uni (noB n) frm) (FF frm) = endsT (d + 1) t marks frm by
      rw [hres0]; unfold endsK; rw [if_neg (by omega), if_neg (by omega), if_pos (.inl rfl)]; simp only [HFF.out, HNN.out]; rfl)
    clear hres0
    go_enter Try.func74, Try.ntmps74
    go_wp2_with fail
    rw [← hW0]
    have hsz : (noB n).length = n := by simp [noB]
    have HU := hid (union_any (fun b' => S b' ∧ b' < w.heap.size) (q + 1) (noB n) frm _ W HG0.out (HFw.out.below (by rw [← HQ.out]; exact HWW.out.2.2.2)) (by rw [hsz, HNN.out]) (fun k hk => by have := hk.2; rw [HQ.out]; omega) (by rw [hsz]; omega))
    rw [hsz] at HU
    have HSZ := hid hsz
    clear hsz hW0
    rw [← hq]
    refine HU.out.mono ?_
    rintro e W1 ⟨rfl, hg1, hgr, hz1⟩
    have HO := hid (show (uni (noB n) frm).length = n by rw [uni_len (by rw [HSZ.out, HNN.out]), HSZ.out])
    have HG1 := hid hg1
    have HX1 := hid ((hgr.block q (by rw [HWW.out.2.2.1]; omega) (by simp)).trans HWW.out.1)
    have HWB := hid (HWW.out.2.2.2.grown hgr (by rw [HWW.out.2.2.1]; omega) (fun k e => by cases e; omega))
    clear hg1 hgr hz1 HU hq hmk
    have HWB' := hid (show Below w.heap.size w W1 by rw [← HQ.out]; exact HWB.out)
    obtain ⟨f0, f1, f2, -⟩ := slot3 HX1.out
    obtain ⟨a0, a1, a2⟩ := HAT.out _ HWB.out
    go_wp2_with fail
    clear f0 f1 f2 a0 a1 a2
    refine (IH.out (fun b' => S b' ∧ b' < w.heap.size) _ _ _ _ _ _ _ _ (HTx.out.below HWB'.out) HFx.out (HMw.out.below HWB'.out) (HFw.out.below HWB'.out) HFL.out HML.out).mono ?_
    rintro e w1 ⟨v1, rfl, hv1, hb1⟩
    obtain ⟨nx, hnx⟩ : ∃ nx, nx = FF frm := ⟨_, rfl⟩
    have hfx : endsT d x marks frm = nx := by rw [hnx, HFF.out]
    have HL1 := hid (show nx.length = n by rw [hnx]; exact HLF.out frm HNN.out.symm)
    have HR2 := hid (show loopP FF (n + 1) (uni (noB n) frm) nx = endsT (d + 1) t marks frm by rw [hnx]; exact HR.out)
    rw [hfx] at hv1
    clear hnx hfx
    have HV1 := hid (hv1.mono (S' := fun b' => S b' ∧ b' < q ∨ q + 2 ≤ b') (fun b' hb' _ => hb'.elim (fun h => .inl (by rw [HQ.out]; exact h)) (fun h => .inr (by have := HG1.out.lt; omega))))
    have HB1 := hid (HG1.out.below hb1)
    have HX2 := hid ((hb1.block q (by have := HG1.out.lt; omega)).trans HX1.out)
    have HW1 := hid (HWB.out.trans (hb1.mono (by have := HG1.out.lt; omega)))
    clear hv1 hb1
    go_wp2_with fail
    go_loopw [8] (fun s8 wr => ∃ (o1 nx1 : List Bool) (f : Nat), Hid (o1.length = n) ∧ Hid (nx1.length = n) ∧ Hid (falses o1 < f) ∧ Hid (loopP FF f o1 nx1 = endsT (d + 1) t marks frm) ∧ Hid (BoolBlk wr (q + 1) o1) ∧ Hid (IsBools wr (fun b' => S b' ∧ b' < q ∨ q + 2 ≤ b') s8 nx1) ∧ Hid (wr.heap[q]? = some (.cells #[.int .i64 6, .int .i64 cl, .slice (some ⟨b, o, none⟩) 1 c] 45 (0, 0))) ∧ Hid (Below q w wr)) (fun _ wr => fallsAt wr (q + 1))
    case atStart => exact ⟨(uni (noB n) frm), nx, n + 1, HO, HL1, hid (by have := falses_le ((uni (noB n) frm)); rw [HO.out] at this; omega), HR2, HB1, HV1, HX2, HW1⟩
    case round =>
      obtain ⟨o1, nx1, f, HO1, HN1, HFA, HT, HG2, HV, HX3, HW2⟩ := hrel
      obtain ⟨B2, cb2, rfl, -, -⟩ := HV.out.open
      have hU := union_any (fun b' => S b' ∧ b' < q ∨ q + 2 ≤ b') (q + 1) o1 nx1 _ wr HG2.out HV.out (by rw [HN1.out, HO1.out]) (fun k hk => by omega) (by rw [HO1.out]; omega)
      rw [HO1.out] at hU
      have HU := hid hU
      clear hU
      have hlf : nx1.length = n := HN1.out
      rw [hlf] at HU HV ⊢
      clear hlf
      cases hm : moreB o1 nx1 with
      | false =>
        have HM := hid hm
        clear hm
        go_wp2_with fail
        refine HU.out.mono ?_
        rintro e w2 ⟨rfl, hg2, hgr, hz2⟩
        rw [HM.out]
        have HE := hid (show o1 = endsT (d + 1) t marks frm by
          rw [← HT.out]
          cases f with
          | zero => have := HFA.out; omega
          | succ f => simp only [loopP]; rw [HM.out]; rfl)
        have HG3 := hid (show BoolBlk w2 (q + 1) o1 by rw [uni_same (by rw [HN1.out, HO1.out]) HM.out] at hg2; exact hg2)
        have HW3 := hid (HW2.out.grown hgr (by have := HG2.out.lt; omega) (fun k e => by cases e; omega))
        clear hg2 hgr hz2
        go_wp2_with fail
        go_ret
        have hb := HG3.out.bools (by rw [HO1.out]; omega)
        rw [HE.out] at hb
        have hlE : (endsT (d + 1) t marks frm).length = n := by rw [← HE.out, HO1.out]
        rw [hlE] at hb
        exact ⟨_, rfl, hb.mono (fun b' hb' _ => .inr (by rw [hb', ← HQ.out]; omega)), by rw [← HQ.out]; exact HW3.out⟩
      | true =>
        have HM := hid hm
        clear hm
        go_wp2_with fail
        refine HU.out.mono ?_
        rintro e w2 ⟨rfl, hg2, hgr, hz2⟩
        rw [HM.out]
        have HG3 := hid hg2
        have HW3 := hid (HW2.out.grown hgr (by have := HG2.out.lt; omega) (fun k e => by cases e; omega))
        have HW3' := hid (show Below w.heap.size w w2 by rw [← HQ.out]; exact HW3.out)
        have HX4 := hid ((hgr.block q (by have := HG2.out.lt; omega) (by simp)).trans HX3.out)
        have HV3 := hid (HV.out.keep (w' := w2) (fun b' hb' hlt => hgr.block b' hlt (by intro e; injection e with e; omega)))
        clear hg2 hgr hz2
        obtain ⟨f0, f1, f2, -⟩ := slot3 HX4.out
        obtain ⟨a0, a1, a2⟩ := HAT.out _ HW3.out
        go_wp2_with fail
        clear f0 f1 f2 a0 a1 a2
        refine (IH.out (fun b' => S b' ∧ b' < q ∨ q + 2 ≤ b') _ _ _ _ _ _ _ _ (HTx.out.below HW3'.out) HFx.out (HMw.out.below HW3'.out) (show IsBools w2 _ _ nx1 from HV3.out) (by rw [HN1.out, HNN.out, HFL.out]) HML.out).mono ?_
        rintro e w3 ⟨v3, rfl, hv3, hb3⟩
        obtain ⟨nx2, hnx2⟩ : ∃ nx2, nx2 = FF nx1 := ⟨_, rfl⟩
        have hfx2 : endsT d x marks nx1 = nx2 := by rw [hnx2, HFF.out]
        have HL2 := hid (show nx2.length = n by rw [hnx2]; exact HLF.out nx1 HN1.out)
        have HUL := hid (show (uni o1 nx1).length = n by rw [uni_len (by rw [HN1.out, HO1.out]), HO1.out])
        have HFU := hid (falses_uni (by rw [HN1.out, HO1.out]) HM.out)
        have HR3 := hid (show loopP FF (f - 1) (uni o1 nx1) nx2 = endsT (d + 1) t marks frm by
          rw [← HT.out, hnx2]
          cases f with
          | zero => have := HFA.out; omega
          | succ f => simp only [loopP]; rw [HM.out]; rfl)
        rw [hfx2] at hv3
        clear hnx2 hfx2
        have HV4 := hid (hv3.mono (S' := fun b' => S b' ∧ b' < q ∨ q + 2 ≤ b') (fun b' hb' _ => hb'.elim (fun h => h) (fun h => .inr (by have := HG3.out.lt; omega))))
        have HB4 := hid (HG3.out.below hb3)
        have HX5 := hid ((hb3.block q (by have := HG3.out.lt; omega)).trans HX4.out)
        have HW4 := hid (HW3.out.trans (hb3.mono (by have := HG3.out.lt; omega)))
        clear hv3 hb3
        go_wp2_with fail
        go_roundw
        case rel => exact ⟨uni o1 nx1, nx2, f - 1, HUL, HL2, hid (by have := HFU.out; have := HFA.out; omega), HR3, HB4, HV4, HX5, HW4⟩
        case measure => rw [fallsAt_blk HB4.out, fallsAt_blk HG2.out]; exact HFU.out
  · have HR := hid (show loopP FF (n + 1) (noB n) (FF frm) = endsT (d + 1) t marks frm by
      rw [hres0]; unfold endsK; rw [if_neg (by omega), if_neg (by omega), if_pos (.inr rfl)]; simp only [HFF.out, HNN.out]; rfl)
    clear hres0
    have HWB := hid HWW.out.2.2.2
    obtain ⟨a0, a1, a2⟩ := HAT.out _ HWB.out
    rw [hW0] at a0 a1 a2
    go_enter Try.func74, Try.ntmps74
    go_wp2_with fail
    clear a0 a1 a2
    rw [← hW0]
    obtain ⟨W1, hW1⟩ : ∃ W1, W1 = W := ⟨_, rfl⟩
    rw [← hW1] at HWW HG0 ⊢
    have HO := hid (show (noB n).length = n by simp [noB])
    have HG1 := HG0
    have HX1 := hid HWW.out.1
    rw [← hW1] at HWB
    clear hW0 hW1 hmk
    rw [← hq]
    clear hq
    have HWB' := hid (show Below w.heap.size w W1 by rw [← HQ.out]; exact HWB.out)
    refine (IH.out (fun b' => S b' ∧ b' < w.heap.size) _ _ _ _ _ _ _ _ (HTx.out.below HWB'.out) HFx.out (HMw.out.below HWB'.out) (HFw.out.below HWB'.out) HFL.out HML.out).mono ?_
    rintro e w1 ⟨v1, rfl, hv1, hb1⟩
    obtain ⟨nx, hnx⟩ : ∃ nx, nx = FF frm := ⟨_, rfl⟩
    have hfx : endsT d x marks frm = nx := by rw [hnx, HFF.out]
    have HL1 := hid (show nx.length = n by rw [hnx]; exact HLF.out frm HNN.out.symm)
    have HR2 := hid (show loopP FF (n + 1) (noB n) nx = endsT (d + 1) t marks frm by rw [hnx]; exact HR.out)
    rw [hfx] at hv1
    clear hnx hfx
    have HV1 := hid (hv1.mono (S' := fun b' => S b' ∧ b' < q ∨ q + 2 ≤ b') (fun b' hb' _ => hb'.elim (fun h => .inl (by rw [HQ.out]; exact h)) (fun h => .inr (by have := HG1.out.lt; omega))))
    have HB1 := hid (HG1.out.below hb1)
    have HX2 := hid ((hb1.block q (by have := HG1.out.lt; omega)).trans HX1.out)
    have HW1 := hid (HWB.out.trans (hb1.mono (by have := HG1.out.lt; omega)))
    clear hv1 hb1
    go_wp2_with fail
    go_loopw [8] (fun s8 wr => ∃ (o1 nx1 : List Bool) (f : Nat), Hid (o1.length = n) ∧ Hid (nx1.length = n) ∧ Hid (falses o1 < f) ∧ Hid (loopP FF f o1 nx1 = endsT (d + 1) t marks frm) ∧ Hid (BoolBlk wr (q + 1) o1) ∧ Hid (IsBools wr (fun b' => S b' ∧ b' < q ∨ q + 2 ≤ b') s8 nx1) ∧ Hid (wr.heap[q]? = some (.cells #[.int .i64 7, .int .i64 cl, .slice (some ⟨b, o, none⟩) 1 c] 45 (0, 0))) ∧ Hid (Below q w wr)) (fun _ wr => fallsAt wr (q + 1))
    case atStart => exact ⟨(noB n), nx, n + 1, HO, HL1, hid (by have := falses_le ((noB n)); rw [HO.out] at this; omega), HR2, HB1, HV1, HX2, HW1⟩
    case round =>
      obtain ⟨o1, nx1, f, HO1, HN1, HFA, HT, HG2, HV, HX3, HW2⟩ := hrel
      obtain ⟨B2, cb2, rfl, -, -⟩ := HV.out.open
      have hU := union_any (fun b' => S b' ∧ b' < q ∨ q + 2 ≤ b') (q + 1) o1 nx1 _ wr HG2.out HV.out (by rw [HN1.out, HO1.out]) (fun k hk => by omega) (by rw [HO1.out]; omega)
      rw [HO1.out] at hU
      have HU := hid hU
      clear hU
      have hlf : nx1.length = n := HN1.out
      rw [hlf] at HU HV ⊢
      clear hlf
      cases hm : moreB o1 nx1 with
      | false =>
        have HM := hid hm
        clear hm
        go_wp2_with fail
        refine HU.out.mono ?_
        rintro e w2 ⟨rfl, hg2, hgr, hz2⟩
        rw [HM.out]
        have HE := hid (show o1 = endsT (d + 1) t marks frm by
          rw [← HT.out]
          cases f with
          | zero => have := HFA.out; omega
          | succ f => simp only [loopP]; rw [HM.out]; rfl)
        have HG3 := hid (show BoolBlk w2 (q + 1) o1 by rw [uni_same (by rw [HN1.out, HO1.out]) HM.out] at hg2; exact hg2)
        have HW3 := hid (HW2.out.grown hgr (by have := HG2.out.lt; omega) (fun k e => by cases e; omega))
        clear hg2 hgr hz2
        go_wp2_with fail
        go_ret
        have hb := HG3.out.bools (by rw [HO1.out]; omega)
        rw [HE.out] at hb
        have hlE : (endsT (d + 1) t marks frm).length = n := by rw [← HE.out, HO1.out]
        rw [hlE] at hb
        exact ⟨_, rfl, hb.mono (fun b' hb' _ => .inr (by rw [hb', ← HQ.out]; omega)), by rw [← HQ.out]; exact HW3.out⟩
      | true =>
        have HM := hid hm
        clear hm
        go_wp2_with fail
        refine HU.out.mono ?_
        rintro e w2 ⟨rfl, hg2, hgr, hz2⟩
        rw [HM.out]
        have HG3 := hid hg2
        have HW3 := hid (HW2.out.grown hgr (by have := HG2.out.lt; omega) (fun k e => by cases e; omega))
        have HW3' := hid (show Below w.heap.size w w2 by rw [← HQ.out]; exact HW3.out)
        have HX4 := hid ((hgr.block q (by have := HG2.out.lt; omega) (by simp)).trans HX3.out)
        have HV3 := hid (HV.out.keep (w' := w2) (fun b' hb' hlt => hgr.block b' hlt (by intro e; injection e with e; omega)))
        clear hg2 hgr hz2
        obtain ⟨f0, f1, f2, -⟩ := slot3 HX4.out
        obtain ⟨a0, a1, a2⟩ := HAT.out _ HW3.out
        go_wp2_with fail
        clear f0 f1 f2 a0 a1 a2
        refine (IH.out (fun b' => S b' ∧ b' < q ∨ q + 2 ≤ b') _ _ _ _ _ _ _ _ (HTx.out.below HW3'.out) HFx.out (HMw.out.below HW3'.out) (show IsBools w2 _ _ nx1 from HV3.out) (by rw [HN1.out, HNN.out, HFL.out]) HML.out).mono ?_
        rintro e w3 ⟨v3, rfl, hv3, hb3⟩
        obtain ⟨nx2, hnx2⟩ : ∃ nx2, nx2 = FF nx1 := ⟨_, rfl⟩
        have hfx2 : endsT d x marks nx1 = nx2 := by rw [hnx2, HFF.out]
        have HL2 := hid (show nx2.length = n by rw [hnx2]; exact HLF.out nx1 HN1.out)
        have HUL := hid (show (uni o1 nx1).length = n by rw [uni_len (by rw [HN1.out, HO1.out]), HO1.out])
        have HFU := hid (falses_uni (by rw [HN1.out, HO1.out]) HM.out)
        have HR3 := hid (show loopP FF (f - 1) (uni o1 nx1) nx2 = endsT (d + 1) t marks frm by
          rw [← HT.out, hnx2]
          cases f with
          | zero => have := HFA.out; omega
          | succ f => simp only [loopP]; rw [HM.out]; rfl)
        rw [hfx2] at hv3
        clear hnx2 hfx2
        have HV4 := hid (hv3.mono (S' := fun b' => S b' ∧ b' < q ∨ q + 2 ≤ b') (fun b' hb' _ => hb'.elim (fun h => h) (fun h => .inr (by have := HG3.out.lt; omega))))
        have HB4 := hid (HG3.out.below hb3)
        have HX5 := hid ((hb3.block q (by have := HG3.out.lt; omega)).trans HX4.out)
        have HW4 := hid (HW3.out.trans (hb3.mono (by have := HG3.out.lt; omega)))
        clear hv3 hb3
        go_wp2_with fail
        go_roundw
        case rel => exact ⟨uni o1 nx1, nx2, f - 1, HUL, HL2, hid (by have := HFU.out; have := HFA.out; omega), HR3, HB4, HV4, HX5, HW4⟩
        case measure => rw [fallsAt_blk HB4.out, fallsAt_blk HG2.out]; exact HFU.out
end Go.Proofs.Ytjcdcmeclnihbaa
