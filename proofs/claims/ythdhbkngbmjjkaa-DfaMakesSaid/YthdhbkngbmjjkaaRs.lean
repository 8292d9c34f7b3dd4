/- The document's walk over a tree of parts that follow each other. Conditions: not too many leaves. -/
import Derived.Test.YthdhbkngbmjjkaaRo
namespace Go.Proofs.Ythdhbkngbmjjkaa
open Go.RowKit
set_option linter.unusedSimpArgs false
set_option maxRecDepth 100000 in
set_option maxHeartbeats 16000000 in
theorem look_seq {B : Nat} {H : Value × Value × Value × Value} {d : Nat} (ih : LookIH B H d) (t : Tr (d + 1)) (KA : Option Addr) (kn kc : Nat) (kd cl of : Int) (s : Rs) (w : World) (a : Nat) (v1 v2 v5 : Value) (hR : RA w B a v1 v2 v5 H s) (hkd : kd = Tr.kind t) (hkn : kn = (Tr.kids t).length) (hrow : Row3 (IsTr w (fun b => b < B) d) w (fun b => b < B) KA (Tr.kids t))
    (hRm : Room (d + 1) t s) (h9 : kd ≠ 9) (h4 : kd = 4) (hk0 : kn ≠ 0) (hkl : kn ≤ 9223372036854775807) :
    Calls Try.prog 51 #[.pointer (some ⟨a, 0, none⟩), .agg #[.int .i64 kd, .int .i64 cl, .slice KA kn kc], .int .i64 of] w (LookAns w B a v1 v2 v5 H (endK kd (foldK d t of s kn))) := by
  have IH := hid ih
  have HKD := hid hkd
  have HKN := hid hkn
  have HRM := hid hRm
  have hB : B ≤ w.heap.size := by have := (hR.lt a (.inl rfl)); omega
  obtain ⟨q4, hq4⟩ : ∃ q4, q4 = w.heap.size := ⟨_, rfl⟩
  obtain ⟨q, hq⟩ : ∃ q, q = q4 + 2 := ⟨_, rfl⟩
  obtain ⟨b4, hb4, hb4v⟩ : ∃ b4, b4 = decide (kd = 4) ∧ b4 = true := ⟨_, rfl, decide_eq_true h4⟩
  obtain ⟨W, hW⟩ : ∃ W, W = ((w.alloc (.cells #[.int .i64 kd, .int .i64 cl, .slice KA kn kc] 48)).alloc (.cells #[.bool false, .slice none 0 0, .slice none 0 0] 95)).alloc (.cells #[.bool b4, .slice none 0 0, .slice none 0 0] 95) := ⟨_, rfl⟩
  have HWB := hid (show Below w.heap.size w W by rw [hW]; exact (((Below.refl _ _).alloc (Nat.le_refl _) _).alloc (by simp) _).alloc (by simp; omega) _)
  have hsz : W.heap.size = q4 + 3 := by rw [hW, hq4]; simp
  have HB4 := hid (show W.heap[q4]? = some (.cells #[.int .i64 kd, .int .i64 cl, .slice KA kn kc] 48 (0, 0)) by rw [hW, hq4, heap_alloc_old _ _ (by simp; omega), heap_alloc_old _ _ (by simp)]; exact heap_alloc_new _ _)
  have HB6 := hid (show W.heap[q4 + 1]? = some (.cells #[.bool false, .slice none 0 0, .slice none 0 0] 95 (0, 0)) by
    have h := heap_alloc_new (w.alloc (.cells #[.int .i64 kd, .int .i64 cl, .slice KA kn kc] 48)) (.cells #[.bool false, .slice none 0 0, .slice none 0 0] 95)
    rw [World.size_alloc] at h
    rw [hW, hq4, heap_alloc_old _ _ (by simp)]; exact h)
  have HB8 := hid (show W.heap[q]? = some (.cells #[.bool b4, .slice none 0 0, .slice none 0 0] 95 (0, 0)) by
    have h := heap_alloc_new ((w.alloc (.cells #[.int .i64 kd, .int .i64 cl, .slice KA kn kc] 48)).alloc (.cells #[.bool false, .slice none 0 0, .slice none 0 0] 95)) (.cells #[.bool b4, .slice none 0 0, .slice none 0 0] 95)
    rw [World.size_alloc, World.size_alloc] at h
    rw [hW, hq, hq4]; exact h)
  have HT := hid (show ∀ b, Tch a v1 v2 v5 b → B ≤ b ∧ b < q4 from fun b e => by rw [hq4]; exact hR.lt b e)
  have HROW := hid (hrow.below HWB.out)
  have HH0 := hid (show LkH W W B a v1 v2 v5 H q (foldK d t of s 0).2 (foldK d t of s 0).1 from by
    have e : foldK d t of s 0 = (⟨b4, [], []⟩, s) := by rw [hb4, HKD.out]; rfl
    rw [e]
    exact ⟨v1, v2, v5, hR.below HWB.out, ⟨_, _, HB8.out, nums_nil _ _, nums_nil _ _⟩, Keeps.refl _ _, fun b e => .inl e, fun e => by have := (HT.out _ e).2; omega, by omega⟩)
  have HKEEP := hid (show ∀ Y, Keeps (fun b => Tch a v1 v2 v5 b ∨ b = q) W Y → (Y.heap[q4]? = some (.cells #[.int .i64 kd, .int .i64 cl, .slice KA kn kc] 48 (0, 0)) ∧ Y.heap[q4 + 1]? = some (.cells #[.bool false, .slice none 0 0, .slice none 0 0] 95 (0, 0)) ∧ Row3 (IsTr Y (fun b => b < B) d) Y (fun b => b < B) KA (Tr.kids t)) from fun Y hY => by
    refine ⟨(hY.2 q4 (by omega) fun e => by rcases e with e | e; have := (HT.out _ e).2; omega; omega).trans HB4.out, (hY.2 (q4 + 1) (by omega) fun e => by rcases e with e | e; have := (HT.out _ e).2; omega; omega).trans HB6.out, HROW.out.keep fun b hb hlt => hY.2 b hlt fun e => ?_⟩
    have hb' : b < B := hb
    rcases e with e | e
    · have := (HT.out _ e).1; omega
    · omega)
  obtain ⟨f0, f1, f2, -⟩ := slot3 HB4.out
  have hne9 : (kd == 9) = false := ieq_false h9
  have hn0 : ((kn : Int) == 0) = false := ieq_false (by omega)
  have hkp : 0 < kn := by omega
  have HBQ := hid (show B ≤ q4 by omega)
  have HSZ := hid hsz
  have HQ4 := hid hq4
  have HR := hid hR
  have h4a : (kd == 4) = true := ieq_true h4
  have h4b : (kd != 4) = false := ine_false h4
  have H4 := hid h4
  subst hb4v
  have hq2 : q4 + 1 + 1 = q := by omega
  have HQB := hid (show w.heap.size ≤ q4 ∧ q4 + 2 = q ∧ q4 + 3 = W.heap.size from ⟨by omega, by omega, by omega⟩)
  clear hb4 h4 hkd hkn hRm hR hrow h9 hk0 ih hB hsz hq
  go_enter Try.func51, Try.ntmps51
  go_wp2_with fail
  rw [← hW, ← hq4, hq2]
  clear hW hq4 f0 f1 f2 hq2
  go_loopw [9] (fun s9 wr => ∃ (i : Nat), i ≤ kn ∧ s9 = .int .i64 i ∧ Hid (LkH W wr B a v1 v2 v5 H q (foldK d t of s i).2 (foldK d t of s i).1)) (fun s9 _ => kn - (intOf s9).toNat)
  case atStart => exact ⟨0, by omega, rfl, HH0⟩
  case round =>
    clear HH0
    obtain ⟨i, hi, rfl, HH⟩ := hrel
    obtain ⟨o, hoo⟩ : ∃ o, o = foldK d t of s i := ⟨_, rfl⟩
    have HO := hid hoo
    rw [← hoo] at HH
    obtain ⟨u1, u2, u5, r1, r2, r3, r4, r5, r6⟩ := HH.out
    obtain ⟨c4, c6, crow⟩ := HKEEP.out _ r3
    obtain ⟨f0, f1, f2, -⟩ := slot3 c4
    by_cases hlt : i < kn
    · have hik : i < (Tr.kids t).length := by rw [← HKN.out]; exact hlt
      obtain ⟨bl, ol, x0, x1, x2, rfl, -, -, k0, k1, k2, htr⟩ := crow.at (List.getElem?_eq_getElem hik)
      obtain ⟨e0, e1, KA2, nn2, cp2, rfl, rfl, rfl⟩ := htr.cells
      obtain ⟨kid, hkid⟩ : ∃ kid, kid = (Tr.kids t)[i] := ⟨_, rfl⟩
      rw [← hkid] at htr
      have hget : (Tr.kids t)[i]? = some kid := by rw [hkid]; exact List.getElem?_eq_getElem hik
      have hbd := foldK_bd (of := of) HRM.out hget
      rw [← hoo] at hbd
      obtain ⟨r, hr⟩ : ∃ r, r = lookP d kid of o.2 := ⟨_, rfl⟩
      have HSUCC := hid (show foldK d t of s (i + 1) = stepK kd o.1 r by rw [foldK_succ hget, HKD.out, ← hoo, ← hr])
      have HCALL := hid (IH.out kid _ of o.2 wr a u1 u2 u5 r1 htr hbd.1)
      rw [← hr] at HCALL hbd
      have HBD := hid hbd.2
      have HR2 := hid r2
      have HR3 := hid r3
      have HR4 := hid r4
      have HR5 := hid (And.intro r5 r6)
      clear hoo HH r1 r2 r3 r4 r5 r6 crow htr hkid hget hbd hr c4 c6
      go_wp2_with fail
      refine HCALL.out.mono ?_
      rintro e w1 ⟨F1, L1, n1, n2, n5, rfl, g1, g2, g3, g4, g5⟩
      clear k0 k1 k2 f0 f1 f2
      obtain ⟨FA, nF, fc, eF⟩ := sl_form g4
      obtain ⟨LA, nL, lc, eL⟩ := sl_form g5
      subst eF eL
      obtain ⟨w2, hw2⟩ : ∃ w2, w2 = w1.alloc (.cells #[.bool r.1.emp, .slice FA nF fc, .slice LA nL lc] 95) := ⟨_, rfl⟩
      obtain ⟨p, hp⟩ : ∃ p, p = w1.heap.size := ⟨_, rfl⟩
      have HS := hid (LkH.kid HR3.out HR4.out HR2.out HR5.out.1 HR5.out.2 g1 g2 g3 g4 g5 hw2)
      rw [← hp] at HS
      clear g1 g2 g3 g4 g5 HR2 HR3 HR4 HR5
      obtain ⟨m1, m2, m5, q1, ⟨F, L, hqb, hF, hL⟩, ⟨Fp, Lp, hpb, hFp, hLp⟩, hke, hgr, hqp, hnq, hnp, hpW, hqW⟩ := HS.out
      obtain ⟨c4, -, -⟩ := HKEEP.out _ hke
      obtain ⟨f0, -, -, -⟩ := slot3 c4
      obtain ⟨-, -, z2, -⟩ := slot3 hqb
      obtain ⟨-, y1, -, -⟩ := slot3 hpb
      rw [hw2] at f0 z2 y1
      rw [hp] at y1
      have HPA := hid (pair_any q1 (hL.mono fun b hb _ e => hb (.inl e)) (hFp.mono fun b hb _ e => hb (.inl e)) (by have := HBD.out.2.1; omega) (by have := HBD.out.1; omega) HBD.out.2.2)
      have HPK := hid (fun (w3 : World) (hA : PairAt w2 w3 B a m1 m2 m5 H r.2 (pairP o.1.lst r.1.fst)) => LkS.pair (W := W) (v1 := v1) (v2 := v2) (v5 := v5) (q := q) (p := p) (out := o.1) (pt := r.1) ⟨F, L, hqb, hF, hL⟩ ⟨Fp, Lp, hpb, hFp, hLp⟩ hke hgr hqp hnq hnp hpW hqW hA)
      have HQP := hid hqp
      have HLN := hid (show o.1.fst.length + r.1.fst.length ≤ 1000000 ∧ o.1.lst.length + r.1.lst.length ≤ 1000000 from ⟨by have := HBD.out.1; omega, by have := HBD.out.2.1; omega⟩)
      clear hqb hpb hF hL hFp hLp hke hgr hqp hnq hnp hpW hqW q1 c4
      go_wp2_with fail
      rw [← hw2, ← hp]
      refine HPA.out.mono ?_
      rintro e w3 ⟨rfl, hpr⟩
      have HX := hid (HPK.out w3 hpr)
      clear hpr f0 z2 y1 hw2 hp HPK HPA
      obtain ⟨m1, m2, m5, -, ⟨F, L, hqb, hF, hL⟩, ⟨Fp, Lp, hpb, hFp, hLp⟩, -, -, hqp, -, -, -, -⟩ := HX.out
      obtain ⟨A8, n8, c8, rfl⟩ := sl_form hL
      obtain ⟨A9, n9, c9, rfl⟩ := sl_form hLp
      obtain ⟨z0, z1, z2, zf⟩ := slot3 hqb
      have zf0 := zf 0
      have zf1 := zf 1
      have zf2 := zf 2
      obtain ⟨y0, y1, y2, -⟩ := slot3 hpb
      have hqp' := Ne.symm hqp
      have HQ3 := hid hqb
      have HP3 := hid hpb
      have HNF := hid hF
      have HNL := hid hL
      have HNFp := hid hFp
      have HNLp := hid hLp
      have HTQ := hid (show TT a m1 m2 m5 q p q from .inr (.inl (Nat.le_refl _)))
      clear hqb hpb hF hL hFp hLp zf
      cases hoe : o.1.emp with
      | true =>
        rw [hoe] at z0
        have HOE := hid hoe
        clear hoe
        go_wp2_with fail
        refine (join_sl _ _ _ _ _ _ _ HNF.out HNFp.out HLN.out.1).mono ?_
        rintro e w4 ⟨A1, n1, c1, rfl, hv, hb⟩
        clear z0 z1 z2 zf0 zf1 zf2 y0 y1 y2
        obtain ⟨wq, hwq⟩ : ∃ wq, wq = w4.setCell ⟨q, 1, none⟩ (.slice A1 n1 c1) := ⟨_, rfl⟩
        have hq4b := (hb.block q (Array.getElem?_eq_some_iff.1 HQ3.out).1).trans HQ3.out
        have hp4b := (hb.block p (Array.getElem?_eq_some_iff.1 HP3.out).1).trans HP3.out
        have HXX := hid (show LkS W wq B a v1 v2 v5 H q p _ _ _ by rw [hwq]; exact (HX.out.fresh hb hv).1)
        have HLX := hid (show IsNums .i64 wq (fun b => ¬ TT a m1 m2 m5 q p b) (.slice A8 n8 c8) o.1.lst by rw [hwq]; exact nums_set (HNL.out.below hb) HTQ.out 1 _)
        have HLpX := hid (show IsNums .i64 wq (fun b => ¬ TT a m1 m2 m5 q p b) (.slice A9 n9 c9) r.1.lst by rw [hwq]; exact nums_set (HNLp.out.below hb) HTQ.out 1 _)
        have HQX := hid (show wq.heap[q]? = some (.cells #[.bool o.1.emp, .slice A1 n1 c1, .slice A8 n8 c8] 95 (0, 0)) by rw [hwq]; exact heap_setCell_same w4 q 1 _ 95 (.slice A1 n1 c1) hq4b)
        have HPX := hid (show wq.heap[p]? = some (.cells #[.bool r.1.emp, Fp, .slice A9 n9 c9] 95 (0, 0)) by rw [hwq]; exact (heap_setCell_other _ _ _ _ hqp').trans hp4b)
        obtain ⟨z0, z1, z2, zf⟩ := slot3 hq4b
        have zf0 := zf 0
        have zf1 := zf 1
        have zf2 := zf 2
        obtain ⟨y0, y1, y2, -⟩ := slot3 hp4b
        rw [HOE.out] at z0
        clear hq4b hp4b hv hb zf
        cases hpe : r.1.emp with
        | true =>
          rw [hpe] at y0
          have HPE := hid hpe
          clear hpe
          go_wp2_with fail
          rw [← hwq]
          refine (join_sl _ _ _ _ _ _ _ HLX.out HLpX.out HLN.out.2).mono ?_
          rintro e w5 ⟨A2, n2, c2, rfl, hv, hb⟩
          clear z0 z1 z2 zf0 zf1 zf2 y0 y1 y2 hwq
          have hq5b := (hb.block q (Array.getElem?_eq_some_iff.1 HQX.out).1).trans HQX.out
          have hp5b := (hb.block p (Array.getElem?_eq_some_iff.1 HPX.out).1).trans HPX.out
          have HY := hid (HXX.out.fresh hb hv).2
          obtain ⟨z0, z1, z2, zf⟩ := slot3 hq5b
          have zf0 := zf 0
          have zf1 := zf 1
          have zf2 := zf 2
          obtain ⟨y0, y1, y2, -⟩ := slot3 hp5b
          rw [HOE.out] at z0
          rw [HPE.out] at y0
          clear hq5b hp5b hv hb zf
          go_wp2_with fail
          refine ⟨⟨i + 1, by omega, by go_num, hid (by have h := (HY.out.setE true).head; rw [HSUCC.out, stepK_seq H4.out, HOE.out, HPE.out]; exact h)⟩, by simp [intOf]; omega⟩
        | false =>
          rw [hpe] at y0
          have HPE := hid hpe
          clear hpe
          have HY := hid (show LkS W ((w4.setCell ⟨q, 1, none⟩ (.slice A1 n1 c1)).setCell ⟨q, 2, none⟩ (.slice A9 n9 c9)) B a v1 v2 v5 H q p _ _ _ by rw [← hwq]; exact HXX.out.lastOf HPX.out)
          clear hwq
          go_wp2_with fail
          refine ⟨⟨i + 1, by omega, by go_num, hid (by have h := (HY.out.setE false).head; rw [HSUCC.out, stepK_seq H4.out, HOE.out, HPE.out]; exact h)⟩, by simp [intOf]; omega⟩
      | false =>
        rw [hoe] at z0
        have HOE := hid hoe
        clear hoe
        obtain ⟨wq, hwq⟩ : ∃ wq, wq = w3 := ⟨_, rfl⟩
        have HXX := hid (show LkS W wq B a v1 v2 v5 H q p _ _ _ by rw [hwq]; exact HX.out)
        have HLX := hid (show IsNums .i64 wq (fun b => ¬ TT a m1 m2 m5 q p b) (.slice A8 n8 c8) o.1.lst by rw [hwq]; exact HNL.out)
        have HLpX := hid (show IsNums .i64 wq (fun b => ¬ TT a m1 m2 m5 q p b) (.slice A9 n9 c9) r.1.lst by rw [hwq]; exact HNLp.out)
        have HQX := hid (show wq.heap[q]? = some (.cells #[.bool o.1.emp, F, .slice A8 n8 c8] 95 (0, 0)) by rw [hwq]; exact HQ3.out)
        have HPX := hid (show wq.heap[p]? = some (.cells #[.bool r.1.emp, Fp, .slice A9 n9 c9] 95 (0, 0)) by rw [hwq]; exact HP3.out)
        subst hwq
        cases hpe : r.1.emp with
        | true =>
          rw [hpe] at y0
          have HPE := hid hpe
          clear hpe
          go_wp2_with fail
          refine (join_sl _ _ _ _ _ _ _ HLX.out HLpX.out HLN.out.2).mono ?_
          rintro e w5 ⟨A2, n2, c2, rfl, hv, hb⟩
          clear z0 z1 z2 zf0 zf1 zf2 y0 y1 y2
          have hq5b := (hb.block q (Array.getElem?_eq_some_iff.1 HQX.out).1).trans HQX.out
          have hp5b := (hb.block p (Array.getElem?_eq_some_iff.1 HPX.out).1).trans HPX.out
          have HY := hid (HXX.out.fresh hb hv).2
          obtain ⟨z0, z1, z2, zf⟩ := slot3 hq5b
          have zf0 := zf 0
          have zf1 := zf 1
          have zf2 := zf 2
          obtain ⟨y0, y1, y2, -⟩ := slot3 hp5b
          rw [HOE.out] at z0
          rw [HPE.out] at y0
          clear hq5b hp5b hv hb zf
          go_wp2_with fail
          refine ⟨⟨i + 1, by omega, by go_num, hid (by have h := (HY.out.setE false).head; rw [HSUCC.out, stepK_seq H4.out, HOE.out, HPE.out]; exact h)⟩, by simp [intOf]; omega⟩
        | false =>
          rw [hpe] at y0
          have HPE := hid hpe
          clear hpe
          have HY := hid (HXX.out.lastOf HPX.out)
          go_wp2_with fail
          refine ⟨⟨i + 1, by omega, by go_num, hid (by have h := (HY.out.setE false).head; rw [HSUCC.out, stepK_seq H4.out, HOE.out, HPE.out]; exact h)⟩, by simp [intOf]; omega⟩
    · obtain rfl : i = kn := by omega
      have HE := hid (foldK_end (of := of) HRM.out (by rw [← HKN.out]; omega))
      rw [← HKN.out, ← HO.out] at HE
      have HH := HH
      obtain ⟨F, L, hqb, hF, hL⟩ := id r2
      obtain ⟨FA, nF, fc, rfl⟩ := sl_form hF
      obtain ⟨LA, nL, lc, rfl⟩ := sl_form hL
      have HPA := hid (pair_any (vb := .slice FA nF fc) (va := .slice LA nL lc) r1 (hL.mono fun b hb _ e => hb (.inl e)) (hF.mono fun b hb _ e => hb (.inl e)) HE.out.2.1 HE.out.1 HE.out.2.2)
      have HR2 := hid r2
      have HR3 := hid r3
      have HR4 := hid r4
      have HR5 := hid (And.intro r5 r6)
      have HC6 := hid c6
      obtain ⟨z0, z1, z2, zf⟩ := slot3 hqb
      have zf0 := zf 0
      obtain ⟨y0, y1, y2, yf⟩ := slot3 c6
      have HQB6 := hid (show q4 + 1 ≠ q by have := HQB.out; omega)
      clear hF hL zf hoo r1 r2 r3 r4 r5 r6 crow c4 c6
      have h6a : (kd == 6) = false := ieq_false (by have := H4.out; omega)
      have h7a : (kd == 7) = false := ieq_false (by have := H4.out; omega)
      have h8a : (kd == 8) = false := ieq_false (by have := H4.out; omega)
      have HEK := hid (show endK kd (foldK d t of s i) = (⟨o.1.emp, o.1.fst, o.1.lst⟩, o.2) from by rw [← HO.out]; unfold endK; rw [if_neg (by have := H4.out; omega), decide_eq_false (by have := H4.out; omega : ¬ kd = 6), decide_eq_false (by have := H4.out; omega : ¬ kd = 8), Bool.or_false, Bool.or_false])
      have HP := HH
      clear z0 z1 z2 zf0 y0 y1 y2 yf f0 f1 f2
      obtain ⟨m1, m2, m5, -, ⟨F', L', hqb, hF, hL⟩, hke, -, -, -⟩ := HP.out
      obtain ⟨A1, n1, c1, rfl⟩ := sl_form hF
      obtain ⟨A2, n2, c2, rfl⟩ := sl_form hL
      obtain ⟨c4, c6, -⟩ := HKEEP.out _ hke
      obtain ⟨f0, -, f2, -⟩ := slot3 c4
      obtain ⟨y0, y1, y2, yf⟩ := slot3 c6
      have yf0 := yf 0
      have yf1 := yf 1
      have yf2 := yf 2
      obtain ⟨z0, z1, z2, zf⟩ := slot3 hqb
      have zf0 := zf 0
      have HQBL := hid hqb
      have hq6 := HQB6.out
      have hq6' := Ne.symm HQB6.out
      clear c4 c6 hqb hF hL hke yf zf
      cases hoe : o.1.emp with
      | true =>
        rw [hoe] at z0
        have HOE := hid hoe
        clear hoe
        go_wp2_with fail
        have HFIN := hid (LkH.ans (x := .bool true) (y := .slice A1 n1 c1) (z := .slice A2 n2 c2) (q6 := q4 + 1) (F := .slice A1 n1 c1) (L := .slice A2 n2 c2) (HP.out.setE true) HWB.out (heap_setCell_same _ q 0 _ 95 (.bool true) HQBL.out) (by have := HQB.out; omega) (by have := HQB.out; omega) fun b hb => by have := (HT.out b hb).2; omega)
        refine bodyPost_ret (v := .agg #[.bool true, .slice A1 n1 c1, .slice A2 n2 c2]) (by simp [results, Try.results51, go_sem, y0, y1, y2, yf0, yf1, yf2, hq6, hq6']) rfl ?_
        rw [HEK.out, HOE.out]
        exact HFIN.out
      | false =>
        rw [hoe] at z0
        have HOE := hid hoe
        clear hoe
        go_wp2_with fail
        have HFIN := hid (LkH.ans (x := .bool false) (y := .slice A1 n1 c1) (z := .slice A2 n2 c2) (q6 := q4 + 1) (F := .slice A1 n1 c1) (L := .slice A2 n2 c2) (HP.out.setE false) HWB.out (heap_setCell_same _ q 0 _ 95 (.bool false) HQBL.out) (by have := HQB.out; omega) (by have := HQB.out; omega) fun b hb => by have := (HT.out b hb).2; omega)
        refine bodyPost_ret (v := .agg #[.bool false, .slice A1 n1 c1, .slice A2 n2 c2]) (by simp [results, Try.results51, go_sem, y0, y1, y2, yf0, yf1, yf2, hq6, hq6']) rfl ?_
        rw [HEK.out, HOE.out]
        exact HFIN.out
end Go.Proofs.Ythdhbkngbmjjkaa
