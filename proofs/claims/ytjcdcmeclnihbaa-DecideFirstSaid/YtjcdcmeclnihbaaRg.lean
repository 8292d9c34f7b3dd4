/- Whether a meaning is right: the document's Right. Condition: no more nodes than there may be. -/
import Derived.Test.YtjcdcmeclnihbaaRt
namespace Go.Proofs.Ytjcdcmeclnihbaa
open Go.RowKit
def SmallT {d : Nat} (t : Tx d) : Prop := ∀ r ∈ t.rs, cnt d r.L ≤ 2000 ∧ cnt d r.R ≤ 2000
set_option maxRecDepth 100000 in
set_option maxHeartbeats 4000000 in
theorem rtxRight_any (S : Nat → Prop) (d : Nat) (v : Value) (t : Tx d) (w : World) (h : IsTx w S d v t) (hs : SmallT t) :
    Calls Try.prog 41 #[v] w fun e w' => e = .returned (.bool (txB t)) ∧ Below w.heap.size w w' := by
  obtain ⟨I, ic, K, kc, A, c, rfl, hI, hK, lI, lK, lA, hA⟩ := h.open
  clear h
  obtain ⟨W, hW0⟩ : ∃ W, W = w.alloc (.cells #[.slice I t.ig.length ic, .slice K t.kp.length kc, .slice A t.rs.length c] 25) := ⟨_, rfl⟩
  have HX := hid (box3 hW0)
  have HI := hid (hI.below HX.out.1)
  have HK := hid (hK.below HX.out.1)
  have HA := hid (hA.below HX.out.1)
  have HS := hid hs
  have HL := hid lA
  clear hI hK hA hs
  obtain ⟨l, hl⟩ : ∃ l, l = t.rs := ⟨_, rfl⟩
  have hE : ∀ a b c' e', decide ((l.length : Int) ≤ 40) = a → risesB t.ig = b → risesB t.kp = c' → (l.all fun r => okR r) = e' → txB t = (a && b && c' && e') := fun a b c' e' h1 h2 h3 h4 => by
    unfold txB; rw [← hl, h1, h2, h3, h4]
  have HE := hid hE
  clear hE
  have HSL := hid (show ∀ r ∈ l, cnt d r.L ≤ 2000 ∧ cnt d r.R ≤ 2000 by rw [hl]; exact HS.out)
  rw [← hl] at HX HA HL hW0 ⊢
  have hle : l.length ≤ 9223372036854775807 := by rw [hl]; exact lA
  clear lA
  have HRR := hl
  clear HRR hl
  -- what the head leaves: a Bool, and a later world
  have go : ∀ (ok : Bool) (Wb : World), Below W.heap.size W Wb → ok = (decide ((l.length : Int) ≤ 40) && risesB t.ig && risesB t.kp) → txB t = (ok && l.all fun r => okR r) := fun ok Wb _ hok => by
    rw [HE.out _ _ _ _ rfl rfl rfl rfl, hok]
  have GO := hid go
  clear go
  by_cases h1 : (l.length : Int) ≤ 40
  · have b1 := ile_true h1
    have HB1 := hid b1
    clear h1
    cases hi : risesB t.ig with
    | false =>
      have HE1 := hid (show false = txB t by rw [GO.out false W (Below.refl _ _) (by rw [hi]; simp)]; rfl)
      have HF := hid hi
      clear hi
      go_enter Try.func41, Try.ntmps41
      go_wp2_with fail
      rw [← hW0]
      clear hW0
      refine (rrises_any S _ _ _ HI.out).mono ?_
      rintro e w1 ⟨rfl, hb1⟩
      rw [HF.out]
      obtain ⟨g0, g1, g2⟩ := HX.out.2 _ hb1
      have HWB := hid (hb1)
      go_wp2_with fail
      go_loopw [3, 4, 5] (fun s3 s4 _ wr => s3 = .bool false ∧ s4 = .int .i64 0 ∧ wr = w1) (fun _ _ _ _ => 0)
      case atStart => exact ⟨rfl, rfl, rfl⟩
      case round =>
        obtain ⟨rfl, rfl, rfl⟩ := hrel
        by_cases hlt : (0 : Int) < (l.length : Int)
        · go_wp2_with fail
          go_ret
          exact ⟨ret_bool HE1.out, HX.out.1.trans (HWB.out.mono HX.out.1.size)⟩
        · go_wp2_with fail
          go_ret
          exact ⟨ret_bool HE1.out, HX.out.1.trans (HWB.out.mono HX.out.1.size)⟩
    | true =>
      have HF := hid hi
      cases hk : risesB t.kp with
      | false =>
        have HE1 := hid (show false = txB t by rw [GO.out false W (Below.refl _ _) (by rw [hk]; simp)]; rfl)
        have HG := hid hk
        clear hi hk
        go_enter Try.func41, Try.ntmps41
        go_wp2_with fail
        rw [← hW0]
        clear hW0
        refine (rrises_any S _ _ _ HI.out).mono ?_
        rintro e w1 ⟨rfl, hb1⟩
        rw [HF.out]
        obtain ⟨g0, g1, g2⟩ := HX.out.2 w1 hb1
        go_wp2_with fail
        refine (rrises_any S _ _ _ (HK.out.below hb1)).mono ?_
        rintro e w2 ⟨rfl, hb2⟩
        rw [HG.out]
        have hb12 := hb1.trans (hb2.mono hb1.size)
        clear g0 g1 g2 hb1 hb2
        obtain ⟨g0, g1, g2⟩ := HX.out.2 _ hb12
        have HWB := hid (hb12)
        go_wp2_with fail
        go_loopw [3, 4, 5] (fun s3 s4 _ wr => s3 = .bool false ∧ s4 = .int .i64 0 ∧ wr = w2) (fun _ _ _ _ => 0)
        case atStart => exact ⟨rfl, rfl, rfl⟩
        case round =>
          obtain ⟨rfl, rfl, rfl⟩ := hrel
          by_cases hlt : (0 : Int) < (l.length : Int)
          · go_wp2_with fail
            go_ret
            exact ⟨ret_bool HE1.out, HX.out.1.trans (HWB.out.mono HX.out.1.size)⟩
          · go_wp2_with fail
            go_ret
            exact ⟨ret_bool HE1.out, HX.out.1.trans (HWB.out.mono HX.out.1.size)⟩
      | true =>
        have HE1 := hid (show txB t = l.all fun r => okR r by rw [GO.out true W (Below.refl _ _) (by rw [hi, hk, b1]; rfl)]; simp)
        have HG := hid hk
        clear hi hk b1
        have b1 := HB1.out
        go_enter Try.func41, Try.ntmps41
        go_wp2_with fail
        rw [← hW0]
        clear hW0
        refine (rrises_any S _ _ _ HI.out).mono ?_
        rintro e w1 ⟨rfl, hb1⟩
        rw [HF.out]
        obtain ⟨g0, g1, g2⟩ := HX.out.2 w1 hb1
        go_wp2_with fail
        refine (rrises_any S _ _ _ (HK.out.below hb1)).mono ?_
        rintro e w2 ⟨rfl, hb2⟩
        rw [HG.out]
        have hb12 := hb1.trans (hb2.mono hb1.size)
        clear g0 g1 g2 hb1 hb2
        obtain ⟨g0, g1, g2⟩ := HX.out.2 _ hb12
        have HWB := hid hb12
        clear hb12
        go_wp2_with fail
        clear g0 g1 g2
        go_loopw [3, 4, 5] (fun s3 s4 _ wr => ∃ (k : Nat) (ok : Bool), k ≤ l.length ∧ s3 = .bool ok ∧ s4 = .int .i64 k ∧ Hid ((ok && (l.drop k).all fun r => okR r) = txB t) ∧ Hid (Below W.heap.size W wr)) (fun _ s4 _ _ => l.length - (intOf s4).toNat)
        case atStart => exact ⟨0, true, by omega, rfl, rfl, hid (by rw [HE1.out]; rfl), HWB⟩
        case round =>
          obtain ⟨k, ok, hk, rfl, rfl, HT, HW⟩ := hrel
          obtain ⟨f0, f1, f2⟩ := HX.out.2 _ HW.out
          by_cases hlt : k < l.length
          · cases ok with
            | false =>
              have HE2 := hid (show false = txB t by rw [← HT.out]; rfl)
              go_wp2_with fail
              go_ret
              exact ⟨ret_bool HE2.out, HX.out.1.trans (HW.out.mono HX.out.1.size)⟩
            | true =>
              obtain ⟨b, o, k0, k1, A0, n0, p0, j0, j1, A1, n1, p1, rfl, -, hbs, c0, c1, c2, c3, c4, c5, c6, hL, hR⟩ := (HA.out.below HW.out).at (List.getElem?_eq_getElem hlt)
              obtain ⟨br, hbr⟩ : ∃ br, br = l[k].br := ⟨_, rfl⟩
              rw [← hbr] at c6
              clear hbr
              have HCn := hid (HSL.out _ (List.getElem_mem hlt))
              obtain ⟨X, hX⟩ : ∃ X, X = wr.alloc (.cells #[.int .i64 k0, .int .i64 k1, .slice A0 n0 p0, .int .i64 j0, .int .i64 j1, .slice A1 n1 p1, .bool br] 72) := ⟨_, rfl⟩
              have HXX := hid (box7 hX)
              have HWX := hid (HW.out.trans (HXX.out.1.mono HW.out.size))
              have HLt := hid (hL.below HXX.out.1)
              have HRt := hid (hR.below HXX.out.1)
              clear hL hR
              have hN : ∀ a b c, fitsT d false l[k].L = a → fitsT d false l[k].R = b → (looksT d l[k].R == 0) = c → ((a && b && c) && (l.drop (k + 1)).all fun r => okR r) = txB t := fun a b c h1 h2 h3 => by
                rw [← HT.out, List.drop_eq_getElem_cons hlt, List.all_cons]
                unfold okR
                rw [rightT_fits HCn.out.1, rightT_fits HCn.out.2, h1, h2, h3, Bool.true_and]
              have HN := hid hN
              clear hN
              cases hl : fitsT d false l[k].L with
              | false =>
                have HF2 := hid hl
                clear hl
                go_wp2_with fail
                rw [← hX]
                clear hX
                refine (rright_any S _ _ _ _ _ HLt.out HCn.out.1).mono ?_
                rintro e w3 ⟨rfl, hb3⟩
                rw [HF2.out]
                go_wp2_with fail
                go_roundw
                case rel => exact ⟨k + 1, false, by omega, rfl, by go_num, hid (HN.out _ _ _ HF2.out rfl rfl), hid (HWX.out.trans (hb3.mono HWX.out.size))⟩
                case measure => simp [intOf]; omega
              | true =>
                have HF2 := hid hl
                clear hl
                cases hr : fitsT d false l[k].R with
                | false =>
                  have HG2 := hid hr
                  clear hr
                  go_wp2_with fail
                  rw [← hX]
                  clear hX
                  refine (rright_any S _ _ _ _ _ HLt.out HCn.out.1).mono ?_
                  rintro e w3 ⟨rfl, hb3⟩
                  rw [HF2.out]
                  obtain ⟨y0, y1, y2, y3, y4, y5, y6⟩ := HXX.out.2 w3 hb3
                  go_wp2_with fail
                  refine (rright_any S _ _ _ _ _ (HRt.out.below hb3) HCn.out.2).mono ?_
                  rintro e w4 ⟨rfl, hb4⟩
                  rw [HG2.out]
                  go_wp2_with fail
                  go_roundw
                  case rel => exact ⟨k + 1, false, by omega, rfl, by go_num, hid (HN.out _ _ _ HF2.out HG2.out rfl), hid (HWX.out.trans ((hb3.trans (hb4.mono hb3.size)).mono HWX.out.size))⟩
                  case measure => simp [intOf]; omega
                | true =>
                  have HG2 := hid hr
                  clear hr
                  obtain ⟨z, hz⟩ : ∃ z, z = looksT d l[k].R := ⟨_, rfl⟩
                  have HZ := hid hz
                  obtain ⟨q, hq⟩ : ∃ q, q = (z == 0) := ⟨_, rfl⟩
                  have bq := hq.symm
                  have HQ := hid (HN.out _ _ _ HF2.out HG2.out (show (looksT d l[k].R == 0) = q by rw [← hz, bq]))
                  clear hz hq
                  go_wp2_with fail
                  rw [← hX]
                  clear hX
                  refine (rright_any S _ _ _ _ _ HLt.out HCn.out.1).mono ?_
                  rintro e w3 ⟨rfl, hb3⟩
                  rw [HF2.out]
                  obtain ⟨y0, y1, y2, y3, y4, y5, y6⟩ := HXX.out.2 w3 hb3
                  go_wp2_with fail
                  refine (rright_any S _ _ _ _ _ (HRt.out.below hb3) HCn.out.2).mono ?_
                  rintro e w4 ⟨rfl, hb4⟩
                  rw [HG2.out]
                  have hb34 := hb3.trans (hb4.mono hb3.size)
                  clear y0 y1 y2 y3 y4 y5 y6
                  obtain ⟨y0, y1, y2, y3, y4, y5, y6⟩ := HXX.out.2 w4 hb34
                  have HB34 := hid hb34
                  clear hb34 hb3
                  go_wp2_with fail
                  refine (wrong_any S _ _ _ _ (HRt.out.below HB34.out) HCn.out.2).mono ?_
                  rintro e w5 ⟨rfl, hb5⟩
                  rw [← HZ.out]
                  go_wp2_with fail
                  go_roundw
                  case rel => exact ⟨k + 1, q, by omega, by simp, by go_num, hid (by rw [← HQ.out]; simp), hid (HWX.out.trans ((HB34.out.trans (hb5.mono HB34.out.size)).mono HWX.out.size))⟩
                  case measure => simp [intOf]; omega
          · obtain rfl : k = l.length := by omega
            have HE2 := hid (show ok = txB t by rw [← HT.out, List.drop_length]; simp)
            go_wp2_with fail
            go_ret
            exact ⟨ret_bool HE2.out, HX.out.1.trans (HW.out.mono HX.out.1.size)⟩
  · have b1 := ile_false h1
    have HE1 := hid (show false = txB t by rw [GO.out false W (Below.refl _ _) (by rw [b1]; rfl)]; rfl)
    clear h1
    go_enter Try.func41, Try.ntmps41
    go_wp2_with fail
    rw [← hW0]
    clear hW0
    have hb0 := Below.refl W.heap.size W
    obtain ⟨g0, g1, g2⟩ := HX.out.2 _ hb0
    have HWB := hid (hb0)
    go_wp2_with fail
    go_loopw [3, 4, 5] (fun s3 s4 _ wr => s3 = .bool false ∧ s4 = .int .i64 0 ∧ wr = W) (fun _ _ _ _ => 0)
    case atStart => exact ⟨rfl, rfl, rfl⟩
    case round =>
      obtain ⟨rfl, rfl, rfl⟩ := hrel
      by_cases hlt : (0 : Int) < (l.length : Int)
      · go_wp2_with fail
        go_ret
        exact ⟨ret_bool HE1.out, HX.out.1.trans (HWB.out.mono HX.out.1.size)⟩
      · go_wp2_with fail
        go_ret
        exact ⟨ret_bool HE1.out, HX.out.1.trans (HWB.out.mono HX.out.1.size)⟩
end Go.Proofs.Ytjcdcmeclnihbaa
