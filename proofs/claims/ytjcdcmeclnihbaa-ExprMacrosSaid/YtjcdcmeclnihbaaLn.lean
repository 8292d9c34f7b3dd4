/- How long the longest list is: the program's longest, of a tree whose nodes fit. Condition: no more nodes than there may be. -/
import Derived.Test.YtjcdcmeclnihbaaLo
namespace Go.Proofs.Ytjcdcmeclnihbaa
open Go.RowKit
theorem fitsT_kind {d : Nat} {on : Bool} {t : Tr (d + 1)} (h : fitsT (d + 1) on t = true) : 0 ≤ Tr.kind t ∧ Tr.kind t ≤ 9 ∧ least (Tr.kind t) ≤ (Tr.kids t).length ∧ ((Tr.kids t).length : Int) ≤ most (Tr.kind t) := by
  simp only [fitsT, fitB, Bool.and_eq_true, decide_eq_true_eq] at h
  exact ⟨h.1.1.1.1.1, h.1.1.1.1.2, h.1.1.2.1, h.1.1.2.2⟩
theorem fitsT_kid {d : Nat} {on : Bool} {t : Tr (d + 1)} (h : fitsT (d + 1) on t = true) {x : Tr d} (hx : x ∈ Tr.kids t) : fitsT d true x = true := by
  simp only [fitsT, Bool.and_eq_true] at h
  exact List.all_eq_true.1 h.2 x hx
theorem fitsT_nil {d : Nat} {on : Bool} {t : Tr (d + 1)} (h : fitsT (d + 1) on t = true) (hk : Tr.kind t ≤ 3 ∨ Tr.kind t = 9) : Tr.kids t = [] := by
  have h1 := (fitsT_kind h).2.2.2
  unfold most at h1
  rw [if_neg (by omega), if_neg (by omega)] at h1
  exact List.length_eq_zero_iff.1 (by omega)
def stp (sq : Bool) (z q : Int) : Int := if sq = true then z + q else max z q
theorem stp_bd {sq : Bool} {z q : Int} (hz : 0 ≤ z) (hq : 0 ≤ q) : 0 ≤ stp sq z q ∧ stp sq z q ≤ z + q := by unfold stp; split <;> omega
theorem longL_step {T : Type} {f : T → Int} {sq : Bool} {z q R : Int} {l : List T} {k : Nat} (hlt : k < l.length) (hq : q = f l[k]) (hneg : ¬ q < 0) (h : longL f sq z (l.drop k) = R) : longL f sq (stp sq z q) (l.drop (k + 1)) = R := by
  rw [← h, List.drop_eq_getElem_cons hlt]; simp only [longL]; rw [← hq, if_neg hneg]; rfl
set_option maxRecDepth 100000 in
set_option maxHeartbeats 2000000 in
theorem longest_any (S : Nat → Prop) : ∀ (d : Nat) (v : Value) (t : Tr d) (on : Bool) (w : World), IsTr w S d v t → fitsT d on t = true → cnt d t ≤ 2000 →
    Calls Try.prog 58 #[v] w fun e w' => e = .returned (.int .i64 (longT d t)) ∧ Below w.heap.size w w' := by
  intro d
  induction d with
  | zero => intro v t; exact t.elim
  | succ d ih =>
    intro v t on w h hfit hn
    obtain ⟨A, c, rfl, hle, hkids⟩ := h.open
    have hkd1 := fitsT_kind hfit
    have hkd2 := fun x hx => fitsT_kid hfit (x := x) hx
    have hkd3 := fitsT_nil hfit
    obtain ⟨kd, hkd⟩ : ∃ kd, kd = Tr.kind t := ⟨_, rfl⟩
    obtain ⟨cl, hcl⟩ : ∃ cl, cl = Tr.cls t := ⟨_, rfl⟩
    obtain ⟨l, hl⟩ : ∃ l, l = Tr.kids t := ⟨_, rfl⟩
    have hres := hid (show longT (d + 1) t = if kd = 6 ∨ kd = 7 then -1 else if kd < 4 then 1 else longL (fun k => longT d k) (decide (kd = 4)) 0 l by rw [hkd, hl]; rfl)
    have HN := hid (show cntL (fun k => cnt d k) l ≤ 2000 by rw [hl]; simp only [cnt] at hn; omega)
    rw [← hkd, ← hl] at hkd1
    rw [← hl] at hkd2
    rw [← hkd, ← hl] at hkd3
    have HF := hid hkd2
    rw [← hkd, ← hcl]
    rw [← hl] at hle hkids ⊢
    clear hkd hcl h hl hn hfit hkd2
    obtain ⟨W, hW0⟩ : ∃ W, W = w.alloc (.cells #[.int .i64 kd, .int .i64 cl, .slice A l.length c] 45) := ⟨_, rfl⟩
    have HX := hid (box3 hW0)
    have HK := hid (hkids.below HX.out.1)
    have IH := hid ih
    clear hkids ih
    by_cases h6 : kd = 6
    · subst h6
      have HE := hid (show (-1 : Int) = longT (d + 1) t by rw [hres.out]; rfl)
      clear hkd1 hkd3
      go_enter Try.func58, Try.ntmps58
      go_wp2_with fail
      go_ret
      exact ⟨ret_int HE.out, by rw [← hW0]; exact HX.out.1⟩
    by_cases h7 : kd = 7
    · subst h7
      have HE := hid (show (-1 : Int) = longT (d + 1) t by rw [hres.out]; rfl)
      clear hkd1 hkd3
      go_enter Try.func58, Try.ntmps58
      go_wp2_with fail
      go_ret
      exact ⟨ret_int HE.out, by rw [← hW0]; exact HX.out.1⟩
    by_cases h9 : kd = 9
    · subst h9
      have HE := hid (show (0 : Int) = longT (d + 1) t by rw [hres.out, hkd3 (.inr rfl)]; rfl)
      clear hkd1 hkd3
      go_enter Try.func58, Try.ntmps58
      go_wp2_with fail
      go_ret
      exact ⟨ret_int HE.out, by rw [← hW0]; exact HX.out.1⟩
    have b6 := ieq_false h6
    have b7 := ieq_false h7
    have b9 := ieq_false h9
    by_cases h4 : kd < 4
    · have c4 := ieq_false (show kd ≠ 4 by omega)
      have c5 := ieq_false (show kd ≠ 5 by omega)
      have c8 := ieq_false (show kd ≠ 8 by omega)
      have HE := hid (show (1 : Int) = longT (d + 1) t by rw [hres.out, if_neg (by omega), if_pos h4])
      clear h6 h7 h9 h4 hkd1 hkd3
      go_enter Try.func58, Try.ntmps58
      go_wp2_with fail
      go_ret
      exact ⟨ret_int HE.out, by rw [← hW0]; exact HX.out.1⟩
    have h458 : kd = 4 ∨ kd = 5 ∨ kd = 8 := by omega
    have h45 : ∃ sq, sq = decide (kd = 4) := ⟨_, rfl⟩
    obtain ⟨sq, hsq⟩ := h45
    have hr2 := hid (show longT (d + 1) t = longL (fun k => longT d k) sq 0 l by rw [hres.out, if_neg (by omega), if_neg h4, hsq])
    have HL := hid hle
    clear h6 h7 h9 h4 hkd1 hkd3 hres b6 b7 b9
    rcases h458 with rfl | rfl | rfl
    all_goals
      simp only [decide_true, show (decide ((5 : Int) = 4)) = false from rfl, show (decide ((8 : Int) = 4)) = false from rfl] at hsq
      subst hsq
      go_enter Try.func58, Try.ntmps58
      go_wp2_with fail
      rw [← hW0]
      clear hW0
      obtain ⟨i0, i1, i2⟩ := HX.out.2 W (Below.refl _ _)
      go_wp2_with fail
      go_loopw [3, 5, 6, 21] (fun s3 _s5 _s6 s21 wr => ∃ (k : Nat) (z : Int), k ≤ l.length ∧ s21 = .int .i64 k ∧ s3 = .int .i64 z ∧ 0 ≤ z ∧ Hid (z + cntL (fun k => cnt d k) (l.drop k) ≤ 2000) ∧
        Hid (longL (fun k => longT d k) _ z (l.drop k) = longT (d + 1) t) ∧ Hid (Below W.heap.size W wr)) (fun _ _ _ s21 _ => l.length - (intOf s21).toNat)
      case atStart => exact ⟨0, 0, by omega, rfl, rfl, by omega, hid (by have := HN.out; rw [List.drop_zero]; omega), hid hr2.out.symm, hid (Below.refl _ _)⟩
      case round =>
        obtain ⟨k, z, hk, rfl, rfl, hz0, HZ, HT, HW⟩ := hrel
        obtain ⟨f0, f1, f2⟩ := HX.out.2 _ HW.out
        clear i0 i1 i2
        by_cases hlt : k < l.length
        · obtain ⟨b, o, v0, v1, v2, rfl, -, hbs, c0, c1, c2, ht⟩ := (HK.out.below HW.out).at (List.getElem?_eq_getElem hlt)
          obtain ⟨k0, k1, A2, n2, cp2, rfl, rfl, rfl⟩ := ht.cells
          have HTr := hid ht
          clear ht
          have HC := hid (cntL_drop (f := fun k => cnt d k) hlt)
          have HFk := hid (HF.out _ (List.getElem_mem hlt))
          obtain ⟨X, hX⟩ : ∃ X, X = wr.alloc (.cells #[.int .i64 k0, .int .i64 k1, .slice A2 n2 cp2] 45) := ⟨_, rfl⟩
          have HXb := hid (box3 hX).1
          have HWX := hid (HW.out.trans (HXb.out.mono HW.out.size))
          obtain ⟨q, hq⟩ : ∃ q, q = longT d l[k] := ⟨_, rfl⟩
          have hqb := longT_bd d l[k]
          rw [← hq] at hqb
          by_cases hneg : q < 0
          · have bn := ilt_true hneg
            have HE := hid (show longT (d + 1) t = -1 by
              rw [← HT.out, List.drop_eq_getElem_cons hlt]; simp only [longL]; rw [← hq, if_pos hneg])
            go_wp2_with fail
            rw [← hX]
            refine (IH.out _ _ _ _ (HTr.out.below HXb.out) HFk.out (by have := HC.out; have := HZ.out; omega)).mono ?_
            rintro e w1 ⟨rfl, hb1⟩
            rw [← hq]
            clear hq hqb hneg hX
            go_wp2_with fail
            go_ret
            exact ⟨ret_int HE.out.symm, HX.out.1.trans ((HWX.out.trans (hb1.mono HWX.out.size)).mono HX.out.1.size)⟩
          · have bn := ilt_false hneg
            have HN1 := hid (longL_step (f := fun k => longT d k) hlt hq hneg HT.out)
            have hz2 := hid (show z + q + cntL (fun k => cnt d k) (l.drop (k + 1)) ≤ 2000 ∧ 0 ≤ q ∧ q ≤ 2000 by have := HC.out; have := HZ.out; omega)
            have hz3 : z + q ≤ 2000 := by have := hz2.out; omega
            have hz4 : 0 ≤ q := hz2.out.2.1
            go_wp2_with fail
            rw [← hX]
            refine (IH.out _ _ _ _ (HTr.out.below HXb.out) HFk.out (by have := HC.out; have := HZ.out; omega)).mono ?_
            rintro e w1 ⟨rfl, hb1⟩
            rw [← hq]
            clear hq hqb hneg hX
            obtain ⟨g0, g1, g2⟩ := HX.out.2 w1 (HWX.out.trans (hb1.mono HWX.out.size))
            go_wp2_with fail
            go_roundw
            case rel => exact ⟨k + 1, stp _ z q, by omega, by go_num, by simp [stp, max_if], (stp_bd hz0 hz4).1, hid (Int.le_trans (Int.add_le_add_right (stp_bd hz0 hz4).2 _) hz2.out.1), HN1, hid (HWX.out.trans (hb1.mono HWX.out.size))⟩
            case measure => simp [intOf]; omega
        · have HE := hid (show longT (d + 1) t = z by
            rw [← HT.out, List.drop_eq_nil_of_le (by omega)]; rfl)
          go_wp2_with fail
          go_ret
          exact ⟨ret_int HE.out.symm, HX.out.1.trans (HW.out.mono HX.out.1.size)⟩
end Go.Proofs.Ytjcdcmeclnihbaa
