/- Whether a rule is right; whether a meaning is: the program's Right. Conditions: none. -/
import Derived.Test.YtjcdcmeclnihbaaLk
import Derived.Test.YtjcdcmeclnihbaaRi
namespace Go.Proofs.Ytjcdcmeclnihbaa
open Go.RowKit
def txB {d : Nat} (t : Tx d) : Bool := decide ((t.rs.length : Int) ≤ 40) && risesB t.ig && risesB t.kp && t.rs.all fun r => okR r
set_option maxRecDepth 100000 in
set_option maxHeartbeats 2000000 in
theorem rule_right_any (S : Nat → Prop) (d : Nat) (v : Value) (r : Rl d) (w : World) (h : IsRl w S d v r) :
    Calls Try.prog 48 #[v] w fun e w' => e = .returned (.bool (okR r)) ∧ Below w.heap.size w w' := by
  obtain ⟨k0, k1, A0, n0, p0, j0, j1, A1, n1, p1, rfl, hL, hR⟩ := h.open
  clear h
  obtain ⟨W, hW0⟩ : ∃ W, W = w.alloc (.cells #[.int .i64 k0, .int .i64 k1, .slice A0 n0 p0, .int .i64 j0, .int .i64 j1, .slice A1 n1 p1, .bool r.br] 47) := ⟨_, rfl⟩
  have HX := hid (box7 hW0)
  have HL := hid (hL.below HX.out.1)
  have HR := hid (hR.below HX.out.1)
  clear hL hR
  have hE : ∀ a b c, rightT d r.L = a → rightT d r.R = b → (looksT d r.R == 0) = c → okR r = (a && b && c) := fun a b c h1 h2 h3 => by unfold okR; rw [h1, h2, h3]
  have HE := hid hE
  clear hE
  cases hl : rightT d r.L with
  | false =>
    have HF := hid hl
    clear hl
    go_enter Try.func48, Try.ntmps48
    go_wp2_with fail
    rw [← hW0]
    refine (eright_any S _ _ _ _ HL.out).mono ?_
    rintro e w1 ⟨rfl, hb1⟩
    rw [HF.out]
    go_wp2_with fail
    go_ret
    exact ⟨ret_bool (HE.out _ _ _ HF.out rfl rfl).symm, HX.out.1.trans (hb1.mono HX.out.1.size)⟩
  | true =>
    have HF := hid hl
    clear hl
    cases hr : rightT d r.R with
    | false =>
      have HG := hid hr
      clear hr
      go_enter Try.func48, Try.ntmps48
      go_wp2_with fail
      rw [← hW0]
      refine (eright_any S _ _ _ _ HL.out).mono ?_
      rintro e w1 ⟨rfl, hb1⟩
      rw [HF.out]
      obtain ⟨g0, g1, g2, g3, g4, g5, g6⟩ := HX.out.2 w1 hb1
      go_wp2_with fail
      refine (eright_any S _ _ _ _ (HR.out.below hb1)).mono ?_
      rintro e w2 ⟨rfl, hb2⟩
      rw [HG.out]
      go_wp2_with fail
      go_ret
      exact ⟨ret_bool (HE.out _ _ _ HF.out HG.out rfl).symm, HX.out.1.trans ((hb1.trans (hb2.mono hb1.size)).mono HX.out.1.size)⟩
    | true =>
      have HG := hid hr
      clear hr
      obtain ⟨z, hz⟩ : ∃ z, z = looksT d r.R := ⟨_, rfl⟩
      have HZ := hid hz
      obtain ⟨q, hq⟩ : ∃ q, q = (z == 0) := ⟨_, rfl⟩
      have bq := hq.symm
      have HQ := hid (show okR r = q by rw [HE.out _ _ _ HF.out HG.out rfl, ← hz, bq]; rfl)
      clear hz hq
      go_enter Try.func48, Try.ntmps48
      go_wp2_with fail
      rw [← hW0]
      refine (eright_any S _ _ _ _ HL.out).mono ?_
      rintro e w1 ⟨rfl, hb1⟩
      rw [HF.out]
      obtain ⟨g0, g1, g2, g3, g4, g5, g6⟩ := HX.out.2 w1 hb1
      go_wp2_with fail
      refine (eright_any S _ _ _ _ (HR.out.below hb1)).mono ?_
      rintro e w2 ⟨rfl, hb2⟩
      rw [HG.out]
      have hb12 := hb1.trans (hb2.mono hb1.size)
      clear g0 g1 g2 g3 g4 g5 g6
      obtain ⟨g0, g1, g2, g3, g4, g5, g6⟩ := HX.out.2 w2 hb12
      have HB12 := hid hb12
      clear hb12 hb1
      go_wp2_with fail
      refine (looks_any S _ _ _ _ (HR.out.below HB12.out) HG.out).mono ?_
      rintro e w3 ⟨rfl, hb3⟩
      rw [← HZ.out]
      go_wp2_with fail
      go_ret
      exact ⟨ret_bool HQ.out.symm, HX.out.1.trans ((HB12.out.trans (hb3.mono HB12.out.size)).mono HX.out.1.size)⟩
set_option maxRecDepth 100000 in
theorem right1_any (S : Nat → Prop) (d : Nat) (v : Value) (r : Rl d) (w : World) (h : IsRl w S d v r) :
    Calls Try.prog 47 #[v] w fun e w' => e = .returned (.bool (!okR r)) ∧ Below w.heap.size w w' := by
  obtain ⟨k0, k1, A0, n0, p0, j0, j1, A1, n1, p1, rfl, -, -⟩ := h.open
  obtain ⟨W, hW0⟩ : ∃ W, W = w.alloc (.cells #[.int .i64 k0, .int .i64 k1, .slice A0 n0 p0, .int .i64 j0, .int .i64 j1, .slice A1 n1 p1, .bool r.br] 47) := ⟨_, rfl⟩
  have HB := hid (box7 hW0).1
  have HT := hid (h.below HB.out)
  clear h
  go_enter Try.func47, Try.ntmps47
  go_wp2_with fail
  rw [← hW0]
  refine (rule_right_any S _ _ _ _ HT.out).mono ?_
  rintro e w1 ⟨rfl, hb1⟩
  go_wp2_with fail
  go_ret
  exact ⟨rfl, HB.out.trans (hb1.mono HB.out.size)⟩
theorem Row7.rl {w : World} {S : Nat → Prop} {d : Nat} {r : Rl d} {k0 k1 : Int} {A0 : Option Addr} {n0 p0 : Nat} {j0 j1 : Int} {A1 : Option Addr} {n1 p1 : Nat}
    (hL : IsTr w S d (.agg #[.int .i64 k0, .int .i64 k1, .slice A0 n0 p0]) r.L) (hR : IsTr w S d (.agg #[.int .i64 j0, .int .i64 j1, .slice A1 n1 p1]) r.R) :
    IsRl w S d (.agg #[.int .i64 k0, .int .i64 k1, .slice A0 n0 p0, .int .i64 j0, .int .i64 j1, .slice A1 n1 p1, .bool r.br]) r := ⟨_, _, _, _, _, _, rfl, hL, hR⟩
set_option maxRecDepth 100000 in
set_option maxHeartbeats 1000000 in
theorem indexRule_any (S : Nat → Prop) (d : Nat) (A : Option Addr) (c : Nat) (l : List (Rl d)) (w : World) (h : Row7 w S d A l) (hle : l.length ≤ 9223372036854775807) :
    Calls Try.prog 63 #[.slice A l.length c, .func (.func 47) #[] #[]] w fun e w' => e = .returned (.int .i64 (idx (fun r => !okR r) 0 l)) ∧ Below w.heap.size w w' := by
  have HK := hid h
  clear h
  go_enter Try.func63, Try.ntmps63
  go_wp2_with fail
  go_loopw [8] (fun s8 wr => ∃ k : Nat, k ≤ l.length ∧ s8 = .int .i64 k ∧ Hid (idx (fun r => !okR r) k (l.drop k) = idx (fun r => !okR r) 0 l) ∧ Hid (Below w.heap.size w wr)) (fun s8 _ => l.length - (intOf s8).toNat)
  case atStart => exact ⟨0, by omega, rfl, hid rfl, hid (Below.refl _ _)⟩
  case round =>
    obtain ⟨k, hk, rfl, HT, HW⟩ := hrel
    by_cases hlt : k < l.length
    · obtain ⟨b, o, k0, k1, A0, n0, p0, j0, j1, A1, n1, p1, rfl, -, hbs, c0, c1, c2, c3, c4, c5, c6, hL, hR⟩ := (HK.out.below HW.out).at (List.getElem?_eq_getElem hlt)
      have HTr := hid (Row7.rl hL hR)
      obtain ⟨br, hbr⟩ : ∃ br, br = l[k].br := ⟨_, rfl⟩
      rw [← hbr] at c6 HTr
      clear hL hR hbr
      cases hf : okR l[k] with
      | true =>
        have HN := hid (show idx (fun r => !okR r) (k + 1) (l.drop (k + 1)) = idx (fun r => !okR r) 0 l by
          rw [← HT.out, List.drop_eq_getElem_cons hlt]; simp only [idx]; rw [if_neg (by simp [hf])])
        have HF := hid hf
        clear hf
        go_wp2_with (go_at_call 47; refine (right1_any S d _ _ _ HTr.out).mono ?_; rintro e w1 ⟨rfl, hb1⟩; rw [HF.out])
        go_roundw
        case rel => exact ⟨k + 1, by omega, by go_num, HN, hid (HW.out.trans (hb1.mono HW.out.size))⟩
        case measure => simp [intOf]; omega
      | false =>
        have HN := hid (show (k : Int) = idx (fun r => !okR r) 0 l by
          rw [← HT.out, List.drop_eq_getElem_cons hlt]; simp only [idx]; rw [if_pos (by simp [hf])])
        have HF := hid hf
        clear hf
        go_wp2_with (go_at_call 47; refine (right1_any S d _ _ _ HTr.out).mono ?_; rintro e w1 ⟨rfl, hb1⟩; rw [HF.out])
        go_ret
        exact ⟨ret_int HN.out, HW.out.trans (hb1.mono HW.out.size)⟩
    · have HN := hid (show (-1 : Int) = idx (fun r => !okR r) 0 l by
        rw [← HT.out, List.drop_eq_nil_of_le (by omega)]; rfl)
      go_wp2_with fail
      go_ret
      exact ⟨ret_int HN.out, HW.out⟩
set_option maxRecDepth 100000 in
theorem containsRule_any (S : Nat → Prop) (d : Nat) (A : Option Addr) (c : Nat) (l : List (Rl d)) (w : World) (h : Row7 w S d A l) (hle : l.length ≤ 9223372036854775807) :
    Calls Try.prog 46 #[.slice A l.length c, .func (.func 47) #[] #[]] w fun e w' => e = .returned (.bool (l.any fun r => !okR r)) ∧ Below w.heap.size w w' := by
  go_enter Try.func46, Try.ntmps46
  go_wp2_with fail
  refine (indexRule_any S d A c l _ h hle).mono ?_
  rintro e w1 ⟨rfl, hb1⟩
  go_wp2_with fail
  go_ret
  exact ⟨ret_bool (idx_any _ _ _), hb1⟩
set_option maxRecDepth 100000 in
set_option maxHeartbeats 2000000 in
theorem txRight_any (S : Nat → Prop) (d : Nat) (v : Value) (t : Tx d) (w : World) (h : IsTx w S d v t) :
    Calls Try.prog 22 #[v] w fun e w' => e = .returned (.bool (txB t)) ∧ Below w.heap.size w w' := by
  obtain ⟨I, ic, K, kc, A, c, rfl, hI, hK, lI, lK, lA, hA⟩ := h.open
  clear h
  obtain ⟨W, hW0⟩ : ∃ W, W = w.alloc (.cells #[.slice I t.ig.length ic, .slice K t.kp.length kc, .slice A t.rs.length c] 33) := ⟨_, rfl⟩
  have HX := hid (box3 hW0)
  have HI := hid (hI.below HX.out.1)
  have HK := hid (hK.below HX.out.1)
  have HA := hid (hA.below HX.out.1)
  have HL := hid lA
  clear hI hK hA
  have hE : ∀ a b c' e', decide ((t.rs.length : Int) ≤ 40) = a → risesB t.ig = b → risesB t.kp = c' → (t.rs.any fun r => !okR r) = e' → txB t = (a && b && c' && !e') := fun a b c' e' h1 h2 h3 h4 => by
    unfold txB; rw [h1, h2, h3, ← any_not, h4]
  have HE := hid hE
  clear hE
  by_cases h1 : (t.rs.length : Int) ≤ 40
  · have b1 := ile_true h1
    have HB1 := hid b1
    clear h1
    cases hi : risesB t.ig with
    | false =>
      have HF := hid hi
      clear hi
      go_enter Try.func22, Try.ntmps22
      go_wp2_with fail
      rw [← hW0]
      refine (rises_any S _ _ _ HI.out).mono ?_
      rintro e w1 ⟨rfl, hb1⟩
      rw [HF.out]
      go_wp2_with fail
      go_ret
      exact ⟨ret_bool (HE.out _ _ _ _ HB1.out HF.out rfl rfl).symm, HX.out.1.trans (hb1.mono HX.out.1.size)⟩
    | true =>
      have HF := hid hi
      clear hi
      cases hk : risesB t.kp with
      | false =>
        have HG := hid hk
        clear hk
        go_enter Try.func22, Try.ntmps22
        go_wp2_with fail
        rw [← hW0]
        refine (rises_any S _ _ _ HI.out).mono ?_
        rintro e w1 ⟨rfl, hb1⟩
        rw [HF.out]
        obtain ⟨g0, g1, g2⟩ := HX.out.2 w1 hb1
        go_wp2_with fail
        refine (rises_any S _ _ _ (HK.out.below hb1)).mono ?_
        rintro e w2 ⟨rfl, hb2⟩
        rw [HG.out]
        go_wp2_with fail
        go_ret
        exact ⟨ret_bool (HE.out _ _ _ _ HB1.out HF.out HG.out rfl).symm, HX.out.1.trans ((hb1.trans (hb2.mono hb1.size)).mono HX.out.1.size)⟩
      | true =>
        have HG := hid hk
        clear hk
        go_enter Try.func22, Try.ntmps22
        go_wp2_with fail
        rw [← hW0]
        refine (rises_any S _ _ _ HI.out).mono ?_
        rintro e w1 ⟨rfl, hb1⟩
        rw [HF.out]
        obtain ⟨g0, g1, g2⟩ := HX.out.2 w1 hb1
        go_wp2_with fail
        refine (rises_any S _ _ _ (HK.out.below hb1)).mono ?_
        rintro e w2 ⟨rfl, hb2⟩
        rw [HG.out]
        have hb12 := hb1.trans (hb2.mono hb1.size)
        clear g0 g1 g2
        obtain ⟨g0, g1, g2⟩ := HX.out.2 w2 hb12
        have HB12 := hid hb12
        clear hb12 hb1
        go_wp2_with fail
        refine (containsRule_any S _ _ _ _ _ (HA.out.below HB12.out) HL.out).mono ?_
        rintro e w3 ⟨rfl, hb3⟩
        go_wp2_with fail
        go_ret
        exact ⟨ret_bool (HE.out _ _ _ _ HB1.out HF.out HG.out rfl).symm, HX.out.1.trans ((HB12.out.trans (hb3.mono HB12.out.size)).mono HX.out.1.size)⟩
  · have b1 := ile_false h1
    have HB1 := hid b1
    clear h1
    go_enter Try.func22, Try.ntmps22
    go_wp2_with fail
    go_ret
    exact ⟨ret_bool (HE.out _ _ _ _ HB1.out rfl rfl rfl).symm, by rw [← hW0]; exact HX.out.1⟩
end Go.Proofs.Ytjcdcmeclnihbaa
