/- Whether there is a node of a kind: the program's has, by its closure; the document's Has. Conditions: none. -/
import Derived.Test.YtjcdcmeclnihbaaFl
namespace Go.Proofs.Ytjcdcmeclnihbaa
open Go.RowKit
def hasT : (d : Nat) → Int → Tr d → Bool
  | 0, _, _ => false
  | d + 1, kind, t => Tr.kind t == kind || (Tr.kids t).any fun x => hasT d kind x
def HasIH (S : Nat → Prop) (d : Nat) : Prop := ∀ (v : Value) (t : Tr d) (kind : Int) (w : World), IsTr w S d v t → Calls Try.prog 96 #[v, .int .i64 kind] w fun e w' => e = .returned (.bool (hasT d kind t)) ∧ Below w.heap.size w w'
theorem box1 {w W : World} {v0 : Value} {T : Nat} (hW : W = w.alloc (.cells #[v0] T)) : Below w.heap.size w W ∧ ∀ Y, Below W.heap.size W Y → Y.cell? ⟨w.heap.size, 0, none⟩ = some v0 := by
  have hb : Below w.heap.size w W := by rw [hW]; exact (Below.refl _ _).alloc (Nat.le_refl _) _
  have q0 : W.heap[w.heap.size]? = some (.cells #[v0] T (0, 0)) := by rw [hW]; exact heap_alloc_new _ _
  refine ⟨hb, fun Y hY => ?_⟩
  have h2 := (hY.block _ (by rw [hW]; simp)).trans q0
  rw [cell_of_row _ _ _ _ _ _ h2]; rfl
set_option maxRecDepth 100000 in
theorem has1_any (S : Nat → Prop) (d : Nat) (IH : Hid (HasIH S d)) (v : Value) (t : Tr d) (kind : Int) (b0 : Nat) (w : World) (h : IsTr w S d v t) (hc : w.cell? ⟨b0, 0, none⟩ = some (.int .i64 kind)) :
    Calls Try.prog 104 #[v, .pointer (some ⟨b0, 0, none⟩)] w fun e w' => e = .returned (.bool (hasT d kind t)) ∧ Below w.heap.size w w' := by
  cases d with
  | zero => exact t.elim
  | succ d =>
    obtain ⟨A, c, rfl, hle, -⟩ := h.open
    obtain ⟨W, hW0⟩ : ∃ W, W = w.alloc (.cells #[.int .i64 (Tr.kind t), .int .i64 (Tr.cls t), .slice A (Tr.kids t).length c] 45) := ⟨_, rfl⟩
    have HB := hid (show Below w.heap.size w W by rw [hW0]; exact (Below.refl _ _).alloc (Nat.le_refl _) _)
    have HT := hid (h.below HB.out)
    have hb0 := block_lt_of_cell hc
    clear h
    go_enter Try.func104, Try.ntmps104
    go_wp2_with fail
    rw [← hW0]
    refine (IH.out _ _ _ _ HT.out).mono ?_
    rintro e w1 ⟨rfl, hb1⟩
    go_wp2_with fail
    go_ret
    exact ⟨rfl, HB.out.trans (hb1.mono HB.out.size)⟩
set_option maxRecDepth 100000 in
set_option maxHeartbeats 1000000 in
theorem indexHas_any (S : Nat → Prop) (d : Nat) (IH : Hid (HasIH S d)) (A : Option Addr) (c : Nat) (l : List (Tr d)) (kind : Int) (b0 : Nat) (w : World) (h : Row3 (IsTr w S d) w S A l) (hle : l.length ≤ 9223372036854775807) (hc : w.cell? ⟨b0, 0, none⟩ = some (.int .i64 kind)) :
    Calls Try.prog 97 #[.slice A l.length c, .func (.func 104) #[] #[.pointer (some ⟨b0, 0, none⟩)]] w fun e w' => e = .returned (.int .i64 (idx (fun t => hasT d kind t) 0 l)) ∧ Below w.heap.size w w' := by
  have HK := hid h
  have HC := hid (fun wr (hb : Below w.heap.size w wr) => cell_later hb hc)
  clear h hc
  go_enter Try.func97, Try.ntmps97
  go_wp2_with fail
  go_loopw [8] (fun s8 wr => ∃ k : Nat, k ≤ l.length ∧ s8 = .int .i64 k ∧ Hid (idx (fun t => hasT d kind t) k (l.drop k) = idx (fun t => hasT d kind t) 0 l) ∧ Hid (Below w.heap.size w wr)) (fun s8 _ => l.length - (intOf s8).toNat)
  case atStart => exact ⟨0, by omega, rfl, rfl, hid (Below.refl _ _)⟩
  case round =>
    obtain ⟨k, hk, rfl, HT, HW⟩ := hrel
    by_cases hlt : k < l.length
    · obtain ⟨b, o, v0, v1, v2, rfl, -, hbs, c0, c1, c2, ht⟩ := (HK.out.below HW.out).at (List.getElem?_eq_getElem hlt)
      have HTr := hid ht
      have HCr := hid (HC.out _ HW.out)
      clear ht
      cases hf : hasT d kind l[k] with
      | false =>
        have HN := hid (show idx (fun t => hasT d kind t) (k + 1) (l.drop (k + 1)) = idx (fun t => hasT d kind t) 0 l by
          rw [← HT.out, List.drop_eq_getElem_cons hlt]; simp only [idx]; rw [if_neg (by simp [hf])])
        have HF := hid hf
        clear hf
        go_wp2_with (go_at_call 104; refine (has1_any S d IH _ _ _ _ _ HTr.out HCr.out).mono ?_; rintro e w1 ⟨rfl, hb1⟩; rw [HF.out])
        go_roundw
        case rel => exact ⟨k + 1, by omega, by go_num, HN, hid (HW.out.trans (hb1.mono HW.out.size))⟩
        case measure => simp [intOf]; omega
      | true =>
        have HN := hid (show (k : Int) = idx (fun t => hasT d kind t) 0 l by
          rw [← HT.out, List.drop_eq_getElem_cons hlt]; simp only [idx]; rw [if_pos hf])
        have HF := hid hf
        clear hf
        go_wp2_with (go_at_call 104; refine (has1_any S d IH _ _ _ _ _ HTr.out HCr.out).mono ?_; rintro e w1 ⟨rfl, hb1⟩; rw [HF.out])
        go_ret
        exact ⟨ret_int HN.out, HW.out.trans (hb1.mono HW.out.size)⟩
    · have HN := hid (show (-1 : Int) = idx (fun t => hasT d kind t) 0 l by
        rw [← HT.out, List.drop_eq_nil_of_le (by omega)]; rfl)
      go_wp2_with fail
      go_ret
      exact ⟨ret_int HN.out, HW.out⟩
set_option maxRecDepth 100000 in
theorem containsHas_any (S : Nat → Prop) (d : Nat) (IH : Hid (HasIH S d)) (A : Option Addr) (c : Nat) (l : List (Tr d)) (kind : Int) (b0 : Nat) (w : World) (h : Row3 (IsTr w S d) w S A l) (hle : l.length ≤ 9223372036854775807) (hc : w.cell? ⟨b0, 0, none⟩ = some (.int .i64 kind)) :
    Calls Try.prog 90 #[.slice A l.length c, .func (.func 104) #[] #[.pointer (some ⟨b0, 0, none⟩)]] w fun e w' => e = .returned (.bool (l.any fun t => hasT d kind t)) ∧ Below w.heap.size w w' := by
  have HC := hid hc
  clear hc
  go_enter Try.func90, Try.ntmps90
  go_wp2_with fail
  refine (indexHas_any S d IH A c l kind b0 _ h hle HC.out).mono ?_
  rintro e w1 ⟨rfl, hb1⟩
  go_wp2_with fail
  go_ret
  exact ⟨ret_bool (idx_any _ _ _), hb1⟩
set_option maxRecDepth 100000 in
set_option maxHeartbeats 1000000 in
theorem has_any (S : Nat → Prop) : ∀ d : Nat, HasIH S d := by
  intro d
  induction d with
  | zero => intro v t; exact t.elim
  | succ d ih =>
    intro v t kind w h
    obtain ⟨A, c, rfl, hle, hkids⟩ := h.open
    obtain ⟨kd, hkd⟩ : ∃ kd, kd = Tr.kind t := ⟨_, rfl⟩
    obtain ⟨cl, hcl⟩ : ∃ cl, cl = Tr.cls t := ⟨_, rfl⟩
    obtain ⟨l, hl⟩ : ∃ l, l = Tr.kids t := ⟨_, rfl⟩
    have hres := hid (show hasT (d + 1) kind t = (kd == kind || l.any fun x => hasT d kind x) by rw [hkd, hl]; rfl)
    rw [← hkd, ← hcl, ← hl]
    rw [← hl] at hkids hle
    clear hkd hcl hl h
    obtain ⟨W, hW0⟩ : ∃ W, W = w.alloc (.cells #[.int .i64 kd, .int .i64 cl, .slice A l.length c] 45) := ⟨_, rfl⟩
    have HX := hid (box3 hW0)
    obtain ⟨V, hV0⟩ : ∃ V, V = W.alloc (.cells #[.int .i64 kind] 3) := ⟨_, rfl⟩
    have HY := hid (box1 hV0)
    have HV := hid (HX.out.1.trans (HY.out.1.mono HX.out.1.size))
    have HK := hid (hkids.below HV.out)
    have HL := hid hle
    have IH := hid ih
    have HWs := hid (show W.heap.size = w.heap.size + 1 by rw [hW0]; simp)
    clear hkids ih hle
    cases hb : (kd == kind) with
    | true =>
      have HE := hid (show true = hasT (d + 1) kind t by rw [hres.out, hb]; rfl)
      go_enter Try.func96, Try.ntmps96
      go_wp2_with fail
      go_ret
      exact ⟨ret_bool HE.out, by rw [← hW0, ← hV0]; exact HV.out⟩
    | false =>
      have HE := hid (show (l.any fun x => hasT d kind x) = hasT (d + 1) kind t by rw [hres.out, hb]; rfl)
      go_enter Try.func96, Try.ntmps96
      go_wp2_with fail
      rw [← hW0, ← hV0]
      have hcc := HY.out.2 V (Below.refl _ _)
      rw [HWs.out] at hcc
      refine (containsHas_any S d IH A c l kind _ _ HK.out HL.out hcc).mono ?_
      rintro e w1 ⟨rfl, hb1⟩
      rw [HE.out]
      go_wp2_with fail
      go_ret
      exact ⟨rfl, HV.out.trans (hb1.mono HV.out.size)⟩
set_option maxRecDepth 100000 in
theorem ehas_any (S : Nat → Prop) (d : Nat) (v : Value) (t : Tr d) (kind : Int) (w : World) (h : IsTr w S d v t) :
    Calls Try.prog 88 #[v, .int .i64 kind] w fun e w' => e = .returned (.bool (rightT d t && hasT d kind t)) ∧ Below w.heap.size w w' := by
  have H := hid h
  cases d with
  | zero => exact t.elim
  | succ d =>
    obtain ⟨A, c, rfl, hle, -⟩ := h.open
    clear h
    obtain ⟨W, hW0⟩ : ∃ W, W = w.alloc (.cells #[.int .i64 (Tr.kind t), .int .i64 (Tr.cls t), .slice A (Tr.kids t).length c] 45) := ⟨_, rfl⟩
    have HX := hid (box3 hW0)
    have HT := hid (H.out.below HX.out.1)
    clear H
    cases hs : rightT (d + 1) t with
    | true =>
      have HS := hid hs
      clear hs
      go_enter Try.func88, Try.ntmps88
      go_wp2_with fail
      rw [← hW0]
      refine (eright_any S _ _ _ _ HT.out).mono ?_
      rintro e w1 ⟨rfl, hb1⟩
      rw [HS.out]
      obtain ⟨g0, g1, g2⟩ := HX.out.2 w1 hb1
      go_wp2_with fail
      refine (has_any S _ _ _ _ _ (HT.out.below hb1)).mono ?_
      rintro e w2 ⟨rfl, hb2⟩
      go_wp2_with fail
      go_ret
      exact ⟨rfl, HX.out.1.trans ((hb1.trans (hb2.mono hb1.size)).mono HX.out.1.size)⟩
    | false =>
      have HS := hid hs
      clear hs
      go_enter Try.func88, Try.ntmps88
      go_wp2_with fail
      rw [← hW0]
      refine (eright_any S _ _ _ _ HT.out).mono ?_
      rintro e w1 ⟨rfl, hb1⟩
      rw [HS.out]
      go_wp2_with fail
      go_ret
      exact ⟨rfl, HX.out.1.trans (hb1.mono HX.out.1.size)⟩
set_option maxRecDepth 100000 in
set_option maxHeartbeats 1000000 in
theorem rhas_any (S : Nat → Prop) : ∀ (d : Nat) (v : Value) (t : Tr d) (kind : Int) (w : World), IsTr w S d v t →
    Calls Try.prog 87 #[v, .int .i64 kind] w fun e w' => e = .returned (.bool (hasT d kind t)) ∧ Below w.heap.size w w' := by
  intro d
  induction d with
  | zero => intro v t; exact t.elim
  | succ d ih =>
    intro v t kind w h
    obtain ⟨A, c, rfl, hle, hkids⟩ := h.open
    obtain ⟨kd, hkd⟩ : ∃ kd, kd = Tr.kind t := ⟨_, rfl⟩
    obtain ⟨cl, hcl⟩ : ∃ cl, cl = Tr.cls t := ⟨_, rfl⟩
    obtain ⟨l, hl⟩ : ∃ l, l = Tr.kids t := ⟨_, rfl⟩
    have hres := hid (show hasT (d + 1) kind t = (kd == kind || l.any fun x => hasT d kind x) by rw [hkd, hl]; rfl)
    rw [← hkd, ← hcl, ← hl]
    rw [← hl] at hkids hle
    clear hkd hcl hl h
    obtain ⟨W, hW0⟩ : ∃ W, W = w.alloc (.cells #[.int .i64 kd, .int .i64 cl, .slice A l.length c] 51) := ⟨_, rfl⟩
    have HX := hid (box3 hW0)
    have HK := hid (hkids.below HX.out.1)
    have IH := hid ih
    clear hkids ih
    go_enter Try.func87, Try.ntmps87
    go_wp2_with fail
    rw [← hW0]
    clear hW0
    go_wp2_with fail
    go_loopw [5] (fun s5 wr => ∃ k : Nat, k ≤ l.length ∧ s5 = .int .i64 k ∧ Hid ((l.drop k).any (fun x => hasT d kind x) = l.any fun x => hasT d kind x) ∧ Hid (Below W.heap.size W wr)) (fun s5 _ => l.length - (intOf s5).toNat)
    case atStart => exact ⟨0, by omega, rfl, hid rfl, hid (Below.refl _ _)⟩
    case round =>
      obtain ⟨k, hk, rfl, HT, HW⟩ := hrel
      obtain ⟨f0, f1, f2⟩ := HX.out.2 _ HW.out
      by_cases hlt : k < l.length
      · obtain ⟨b, o, v0, v1, v2, rfl, -, hbs, c0, c1, c2, ht⟩ := (HK.out.below HW.out).at (List.getElem?_eq_getElem hlt)
        have HTr := hid ht
        clear ht
        cases hf : hasT d kind l[k] with
        | true =>
          have HE := hid (show true = hasT (d + 1) kind t by
            rw [hres.out, ← HT.out, List.drop_eq_getElem_cons hlt, List.any_cons, hf, Bool.true_or, Bool.or_true])
          have HF := hid hf
          clear hf
          go_wp2_with fail
          refine (IH.out _ _ _ _ HTr.out).mono ?_
          rintro e w1 ⟨rfl, hb1⟩
          rw [HF.out]
          go_wp2_with fail
          go_ret
          exact ⟨ret_bool HE.out, HX.out.1.trans ((HW.out.trans (hb1.mono HW.out.size)).mono HX.out.1.size)⟩
        | false =>
          have HN := hid (show (l.drop (k + 1)).any (fun x => hasT d kind x) = l.any fun x => hasT d kind x by
            rw [← HT.out, List.drop_eq_getElem_cons hlt, List.any_cons, hf, Bool.false_or])
          have HF := hid hf
          clear hf
          go_wp2_with fail
          refine (IH.out _ _ _ _ HTr.out).mono ?_
          rintro e w1 ⟨rfl, hb1⟩
          rw [HF.out]
          go_wp2_with fail
          go_roundw
          case rel => exact ⟨k + 1, by omega, by go_num, HN, hid (HW.out.trans (hb1.mono HW.out.size))⟩
          case measure => simp [intOf]; omega
      · have HE := hid (show (kd == kind) = hasT (d + 1) kind t by
          rw [hres.out, ← HT.out, List.drop_eq_nil_of_le (by omega)]; simp)
        go_wp2_with fail
        go_ret
        exact ⟨ret_bool HE.out, HX.out.1.trans (HW.out.mono HX.out.1.size)⟩
end Go.Proofs.Ytjcdcmeclnihbaa
