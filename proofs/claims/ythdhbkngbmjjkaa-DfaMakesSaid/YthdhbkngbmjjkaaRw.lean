/- The document's places of expressions: its Make. Conditions: right expressions, not too many. -/
import Derived.Test.YthdhbkngbmjjkaaRs
import Derived.Test.YthdhbkngbmjjkaaRv
import Derived.Test.YthdhbkngbmjjkaaRp
namespace Go.Proofs.Ythdhbkngbmjjkaa
open Go.RowKit
set_option linter.unusedSimpArgs false
/-- A tree's walk. -/
theorem look_any (B : Nat) (H : Value × Value × Value × Value) : ∀ d, LookIH B H d
  | 0 => fun t => t.elim
  | d + 1 => fun t v of s w a v1 v2 v5 hR ht hRm => by
    obtain ⟨A, c, rfl, hkl, hrow⟩ := ht.open
    by_cases h9 : Tr.kind t = 9
    · have e : lookP (d + 1) t of s = (⟨true, [], []⟩, s) := by simp only [lookP]; rw [if_pos h9]
      rw [e, h9]
      exact look_nine hR
    by_cases hk : (Tr.kids t).length = 0
    · have e : lookP (d + 1) t of s = (⟨false, [((s.lv.length + 1 : Nat) : Int)], [((s.lv.length + 1 : Nat) : Int)]⟩, ⟨s.lv ++ [(Tr.kind t, Tr.cls t)], s.of ++ [of], s.prs⟩) := by
        simp only [lookP]; rw [if_neg h9, if_pos hk]
      rw [e, hk]
      exact look_leaf hR h9 (by have := hRm.2.1; omega) (by have := hRm.2.2.1; omega)
    · rw [foldK_look h9 hk]
      by_cases h4 : Tr.kind t = 4
      · exact look_seq (look_any B H d) t A _ c _ _ of s w a v1 v2 v5 hR rfl rfl hrow hRm h9 h4 hk hkl
      · exact look_alt (look_any B H d) t A _ c _ _ of s w a v1 v2 v5 hR rfl rfl hrow hRm h9 h4 hk hkl
section
variable {w : World} {B a : Nat} {v1 v2 v5 h0 h3 h4 h6 : Value} {s : Rs}
theorem RA.set3 (h : RA w B a v1 v2 v5 (h0, h3, h4, h6) s) (V : Value) : RA (w.setCell ⟨a, 3, none⟩ V) B a v1 v2 v5 (h0, V, h4, h6) s := by
  obtain ⟨r1, r2, ⟨f, r3⟩, r4, r5⟩ := h
  exact ⟨r1, heap_setCell_same w a 3 _ 39 V r2, ⟨f, ownsRow_setCell_other r3 (own_blk_ne r3 r2 (by decide)) _⟩, ownsRow_setCell_other r4 (own_blk_ne r4 r2 (by decide)) _, ownsRow_setCell_other r5 (own_blk_ne r5 r2 (by decide)) _⟩
theorem RA.set4 (h : RA w B a v1 v2 v5 (h0, h3, h4, h6) s) (V : Value) : RA (w.setCell ⟨a, 4, none⟩ V) B a v1 v2 v5 (h0, h3, V, h6) s := by
  obtain ⟨r1, r2, ⟨f, r3⟩, r4, r5⟩ := h
  exact ⟨r1, heap_setCell_same w a 4 _ 39 V r2, ⟨f, ownsRow_setCell_other r3 (own_blk_ne r3 r2 (by decide)) _⟩, ownsRow_setCell_other r4 (own_blk_ne r4 r2 (by decide)) _, ownsRow_setCell_other r5 (own_blk_ne r5 r2 (by decide)) _⟩
theorem RA.set6 (h : RA w B a v1 v2 v5 (h0, h3, h4, h6) s) (V : Value) : RA (w.setCell ⟨a, 6, none⟩ V) B a v1 v2 v5 (h0, h3, h4, V) s := by
  obtain ⟨r1, r2, ⟨f, r3⟩, r4, r5⟩ := h
  exact ⟨r1, heap_setCell_same w a 6 _ 39 V r2, ⟨f, ownsRow_setCell_other r3 (own_blk_ne r3 r2 (by decide)) _⟩, ownsRow_setCell_other r4 (own_blk_ne r4 r2 (by decide)) _, ownsRow_setCell_other r5 (own_blk_ne r5 r2 (by decide)) _⟩
end
/-- The places so far, in memory. -/
def MkAt (w wr : World) (B a : Nat) (search : Bool) (F L : List Int) (e : Nat) (s : Rs) : Prop :=
  ∃ v1 v2 v5 fV lV, RA wr B a v1 v2 v5 (.bool search, fV, lV, .int .u64 (e : Int)) s ∧ IsNums .i64 wr (fun b => ¬ Tch a v1 v2 v5 b) fV F ∧ IsNums .i64 wr (fun b => ¬ Tch a v1 v2 v5 b) lV L ∧ Below B w wr
theorem fresh_tch {w w' : World} {B a : Nat} {v1 v2 v5 : Value} {H : Value × Value × Value × Value} {s : Rs} {v : Value} {l : List Int} (h : RA w B a v1 v2 v5 H s) (hv : IsNums .i64 w' (fun b => w.heap.size ≤ b) v l) : IsNums .i64 w' (fun b => ¬ Tch a v1 v2 v5 b) v l :=
  hv.mono fun b hb _ e => by have := (h.lt b e).2; omega
theorem nums_at {w : World} {a : Nat} {v1 v2 v5 : Value} {v : Value} {l : List Int} (h : IsNums .i64 w (fun b => ¬ Tch a v1 v2 v5 b) v l) (j : Nat) (u : Value) : IsNums .i64 (w.setCell ⟨a, j, none⟩ u) (fun b => ¬ Tch a v1 v2 v5 b) v l :=
  h.keep fun b hb _ => heap_setCell_other _ _ _ _ fun e => hb (.inl e)
set_option maxRecDepth 100000 in
set_option maxHeartbeats 16000000 in
theorem rmake_any (search : Bool) (S : Nat → Prop) (d : Nat) (A : Option Addr) (c : Nat) (l : List (Tr d)) (w : World) (h : Row3 (IsTr w S d) w S A l) (hle : l.length ≤ 40) (hc : cntE d l ≤ 160) :
    Calls Try.prog 18 #[.bool search, .slice A l.length c] w fun e w' => ∃ a, e = .returned (.pointer (some ⟨a, 0, none⟩)) ∧ Rf w' a search (makeI l l.length).fst (makeI l l.length).lst (makeI l l.length).emp (makeI l l.length).s ∧ Below w.heap.size w w' := by
  obtain ⟨a, ha⟩ : ∃ a, a = w.heap.size := ⟨_, rfl⟩
  obtain ⟨W, hW⟩ : ∃ W, W = w.alloc (.cells #[.bool search, .slice none 0 0, .slice none 0 0, .slice none 0 0, .slice none 0 0, .slice none 0 0, .int .u64 0] 39) := ⟨_, rfl⟩
  have HM0 := hid (show MkAt w W a a search [] [] 0 ⟨[], [], []⟩ from ⟨.slice none 0 0, .slice none 0 0, .slice none 0 0, .slice none 0 0, .slice none 0 0, ⟨Nat.le_refl _, by rw [hW, ha]; exact heap_alloc_new _ _, ⟨fun _ => (none, 0, 0), World.ownsRow_nil _ _ _ _⟩, World.ownsRow_nil _ _ _ _, World.ownsRow_nil _ _ _ _⟩, nums_nil _ _, nums_nil _ _, by rw [hW, ha]; exact (Below.refl _ _).alloc (Nat.le_refl _) _⟩)
  have HROW := hid (show Row3 (IsTr w (fun b => b < a) d) w (fun b => b < a) A l from h.imp (fun _ _ _ => rfl) (fun b _ hb => by rw [ha]; exact hb) fun _ _ _ hr => hr.mono fun b _ hb => by rw [ha]; exact hb)
  have HC := hid hc
  have HAW := hid ha
  clear h hc
  go_enter Try.func18, Try.ntmps18
  go_wp2_with fail
  rw [← hW, ← ha]
  clear hW ha
  go_loopw [6] (fun s6 wr => ∃ (i : Nat), i ≤ l.length ∧ s6 = .int .i64 i ∧ Hid (MkAt w wr a a search (makeI l i).fst (makeI l i).lst (makeI l i).emp (makeI l i).s)) (fun s6 _ => l.length - (intOf s6).toNat)
  case atStart => exact ⟨0, by omega, rfl, HM0⟩
  case round =>
    clear HM0
    obtain ⟨i, hi, rfl, HM⟩ := hrel
    obtain ⟨m, hm⟩ : ∃ m, m = makeI l i := ⟨_, rfl⟩
    have HMI := hid hm
    rw [← hm] at HM
    obtain ⟨v1, v2, v5, fV, lV, hR, hF, hL, hB⟩ := HM.out
    by_cases hlt : i < l.length
    · have hget : l[i]? = some l[i] := List.getElem?_eq_getElem hlt
      obtain ⟨t, ht⟩ : ∃ t, t = l[i] := ⟨_, rfl⟩
      rw [← ht] at hget
      have hrow' : Row3 (IsTr wr (fun b => b < a) d) wr (fun b => b < a) A l := HROW.out.keep fun b hb _ => hB.block b hb
      obtain ⟨bl, ol, x0, x1, x2, rfl, -, -, k0, k1, k2, htr⟩ := hrow'.at hget
      obtain ⟨e0, e1, KA2, nn2, cp2, rfl, rfl, rfl⟩ := htr.cells
      have hroom := makeI_room HC.out hget
      have HSUC := hid (makeI_succ hget)
      rw [← hm] at hroom HSUC
      obtain ⟨r, hr⟩ : ∃ r, r = lookP d t (i : Int) m.s := ⟨_, rfl⟩
      have HCALL := hid (look_any a (.bool search, fV, lV, .int .u64 (m.emp : Int)) d t _ (i : Int) m.s wr a v1 v2 v5 hR htr hroom.1)
      rw [← hr] at HCALL hroom HSUC
      have HRM := hid hroom.2
      have HF := hid hF
      have HL := hid hL
      have HB := hid hB
      have HR := hid hR
      clear hR hF hL hB hrow' htr hroom hget ht hr
      go_wp2_with fail
      refine HCALL.out.mono ?_
      rintro e w1 ⟨F1, L1, n1, n2, n5, rfl, g1, g2, g3, g4, g5⟩
      clear k0 k1 k2
      obtain ⟨FA, nF, fc, eF⟩ := sl_form g4
      obtain ⟨LA, nL, lc, eL⟩ := sl_form g5
      subst eF eL
      have hF1 := (g2.nums (HF.out.mono (S' := fun b => ¬ Tch a v1 v2 v5 b ∧ b < wr.heap.size) fun b h1 h2 => ⟨h1, h2⟩) fun b hb _ => hb.1).mono (S' := fun b => ¬ Tch a n1 n2 n5 b) fun b hb _ e => by rcases g3 b e with e | e; exact hb.1 e; have := hb.2; omega
      have hL1 := (g2.nums (HL.out.mono (S' := fun b => ¬ Tch a v1 v2 v5 b ∧ b < wr.heap.size) fun b h1 h2 => ⟨h1, h2⟩) fun b hb _ => hb.1).mono (S' := fun b => ¬ Tch a n1 n2 n5 b) fun b hb _ e => by rcases g3 b e with e | e; exact hb.1 e; have := hb.2; omega
      have hB1 : Below a w w1 := HB.out.trans (g2.below (fun b hb => (HR.out.lt b hb).1) (by have := (HR.out.lt a (.inl rfl)); omega))
      obtain ⟨w2, hw2⟩ : ∃ w2, w2 = w1.alloc (.cells #[.bool r.1.emp, .slice FA nF fc, .slice LA nL lc] 95) := ⟨_, rfl⟩
      obtain ⟨p, hp⟩ : ∃ p, p = w1.heap.size := ⟨_, rfl⟩
      have hb2 : Below w1.heap.size w1 w2 := by rw [hw2]; exact (Below.refl _ _).alloc (Nat.le_refl _) _
      have hpb : w2.heap[p]? = some (.cells #[.bool r.1.emp, .slice FA nF fc, .slice LA nL lc] 95 (0, 0)) := by rw [hw2, hp]; exact heap_alloc_new _ _
      have hal := (g1.lt a (.inl rfl)).2
      have hpa : p ≠ a := by omega
      have HMK := hid (show MkAt w w2 a a search m.fst m.lst m.emp r.2 from ⟨n1, n2, n5, fV, lV, g1.below hb2, hF1.below hb2, hL1.below hb2, hB1.trans (hb2.mono (by omega))⟩)
      have HPF := hid ((g4.below hb2).mono (S' := fun b => b ≠ a) fun b hb _ e => hb.1 (.inl e))
      have HPL := hid ((g5.below hb2).mono (S' := fun b => b ≠ a) fun b hb _ e => hb.1 (.inl e))
      have HPB := hid hpb
      have HPA := hid (And.intro hpa hp)
      obtain ⟨pe, hpe⟩ : ∃ pe, pe = r.1.emp := ⟨_, rfl⟩
      have HPE := hid hpe
      rw [← hpe] at HPB
      have HA2 := hid (show a < w2.heap.size by have := hb2.size; omega)
      clear g1 g2 g3 g4 g5 hF1 hL1 hB1 hb2 hpb hal hpa hpe HF HL HB HR
      go_wp2_with fail
      rw [← hw2, ← hp]
      clear hw2 hp
      obtain ⟨u1, u2, u5, fV, lV, hR, hF, hL, hB⟩ := HMK.out
      obtain ⟨A3, n3, c3, rfl⟩ := sl_form hF
      obtain ⟨A4, n4, c4, rfl⟩ := sl_form hL
      have hblk := hR.2.1
      have hal := (Array.getElem?_eq_some_iff.1 hblk).1
      have HA3 := hid (slot7 hblk).2.2.2.1
      have HA4 := hid (slot7 hblk).2.2.2.2.1
      have HAF := hid (show ∀ Y, Below w2.heap.size w2 Y → Y.cell? ⟨a, 3, none⟩ = some (.slice A3 n3 c3) ∧ Y.frozen? ⟨a, 3, none⟩ = false from fun Y hY => by
        have h := slot7 ((hY.block a hal).trans hblk)
        exact ⟨h.2.2.2.1, h.2.2.2.2.2.2.2 3⟩)
      have HPC := hid (show ∀ Y, Below w2.heap.size w2 Y → Y.cell? ⟨p, 0, none⟩ = some (.bool pe) ∧ Y.cell? ⟨p, 1, none⟩ = some (.slice FA nF fc) ∧ Y.cell? ⟨p, 2, none⟩ = some (.slice LA nL lc) from fun Y hY => by
        obtain ⟨a0, a1, a2, -⟩ := slot3 ((hY.block p (Array.getElem?_eq_some_iff.1 HPB.out).1).trans HPB.out)
        exact ⟨a0, a1, a2⟩)
      have HPS := hid (show ∀ Y, Below w2.heap.size w2 Y → ∀ j u, (Y.setCell ⟨a, j, none⟩ u).cell? ⟨p, 0, none⟩ = some (.bool pe) ∧ (Y.setCell ⟨a, j, none⟩ u).cell? ⟨p, 1, none⟩ = some (.slice FA nF fc) ∧ (Y.setCell ⟨a, j, none⟩ u).cell? ⟨p, 2, none⟩ = some (.slice LA nL lc) from fun Y hY j u => by
        obtain ⟨a0, a1, a2⟩ := HPC.out Y hY
        have h1 : (Y.setCell ⟨a, j, none⟩ u).heap[p]? = Y.heap[p]? := heap_setCell_other _ _ _ _ HPA.out.1
        exact ⟨(cell_same h1).trans a0, (cell_same h1).trans a1, (cell_same h1).trans a2⟩)
      have HFV := hid hF
      have HLV := hid hL
      have HLN := hid (show m.fst.length + r.1.fst.length ≤ 1000000 ∧ m.lst.length + r.1.lst.length ≤ 1000000 from ⟨by have := HRM.out.1; omega, by have := HRM.out.2; omega⟩)
      have HRR := hid hR
      have HBB := hid hB
      clear hR hF hL hB hblk hal
      refine wp_region_held_drew (S := (fun Y => Y.cell? ⟨p, 0, none⟩ = some (.bool pe) ∧ Y.cell? ⟨p, 1, none⟩ = some (.slice FA nF fc) ∧ Y.cell? ⟨p, 2, none⟩ = some (.slice LA nL lc))) (by kernel_rfl) (by first | exact HPC.out _ (Below.refl _ _) | exact HPC.out _ (Below.refl _ _).drew) (fun hHeld => ?_)
      refine wpAnyH_take (i := 0) (oi := { dst := some 24, op := Op.move (Operand.tmp 5), type := _, pos := _, after := _, guard := none }) (v := ?_) rfl (by kernel_rfl) (by kernel_rfl) (by kernel_rfl) (fun _ _ _ h => h) (Or.inl ⟨by rfl, ?_⟩) (by assumption) ?_
      rotate_left
      · intro w hSw; (try dsimp only at hSw); go_simp; try with_reducible rfl
      try simp only [Act.put, List.setIfInBounds_toArray, List.set_cons_zero, List.set_cons_succ]
      refine wpAnyH_take (i := 1) (oi := { dst := some 25, op := Op.move (Operand.tmp 5), type := _, pos := _, after := _, guard := none }) (v := ?_) rfl (by kernel_rfl) (by kernel_rfl) (by kernel_rfl) (fun _ _ _ h => h) (Or.inl ⟨by rfl, ?_⟩) (by assumption) ?_
      rotate_left
      · intro w hSw; (try dsimp only at hSw); go_simp; try with_reducible rfl
      try simp only [Act.put, List.setIfInBounds_toArray, List.set_cons_zero, List.set_cons_succ]
      refine wpAnyH_take (i := 2) (oi := { dst := some 26, op := Op.nilCheck (Operand.tmp 25), type := _, pos := _, after := _, guard := none }) (v := ?_) rfl (by kernel_rfl) (by kernel_rfl) (by kernel_rfl) (fun _ _ _ h => h) (Or.inl ⟨by rfl, ?_⟩) (by assumption) ?_
      rotate_left
      · intro w hSw; (try dsimp only at hSw); go_simp; try with_reducible rfl
      try simp only [Act.put, List.setIfInBounds_toArray, List.set_cons_zero, List.set_cons_succ]
      refine wpAnyH_take (i := 3) (oi := { dst := some 27, op := Op.fieldAddr 39 (Operand.tmp 26) 3, type := _, pos := _, after := _, guard := none }) (v := ?_) rfl (by kernel_rfl) (by kernel_rfl) (by kernel_rfl) (fun _ _ _ h => h) (Or.inl ⟨by rfl, ?_⟩) (by assumption) ?_
      rotate_left
      · intro w hSw; (try dsimp only at hSw); go_simp; try with_reducible rfl
      try simp only [Act.put, List.setIfInBounds_toArray, List.set_cons_zero, List.set_cons_succ]
      refine wpAnyH_take (i := 5) (oi := { dst := some 29, op := Op.fieldAddr 95 (Operand.tmp 7) 1, type := _, pos := _, after := _, guard := none }) (v := ?_) rfl (by kernel_rfl) (by kernel_rfl) (by kernel_rfl) (fun _ _ _ h => h) (Or.inl ⟨by rfl, ?_⟩) (by assumption) ?_
      rotate_left
      · intro w hSw; (try dsimp only at hSw); go_simp; try with_reducible rfl
      try simp only [Act.put, List.setIfInBounds_toArray, List.set_cons_zero, List.set_cons_succ]
      refine wpAnyH_take (i := 6) (oi := { dst := some 30, op := Op.load 23 (Operand.tmp 29), type := _, pos := _, after := _, guard := none }) (v := ?_) rfl (by kernel_rfl) (by kernel_rfl) (by kernel_rfl) (fun _ _ _ h => h) (Or.inl ⟨by rfl, ?_⟩) (by assumption) ?_
      rotate_left
      · intro w hSw; (try dsimp only at hSw); go_simp; try with_reducible rfl
      try simp only [Act.put, List.setIfInBounds_toArray, List.set_cons_zero, List.set_cons_succ]
      refine wpAnyH_ready (rs := [4]) (by kernel_rfl) (by simp) ?_
      refine AllReadyH.cons (o := { dst := some 28, op := Op.load 23 (Operand.tmp 27), type := _, pos := _, after := _, guard := none }) rfl (fun K hK => ?_) AllReadyH.nil
      go_simp
      rw [HA3.out]
      go_simp
      refine hK.out _ _ (by first | exact HPC.out _ (Below.refl _ _) | exact HPC.out _ (Below.refl _ _).drew) (fun hHeld => ?_)
      clear hK K
      try simp only [Act.put, List.setIfInBounds_toArray, List.set_cons_zero, List.set_cons_succ]
      refine wpAnyH_ready (rs := [7]) (by kernel_rfl) (by simp) ?_
      refine AllReadyH.cons (o := { dst := some 31, op := Op.call { callee := Callee.value (Operand.func 52), args := #[Operand.tmp 28, Operand.tmp 30], argTypes := #[23, 23] }, type := _, pos := _, after := _, guard := none }) rfl (fun K hK => ?_) AllReadyH.nil
      go_simp
      refine (join_sl _ _ _ _ _ _ _ (HFV.out.below (Below.refl _ _).drew) (HPF.out.below (Below.refl _ _).drew) HLN.out.1).mono ?_
      rintro e w3 ⟨A1, n1, c1, rfl, hv, hb⟩
      have HV1 := hid hv
      have HZ := hid ((Below.refl w2.heap.size w2).drew.trans hb)
      obtain ⟨x3, xf⟩ := HAF.out _ HZ.out
      clear hv hb
      refine hK.out _ _ (by exact HPC.out _ HZ.out) (fun hHeld => ?_)
      clear hK K
      try simp only [Act.put, List.setIfInBounds_toArray, List.set_cons_zero, List.set_cons_succ]
      refine wpAnyH_take (i := 8) (oi := { dst := some 32, op := Op.nilCheck (Operand.tmp 24), type := _, pos := _, after := _, guard := none }) (v := ?_) rfl (by kernel_rfl) (by kernel_rfl) (by kernel_rfl) (fun _ _ _ h => h) (Or.inl ⟨by rfl, ?_⟩) (by assumption) ?_
      rotate_left
      · intro w hSw; (try dsimp only at hSw); go_simp; try with_reducible rfl
      try simp only [Act.put, List.setIfInBounds_toArray, List.set_cons_zero, List.set_cons_succ]
      refine wpAnyH_take (i := 9) (oi := { dst := some 33, op := Op.fieldAddr 39 (Operand.tmp 32) 3, type := _, pos := _, after := _, guard := none }) (v := ?_) rfl (by kernel_rfl) (by kernel_rfl) (by kernel_rfl) (fun _ _ _ h => h) (Or.inl ⟨by rfl, ?_⟩) (by assumption) ?_
      rotate_left
      · intro w hSw; (try dsimp only at hSw); go_simp; try with_reducible rfl
      try simp only [Act.put, List.setIfInBounds_toArray, List.set_cons_zero, List.set_cons_succ]
      refine wpAnyH_ready (rs := [10]) (by kernel_rfl) (by simp) ?_
      refine AllReadyH.cons (o := { dst := none, op := Op.store 23 (Operand.tmp 33) (Operand.tmp 31), type := _, pos := _, after := _, guard := none }) rfl (fun K hK => ?_) AllReadyH.nil
      go_simp
      refine hK.out _ _ (by exact HPS.out _ HZ.out _ _) (fun hHeld => ?_)
      clear hK K
      try simp only [Act.put, List.setIfInBounds_toArray, List.set_cons_zero, List.set_cons_succ]
      refine wpAnyH_done (by kernel_rfl) ?_ _
      obtain ⟨w2', hw2'⟩ : ∃ w', w' = w3.setCell ⟨a, 3, none⟩ (.slice A1 n1 c1) := ⟨_, rfl⟩
      have HMK := hid (show MkAt w w2' a a search (m.fst ++ r.1.fst) m.lst m.emp r.2 by
        rw [hw2']
        exact ⟨u1, u2, u5, _, _, (HRR.out.below HZ.out).set3 _, nums_at (fresh_tch HRR.out HV1.out) _ _, nums_at (HLV.out.below HZ.out) _ _, (HBB.out.trans (HZ.out.mono (by have := HRR.out.lt a (.inl rfl); omega))).setCell (p := ⟨a, 3, none⟩) (Nat.le_refl _) _⟩)
      have HPB := hid (show w2'.heap[p]? = some (.cells #[.bool pe, .slice FA nF fc, .slice LA nL lc] 95 (0, 0)) by rw [hw2', heap_setCell_other _ _ _ _ HPA.out.1]; exact (HZ.out.block p (Array.getElem?_eq_some_iff.1 HPB.out).1).trans HPB.out)
      have HPF := hid (show IsNums .i64 w2' (fun b => b ≠ a) (.slice FA nF fc) r.1.fst by rw [hw2']; exact (HPF.out.below HZ.out).keep fun b hb _ => heap_setCell_other _ _ _ _ hb)
      have HPL := hid (show IsNums .i64 w2' (fun b => b ≠ a) (.slice LA nL lc) r.1.lst by rw [hw2']; exact (HPL.out.below HZ.out).keep fun b hb _ => heap_setCell_other _ _ _ _ hb)
      rw [← hw2']
      clear hw2' x3 xf HPC HPS HAF HA3 HA4 HFV HLV HRR HBB HV1 HZ HLN
      obtain ⟨w2, e2⟩ : ∃ w2, w2 = w2' := ⟨_, rfl⟩
      subst e2
      go_wp2_with fail
      obtain ⟨u1, u2, u5, fV, lV, hR, hF, hL, hB⟩ := HMK.out
      obtain ⟨A3, n3, c3, rfl⟩ := sl_form hF
      obtain ⟨A4, n4, c4, rfl⟩ := sl_form hL
      have hblk := hR.2.1
      have hal := (Array.getElem?_eq_some_iff.1 hblk).1
      have HA3 := hid (slot7 hblk).2.2.2.1
      have HA4 := hid (slot7 hblk).2.2.2.2.1
      have HAF := hid (show ∀ Y, Below w2.heap.size w2 Y → Y.cell? ⟨a, 4, none⟩ = some (.slice A4 n4 c4) ∧ Y.frozen? ⟨a, 4, none⟩ = false from fun Y hY => by
        have h := slot7 ((hY.block a hal).trans hblk)
        exact ⟨h.2.2.2.2.1, h.2.2.2.2.2.2.2 4⟩)
      have HPC := hid (show ∀ Y, Below w2.heap.size w2 Y → Y.cell? ⟨p, 0, none⟩ = some (.bool pe) ∧ Y.cell? ⟨p, 1, none⟩ = some (.slice FA nF fc) ∧ Y.cell? ⟨p, 2, none⟩ = some (.slice LA nL lc) from fun Y hY => by
        obtain ⟨a0, a1, a2, -⟩ := slot3 ((hY.block p (Array.getElem?_eq_some_iff.1 HPB.out).1).trans HPB.out)
        exact ⟨a0, a1, a2⟩)
      have HPS := hid (show ∀ Y, Below w2.heap.size w2 Y → ∀ j u, (Y.setCell ⟨a, j, none⟩ u).cell? ⟨p, 0, none⟩ = some (.bool pe) ∧ (Y.setCell ⟨a, j, none⟩ u).cell? ⟨p, 1, none⟩ = some (.slice FA nF fc) ∧ (Y.setCell ⟨a, j, none⟩ u).cell? ⟨p, 2, none⟩ = some (.slice LA nL lc) from fun Y hY j u => by
        obtain ⟨a0, a1, a2⟩ := HPC.out Y hY
        have h1 : (Y.setCell ⟨a, j, none⟩ u).heap[p]? = Y.heap[p]? := heap_setCell_other _ _ _ _ HPA.out.1
        exact ⟨(cell_same h1).trans a0, (cell_same h1).trans a1, (cell_same h1).trans a2⟩)
      have HFV := hid hF
      have HLV := hid hL
      have HLN := hid (show m.fst.length + r.1.fst.length ≤ 1000000 ∧ m.lst.length + r.1.lst.length ≤ 1000000 from ⟨by have := HRM.out.1; omega, by have := HRM.out.2; omega⟩)
      have HRR := hid hR
      have HBB := hid hB
      clear hR hF hL hB hblk hal
      refine wp_region_held_drew (S := (fun Y => Y.cell? ⟨p, 0, none⟩ = some (.bool pe) ∧ Y.cell? ⟨p, 1, none⟩ = some (.slice FA nF fc) ∧ Y.cell? ⟨p, 2, none⟩ = some (.slice LA nL lc))) (by kernel_rfl) (by first | exact HPC.out _ (Below.refl _ _) | exact HPC.out _ (Below.refl _ _).drew) (fun hHeld => ?_)
      refine wpAnyH_take (i := 0) (oi := { dst := some 34, op := Op.move (Operand.tmp 5), type := _, pos := _, after := _, guard := none }) (v := ?_) rfl (by kernel_rfl) (by kernel_rfl) (by kernel_rfl) (fun _ _ _ h => h) (Or.inl ⟨by rfl, ?_⟩) (by assumption) ?_
      rotate_left
      · intro w hSw; (try dsimp only at hSw); go_simp; try with_reducible rfl
      try simp only [Act.put, List.setIfInBounds_toArray, List.set_cons_zero, List.set_cons_succ]
      refine wpAnyH_take (i := 1) (oi := { dst := some 35, op := Op.move (Operand.tmp 5), type := _, pos := _, after := _, guard := none }) (v := ?_) rfl (by kernel_rfl) (by kernel_rfl) (by kernel_rfl) (fun _ _ _ h => h) (Or.inl ⟨by rfl, ?_⟩) (by assumption) ?_
      rotate_left
      · intro w hSw; (try dsimp only at hSw); go_simp; try with_reducible rfl
      try simp only [Act.put, List.setIfInBounds_toArray, List.set_cons_zero, List.set_cons_succ]
      refine wpAnyH_take (i := 2) (oi := { dst := some 36, op := Op.nilCheck (Operand.tmp 35), type := _, pos := _, after := _, guard := none }) (v := ?_) rfl (by kernel_rfl) (by kernel_rfl) (by kernel_rfl) (fun _ _ _ h => h) (Or.inl ⟨by rfl, ?_⟩) (by assumption) ?_
      rotate_left
      · intro w hSw; (try dsimp only at hSw); go_simp; try with_reducible rfl
      try simp only [Act.put, List.setIfInBounds_toArray, List.set_cons_zero, List.set_cons_succ]
      refine wpAnyH_take (i := 3) (oi := { dst := some 37, op := Op.fieldAddr 39 (Operand.tmp 36) 4, type := _, pos := _, after := _, guard := none }) (v := ?_) rfl (by kernel_rfl) (by kernel_rfl) (by kernel_rfl) (fun _ _ _ h => h) (Or.inl ⟨by rfl, ?_⟩) (by assumption) ?_
      rotate_left
      · intro w hSw; (try dsimp only at hSw); go_simp; try with_reducible rfl
      try simp only [Act.put, List.setIfInBounds_toArray, List.set_cons_zero, List.set_cons_succ]
      refine wpAnyH_take (i := 5) (oi := { dst := some 39, op := Op.fieldAddr 95 (Operand.tmp 7) 2, type := _, pos := _, after := _, guard := none }) (v := ?_) rfl (by kernel_rfl) (by kernel_rfl) (by kernel_rfl) (fun _ _ _ h => h) (Or.inl ⟨by rfl, ?_⟩) (by assumption) ?_
      rotate_left
      · intro w hSw; (try dsimp only at hSw); go_simp; try with_reducible rfl
      try simp only [Act.put, List.setIfInBounds_toArray, List.set_cons_zero, List.set_cons_succ]
      refine wpAnyH_take (i := 6) (oi := { dst := some 40, op := Op.load 23 (Operand.tmp 39), type := _, pos := _, after := _, guard := none }) (v := ?_) rfl (by kernel_rfl) (by kernel_rfl) (by kernel_rfl) (fun _ _ _ h => h) (Or.inl ⟨by rfl, ?_⟩) (by assumption) ?_
      rotate_left
      · intro w hSw; (try dsimp only at hSw); go_simp; try with_reducible rfl
      try simp only [Act.put, List.setIfInBounds_toArray, List.set_cons_zero, List.set_cons_succ]
      refine wpAnyH_ready (rs := [4]) (by kernel_rfl) (by simp) ?_
      refine AllReadyH.cons (o := { dst := some 38, op := Op.load 23 (Operand.tmp 37), type := _, pos := _, after := _, guard := none }) rfl (fun K hK => ?_) AllReadyH.nil
      go_simp
      rw [HA4.out]
      go_simp
      refine hK.out _ _ (by first | exact HPC.out _ (Below.refl _ _) | exact HPC.out _ (Below.refl _ _).drew) (fun hHeld => ?_)
      clear hK K
      try simp only [Act.put, List.setIfInBounds_toArray, List.set_cons_zero, List.set_cons_succ]
      refine wpAnyH_ready (rs := [7]) (by kernel_rfl) (by simp) ?_
      refine AllReadyH.cons (o := { dst := some 41, op := Op.call { callee := Callee.value (Operand.func 52), args := #[Operand.tmp 38, Operand.tmp 40], argTypes := #[23, 23] }, type := _, pos := _, after := _, guard := none }) rfl (fun K hK => ?_) AllReadyH.nil
      go_simp
      refine (join_sl _ _ _ _ _ _ _ (HLV.out.below (Below.refl _ _).drew) (HPL.out.below (Below.refl _ _).drew) HLN.out.2).mono ?_
      rintro e w3 ⟨A1, n1, c1, rfl, hv, hb⟩
      have HV1 := hid hv
      have HZ := hid ((Below.refl w2.heap.size w2).drew.trans hb)
      obtain ⟨x3, xf⟩ := HAF.out _ HZ.out
      clear hv hb
      refine hK.out _ _ (by exact HPC.out _ HZ.out) (fun hHeld => ?_)
      clear hK K
      try simp only [Act.put, List.setIfInBounds_toArray, List.set_cons_zero, List.set_cons_succ]
      refine wpAnyH_take (i := 8) (oi := { dst := some 42, op := Op.nilCheck (Operand.tmp 34), type := _, pos := _, after := _, guard := none }) (v := ?_) rfl (by kernel_rfl) (by kernel_rfl) (by kernel_rfl) (fun _ _ _ h => h) (Or.inl ⟨by rfl, ?_⟩) (by assumption) ?_
      rotate_left
      · intro w hSw; (try dsimp only at hSw); go_simp; try with_reducible rfl
      try simp only [Act.put, List.setIfInBounds_toArray, List.set_cons_zero, List.set_cons_succ]
      refine wpAnyH_take (i := 9) (oi := { dst := some 43, op := Op.fieldAddr 39 (Operand.tmp 42) 4, type := _, pos := _, after := _, guard := none }) (v := ?_) rfl (by kernel_rfl) (by kernel_rfl) (by kernel_rfl) (fun _ _ _ h => h) (Or.inl ⟨by rfl, ?_⟩) (by assumption) ?_
      rotate_left
      · intro w hSw; (try dsimp only at hSw); go_simp; try with_reducible rfl
      try simp only [Act.put, List.setIfInBounds_toArray, List.set_cons_zero, List.set_cons_succ]
      refine wpAnyH_ready (rs := [10]) (by kernel_rfl) (by simp) ?_
      refine AllReadyH.cons (o := { dst := none, op := Op.store 23 (Operand.tmp 43) (Operand.tmp 41), type := _, pos := _, after := _, guard := none }) rfl (fun K hK => ?_) AllReadyH.nil
      go_simp
      refine hK.out _ _ (by exact HPS.out _ HZ.out _ _) (fun hHeld => ?_)
      clear hK K
      try simp only [Act.put, List.setIfInBounds_toArray, List.set_cons_zero, List.set_cons_succ]
      refine wpAnyH_done (by kernel_rfl) ?_ _
      obtain ⟨w2', hw2'⟩ : ∃ w', w' = w3.setCell ⟨a, 4, none⟩ (.slice A1 n1 c1) := ⟨_, rfl⟩
      have HMK := hid (show MkAt w w2' a a search (m.fst ++ r.1.fst) (m.lst ++ r.1.lst) m.emp r.2 by
        rw [hw2']
        exact ⟨u1, u2, u5, _, _, (HRR.out.below HZ.out).set4 _, nums_at (HFV.out.below HZ.out) _ _, nums_at (fresh_tch HRR.out HV1.out) _ _, (HBB.out.trans (HZ.out.mono (by have := HRR.out.lt a (.inl rfl); omega))).setCell (p := ⟨a, 4, none⟩) (Nat.le_refl _) _⟩)
      have HPB := hid (show w2'.heap[p]? = some (.cells #[.bool pe, .slice FA nF fc, .slice LA nL lc] 95 (0, 0)) by rw [hw2', heap_setCell_other _ _ _ _ HPA.out.1]; exact (HZ.out.block p (Array.getElem?_eq_some_iff.1 HPB.out).1).trans HPB.out)
      have HPF := hid (show IsNums .i64 w2' (fun b => b ≠ a) (.slice FA nF fc) r.1.fst by rw [hw2']; exact (HPF.out.below HZ.out).keep fun b hb _ => heap_setCell_other _ _ _ _ hb)
      have HPL := hid (show IsNums .i64 w2' (fun b => b ≠ a) (.slice LA nL lc) r.1.lst by rw [hw2']; exact (HPL.out.below HZ.out).keep fun b hb _ => heap_setCell_other _ _ _ _ hb)
      rw [← hw2']
      clear hw2' x3 xf HPC HPS HAF HA3 HA4 HFV HLV HRR HBB HV1 HZ HLN
      obtain ⟨w2, e2⟩ : ∃ w2, w2 = w2' := ⟨_, rfl⟩
      subst e2
      obtain ⟨u1, u2, u5, fV, lV, hR, hF, hL, hB⟩ := HMK.out
      obtain ⟨b0, -, -, -⟩ := slot3 HPB.out
      cases hpe : pe with
      | false =>
        rw [hpe] at b0
        have HSUC2 := hid (show makeI l (i + 1) = ⟨m.fst ++ r.1.fst, m.lst ++ r.1.lst, m.emp, r.2⟩ by rw [HSUC.out, ← HPE.out, hpe]; rfl)
        have HMF := HMK
        clear hR hF hL hB hpe
        go_wp2_with fail
        go_roundw
        case rel => exact ⟨i + 1, by omega, by go_num, hid (by rw [HSUC2.out]; exact HMF.out)⟩
        case measure => simp [intOf]; omega
      | true =>
        rw [hpe] at b0
        have HSUC2 := hid (show makeI l (i + 1) = ⟨m.fst ++ r.1.fst, m.lst ++ r.1.lst, m.emp ||| 1 <<< i, r.2⟩ by rw [HSUC.out, ← HPE.out, hpe]; rfl)
        have hblk := hR.2.1
        obtain ⟨-, -, -, -, -, -, b6, bf⟩ := slot7 hblk
        have bf6 := bf 6
        have HA6 := hid b6
        have hlt64 : m.emp < 2 ^ 64 := by rw [HMI.out]; exact Nat.lt_of_lt_of_le (makeI_emp l i) (Nat.pow_le_pow_right (by decide) (by omega))
        have hor := or_u64 m.emp (1 <<< i) hlt64 (by rw [Nat.one_shiftLeft]; exact Nat.pow_lt_pow_right (by decide) (by omega))
        rw [← shl_one64 (show i < 64 by omega)] at hor
        have HOR := hid hor
        have HFIN := hid (show ∀ V, V = Value.int .u64 ((m.emp ||| 1 <<< i : Nat) : Int) → MkAt w (w2.drew.setCell ⟨a, 6, none⟩ V) a a search (m.fst ++ r.1.fst) (m.lst ++ r.1.lst) (m.emp ||| 1 <<< i) r.2 from fun V hV => by
          subst hV
          have hd : Below w2.heap.size w2 w2.drew := (Below.refl _ _).drew
          exact ⟨u1, u2, u5, _, _, (hR.below hd).set6 _, nums_at (hF.below hd) _ _, nums_at (hL.below hd) _ _, (hB.drew).setCell (p := ⟨a, 6, none⟩) (Nat.le_refl _) _⟩)
        have hii : 0 ≤ (i : Int) := by omega
        clear hR hF hL hB hpe hor bf hlt64 hblk
        go_wp2_with fail
        refine wp_region_held_drew (S := (fun _ => True)) (by kernel_rfl) (by exact trivial) (fun hHeld => ?_)
        refine wpAnyH_take (i := 0) (oi := { dst := some 46, op := Op.move (Operand.tmp 5), type := _, pos := _, after := _, guard := none }) (v := ?_) rfl (by kernel_rfl) (by kernel_rfl) (by kernel_rfl) (fun _ _ _ h => h) (Or.inl ⟨by rfl, ?_⟩) (by assumption) ?_
        rotate_left
        · intro w hSw; (try dsimp only at hSw); go_simp; try with_reducible rfl
        try simp only [Act.put, List.setIfInBounds_toArray, List.set_cons_zero, List.set_cons_succ]
        refine wpAnyH_take (i := 1) (oi := { dst := some 47, op := Op.move (Operand.tmp 5), type := _, pos := _, after := _, guard := none }) (v := ?_) rfl (by kernel_rfl) (by kernel_rfl) (by kernel_rfl) (fun _ _ _ h => h) (Or.inl ⟨by rfl, ?_⟩) (by assumption) ?_
        rotate_left
        · intro w hSw; (try dsimp only at hSw); go_simp; try with_reducible rfl
        try simp only [Act.put, List.setIfInBounds_toArray, List.set_cons_zero, List.set_cons_succ]
        refine wpAnyH_take (i := 2) (oi := { dst := some 48, op := Op.nilCheck (Operand.tmp 47), type := _, pos := _, after := _, guard := none }) (v := ?_) rfl (by kernel_rfl) (by kernel_rfl) (by kernel_rfl) (fun _ _ _ h => h) (Or.inl ⟨by rfl, ?_⟩) (by assumption) ?_
        rotate_left
        · intro w hSw; (try dsimp only at hSw); go_simp; try with_reducible rfl
        try simp only [Act.put, List.setIfInBounds_toArray, List.set_cons_zero, List.set_cons_succ]
        refine wpAnyH_take (i := 3) (oi := { dst := some 49, op := Op.fieldAddr 39 (Operand.tmp 48) 6, type := _, pos := _, after := _, guard := none }) (v := ?_) rfl (by kernel_rfl) (by kernel_rfl) (by kernel_rfl) (fun _ _ _ h => h) (Or.inl ⟨by rfl, ?_⟩) (by assumption) ?_
        rotate_left
        · intro w hSw; (try dsimp only at hSw); go_simp; try with_reducible rfl
        try simp only [Act.put, List.setIfInBounds_toArray, List.set_cons_zero, List.set_cons_succ]
        refine wpAnyH_take (i := 5) (oi := { dst := some 51, op := Op.move (Operand.tmp 6), type := _, pos := _, after := _, guard := none }) (v := ?_) rfl (by kernel_rfl) (by kernel_rfl) (by kernel_rfl) (fun _ _ _ h => h) (Or.inl ⟨by rfl, ?_⟩) (by assumption) ?_
        rotate_left
        · intro w hSw; (try dsimp only at hSw); go_simp; try with_reducible rfl
        try simp only [Act.put, List.setIfInBounds_toArray, List.set_cons_zero, List.set_cons_succ]
        refine wpAnyH_take (i := 6) (oi := { dst := some 52, op := Op.binOp BinOp.shl 37 (Operand.const (Value.int IntKind.u64 1)) (Operand.tmp 51) 3, type := _, pos := _, after := _, guard := none }) (v := ?_) rfl (by kernel_rfl) (by kernel_rfl) (by kernel_rfl) (fun _ _ _ h => h) (Or.inl ⟨by rfl, ?_⟩) (by assumption) ?_
        rotate_left
        · intro w hSw; (try dsimp only at hSw); go_simp; try with_reducible rfl
        try simp only [Act.put, List.setIfInBounds_toArray, List.set_cons_zero, List.set_cons_succ]
        refine wpAnyH_ready (rs := [4]) (by kernel_rfl) (by simp) ?_
        refine AllReadyH.cons (o := { dst := some 50, op := Op.load 37 (Operand.tmp 49), type := _, pos := _, after := _, guard := none }) rfl (fun K hK => ?_) AllReadyH.nil
        go_simp
        try rw [HA6.out]
        try go_simp
        refine hK.out _ _ (by exact trivial) (fun hHeld => ?_)
        clear hK K
        try simp only [Act.put, List.setIfInBounds_toArray, List.set_cons_zero, List.set_cons_succ]
        refine wpAnyH_take (i := 7) (oi := { dst := some 53, op := Op.binOp BinOp.or 37 (Operand.tmp 50) (Operand.tmp 52) 37, type := _, pos := _, after := _, guard := none }) (v := ?_) rfl (by kernel_rfl) (by kernel_rfl) (by kernel_rfl) (fun _ _ _ h => h) (Or.inl ⟨by rfl, ?_⟩) (by assumption) ?_
        rotate_left
        · intro w hSw; (try dsimp only at hSw); go_simp; try with_reducible rfl
        try simp only [Act.put, List.setIfInBounds_toArray, List.set_cons_zero, List.set_cons_succ]
        refine wpAnyH_take (i := 8) (oi := { dst := some 54, op := Op.nilCheck (Operand.tmp 46), type := _, pos := _, after := _, guard := none }) (v := ?_) rfl (by kernel_rfl) (by kernel_rfl) (by kernel_rfl) (fun _ _ _ h => h) (Or.inl ⟨by rfl, ?_⟩) (by assumption) ?_
        rotate_left
        · intro w hSw; (try dsimp only at hSw); go_simp; try with_reducible rfl
        try simp only [Act.put, List.setIfInBounds_toArray, List.set_cons_zero, List.set_cons_succ]
        refine wpAnyH_take (i := 9) (oi := { dst := some 55, op := Op.fieldAddr 39 (Operand.tmp 54) 6, type := _, pos := _, after := _, guard := none }) (v := ?_) rfl (by kernel_rfl) (by kernel_rfl) (by kernel_rfl) (fun _ _ _ h => h) (Or.inl ⟨by rfl, ?_⟩) (by assumption) ?_
        rotate_left
        · intro w hSw; (try dsimp only at hSw); go_simp; try with_reducible rfl
        try simp only [Act.put, List.setIfInBounds_toArray, List.set_cons_zero, List.set_cons_succ]
        refine wpAnyH_ready (rs := [10]) (by kernel_rfl) (by simp) ?_
        refine AllReadyH.cons (o := { dst := none, op := Op.store 37 (Operand.tmp 55) (Operand.tmp 53), type := _, pos := _, after := _, guard := none }) rfl (fun K hK => ?_) AllReadyH.nil
        go_simp
        refine hK.out _ _ (by exact trivial) (fun hHeld => ?_)
        clear hK K
        try simp only [Act.put, List.setIfInBounds_toArray, List.set_cons_zero, List.set_cons_succ]
        refine wpAnyH_done (by kernel_rfl) ?_ _
        go_wp2_with fail
        refine ⟨⟨i + 1, by omega, by go_num, hid (by rw [HSUC2.out]; exact HFIN.out _ (congrArg (Value.int .u64) (by rw [← HMI.out]; exact HOR.out)))⟩, by simp [intOf]; omega⟩
    · obtain rfl : i = l.length := by omega
      have HRF := hid (show Rf wr a search m.fst m.lst m.emp m.s from ⟨a, v1, v2, v5, fV, lV, hR, hF.mono fun _ _ _ => trivial, hL.mono fun _ _ _ => trivial⟩)
      have HBL := hid hB
      clear hR hF hL hB
      go_wp2_with fail
      go_ret
      exact ⟨a, rfl, by rw [← HMI.out]; exact HRF.out, by rw [← HAW.out]; exact HBL.out⟩
end Go.Proofs.Ythdhbkngbmjjkaa
