/- A given expression as the program's: the walk. Condition: no more nodes than there may be. -/
import Derived.Test.YtjcdcmeclnihbaaOw
import Derived.Deep.RegionHeld3
namespace Go.Proofs.Ytjcdcmeclnihbaa
open Go.RowKit
set_option linter.unusedSimpArgs false
theorem IsTr.form {w : World} {S : Nat → Prop} {d : Nat} {v : Value} {t : Tr d} (h : IsTr w S d v t) : ∃ k c A n cp, v = .agg #[.int .i64 k, .int .i64 c, .slice A n cp] := by
  cases d with
  | zero => exact h.elim
  | succ d =>
    obtain ⟨A, c, e, _⟩ := h
    exact ⟨_, _, _, _, _, e⟩
theorem slot3 {Y : World} {p : Nat} {a b c : Value} {t : TypeId} (h : Y.heap[p]? = some (.cells #[a, b, c] t (0, 0))) :
    Y.cell? ⟨p, 0, none⟩ = some a ∧ Y.cell? ⟨p, 1, none⟩ = some b ∧ Y.cell? ⟨p, 2, none⟩ = some c ∧ ∀ j, Y.frozen? ⟨p, j, none⟩ = false :=
  ⟨by rw [cell_of_row _ _ _ _ _ _ h]; rfl, by rw [cell_of_row _ _ _ _ _ _ h]; rfl, by rw [cell_of_row _ _ _ _ _ _ h]; rfl, fun _ => frozen_of_row _ _ _ _ _ h⟩
theorem put3 {Y : World} {p : Nat} {a b c : Value} {t : TypeId} (u0 u1 u2 : Value) (h : Y.heap[p]? = some (.cells #[a, b, c] t (0, 0))) :
    (((Y.setCell ⟨p, 0, none⟩ u0).setCell ⟨p, 1, none⟩ u1).setCell ⟨p, 2, none⟩ u2).heap[p]? = some (.cells #[u0, u1, u2] t (0, 0)) := by
  have h0 : (Y.setCell ⟨p, 0, none⟩ u0).heap[p]? = some (.cells #[u0, b, c] t (0, 0)) := heap_setCell_same Y p 0 _ t u0 h
  have h1 : ((Y.setCell ⟨p, 0, none⟩ u0).setCell ⟨p, 1, none⟩ u1).heap[p]? = some (.cells #[u0, u1, c] t (0, 0)) := heap_setCell_same _ p 1 _ t u1 h0
  exact heap_setCell_same _ p 2 _ t u2 h1
theorem cell_same {Y wr : World} {b o : Nat} (h : Y.heap[b]? = wr.heap[b]?) : Y.cell? ⟨b, o, none⟩ = wr.cell? ⟨b, o, none⟩ := World.cell?_of_block (a := ⟨b, o, none⟩) h
theorem alloc3 {w W : World} {o1 o2 o3 : Obj} (h : W = ((w.alloc o1).alloc o2).alloc o3) : W.heap[w.heap.size]? = some o1 ∧ W.heap[w.heap.size + 1]? = some o2 ∧ W.heap[w.heap.size + 2]? = some o3 ∧ W.heap.size = w.heap.size + 3 := by
  have s1 : (w.alloc o1).heap.size = w.heap.size + 1 := by simp
  have s2 : ((w.alloc o1).alloc o2).heap.size = w.heap.size + 2 := by simp
  subst h
  refine ⟨?_, ?_, ?_, by simp⟩
  · rw [heap_alloc_old _ _ (by rw [s2]; omega), heap_alloc_old _ _ (by rw [s1]; omega)]; exact heap_alloc_new _ _
  · rw [heap_alloc_old _ _ (by rw [s2]; omega), ← s1]; exact heap_alloc_new _ _
  · rw [← s2]; exact heap_alloc_new _ _
set_option maxRecDepth 100000 in
set_option maxHeartbeats 4000000 in
theorem to_any (S : Nat → Prop) : ∀ (d : Nat) (v : Value) (t : Tr d) (w : World), IsTr w S d v t → cnt d t ≤ 2000 →
    Calls Try.prog 28 #[v] w fun e w' => ∃ v', e = .returned v' ∧ Below w.heap.size w w' ∧ IsTr w' (fun b => w.heap.size ≤ b) d v' t := by
  intro d
  induction d with
  | zero => intro v t; exact t.elim
  | succ d ih =>
    intro v t w h hn
    obtain ⟨A, c, rfl, hle, hkids⟩ := h.open
    obtain ⟨kd, hkd⟩ : ∃ kd, kd = Tr.kind t := ⟨_, rfl⟩
    obtain ⟨cl, hcl⟩ : ∃ cl, cl = Tr.cls t := ⟨_, rfl⟩
    obtain ⟨l, hl⟩ : ∃ l, l = Tr.kids t := ⟨_, rfl⟩
    have HT0 := hid (And.intro hkd (And.intro hcl hl))
    have HM := hid (show cntL (fun k => cnt d k) l ≤ 1999 by rw [hl]; simp only [cnt] at hn; omega)
    have HM2 := hid (show l.length ≤ 1999 from Nat.le_trans (cntL_len (fun x => cnt_pos d x) l) HM.out)
    rw [← hkd, ← hcl, ← hl]
    rw [← hl] at hkids
    clear hkd hcl hl h hn hle
    obtain ⟨q, hq⟩ : ∃ q, q = w.heap.size := ⟨_, rfl⟩
    obtain ⟨W, hW0⟩ : ∃ W, W = ((w.alloc (.cells #[.int .i64 kd, .int .i64 cl, .slice A l.length c] 51)).alloc (.cells #[.int .i64 0, .int .i64 0, .slice none 0 0] 45)).alloc (.cells #[.int .i64 kd, .int .i64 cl, .slice none 0 0] 45) := ⟨_, rfl⟩
    have HWb := hid (show Below w.heap.size w W by rw [hW0]; exact (((Below.refl _ _).alloc (Nat.le_refl _) _).alloc (by simp) _).alloc (by simp; omega) _)
    have HK := hid (hkids.below HWb.out)
    have IH := hid ih
    have HQ := hid hq
    have HW1 := hid (alloc3 hW0)
    rw [← hq] at HW1
    have HKw := hid hkids
    clear hkids ih
    go_enter Try.func28, Try.ntmps28
    go_wp2_with fail
    rw [← hW0]
    rw [← hq]
    clear hW0 hq HK
    obtain ⟨i0, i1, i2, -⟩ := slot3 HW1.out.1
    go_wp2_with fail
    go_loopw [4] (fun s4 wr => ∃ (k : Nat) (vk : Value), k ≤ l.length ∧ s4 = .int .i64 k ∧ Hid (BTr wr (q + 3) d vk (l.take k)) ∧ Hid (wr.heap[q + 2]? = some (.cells #[.int .i64 kd, .int .i64 cl, vk] 45 (0, 0))) ∧ Hid (W.grownBy wr (some (q + 2)))) (fun s4 _ => l.length - (intOf s4).toNat)
    case atStart => exact ⟨0, _, by omega, rfl, hid (BTr.nil _ _ _), hid HW1.out.2.2.1, hid (World.grownBy.refl _ _)⟩
    case round =>
      obtain ⟨k, vk, hk, rfl, HR, HC, HG⟩ := hrel
      have HQr := hid (show wr.heap[q]? = some (.cells #[.int .i64 kd, .int .i64 cl, .slice A l.length c] 51 (0, 0)) from (HG.out.block q (by rw [HW1.out.2.2.2]; omega) (by simp)).trans HW1.out.1)
      obtain ⟨f0, f1, f2, -⟩ := slot3 HQr.out
      obtain ⟨g0, g1, g2, -⟩ := slot3 HC.out
      have HZ := hid (show q + 3 ≤ wr.heap.size by have := HG.out.size; rw [HW1.out.2.2.2] at this; exact this)
      clear i0 i1 i2
      by_cases hlt : k < l.length
      · obtain ⟨b, o, v0, v1, v2, rfl, -, hbs, c0, c1, c2, ht⟩ := HKw.out.at (List.getElem?_eq_getElem hlt)
        obtain ⟨k0, k1, A2, n2, cp2, rfl, rfl, rfl⟩ := ht.cells
        have HS := hid (show ∀ Y : World, W.grownBy Y (some (q + 2)) → Y.cell? ⟨q, 2, none⟩ = some (.slice (some ⟨b, o, none⟩) l.length c) ∧ Y.cell? ⟨b, o + k * 3, none⟩ = some (.int .i64 k0) ∧ Y.cell? ⟨b, o + k * 3 + 1, none⟩ = some (.int .i64 k1) ∧ Y.cell? ⟨b, o + k * 3 + 2, none⟩ = some (.slice A2 n2 cp2) from fun Y hY => by
          have hq1 : Y.heap[q]? = _ := (hY.block q (by rw [HW1.out.2.2.2]; omega) (by simp)).trans HW1.out.1
          have hb1 : Y.heap[b]? = w.heap[b]? := (hY.block b (by rw [HW1.out.2.2.2, HQ.out]; omega) (by rw [HQ.out]; simp; omega)).trans (HWb.out.block b hbs)
          exact ⟨(slot3 hq1).2.2.1, (cell_same hb1).trans c0, (cell_same hb1).trans c1, (cell_same hb1).trans c2⟩)
        have ht' := ht.keep (w' := wr) (fun b' _ hlt' => (HG.out.block b' (by rw [HW1.out.2.2.2, HQ.out]; omega) (by rw [HQ.out]; simp; omega)).trans (HWb.out.block b' hlt'))
        have HTrD := hid (ht'.keep (w' := wr.drew) (fun _ _ _ => rfl))
        clear ht'
        have HF := hid (show ∀ Y : World, Below wr.heap.size wr Y → Y.cell? ⟨q + 2, 2, none⟩ = some vk from fun Y hY => (hY.cell (p := ⟨q + 2, 2, none⟩) (by have := HZ.out; show q + 2 < _; omega)).trans g2)
        have HCn := hid (show cnt d l[k] ≤ 2000 by have h1 := cntL_mem (f := fun k => cnt d k) (List.getElem_mem hlt); have h2 := HM.out; omega)
        have HLk := hid (show (l.take k).length ≤ 1000000 by rw [List.length_take]; have := HM2.out; omega)
        clear ht c0 c1 c2
        go_wp2_with fail
        refine wp_region_held_drew (S := (fun Y => Y.cell? ⟨q, 2, none⟩ = some (.slice (some ⟨b, o, none⟩) l.length c) ∧ Y.cell? ⟨b, o + k * 3, none⟩ = some (.int .i64 k0) ∧ Y.cell? ⟨b, o + k * 3 + 1, none⟩ = some (.int .i64 k1) ∧ Y.cell? ⟨b, o + k * 3 + 2, none⟩ = some (.slice A2 n2 cp2))) (by kernel_rfl) (by exact HS.out wr HG.out) (fun hHeld => ?_)
        refine wpAnyH_take (i := 0) (oi := { dst := some 17, op := Op.fieldAddr 45 (Operand.tmp 3) 2, type := _, pos := _, after := _, guard := none }) (v := ?_) rfl (by kernel_rfl) (by kernel_rfl) (by kernel_rfl) (fun _ _ _ h => h) (Or.inl ⟨by rfl, ?_⟩) (by assumption) ?_
        rotate_left
        · intro w hSw; (try dsimp only at hSw); go_simp; try with_reducible rfl
        try simp only [Act.put, List.setIfInBounds_toArray, List.set_cons_zero, List.set_cons_succ]
        refine wpAnyH_take (i := 2) (oi := { dst := some 19, op := Op.fieldAddr 51 (Operand.tmp 1) 2, type := _, pos := _, after := _, guard := none }) (v := ?_) rfl (by kernel_rfl) (by kernel_rfl) (by kernel_rfl) (fun _ _ _ h => h) (Or.inl ⟨by rfl, ?_⟩) (by assumption) ?_
        rotate_left
        · intro w hSw; (try dsimp only at hSw); go_simp; try with_reducible rfl
        try simp only [Act.put, List.setIfInBounds_toArray, List.set_cons_zero, List.set_cons_succ]
        refine wpAnyH_take (i := 3) (oi := { dst := some 20, op := Op.load 49 (Operand.tmp 19), type := _, pos := _, after := _, guard := none }) (v := ?_) rfl (by kernel_rfl) (by kernel_rfl) (by kernel_rfl) (fun _ _ _ h => h) (Or.inl ⟨by rfl, ?_⟩) (by assumption) ?_
        rotate_left
        · intro w hSw; (try dsimp only at hSw); go_simp; try with_reducible rfl
        try simp only [Act.put, List.setIfInBounds_toArray, List.set_cons_zero, List.set_cons_succ]
        refine wpAnyH_take (i := 4) (oi := { dst := some 21, op := Op.move (Operand.tmp 4), type := _, pos := _, after := _, guard := none }) (v := ?_) rfl (by kernel_rfl) (by kernel_rfl) (by kernel_rfl) (fun _ _ _ h => h) (Or.inl ⟨by rfl, ?_⟩) (by assumption) ?_
        rotate_left
        · intro w hSw; (try dsimp only at hSw); go_simp; try with_reducible rfl
        try simp only [Act.put, List.setIfInBounds_toArray, List.set_cons_zero, List.set_cons_succ]
        refine wpAnyH_take (i := 5) (oi := { dst := some 22, op := Op.indexAddr 49 (Operand.tmp 20) (Operand.tmp 21), type := _, pos := _, after := _, guard := none }) (v := ?_) rfl (by kernel_rfl) (by kernel_rfl) (by kernel_rfl) (fun _ _ _ h => h) (Or.inl ⟨by rfl, ?_⟩) (by assumption) ?_
        rotate_left
        · intro w hSw; (try dsimp only at hSw); go_simp; try with_reducible rfl
        try simp only [Act.put, List.setIfInBounds_toArray, List.set_cons_zero, List.set_cons_succ]
        refine wpAnyH_take (i := 6) (oi := { dst := some 23, op := Op.load 51 (Operand.tmp 22), type := _, pos := _, after := _, guard := none }) (v := ?_) rfl (by kernel_rfl) (by kernel_rfl) (by kernel_rfl) (fun _ _ _ h => h) (Or.inl ⟨by rfl, ?_⟩) (by assumption) ?_
        rotate_left
        · intro w hSw; (try dsimp only at hSw); go_simp; try with_reducible rfl
        try simp only [Act.put, List.setIfInBounds_toArray, List.set_cons_zero, List.set_cons_succ]
        refine wpAnyH_ready (rs := [1, 7]) (by kernel_rfl) (by simp) ?_
        refine AllReadyH.cons (o := { dst := some 18, op := Op.load 43 (Operand.tmp 17), type := _, pos := _, after := _, guard := none }) rfl ?legA1 (AllReadyH.cons (o := { dst := some 24, op := Op.call { callee := Callee.value (Operand.func 28), args := #[Operand.tmp 23], argTypes := #[51] }, type := _, pos := _, after := _, guard := none }) rfl ?legB1 AllReadyH.nil)
        case' legA1 =>
          intro K hK
          go_simp
          refine hK.out _ _ (by first | exact HS.out wr HG.out | exact HS.out _ HG2.out | exact HS.out _ HG1.out) (fun hHeld => ?_)
          clear hK K
          try simp only [Act.put, List.setIfInBounds_toArray, List.set_cons_zero, List.set_cons_succ]
          refine wpAnyH_ready (rs := [7]) (by kernel_rfl) (by simp) ?_
          refine AllReadyH.cons (o := { dst := some 24, op := Op.call { callee := Callee.value (Operand.func 28), args := #[Operand.tmp 23], argTypes := #[51] }, type := _, pos := _, after := _, guard := none }) rfl (fun K hK => ?_) AllReadyH.nil
          go_simp
          refine (IH.out _ _ _ HTrD.out HCn.out).mono ?_; rintro e w1 ⟨v', rfl, hb1, ht1⟩; obtain ⟨z0, z1, Z, zn, zc, rfl⟩ := ht1.form; have HB1 := hid (show Below wr.heap.size wr w1 from (Below.refl wr.heap.size wr).drew.trans hb1); have HT1 := hid (show IsTr w1 (fun b => wr.heap.size ≤ b) d _ _ from ht1); have HG1 := hid (grown_below HG.out HB1.out); have fB := (HF.out w1 HB1.out); clear hb1 ht1; go_wp2_with fail
          refine hK.out _ _ (by exact HS.out _ HG1.out) (fun hHeld => ?_)
          clear hK K
          try simp only [Act.put, List.setIfInBounds_toArray, List.set_cons_zero, List.set_cons_succ]
          refine wpAnyH_ready (rs := [8]) (by kernel_rfl) (by simp) ?_
          refine AllReadyH.cons (o := { dst := some 25, op := Op.buildSlice 43 1 #[(0, Operand.tmp 24)], type := _, pos := _, after := _, guard := none }) rfl (fun K hK => ?_) AllReadyH.nil
          go_simp
          have HG2 := hid (grown_below HG1.out ((Below.refl _ _).alloc (Nat.le_refl _) (.cells #[.int .i64 z0, .int .i64 z1, .slice Z zn zc] 45)))
          have fB2 := HF.out _ (HB1.out.trans (((Below.refl w1.heap.size w1).alloc (Nat.le_refl _) (.cells #[.int .i64 z0, .int .i64 z1, .slice Z zn zc] 45)).mono HB1.out.size))
          refine hK.out _ _ (by exact HS.out _ HG2.out) (fun hHeld => ?_)
          clear hK K
          try simp only [Act.put, List.setIfInBounds_toArray, List.set_cons_zero, List.set_cons_succ]
          refine wpAnyH_ready (rs := [9]) (by kernel_rfl) (by simp) ?_
          refine AllReadyH.cons (o := { dst := some 26, op := Op.call { callee := Callee.builtin Builtin.append, args := #[Operand.tmp 18, Operand.tmp 25], argTypes := #[43, 43] }, type := _, pos := _, after := _, guard := none }) rfl (fun K hK => ?_) AllReadyH.nil
          rw [if_pos (by rfl)]
          refine wp_app_tr (.tmp 18) (.tmp 25) rfl (w0 := w1) (v := vk) (l := l.take k) (B := q + 3) (t := l[k]) (v0 := .int .i64 z0) (v1 := .int .i64 z1) (v2 := .slice Z zn zc) rfl rfl (HR.out.below HB1.out) rfl (HT1.out.mono fun b hb _ => ⟨Nat.le_trans HZ.out hb, fun e => by have := HR.out.lt b e; omega⟩) HLk.out (Nat.le_trans HZ.out HB1.out.size) ?_
          intro v4 w4 hr4 hg4
          obtain ⟨A4, c4, e4, -⟩ := hr4.form
          obtain ⟨n4, hn4⟩ : ∃ n4, n4 = (l.take k ++ [l[k]]).length := ⟨_, rfl⟩
          rw [← hn4] at e4
          clear hn4
          subst e4
          have HR4 := hid hr4
          have HG4 := hid (grown_later HG2.out hg4 (fun j e => by rw [HW1.out.2.2.2]; exact (HR.out.lt j e).1))
          have HF4 := hid (hg4.block (q + 2) (by have := HZ.out; have := HB1.out.size; simp; omega) (fun e => by have := HR.out.lt _ e.symm; omega))
          have HC4 := hid (HF4.out.trans ((heap_alloc_old w1 _ (by have := HZ.out; have := HB1.out.size; omega)).trans ((HB1.out.block _ (by have := HZ.out; omega)).trans HC.out)))
          clear hr4 hg4 fB2
          obtain ⟨y0, y1, y2, yf⟩ := slot3 HC4.out
          have yf2 := yf 2
          clear yf
          refine hK.out _ _ (by exact HS.out _ HG4.out) (fun hHeld => ?_)
          clear hK K
          try simp only [Act.put, List.setIfInBounds_toArray, List.set_cons_zero, List.set_cons_succ]
          refine wpAnyH_take (i := 10) (oi := { dst := some 27, op := Op.fieldAddr 45 (Operand.tmp 3) 2, type := _, pos := _, after := _, guard := none }) (v := ?_) rfl (by kernel_rfl) (by kernel_rfl) (by kernel_rfl) (fun _ _ _ h => h) (Or.inl ⟨by rfl, ?_⟩) (by assumption) ?_
          rotate_left
          · intro w hSw; (try dsimp only at hSw); go_simp; try with_reducible rfl
          try simp only [Act.put, List.setIfInBounds_toArray, List.set_cons_zero, List.set_cons_succ]
          refine wpAnyH_ready (rs := [11]) (by kernel_rfl) (by simp) ?_
          refine AllReadyH.cons (o := { dst := none, op := Op.store 43 (Operand.tmp 27) (Operand.tmp 26), type := _, pos := _, after := _, guard := none }) rfl (fun K hK => ?_) AllReadyH.nil
          go_simp
          refine hK.out _ _ (by exact HS.out _ (grown_setCell HG4.out 2 _)) (fun hHeld => ?_)
          clear hK K
          try simp only [Act.put, List.setIfInBounds_toArray, List.set_cons_zero, List.set_cons_succ]
          refine wpAnyH_done (by kernel_rfl) ?_ _
        case' legB1 =>
          intro K hK
          go_simp
          refine (IH.out _ _ _ HTrD.out HCn.out).mono ?_; rintro e w1 ⟨v', rfl, hb1, ht1⟩; obtain ⟨z0, z1, Z, zn, zc, rfl⟩ := ht1.form; have HB1 := hid (show Below wr.heap.size wr w1 from (Below.refl wr.heap.size wr).drew.trans hb1); have HT1 := hid (show IsTr w1 (fun b => wr.heap.size ≤ b) d _ _ from ht1); have HG1 := hid (grown_below HG.out HB1.out); have fB := (HF.out w1 HB1.out); clear hb1 ht1; go_wp2_with fail
          refine hK.out _ _ (by exact HS.out _ HG1.out) (fun hHeld => ?_)
          clear hK K
          try simp only [Act.put, List.setIfInBounds_toArray, List.set_cons_zero, List.set_cons_succ]
          refine wpAnyH_ready (rs := [1, 8]) (by kernel_rfl) (by simp) ?_
          refine AllReadyH.cons (o := { dst := some 18, op := Op.load 43 (Operand.tmp 17), type := _, pos := _, after := _, guard := none }) rfl ?legA1b (AllReadyH.cons (o := { dst := some 25, op := Op.buildSlice 43 1 #[(0, Operand.tmp 24)], type := _, pos := _, after := _, guard := none }) rfl ?legB1b AllReadyH.nil)
          case' legA1b =>
            intro K hK
            go_simp
            refine hK.out _ _ (by first | exact HS.out wr HG.out | exact HS.out _ HG2.out | exact HS.out _ HG1.out) (fun hHeld => ?_)
            clear hK K
            try simp only [Act.put, List.setIfInBounds_toArray, List.set_cons_zero, List.set_cons_succ]
            refine wpAnyH_ready (rs := [8]) (by kernel_rfl) (by simp) ?_
            refine AllReadyH.cons (o := { dst := some 25, op := Op.buildSlice 43 1 #[(0, Operand.tmp 24)], type := _, pos := _, after := _, guard := none }) rfl (fun K hK => ?_) AllReadyH.nil
            go_simp
            have HG2 := hid (grown_below HG1.out ((Below.refl _ _).alloc (Nat.le_refl _) (.cells #[.int .i64 z0, .int .i64 z1, .slice Z zn zc] 45)))
            have fB2 := HF.out _ (HB1.out.trans (((Below.refl w1.heap.size w1).alloc (Nat.le_refl _) (.cells #[.int .i64 z0, .int .i64 z1, .slice Z zn zc] 45)).mono HB1.out.size))
            refine hK.out _ _ (by exact HS.out _ HG2.out) (fun hHeld => ?_)
            clear hK K
            try simp only [Act.put, List.setIfInBounds_toArray, List.set_cons_zero, List.set_cons_succ]
            refine wpAnyH_ready (rs := [9]) (by kernel_rfl) (by simp) ?_
            refine AllReadyH.cons (o := { dst := some 26, op := Op.call { callee := Callee.builtin Builtin.append, args := #[Operand.tmp 18, Operand.tmp 25], argTypes := #[43, 43] }, type := _, pos := _, after := _, guard := none }) rfl (fun K hK => ?_) AllReadyH.nil
            rw [if_pos (by rfl)]
            refine wp_app_tr (.tmp 18) (.tmp 25) rfl (w0 := w1) (v := vk) (l := l.take k) (B := q + 3) (t := l[k]) (v0 := .int .i64 z0) (v1 := .int .i64 z1) (v2 := .slice Z zn zc) rfl rfl (HR.out.below HB1.out) rfl (HT1.out.mono fun b hb _ => ⟨Nat.le_trans HZ.out hb, fun e => by have := HR.out.lt b e; omega⟩) HLk.out (Nat.le_trans HZ.out HB1.out.size) ?_
            intro v4 w4 hr4 hg4
            obtain ⟨A4, c4, e4, -⟩ := hr4.form
            obtain ⟨n4, hn4⟩ : ∃ n4, n4 = (l.take k ++ [l[k]]).length := ⟨_, rfl⟩
            rw [← hn4] at e4
            clear hn4
            subst e4
            have HR4 := hid hr4
            have HG4 := hid (grown_later HG2.out hg4 (fun j e => by rw [HW1.out.2.2.2]; exact (HR.out.lt j e).1))
            have HF4 := hid (hg4.block (q + 2) (by have := HZ.out; have := HB1.out.size; simp; omega) (fun e => by have := HR.out.lt _ e.symm; omega))
            have HC4 := hid (HF4.out.trans ((heap_alloc_old w1 _ (by have := HZ.out; have := HB1.out.size; omega)).trans ((HB1.out.block _ (by have := HZ.out; omega)).trans HC.out)))
            clear hr4 hg4 fB2
            obtain ⟨y0, y1, y2, yf⟩ := slot3 HC4.out
            have yf2 := yf 2
            clear yf
            refine hK.out _ _ (by exact HS.out _ HG4.out) (fun hHeld => ?_)
            clear hK K
            try simp only [Act.put, List.setIfInBounds_toArray, List.set_cons_zero, List.set_cons_succ]
            refine wpAnyH_take (i := 10) (oi := { dst := some 27, op := Op.fieldAddr 45 (Operand.tmp 3) 2, type := _, pos := _, after := _, guard := none }) (v := ?_) rfl (by kernel_rfl) (by kernel_rfl) (by kernel_rfl) (fun _ _ _ h => h) (Or.inl ⟨by rfl, ?_⟩) (by assumption) ?_
            rotate_left
            · intro w hSw; (try dsimp only at hSw); go_simp; try with_reducible rfl
            try simp only [Act.put, List.setIfInBounds_toArray, List.set_cons_zero, List.set_cons_succ]
            refine wpAnyH_ready (rs := [11]) (by kernel_rfl) (by simp) ?_
            refine AllReadyH.cons (o := { dst := none, op := Op.store 43 (Operand.tmp 27) (Operand.tmp 26), type := _, pos := _, after := _, guard := none }) rfl (fun K hK => ?_) AllReadyH.nil
            go_simp
            refine hK.out _ _ (by exact HS.out _ (grown_setCell HG4.out 2 _)) (fun hHeld => ?_)
            clear hK K
            try simp only [Act.put, List.setIfInBounds_toArray, List.set_cons_zero, List.set_cons_succ]
            refine wpAnyH_done (by kernel_rfl) ?_ _
          case' legB1b =>
            intro K hK
            go_simp
            have HG2 := hid (grown_below HG1.out ((Below.refl _ _).alloc (Nat.le_refl _) (.cells #[.int .i64 z0, .int .i64 z1, .slice Z zn zc] 45)))
            have fB2 := HF.out _ (HB1.out.trans (((Below.refl w1.heap.size w1).alloc (Nat.le_refl _) (.cells #[.int .i64 z0, .int .i64 z1, .slice Z zn zc] 45)).mono HB1.out.size))
            refine hK.out _ _ (by exact HS.out _ HG2.out) (fun hHeld => ?_)
            clear hK K
            try simp only [Act.put, List.setIfInBounds_toArray, List.set_cons_zero, List.set_cons_succ]
            refine wpAnyH_ready (rs := [1]) (by kernel_rfl) (by simp) ?_
            refine AllReadyH.cons (o := { dst := some 18, op := Op.load 43 (Operand.tmp 17), type := _, pos := _, after := _, guard := none }) rfl (fun K hK => ?_) AllReadyH.nil
            go_simp
            refine hK.out _ _ (by first | exact HS.out wr HG.out | exact HS.out _ HG2.out | exact HS.out _ HG1.out) (fun hHeld => ?_)
            clear hK K
            try simp only [Act.put, List.setIfInBounds_toArray, List.set_cons_zero, List.set_cons_succ]
            refine wpAnyH_ready (rs := [9]) (by kernel_rfl) (by simp) ?_
            refine AllReadyH.cons (o := { dst := some 26, op := Op.call { callee := Callee.builtin Builtin.append, args := #[Operand.tmp 18, Operand.tmp 25], argTypes := #[43, 43] }, type := _, pos := _, after := _, guard := none }) rfl (fun K hK => ?_) AllReadyH.nil
            rw [if_pos (by rfl)]
            refine wp_app_tr (.tmp 18) (.tmp 25) rfl (w0 := w1) (v := vk) (l := l.take k) (B := q + 3) (t := l[k]) (v0 := .int .i64 z0) (v1 := .int .i64 z1) (v2 := .slice Z zn zc) rfl rfl (HR.out.below HB1.out) rfl (HT1.out.mono fun b hb _ => ⟨Nat.le_trans HZ.out hb, fun e => by have := HR.out.lt b e; omega⟩) HLk.out (Nat.le_trans HZ.out HB1.out.size) ?_
            intro v4 w4 hr4 hg4
            obtain ⟨A4, c4, e4, -⟩ := hr4.form
            obtain ⟨n4, hn4⟩ : ∃ n4, n4 = (l.take k ++ [l[k]]).length := ⟨_, rfl⟩
            rw [← hn4] at e4
            clear hn4
            subst e4
            have HR4 := hid hr4
            have HG4 := hid (grown_later HG2.out hg4 (fun j e => by rw [HW1.out.2.2.2]; exact (HR.out.lt j e).1))
            have HF4 := hid (hg4.block (q + 2) (by have := HZ.out; have := HB1.out.size; simp; omega) (fun e => by have := HR.out.lt _ e.symm; omega))
            have HC4 := hid (HF4.out.trans ((heap_alloc_old w1 _ (by have := HZ.out; have := HB1.out.size; omega)).trans ((HB1.out.block _ (by have := HZ.out; omega)).trans HC.out)))
            clear hr4 hg4 fB2
            obtain ⟨y0, y1, y2, yf⟩ := slot3 HC4.out
            have yf2 := yf 2
            clear yf
            refine hK.out _ _ (by exact HS.out _ HG4.out) (fun hHeld => ?_)
            clear hK K
            try simp only [Act.put, List.setIfInBounds_toArray, List.set_cons_zero, List.set_cons_succ]
            refine wpAnyH_take (i := 10) (oi := { dst := some 27, op := Op.fieldAddr 45 (Operand.tmp 3) 2, type := _, pos := _, after := _, guard := none }) (v := ?_) rfl (by kernel_rfl) (by kernel_rfl) (by kernel_rfl) (fun _ _ _ h => h) (Or.inl ⟨by rfl, ?_⟩) (by assumption) ?_
            rotate_left
            · intro w hSw; (try dsimp only at hSw); go_simp; try with_reducible rfl
            try simp only [Act.put, List.setIfInBounds_toArray, List.set_cons_zero, List.set_cons_succ]
            refine wpAnyH_ready (rs := [11]) (by kernel_rfl) (by simp) ?_
            refine AllReadyH.cons (o := { dst := none, op := Op.store 43 (Operand.tmp 27) (Operand.tmp 26), type := _, pos := _, after := _, guard := none }) rfl (fun K hK => ?_) AllReadyH.nil
            go_simp
            refine hK.out _ _ (by exact HS.out _ (grown_setCell HG4.out 2 _)) (fun hHeld => ?_)
            clear hK K
            try simp only [Act.put, List.setIfInBounds_toArray, List.set_cons_zero, List.set_cons_succ]
            refine wpAnyH_done (by kernel_rfl) ?_ _
        all_goals
          have HC5 := hid (show (w4.setCell ⟨q + 1 + 1, 2, none⟩ (.slice A4 n4 c4)).heap[q + 2]? = some (.cells #[.int .i64 kd, .int .i64 cl, .slice A4 n4 c4] 45 (0, 0)) from heap_setCell_same w4 (q + 2) 2 _ 45 (.slice A4 n4 c4) HC4.out)
          have HR5 := hid (HR4.out.keep (w' := w4.setCell ⟨q + 1 + 1, 2, none⟩ (.slice A4 n4 c4)) (fun b' hb' _ => heap_setCell_other _ _ _ _ (by show b' ≠ q + 2; omega)))
          have HG5 := hid (show W.grownBy (w4.setCell ⟨q + 1 + 1, 2, none⟩ (.slice A4 n4 c4)) (some (q + 2)) from grown_setCell HG4.out 2 (.slice A4 n4 c4))
          have hl19 := HM2.out
          have HTk := hid (show l.take (k + 1) = l.take k ++ [l[k]] from List.take_succ_eq_append_getElem hlt)
          clear y0 y1 y2 yf2
          go_wp2_with fail
          go_roundw
          case rel => exact ⟨k + 1, .slice A4 n4 c4, by omega, by go_num, by rw [HTk.out]; exact HR5, HC5, HG5⟩
          case measure => simp [intOf]; omega
      · obtain rfl : k = l.length := by omega
        rw [List.take_length] at HR
        have HP := hid (show wr.heap[q + 1]? = some (.cells #[.int .i64 0, .int .i64 0, .slice none 0 0] 45 (0, 0)) from (HG.out.block (q + 1) (by rw [HW1.out.2.2.2]; omega) (by simp)).trans HW1.out.2.1)
        obtain ⟨h0, h1, h2, hf⟩ := slot3 HP.out
        obtain ⟨A5, c5, e5, -⟩ := HR.out.form
        subst e5
        have hf0 := hf 0
        have hf1 := hf 1
        have hf2 := hf 2
        clear hf
        go_wp2_with fail
        obtain ⟨e0, e1, e2, -⟩ := slot3 (put3 (.int .i64 kd) (.int .i64 cl) (.slice A5 l.length c5) HP.out)
        refine bodyPost_ret (v := .agg #[.int .i64 kd, .int .i64 cl, .slice A5 l.length c5]) (by simp [results, Try.results28, go_sem, e0, e1, e2]) rfl ⟨_, rfl, ?_, ?_⟩
        · have hb := (HWb.out.grown (row := some (q + 2)) HG.out HWb.out.size (fun k e => by rw [← HQ.out]; injection e with e; omega))
          rw [← HQ.out] at hb ⊢
          exact ((hb.setCell (p := ⟨q + 1, 0, none⟩) (by show q ≤ q + 1; omega) _).setCell (p := ⟨q + 1, 1, none⟩) (by show q ≤ q + 1; omega) _).setCell (p := ⟨q + 1, 2, none⟩) (by show q ≤ q + 1; omega) _
        · rw [← HQ.out]
          have h := HR.out.tree HT0.out.1.symm HT0.out.2.1.symm HT0.out.2.2.symm
          refine IsTr.imp (w := wr) (S := fun b => q + 3 ≤ b) (fun b hb _ => ?_) (fun b hb _ => by omega) _ _ _ h
          rw [heap_setCell_other _ _ _ _ (by show b ≠ q + 1; omega), heap_setCell_other _ _ _ _ (by show b ≠ q + 1; omega), heap_setCell_other _ _ _ _ (by show b ≠ q + 1; omega)]
end Go.Proofs.Ytjcdcmeclnihbaa
