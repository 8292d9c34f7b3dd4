/- A given meaning as the program's: the walk. Condition: no more nodes than there may be; at most a thousand rules. -/
import Derived.Test.YtjcdcmeclnihbaaTo
import Derived.Test.YtjcdcmeclnihbaaRu
namespace Go.Proofs.Ytjcdcmeclnihbaa
open Go.RowKit
set_option linter.unusedSimpArgs false
set_option maxRecDepth 100000 in
set_option maxHeartbeats 8000000 in
theorem totext_any (d : Nat) (v : Value) (t : Tx d) (w : World) (h : IsTx w Any d v t) (hs : ∀ r ∈ t.rs, cnt d r.L ≤ 2000 ∧ cnt d r.R ≤ 2000) (hn : t.rs.length ≤ 1000) :
    Calls Try.prog 14 #[v] w fun e w' => ∃ v', e = .returned v' ∧ IsTx w' Any d v' t ∧ Below w.heap.size w w' := by
  obtain ⟨I, ic, K, kc, A, c, rfl, hI, hK, -, -, -, hA⟩ := h.open
  have HI := hid hI
  have HKp := hid hK
  have HKw := hid hA
  clear h hI hK hA
  obtain ⟨ni, hni⟩ : ∃ ni, ni = t.ig.length := ⟨_, rfl⟩
  obtain ⟨nk, hnk⟩ : ∃ nk, nk = t.kp.length := ⟨_, rfl⟩
  obtain ⟨l, hl⟩ : ∃ l, l = t.rs := ⟨_, rfl⟩
  have HTE := hid (And.intro hni (And.intro hnk hl))
  rw [← hni, ← hnk, ← hl]
  rw [← hl] at HKw hs hn
  have HS2 := hid hs
  have HM2 := hid hn
  clear hni hnk hl hs hn
  obtain ⟨q, hq⟩ : ∃ q, q = w.heap.size := ⟨_, rfl⟩
  obtain ⟨W, hW0⟩ : ∃ W, W = ((w.alloc (.cells #[.slice I ni ic, .slice K nk kc, .slice A l.length c] 25)).alloc (.cells #[.slice none 0 0, .slice none 0 0, .slice none 0 0] 33)).alloc (.cells #[.slice I ni ic, .slice K nk kc, .slice none 0 0] 33) := ⟨_, rfl⟩
  have HWb := hid (show Below w.heap.size w W by rw [hW0]; exact (((Below.refl _ _).alloc (Nat.le_refl _) _).alloc (by simp) _).alloc (by simp; omega) _)
  have HQ := hid hq
  have HW1 := hid (alloc3 hW0)
  rw [← hq] at HW1
  go_enter Try.func14, Try.ntmps14
  go_wp2_with fail
  rw [← hW0]
  rw [← hq]
  clear hW0 hq
  obtain ⟨i0, i1, i2, -⟩ := slot3 HW1.out.1
  go_wp2_with fail
  go_loopw [4] (fun s4 wr => ∃ (k : Nat) (vk : Value), k ≤ l.length ∧ s4 = .int .i64 k ∧ Hid (BRl wr (q + 3) d vk (l.take k)) ∧ Hid (wr.heap[q + 2]? = some (.cells #[.slice I ni ic, .slice K nk kc, vk] 33 (0, 0))) ∧ Hid (W.grownBy wr (some (q + 2)))) (fun s4 _ => l.length - (intOf s4).toNat)
  case atStart => exact ⟨0, _, by omega, rfl, hid (BRl.nil _ _ _), hid HW1.out.2.2.1, hid (World.grownBy.refl _ _)⟩
  case round =>
    obtain ⟨k, vk, hk, rfl, HR, HC, HG⟩ := hrel
    have HQr := hid (show wr.heap[q]? = some (.cells #[.slice I ni ic, .slice K nk kc, .slice A l.length c] 25 (0, 0)) from (HG.out.block q (by rw [HW1.out.2.2.2]; omega) (by simp)).trans HW1.out.1)
    obtain ⟨f0, f1, f2, -⟩ := slot3 HQr.out
    obtain ⟨g0, g1, g2, -⟩ := slot3 HC.out
    have HZ := hid (show q + 3 ≤ wr.heap.size by have := HG.out.size; rw [HW1.out.2.2.2] at this; exact this)
    clear i0 i1 i2
    by_cases hlt : k < l.length
    · obtain ⟨b, o, k0, k1, A0, n0, p0, j0, j1, A1, n1, p1, rfl, -, hbs, c0, c1, c2, c3, c4, c5, c6, hL, hR⟩ := HKw.out.at (List.getElem?_eq_getElem hlt)
      obtain ⟨rk, hrk⟩ : ∃ rk, rk = l[k] := ⟨_, rfl⟩
      rw [← hrk] at c6 hL hR
      obtain ⟨br, hbr⟩ : ∃ br, br = rk.br := ⟨_, rfl⟩
      rw [← hbr] at c6
      have HBR := hid hbr
      have HRK := hid hrk
      have HS := hid (show ∀ Y : World, W.grownBy Y (some (q + 2)) → Y.cell? ⟨q, 2, none⟩ = some (.slice (some ⟨b, o, none⟩) l.length c) ∧ Y.cell? ⟨b, o + k * 7, none⟩ = some (.int .i64 k0) ∧ Y.cell? ⟨b, o + k * 7 + 1, none⟩ = some (.int .i64 k1) ∧ Y.cell? ⟨b, o + k * 7 + 2, none⟩ = some (.slice A0 n0 p0) ∧ Y.cell? ⟨b, o + k * 7 + 3, none⟩ = some (.int .i64 j0) ∧ Y.cell? ⟨b, o + k * 7 + 4, none⟩ = some (.int .i64 j1) ∧ Y.cell? ⟨b, o + k * 7 + 5, none⟩ = some (.slice A1 n1 p1) ∧ Y.cell? ⟨b, o + k * 7 + 6, none⟩ = some (.bool br) from fun Y hY => by
        have hq1 : Y.heap[q]? = _ := (hY.block q (by rw [HW1.out.2.2.2]; omega) (by simp)).trans HW1.out.1
        have hb1 : Y.heap[b]? = w.heap[b]? := (hY.block b (by rw [HW1.out.2.2.2, HQ.out]; omega) (by rw [HQ.out]; simp; omega)).trans (HWb.out.block b hbs)
        exact ⟨(slot3 hq1).2.2.1, (cell_same hb1).trans c0, (cell_same hb1).trans c1, (cell_same hb1).trans c2, (cell_same hb1).trans c3, (cell_same hb1).trans c4, (cell_same hb1).trans c5, (cell_same hb1).trans c6⟩)
      have hkeep : ∀ b', Any b' → b' < w.heap.size → wr.heap[b']? = w.heap[b']? := fun b' _ hlt' => (HG.out.block b' (by rw [HW1.out.2.2.2, HQ.out]; omega) (by rw [HQ.out]; simp; omega)).trans (HWb.out.block b' hlt')
      have HLD := hid ((hL.keep hkeep).keep (w' := wr.drew) (fun _ _ _ => rfl))
      have HRD := hid (hR.keep hkeep)
      have HF := hid (show ∀ Y : World, Below wr.heap.size wr Y → Y.cell? ⟨q + 2, 2, none⟩ = some vk from fun Y hY => (hY.cell (p := ⟨q + 2, 2, none⟩) (by have := HZ.out; show q + 2 < _; omega)).trans g2)
      have HCL := hid (show cnt d rk.L ≤ 2000 by rw [hrk]; exact (HS2.out _ (List.getElem_mem hlt)).1)
      have HCR := hid (show cnt d rk.R ≤ 2000 by rw [hrk]; exact (HS2.out _ (List.getElem_mem hlt)).2)
      have HLk := hid (show (l.take k).length ≤ 1000000 by rw [List.length_take]; have := HM2.out; omega)
      clear hL hR hkeep c0 c1 c2 c3 c4 c5 c6 hrk hbr
      go_wp2_with fail
      refine wp_region_held_drew (S := (fun Y => Y.cell? ⟨q, 2, none⟩ = some (.slice (some ⟨b, o, none⟩) l.length c) ∧ Y.cell? ⟨b, o + k * 7, none⟩ = some (.int .i64 k0) ∧ Y.cell? ⟨b, o + k * 7 + 1, none⟩ = some (.int .i64 k1) ∧ Y.cell? ⟨b, o + k * 7 + 2, none⟩ = some (.slice A0 n0 p0) ∧ Y.cell? ⟨b, o + k * 7 + 3, none⟩ = some (.int .i64 j0) ∧ Y.cell? ⟨b, o + k * 7 + 4, none⟩ = some (.int .i64 j1) ∧ Y.cell? ⟨b, o + k * 7 + 5, none⟩ = some (.slice A1 n1 p1) ∧ Y.cell? ⟨b, o + k * 7 + 6, none⟩ = some (.bool br))) (by kernel_rfl) (by exact HS.out wr HG.out) (fun hHeld => ?_)
      refine wpAnyH_take (i := 0) (oi := { dst := some 17, op := Op.fieldAddr 33 (Operand.tmp 3) 2, type := _, pos := _, after := _, guard := none }) (v := ?_) rfl (by kernel_rfl) (by kernel_rfl) (by kernel_rfl) (fun _ _ _ h => h) (Or.inl ⟨by rfl, ?_⟩) (by assumption) ?_
      rotate_left
      · intro w hSw; (try dsimp only at hSw); go_simp; try with_reducible rfl
      try simp only [Act.put, List.setIfInBounds_toArray, List.set_cons_zero, List.set_cons_succ]
      refine wpAnyH_take (i := 2) (oi := { dst := some 19, op := Op.fieldAddr 25 (Operand.tmp 1) 2, type := _, pos := _, after := _, guard := none }) (v := ?_) rfl (by kernel_rfl) (by kernel_rfl) (by kernel_rfl) (fun _ _ _ h => h) (Or.inl ⟨by rfl, ?_⟩) (by assumption) ?_
      rotate_left
      · intro w hSw; (try dsimp only at hSw); go_simp; try with_reducible rfl
      try simp only [Act.put, List.setIfInBounds_toArray, List.set_cons_zero, List.set_cons_succ]
      refine wpAnyH_take (i := 3) (oi := { dst := some 20, op := Op.load 23 (Operand.tmp 19), type := _, pos := _, after := _, guard := none }) (v := ?_) rfl (by kernel_rfl) (by kernel_rfl) (by kernel_rfl) (fun _ _ _ h => h) (Or.inl ⟨by rfl, ?_⟩) (by assumption) ?_
      rotate_left
      · intro w hSw; (try dsimp only at hSw); go_simp; try with_reducible rfl
      try simp only [Act.put, List.setIfInBounds_toArray, List.set_cons_zero, List.set_cons_succ]
      refine wpAnyH_take (i := 4) (oi := { dst := some 21, op := Op.move (Operand.tmp 4), type := _, pos := _, after := _, guard := none }) (v := ?_) rfl (by kernel_rfl) (by kernel_rfl) (by kernel_rfl) (fun _ _ _ h => h) (Or.inl ⟨by rfl, ?_⟩) (by assumption) ?_
      rotate_left
      · intro w hSw; (try dsimp only at hSw); go_simp; try with_reducible rfl
      try simp only [Act.put, List.setIfInBounds_toArray, List.set_cons_zero, List.set_cons_succ]
      refine wpAnyH_take (i := 5) (oi := { dst := some 22, op := Op.indexAddr 23 (Operand.tmp 20) (Operand.tmp 21), type := _, pos := _, after := _, guard := none }) (v := ?_) rfl (by kernel_rfl) (by kernel_rfl) (by kernel_rfl) (fun _ _ _ h => h) (Or.inl ⟨by rfl, ?_⟩) (by assumption) ?_
      rotate_left
      · intro w hSw; (try dsimp only at hSw); go_simp; try with_reducible rfl
      try simp only [Act.put, List.setIfInBounds_toArray, List.set_cons_zero, List.set_cons_succ]
      refine wpAnyH_take (i := 6) (oi := { dst := some 23, op := Op.fieldAddr 72 (Operand.tmp 22) 0, type := _, pos := _, after := _, guard := none }) (v := ?_) rfl (by kernel_rfl) (by kernel_rfl) (by kernel_rfl) (fun _ _ _ h => h) (Or.inl ⟨by rfl, ?_⟩) (by assumption) ?_
      rotate_left
      · intro w hSw; (try dsimp only at hSw); go_simp; try with_reducible rfl
      try simp only [Act.put, List.setIfInBounds_toArray, List.set_cons_zero, List.set_cons_succ]
      refine wpAnyH_take (i := 7) (oi := { dst := some 24, op := Op.load 51 (Operand.tmp 23), type := _, pos := _, after := _, guard := none }) (v := ?_) rfl (by kernel_rfl) (by kernel_rfl) (by kernel_rfl) (fun _ _ _ h => h) (Or.inl ⟨by rfl, ?_⟩) (by assumption) ?_
      rotate_left
      · intro w hSw; (try dsimp only at hSw); go_simp; try with_reducible rfl
      try simp only [Act.put, List.setIfInBounds_toArray, List.set_cons_zero, List.set_cons_succ]
      refine wpAnyH_take (i := 9) (oi := { dst := some 26, op := Op.fieldAddr 25 (Operand.tmp 1) 2, type := _, pos := _, after := _, guard := none }) (v := ?_) rfl (by kernel_rfl) (by kernel_rfl) (by kernel_rfl) (fun _ _ _ h => h) (Or.inl ⟨by rfl, ?_⟩) (by assumption) ?_
      rotate_left
      · intro w hSw; (try dsimp only at hSw); go_simp; try with_reducible rfl
      try simp only [Act.put, List.setIfInBounds_toArray, List.set_cons_zero, List.set_cons_succ]
      refine wpAnyH_take (i := 10) (oi := { dst := some 27, op := Op.load 23 (Operand.tmp 26), type := _, pos := _, after := _, guard := none }) (v := ?_) rfl (by kernel_rfl) (by kernel_rfl) (by kernel_rfl) (fun _ _ _ h => h) (Or.inl ⟨by rfl, ?_⟩) (by assumption) ?_
      rotate_left
      · intro w hSw; (try dsimp only at hSw); go_simp; try with_reducible rfl
      try simp only [Act.put, List.setIfInBounds_toArray, List.set_cons_zero, List.set_cons_succ]
      refine wpAnyH_take (i := 11) (oi := { dst := some 28, op := Op.move (Operand.tmp 4), type := _, pos := _, after := _, guard := none }) (v := ?_) rfl (by kernel_rfl) (by kernel_rfl) (by kernel_rfl) (fun _ _ _ h => h) (Or.inl ⟨by rfl, ?_⟩) (by assumption) ?_
      rotate_left
      · intro w hSw; (try dsimp only at hSw); go_simp; try with_reducible rfl
      try simp only [Act.put, List.setIfInBounds_toArray, List.set_cons_zero, List.set_cons_succ]
      refine wpAnyH_take (i := 12) (oi := { dst := some 29, op := Op.indexAddr 23 (Operand.tmp 27) (Operand.tmp 28), type := _, pos := _, after := _, guard := none }) (v := ?_) rfl (by kernel_rfl) (by kernel_rfl) (by kernel_rfl) (fun _ _ _ h => h) (Or.inl ⟨by rfl, ?_⟩) (by assumption) ?_
      rotate_left
      · intro w hSw; (try dsimp only at hSw); go_simp; try with_reducible rfl
      try simp only [Act.put, List.setIfInBounds_toArray, List.set_cons_zero, List.set_cons_succ]
      refine wpAnyH_take (i := 13) (oi := { dst := some 30, op := Op.fieldAddr 72 (Operand.tmp 29) 1, type := _, pos := _, after := _, guard := none }) (v := ?_) rfl (by kernel_rfl) (by kernel_rfl) (by kernel_rfl) (fun _ _ _ h => h) (Or.inl ⟨by rfl, ?_⟩) (by assumption) ?_
      rotate_left
      · intro w hSw; (try dsimp only at hSw); go_simp; try with_reducible rfl
      try simp only [Act.put, List.setIfInBounds_toArray, List.set_cons_zero, List.set_cons_succ]
      refine wpAnyH_take (i := 14) (oi := { dst := some 31, op := Op.load 51 (Operand.tmp 30), type := _, pos := _, after := _, guard := none }) (v := ?_) rfl (by kernel_rfl) (by kernel_rfl) (by kernel_rfl) (fun _ _ _ h => h) (Or.inl ⟨by rfl, ?_⟩) (by assumption) ?_
      rotate_left
      · intro w hSw; (try dsimp only at hSw); go_simp; try with_reducible rfl
      try simp only [Act.put, List.setIfInBounds_toArray, List.set_cons_zero, List.set_cons_succ]
      refine wpAnyH_take (i := 16) (oi := { dst := some 33, op := Op.fieldAddr 25 (Operand.tmp 1) 2, type := _, pos := _, after := _, guard := none }) (v := ?_) rfl (by kernel_rfl) (by kernel_rfl) (by kernel_rfl) (fun _ _ _ h => h) (Or.inl ⟨by rfl, ?_⟩) (by assumption) ?_
      rotate_left
      · intro w hSw; (try dsimp only at hSw); go_simp; try with_reducible rfl
      try simp only [Act.put, List.setIfInBounds_toArray, List.set_cons_zero, List.set_cons_succ]
      refine wpAnyH_take (i := 17) (oi := { dst := some 34, op := Op.load 23 (Operand.tmp 33), type := _, pos := _, after := _, guard := none }) (v := ?_) rfl (by kernel_rfl) (by kernel_rfl) (by kernel_rfl) (fun _ _ _ h => h) (Or.inl ⟨by rfl, ?_⟩) (by assumption) ?_
      rotate_left
      · intro w hSw; (try dsimp only at hSw); go_simp; try with_reducible rfl
      try simp only [Act.put, List.setIfInBounds_toArray, List.set_cons_zero, List.set_cons_succ]
      refine wpAnyH_take (i := 18) (oi := { dst := some 35, op := Op.move (Operand.tmp 4), type := _, pos := _, after := _, guard := none }) (v := ?_) rfl (by kernel_rfl) (by kernel_rfl) (by kernel_rfl) (fun _ _ _ h => h) (Or.inl ⟨by rfl, ?_⟩) (by assumption) ?_
      rotate_left
      · intro w hSw; (try dsimp only at hSw); go_simp; try with_reducible rfl
      try simp only [Act.put, List.setIfInBounds_toArray, List.set_cons_zero, List.set_cons_succ]
      refine wpAnyH_take (i := 19) (oi := { dst := some 36, op := Op.indexAddr 23 (Operand.tmp 34) (Operand.tmp 35), type := _, pos := _, after := _, guard := none }) (v := ?_) rfl (by kernel_rfl) (by kernel_rfl) (by kernel_rfl) (fun _ _ _ h => h) (Or.inl ⟨by rfl, ?_⟩) (by assumption) ?_
      rotate_left
      · intro w hSw; (try dsimp only at hSw); go_simp; try with_reducible rfl
      try simp only [Act.put, List.setIfInBounds_toArray, List.set_cons_zero, List.set_cons_succ]
      refine wpAnyH_take (i := 20) (oi := { dst := some 37, op := Op.fieldAddr 72 (Operand.tmp 36) 2, type := _, pos := _, after := _, guard := none }) (v := ?_) rfl (by kernel_rfl) (by kernel_rfl) (by kernel_rfl) (fun _ _ _ h => h) (Or.inl ⟨by rfl, ?_⟩) (by assumption) ?_
      rotate_left
      · intro w hSw; (try dsimp only at hSw); go_simp; try with_reducible rfl
      try simp only [Act.put, List.setIfInBounds_toArray, List.set_cons_zero, List.set_cons_succ]
      refine wpAnyH_take (i := 21) (oi := { dst := some 38, op := Op.load 4 (Operand.tmp 37), type := _, pos := _, after := _, guard := none }) (v := ?_) rfl (by kernel_rfl) (by kernel_rfl) (by kernel_rfl) (fun _ _ _ h => h) (Or.inl ⟨by rfl, ?_⟩) (by assumption) ?_
      rotate_left
      · intro w hSw; (try dsimp only at hSw); go_simp; try with_reducible rfl
      try simp only [Act.put, List.setIfInBounds_toArray, List.set_cons_zero, List.set_cons_succ]
      refine wpAnyH_ready (rs := [1, 8]) (by kernel_rfl) (by simp) ?_
      refine AllReadyH.cons (o := { dst := some 18, op := Op.load 31 (Operand.tmp 17), type := _, pos := _, after := _, guard := none }) rfl ?legA1 (AllReadyH.cons (o := { dst := some 25, op := Op.call { callee := Callee.value (Operand.func 28), args := #[Operand.tmp 24], argTypes := #[51] }, type := _, pos := _, after := _, guard := none }) rfl ?legB1 AllReadyH.nil)
      case' legA1 =>
        intro K hK
        go_simp
        refine hK.out _ _ (by first | exact HS.out wr HG.out | exact HS.out _ HG3.out | exact HS.out _ HG2.out | exact HS.out _ HG1.out) (fun hHeld => ?_)
        clear hK K
        try simp only [Act.put, List.setIfInBounds_toArray, List.set_cons_zero, List.set_cons_succ]
        refine wpAnyH_ready (rs := [8]) (by kernel_rfl) (by simp) ?_
        refine AllReadyH.cons (o := { dst := some 25, op := Op.call { callee := Callee.value (Operand.func 28), args := #[Operand.tmp 24], argTypes := #[51] }, type := _, pos := _, after := _, guard := none }) rfl (fun K hK => ?_) AllReadyH.nil
        go_simp
        refine (to_any Any d _ _ _ HLD.out HCL.out).mono ?_; rintro e w1 ⟨v', rfl, hb1, ht1⟩; obtain ⟨z0, z1, Z, zn, zc, rfl⟩ := ht1.form; have HB1 := hid (show Below wr.heap.size wr w1 from (Below.refl wr.heap.size wr).drew.trans hb1); have HT1 := hid (show IsTr w1 (fun b => wr.heap.size ≤ b) d _ _ from ht1); have HG1 := hid (grown_below HG.out HB1.out); have fB1 := (HF.out w1 HB1.out); clear hb1 ht1; go_wp2_with fail
        refine hK.out _ _ (by exact HS.out _ HG1.out) (fun hHeld => ?_)
        clear hK K
        try simp only [Act.put, List.setIfInBounds_toArray, List.set_cons_zero, List.set_cons_succ]
        refine wpAnyH_ready (rs := [15]) (by kernel_rfl) (by simp) ?_
        refine AllReadyH.cons (o := { dst := some 32, op := Op.call { callee := Callee.value (Operand.func 28), args := #[Operand.tmp 31], argTypes := #[51] }, type := _, pos := _, after := _, guard := none }) rfl (fun K hK => ?_) AllReadyH.nil
        go_simp
        refine (to_any Any d _ _ _ (HRD.out.below HB1.out) HCR.out).mono ?_; rintro e w2 ⟨v', rfl, hb2, ht2⟩; obtain ⟨y0, y1, Y2, yn, yc, rfl⟩ := ht2.form; have HB2 := hid (HB1.out.trans (hb2.mono HB1.out.size)); have HT2 := hid (ht2.mono (S' := fun b => wr.heap.size ≤ b) fun b hb _ => Nat.le_trans HB1.out.size hb); have HT1' := hid (HT1.out.below hb2); have HG2 := hid (grown_below HG.out HB2.out); have fB2 := (HF.out w2 HB2.out); clear hb2 ht2; go_wp2_with fail
        refine hK.out _ _ (by exact HS.out _ HG2.out) (fun hHeld => ?_)
        clear hK K
        try simp only [Act.put, List.setIfInBounds_toArray, List.set_cons_zero, List.set_cons_succ]
        refine wpAnyH_ready (rs := [22]) (by kernel_rfl) (by simp) ?_
        refine AllReadyH.cons (o := { dst := some 39, op := Op.build 47 #[(0, Operand.tmp 25), (1, Operand.tmp 32), (2, Operand.tmp 38)], type := _, pos := _, after := _, guard := none }) rfl (fun K hK => ?_) AllReadyH.nil
        go_simp
        refine hK.out _ _ (by exact HS.out _ HG2.out) (fun hHeld => ?_)
        clear hK K
        try simp only [Act.put, List.setIfInBounds_toArray, List.set_cons_zero, List.set_cons_succ]
        refine wpAnyH_ready (rs := [23]) (by kernel_rfl) (by simp) ?_
        refine AllReadyH.cons (o := { dst := some 40, op := Op.buildSlice 31 1 #[(0, Operand.tmp 39)], type := _, pos := _, after := _, guard := none }) rfl (fun K hK => ?_) AllReadyH.nil
        go_simp
        have HG3 := hid (grown_below HG2.out ((Below.refl _ _).alloc (Nat.le_refl _) (.cells #[.int .i64 z0, .int .i64 z1, .slice Z zn zc, .int .i64 y0, .int .i64 y1, .slice Y2 yn yc, .bool br] 47)))
        have fB3 := HF.out _ (HB2.out.trans (((Below.refl w2.heap.size w2).alloc (Nat.le_refl _) (.cells #[.int .i64 z0, .int .i64 z1, .slice Z zn zc, .int .i64 y0, .int .i64 y1, .slice Y2 yn yc, .bool br] 47)).mono HB2.out.size))
        refine hK.out _ _ (by exact HS.out _ HG3.out) (fun hHeld => ?_)
        clear hK K
        try simp only [Act.put, List.setIfInBounds_toArray, List.set_cons_zero, List.set_cons_succ]
        refine wpAnyH_ready (rs := [24]) (by kernel_rfl) (by simp) ?_
        refine AllReadyH.cons (o := { dst := some 41, op := Op.call { callee := Callee.builtin Builtin.append, args := #[Operand.tmp 18, Operand.tmp 40], argTypes := #[31, 31] }, type := _, pos := _, after := _, guard := none }) rfl (fun K hK => ?_) AllReadyH.nil
        rw [if_pos (by rfl)]
        refine wp_app_rl (.tmp 18) (.tmp 40) rfl (w0 := w2) (v := vk) (l := l.take k) (B := q + 3) (r := rk) (v0 := .int .i64 z0) (v1 := .int .i64 z1) (v2 := .slice Z zn zc) (u0 := .int .i64 y0) (u1 := .int .i64 y1) (u2 := .slice Y2 yn yc) (by rw [HBR.out]) rfl (HR.out.below HB2.out) rfl (HT1'.out.mono fun b hb _ => ⟨Nat.le_trans HZ.out hb, fun e => by have := HR.out.lt b e; omega⟩) (HT2.out.mono fun b hb _ => ⟨Nat.le_trans HZ.out hb, fun e => by have := HR.out.lt b e; omega⟩) HLk.out (Nat.le_trans HZ.out HB2.out.size) ?_
        intro v4 w4 hr4 hg4
        obtain ⟨A4, c4, e4, -⟩ := hr4.form
        obtain ⟨n4, hn4⟩ : ∃ n4, n4 = (l.take k ++ [rk]).length := ⟨_, rfl⟩
        rw [← hn4] at e4
        clear hn4
        subst e4
        have HR4 := hid hr4
        have HG4 := hid (grown_later HG3.out hg4 (fun j e => by rw [HW1.out.2.2.2]; exact (HR.out.lt j e).1))
        have HF4 := hid (hg4.block (q + 2) (by have := HZ.out; have := HB2.out.size; simp; omega) (fun e => by have := HR.out.lt _ e.symm; omega))
        have HC4 := hid (HF4.out.trans ((heap_alloc_old w2 _ (by have := HZ.out; have := HB2.out.size; omega)).trans ((HB2.out.block _ (by have := HZ.out; omega)).trans HC.out)))
        clear hr4 hg4 fB1 fB2 fB3
        obtain ⟨y0', y1', y2', yf⟩ := slot3 HC4.out
        have yf2 := yf 2
        clear yf
        refine hK.out _ _ (by exact HS.out _ HG4.out) (fun hHeld => ?_)
        clear hK K
        try simp only [Act.put, List.setIfInBounds_toArray, List.set_cons_zero, List.set_cons_succ]
        refine wpAnyH_take (i := 25) (oi := { dst := some 42, op := Op.fieldAddr 33 (Operand.tmp 3) 2, type := _, pos := _, after := _, guard := none }) (v := ?_) rfl (by kernel_rfl) (by kernel_rfl) (by kernel_rfl) (fun _ _ _ h => h) (Or.inl ⟨by rfl, ?_⟩) (by assumption) ?_
        rotate_left
        · intro w hSw; (try dsimp only at hSw); go_simp; try with_reducible rfl
        try simp only [Act.put, List.setIfInBounds_toArray, List.set_cons_zero, List.set_cons_succ]
        refine wpAnyH_ready (rs := [26]) (by kernel_rfl) (by simp) ?_
        refine AllReadyH.cons (o := { dst := none, op := Op.store 31 (Operand.tmp 42) (Operand.tmp 41), type := _, pos := _, after := _, guard := none }) rfl (fun K hK => ?_) AllReadyH.nil
        go_simp
        refine hK.out _ _ (by exact HS.out _ (grown_setCell HG4.out 2 _)) (fun hHeld => ?_)
        clear hK K
        try simp only [Act.put, List.setIfInBounds_toArray, List.set_cons_zero, List.set_cons_succ]
        refine wpAnyH_done (by kernel_rfl) ?_ _
      case' legB1 =>
        intro K hK
        go_simp
        refine (to_any Any d _ _ _ HLD.out HCL.out).mono ?_; rintro e w1 ⟨v', rfl, hb1, ht1⟩; obtain ⟨z0, z1, Z, zn, zc, rfl⟩ := ht1.form; have HB1 := hid (show Below wr.heap.size wr w1 from (Below.refl wr.heap.size wr).drew.trans hb1); have HT1 := hid (show IsTr w1 (fun b => wr.heap.size ≤ b) d _ _ from ht1); have HG1 := hid (grown_below HG.out HB1.out); have fB1 := (HF.out w1 HB1.out); clear hb1 ht1; go_wp2_with fail
        refine hK.out _ _ (by exact HS.out _ HG1.out) (fun hHeld => ?_)
        clear hK K
        try simp only [Act.put, List.setIfInBounds_toArray, List.set_cons_zero, List.set_cons_succ]
        refine wpAnyH_ready (rs := [1, 15]) (by kernel_rfl) (by simp) ?_
        refine AllReadyH.cons (o := { dst := some 18, op := Op.load 31 (Operand.tmp 17), type := _, pos := _, after := _, guard := none }) rfl ?legA1b (AllReadyH.cons (o := { dst := some 32, op := Op.call { callee := Callee.value (Operand.func 28), args := #[Operand.tmp 31], argTypes := #[51] }, type := _, pos := _, after := _, guard := none }) rfl ?legB1b AllReadyH.nil)
        case' legA1b =>
          intro K hK
          go_simp
          refine hK.out _ _ (by first | exact HS.out wr HG.out | exact HS.out _ HG3.out | exact HS.out _ HG2.out | exact HS.out _ HG1.out) (fun hHeld => ?_)
          clear hK K
          try simp only [Act.put, List.setIfInBounds_toArray, List.set_cons_zero, List.set_cons_succ]
          refine wpAnyH_ready (rs := [15]) (by kernel_rfl) (by simp) ?_
          refine AllReadyH.cons (o := { dst := some 32, op := Op.call { callee := Callee.value (Operand.func 28), args := #[Operand.tmp 31], argTypes := #[51] }, type := _, pos := _, after := _, guard := none }) rfl (fun K hK => ?_) AllReadyH.nil
          go_simp
          refine (to_any Any d _ _ _ (HRD.out.below HB1.out) HCR.out).mono ?_; rintro e w2 ⟨v', rfl, hb2, ht2⟩; obtain ⟨y0, y1, Y2, yn, yc, rfl⟩ := ht2.form; have HB2 := hid (HB1.out.trans (hb2.mono HB1.out.size)); have HT2 := hid (ht2.mono (S' := fun b => wr.heap.size ≤ b) fun b hb _ => Nat.le_trans HB1.out.size hb); have HT1' := hid (HT1.out.below hb2); have HG2 := hid (grown_below HG.out HB2.out); have fB2 := (HF.out w2 HB2.out); clear hb2 ht2; go_wp2_with fail
          refine hK.out _ _ (by exact HS.out _ HG2.out) (fun hHeld => ?_)
          clear hK K
          try simp only [Act.put, List.setIfInBounds_toArray, List.set_cons_zero, List.set_cons_succ]
          refine wpAnyH_ready (rs := [22]) (by kernel_rfl) (by simp) ?_
          refine AllReadyH.cons (o := { dst := some 39, op := Op.build 47 #[(0, Operand.tmp 25), (1, Operand.tmp 32), (2, Operand.tmp 38)], type := _, pos := _, after := _, guard := none }) rfl (fun K hK => ?_) AllReadyH.nil
          go_simp
          refine hK.out _ _ (by exact HS.out _ HG2.out) (fun hHeld => ?_)
          clear hK K
          try simp only [Act.put, List.setIfInBounds_toArray, List.set_cons_zero, List.set_cons_succ]
          refine wpAnyH_ready (rs := [23]) (by kernel_rfl) (by simp) ?_
          refine AllReadyH.cons (o := { dst := some 40, op := Op.buildSlice 31 1 #[(0, Operand.tmp 39)], type := _, pos := _, after := _, guard := none }) rfl (fun K hK => ?_) AllReadyH.nil
          go_simp
          have HG3 := hid (grown_below HG2.out ((Below.refl _ _).alloc (Nat.le_refl _) (.cells #[.int .i64 z0, .int .i64 z1, .slice Z zn zc, .int .i64 y0, .int .i64 y1, .slice Y2 yn yc, .bool br] 47)))
          have fB3 := HF.out _ (HB2.out.trans (((Below.refl w2.heap.size w2).alloc (Nat.le_refl _) (.cells #[.int .i64 z0, .int .i64 z1, .slice Z zn zc, .int .i64 y0, .int .i64 y1, .slice Y2 yn yc, .bool br] 47)).mono HB2.out.size))
          refine hK.out _ _ (by exact HS.out _ HG3.out) (fun hHeld => ?_)
          clear hK K
          try simp only [Act.put, List.setIfInBounds_toArray, List.set_cons_zero, List.set_cons_succ]
          refine wpAnyH_ready (rs := [24]) (by kernel_rfl) (by simp) ?_
          refine AllReadyH.cons (o := { dst := some 41, op := Op.call { callee := Callee.builtin Builtin.append, args := #[Operand.tmp 18, Operand.tmp 40], argTypes := #[31, 31] }, type := _, pos := _, after := _, guard := none }) rfl (fun K hK => ?_) AllReadyH.nil
          rw [if_pos (by rfl)]
          refine wp_app_rl (.tmp 18) (.tmp 40) rfl (w0 := w2) (v := vk) (l := l.take k) (B := q + 3) (r := rk) (v0 := .int .i64 z0) (v1 := .int .i64 z1) (v2 := .slice Z zn zc) (u0 := .int .i64 y0) (u1 := .int .i64 y1) (u2 := .slice Y2 yn yc) (by rw [HBR.out]) rfl (HR.out.below HB2.out) rfl (HT1'.out.mono fun b hb _ => ⟨Nat.le_trans HZ.out hb, fun e => by have := HR.out.lt b e; omega⟩) (HT2.out.mono fun b hb _ => ⟨Nat.le_trans HZ.out hb, fun e => by have := HR.out.lt b e; omega⟩) HLk.out (Nat.le_trans HZ.out HB2.out.size) ?_
          intro v4 w4 hr4 hg4
          obtain ⟨A4, c4, e4, -⟩ := hr4.form
          obtain ⟨n4, hn4⟩ : ∃ n4, n4 = (l.take k ++ [rk]).length := ⟨_, rfl⟩
          rw [← hn4] at e4
          clear hn4
          subst e4
          have HR4 := hid hr4
          have HG4 := hid (grown_later HG3.out hg4 (fun j e => by rw [HW1.out.2.2.2]; exact (HR.out.lt j e).1))
          have HF4 := hid (hg4.block (q + 2) (by have := HZ.out; have := HB2.out.size; simp; omega) (fun e => by have := HR.out.lt _ e.symm; omega))
          have HC4 := hid (HF4.out.trans ((heap_alloc_old w2 _ (by have := HZ.out; have := HB2.out.size; omega)).trans ((HB2.out.block _ (by have := HZ.out; omega)).trans HC.out)))
          clear hr4 hg4 fB1 fB2 fB3
          obtain ⟨y0', y1', y2', yf⟩ := slot3 HC4.out
          have yf2 := yf 2
          clear yf
          refine hK.out _ _ (by exact HS.out _ HG4.out) (fun hHeld => ?_)
          clear hK K
          try simp only [Act.put, List.setIfInBounds_toArray, List.set_cons_zero, List.set_cons_succ]
          refine wpAnyH_take (i := 25) (oi := { dst := some 42, op := Op.fieldAddr 33 (Operand.tmp 3) 2, type := _, pos := _, after := _, guard := none }) (v := ?_) rfl (by kernel_rfl) (by kernel_rfl) (by kernel_rfl) (fun _ _ _ h => h) (Or.inl ⟨by rfl, ?_⟩) (by assumption) ?_
          rotate_left
          · intro w hSw; (try dsimp only at hSw); go_simp; try with_reducible rfl
          try simp only [Act.put, List.setIfInBounds_toArray, List.set_cons_zero, List.set_cons_succ]
          refine wpAnyH_ready (rs := [26]) (by kernel_rfl) (by simp) ?_
          refine AllReadyH.cons (o := { dst := none, op := Op.store 31 (Operand.tmp 42) (Operand.tmp 41), type := _, pos := _, after := _, guard := none }) rfl (fun K hK => ?_) AllReadyH.nil
          go_simp
          refine hK.out _ _ (by exact HS.out _ (grown_setCell HG4.out 2 _)) (fun hHeld => ?_)
          clear hK K
          try simp only [Act.put, List.setIfInBounds_toArray, List.set_cons_zero, List.set_cons_succ]
          refine wpAnyH_done (by kernel_rfl) ?_ _
        case' legB1b =>
          intro K hK
          go_simp
          refine (to_any Any d _ _ _ (HRD.out.below HB1.out) HCR.out).mono ?_; rintro e w2 ⟨v', rfl, hb2, ht2⟩; obtain ⟨y0, y1, Y2, yn, yc, rfl⟩ := ht2.form; have HB2 := hid (HB1.out.trans (hb2.mono HB1.out.size)); have HT2 := hid (ht2.mono (S' := fun b => wr.heap.size ≤ b) fun b hb _ => Nat.le_trans HB1.out.size hb); have HT1' := hid (HT1.out.below hb2); have HG2 := hid (grown_below HG.out HB2.out); have fB2 := (HF.out w2 HB2.out); clear hb2 ht2; go_wp2_with fail
          refine hK.out _ _ (by exact HS.out _ HG2.out) (fun hHeld => ?_)
          clear hK K
          try simp only [Act.put, List.setIfInBounds_toArray, List.set_cons_zero, List.set_cons_succ]
          refine wpAnyH_ready (rs := [1, 22]) (by kernel_rfl) (by simp) ?_
          refine AllReadyH.cons (o := { dst := some 18, op := Op.load 31 (Operand.tmp 17), type := _, pos := _, after := _, guard := none }) rfl ?legA1bb (AllReadyH.cons (o := { dst := some 39, op := Op.build 47 #[(0, Operand.tmp 25), (1, Operand.tmp 32), (2, Operand.tmp 38)], type := _, pos := _, after := _, guard := none }) rfl ?legB1bb AllReadyH.nil)
          case' legA1bb =>
            intro K hK
            go_simp
            refine hK.out _ _ (by first | exact HS.out wr HG.out | exact HS.out _ HG3.out | exact HS.out _ HG2.out | exact HS.out _ HG1.out) (fun hHeld => ?_)
            clear hK K
            try simp only [Act.put, List.setIfInBounds_toArray, List.set_cons_zero, List.set_cons_succ]
            refine wpAnyH_ready (rs := [22]) (by kernel_rfl) (by simp) ?_
            refine AllReadyH.cons (o := { dst := some 39, op := Op.build 47 #[(0, Operand.tmp 25), (1, Operand.tmp 32), (2, Operand.tmp 38)], type := _, pos := _, after := _, guard := none }) rfl (fun K hK => ?_) AllReadyH.nil
            go_simp
            refine hK.out _ _ (by exact HS.out _ HG2.out) (fun hHeld => ?_)
            clear hK K
            try simp only [Act.put, List.setIfInBounds_toArray, List.set_cons_zero, List.set_cons_succ]
            refine wpAnyH_ready (rs := [23]) (by kernel_rfl) (by simp) ?_
            refine AllReadyH.cons (o := { dst := some 40, op := Op.buildSlice 31 1 #[(0, Operand.tmp 39)], type := _, pos := _, after := _, guard := none }) rfl (fun K hK => ?_) AllReadyH.nil
            go_simp
            have HG3 := hid (grown_below HG2.out ((Below.refl _ _).alloc (Nat.le_refl _) (.cells #[.int .i64 z0, .int .i64 z1, .slice Z zn zc, .int .i64 y0, .int .i64 y1, .slice Y2 yn yc, .bool br] 47)))
            have fB3 := HF.out _ (HB2.out.trans (((Below.refl w2.heap.size w2).alloc (Nat.le_refl _) (.cells #[.int .i64 z0, .int .i64 z1, .slice Z zn zc, .int .i64 y0, .int .i64 y1, .slice Y2 yn yc, .bool br] 47)).mono HB2.out.size))
            refine hK.out _ _ (by exact HS.out _ HG3.out) (fun hHeld => ?_)
            clear hK K
            try simp only [Act.put, List.setIfInBounds_toArray, List.set_cons_zero, List.set_cons_succ]
            refine wpAnyH_ready (rs := [24]) (by kernel_rfl) (by simp) ?_
            refine AllReadyH.cons (o := { dst := some 41, op := Op.call { callee := Callee.builtin Builtin.append, args := #[Operand.tmp 18, Operand.tmp 40], argTypes := #[31, 31] }, type := _, pos := _, after := _, guard := none }) rfl (fun K hK => ?_) AllReadyH.nil
            rw [if_pos (by rfl)]
            refine wp_app_rl (.tmp 18) (.tmp 40) rfl (w0 := w2) (v := vk) (l := l.take k) (B := q + 3) (r := rk) (v0 := .int .i64 z0) (v1 := .int .i64 z1) (v2 := .slice Z zn zc) (u0 := .int .i64 y0) (u1 := .int .i64 y1) (u2 := .slice Y2 yn yc) (by rw [HBR.out]) rfl (HR.out.below HB2.out) rfl (HT1'.out.mono fun b hb _ => ⟨Nat.le_trans HZ.out hb, fun e => by have := HR.out.lt b e; omega⟩) (HT2.out.mono fun b hb _ => ⟨Nat.le_trans HZ.out hb, fun e => by have := HR.out.lt b e; omega⟩) HLk.out (Nat.le_trans HZ.out HB2.out.size) ?_
            intro v4 w4 hr4 hg4
            obtain ⟨A4, c4, e4, -⟩ := hr4.form
            obtain ⟨n4, hn4⟩ : ∃ n4, n4 = (l.take k ++ [rk]).length := ⟨_, rfl⟩
            rw [← hn4] at e4
            clear hn4
            subst e4
            have HR4 := hid hr4
            have HG4 := hid (grown_later HG3.out hg4 (fun j e => by rw [HW1.out.2.2.2]; exact (HR.out.lt j e).1))
            have HF4 := hid (hg4.block (q + 2) (by have := HZ.out; have := HB2.out.size; simp; omega) (fun e => by have := HR.out.lt _ e.symm; omega))
            have HC4 := hid (HF4.out.trans ((heap_alloc_old w2 _ (by have := HZ.out; have := HB2.out.size; omega)).trans ((HB2.out.block _ (by have := HZ.out; omega)).trans HC.out)))
            clear hr4 hg4 fB1 fB2 fB3
            obtain ⟨y0', y1', y2', yf⟩ := slot3 HC4.out
            have yf2 := yf 2
            clear yf
            refine hK.out _ _ (by exact HS.out _ HG4.out) (fun hHeld => ?_)
            clear hK K
            try simp only [Act.put, List.setIfInBounds_toArray, List.set_cons_zero, List.set_cons_succ]
            refine wpAnyH_take (i := 25) (oi := { dst := some 42, op := Op.fieldAddr 33 (Operand.tmp 3) 2, type := _, pos := _, after := _, guard := none }) (v := ?_) rfl (by kernel_rfl) (by kernel_rfl) (by kernel_rfl) (fun _ _ _ h => h) (Or.inl ⟨by rfl, ?_⟩) (by assumption) ?_
            rotate_left
            · intro w hSw; (try dsimp only at hSw); go_simp; try with_reducible rfl
            try simp only [Act.put, List.setIfInBounds_toArray, List.set_cons_zero, List.set_cons_succ]
            refine wpAnyH_ready (rs := [26]) (by kernel_rfl) (by simp) ?_
            refine AllReadyH.cons (o := { dst := none, op := Op.store 31 (Operand.tmp 42) (Operand.tmp 41), type := _, pos := _, after := _, guard := none }) rfl (fun K hK => ?_) AllReadyH.nil
            go_simp
            refine hK.out _ _ (by exact HS.out _ (grown_setCell HG4.out 2 _)) (fun hHeld => ?_)
            clear hK K
            try simp only [Act.put, List.setIfInBounds_toArray, List.set_cons_zero, List.set_cons_succ]
            refine wpAnyH_done (by kernel_rfl) ?_ _
          case' legB1bb =>
            intro K hK
            go_simp
            refine hK.out _ _ (by exact HS.out _ HG2.out) (fun hHeld => ?_)
            clear hK K
            try simp only [Act.put, List.setIfInBounds_toArray, List.set_cons_zero, List.set_cons_succ]
            refine wpAnyH_ready (rs := [1, 23]) (by kernel_rfl) (by simp) ?_
            refine AllReadyH.cons (o := { dst := some 18, op := Op.load 31 (Operand.tmp 17), type := _, pos := _, after := _, guard := none }) rfl ?legA1bbb (AllReadyH.cons (o := { dst := some 40, op := Op.buildSlice 31 1 #[(0, Operand.tmp 39)], type := _, pos := _, after := _, guard := none }) rfl ?legB1bbb AllReadyH.nil)
            case' legA1bbb =>
              intro K hK
              go_simp
              refine hK.out _ _ (by first | exact HS.out wr HG.out | exact HS.out _ HG3.out | exact HS.out _ HG2.out | exact HS.out _ HG1.out) (fun hHeld => ?_)
              clear hK K
              try simp only [Act.put, List.setIfInBounds_toArray, List.set_cons_zero, List.set_cons_succ]
              refine wpAnyH_ready (rs := [23]) (by kernel_rfl) (by simp) ?_
              refine AllReadyH.cons (o := { dst := some 40, op := Op.buildSlice 31 1 #[(0, Operand.tmp 39)], type := _, pos := _, after := _, guard := none }) rfl (fun K hK => ?_) AllReadyH.nil
              go_simp
              have HG3 := hid (grown_below HG2.out ((Below.refl _ _).alloc (Nat.le_refl _) (.cells #[.int .i64 z0, .int .i64 z1, .slice Z zn zc, .int .i64 y0, .int .i64 y1, .slice Y2 yn yc, .bool br] 47)))
              have fB3 := HF.out _ (HB2.out.trans (((Below.refl w2.heap.size w2).alloc (Nat.le_refl _) (.cells #[.int .i64 z0, .int .i64 z1, .slice Z zn zc, .int .i64 y0, .int .i64 y1, .slice Y2 yn yc, .bool br] 47)).mono HB2.out.size))
              refine hK.out _ _ (by exact HS.out _ HG3.out) (fun hHeld => ?_)
              clear hK K
              try simp only [Act.put, List.setIfInBounds_toArray, List.set_cons_zero, List.set_cons_succ]
              refine wpAnyH_ready (rs := [24]) (by kernel_rfl) (by simp) ?_
              refine AllReadyH.cons (o := { dst := some 41, op := Op.call { callee := Callee.builtin Builtin.append, args := #[Operand.tmp 18, Operand.tmp 40], argTypes := #[31, 31] }, type := _, pos := _, after := _, guard := none }) rfl (fun K hK => ?_) AllReadyH.nil
              rw [if_pos (by rfl)]
              refine wp_app_rl (.tmp 18) (.tmp 40) rfl (w0 := w2) (v := vk) (l := l.take k) (B := q + 3) (r := rk) (v0 := .int .i64 z0) (v1 := .int .i64 z1) (v2 := .slice Z zn zc) (u0 := .int .i64 y0) (u1 := .int .i64 y1) (u2 := .slice Y2 yn yc) (by rw [HBR.out]) rfl (HR.out.below HB2.out) rfl (HT1'.out.mono fun b hb _ => ⟨Nat.le_trans HZ.out hb, fun e => by have := HR.out.lt b e; omega⟩) (HT2.out.mono fun b hb _ => ⟨Nat.le_trans HZ.out hb, fun e => by have := HR.out.lt b e; omega⟩) HLk.out (Nat.le_trans HZ.out HB2.out.size) ?_
              intro v4 w4 hr4 hg4
              obtain ⟨A4, c4, e4, -⟩ := hr4.form
              obtain ⟨n4, hn4⟩ : ∃ n4, n4 = (l.take k ++ [rk]).length := ⟨_, rfl⟩
              rw [← hn4] at e4
              clear hn4
              subst e4
              have HR4 := hid hr4
              have HG4 := hid (grown_later HG3.out hg4 (fun j e => by rw [HW1.out.2.2.2]; exact (HR.out.lt j e).1))
              have HF4 := hid (hg4.block (q + 2) (by have := HZ.out; have := HB2.out.size; simp; omega) (fun e => by have := HR.out.lt _ e.symm; omega))
              have HC4 := hid (HF4.out.trans ((heap_alloc_old w2 _ (by have := HZ.out; have := HB2.out.size; omega)).trans ((HB2.out.block _ (by have := HZ.out; omega)).trans HC.out)))
              clear hr4 hg4 fB1 fB2 fB3
              obtain ⟨y0', y1', y2', yf⟩ := slot3 HC4.out
              have yf2 := yf 2
              clear yf
              refine hK.out _ _ (by exact HS.out _ HG4.out) (fun hHeld => ?_)
              clear hK K
              try simp only [Act.put, List.setIfInBounds_toArray, List.set_cons_zero, List.set_cons_succ]
              refine wpAnyH_take (i := 25) (oi := { dst := some 42, op := Op.fieldAddr 33 (Operand.tmp 3) 2, type := _, pos := _, after := _, guard := none }) (v := ?_) rfl (by kernel_rfl) (by kernel_rfl) (by kernel_rfl) (fun _ _ _ h => h) (Or.inl ⟨by rfl, ?_⟩) (by assumption) ?_
              rotate_left
              · intro w hSw; (try dsimp only at hSw); go_simp; try with_reducible rfl
              try simp only [Act.put, List.setIfInBounds_toArray, List.set_cons_zero, List.set_cons_succ]
              refine wpAnyH_ready (rs := [26]) (by kernel_rfl) (by simp) ?_
              refine AllReadyH.cons (o := { dst := none, op := Op.store 31 (Operand.tmp 42) (Operand.tmp 41), type := _, pos := _, after := _, guard := none }) rfl (fun K hK => ?_) AllReadyH.nil
              go_simp
              refine hK.out _ _ (by exact HS.out _ (grown_setCell HG4.out 2 _)) (fun hHeld => ?_)
              clear hK K
              try simp only [Act.put, List.setIfInBounds_toArray, List.set_cons_zero, List.set_cons_succ]
              refine wpAnyH_done (by kernel_rfl) ?_ _
            case' legB1bbb =>
              intro K hK
              go_simp
              have HG3 := hid (grown_below HG2.out ((Below.refl _ _).alloc (Nat.le_refl _) (.cells #[.int .i64 z0, .int .i64 z1, .slice Z zn zc, .int .i64 y0, .int .i64 y1, .slice Y2 yn yc, .bool br] 47)))
              have fB3 := HF.out _ (HB2.out.trans (((Below.refl w2.heap.size w2).alloc (Nat.le_refl _) (.cells #[.int .i64 z0, .int .i64 z1, .slice Z zn zc, .int .i64 y0, .int .i64 y1, .slice Y2 yn yc, .bool br] 47)).mono HB2.out.size))
              refine hK.out _ _ (by exact HS.out _ HG3.out) (fun hHeld => ?_)
              clear hK K
              try simp only [Act.put, List.setIfInBounds_toArray, List.set_cons_zero, List.set_cons_succ]
              refine wpAnyH_ready (rs := [1]) (by kernel_rfl) (by simp) ?_
              refine AllReadyH.cons (o := { dst := some 18, op := Op.load 31 (Operand.tmp 17), type := _, pos := _, after := _, guard := none }) rfl (fun K hK => ?_) AllReadyH.nil
              go_simp
              refine hK.out _ _ (by first | exact HS.out wr HG.out | exact HS.out _ HG3.out | exact HS.out _ HG2.out | exact HS.out _ HG1.out) (fun hHeld => ?_)
              clear hK K
              try simp only [Act.put, List.setIfInBounds_toArray, List.set_cons_zero, List.set_cons_succ]
              refine wpAnyH_ready (rs := [24]) (by kernel_rfl) (by simp) ?_
              refine AllReadyH.cons (o := { dst := some 41, op := Op.call { callee := Callee.builtin Builtin.append, args := #[Operand.tmp 18, Operand.tmp 40], argTypes := #[31, 31] }, type := _, pos := _, after := _, guard := none }) rfl (fun K hK => ?_) AllReadyH.nil
              rw [if_pos (by rfl)]
              refine wp_app_rl (.tmp 18) (.tmp 40) rfl (w0 := w2) (v := vk) (l := l.take k) (B := q + 3) (r := rk) (v0 := .int .i64 z0) (v1 := .int .i64 z1) (v2 := .slice Z zn zc) (u0 := .int .i64 y0) (u1 := .int .i64 y1) (u2 := .slice Y2 yn yc) (by rw [HBR.out]) rfl (HR.out.below HB2.out) rfl (HT1'.out.mono fun b hb _ => ⟨Nat.le_trans HZ.out hb, fun e => by have := HR.out.lt b e; omega⟩) (HT2.out.mono fun b hb _ => ⟨Nat.le_trans HZ.out hb, fun e => by have := HR.out.lt b e; omega⟩) HLk.out (Nat.le_trans HZ.out HB2.out.size) ?_
              intro v4 w4 hr4 hg4
              obtain ⟨A4, c4, e4, -⟩ := hr4.form
              obtain ⟨n4, hn4⟩ : ∃ n4, n4 = (l.take k ++ [rk]).length := ⟨_, rfl⟩
              rw [← hn4] at e4
              clear hn4
              subst e4
              have HR4 := hid hr4
              have HG4 := hid (grown_later HG3.out hg4 (fun j e => by rw [HW1.out.2.2.2]; exact (HR.out.lt j e).1))
              have HF4 := hid (hg4.block (q + 2) (by have := HZ.out; have := HB2.out.size; simp; omega) (fun e => by have := HR.out.lt _ e.symm; omega))
              have HC4 := hid (HF4.out.trans ((heap_alloc_old w2 _ (by have := HZ.out; have := HB2.out.size; omega)).trans ((HB2.out.block _ (by have := HZ.out; omega)).trans HC.out)))
              clear hr4 hg4 fB1 fB2 fB3
              obtain ⟨y0', y1', y2', yf⟩ := slot3 HC4.out
              have yf2 := yf 2
              clear yf
              refine hK.out _ _ (by exact HS.out _ HG4.out) (fun hHeld => ?_)
              clear hK K
              try simp only [Act.put, List.setIfInBounds_toArray, List.set_cons_zero, List.set_cons_succ]
              refine wpAnyH_take (i := 25) (oi := { dst := some 42, op := Op.fieldAddr 33 (Operand.tmp 3) 2, type := _, pos := _, after := _, guard := none }) (v := ?_) rfl (by kernel_rfl) (by kernel_rfl) (by kernel_rfl) (fun _ _ _ h => h) (Or.inl ⟨by rfl, ?_⟩) (by assumption) ?_
              rotate_left
              · intro w hSw; (try dsimp only at hSw); go_simp; try with_reducible rfl
              try simp only [Act.put, List.setIfInBounds_toArray, List.set_cons_zero, List.set_cons_succ]
              refine wpAnyH_ready (rs := [26]) (by kernel_rfl) (by simp) ?_
              refine AllReadyH.cons (o := { dst := none, op := Op.store 31 (Operand.tmp 42) (Operand.tmp 41), type := _, pos := _, after := _, guard := none }) rfl (fun K hK => ?_) AllReadyH.nil
              go_simp
              refine hK.out _ _ (by exact HS.out _ (grown_setCell HG4.out 2 _)) (fun hHeld => ?_)
              clear hK K
              try simp only [Act.put, List.setIfInBounds_toArray, List.set_cons_zero, List.set_cons_succ]
              refine wpAnyH_done (by kernel_rfl) ?_ _
      all_goals
        have HC5 := hid (show (w4.setCell ⟨q + 1 + 1, 2, none⟩ (.slice A4 n4 c4)).heap[q + 2]? = some (.cells #[.slice I ni ic, .slice K nk kc, .slice A4 n4 c4] 33 (0, 0)) from heap_setCell_same w4 (q + 2) 2 _ 33 (.slice A4 n4 c4) HC4.out)
        have HR5 := hid (HR4.out.keep (w' := w4.setCell ⟨q + 1 + 1, 2, none⟩ (.slice A4 n4 c4)) (fun b' hb' _ => heap_setCell_other _ _ _ _ (by show b' ≠ q + 2; omega)))
        have HG5 := hid (show W.grownBy (w4.setCell ⟨q + 1 + 1, 2, none⟩ (.slice A4 n4 c4)) (some (q + 2)) from grown_setCell HG4.out 2 (.slice A4 n4 c4))
        have hl19 := HM2.out
        have HTk := hid (show l.take (k + 1) = l.take k ++ [rk] by rw [HRK.out]; exact List.take_succ_eq_append_getElem hlt)
        clear y0' y1' y2' yf2
        go_wp2_with fail
        go_roundw
        case rel => exact ⟨k + 1, .slice A4 n4 c4, by omega, by go_num, by rw [HTk.out]; exact HR5, HC5, HG5⟩
        case measure => simp [intOf]; omega
    · obtain rfl : k = l.length := by omega
      rw [List.take_length] at HR
      have HP := hid (show wr.heap[q + 1]? = some (.cells #[.slice none 0 0, .slice none 0 0, .slice none 0 0] 33 (0, 0)) from (HG.out.block (q + 1) (by rw [HW1.out.2.2.2]; omega) (by simp)).trans HW1.out.2.1)
      obtain ⟨h0, h1, h2, hf⟩ := slot3 HP.out
      obtain ⟨A5, c5, e5, l5, m5, hrow⟩ := HR.out.rows
      have HROW := hid hrow
      clear hrow
      subst e5
      have HLC := hid (And.intro l5 m5)
      clear l5 m5
      have hf0 := hf 0
      have hf1 := hf 1
      have hf2 := hf 2
      clear hf
      go_wp2_with fail
      obtain ⟨e0, e1, e2, -⟩ := slot3 (put3 (.slice I ni ic) (.slice K nk kc) (.slice A5 l.length c5) HP.out)
      have hb0 : Below q w wr := by
        have hb := (HWb.out.grown (row := some (q + 2)) HG.out HWb.out.size (fun k e => by rw [← HQ.out]; injection e with e; omega))
        rw [← HQ.out] at hb
        exact hb
      have hb3 : Below w.heap.size w (((wr.setCell ⟨q + 1, 0, none⟩ (.slice I ni ic)).setCell ⟨q + 1, 1, none⟩ (.slice K nk kc)).setCell ⟨q + 1, 2, none⟩ (.slice A5 l.length c5)) := by
        rw [← HQ.out]
        exact ((hb0.setCell (p := ⟨q + 1, 0, none⟩) (by show q ≤ q + 1; omega) _).setCell (p := ⟨q + 1, 1, none⟩) (by show q ≤ q + 1; omega) _).setCell (p := ⟨q + 1, 2, none⟩) (by show q ≤ q + 1; omega) _
      refine bodyPost_ret (v := .agg #[.slice I ni ic, .slice K nk kc, .slice A5 l.length c5]) (by simp [results, Try.results14, go_sem, e0, e1, e2]) rfl ⟨_, rfl, ?_, hb3⟩
      have hrow2 : Row7 (((wr.setCell ⟨q + 1, 0, none⟩ (.slice I ni ic)).setCell ⟨q + 1, 1, none⟩ (.slice K nk kc)).setCell ⟨q + 1, 2, none⟩ (.slice A5 l.length c5)) Any d A5 l := by
        refine HROW.out.imp (fun b hb _ => ?_) fun _ _ _ => trivial
        rw [heap_setCell_other _ _ _ _ (by show b ≠ q + 1; omega), heap_setCell_other _ _ _ _ (by show b ≠ q + 1; omega), heap_setCell_other _ _ _ _ (by show b ≠ q + 1; omega)]
      obtain ⟨he1, he2, he3⟩ := HTE.out
      have hIf := HI.out.below hb3
      have hKf := HKp.out.below hb3
      rw [← he1] at hIf
      rw [← he2] at hKf
      exact ⟨_, _, A5, c5, by rw [← he3], hIf, hKf, by rw [← he3]; exact HLC.out.1, HLC.out.2, by rw [← he3]; exact hrow2⟩
end Go.Proofs.Ytjcdcmeclnihbaa
