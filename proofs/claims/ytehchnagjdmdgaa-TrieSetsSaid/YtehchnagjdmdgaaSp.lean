/- Which places an entry has numbers of, noted: the walk. Conditions: right entries in memory. -/
import Derived.Test.YtehchnagjdmdgaaBg
namespace Go.Proofs.Ytehchnagjdmdgaa
open Go.RowKit
set_option linter.unusedSimpArgs false
theorem slot2 {Y : World} {p : Nat} {a b : Value} {t : TypeId} (h : Y.heap[p]? = some (.cells #[a, b] t (0, 0))) :
    Y.cell? ⟨p, 0, none⟩ = some a ∧ Y.cell? ⟨p, 1, none⟩ = some b ∧ ∀ i, Y.frozen? ⟨p, i, none⟩ = false :=
  ⟨by rw [cell_of_row Y p 0 _ _ _ h]; rfl, by rw [cell_of_row Y p 1 _ _ _ h]; rfl, fun i => frozen_of_row _ _ _ _ _ h⟩
theorem spread_take {i : Nat} {b : Bl} {l : List Rng} {m : Nat} (h : m < l.length) : spreadTo i b (l.take (m + 1)) = span i (rng l m) (spreadTo i b (l.take m)) (placesOf (rng l m)) := by
  rw [take_rng h]
  simp [spreadTo, List.foldl_append]
set_option maxRecDepth 100000 in
set_option maxHeartbeats 4000000 in
theorem spread_any {B q i : Nat} {A : Option Addr} {c : Nat} {es : List Ent} {b : Bl} {w : World} {other : Int} (h : Bd w B q (.slice A es.length c) b) (hE : IsEnts w (fun x => x < B) (.slice A es.length c) es) (hi : i < es.length) (hle : es.length ≤ 200) (hr : rightB (ent es i).1 = true)
    (hM : Mid es other i (fun _ => False) b) : Calls Try.prog 27 #[.pointer (some ⟨q, 0, none⟩), .int .i64 i] w fun e w' => e = .returned (.tuple #[]) ∧ Bd w' B q (.slice A es.length c) (spreadTo i b (ent es i).1) ∧ Below B w w' := by
  have HD := hid h
  have HE := hid hE
  have HR := hid hr
  have HM := hid hM
  have HBZ := hid (show B ≤ w.heap.size from Nat.le_trans h.base (Nat.le_of_lt h.lt))
  obtain ⟨eb, eo, LA, lc, rfl, hebB, heb, e0, e1, hrl, -⟩ := hE.at hi
  have HL := hid hrl
  have hll := hrl.le
  obtain ⟨q0, -, -, -⟩ := h.cells
  obtain ⟨l, hl⟩ : ∃ l, l = (ent es i).1 := ⟨_, rfl⟩
  rw [← hl] at e0 HL HR hll ⊢
  have HLE := hid hl
  clear h hE hr hM hrl hl
  go_enter Try.func27, Try.ntmps27
  go_wp2_with fail
  go_loopw [17] (fun s17 wr => ∃ (m : Nat), m ≤ l.length ∧ s17 = .int .i64 m ∧ Hid (Bd wr B q (.slice (some ⟨eb, eo, none⟩) es.length c) (spreadTo i b (l.take m))) ∧ Hid (Mid es other i (fun _ => False) (spreadTo i b (l.take m))) ∧ Hid (Below B w wr)) (fun s17 _ => l.length - (intOf s17).toNat)
  case atStart => exact ⟨0, by omega, rfl, hid (by rw [List.take_zero]; exact HD.out), hid (by rw [List.take_zero]; exact HM.out), hid (Below.refl _ _)⟩
  case round =>
    obtain ⟨m, hm, rfl, HDm, HMm, HB⟩ := hrel
    by_cases hlt : m < l.length
    · obtain ⟨rb, ro, rfl, hrbB, hrb, r0, r1, -⟩ := ((HL.out.imp (w' := wr) (fun x hx _ => HB.out.block x hx) fun _ h _ => h)).at hlt
      have HTK := hid (spread_take (i := i) (b := b) hlt)
      have hmay := mayB_iff.1 (rightB_may HR.out (rng_mem hlt))
      have HMEM := hid (show rng l m ∈ (ent es i).1 by rw [← HLE.out]; exact rng_mem hlt)
      obtain ⟨bm, hbm⟩ : ∃ bm, bm = spreadTo i b (l.take m) := ⟨_, rfl⟩
      rw [← hbm] at HDm HMm HTK
      obtain ⟨x, hx⟩ : ∃ x, x = rng l m := ⟨_, rfl⟩
      rw [← hx] at r0 r1 hmay HTK HMEM
      obtain ⟨x1, x2⟩ := x
      simp only at r0 r1 hmay
      obtain ⟨hx0, hx12, hxm⟩ := hmay
      obtain ⟨xb, hxb⟩ : ∃ xb, xb = wr.heap.size := ⟨_, rfl⟩
      obtain ⟨X, hX⟩ : ∃ X, X = wr.alloc (.cells #[.int .i32 x1, .int .i32 x2] 56) := ⟨_, rfl⟩
      have HXB := hid (show Below wr.heap.size wr X by rw [hX]; exact (Below.refl _ _).alloc (Nat.le_refl _) _)
      have HXX := hid (show X.heap[xb]? = some (.cells #[.int .i32 x1, .int .i32 x2] 56 (0, 0)) by rw [hX, hxb]; exact heap_alloc_new _ _)
      have HDX := hid (HDm.out.below HXB.out)
      have HBX := hid (HB.out.trans (HXB.out.mono (Nat.le_trans HBZ.out HB.out.size)))
      obtain ⟨y0, y1, -⟩ := slot2 HXX.out
      clear hbm hx
      obtain ⟨p0, hp0⟩ : ∃ p0 : Nat, (p0 : Int) = x1 / 256 := ⟨(x1 / 256).toNat, by omega⟩
      obtain ⟨p1, hp1⟩ : ∃ p1 : Nat, (p1 : Int) = x2 / 256 := ⟨(x2 / 256).toNat, by omega⟩
      go_wp2_with fail
      rw [← hX, ← hxb, ← hp0]
      clear r0 r1 hX hxb y0 y1
      have hp01 : p0 ≤ p1 + 1 := by omega
      have hp1m : p1 ≤ 4351 := by omega
      have HPL := hid (show placesOf (x1, x2) = p1 + 1 - p0 by unfold placesOf; simp only; omega)
      have HP0 := hid hp0
      clear hp0
      go_loopw [6, 7] (fun s6 _ wk => ∃ (k pp : Nat), Hid (pp = p0 + k) ∧ pp ≤ p1 + 1 ∧ s6 = .int .i64 (pp : Int) ∧ Hid (Bd wk B q (.slice (some ⟨eb, eo, none⟩) es.length c) (span i (x1, x2) bm k)) ∧ Hid (Mid es other i (fun _ => False) (span i (x1, x2) bm k)) ∧ Hid (wk.heap[xb]? = some (.cells #[.int .i32 x1, .int .i32 x2] 56 (0, 0))) ∧ Hid (Below B w wk)) (fun s6 _ _ => p1 + 1 - (intOf s6).toNat)
      case atStart => exact ⟨0, p0, hid rfl, by omega, rfl, HDX, HMm, HXX, HBX⟩
      case round =>
        clear HDX HXX HBX HMm HDm
        obtain ⟨k, pp, HPP, hpp, rfl, HDk, HMk, HXk, HBk⟩ := hrel
        obtain ⟨y0, y1, -⟩ := slot2 HXk.out
        by_cases hle1 : pp ≤ p1
        · have hpm : pp < 4352 := by omega
          have HWI := hid (show IntKind.i64.wrap ((i : Int) + 1) = (i : Int) + 1 by simp [IntKind.wrap, IntKind.bits, IntKind.signed]; omega)
          obtain ⟨bk, hbk⟩ : ∃ bk, bk = span i (x1, x2) bm k := ⟨_, rfl⟩
          have HSP := hid (show span i (x1, x2) bm (k + 1) = touch i (x1, x2) pp bk by
            rw [span, ← hbk]
            congr 1
            have := HPP.out
            have := HP0.out
            show (x1 / 256).toNat + k = pp
            omega)
          have HMN := hid (show Mid es other i (fun _ => False) (span i (x1, x2) bm (k + 1)) by
            rw [HSP.out, hbk]
            exact (HMk.out.touch hi HMEM.out).weak fun _ h => .inl h)
          rw [← hbk] at HDk HMk
          obtain ⟨-, cw, cf, cp⟩ := HDk.out.cells
          have c1 := cw pp hpm
          obtain ⟨PA, pc, c3, ho⟩ := cp pp hpm
          have HO := hid ho
          have f1 := cf (1 + pp)
          have f3 := cf (4353 + pp)
          have HLN := hid (show (bk.parts pp).length ≤ 1000000 by
            rcases HMk.out pp with h | ⟨h, -⟩
            · have := h.len; omega
            · have := h.len; omega)
          have HMEM3 := hid (show ∀ j ∈ bk.parts pp, 0 ≤ j ∧ j ≤ (i : Int) by
            intro j hj
            rcases HMk.out pp with h | ⟨h, -⟩
            · have := h.2.2.1 j hj; omega
            · have := h.2.2.1 j hj; omega)
          clear hbk cw cf cp ho
          by_cases hcov : x1 ≤ (pp : Int) * 256 ∧ (pp : Int) * 256 + 255 ≤ x2
          · have HTO := hid (show touch i (x1, x2) pp bk = ⟨upd bk.whole pp ((i : Int) + 1), upd bk.parts pp []⟩ by unfold touch; rw [if_pos hcov])
            obtain ⟨hc1, hc2⟩ := hcov
            have HD5 := hid (show ∀ w5, w5 = (wr.setCell ⟨q, 1 + pp, none⟩ (.int .i64 ((i : Int) + 1))).setCell ⟨q, 4353 + pp, none⟩ (.slice none 0 0) → Bd w5 B q (.slice (some ⟨eb, eo, none⟩) es.length c) (span i (x1, x2) bm (k + 1)) ∧ w5.heap[xb]? = some (.cells #[.int .i32 x1, .int .i32 x2] 56 (0, 0)) ∧ Below B w w5 from fun w5 e => by
              subst e
              obtain ⟨cs, hcs, -⟩ := HDk.out.blk
              have hne : xb ≠ q := fun e => by rw [← e, HXk.out] at hcs; injection hcs with hcs; injection hcs with _ h2; cases h2
              refine ⟨by rw [HSP.out, HTO.out]; exact HDk.out.setWhole hpm _, by rw [heap_setCell_other _ _ _ _ hne, heap_setCell_other _ _ _ _ hne]; exact HXk.out, ?_⟩
              exact (HBk.out.setCell (p := ⟨q, 1 + pp, none⟩) HDk.out.base _).setCell (p := ⟨q, 4353 + pp, none⟩) HDk.out.base _)
            have HC1 := hid (show (wr.drew.setCell ⟨q, 1 + pp, none⟩ (.int .i64 ((i : Int) + 1))).cell? ⟨q, 4353 + pp, none⟩ = some (.slice PA (bk.parts pp).length pc) ∧ (wr.drew.setCell ⟨q, 1 + pp, none⟩ (.int .i64 ((i : Int) + 1))).frozen? ⟨q, 4353 + pp, none⟩ = false by
              obtain ⟨cs, hcs, -⟩ := HDk.out.blk
              have e1 := heap_setCell_same wr.drew q (1 + pp) _ _ (.int .i64 ((i : Int) + 1)) hcs
              refine ⟨?_, frozen_of_row _ _ _ _ _ e1⟩
              rw [cell_of_row _ q _ _ _ _ e1, set_get, if_neg (by omega), ← cell_of_row wr q _ cs 67 (0, 0) hcs]
              exact c3)
            go_wp2_with fail
            refine wp_region_held_drew (S := (fun _ => True)) (by kernel_rfl) (by trivial) (fun hHeld => ?_)
            refine wpAnyH_take (i := 0) (oi := { dst := some 49, op := Op.move (Operand.tmp 0), type := _, pos := _, after := _, guard := none }) (v := ?_) rfl (by kernel_rfl) (by kernel_rfl) (by kernel_rfl) (fun _ _ _ h => h) (Or.inl ⟨by rfl, ?_⟩) (by assumption) ?_
            rotate_left
            · intro w hSw; (try dsimp only at hSw); go_simp; try (first | with_reducible rfl | (refine (if_pos ?_).trans ?_ <;> first | omega | with_reducible rfl))
            try simp only [Act.put, List.setIfInBounds_toArray, List.set_cons_zero, List.set_cons_succ]
            refine wpAnyH_take (i := 1) (oi := { dst := some 50, op := Op.move (Operand.tmp 6), type := _, pos := _, after := _, guard := none }) (v := ?_) rfl (by kernel_rfl) (by kernel_rfl) (by kernel_rfl) (fun _ _ _ h => h) (Or.inl ⟨by rfl, ?_⟩) (by assumption) ?_
            rotate_left
            · intro w hSw; (try dsimp only at hSw); go_simp; try (first | with_reducible rfl | (refine (if_pos ?_).trans ?_ <;> first | omega | with_reducible rfl))
            try simp only [Act.put, List.setIfInBounds_toArray, List.set_cons_zero, List.set_cons_succ]
            refine wpAnyH_take (i := 2) (oi := { dst := some 51, op := Op.move (Operand.tmp 0), type := _, pos := _, after := _, guard := none }) (v := ?_) rfl (by kernel_rfl) (by kernel_rfl) (by kernel_rfl) (fun _ _ _ h => h) (Or.inl ⟨by rfl, ?_⟩) (by assumption) ?_
            rotate_left
            · intro w hSw; (try dsimp only at hSw); go_simp; try (first | with_reducible rfl | (refine (if_pos ?_).trans ?_ <;> first | omega | with_reducible rfl))
            try simp only [Act.put, List.setIfInBounds_toArray, List.set_cons_zero, List.set_cons_succ]
            refine wpAnyH_take (i := 3) (oi := { dst := some 52, op := Op.move (Operand.tmp 6), type := _, pos := _, after := _, guard := none }) (v := ?_) rfl (by kernel_rfl) (by kernel_rfl) (by kernel_rfl) (fun _ _ _ h => h) (Or.inl ⟨by rfl, ?_⟩) (by assumption) ?_
            rotate_left
            · intro w hSw; (try dsimp only at hSw); go_simp; try (first | with_reducible rfl | (refine (if_pos ?_).trans ?_ <;> first | omega | with_reducible rfl))
            try simp only [Act.put, List.setIfInBounds_toArray, List.set_cons_zero, List.set_cons_succ]
            refine wpAnyH_take (i := 4) (oi := { dst := some 53, op := Op.move (Operand.tmp 1), type := _, pos := _, after := _, guard := none }) (v := ?_) rfl (by kernel_rfl) (by kernel_rfl) (by kernel_rfl) (fun _ _ _ h => h) (Or.inl ⟨by rfl, ?_⟩) (by assumption) ?_
            rotate_left
            · intro w hSw; (try dsimp only at hSw); go_simp; try (first | with_reducible rfl | (refine (if_pos ?_).trans ?_ <;> first | omega | with_reducible rfl))
            try simp only [Act.put, List.setIfInBounds_toArray, List.set_cons_zero, List.set_cons_succ]
            refine wpAnyH_take (i := 5) (oi := { dst := some 54, op := Op.binOp BinOp.add 3 (Operand.tmp 53) (Operand.const (Value.int IntKind.i64 1)) 3, type := _, pos := _, after := _, guard := none }) (v := ?_) rfl (by kernel_rfl) (by kernel_rfl) (by kernel_rfl) (fun _ _ _ h => h) (Or.inl ⟨by rfl, ?_⟩) (by assumption) ?_
            rotate_left
            · intro w hSw; (try dsimp only at hSw); go_simp; try (first | with_reducible rfl | (refine (if_pos ?_).trans ?_ <;> first | omega | with_reducible rfl))
            try simp only [Act.put, List.setIfInBounds_toArray, List.set_cons_zero, List.set_cons_succ]
            refine wpAnyH_take (i := 6) (oi := { dst := some 55, op := Op.nilCheck (Operand.tmp 49), type := _, pos := _, after := _, guard := none }) (v := ?_) rfl (by kernel_rfl) (by kernel_rfl) (by kernel_rfl) (fun _ _ _ h => h) (Or.inl ⟨by rfl, ?_⟩) (by assumption) ?_
            rotate_left
            · intro w hSw; (try dsimp only at hSw); go_simp; try (first | with_reducible rfl | (refine (if_pos ?_).trans ?_ <;> first | omega | with_reducible rfl))
            try simp only [Act.put, List.setIfInBounds_toArray, List.set_cons_zero, List.set_cons_succ]
            refine wpAnyH_take (i := 7) (oi := { dst := some 56, op := Op.fieldAddr 67 (Operand.tmp 55) 1, type := _, pos := _, after := _, guard := none }) (v := ?_) rfl (by kernel_rfl) (by kernel_rfl) (by kernel_rfl) (fun _ _ _ h => h) (Or.inl ⟨by rfl, ?_⟩) (by assumption) ?_
            rotate_left
            · intro w hSw; (try dsimp only at hSw); go_simp; try (first | with_reducible rfl | (refine (if_pos ?_).trans ?_ <;> first | omega | with_reducible rfl))
            try simp only [Act.put, List.setIfInBounds_toArray, List.set_cons_zero, List.set_cons_succ]
            refine wpAnyH_take (i := 8) (oi := { dst := some 57, op := Op.indexAddr 64 (Operand.tmp 56) (Operand.tmp 50), type := _, pos := _, after := _, guard := none }) (v := ?_) rfl (by kernel_rfl) (by kernel_rfl) (by kernel_rfl) (fun _ _ _ h => h) (Or.inl ⟨by rfl, ?_⟩) (by assumption) ?_
            rotate_left
            · intro w hSw; (try dsimp only at hSw); go_simp; try (first | with_reducible rfl | (refine (if_pos ?_).trans ?_ <;> first | omega | with_reducible rfl))
            try simp only [Act.put, List.setIfInBounds_toArray, List.set_cons_zero, List.set_cons_succ]
            refine wpAnyH_take (i := 10) (oi := { dst := some 58, op := Op.nilCheck (Operand.tmp 51), type := _, pos := _, after := _, guard := none }) (v := ?_) rfl (by kernel_rfl) (by kernel_rfl) (by kernel_rfl) (fun _ _ _ h => h) (Or.inl ⟨by rfl, ?_⟩) (by assumption) ?_
            rotate_left
            · intro w hSw; (try dsimp only at hSw); go_simp; try (first | with_reducible rfl | (refine (if_pos ?_).trans ?_ <;> first | omega | with_reducible rfl))
            try simp only [Act.put, List.setIfInBounds_toArray, List.set_cons_zero, List.set_cons_succ]
            refine wpAnyH_take (i := 11) (oi := { dst := some 59, op := Op.fieldAddr 67 (Operand.tmp 58) 2, type := _, pos := _, after := _, guard := none }) (v := ?_) rfl (by kernel_rfl) (by kernel_rfl) (by kernel_rfl) (fun _ _ _ h => h) (Or.inl ⟨by rfl, ?_⟩) (by assumption) ?_
            rotate_left
            · intro w hSw; (try dsimp only at hSw); go_simp; try (first | with_reducible rfl | (refine (if_pos ?_).trans ?_ <;> first | omega | with_reducible rfl))
            try simp only [Act.put, List.setIfInBounds_toArray, List.set_cons_zero, List.set_cons_succ]
            refine wpAnyH_ready (rs := [9]) (by kernel_rfl) (by simp) ?_
            refine AllReadyH.cons (o := { dst := none, op := Op.store 3 (Operand.tmp 57) (Operand.tmp 54), type := _, pos := _, after := _, guard := none }) rfl (fun K hK => ?_) AllReadyH.nil
            go_simp
            have c3x := HC1.out.1
            have c3f := HC1.out.2
            refine hK.out _ _ (by trivial) (fun hHeld => ?_)
            clear hK K
            try simp only [Act.put, List.setIfInBounds_toArray, List.set_cons_zero, List.set_cons_succ]
            refine wpAnyH_take (i := 12) (oi := { dst := some 60, op := Op.indexAddr 65 (Operand.tmp 59) (Operand.tmp 52), type := _, pos := _, after := _, guard := none }) (v := ?_) rfl (by kernel_rfl) (by kernel_rfl) (by kernel_rfl) (fun _ _ _ h => h) (Or.inl ⟨by rfl, ?_⟩) (by assumption) ?_
            rotate_left
            · intro w hSw; (try dsimp only at hSw); go_simp; try (first | with_reducible rfl | (refine (if_pos ?_).trans ?_ <;> first | omega | with_reducible rfl))
            try simp only [Act.put, List.setIfInBounds_toArray, List.set_cons_zero, List.set_cons_succ]
            refine wpAnyH_ready (rs := [13]) (by kernel_rfl) (by simp) ?_
            refine AllReadyH.cons (o := { dst := none, op := Op.store 49 (Operand.tmp 60) (Operand.const (Value.slice none 0 0)), type := _, pos := _, after := _, guard := none }) rfl (fun K hK => ?_) AllReadyH.nil
            go_simp
            refine hK.out _ _ (by trivial) (fun hHeld => ?_)
            clear hK K
            try simp only [Act.put, List.setIfInBounds_toArray, List.set_cons_zero, List.set_cons_succ]
            refine wpAnyH_done (by kernel_rfl) ?_ _
            obtain ⟨w5, hw5⟩ : ∃ w5, w5 = (wr.setCell ⟨q, 1 + pp, none⟩ (.int .i64 ((i : Int) + 1))).setCell ⟨q, 4353 + pp, none⟩ (.slice none 0 0) := ⟨_, rfl⟩
            have H5 := hid (HD5.out w5 hw5)
            rw [HWI.out]
            rw [← hw5]
            clear hw5 c1 c3 f1 f3 c3x c3f
            go_wp2_with fail
            exact ⟨⟨k + 1, pp + 1, hid (by have := HPP.out; omega), by omega, by go_num, hid (H5.out.1.below (Below.refl _ _).drew), HMN, hid (show w5.drew.heap[xb]? = _ from H5.out.2.1), hid H5.out.2.2.drew⟩, by simp [intOf]; omega⟩
          · have HCOV := hid hcov
            by_cases hc1 : x1 ≤ (pp : Int) * 256
            · have hc2 : x2 < (pp : Int) * 256 + 255 := by omega
              clear hcov
              obtain ⟨n, hn⟩ : ∃ n, n = (bk.parts pp).length := ⟨_, rfl⟩
              have HN := hid hn
              have hnl : n ≤ 1000000 := by rw [hn]; exact HLN.out
              have HOL := hid (show OwnI wr B (.slice PA n pc) (bk.parts pp) by rw [hn]; exact HO.out)
              rw [← hn] at c3
              have HC3 := hid (show wr.drew.cell? ⟨q, 4353 + pp, none⟩ = some (.slice PA n pc) from c3)
              have HZ := hid (show B ≤ wr.heap.size from Nat.le_trans HDk.out.base (Nat.le_of_lt HDk.out.lt))
              obtain ⟨cs, hcs⟩ : ∃ cs, wr.heap[q]? = some (.cells cs 67 (0, 0)) := by obtain ⟨cs, hcs, -⟩ := HDk.out.blk; exact ⟨cs, hcs⟩
              have HQC := hid (show cs[4353 + pp]? = some (.slice PA n pc) by rw [← cell_of_row wr q _ cs 67 (0, 0) hcs]; exact c3)
              have HQB := hid (show ∀ w4, (wr.drew.alloc (.cells #[.int .i64 (i : Int)] 3)).grownBy w4 (Value.slice PA n pc).ownBlock → w4.heap[q]? = some (.cells cs 67 (0, 0)) from fun w4 hg => by
                have hb0 : Below wr.heap.size wr (wr.drew.alloc (.cells #[.int .i64 (i : Int)] 3)) := (Below.refl wr.heap.size wr).drew.alloc (Nat.le_refl _) _
                exact (hg.block q (Nat.lt_of_lt_of_le HDk.out.lt hb0.size) (fun e => own_blk_ne HOL.out hcs (by decide) e.symm)).trans ((hb0.block q HDk.out.lt).trans hcs))
              have HPX := hid (fun (o : Obj) => ((Below.refl wr.heap.size wr).alloc (Nat.le_refl _) o).cell (p := ⟨q, 4353 + pp, none⟩) (show q < wr.heap.size from HDk.out.lt))
              clear hn hcs
              by_cases hn0 : n = 0
              · have HTO := hid (show touch i (x1, x2) pp bk = ⟨bk.whole, upd bk.parts pp (bk.parts pp ++ [(i : Int)])⟩ by
                  unfold touch
                  rw [if_neg HCOV.out, if_pos (.inl (List.eq_nil_of_length_eq_zero (by rw [← HN.out]; exact hn0)))])
                have hb0 : ((n : Int) == 0) = true := by simpa using hn0
                clear hn0
                have HADD := hid (show ∀ A4 c4 w4 w5, OwnI w4 B (.slice A4 (n + 1) c4) (bk.parts pp ++ [(i : Int)]) → (wr.drew.alloc (.cells #[.int .i64 (i : Int)] 3)).grownBy w4 (Value.slice PA n pc).ownBlock → ((Value.slice A4 (n + 1) c4).ownBlock = (Value.slice PA n pc).ownBlock ∨ (Value.slice A4 (n + 1) c4).ownBlock = some (wr.drew.alloc (.cells #[.int .i64 (i : Int)] 3)).heap.size) → w5 = w4.setCell ⟨q, 4353 + pp, none⟩ (.slice A4 (n + 1) c4) → Bd w5 B q (.slice (some ⟨eb, eo, none⟩) es.length c) (span i (x1, x2) bm (k + 1)) ∧ w5.heap[xb]? = some (.cells #[.int .i32 x1, .int .i32 x2] 56 (0, 0)) ∧ Below B w w5 from fun A4 c4 w4 w5 h1 h2 h3 e => by
                  subst e
                  have hb0 : Below wr.heap.size wr (wr.drew.alloc (.cells #[.int .i64 (i : Int)] 3)) := (Below.refl wr.heap.size wr).drew.alloc (Nat.le_refl _) _
                  have hq := HQB.out w4 h2
                  have hne : xb ≠ q := fun e => by rw [← e] at hq; have hx := (h2.block xb (Nat.lt_of_lt_of_le (Array.getElem?_eq_some_iff.1 HXk.out).1 hb0.size) (fun e' => own_blk_ne HOL.out HXk.out (by decide) e'.symm)).trans ((hb0.block xb (Array.getElem?_eq_some_iff.1 HXk.out).1).trans HXk.out); rw [hx] at hq; injection hq with hq; injection hq with _ h9; cases h9
                  refine ⟨by rw [HSP.out, HTO.out]; exact Bd.addPart (HDk.out.below (Below.refl _ _).drew) hpm HC3.out rfl h1 h2 h3, ?_, ?_⟩
                  · rw [heap_setCell_other _ _ _ _ hne]
                    exact (h2.block xb (Nat.lt_of_lt_of_le (Array.getElem?_eq_some_iff.1 HXk.out).1 hb0.size) (fun e' => own_blk_ne HOL.out HXk.out (by decide) e'.symm)).trans ((hb0.block xb (Array.getElem?_eq_some_iff.1 HXk.out).1).trans HXk.out)
                  · exact ((HBk.out.trans (hb0.mono HZ.out)).grown h2 (Nat.le_trans HZ.out hb0.size) fun j e => (HOL.out.lt j e).1).setCell (p := ⟨q, 4353 + pp, none⟩) HDk.out.base _)
                go_wp2_with fail
                refine wp_region_held_drew (S := (fun _ => True)) (by kernel_rfl) (by trivial) (fun hHeld => ?_)
                refine wpAnyH_take (i := 0) (oi := { dst := some 84, op := Op.move (Operand.tmp 0), type := _, pos := _, after := _, guard := none }) (v := ?_) rfl (by kernel_rfl) (by kernel_rfl) (by kernel_rfl) (fun _ _ _ h => h) (Or.inl ⟨by rfl, ?_⟩) (by assumption) ?_
                rotate_left
                · intro w hSw; (try dsimp only at hSw); go_simp; try (first | with_reducible rfl | (refine (if_pos ?_).trans ?_ <;> first | omega | with_reducible rfl))
                try simp only [Act.put, List.setIfInBounds_toArray, List.set_cons_zero, List.set_cons_succ]
                refine wpAnyH_take (i := 1) (oi := { dst := some 85, op := Op.move (Operand.tmp 6), type := _, pos := _, after := _, guard := none }) (v := ?_) rfl (by kernel_rfl) (by kernel_rfl) (by kernel_rfl) (fun _ _ _ h => h) (Or.inl ⟨by rfl, ?_⟩) (by assumption) ?_
                rotate_left
                · intro w hSw; (try dsimp only at hSw); go_simp; try (first | with_reducible rfl | (refine (if_pos ?_).trans ?_ <;> first | omega | with_reducible rfl))
                try simp only [Act.put, List.setIfInBounds_toArray, List.set_cons_zero, List.set_cons_succ]
                refine wpAnyH_take (i := 2) (oi := { dst := some 86, op := Op.move (Operand.tmp 0), type := _, pos := _, after := _, guard := none }) (v := ?_) rfl (by kernel_rfl) (by kernel_rfl) (by kernel_rfl) (fun _ _ _ h => h) (Or.inl ⟨by rfl, ?_⟩) (by assumption) ?_
                rotate_left
                · intro w hSw; (try dsimp only at hSw); go_simp; try (first | with_reducible rfl | (refine (if_pos ?_).trans ?_ <;> first | omega | with_reducible rfl))
                try simp only [Act.put, List.setIfInBounds_toArray, List.set_cons_zero, List.set_cons_succ]
                refine wpAnyH_take (i := 3) (oi := { dst := some 87, op := Op.move (Operand.tmp 6), type := _, pos := _, after := _, guard := none }) (v := ?_) rfl (by kernel_rfl) (by kernel_rfl) (by kernel_rfl) (fun _ _ _ h => h) (Or.inl ⟨by rfl, ?_⟩) (by assumption) ?_
                rotate_left
                · intro w hSw; (try dsimp only at hSw); go_simp; try (first | with_reducible rfl | (refine (if_pos ?_).trans ?_ <;> first | omega | with_reducible rfl))
                try simp only [Act.put, List.setIfInBounds_toArray, List.set_cons_zero, List.set_cons_succ]
                refine wpAnyH_take (i := 4) (oi := { dst := some 88, op := Op.nilCheck (Operand.tmp 86), type := _, pos := _, after := _, guard := none }) (v := ?_) rfl (by kernel_rfl) (by kernel_rfl) (by kernel_rfl) (fun _ _ _ h => h) (Or.inl ⟨by rfl, ?_⟩) (by assumption) ?_
                rotate_left
                · intro w hSw; (try dsimp only at hSw); go_simp; try (first | with_reducible rfl | (refine (if_pos ?_).trans ?_ <;> first | omega | with_reducible rfl))
                try simp only [Act.put, List.setIfInBounds_toArray, List.set_cons_zero, List.set_cons_succ]
                refine wpAnyH_take (i := 5) (oi := { dst := some 89, op := Op.fieldAddr 67 (Operand.tmp 88) 2, type := _, pos := _, after := _, guard := none }) (v := ?_) rfl (by kernel_rfl) (by kernel_rfl) (by kernel_rfl) (fun _ _ _ h => h) (Or.inl ⟨by rfl, ?_⟩) (by assumption) ?_
                rotate_left
                · intro w hSw; (try dsimp only at hSw); go_simp; try (first | with_reducible rfl | (refine (if_pos ?_).trans ?_ <;> first | omega | with_reducible rfl))
                try simp only [Act.put, List.setIfInBounds_toArray, List.set_cons_zero, List.set_cons_succ]
                refine wpAnyH_take (i := 6) (oi := { dst := some 90, op := Op.indexAddr 65 (Operand.tmp 89) (Operand.tmp 87), type := _, pos := _, after := _, guard := none }) (v := ?_) rfl (by kernel_rfl) (by kernel_rfl) (by kernel_rfl) (fun _ _ _ h => h) (Or.inl ⟨by rfl, ?_⟩) (by assumption) ?_
                rotate_left
                · intro w hSw; (try dsimp only at hSw); go_simp; try (first | with_reducible rfl | (refine (if_pos ?_).trans ?_ <;> first | omega | with_reducible rfl))
                try simp only [Act.put, List.setIfInBounds_toArray, List.set_cons_zero, List.set_cons_succ]
                refine wpAnyH_take (i := 8) (oi := { dst := some 92, op := Op.move (Operand.tmp 1), type := _, pos := _, after := _, guard := none }) (v := ?_) rfl (by kernel_rfl) (by kernel_rfl) (by kernel_rfl) (fun _ _ _ h => h) (Or.inl ⟨by rfl, ?_⟩) (by assumption) ?_
                rotate_left
                · intro w hSw; (try dsimp only at hSw); go_simp; try (first | with_reducible rfl | (refine (if_pos ?_).trans ?_ <;> first | omega | with_reducible rfl))
                try simp only [Act.put, List.setIfInBounds_toArray, List.set_cons_zero, List.set_cons_succ]
                refine wpAnyH_take (i := 11) (oi := { dst := some 95, op := Op.nilCheck (Operand.tmp 84), type := _, pos := _, after := _, guard := none }) (v := ?_) rfl (by kernel_rfl) (by kernel_rfl) (by kernel_rfl) (fun _ _ _ h => h) (Or.inl ⟨by rfl, ?_⟩) (by assumption) ?_
                rotate_left
                · intro w hSw; (try dsimp only at hSw); go_simp; try (first | with_reducible rfl | (refine (if_pos ?_).trans ?_ <;> first | omega | with_reducible rfl))
                try simp only [Act.put, List.setIfInBounds_toArray, List.set_cons_zero, List.set_cons_succ]
                refine wpAnyH_take (i := 12) (oi := { dst := some 96, op := Op.fieldAddr 67 (Operand.tmp 95) 2, type := _, pos := _, after := _, guard := none }) (v := ?_) rfl (by kernel_rfl) (by kernel_rfl) (by kernel_rfl) (fun _ _ _ h => h) (Or.inl ⟨by rfl, ?_⟩) (by assumption) ?_
                rotate_left
                · intro w hSw; (try dsimp only at hSw); go_simp; try (first | with_reducible rfl | (refine (if_pos ?_).trans ?_ <;> first | omega | with_reducible rfl))
                try simp only [Act.put, List.setIfInBounds_toArray, List.set_cons_zero, List.set_cons_succ]
                refine wpAnyH_ready (rs := [7, 9]) (by kernel_rfl) (by simp) ?_
                refine AllReadyH.cons (o := { dst := some 91, op := Op.load 49 (Operand.tmp 90), type := _, pos := _, after := _, guard := none }) rfl ?legA2n1 (AllReadyH.cons (o := { dst := some 93, op := Op.buildSlice 49 1 #[(0, Operand.tmp 92)], type := _, pos := _, after := _, guard := none }) rfl ?legB2n1 AllReadyH.nil)
                case' legA2n1 =>
                  intro K hK
                  go_simp
                  refine hK.out _ _ (by trivial) (fun hHeld => ?_)
                  clear hK K
                  try simp only [Act.put, List.setIfInBounds_toArray, List.set_cons_zero, List.set_cons_succ]
                  refine wpAnyH_ready (rs := [9]) (by kernel_rfl) (by simp) ?_
                  refine AllReadyH.cons (o := { dst := some 93, op := Op.buildSlice 49 1 #[(0, Operand.tmp 92)], type := _, pos := _, after := _, guard := none }) rfl (fun K hK => ?_) AllReadyH.nil
                  go_simp
                  have c3x := (HPX.out (.cells #[.int .i64 (i : Int)] 3)).trans c3
                  refine hK.out _ _ (by trivial) (fun hHeld => ?_)
                  clear hK K
                  try simp only [Act.put, List.setIfInBounds_toArray, List.set_cons_zero, List.set_cons_succ]
                  refine wpAnyH_ready (rs := [10]) (by kernel_rfl) (by simp) ?_
                  refine AllReadyH.cons (o := { dst := some 94, op := Op.call { callee := Callee.builtin Builtin.append, args := #[Operand.tmp 91, Operand.tmp 93], argTypes := #[49, 49] }, type := _, pos := _, after := _, guard := none }) rfl (fun K hK => ?_) AllReadyH.nil
                  rw [if_pos (by rfl)]
                  refine wp_app_one (.tmp 91) (.tmp 93) rfl (w0 := wr.drew) (B := B) (z := (i : Int)) rfl rfl (show OwnI wr.drew B _ (bk.parts pp) from HOL.out) rfl HLN.out HZ.out ?_
                  rw [← HN.out]
                  intro A4 c4 w4 ho4 hg4 hv4
                  have HO4 := hid ho4
                  have HG4 := hid hg4
                  have HV4 := hid hv4
                  have HQ4 := hid (HQB.out w4 hg4)
                  have c4z := (cell_of_row w4 q (4353 + pp) _ _ _ HQ4.out).trans HQC.out
                  have c4f := frozen_of_row w4 q (4353 + pp) _ _ HQ4.out
                  clear ho4 hg4 hv4
                  refine hK.out _ _ (by trivial) (fun hHeld => ?_)
                  clear hK K
                  try simp only [Act.put, List.setIfInBounds_toArray, List.set_cons_zero, List.set_cons_succ]
                  refine wpAnyH_take (i := 13) (oi := { dst := some 97, op := Op.indexAddr 65 (Operand.tmp 96) (Operand.tmp 85), type := _, pos := _, after := _, guard := none }) (v := ?_) rfl (by kernel_rfl) (by kernel_rfl) (by kernel_rfl) (fun _ _ _ h => h) (Or.inl ⟨by rfl, ?_⟩) (by assumption) ?_
                  rotate_left
                  · intro w hSw; (try dsimp only at hSw); go_simp; try (first | with_reducible rfl | (refine (if_pos ?_).trans ?_ <;> first | omega | with_reducible rfl))
                  try simp only [Act.put, List.setIfInBounds_toArray, List.set_cons_zero, List.set_cons_succ]
                  refine wpAnyH_ready (rs := [14]) (by kernel_rfl) (by simp) ?_
                  refine AllReadyH.cons (o := { dst := none, op := Op.store 49 (Operand.tmp 97) (Operand.tmp 94), type := _, pos := _, after := _, guard := none }) rfl (fun K hK => ?_) AllReadyH.nil
                  go_simp
                  refine hK.out _ _ (by trivial) (fun hHeld => ?_)
                  clear hK K
                  try simp only [Act.put, List.setIfInBounds_toArray, List.set_cons_zero, List.set_cons_succ]
                  refine wpAnyH_done (by kernel_rfl) ?_ _
                  obtain ⟨w5, hw5⟩ : ∃ w5, w5 = w4.setCell ⟨q, 4353 + pp, none⟩ (.slice A4 (n + 1) c4) := ⟨_, rfl⟩
                  have HD5 := hid (HADD.out A4 c4 w4 w5 HO4.out HG4.out HV4.out hw5)
                  rw [← hw5]
                  clear hw5 c3 c4z c4f
                  try clear c3x
                  try clear ca
                  clear c1 f1 f3
                  go_wp2_with fail
                  exact ⟨⟨k + 1, pp + 1, hid (by have := HPP.out; omega), by omega, by go_num, hid HD5.out.1, HMN, hid HD5.out.2.1, hid HD5.out.2.2⟩, by simp [intOf]; have := HPP.out; omega⟩
                case' legB2n1 =>
                  intro K hK
                  go_simp
                  have c3x := (HPX.out (.cells #[.int .i64 (i : Int)] 3)).trans c3
                  refine hK.out _ _ (by trivial) (fun hHeld => ?_)
                  clear hK K
                  try simp only [Act.put, List.setIfInBounds_toArray, List.set_cons_zero, List.set_cons_succ]
                  refine wpAnyH_ready (rs := [7]) (by kernel_rfl) (by simp) ?_
                  refine AllReadyH.cons (o := { dst := some 91, op := Op.load 49 (Operand.tmp 90), type := _, pos := _, after := _, guard := none }) rfl (fun K hK => ?_) AllReadyH.nil
                  go_simp
                  refine hK.out _ _ (by trivial) (fun hHeld => ?_)
                  clear hK K
                  try simp only [Act.put, List.setIfInBounds_toArray, List.set_cons_zero, List.set_cons_succ]
                  refine wpAnyH_ready (rs := [10]) (by kernel_rfl) (by simp) ?_
                  refine AllReadyH.cons (o := { dst := some 94, op := Op.call { callee := Callee.builtin Builtin.append, args := #[Operand.tmp 91, Operand.tmp 93], argTypes := #[49, 49] }, type := _, pos := _, after := _, guard := none }) rfl (fun K hK => ?_) AllReadyH.nil
                  rw [if_pos (by rfl)]
                  refine wp_app_one (.tmp 91) (.tmp 93) rfl (w0 := wr.drew) (B := B) (z := (i : Int)) rfl rfl (show OwnI wr.drew B _ (bk.parts pp) from HOL.out) rfl HLN.out HZ.out ?_
                  rw [← HN.out]
                  intro A4 c4 w4 ho4 hg4 hv4
                  have HO4 := hid ho4
                  have HG4 := hid hg4
                  have HV4 := hid hv4
                  have HQ4 := hid (HQB.out w4 hg4)
                  have c4z := (cell_of_row w4 q (4353 + pp) _ _ _ HQ4.out).trans HQC.out
                  have c4f := frozen_of_row w4 q (4353 + pp) _ _ HQ4.out
                  clear ho4 hg4 hv4
                  refine hK.out _ _ (by trivial) (fun hHeld => ?_)
                  clear hK K
                  try simp only [Act.put, List.setIfInBounds_toArray, List.set_cons_zero, List.set_cons_succ]
                  refine wpAnyH_take (i := 13) (oi := { dst := some 97, op := Op.indexAddr 65 (Operand.tmp 96) (Operand.tmp 85), type := _, pos := _, after := _, guard := none }) (v := ?_) rfl (by kernel_rfl) (by kernel_rfl) (by kernel_rfl) (fun _ _ _ h => h) (Or.inl ⟨by rfl, ?_⟩) (by assumption) ?_
                  rotate_left
                  · intro w hSw; (try dsimp only at hSw); go_simp; try (first | with_reducible rfl | (refine (if_pos ?_).trans ?_ <;> first | omega | with_reducible rfl))
                  try simp only [Act.put, List.setIfInBounds_toArray, List.set_cons_zero, List.set_cons_succ]
                  refine wpAnyH_ready (rs := [14]) (by kernel_rfl) (by simp) ?_
                  refine AllReadyH.cons (o := { dst := none, op := Op.store 49 (Operand.tmp 97) (Operand.tmp 94), type := _, pos := _, after := _, guard := none }) rfl (fun K hK => ?_) AllReadyH.nil
                  go_simp
                  refine hK.out _ _ (by trivial) (fun hHeld => ?_)
                  clear hK K
                  try simp only [Act.put, List.setIfInBounds_toArray, List.set_cons_zero, List.set_cons_succ]
                  refine wpAnyH_done (by kernel_rfl) ?_ _
                  obtain ⟨w5, hw5⟩ : ∃ w5, w5 = w4.setCell ⟨q, 4353 + pp, none⟩ (.slice A4 (n + 1) c4) := ⟨_, rfl⟩
                  have HD5 := hid (HADD.out A4 c4 w4 w5 HO4.out HG4.out HV4.out hw5)
                  rw [← hw5]
                  clear hw5 c3 c4z c4f
                  try clear c3x
                  try clear ca
                  clear c1 f1 f3
                  go_wp2_with fail
                  exact ⟨⟨k + 1, pp + 1, hid (by have := HPP.out; omega), by omega, by go_num, hid HD5.out.1, HMN, hid HD5.out.2.1, hid HD5.out.2.2⟩, by simp [intOf]; have := HPP.out; omega⟩
              · obtain ⟨n1, hn1⟩ : ∃ n1, n = n1 + 1 := ⟨n - 1, by omega⟩
                have hb0 : ((n : Int) == 0) = false := by simpa using hn0
                have hw1 : IntKind.i64.wrap ((n : Int) - 1) = (n1 : Int) := by simp [IntKind.wrap, IntKind.bits, IntKind.signed]; omega
                have hn1l : n1 < n := by omega
                obtain ⟨ab, ao, ac, ea, -, hab, ca⟩ := (own_nums HOL.out).at (j := n1) (by rw [← HN.out]; exact hn1l)
                obtain ⟨rfl, -⟩ : PA = some ⟨ab, ao, none⟩ ∧ pc = ac := by injection ea with e1 e2 e3; exact ⟨e1, e3⟩
                have HLAST := hid (show (bk.parts pp).getLast? = some (nth (bk.parts pp) n1) by
                  rw [List.getLast?_eq_getElem?, ← HN.out, hn1, Nat.add_sub_cancel]
                  exact some_nth (by rw [← HN.out]; exact hn1l))
                obtain ⟨z, hz⟩ : ∃ z, z = nth (bk.parts pp) n1 := ⟨_, rfl⟩
                rw [← hz] at ca HLAST
                have HNE := hid (show bk.parts pp ≠ [] from fun e => by have := HN.out; rw [e] at this; simp at this; omega)
                clear hn0 hn1 ea hz
                by_cases hzi : z = (i : Int)
                · have HTO := hid (show touch i (x1, x2) pp bk = bk by
                    unfold touch
                    rw [if_neg HCOV.out, if_neg]
                    rintro (h | h)
                    · exact HNE.out h
                    · rw [HLAST.out, hzi] at h; exact h rfl)
                  have hbz : (z != (i : Int)) = false := by simp [hzi]
                  have HD5 := hid (show Bd wr B q (.slice (some ⟨eb, eo, none⟩) es.length c) (span i (x1, x2) bm (k + 1)) by rw [HSP.out, HTO.out]; exact HDk.out)
                  clear hzi
                  go_wp2_with fail
                  exact ⟨⟨k + 1, pp + 1, hid (by have := HPP.out; omega), by omega, by go_num, HD5, HMN, HXk, HBk⟩, by simp [intOf]; omega⟩
                · have HTO := hid (show touch i (x1, x2) pp bk = ⟨bk.whole, upd bk.parts pp (bk.parts pp ++ [(i : Int)])⟩ by
                    unfold touch
                    rw [if_neg HCOV.out, if_pos (.inr fun e => by rw [HLAST.out] at e; injection e with e; exact hzi e)])
                  have hbz : (z != (i : Int)) = true := by simp [hzi]
                  clear hzi
                  have HADD := hid (show ∀ A4 c4 w4 w5, OwnI w4 B (.slice A4 (n + 1) c4) (bk.parts pp ++ [(i : Int)]) → (wr.drew.alloc (.cells #[.int .i64 (i : Int)] 3)).grownBy w4 (Value.slice (some ⟨ab, ao, none⟩) n pc).ownBlock → ((Value.slice A4 (n + 1) c4).ownBlock = (Value.slice (some ⟨ab, ao, none⟩) n pc).ownBlock ∨ (Value.slice A4 (n + 1) c4).ownBlock = some (wr.drew.alloc (.cells #[.int .i64 (i : Int)] 3)).heap.size) → w5 = w4.setCell ⟨q, 4353 + pp, none⟩ (.slice A4 (n + 1) c4) → Bd w5 B q (.slice (some ⟨eb, eo, none⟩) es.length c) (span i (x1, x2) bm (k + 1)) ∧ w5.heap[xb]? = some (.cells #[.int .i32 x1, .int .i32 x2] 56 (0, 0)) ∧ Below B w w5 from fun A4 c4 w4 w5 h1 h2 h3 e => by
                    subst e
                    have hb0 : Below wr.heap.size wr (wr.drew.alloc (.cells #[.int .i64 (i : Int)] 3)) := (Below.refl wr.heap.size wr).drew.alloc (Nat.le_refl _) _
                    have hq := HQB.out w4 h2
                    have hne : xb ≠ q := fun e => by rw [← e] at hq; have hx := (h2.block xb (Nat.lt_of_lt_of_le (Array.getElem?_eq_some_iff.1 HXk.out).1 hb0.size) (fun e' => own_blk_ne HOL.out HXk.out (by decide) e'.symm)).trans ((hb0.block xb (Array.getElem?_eq_some_iff.1 HXk.out).1).trans HXk.out); rw [hx] at hq; injection hq with hq; injection hq with _ h9; cases h9
                    refine ⟨by rw [HSP.out, HTO.out]; exact Bd.addPart (HDk.out.below (Below.refl _ _).drew) hpm HC3.out rfl h1 h2 h3, ?_, ?_⟩
                    · rw [heap_setCell_other _ _ _ _ hne]
                      exact (h2.block xb (Nat.lt_of_lt_of_le (Array.getElem?_eq_some_iff.1 HXk.out).1 hb0.size) (fun e' => own_blk_ne HOL.out HXk.out (by decide) e'.symm)).trans ((hb0.block xb (Array.getElem?_eq_some_iff.1 HXk.out).1).trans HXk.out)
                    · exact ((HBk.out.trans (hb0.mono HZ.out)).grown h2 (Nat.le_trans HZ.out hb0.size) fun j e => (HOL.out.lt j e).1).setCell (p := ⟨q, 4353 + pp, none⟩) HDk.out.base _)
                  go_wp2_with fail
                  refine wp_region_held_drew (S := (fun _ => True)) (by kernel_rfl) (by trivial) (fun hHeld => ?_)
                  refine wpAnyH_take (i := 0) (oi := { dst := some 84, op := Op.move (Operand.tmp 0), type := _, pos := _, after := _, guard := none }) (v := ?_) rfl (by kernel_rfl) (by kernel_rfl) (by kernel_rfl) (fun _ _ _ h => h) (Or.inl ⟨by rfl, ?_⟩) (by assumption) ?_
                  rotate_left
                  · intro w hSw; (try dsimp only at hSw); go_simp; try (first | with_reducible rfl | (refine (if_pos ?_).trans ?_ <;> first | omega | with_reducible rfl))
                  try simp only [Act.put, List.setIfInBounds_toArray, List.set_cons_zero, List.set_cons_succ]
                  refine wpAnyH_take (i := 1) (oi := { dst := some 85, op := Op.move (Operand.tmp 6), type := _, pos := _, after := _, guard := none }) (v := ?_) rfl (by kernel_rfl) (by kernel_rfl) (by kernel_rfl) (fun _ _ _ h => h) (Or.inl ⟨by rfl, ?_⟩) (by assumption) ?_
                  rotate_left
                  · intro w hSw; (try dsimp only at hSw); go_simp; try (first | with_reducible rfl | (refine (if_pos ?_).trans ?_ <;> first | omega | with_reducible rfl))
                  try simp only [Act.put, List.setIfInBounds_toArray, List.set_cons_zero, List.set_cons_succ]
                  refine wpAnyH_take (i := 2) (oi := { dst := some 86, op := Op.move (Operand.tmp 0), type := _, pos := _, after := _, guard := none }) (v := ?_) rfl (by kernel_rfl) (by kernel_rfl) (by kernel_rfl) (fun _ _ _ h => h) (Or.inl ⟨by rfl, ?_⟩) (by assumption) ?_
                  rotate_left
                  · intro w hSw; (try dsimp only at hSw); go_simp; try (first | with_reducible rfl | (refine (if_pos ?_).trans ?_ <;> first | omega | with_reducible rfl))
                  try simp only [Act.put, List.setIfInBounds_toArray, List.set_cons_zero, List.set_cons_succ]
                  refine wpAnyH_take (i := 3) (oi := { dst := some 87, op := Op.move (Operand.tmp 6), type := _, pos := _, after := _, guard := none }) (v := ?_) rfl (by kernel_rfl) (by kernel_rfl) (by kernel_rfl) (fun _ _ _ h => h) (Or.inl ⟨by rfl, ?_⟩) (by assumption) ?_
                  rotate_left
                  · intro w hSw; (try dsimp only at hSw); go_simp; try (first | with_reducible rfl | (refine (if_pos ?_).trans ?_ <;> first | omega | with_reducible rfl))
                  try simp only [Act.put, List.setIfInBounds_toArray, List.set_cons_zero, List.set_cons_succ]
                  refine wpAnyH_take (i := 4) (oi := { dst := some 88, op := Op.nilCheck (Operand.tmp 86), type := _, pos := _, after := _, guard := none }) (v := ?_) rfl (by kernel_rfl) (by kernel_rfl) (by kernel_rfl) (fun _ _ _ h => h) (Or.inl ⟨by rfl, ?_⟩) (by assumption) ?_
                  rotate_left
                  · intro w hSw; (try dsimp only at hSw); go_simp; try (first | with_reducible rfl | (refine (if_pos ?_).trans ?_ <;> first | omega | with_reducible rfl))
                  try simp only [Act.put, List.setIfInBounds_toArray, List.set_cons_zero, List.set_cons_succ]
                  refine wpAnyH_take (i := 5) (oi := { dst := some 89, op := Op.fieldAddr 67 (Operand.tmp 88) 2, type := _, pos := _, after := _, guard := none }) (v := ?_) rfl (by kernel_rfl) (by kernel_rfl) (by kernel_rfl) (fun _ _ _ h => h) (Or.inl ⟨by rfl, ?_⟩) (by assumption) ?_
                  rotate_left
                  · intro w hSw; (try dsimp only at hSw); go_simp; try (first | with_reducible rfl | (refine (if_pos ?_).trans ?_ <;> first | omega | with_reducible rfl))
                  try simp only [Act.put, List.setIfInBounds_toArray, List.set_cons_zero, List.set_cons_succ]
                  refine wpAnyH_take (i := 6) (oi := { dst := some 90, op := Op.indexAddr 65 (Operand.tmp 89) (Operand.tmp 87), type := _, pos := _, after := _, guard := none }) (v := ?_) rfl (by kernel_rfl) (by kernel_rfl) (by kernel_rfl) (fun _ _ _ h => h) (Or.inl ⟨by rfl, ?_⟩) (by assumption) ?_
                  rotate_left
                  · intro w hSw; (try dsimp only at hSw); go_simp; try (first | with_reducible rfl | (refine (if_pos ?_).trans ?_ <;> first | omega | with_reducible rfl))
                  try simp only [Act.put, List.setIfInBounds_toArray, List.set_cons_zero, List.set_cons_succ]
                  refine wpAnyH_take (i := 8) (oi := { dst := some 92, op := Op.move (Operand.tmp 1), type := _, pos := _, after := _, guard := none }) (v := ?_) rfl (by kernel_rfl) (by kernel_rfl) (by kernel_rfl) (fun _ _ _ h => h) (Or.inl ⟨by rfl, ?_⟩) (by assumption) ?_
                  rotate_left
                  · intro w hSw; (try dsimp only at hSw); go_simp; try (first | with_reducible rfl | (refine (if_pos ?_).trans ?_ <;> first | omega | with_reducible rfl))
                  try simp only [Act.put, List.setIfInBounds_toArray, List.set_cons_zero, List.set_cons_succ]
                  refine wpAnyH_take (i := 11) (oi := { dst := some 95, op := Op.nilCheck (Operand.tmp 84), type := _, pos := _, after := _, guard := none }) (v := ?_) rfl (by kernel_rfl) (by kernel_rfl) (by kernel_rfl) (fun _ _ _ h => h) (Or.inl ⟨by rfl, ?_⟩) (by assumption) ?_
                  rotate_left
                  · intro w hSw; (try dsimp only at hSw); go_simp; try (first | with_reducible rfl | (refine (if_pos ?_).trans ?_ <;> first | omega | with_reducible rfl))
                  try simp only [Act.put, List.setIfInBounds_toArray, List.set_cons_zero, List.set_cons_succ]
                  refine wpAnyH_take (i := 12) (oi := { dst := some 96, op := Op.fieldAddr 67 (Operand.tmp 95) 2, type := _, pos := _, after := _, guard := none }) (v := ?_) rfl (by kernel_rfl) (by kernel_rfl) (by kernel_rfl) (fun _ _ _ h => h) (Or.inl ⟨by rfl, ?_⟩) (by assumption) ?_
                  rotate_left
                  · intro w hSw; (try dsimp only at hSw); go_simp; try (first | with_reducible rfl | (refine (if_pos ?_).trans ?_ <;> first | omega | with_reducible rfl))
                  try simp only [Act.put, List.setIfInBounds_toArray, List.set_cons_zero, List.set_cons_succ]
                  refine wpAnyH_ready (rs := [7, 9]) (by kernel_rfl) (by simp) ?_
                  refine AllReadyH.cons (o := { dst := some 91, op := Op.load 49 (Operand.tmp 90), type := _, pos := _, after := _, guard := none }) rfl ?legA3n1 (AllReadyH.cons (o := { dst := some 93, op := Op.buildSlice 49 1 #[(0, Operand.tmp 92)], type := _, pos := _, after := _, guard := none }) rfl ?legB3n1 AllReadyH.nil)
                  case' legA3n1 =>
                    intro K hK
                    go_simp
                    refine hK.out _ _ (by trivial) (fun hHeld => ?_)
                    clear hK K
                    try simp only [Act.put, List.setIfInBounds_toArray, List.set_cons_zero, List.set_cons_succ]
                    refine wpAnyH_ready (rs := [9]) (by kernel_rfl) (by simp) ?_
                    refine AllReadyH.cons (o := { dst := some 93, op := Op.buildSlice 49 1 #[(0, Operand.tmp 92)], type := _, pos := _, after := _, guard := none }) rfl (fun K hK => ?_) AllReadyH.nil
                    go_simp
                    have c3x := (HPX.out (.cells #[.int .i64 (i : Int)] 3)).trans c3
                    refine hK.out _ _ (by trivial) (fun hHeld => ?_)
                    clear hK K
                    try simp only [Act.put, List.setIfInBounds_toArray, List.set_cons_zero, List.set_cons_succ]
                    refine wpAnyH_ready (rs := [10]) (by kernel_rfl) (by simp) ?_
                    refine AllReadyH.cons (o := { dst := some 94, op := Op.call { callee := Callee.builtin Builtin.append, args := #[Operand.tmp 91, Operand.tmp 93], argTypes := #[49, 49] }, type := _, pos := _, after := _, guard := none }) rfl (fun K hK => ?_) AllReadyH.nil
                    rw [if_pos (by rfl)]
                    refine wp_app_one (.tmp 91) (.tmp 93) rfl (w0 := wr.drew) (B := B) (z := (i : Int)) rfl rfl (show OwnI wr.drew B _ (bk.parts pp) from HOL.out) rfl HLN.out HZ.out ?_
                    rw [← HN.out]
                    intro A4 c4 w4 ho4 hg4 hv4
                    have HO4 := hid ho4
                    have HG4 := hid hg4
                    have HV4 := hid hv4
                    have HQ4 := hid (HQB.out w4 hg4)
                    have c4z := (cell_of_row w4 q (4353 + pp) _ _ _ HQ4.out).trans HQC.out
                    have c4f := frozen_of_row w4 q (4353 + pp) _ _ HQ4.out
                    clear ho4 hg4 hv4
                    refine hK.out _ _ (by trivial) (fun hHeld => ?_)
                    clear hK K
                    try simp only [Act.put, List.setIfInBounds_toArray, List.set_cons_zero, List.set_cons_succ]
                    refine wpAnyH_take (i := 13) (oi := { dst := some 97, op := Op.indexAddr 65 (Operand.tmp 96) (Operand.tmp 85), type := _, pos := _, after := _, guard := none }) (v := ?_) rfl (by kernel_rfl) (by kernel_rfl) (by kernel_rfl) (fun _ _ _ h => h) (Or.inl ⟨by rfl, ?_⟩) (by assumption) ?_
                    rotate_left
                    · intro w hSw; (try dsimp only at hSw); go_simp; try (first | with_reducible rfl | (refine (if_pos ?_).trans ?_ <;> first | omega | with_reducible rfl))
                    try simp only [Act.put, List.setIfInBounds_toArray, List.set_cons_zero, List.set_cons_succ]
                    refine wpAnyH_ready (rs := [14]) (by kernel_rfl) (by simp) ?_
                    refine AllReadyH.cons (o := { dst := none, op := Op.store 49 (Operand.tmp 97) (Operand.tmp 94), type := _, pos := _, after := _, guard := none }) rfl (fun K hK => ?_) AllReadyH.nil
                    go_simp
                    refine hK.out _ _ (by trivial) (fun hHeld => ?_)
                    clear hK K
                    try simp only [Act.put, List.setIfInBounds_toArray, List.set_cons_zero, List.set_cons_succ]
                    refine wpAnyH_done (by kernel_rfl) ?_ _
                    obtain ⟨w5, hw5⟩ : ∃ w5, w5 = w4.setCell ⟨q, 4353 + pp, none⟩ (.slice A4 (n + 1) c4) := ⟨_, rfl⟩
                    have HD5 := hid (HADD.out A4 c4 w4 w5 HO4.out HG4.out HV4.out hw5)
                    rw [← hw5]
                    clear hw5 c3 c4z c4f
                    try clear c3x
                    try clear ca
                    clear c1 f1 f3
                    go_wp2_with fail
                    exact ⟨⟨k + 1, pp + 1, hid (by have := HPP.out; omega), by omega, by go_num, hid HD5.out.1, HMN, hid HD5.out.2.1, hid HD5.out.2.2⟩, by simp [intOf]; have := HPP.out; omega⟩
                  case' legB3n1 =>
                    intro K hK
                    go_simp
                    have c3x := (HPX.out (.cells #[.int .i64 (i : Int)] 3)).trans c3
                    refine hK.out _ _ (by trivial) (fun hHeld => ?_)
                    clear hK K
                    try simp only [Act.put, List.setIfInBounds_toArray, List.set_cons_zero, List.set_cons_succ]
                    refine wpAnyH_ready (rs := [7]) (by kernel_rfl) (by simp) ?_
                    refine AllReadyH.cons (o := { dst := some 91, op := Op.load 49 (Operand.tmp 90), type := _, pos := _, after := _, guard := none }) rfl (fun K hK => ?_) AllReadyH.nil
                    go_simp
                    refine hK.out _ _ (by trivial) (fun hHeld => ?_)
                    clear hK K
                    try simp only [Act.put, List.setIfInBounds_toArray, List.set_cons_zero, List.set_cons_succ]
                    refine wpAnyH_ready (rs := [10]) (by kernel_rfl) (by simp) ?_
                    refine AllReadyH.cons (o := { dst := some 94, op := Op.call { callee := Callee.builtin Builtin.append, args := #[Operand.tmp 91, Operand.tmp 93], argTypes := #[49, 49] }, type := _, pos := _, after := _, guard := none }) rfl (fun K hK => ?_) AllReadyH.nil
                    rw [if_pos (by rfl)]
                    refine wp_app_one (.tmp 91) (.tmp 93) rfl (w0 := wr.drew) (B := B) (z := (i : Int)) rfl rfl (show OwnI wr.drew B _ (bk.parts pp) from HOL.out) rfl HLN.out HZ.out ?_
                    rw [← HN.out]
                    intro A4 c4 w4 ho4 hg4 hv4
                    have HO4 := hid ho4
                    have HG4 := hid hg4
                    have HV4 := hid hv4
                    have HQ4 := hid (HQB.out w4 hg4)
                    have c4z := (cell_of_row w4 q (4353 + pp) _ _ _ HQ4.out).trans HQC.out
                    have c4f := frozen_of_row w4 q (4353 + pp) _ _ HQ4.out
                    clear ho4 hg4 hv4
                    refine hK.out _ _ (by trivial) (fun hHeld => ?_)
                    clear hK K
                    try simp only [Act.put, List.setIfInBounds_toArray, List.set_cons_zero, List.set_cons_succ]
                    refine wpAnyH_take (i := 13) (oi := { dst := some 97, op := Op.indexAddr 65 (Operand.tmp 96) (Operand.tmp 85), type := _, pos := _, after := _, guard := none }) (v := ?_) rfl (by kernel_rfl) (by kernel_rfl) (by kernel_rfl) (fun _ _ _ h => h) (Or.inl ⟨by rfl, ?_⟩) (by assumption) ?_
                    rotate_left
                    · intro w hSw; (try dsimp only at hSw); go_simp; try (first | with_reducible rfl | (refine (if_pos ?_).trans ?_ <;> first | omega | with_reducible rfl))
                    try simp only [Act.put, List.setIfInBounds_toArray, List.set_cons_zero, List.set_cons_succ]
                    refine wpAnyH_ready (rs := [14]) (by kernel_rfl) (by simp) ?_
                    refine AllReadyH.cons (o := { dst := none, op := Op.store 49 (Operand.tmp 97) (Operand.tmp 94), type := _, pos := _, after := _, guard := none }) rfl (fun K hK => ?_) AllReadyH.nil
                    go_simp
                    refine hK.out _ _ (by trivial) (fun hHeld => ?_)
                    clear hK K
                    try simp only [Act.put, List.setIfInBounds_toArray, List.set_cons_zero, List.set_cons_succ]
                    refine wpAnyH_done (by kernel_rfl) ?_ _
                    obtain ⟨w5, hw5⟩ : ∃ w5, w5 = w4.setCell ⟨q, 4353 + pp, none⟩ (.slice A4 (n + 1) c4) := ⟨_, rfl⟩
                    have HD5 := hid (HADD.out A4 c4 w4 w5 HO4.out HG4.out HV4.out hw5)
                    rw [← hw5]
                    clear hw5 c3 c4z c4f
                    try clear c3x
                    try clear ca
                    clear c1 f1 f3
                    go_wp2_with fail
                    exact ⟨⟨k + 1, pp + 1, hid (by have := HPP.out; omega), by omega, by go_num, hid HD5.out.1, HMN, hid HD5.out.2.1, hid HD5.out.2.2⟩, by simp [intOf]; have := HPP.out; omega⟩
            · clear hcov
              obtain ⟨n, hn⟩ : ∃ n, n = (bk.parts pp).length := ⟨_, rfl⟩
              have HN := hid hn
              have hnl : n ≤ 1000000 := by rw [hn]; exact HLN.out
              have HOL := hid (show OwnI wr B (.slice PA n pc) (bk.parts pp) by rw [hn]; exact HO.out)
              rw [← hn] at c3
              have HC3 := hid (show wr.drew.cell? ⟨q, 4353 + pp, none⟩ = some (.slice PA n pc) from c3)
              have HZ := hid (show B ≤ wr.heap.size from Nat.le_trans HDk.out.base (Nat.le_of_lt HDk.out.lt))
              obtain ⟨cs, hcs⟩ : ∃ cs, wr.heap[q]? = some (.cells cs 67 (0, 0)) := by obtain ⟨cs, hcs, -⟩ := HDk.out.blk; exact ⟨cs, hcs⟩
              have HQC := hid (show cs[4353 + pp]? = some (.slice PA n pc) by rw [← cell_of_row wr q _ cs 67 (0, 0) hcs]; exact c3)
              have HQB := hid (show ∀ w4, (wr.drew.alloc (.cells #[.int .i64 (i : Int)] 3)).grownBy w4 (Value.slice PA n pc).ownBlock → w4.heap[q]? = some (.cells cs 67 (0, 0)) from fun w4 hg => by
                have hb0 : Below wr.heap.size wr (wr.drew.alloc (.cells #[.int .i64 (i : Int)] 3)) := (Below.refl wr.heap.size wr).drew.alloc (Nat.le_refl _) _
                exact (hg.block q (Nat.lt_of_lt_of_le HDk.out.lt hb0.size) (fun e => own_blk_ne HOL.out hcs (by decide) e.symm)).trans ((hb0.block q HDk.out.lt).trans hcs))
              have HPX := hid (fun (o : Obj) => ((Below.refl wr.heap.size wr).alloc (Nat.le_refl _) o).cell (p := ⟨q, 4353 + pp, none⟩) (show q < wr.heap.size from HDk.out.lt))
              clear hn hcs
              by_cases hn0 : n = 0
              · have HTO := hid (show touch i (x1, x2) pp bk = ⟨bk.whole, upd bk.parts pp (bk.parts pp ++ [(i : Int)])⟩ by
                  unfold touch
                  rw [if_neg HCOV.out, if_pos (.inl (List.eq_nil_of_length_eq_zero (by rw [← HN.out]; exact hn0)))])
                have hb0 : ((n : Int) == 0) = true := by simpa using hn0
                clear hn0
                have HADD := hid (show ∀ A4 c4 w4 w5, OwnI w4 B (.slice A4 (n + 1) c4) (bk.parts pp ++ [(i : Int)]) → (wr.drew.alloc (.cells #[.int .i64 (i : Int)] 3)).grownBy w4 (Value.slice PA n pc).ownBlock → ((Value.slice A4 (n + 1) c4).ownBlock = (Value.slice PA n pc).ownBlock ∨ (Value.slice A4 (n + 1) c4).ownBlock = some (wr.drew.alloc (.cells #[.int .i64 (i : Int)] 3)).heap.size) → w5 = w4.setCell ⟨q, 4353 + pp, none⟩ (.slice A4 (n + 1) c4) → Bd w5 B q (.slice (some ⟨eb, eo, none⟩) es.length c) (span i (x1, x2) bm (k + 1)) ∧ w5.heap[xb]? = some (.cells #[.int .i32 x1, .int .i32 x2] 56 (0, 0)) ∧ Below B w w5 from fun A4 c4 w4 w5 h1 h2 h3 e => by
                  subst e
                  have hb0 : Below wr.heap.size wr (wr.drew.alloc (.cells #[.int .i64 (i : Int)] 3)) := (Below.refl wr.heap.size wr).drew.alloc (Nat.le_refl _) _
                  have hq := HQB.out w4 h2
                  have hne : xb ≠ q := fun e => by rw [← e] at hq; have hx := (h2.block xb (Nat.lt_of_lt_of_le (Array.getElem?_eq_some_iff.1 HXk.out).1 hb0.size) (fun e' => own_blk_ne HOL.out HXk.out (by decide) e'.symm)).trans ((hb0.block xb (Array.getElem?_eq_some_iff.1 HXk.out).1).trans HXk.out); rw [hx] at hq; injection hq with hq; injection hq with _ h9; cases h9
                  refine ⟨by rw [HSP.out, HTO.out]; exact Bd.addPart (HDk.out.below (Below.refl _ _).drew) hpm HC3.out rfl h1 h2 h3, ?_, ?_⟩
                  · rw [heap_setCell_other _ _ _ _ hne]
                    exact (h2.block xb (Nat.lt_of_lt_of_le (Array.getElem?_eq_some_iff.1 HXk.out).1 hb0.size) (fun e' => own_blk_ne HOL.out HXk.out (by decide) e'.symm)).trans ((hb0.block xb (Array.getElem?_eq_some_iff.1 HXk.out).1).trans HXk.out)
                  · exact ((HBk.out.trans (hb0.mono HZ.out)).grown h2 (Nat.le_trans HZ.out hb0.size) fun j e => (HOL.out.lt j e).1).setCell (p := ⟨q, 4353 + pp, none⟩) HDk.out.base _)
                go_wp2_with fail
                refine wp_region_held_drew (S := (fun _ => True)) (by kernel_rfl) (by trivial) (fun hHeld => ?_)
                refine wpAnyH_take (i := 0) (oi := { dst := some 84, op := Op.move (Operand.tmp 0), type := _, pos := _, after := _, guard := none }) (v := ?_) rfl (by kernel_rfl) (by kernel_rfl) (by kernel_rfl) (fun _ _ _ h => h) (Or.inl ⟨by rfl, ?_⟩) (by assumption) ?_
                rotate_left
                · intro w hSw; (try dsimp only at hSw); go_simp; try (first | with_reducible rfl | (refine (if_pos ?_).trans ?_ <;> first | omega | with_reducible rfl))
                try simp only [Act.put, List.setIfInBounds_toArray, List.set_cons_zero, List.set_cons_succ]
                refine wpAnyH_take (i := 1) (oi := { dst := some 85, op := Op.move (Operand.tmp 6), type := _, pos := _, after := _, guard := none }) (v := ?_) rfl (by kernel_rfl) (by kernel_rfl) (by kernel_rfl) (fun _ _ _ h => h) (Or.inl ⟨by rfl, ?_⟩) (by assumption) ?_
                rotate_left
                · intro w hSw; (try dsimp only at hSw); go_simp; try (first | with_reducible rfl | (refine (if_pos ?_).trans ?_ <;> first | omega | with_reducible rfl))
                try simp only [Act.put, List.setIfInBounds_toArray, List.set_cons_zero, List.set_cons_succ]
                refine wpAnyH_take (i := 2) (oi := { dst := some 86, op := Op.move (Operand.tmp 0), type := _, pos := _, after := _, guard := none }) (v := ?_) rfl (by kernel_rfl) (by kernel_rfl) (by kernel_rfl) (fun _ _ _ h => h) (Or.inl ⟨by rfl, ?_⟩) (by assumption) ?_
                rotate_left
                · intro w hSw; (try dsimp only at hSw); go_simp; try (first | with_reducible rfl | (refine (if_pos ?_).trans ?_ <;> first | omega | with_reducible rfl))
                try simp only [Act.put, List.setIfInBounds_toArray, List.set_cons_zero, List.set_cons_succ]
                refine wpAnyH_take (i := 3) (oi := { dst := some 87, op := Op.move (Operand.tmp 6), type := _, pos := _, after := _, guard := none }) (v := ?_) rfl (by kernel_rfl) (by kernel_rfl) (by kernel_rfl) (fun _ _ _ h => h) (Or.inl ⟨by rfl, ?_⟩) (by assumption) ?_
                rotate_left
                · intro w hSw; (try dsimp only at hSw); go_simp; try (first | with_reducible rfl | (refine (if_pos ?_).trans ?_ <;> first | omega | with_reducible rfl))
                try simp only [Act.put, List.setIfInBounds_toArray, List.set_cons_zero, List.set_cons_succ]
                refine wpAnyH_take (i := 4) (oi := { dst := some 88, op := Op.nilCheck (Operand.tmp 86), type := _, pos := _, after := _, guard := none }) (v := ?_) rfl (by kernel_rfl) (by kernel_rfl) (by kernel_rfl) (fun _ _ _ h => h) (Or.inl ⟨by rfl, ?_⟩) (by assumption) ?_
                rotate_left
                · intro w hSw; (try dsimp only at hSw); go_simp; try (first | with_reducible rfl | (refine (if_pos ?_).trans ?_ <;> first | omega | with_reducible rfl))
                try simp only [Act.put, List.setIfInBounds_toArray, List.set_cons_zero, List.set_cons_succ]
                refine wpAnyH_take (i := 5) (oi := { dst := some 89, op := Op.fieldAddr 67 (Operand.tmp 88) 2, type := _, pos := _, after := _, guard := none }) (v := ?_) rfl (by kernel_rfl) (by kernel_rfl) (by kernel_rfl) (fun _ _ _ h => h) (Or.inl ⟨by rfl, ?_⟩) (by assumption) ?_
                rotate_left
                · intro w hSw; (try dsimp only at hSw); go_simp; try (first | with_reducible rfl | (refine (if_pos ?_).trans ?_ <;> first | omega | with_reducible rfl))
                try simp only [Act.put, List.setIfInBounds_toArray, List.set_cons_zero, List.set_cons_succ]
                refine wpAnyH_take (i := 6) (oi := { dst := some 90, op := Op.indexAddr 65 (Operand.tmp 89) (Operand.tmp 87), type := _, pos := _, after := _, guard := none }) (v := ?_) rfl (by kernel_rfl) (by kernel_rfl) (by kernel_rfl) (fun _ _ _ h => h) (Or.inl ⟨by rfl, ?_⟩) (by assumption) ?_
                rotate_left
                · intro w hSw; (try dsimp only at hSw); go_simp; try (first | with_reducible rfl | (refine (if_pos ?_).trans ?_ <;> first | omega | with_reducible rfl))
                try simp only [Act.put, List.setIfInBounds_toArray, List.set_cons_zero, List.set_cons_succ]
                refine wpAnyH_take (i := 8) (oi := { dst := some 92, op := Op.move (Operand.tmp 1), type := _, pos := _, after := _, guard := none }) (v := ?_) rfl (by kernel_rfl) (by kernel_rfl) (by kernel_rfl) (fun _ _ _ h => h) (Or.inl ⟨by rfl, ?_⟩) (by assumption) ?_
                rotate_left
                · intro w hSw; (try dsimp only at hSw); go_simp; try (first | with_reducible rfl | (refine (if_pos ?_).trans ?_ <;> first | omega | with_reducible rfl))
                try simp only [Act.put, List.setIfInBounds_toArray, List.set_cons_zero, List.set_cons_succ]
                refine wpAnyH_take (i := 11) (oi := { dst := some 95, op := Op.nilCheck (Operand.tmp 84), type := _, pos := _, after := _, guard := none }) (v := ?_) rfl (by kernel_rfl) (by kernel_rfl) (by kernel_rfl) (fun _ _ _ h => h) (Or.inl ⟨by rfl, ?_⟩) (by assumption) ?_
                rotate_left
                · intro w hSw; (try dsimp only at hSw); go_simp; try (first | with_reducible rfl | (refine (if_pos ?_).trans ?_ <;> first | omega | with_reducible rfl))
                try simp only [Act.put, List.setIfInBounds_toArray, List.set_cons_zero, List.set_cons_succ]
                refine wpAnyH_take (i := 12) (oi := { dst := some 96, op := Op.fieldAddr 67 (Operand.tmp 95) 2, type := _, pos := _, after := _, guard := none }) (v := ?_) rfl (by kernel_rfl) (by kernel_rfl) (by kernel_rfl) (fun _ _ _ h => h) (Or.inl ⟨by rfl, ?_⟩) (by assumption) ?_
                rotate_left
                · intro w hSw; (try dsimp only at hSw); go_simp; try (first | with_reducible rfl | (refine (if_pos ?_).trans ?_ <;> first | omega | with_reducible rfl))
                try simp only [Act.put, List.setIfInBounds_toArray, List.set_cons_zero, List.set_cons_succ]
                refine wpAnyH_ready (rs := [7, 9]) (by kernel_rfl) (by simp) ?_
                refine AllReadyH.cons (o := { dst := some 91, op := Op.load 49 (Operand.tmp 90), type := _, pos := _, after := _, guard := none }) rfl ?legA4n1 (AllReadyH.cons (o := { dst := some 93, op := Op.buildSlice 49 1 #[(0, Operand.tmp 92)], type := _, pos := _, after := _, guard := none }) rfl ?legB4n1 AllReadyH.nil)
                case' legA4n1 =>
                  intro K hK
                  go_simp
                  refine hK.out _ _ (by trivial) (fun hHeld => ?_)
                  clear hK K
                  try simp only [Act.put, List.setIfInBounds_toArray, List.set_cons_zero, List.set_cons_succ]
                  refine wpAnyH_ready (rs := [9]) (by kernel_rfl) (by simp) ?_
                  refine AllReadyH.cons (o := { dst := some 93, op := Op.buildSlice 49 1 #[(0, Operand.tmp 92)], type := _, pos := _, after := _, guard := none }) rfl (fun K hK => ?_) AllReadyH.nil
                  go_simp
                  have c3x := (HPX.out (.cells #[.int .i64 (i : Int)] 3)).trans c3
                  refine hK.out _ _ (by trivial) (fun hHeld => ?_)
                  clear hK K
                  try simp only [Act.put, List.setIfInBounds_toArray, List.set_cons_zero, List.set_cons_succ]
                  refine wpAnyH_ready (rs := [10]) (by kernel_rfl) (by simp) ?_
                  refine AllReadyH.cons (o := { dst := some 94, op := Op.call { callee := Callee.builtin Builtin.append, args := #[Operand.tmp 91, Operand.tmp 93], argTypes := #[49, 49] }, type := _, pos := _, after := _, guard := none }) rfl (fun K hK => ?_) AllReadyH.nil
                  rw [if_pos (by rfl)]
                  refine wp_app_one (.tmp 91) (.tmp 93) rfl (w0 := wr.drew) (B := B) (z := (i : Int)) rfl rfl (show OwnI wr.drew B _ (bk.parts pp) from HOL.out) rfl HLN.out HZ.out ?_
                  rw [← HN.out]
                  intro A4 c4 w4 ho4 hg4 hv4
                  have HO4 := hid ho4
                  have HG4 := hid hg4
                  have HV4 := hid hv4
                  have HQ4 := hid (HQB.out w4 hg4)
                  have c4z := (cell_of_row w4 q (4353 + pp) _ _ _ HQ4.out).trans HQC.out
                  have c4f := frozen_of_row w4 q (4353 + pp) _ _ HQ4.out
                  clear ho4 hg4 hv4
                  refine hK.out _ _ (by trivial) (fun hHeld => ?_)
                  clear hK K
                  try simp only [Act.put, List.setIfInBounds_toArray, List.set_cons_zero, List.set_cons_succ]
                  refine wpAnyH_take (i := 13) (oi := { dst := some 97, op := Op.indexAddr 65 (Operand.tmp 96) (Operand.tmp 85), type := _, pos := _, after := _, guard := none }) (v := ?_) rfl (by kernel_rfl) (by kernel_rfl) (by kernel_rfl) (fun _ _ _ h => h) (Or.inl ⟨by rfl, ?_⟩) (by assumption) ?_
                  rotate_left
                  · intro w hSw; (try dsimp only at hSw); go_simp; try (first | with_reducible rfl | (refine (if_pos ?_).trans ?_ <;> first | omega | with_reducible rfl))
                  try simp only [Act.put, List.setIfInBounds_toArray, List.set_cons_zero, List.set_cons_succ]
                  refine wpAnyH_ready (rs := [14]) (by kernel_rfl) (by simp) ?_
                  refine AllReadyH.cons (o := { dst := none, op := Op.store 49 (Operand.tmp 97) (Operand.tmp 94), type := _, pos := _, after := _, guard := none }) rfl (fun K hK => ?_) AllReadyH.nil
                  go_simp
                  refine hK.out _ _ (by trivial) (fun hHeld => ?_)
                  clear hK K
                  try simp only [Act.put, List.setIfInBounds_toArray, List.set_cons_zero, List.set_cons_succ]
                  refine wpAnyH_done (by kernel_rfl) ?_ _
                  obtain ⟨w5, hw5⟩ : ∃ w5, w5 = w4.setCell ⟨q, 4353 + pp, none⟩ (.slice A4 (n + 1) c4) := ⟨_, rfl⟩
                  have HD5 := hid (HADD.out A4 c4 w4 w5 HO4.out HG4.out HV4.out hw5)
                  rw [← hw5]
                  clear hw5 c3 c4z c4f
                  try clear c3x
                  try clear ca
                  clear c1 f1 f3
                  go_wp2_with fail
                  exact ⟨⟨k + 1, pp + 1, hid (by have := HPP.out; omega), by omega, by go_num, hid HD5.out.1, HMN, hid HD5.out.2.1, hid HD5.out.2.2⟩, by simp [intOf]; have := HPP.out; omega⟩
                case' legB4n1 =>
                  intro K hK
                  go_simp
                  have c3x := (HPX.out (.cells #[.int .i64 (i : Int)] 3)).trans c3
                  refine hK.out _ _ (by trivial) (fun hHeld => ?_)
                  clear hK K
                  try simp only [Act.put, List.setIfInBounds_toArray, List.set_cons_zero, List.set_cons_succ]
                  refine wpAnyH_ready (rs := [7]) (by kernel_rfl) (by simp) ?_
                  refine AllReadyH.cons (o := { dst := some 91, op := Op.load 49 (Operand.tmp 90), type := _, pos := _, after := _, guard := none }) rfl (fun K hK => ?_) AllReadyH.nil
                  go_simp
                  refine hK.out _ _ (by trivial) (fun hHeld => ?_)
                  clear hK K
                  try simp only [Act.put, List.setIfInBounds_toArray, List.set_cons_zero, List.set_cons_succ]
                  refine wpAnyH_ready (rs := [10]) (by kernel_rfl) (by simp) ?_
                  refine AllReadyH.cons (o := { dst := some 94, op := Op.call { callee := Callee.builtin Builtin.append, args := #[Operand.tmp 91, Operand.tmp 93], argTypes := #[49, 49] }, type := _, pos := _, after := _, guard := none }) rfl (fun K hK => ?_) AllReadyH.nil
                  rw [if_pos (by rfl)]
                  refine wp_app_one (.tmp 91) (.tmp 93) rfl (w0 := wr.drew) (B := B) (z := (i : Int)) rfl rfl (show OwnI wr.drew B _ (bk.parts pp) from HOL.out) rfl HLN.out HZ.out ?_
                  rw [← HN.out]
                  intro A4 c4 w4 ho4 hg4 hv4
                  have HO4 := hid ho4
                  have HG4 := hid hg4
                  have HV4 := hid hv4
                  have HQ4 := hid (HQB.out w4 hg4)
                  have c4z := (cell_of_row w4 q (4353 + pp) _ _ _ HQ4.out).trans HQC.out
                  have c4f := frozen_of_row w4 q (4353 + pp) _ _ HQ4.out
                  clear ho4 hg4 hv4
                  refine hK.out _ _ (by trivial) (fun hHeld => ?_)
                  clear hK K
                  try simp only [Act.put, List.setIfInBounds_toArray, List.set_cons_zero, List.set_cons_succ]
                  refine wpAnyH_take (i := 13) (oi := { dst := some 97, op := Op.indexAddr 65 (Operand.tmp 96) (Operand.tmp 85), type := _, pos := _, after := _, guard := none }) (v := ?_) rfl (by kernel_rfl) (by kernel_rfl) (by kernel_rfl) (fun _ _ _ h => h) (Or.inl ⟨by rfl, ?_⟩) (by assumption) ?_
                  rotate_left
                  · intro w hSw; (try dsimp only at hSw); go_simp; try (first | with_reducible rfl | (refine (if_pos ?_).trans ?_ <;> first | omega | with_reducible rfl))
                  try simp only [Act.put, List.setIfInBounds_toArray, List.set_cons_zero, List.set_cons_succ]
                  refine wpAnyH_ready (rs := [14]) (by kernel_rfl) (by simp) ?_
                  refine AllReadyH.cons (o := { dst := none, op := Op.store 49 (Operand.tmp 97) (Operand.tmp 94), type := _, pos := _, after := _, guard := none }) rfl (fun K hK => ?_) AllReadyH.nil
                  go_simp
                  refine hK.out _ _ (by trivial) (fun hHeld => ?_)
                  clear hK K
                  try simp only [Act.put, List.setIfInBounds_toArray, List.set_cons_zero, List.set_cons_succ]
                  refine wpAnyH_done (by kernel_rfl) ?_ _
                  obtain ⟨w5, hw5⟩ : ∃ w5, w5 = w4.setCell ⟨q, 4353 + pp, none⟩ (.slice A4 (n + 1) c4) := ⟨_, rfl⟩
                  have HD5 := hid (HADD.out A4 c4 w4 w5 HO4.out HG4.out HV4.out hw5)
                  rw [← hw5]
                  clear hw5 c3 c4z c4f
                  try clear c3x
                  try clear ca
                  clear c1 f1 f3
                  go_wp2_with fail
                  exact ⟨⟨k + 1, pp + 1, hid (by have := HPP.out; omega), by omega, by go_num, hid HD5.out.1, HMN, hid HD5.out.2.1, hid HD5.out.2.2⟩, by simp [intOf]; have := HPP.out; omega⟩
              · obtain ⟨n1, hn1⟩ : ∃ n1, n = n1 + 1 := ⟨n - 1, by omega⟩
                have hb0 : ((n : Int) == 0) = false := by simpa using hn0
                have hw1 : IntKind.i64.wrap ((n : Int) - 1) = (n1 : Int) := by simp [IntKind.wrap, IntKind.bits, IntKind.signed]; omega
                have hn1l : n1 < n := by omega
                obtain ⟨ab, ao, ac, ea, -, hab, ca⟩ := (own_nums HOL.out).at (j := n1) (by rw [← HN.out]; exact hn1l)
                obtain ⟨rfl, -⟩ : PA = some ⟨ab, ao, none⟩ ∧ pc = ac := by injection ea with e1 e2 e3; exact ⟨e1, e3⟩
                have HLAST := hid (show (bk.parts pp).getLast? = some (nth (bk.parts pp) n1) by
                  rw [List.getLast?_eq_getElem?, ← HN.out, hn1, Nat.add_sub_cancel]
                  exact some_nth (by rw [← HN.out]; exact hn1l))
                obtain ⟨z, hz⟩ : ∃ z, z = nth (bk.parts pp) n1 := ⟨_, rfl⟩
                rw [← hz] at ca HLAST
                have HNE := hid (show bk.parts pp ≠ [] from fun e => by have := HN.out; rw [e] at this; simp at this; omega)
                clear hn0 hn1 ea hz
                by_cases hzi : z = (i : Int)
                · have HTO := hid (show touch i (x1, x2) pp bk = bk by
                    unfold touch
                    rw [if_neg HCOV.out, if_neg]
                    rintro (h | h)
                    · exact HNE.out h
                    · rw [HLAST.out, hzi] at h; exact h rfl)
                  have hbz : (z != (i : Int)) = false := by simp [hzi]
                  have HD5 := hid (show Bd wr B q (.slice (some ⟨eb, eo, none⟩) es.length c) (span i (x1, x2) bm (k + 1)) by rw [HSP.out, HTO.out]; exact HDk.out)
                  clear hzi
                  go_wp2_with fail
                  exact ⟨⟨k + 1, pp + 1, hid (by have := HPP.out; omega), by omega, by go_num, HD5, HMN, HXk, HBk⟩, by simp [intOf]; omega⟩
                · have HTO := hid (show touch i (x1, x2) pp bk = ⟨bk.whole, upd bk.parts pp (bk.parts pp ++ [(i : Int)])⟩ by
                    unfold touch
                    rw [if_neg HCOV.out, if_pos (.inr fun e => by rw [HLAST.out] at e; injection e with e; exact hzi e)])
                  have hbz : (z != (i : Int)) = true := by simp [hzi]
                  clear hzi
                  have HADD := hid (show ∀ A4 c4 w4 w5, OwnI w4 B (.slice A4 (n + 1) c4) (bk.parts pp ++ [(i : Int)]) → (wr.drew.alloc (.cells #[.int .i64 (i : Int)] 3)).grownBy w4 (Value.slice (some ⟨ab, ao, none⟩) n pc).ownBlock → ((Value.slice A4 (n + 1) c4).ownBlock = (Value.slice (some ⟨ab, ao, none⟩) n pc).ownBlock ∨ (Value.slice A4 (n + 1) c4).ownBlock = some (wr.drew.alloc (.cells #[.int .i64 (i : Int)] 3)).heap.size) → w5 = w4.setCell ⟨q, 4353 + pp, none⟩ (.slice A4 (n + 1) c4) → Bd w5 B q (.slice (some ⟨eb, eo, none⟩) es.length c) (span i (x1, x2) bm (k + 1)) ∧ w5.heap[xb]? = some (.cells #[.int .i32 x1, .int .i32 x2] 56 (0, 0)) ∧ Below B w w5 from fun A4 c4 w4 w5 h1 h2 h3 e => by
                    subst e
                    have hb0 : Below wr.heap.size wr (wr.drew.alloc (.cells #[.int .i64 (i : Int)] 3)) := (Below.refl wr.heap.size wr).drew.alloc (Nat.le_refl _) _
                    have hq := HQB.out w4 h2
                    have hne : xb ≠ q := fun e => by rw [← e] at hq; have hx := (h2.block xb (Nat.lt_of_lt_of_le (Array.getElem?_eq_some_iff.1 HXk.out).1 hb0.size) (fun e' => own_blk_ne HOL.out HXk.out (by decide) e'.symm)).trans ((hb0.block xb (Array.getElem?_eq_some_iff.1 HXk.out).1).trans HXk.out); rw [hx] at hq; injection hq with hq; injection hq with _ h9; cases h9
                    refine ⟨by rw [HSP.out, HTO.out]; exact Bd.addPart (HDk.out.below (Below.refl _ _).drew) hpm HC3.out rfl h1 h2 h3, ?_, ?_⟩
                    · rw [heap_setCell_other _ _ _ _ hne]
                      exact (h2.block xb (Nat.lt_of_lt_of_le (Array.getElem?_eq_some_iff.1 HXk.out).1 hb0.size) (fun e' => own_blk_ne HOL.out HXk.out (by decide) e'.symm)).trans ((hb0.block xb (Array.getElem?_eq_some_iff.1 HXk.out).1).trans HXk.out)
                    · exact ((HBk.out.trans (hb0.mono HZ.out)).grown h2 (Nat.le_trans HZ.out hb0.size) fun j e => (HOL.out.lt j e).1).setCell (p := ⟨q, 4353 + pp, none⟩) HDk.out.base _)
                  go_wp2_with fail
                  refine wp_region_held_drew (S := (fun _ => True)) (by kernel_rfl) (by trivial) (fun hHeld => ?_)
                  refine wpAnyH_take (i := 0) (oi := { dst := some 84, op := Op.move (Operand.tmp 0), type := _, pos := _, after := _, guard := none }) (v := ?_) rfl (by kernel_rfl) (by kernel_rfl) (by kernel_rfl) (fun _ _ _ h => h) (Or.inl ⟨by rfl, ?_⟩) (by assumption) ?_
                  rotate_left
                  · intro w hSw; (try dsimp only at hSw); go_simp; try (first | with_reducible rfl | (refine (if_pos ?_).trans ?_ <;> first | omega | with_reducible rfl))
                  try simp only [Act.put, List.setIfInBounds_toArray, List.set_cons_zero, List.set_cons_succ]
                  refine wpAnyH_take (i := 1) (oi := { dst := some 85, op := Op.move (Operand.tmp 6), type := _, pos := _, after := _, guard := none }) (v := ?_) rfl (by kernel_rfl) (by kernel_rfl) (by kernel_rfl) (fun _ _ _ h => h) (Or.inl ⟨by rfl, ?_⟩) (by assumption) ?_
                  rotate_left
                  · intro w hSw; (try dsimp only at hSw); go_simp; try (first | with_reducible rfl | (refine (if_pos ?_).trans ?_ <;> first | omega | with_reducible rfl))
                  try simp only [Act.put, List.setIfInBounds_toArray, List.set_cons_zero, List.set_cons_succ]
                  refine wpAnyH_take (i := 2) (oi := { dst := some 86, op := Op.move (Operand.tmp 0), type := _, pos := _, after := _, guard := none }) (v := ?_) rfl (by kernel_rfl) (by kernel_rfl) (by kernel_rfl) (fun _ _ _ h => h) (Or.inl ⟨by rfl, ?_⟩) (by assumption) ?_
                  rotate_left
                  · intro w hSw; (try dsimp only at hSw); go_simp; try (first | with_reducible rfl | (refine (if_pos ?_).trans ?_ <;> first | omega | with_reducible rfl))
                  try simp only [Act.put, List.setIfInBounds_toArray, List.set_cons_zero, List.set_cons_succ]
                  refine wpAnyH_take (i := 3) (oi := { dst := some 87, op := Op.move (Operand.tmp 6), type := _, pos := _, after := _, guard := none }) (v := ?_) rfl (by kernel_rfl) (by kernel_rfl) (by kernel_rfl) (fun _ _ _ h => h) (Or.inl ⟨by rfl, ?_⟩) (by assumption) ?_
                  rotate_left
                  · intro w hSw; (try dsimp only at hSw); go_simp; try (first | with_reducible rfl | (refine (if_pos ?_).trans ?_ <;> first | omega | with_reducible rfl))
                  try simp only [Act.put, List.setIfInBounds_toArray, List.set_cons_zero, List.set_cons_succ]
                  refine wpAnyH_take (i := 4) (oi := { dst := some 88, op := Op.nilCheck (Operand.tmp 86), type := _, pos := _, after := _, guard := none }) (v := ?_) rfl (by kernel_rfl) (by kernel_rfl) (by kernel_rfl) (fun _ _ _ h => h) (Or.inl ⟨by rfl, ?_⟩) (by assumption) ?_
                  rotate_left
                  · intro w hSw; (try dsimp only at hSw); go_simp; try (first | with_reducible rfl | (refine (if_pos ?_).trans ?_ <;> first | omega | with_reducible rfl))
                  try simp only [Act.put, List.setIfInBounds_toArray, List.set_cons_zero, List.set_cons_succ]
                  refine wpAnyH_take (i := 5) (oi := { dst := some 89, op := Op.fieldAddr 67 (Operand.tmp 88) 2, type := _, pos := _, after := _, guard := none }) (v := ?_) rfl (by kernel_rfl) (by kernel_rfl) (by kernel_rfl) (fun _ _ _ h => h) (Or.inl ⟨by rfl, ?_⟩) (by assumption) ?_
                  rotate_left
                  · intro w hSw; (try dsimp only at hSw); go_simp; try (first | with_reducible rfl | (refine (if_pos ?_).trans ?_ <;> first | omega | with_reducible rfl))
                  try simp only [Act.put, List.setIfInBounds_toArray, List.set_cons_zero, List.set_cons_succ]
                  refine wpAnyH_take (i := 6) (oi := { dst := some 90, op := Op.indexAddr 65 (Operand.tmp 89) (Operand.tmp 87), type := _, pos := _, after := _, guard := none }) (v := ?_) rfl (by kernel_rfl) (by kernel_rfl) (by kernel_rfl) (fun _ _ _ h => h) (Or.inl ⟨by rfl, ?_⟩) (by assumption) ?_
                  rotate_left
                  · intro w hSw; (try dsimp only at hSw); go_simp; try (first | with_reducible rfl | (refine (if_pos ?_).trans ?_ <;> first | omega | with_reducible rfl))
                  try simp only [Act.put, List.setIfInBounds_toArray, List.set_cons_zero, List.set_cons_succ]
                  refine wpAnyH_take (i := 8) (oi := { dst := some 92, op := Op.move (Operand.tmp 1), type := _, pos := _, after := _, guard := none }) (v := ?_) rfl (by kernel_rfl) (by kernel_rfl) (by kernel_rfl) (fun _ _ _ h => h) (Or.inl ⟨by rfl, ?_⟩) (by assumption) ?_
                  rotate_left
                  · intro w hSw; (try dsimp only at hSw); go_simp; try (first | with_reducible rfl | (refine (if_pos ?_).trans ?_ <;> first | omega | with_reducible rfl))
                  try simp only [Act.put, List.setIfInBounds_toArray, List.set_cons_zero, List.set_cons_succ]
                  refine wpAnyH_take (i := 11) (oi := { dst := some 95, op := Op.nilCheck (Operand.tmp 84), type := _, pos := _, after := _, guard := none }) (v := ?_) rfl (by kernel_rfl) (by kernel_rfl) (by kernel_rfl) (fun _ _ _ h => h) (Or.inl ⟨by rfl, ?_⟩) (by assumption) ?_
                  rotate_left
                  · intro w hSw; (try dsimp only at hSw); go_simp; try (first | with_reducible rfl | (refine (if_pos ?_).trans ?_ <;> first | omega | with_reducible rfl))
                  try simp only [Act.put, List.setIfInBounds_toArray, List.set_cons_zero, List.set_cons_succ]
                  refine wpAnyH_take (i := 12) (oi := { dst := some 96, op := Op.fieldAddr 67 (Operand.tmp 95) 2, type := _, pos := _, after := _, guard := none }) (v := ?_) rfl (by kernel_rfl) (by kernel_rfl) (by kernel_rfl) (fun _ _ _ h => h) (Or.inl ⟨by rfl, ?_⟩) (by assumption) ?_
                  rotate_left
                  · intro w hSw; (try dsimp only at hSw); go_simp; try (first | with_reducible rfl | (refine (if_pos ?_).trans ?_ <;> first | omega | with_reducible rfl))
                  try simp only [Act.put, List.setIfInBounds_toArray, List.set_cons_zero, List.set_cons_succ]
                  refine wpAnyH_ready (rs := [7, 9]) (by kernel_rfl) (by simp) ?_
                  refine AllReadyH.cons (o := { dst := some 91, op := Op.load 49 (Operand.tmp 90), type := _, pos := _, after := _, guard := none }) rfl ?legA5n1 (AllReadyH.cons (o := { dst := some 93, op := Op.buildSlice 49 1 #[(0, Operand.tmp 92)], type := _, pos := _, after := _, guard := none }) rfl ?legB5n1 AllReadyH.nil)
                  case' legA5n1 =>
                    intro K hK
                    go_simp
                    refine hK.out _ _ (by trivial) (fun hHeld => ?_)
                    clear hK K
                    try simp only [Act.put, List.setIfInBounds_toArray, List.set_cons_zero, List.set_cons_succ]
                    refine wpAnyH_ready (rs := [9]) (by kernel_rfl) (by simp) ?_
                    refine AllReadyH.cons (o := { dst := some 93, op := Op.buildSlice 49 1 #[(0, Operand.tmp 92)], type := _, pos := _, after := _, guard := none }) rfl (fun K hK => ?_) AllReadyH.nil
                    go_simp
                    have c3x := (HPX.out (.cells #[.int .i64 (i : Int)] 3)).trans c3
                    refine hK.out _ _ (by trivial) (fun hHeld => ?_)
                    clear hK K
                    try simp only [Act.put, List.setIfInBounds_toArray, List.set_cons_zero, List.set_cons_succ]
                    refine wpAnyH_ready (rs := [10]) (by kernel_rfl) (by simp) ?_
                    refine AllReadyH.cons (o := { dst := some 94, op := Op.call { callee := Callee.builtin Builtin.append, args := #[Operand.tmp 91, Operand.tmp 93], argTypes := #[49, 49] }, type := _, pos := _, after := _, guard := none }) rfl (fun K hK => ?_) AllReadyH.nil
                    rw [if_pos (by rfl)]
                    refine wp_app_one (.tmp 91) (.tmp 93) rfl (w0 := wr.drew) (B := B) (z := (i : Int)) rfl rfl (show OwnI wr.drew B _ (bk.parts pp) from HOL.out) rfl HLN.out HZ.out ?_
                    rw [← HN.out]
                    intro A4 c4 w4 ho4 hg4 hv4
                    have HO4 := hid ho4
                    have HG4 := hid hg4
                    have HV4 := hid hv4
                    have HQ4 := hid (HQB.out w4 hg4)
                    have c4z := (cell_of_row w4 q (4353 + pp) _ _ _ HQ4.out).trans HQC.out
                    have c4f := frozen_of_row w4 q (4353 + pp) _ _ HQ4.out
                    clear ho4 hg4 hv4
                    refine hK.out _ _ (by trivial) (fun hHeld => ?_)
                    clear hK K
                    try simp only [Act.put, List.setIfInBounds_toArray, List.set_cons_zero, List.set_cons_succ]
                    refine wpAnyH_take (i := 13) (oi := { dst := some 97, op := Op.indexAddr 65 (Operand.tmp 96) (Operand.tmp 85), type := _, pos := _, after := _, guard := none }) (v := ?_) rfl (by kernel_rfl) (by kernel_rfl) (by kernel_rfl) (fun _ _ _ h => h) (Or.inl ⟨by rfl, ?_⟩) (by assumption) ?_
                    rotate_left
                    · intro w hSw; (try dsimp only at hSw); go_simp; try (first | with_reducible rfl | (refine (if_pos ?_).trans ?_ <;> first | omega | with_reducible rfl))
                    try simp only [Act.put, List.setIfInBounds_toArray, List.set_cons_zero, List.set_cons_succ]
                    refine wpAnyH_ready (rs := [14]) (by kernel_rfl) (by simp) ?_
                    refine AllReadyH.cons (o := { dst := none, op := Op.store 49 (Operand.tmp 97) (Operand.tmp 94), type := _, pos := _, after := _, guard := none }) rfl (fun K hK => ?_) AllReadyH.nil
                    go_simp
                    refine hK.out _ _ (by trivial) (fun hHeld => ?_)
                    clear hK K
                    try simp only [Act.put, List.setIfInBounds_toArray, List.set_cons_zero, List.set_cons_succ]
                    refine wpAnyH_done (by kernel_rfl) ?_ _
                    obtain ⟨w5, hw5⟩ : ∃ w5, w5 = w4.setCell ⟨q, 4353 + pp, none⟩ (.slice A4 (n + 1) c4) := ⟨_, rfl⟩
                    have HD5 := hid (HADD.out A4 c4 w4 w5 HO4.out HG4.out HV4.out hw5)
                    rw [← hw5]
                    clear hw5 c3 c4z c4f
                    try clear c3x
                    try clear ca
                    clear c1 f1 f3
                    go_wp2_with fail
                    exact ⟨⟨k + 1, pp + 1, hid (by have := HPP.out; omega), by omega, by go_num, hid HD5.out.1, HMN, hid HD5.out.2.1, hid HD5.out.2.2⟩, by simp [intOf]; have := HPP.out; omega⟩
                  case' legB5n1 =>
                    intro K hK
                    go_simp
                    have c3x := (HPX.out (.cells #[.int .i64 (i : Int)] 3)).trans c3
                    refine hK.out _ _ (by trivial) (fun hHeld => ?_)
                    clear hK K
                    try simp only [Act.put, List.setIfInBounds_toArray, List.set_cons_zero, List.set_cons_succ]
                    refine wpAnyH_ready (rs := [7]) (by kernel_rfl) (by simp) ?_
                    refine AllReadyH.cons (o := { dst := some 91, op := Op.load 49 (Operand.tmp 90), type := _, pos := _, after := _, guard := none }) rfl (fun K hK => ?_) AllReadyH.nil
                    go_simp
                    refine hK.out _ _ (by trivial) (fun hHeld => ?_)
                    clear hK K
                    try simp only [Act.put, List.setIfInBounds_toArray, List.set_cons_zero, List.set_cons_succ]
                    refine wpAnyH_ready (rs := [10]) (by kernel_rfl) (by simp) ?_
                    refine AllReadyH.cons (o := { dst := some 94, op := Op.call { callee := Callee.builtin Builtin.append, args := #[Operand.tmp 91, Operand.tmp 93], argTypes := #[49, 49] }, type := _, pos := _, after := _, guard := none }) rfl (fun K hK => ?_) AllReadyH.nil
                    rw [if_pos (by rfl)]
                    refine wp_app_one (.tmp 91) (.tmp 93) rfl (w0 := wr.drew) (B := B) (z := (i : Int)) rfl rfl (show OwnI wr.drew B _ (bk.parts pp) from HOL.out) rfl HLN.out HZ.out ?_
                    rw [← HN.out]
                    intro A4 c4 w4 ho4 hg4 hv4
                    have HO4 := hid ho4
                    have HG4 := hid hg4
                    have HV4 := hid hv4
                    have HQ4 := hid (HQB.out w4 hg4)
                    have c4z := (cell_of_row w4 q (4353 + pp) _ _ _ HQ4.out).trans HQC.out
                    have c4f := frozen_of_row w4 q (4353 + pp) _ _ HQ4.out
                    clear ho4 hg4 hv4
                    refine hK.out _ _ (by trivial) (fun hHeld => ?_)
                    clear hK K
                    try simp only [Act.put, List.setIfInBounds_toArray, List.set_cons_zero, List.set_cons_succ]
                    refine wpAnyH_take (i := 13) (oi := { dst := some 97, op := Op.indexAddr 65 (Operand.tmp 96) (Operand.tmp 85), type := _, pos := _, after := _, guard := none }) (v := ?_) rfl (by kernel_rfl) (by kernel_rfl) (by kernel_rfl) (fun _ _ _ h => h) (Or.inl ⟨by rfl, ?_⟩) (by assumption) ?_
                    rotate_left
                    · intro w hSw; (try dsimp only at hSw); go_simp; try (first | with_reducible rfl | (refine (if_pos ?_).trans ?_ <;> first | omega | with_reducible rfl))
                    try simp only [Act.put, List.setIfInBounds_toArray, List.set_cons_zero, List.set_cons_succ]
                    refine wpAnyH_ready (rs := [14]) (by kernel_rfl) (by simp) ?_
                    refine AllReadyH.cons (o := { dst := none, op := Op.store 49 (Operand.tmp 97) (Operand.tmp 94), type := _, pos := _, after := _, guard := none }) rfl (fun K hK => ?_) AllReadyH.nil
                    go_simp
                    refine hK.out _ _ (by trivial) (fun hHeld => ?_)
                    clear hK K
                    try simp only [Act.put, List.setIfInBounds_toArray, List.set_cons_zero, List.set_cons_succ]
                    refine wpAnyH_done (by kernel_rfl) ?_ _
                    obtain ⟨w5, hw5⟩ : ∃ w5, w5 = w4.setCell ⟨q, 4353 + pp, none⟩ (.slice A4 (n + 1) c4) := ⟨_, rfl⟩
                    have HD5 := hid (HADD.out A4 c4 w4 w5 HO4.out HG4.out HV4.out hw5)
                    rw [← hw5]
                    clear hw5 c3 c4z c4f
                    try clear c3x
                    try clear ca
                    clear c1 f1 f3
                    go_wp2_with fail
                    exact ⟨⟨k + 1, pp + 1, hid (by have := HPP.out; omega), by omega, by go_num, hid HD5.out.1, HMN, hid HD5.out.2.1, hid HD5.out.2.2⟩, by simp [intOf]; have := HPP.out; omega⟩
        · obtain rfl : pp = p1 + 1 := by omega
          have HDN := hid (show Bd wr B q (.slice (some ⟨eb, eo, none⟩) es.length c) (spreadTo i b (l.take (m + 1))) by
            rw [HTK.out, HPL.out, show p1 + 1 - p0 = k by have := HPP.out; omega]; exact HDk.out)
          have HMN := hid (show Mid es other i (fun _ => False) (spreadTo i b (l.take (m + 1))) by
            rw [HTK.out, HPL.out, show p1 + 1 - p0 = k by have := HPP.out; omega]; exact HMk.out)
          go_wp2_with fail
          exact ⟨⟨m + 1, by omega, by go_num, HDN, HMN, HBk⟩, by simp [intOf]; omega⟩
    · obtain rfl : m = l.length := by omega
      have HDN := hid (show Bd wr B q (.slice (some ⟨eb, eo, none⟩) es.length c) (spreadTo i b l) by have h := HDm.out; rw [List.take_length] at h; exact h)
      go_wp2_with fail
      go_end0
      exact ⟨rfl, HDN.out, HB.out⟩
end Go.Proofs.Ytehchnagjdmdgaa
