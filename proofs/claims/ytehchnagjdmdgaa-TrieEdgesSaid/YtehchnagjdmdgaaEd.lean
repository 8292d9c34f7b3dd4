/- TrieEdges, walked. No conditions but what lies in memory. -/
import Derived.Test.YtehchnagjdmdgaaAw
import Derived.Test.YtehchnagjdmdgaaTo
namespace Go.Proofs.Ytehchnagjdmdgaa
open Go.RowKit
set_option linter.unusedSimpArgs false
theorem may_parts' {other : Int} {es : List Ent} (h : mayE other es = true) : (∀ e ∈ es, goodE e = true) ∧ 0 ≤ other ∧ other ≤ 255 := by
  unfold mayE at h
  rw [Bool.and_eq_true] at h
  exact ⟨List.all_eq_true.1 h.2, by have := h.1; unfold classB at this; simpa using this⟩
set_option maxRecDepth 100000 in
set_option maxHeartbeats 4000000 in
theorem edges_walk (S : Nat → Prop) (other : Int) (A : Option Addr) (c : Nat) (es : List Ent) (w : World) (h : IsEnts w S (.slice A es.length c) es) :
    Calls Try.prog 4 #[.int .i64 other, .slice A es.length c] w fun e w' => e = .returned (.bool true) ∧ Below w.heap.size w w' := by
  have HE := hid h
  have hel := h.le
  clear h
  cases hg : greatE es with
  | true =>
    have HG := hid hg
    clear hg
    go_enter Try.func4, Try.ntmps4
    go_wp2_with fail
    refine (great_any S A c es w HE.out).mono ?_
    rintro e w1 ⟨rfl, hb⟩
    rw [HG.out]
    have HB1 := hid hb
    clear hb
    go_wp2_with fail
    refine (awake_any w1).mono ?_
    rintro e w2 ⟨rfl, hb⟩
    have HB2 := hid (ends_true HB1.out hb)
    clear hb
    go_wp2_with fail
    go_ret
    exact ⟨rfl, HB2.out⟩
  | false =>
  have HG := hid hg
  have HGN := hid (greatE_no hg)
  clear hg
  go_enter Try.func4, Try.ntmps4
  go_wp2_with fail
  refine (great_any S A c es w HE.out).mono ?_
  rintro e w1 ⟨rfl, hb⟩
  rw [HG.out]
  have HB1 := hid hb
  clear hb
  go_wp2_with fail
  refine (awake_any w1).mono ?_
  rintro e w2 ⟨rfl, hb⟩
  have HB2 := hid (ends_true HB1.out hb)
  clear hb
  go_wp2_with fail
  refine (to_any S A c es w2 (HE.out.below HB2.out) (by have := HGN.out.1; omega) (fun e he => by have := HGN.out.2 e he; omega)).mono ?_
  rintro e w3 ⟨A3, c3, rfl, hE3, hb⟩
  have HE3 := hid hE3
  have HB3 := hid (ends_true HB2.out hb)
  clear hb hE3
  cases hm : mayE other es with
  | false =>
    have HM := hid hm
    clear hm
    go_wp2_with fail
    refine (new_not HE3.out (by have := HGN.out.1; omega) HM.out).mono ?_
    rintro e w4 ⟨rfl, hb⟩
    have HB4 := hid (ends_true HB3.out hb)
    clear hb
    go_wp2_with fail
    refine (may_any S A c other es w4 (HE.out.below HB4.out)).mono ?_
    rintro e w5 ⟨rfl, hb⟩
    rw [HM.out]
    have HB5 := hid (ends_true HB4.out hb)
    clear hb
    go_wp2_with fail
    go_ret
    exact ⟨rfl, HB5.out⟩
  | true =>
    have HM := hid hm
    have HMP := hid (may_parts' hm)
    clear hm
    go_wp2_with fail
    refine (new_right HE3.out (by have := HGN.out.1; omega) HM.out).mono ?_
    rintro e w4 ⟨t, rfl, ht, hb⟩
    have HT4 := hid ht
    have HB4 := hid (ends_true HB3.out hb)
    clear hb ht
    go_wp2_with fail
    refine (may_any S A c other es w4 (HE.out.below HB4.out)).mono ?_
    rintro e w5 ⟨rfl, hb⟩
    rw [HM.out]
    have HT5 := hid (HT4.out.below hb)
    have HB5 := hid (ends_true HB4.out hb)
    clear hb HT4 HB4 HE3 HB1 HB2 HB3
    go_wp2_with fail
    go_loopw [7] (fun s7 wr => ∃ (i : Nat), i ≤ es.length ∧ s7 = .int .i64 i ∧ Hid (Below w5.heap.size w5 wr)) (fun s7 _ => es.length - (intOf s7).toNat)
    case atStart => exact ⟨0, by omega, rfl, hid (Below.refl _ _)⟩
    case round =>
      obtain ⟨i, hi, rfl, HZ⟩ := hrel
      by_cases hlt : i < es.length
      · obtain ⟨wo, hwo⟩ : ∃ wo, wo = wr := ⟨_, rfl⟩
        subst hwo
        have HGE := hid (HMP.out.1 _ (ent_mem hlt))
        obtain ⟨eb, eo, SA, sc, rfl, -, heb, e0, -, hrs, -⟩ := HE.out.at hlt
        have HRS := hid hrs
        have hll := hrs.le
        have HEC := hid (show ∀ Y, Below w.heap.size w Y → Y.cell? ⟨eb, eo + i * 2, none⟩ = some (.slice SA (ent es i).1.length sc) from fun Y hY => (hY.cell (p := ⟨eb, eo + i * 2, none⟩) heb).trans e0)
        obtain ⟨l, hl⟩ : ∃ l, l = (ent es i).1 := ⟨_, rfl⟩
        rw [← hl] at HRS HEC hll
        have HL := hid (show rightB l = true by
          have := HGE.out
          unfold goodE at this
          simp only [Bool.and_eq_true] at this
          rw [hl]; exact this.1.1)
        clear e0 hrs hl heb
        go_wp2_with fail
        go_loopw [8] (fun s8 wk => ∃ (k : Nat), k ≤ l.length ∧ s8 = .int .i64 k ∧ Hid (Below w5.heap.size w5 wk)) (fun s8 _ => l.length - (intOf s8).toNat)
        case atStart => exact ⟨0, by omega, rfl, HZ⟩
        case round =>
          clear HZ
          obtain ⟨k, hk, rfl, HZ⟩ := hrel
          have e0 := HEC.out wr (ends_true HB5.out HZ.out)
          by_cases hkl : k < l.length
          · obtain ⟨rb, ro, rfl, -, hrb, r0, r1, -⟩ := (HRS.out.below (ends_true HB5.out HZ.out)).at hkl
            have hmay := mayB_iff.1 (rightB_may HL.out (rng_mem hkl))
            obtain ⟨x, hx⟩ : ∃ x, x = rng l k := ⟨_, rfl⟩
            rw [← hx] at r0 r1 hmay
            obtain ⟨x1, x2⟩ := x
            simp only at r0 r1 hmay
            obtain ⟨hx0, hx12, hxm⟩ := hmay
            obtain ⟨xb, hxb⟩ : ∃ xb, xb = wr.heap.size := ⟨_, rfl⟩
            obtain ⟨X, hX⟩ : ∃ X, X = wr.alloc (.cells #[.int .i32 x1, .int .i32 x2] 40) := ⟨_, rfl⟩
            have HXB := hid (show Below wr.heap.size wr X by rw [hX]; exact (Below.refl _ _).alloc (Nat.le_refl _) _)
            have HXC := hid (show ∀ Y, Below X.heap.size X Y → Y.cell? ⟨xb, 0, none⟩ = some (.int .i32 x1) ∧ Y.cell? ⟨xb, 1, none⟩ = some (.int .i32 x2) from fun Y hY => by
              have h0 : X.heap[xb]? = some (.cells #[.int .i32 x1, .int .i32 x2] 40 (0, 0)) := by rw [hX, hxb]; exact heap_alloc_new _ _
              have h1 := (hY.block xb (Array.getElem?_eq_some_iff.1 h0).1).trans h0
              exact ⟨by rw [cell_of_row Y xb 0 _ _ _ h1]; rfl, by rw [cell_of_row Y xb 1 _ _ _ h1]; rfl⟩)
            have HZX := hid (HZ.out.trans (HXB.out.mono HZ.out.size))
            clear hx
            go_wp2_with fail
            rw [← hX, ← hxb]
            clear hX hxb r0 r1 e0
            go_loopw [10] (fun s10 wk => ∃ (d : Int), s10 = .int .i32 d ∧ -1 ≤ d ∧ d ≤ 2 ∧ Hid (Below X.heap.size X wk)) (fun s10 _ => (3 - (intOf s10)).toNat)
            case atStart => exact ⟨-1, rfl, by omega, by omega, hid (Below.refl _ _)⟩
            case round =>
              obtain ⟨d, rfl, hd1, hd2, HY⟩ := hrel
              by_cases hd : d ≤ 1
              · have HYX := hid (HZX.out.trans (HY.out.mono HZX.out.size))
                have HXW := hid (show ∀ Y, Below wr.heap.size wr Y → Y.cell? ⟨xb, 0, none⟩ = some (.int .i32 x1) ∧ Y.cell? ⟨xb, 1, none⟩ = some (.int .i32 x2) from fun Y hY => HXC.out Y (ends_true HY.out hY))
                obtain ⟨q1, hq1⟩ : ∃ q, q = x1 + d := ⟨_, rfl⟩
                obtain ⟨q2, hq2⟩ : ∃ q, q = x2 + d := ⟨_, rfl⟩
                have hw1 : IntKind.i32.wrap (x1 + d) = q1 := by rw [hq1]; simp [IntKind.wrap, IntKind.bits, IntKind.signed]; omega
                have hw2 : IntKind.i32.wrap (x2 + d) = q2 := by rw [hq2]; simp [IntKind.wrap, IntKind.bits, IntKind.signed]; omega
                have HQ1 := hid (show -2147483648 ≤ q1 ∧ q1 ≤ 2147483647 by omega)
                have HQ2 := hid (show -2147483648 ≤ q2 ∧ q2 ≤ 2147483647 by omega)
                obtain ⟨y1, hy1⟩ : ∃ y, y = getB other es q1 := ⟨_, rfl⟩
                obtain ⟨y2, hy2⟩ : ∃ y, y = getB other es q2 := ⟨_, rfl⟩
                have HG1 := hid hy1
                have HG2 := hid hy2
                have HZZ := hid (Below.refl wr.heap.size wr)
                have HGET := hid (show ∀ (Y : World) (r : Int), (-2147483648 ≤ r ∧ r ≤ 2147483647) → Below wr.heap.size wr Y → Calls Try.prog 13 #[.pointer (some ⟨t, 0, none⟩), .int .i32 r] Y fun e w' => e = .returned (.int .i64 (getB other es r)) ∧ Below Y.heap.size Y w' from fun Y r hr hY => get_any (HT5.out.below (ends_true HYX.out hY)) HMP.out.1 HMP.out.2 hr)
                have HREF := hid (show ∀ (Y : World) (r : Int), Below wr.heap.size wr Y → Calls Try.prog 14 #[.int .i64 other, .slice (some ⟨eb, eo, none⟩) es.length c, .int .i32 r] Y fun e w' => e = .returned (.int .i64 (getB other es r)) ∧ Below Y.heap.size Y w' from fun Y r hY => refGet_any S _ c es other r Y (HE.out.below (ends_true HB5.out (ends_true HYX.out hY))))
                clear hy1 hy2 hq1 hq2
                go_wp2_with fail
                refine wp_region_held_drew (S := (fun Y => Y.cell? ⟨xb, 0, none⟩ = some (.int .i32 x1) ∧ Y.cell? ⟨xb, 1, none⟩ = some (.int .i32 x2))) (by kernel_rfl) (by first | exact HXW.out _ HZZ.out | exact HXW.out _ HZZ.out.drew) (fun hHeld => ?_)
                refine wpAnyH_take (i := 0) (oi := { dst := some 63, op := Op.move (Operand.tmp 5), type := _, pos := _, after := _, guard := none }) (v := ?_) rfl (by kernel_rfl) (by kernel_rfl) (by kernel_rfl) (fun _ _ _ h => h) (Or.inl ⟨by rfl, ?_⟩) (by assumption) ?_
                rotate_left
                · intro w hSw; (try dsimp only at hSw); go_simp; try (first | with_reducible rfl | (refine (if_pos ?_).trans ?_ <;> first | omega | with_reducible rfl))
                try simp only [Act.put, List.setIfInBounds_toArray, List.set_cons_zero, List.set_cons_succ]
                refine wpAnyH_take (i := 1) (oi := { dst := some 64, op := Op.fieldAddr 40 (Operand.tmp 9) 0, type := _, pos := _, after := _, guard := none }) (v := ?_) rfl (by kernel_rfl) (by kernel_rfl) (by kernel_rfl) (fun _ _ _ h => h) (Or.inl ⟨by rfl, ?_⟩) (by assumption) ?_
                rotate_left
                · intro w hSw; (try dsimp only at hSw); go_simp; try (first | with_reducible rfl | (refine (if_pos ?_).trans ?_ <;> first | omega | with_reducible rfl))
                try simp only [Act.put, List.setIfInBounds_toArray, List.set_cons_zero, List.set_cons_succ]
                refine wpAnyH_take (i := 2) (oi := { dst := some 65, op := Op.load 21 (Operand.tmp 64), type := _, pos := _, after := _, guard := none }) (v := ?_) rfl (by kernel_rfl) (by kernel_rfl) (by kernel_rfl) (fun _ _ _ h => h) (Or.inl ⟨by rfl, ?_⟩) (by assumption) ?_
                rotate_left
                · intro w hSw; (try dsimp only at hSw); go_simp; try (first | with_reducible rfl | (refine (if_pos ?_).trans ?_ <;> first | omega | with_reducible rfl))
                try simp only [Act.put, List.setIfInBounds_toArray, List.set_cons_zero, List.set_cons_succ]
                refine wpAnyH_take (i := 3) (oi := { dst := some 66, op := Op.move (Operand.tmp 10), type := _, pos := _, after := _, guard := none }) (v := ?_) rfl (by kernel_rfl) (by kernel_rfl) (by kernel_rfl) (fun _ _ _ h => h) (Or.inl ⟨by rfl, ?_⟩) (by assumption) ?_
                rotate_left
                · intro w hSw; (try dsimp only at hSw); go_simp; try (first | with_reducible rfl | (refine (if_pos ?_).trans ?_ <;> first | omega | with_reducible rfl))
                try simp only [Act.put, List.setIfInBounds_toArray, List.set_cons_zero, List.set_cons_succ]
                refine wpAnyH_take (i := 4) (oi := { dst := some 67, op := Op.binOp BinOp.add 21 (Operand.tmp 65) (Operand.tmp 66) 21, type := _, pos := _, after := _, guard := none }) (v := ?_) rfl (by kernel_rfl) (by kernel_rfl) (by kernel_rfl) (fun _ _ _ h => h) (Or.inl ⟨by rfl, ?_⟩) (by assumption) ?_
                rotate_left
                · intro w hSw; (try dsimp only at hSw); go_simp; try (first | with_reducible rfl | (refine (if_pos ?_).trans ?_ <;> first | omega | with_reducible rfl))
                try simp only [Act.put, List.setIfInBounds_toArray, List.set_cons_zero, List.set_cons_succ]
                refine wpAnyH_take (i := 6) (oi := { dst := some 69, op := Op.move (Operand.tmp 0), type := _, pos := _, after := _, guard := none }) (v := ?_) rfl (by kernel_rfl) (by kernel_rfl) (by kernel_rfl) (fun _ _ _ h => h) (Or.inl ⟨by rfl, ?_⟩) (by assumption) ?_
                rotate_left
                · intro w hSw; (try dsimp only at hSw); go_simp; try (first | with_reducible rfl | (refine (if_pos ?_).trans ?_ <;> first | omega | with_reducible rfl))
                try simp only [Act.put, List.setIfInBounds_toArray, List.set_cons_zero, List.set_cons_succ]
                refine wpAnyH_take (i := 7) (oi := { dst := some 70, op := Op.move (Operand.tmp 1), type := _, pos := _, after := _, guard := none }) (v := ?_) rfl (by kernel_rfl) (by kernel_rfl) (by kernel_rfl) (fun _ _ _ h => h) (Or.inl ⟨by rfl, ?_⟩) (by assumption) ?_
                rotate_left
                · intro w hSw; (try dsimp only at hSw); go_simp; try (first | with_reducible rfl | (refine (if_pos ?_).trans ?_ <;> first | omega | with_reducible rfl))
                try simp only [Act.put, List.setIfInBounds_toArray, List.set_cons_zero, List.set_cons_succ]
                refine wpAnyH_take (i := 8) (oi := { dst := some 71, op := Op.fieldAddr 40 (Operand.tmp 9) 0, type := _, pos := _, after := _, guard := none }) (v := ?_) rfl (by kernel_rfl) (by kernel_rfl) (by kernel_rfl) (fun _ _ _ h => h) (Or.inl ⟨by rfl, ?_⟩) (by assumption) ?_
                rotate_left
                · intro w hSw; (try dsimp only at hSw); go_simp; try (first | with_reducible rfl | (refine (if_pos ?_).trans ?_ <;> first | omega | with_reducible rfl))
                try simp only [Act.put, List.setIfInBounds_toArray, List.set_cons_zero, List.set_cons_succ]
                refine wpAnyH_take (i := 9) (oi := { dst := some 72, op := Op.load 21 (Operand.tmp 71), type := _, pos := _, after := _, guard := none }) (v := ?_) rfl (by kernel_rfl) (by kernel_rfl) (by kernel_rfl) (fun _ _ _ h => h) (Or.inl ⟨by rfl, ?_⟩) (by assumption) ?_
                rotate_left
                · intro w hSw; (try dsimp only at hSw); go_simp; try (first | with_reducible rfl | (refine (if_pos ?_).trans ?_ <;> first | omega | with_reducible rfl))
                try simp only [Act.put, List.setIfInBounds_toArray, List.set_cons_zero, List.set_cons_succ]
                refine wpAnyH_take (i := 10) (oi := { dst := some 73, op := Op.move (Operand.tmp 10), type := _, pos := _, after := _, guard := none }) (v := ?_) rfl (by kernel_rfl) (by kernel_rfl) (by kernel_rfl) (fun _ _ _ h => h) (Or.inl ⟨by rfl, ?_⟩) (by assumption) ?_
                rotate_left
                · intro w hSw; (try dsimp only at hSw); go_simp; try (first | with_reducible rfl | (refine (if_pos ?_).trans ?_ <;> first | omega | with_reducible rfl))
                try simp only [Act.put, List.setIfInBounds_toArray, List.set_cons_zero, List.set_cons_succ]
                refine wpAnyH_take (i := 11) (oi := { dst := some 74, op := Op.binOp BinOp.add 21 (Operand.tmp 72) (Operand.tmp 73) 21, type := _, pos := _, after := _, guard := none }) (v := ?_) rfl (by kernel_rfl) (by kernel_rfl) (by kernel_rfl) (fun _ _ _ h => h) (Or.inl ⟨by rfl, ?_⟩) (by assumption) ?_
                rotate_left
                · intro w hSw; (try dsimp only at hSw); go_simp; try (first | with_reducible rfl | (refine (if_pos ?_).trans ?_ <;> first | omega | with_reducible rfl))
                try simp only [Act.put, List.setIfInBounds_toArray, List.set_cons_zero, List.set_cons_succ]
                refine wpAnyH_ready (rs := [5]) (by kernel_rfl) (by simp) ?_
                refine AllReadyH.cons (o := { dst := some 68, op := Op.call { callee := Callee.value (Operand.func 13), args := #[Operand.tmp 63, Operand.tmp 67], argTypes := #[26, 21] }, type := _, pos := _, after := _, guard := none }) rfl (fun K hK => ?_) AllReadyH.nil
                go_simp
                refine (HGET.out _ q1 HQ1.out HZZ.out.drew).mono ?_
                rintro e w9 ⟨rfl, hb9⟩
                rw [← HG1.out]
                have HZ1 := hid (HZZ.out.drew.trans hb9)
                clear hb9
                refine hK.out _ _ (by exact HXW.out _ HZ1.out) (fun hHeld => ?_)
                clear hK K
                try simp only [Act.put, List.setIfInBounds_toArray, List.set_cons_zero, List.set_cons_succ]
                refine wpAnyH_ready (rs := [12]) (by kernel_rfl) (by simp) ?_
                refine AllReadyH.cons (o := { dst := some 75, op := Op.call { callee := Callee.value (Operand.func 14), args := #[Operand.tmp 69, Operand.tmp 70, Operand.tmp 74], argTypes := #[3, 22, 21] }, type := _, pos := _, after := _, guard := none }) rfl (fun K hK => ?_) AllReadyH.nil
                go_simp
                refine (HREF.out _ q1 HZ1.out).mono ?_
                rintro e w9 ⟨rfl, hb9⟩
                rw [← HG1.out]
                have HZ2 := hid (HZ1.out.trans (hb9.mono HZ1.out.size))
                clear hb9
                refine hK.out _ _ (by exact HXW.out _ HZ2.out) (fun hHeld => ?_)
                clear hK K
                try simp only [Act.put, List.setIfInBounds_toArray, List.set_cons_zero, List.set_cons_succ]
                refine wpAnyH_take (i := 13) (oi := { dst := some 76, op := Op.binOp BinOp.neq 3 (Operand.tmp 68) (Operand.tmp 75) 3, type := _, pos := _, after := _, guard := none }) (v := ?_) rfl (by kernel_rfl) (by kernel_rfl) (by kernel_rfl) (fun _ _ _ h => h) (Or.inl ⟨by rfl, ?_⟩) (by assumption) ?_
                rotate_left
                · intro w hSw; (try dsimp only at hSw); go_simp; try (first | with_reducible rfl | (refine (if_pos ?_).trans ?_ <;> first | omega | with_reducible rfl))
                try simp only [Act.put, List.setIfInBounds_toArray, List.set_cons_zero, List.set_cons_succ]
                refine wpAnyH_take (i := 14) (oi := { dst := some 77, op := Op.move (Operand.tmp 76), type := _, pos := _, after := _, guard := none }) (v := ?_) rfl (by kernel_rfl) (by kernel_rfl) (by kernel_rfl) (fun _ _ _ h => h) (Or.inl ⟨by rfl, ?_⟩) (by assumption) ?_
                rotate_left
                · intro w hSw; (try dsimp only at hSw); go_simp; try (first | with_reducible rfl | (refine (if_pos ?_).trans ?_ <;> first | omega | with_reducible rfl))
                try simp only [Act.put, List.setIfInBounds_toArray, List.set_cons_zero, List.set_cons_succ]
                refine wpAnyH_take (i := 15) (oi := { dst := some 78, op := Op.move (Operand.tmp 5), type := _, pos := _, after := _, guard := some (14, false) }) (v := ?_) rfl (by kernel_rfl) (by kernel_rfl) (by kernel_rfl) (fun _ _ _ h => h) (Or.inl ⟨by rfl, ?_⟩) (by assumption) ?_
                rotate_left
                · intro w hSw; (try dsimp only at hSw); go_simp; try (first | with_reducible rfl | (refine (if_pos ?_).trans ?_ <;> first | omega | with_reducible rfl))
                try simp only [Act.put, List.setIfInBounds_toArray, List.set_cons_zero, List.set_cons_succ]
                refine wpAnyH_take (i := 16) (oi := { dst := some 79, op := Op.fieldAddr 40 (Operand.tmp 9) 1, type := _, pos := _, after := _, guard := some (14, false) }) (v := ?_) rfl (by kernel_rfl) (by kernel_rfl) (by kernel_rfl) (fun _ _ _ h => h) (Or.inl ⟨by rfl, ?_⟩) (by assumption) ?_
                rotate_left
                · intro w hSw; (try dsimp only at hSw); go_simp; try (first | with_reducible rfl | (refine (if_pos ?_).trans ?_ <;> first | omega | with_reducible rfl))
                try simp only [Act.put, List.setIfInBounds_toArray, List.set_cons_zero, List.set_cons_succ]
                refine wpAnyH_take (i := 17) (oi := { dst := some 80, op := Op.load 21 (Operand.tmp 79), type := _, pos := _, after := _, guard := some (14, false) }) (v := ?_) rfl (by kernel_rfl) (by kernel_rfl) (by kernel_rfl) (fun _ _ _ h => h) (Or.inl ⟨by rfl, ?_⟩) (by assumption) ?_
                rotate_left
                · intro w hSw; (try dsimp only at hSw); go_simp; try (first | with_reducible rfl | (refine (if_pos ?_).trans ?_ <;> first | omega | with_reducible rfl))
                try simp only [Act.put, List.setIfInBounds_toArray, List.set_cons_zero, List.set_cons_succ]
                refine wpAnyH_take (i := 18) (oi := { dst := some 81, op := Op.move (Operand.tmp 10), type := _, pos := _, after := _, guard := some (14, false) }) (v := ?_) rfl (by kernel_rfl) (by kernel_rfl) (by kernel_rfl) (fun _ _ _ h => h) (Or.inl ⟨by rfl, ?_⟩) (by assumption) ?_
                rotate_left
                · intro w hSw; (try dsimp only at hSw); go_simp; try (first | with_reducible rfl | (refine (if_pos ?_).trans ?_ <;> first | omega | with_reducible rfl))
                try simp only [Act.put, List.setIfInBounds_toArray, List.set_cons_zero, List.set_cons_succ]
                refine wpAnyH_take (i := 19) (oi := { dst := some 82, op := Op.binOp BinOp.add 21 (Operand.tmp 80) (Operand.tmp 81) 21, type := _, pos := _, after := _, guard := some (14, false) }) (v := ?_) rfl (by kernel_rfl) (by kernel_rfl) (by kernel_rfl) (fun _ _ _ h => h) (Or.inl ⟨by rfl, ?_⟩) (by assumption) ?_
                rotate_left
                · intro w hSw; (try dsimp only at hSw); go_simp; try (first | with_reducible rfl | (refine (if_pos ?_).trans ?_ <;> first | omega | with_reducible rfl))
                try simp only [Act.put, List.setIfInBounds_toArray, List.set_cons_zero, List.set_cons_succ]
                refine wpAnyH_take (i := 21) (oi := { dst := some 84, op := Op.move (Operand.tmp 0), type := _, pos := _, after := _, guard := some (14, false) }) (v := ?_) rfl (by kernel_rfl) (by kernel_rfl) (by kernel_rfl) (fun _ _ _ h => h) (Or.inl ⟨by rfl, ?_⟩) (by assumption) ?_
                rotate_left
                · intro w hSw; (try dsimp only at hSw); go_simp; try (first | with_reducible rfl | (refine (if_pos ?_).trans ?_ <;> first | omega | with_reducible rfl))
                try simp only [Act.put, List.setIfInBounds_toArray, List.set_cons_zero, List.set_cons_succ]
                refine wpAnyH_take (i := 22) (oi := { dst := some 85, op := Op.move (Operand.tmp 1), type := _, pos := _, after := _, guard := some (14, false) }) (v := ?_) rfl (by kernel_rfl) (by kernel_rfl) (by kernel_rfl) (fun _ _ _ h => h) (Or.inl ⟨by rfl, ?_⟩) (by assumption) ?_
                rotate_left
                · intro w hSw; (try dsimp only at hSw); go_simp; try (first | with_reducible rfl | (refine (if_pos ?_).trans ?_ <;> first | omega | with_reducible rfl))
                try simp only [Act.put, List.setIfInBounds_toArray, List.set_cons_zero, List.set_cons_succ]
                refine wpAnyH_take (i := 23) (oi := { dst := some 86, op := Op.fieldAddr 40 (Operand.tmp 9) 1, type := _, pos := _, after := _, guard := some (14, false) }) (v := ?_) rfl (by kernel_rfl) (by kernel_rfl) (by kernel_rfl) (fun _ _ _ h => h) (Or.inl ⟨by rfl, ?_⟩) (by assumption) ?_
                rotate_left
                · intro w hSw; (try dsimp only at hSw); go_simp; try (first | with_reducible rfl | (refine (if_pos ?_).trans ?_ <;> first | omega | with_reducible rfl))
                try simp only [Act.put, List.setIfInBounds_toArray, List.set_cons_zero, List.set_cons_succ]
                refine wpAnyH_take (i := 24) (oi := { dst := some 87, op := Op.load 21 (Operand.tmp 86), type := _, pos := _, after := _, guard := some (14, false) }) (v := ?_) rfl (by kernel_rfl) (by kernel_rfl) (by kernel_rfl) (fun _ _ _ h => h) (Or.inl ⟨by rfl, ?_⟩) (by assumption) ?_
                rotate_left
                · intro w hSw; (try dsimp only at hSw); go_simp; try (first | with_reducible rfl | (refine (if_pos ?_).trans ?_ <;> first | omega | with_reducible rfl))
                try simp only [Act.put, List.setIfInBounds_toArray, List.set_cons_zero, List.set_cons_succ]
                refine wpAnyH_take (i := 25) (oi := { dst := some 88, op := Op.move (Operand.tmp 10), type := _, pos := _, after := _, guard := some (14, false) }) (v := ?_) rfl (by kernel_rfl) (by kernel_rfl) (by kernel_rfl) (fun _ _ _ h => h) (Or.inl ⟨by rfl, ?_⟩) (by assumption) ?_
                rotate_left
                · intro w hSw; (try dsimp only at hSw); go_simp; try (first | with_reducible rfl | (refine (if_pos ?_).trans ?_ <;> first | omega | with_reducible rfl))
                try simp only [Act.put, List.setIfInBounds_toArray, List.set_cons_zero, List.set_cons_succ]
                refine wpAnyH_take (i := 26) (oi := { dst := some 89, op := Op.binOp BinOp.add 21 (Operand.tmp 87) (Operand.tmp 88) 21, type := _, pos := _, after := _, guard := some (14, false) }) (v := ?_) rfl (by kernel_rfl) (by kernel_rfl) (by kernel_rfl) (fun _ _ _ h => h) (Or.inl ⟨by rfl, ?_⟩) (by assumption) ?_
                rotate_left
                · intro w hSw; (try dsimp only at hSw); go_simp; try (first | with_reducible rfl | (refine (if_pos ?_).trans ?_ <;> first | omega | with_reducible rfl))
                try simp only [Act.put, List.setIfInBounds_toArray, List.set_cons_zero, List.set_cons_succ]
                refine wpAnyH_ready (rs := [20]) (by kernel_rfl) (by simp) ?_
                refine AllReadyH.cons (o := { dst := some 83, op := Op.call { callee := Callee.value (Operand.func 13), args := #[Operand.tmp 78, Operand.tmp 82], argTypes := #[26, 21] }, type := _, pos := _, after := _, guard := some (14, false) }) rfl (fun K hK => ?_) AllReadyH.nil
                rw [if_pos (by rfl)]
                go_simp
                refine (HGET.out _ q2 HQ2.out HZ2.out).mono ?_
                rintro e w9 ⟨rfl, hb9⟩
                rw [← HG2.out]
                have HZ3 := hid (HZ2.out.trans (hb9.mono HZ2.out.size))
                clear hb9
                refine hK.out _ _ (by exact HXW.out _ HZ3.out) (fun hHeld => ?_)
                clear hK K
                try simp only [Act.put, List.setIfInBounds_toArray, List.set_cons_zero, List.set_cons_succ]
                refine wpAnyH_ready (rs := [27]) (by kernel_rfl) (by simp) ?_
                refine AllReadyH.cons (o := { dst := some 90, op := Op.call { callee := Callee.value (Operand.func 14), args := #[Operand.tmp 84, Operand.tmp 85, Operand.tmp 89], argTypes := #[3, 22, 21] }, type := _, pos := _, after := _, guard := some (14, false) }) rfl (fun K hK => ?_) AllReadyH.nil
                rw [if_pos (by rfl)]
                go_simp
                refine (HREF.out _ q2 HZ3.out).mono ?_
                rintro e w9 ⟨rfl, hb9⟩
                rw [← HG2.out]
                have HZ4 := hid (HZ3.out.trans (hb9.mono HZ3.out.size))
                clear hb9
                refine hK.out _ _ (by exact HXW.out _ HZ4.out) (fun hHeld => ?_)
                clear hK K
                try simp only [Act.put, List.setIfInBounds_toArray, List.set_cons_zero, List.set_cons_succ]
                refine wpAnyH_take (i := 28) (oi := { dst := some 91, op := Op.binOp BinOp.neq 3 (Operand.tmp 83) (Operand.tmp 90) 3, type := _, pos := _, after := _, guard := some (14, false) }) (v := ?_) rfl (by kernel_rfl) (by kernel_rfl) (by kernel_rfl) (fun _ _ _ h => h) (Or.inl ⟨by rfl, ?_⟩) (by assumption) ?_
                rotate_left
                · intro w hSw; (try dsimp only at hSw); go_simp; try (first | with_reducible rfl | (refine (if_pos ?_).trans ?_ <;> first | omega | with_reducible rfl))
                try simp only [Act.put, List.setIfInBounds_toArray, List.set_cons_zero, List.set_cons_succ]
                refine wpAnyH_take (i := 29) (oi := { dst := some 92, op := Op.pick (Operand.tmp 77) (Operand.const (Value.bool true)) (Operand.tmp 91), type := _, pos := _, after := _, guard := none }) (v := ?_) rfl (by kernel_rfl) (by kernel_rfl) (by kernel_rfl) (fun _ _ _ h => h) (Or.inl ⟨by rfl, ?_⟩) (by assumption) ?_
                rotate_left
                · intro w hSw; (try dsimp only at hSw); go_simp; try (first | with_reducible rfl | (refine (if_pos ?_).trans ?_ <;> first | omega | with_reducible rfl))
                try simp only [Act.put, List.setIfInBounds_toArray, List.set_cons_zero, List.set_cons_succ]
                refine wpAnyH_done (by kernel_rfl) ?_ _
                go_wp2_with fail
                exact ⟨⟨d + 1, by go_num, by omega, by omega, hid (HY.out.trans (HZ4.out.mono HY.out.size))⟩, by simp [intOf]; omega⟩
              · have HYX := hid (HZX.out.trans (HY.out.mono HZX.out.size))
                go_wp2_with fail
                exact ⟨⟨k + 1, by omega, by go_num, HYX⟩, by simp [intOf]; omega⟩
          · obtain rfl : k = l.length := by omega
            go_wp2_with fail
            exact ⟨⟨i + 1, by omega, by go_num, HZ⟩, by simp [intOf]; omega⟩
      · obtain rfl : i = es.length := by omega
        have HGM := hid (show getB other es (-1) = other by unfold getB; rw [if_neg (by omega)])
        have HGX := hid (show getB other es 1114112 = other by unfold getB; rw [if_neg (by omega)])
        go_wp2_with fail
        refine (get_any (r := -1) (HT5.out.below HZ.out) HMP.out.1 HMP.out.2 (by decide)).mono ?_
        rintro e w6 ⟨rfl, hb⟩
        rw [HGM.out]
        have HZ6 := hid (ends_true HZ.out hb)
        clear hb
        go_wp2_with fail
        refine (get_any (r := 1114112) (HT5.out.below HZ6.out) HMP.out.1 HMP.out.2 (by decide)).mono ?_
        rintro e w7 ⟨rfl, hb⟩
        rw [HGX.out]
        have HZ7 := hid (ends_true HB5.out (ends_true HZ6.out hb))
        clear hb
        go_wp2_with fail
        go_ret
        exact ⟨rfl, HZ7.out⟩
end Go.Proofs.Ytehchnagjdmdgaa
