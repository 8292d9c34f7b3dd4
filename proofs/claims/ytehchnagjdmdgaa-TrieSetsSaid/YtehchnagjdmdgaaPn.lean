/- The document's points of a list of ranges. Conditions: ranges that may be, in memory. -/
import Derived.Test.YtehchnagjdmdgaaIn
namespace Go.Proofs.Ytehchnagjdmdgaa
open Go.RowKit
set_option linter.unusedSimpArgs false
theorem fold_take {α : Type} (f : α → Rng → α) (a : α) {l : List Rng} {i : Nat} (h : i < l.length) : (l.take (i + 1)).foldl f a = f ((l.take i).foldl f a) (rng l i) := by
  rw [take_rng h, foldl_snoc]
set_option maxRecDepth 100000 in
set_option maxHeartbeats 2000000 in
theorem points_any (S : Nat → Prop) (A : Option Addr) (c : Nat) (l : List Rng) (w : World) (h : IsRngs w S (.slice A l.length c) l) (hok : ∀ x ∈ l, okR x) (hl : l.length ≤ 10000) :
    Calls Try.prog 46 #[.slice A l.length c] w fun e w' => ∃ v', e = .returned v' ∧ IsNums .i32 w' (fun b => w.heap.size ≤ b) v' (pts2 l) ∧ Below w.heap.size w w' := by
  have H := hid h
  clear h
  obtain ⟨W1, hW1⟩ : ∃ W, W = w.alloc (.cells #[.int .i32 0] 21) := ⟨_, rfl⟩
  have HB1 := hid (show Below w.heap.size w W1 by rw [hW1]; exact (Below.refl _ _).alloc (Nat.le_refl _) _)
  have HN1 := hid (show IsNums .i32 W1 (fun b => w.heap.size ≤ b) (.slice (some ⟨w.heap.size, 0, none⟩) 1 1) [0] by
    rw [hW1]
    exact (IntBlk.nums (l := [0]) (show (w.alloc (.cells #[.int .i32 0] 21)).heap[w.heap.size]? = _ from heap_alloc_new _ _) (by decide)).mono fun b h _ => by show _ ≤ b; omega)
  have HW1 := hid hW1
  clear hW1
  go_enter Try.func46, Try.ntmps46
  go_wp2_with fail
  rw [← HW1.out]
  go_loopw [3, 4] (fun s3 s4 wr => ∃ (i : Nat) (v : Value), i ≤ l.length ∧ s4 = .int .i64 i ∧ s3 = v ∧ Hid (IsNums .i32 wr (fun b => w.heap.size ≤ b) v ((l.take i).foldl insR [0])) ∧ Hid (Below w.heap.size w wr)) (fun _ s4 _ => l.length - (intOf s4).toNat)
  case atStart => exact ⟨0, _, by omega, rfl, rfl, HN1, HB1⟩
  case round =>
    obtain ⟨i, v, hi, rfl, e3, HR, HB⟩ := hrel
    subst e3
    obtain ⟨L, hL⟩ : ∃ L, L = (l.take i).foldl insR [0] := ⟨_, rfl⟩
    have HLN := hid (show L.length ≤ 50000 by
      have h := ins_fold_len (l.take i) [0]
      rw [List.length_take, ← hL] at h
      simp only [List.length_cons, List.length_nil] at h
      omega)
    have HBS := hid HB.out.size
    by_cases hlt : i < l.length
    · obtain ⟨b, o, rfl, -, hb, c0, c1, hr⟩ := H.out.at hlt
      have HNX := hid (show (l.take (i + 1)).foldl insR [0] = insB (insB L (rng l i).1) ((rng l i).2 + 1) by rw [fold_take _ _ hlt, ← hL]; rfl)
      have hokx := hok _ (rng_mem hlt)
      unfold okR at hokx
      rw [← hL] at HR
      obtain ⟨x1, hx1⟩ : ∃ x, x = (rng l i).1 := ⟨_, rfl⟩
      obtain ⟨x2, hx2⟩ : ∃ x, x = (rng l i).2 := ⟨_, rfl⟩
      rw [← hx1, ← hx2] at hokx HNX
      rw [← hx1] at c0
      rw [← hx2] at c1
      have hwr : IntKind.i32.wrap (x2 + 1) = x2 + 1 := by simp [IntKind.wrap, IntKind.bits, IntKind.signed]; omega
      have HXC := hid (show ∀ Y, Below w.heap.size w Y → Y.cell? ⟨b, o + i * 2, none⟩ = some (.int .i32 x1) ∧ Y.cell? ⟨b, o + i * 2 + 1, none⟩ = some (.int .i32 x2) from fun Y hY =>
        ⟨(hY.cell (p := ⟨b, o + i * 2, none⟩) hb).trans c0, (hY.cell (p := ⟨b, o + i * 2 + 1, none⟩) hb).trans c1⟩)
      clear c0 c1 hx1 hx2 hL hr
      go_wp2_with fail
      refine wp_region_held_drew (S := (fun Y => Y.cell? ⟨b, o + i * 2, none⟩ = some (.int .i32 x1) ∧ Y.cell? ⟨b, o + i * 2 + 1, none⟩ = some (.int .i32 x2))) (by kernel_rfl) (by first | exact HXC.out _ HB.out.drew | exact HXC.out _ HB.out) (fun hHeld => ?_)
      refine wpAnyH_take (i := 0) (oi := { dst := some 12, op := Op.move (Operand.tmp 3), type := _, pos := _, after := _, guard := none }) (v := ?_) rfl (by kernel_rfl) (by kernel_rfl) (by kernel_rfl) (fun _ _ _ h => h) (Or.inl ⟨by rfl, ?_⟩) (by assumption) ?_
      rotate_left
      · intro w hSw; (try dsimp only at hSw); go_simp; try (first | with_reducible rfl | (refine (if_pos ?_).trans ?_ <;> first | omega | with_reducible rfl))
      try simp only [Act.put, List.setIfInBounds_toArray, List.set_cons_zero, List.set_cons_succ]
      refine wpAnyH_take (i := 1) (oi := { dst := some 13, op := Op.move (Operand.tmp 0), type := _, pos := _, after := _, guard := none }) (v := ?_) rfl (by kernel_rfl) (by kernel_rfl) (by kernel_rfl) (fun _ _ _ h => h) (Or.inl ⟨by rfl, ?_⟩) (by assumption) ?_
      rotate_left
      · intro w hSw; (try dsimp only at hSw); go_simp; try (first | with_reducible rfl | (refine (if_pos ?_).trans ?_ <;> first | omega | with_reducible rfl))
      try simp only [Act.put, List.setIfInBounds_toArray, List.set_cons_zero, List.set_cons_succ]
      refine wpAnyH_take (i := 2) (oi := { dst := some 14, op := Op.move (Operand.tmp 4), type := _, pos := _, after := _, guard := none }) (v := ?_) rfl (by kernel_rfl) (by kernel_rfl) (by kernel_rfl) (fun _ _ _ h => h) (Or.inl ⟨by rfl, ?_⟩) (by assumption) ?_
      rotate_left
      · intro w hSw; (try dsimp only at hSw); go_simp; try (first | with_reducible rfl | (refine (if_pos ?_).trans ?_ <;> first | omega | with_reducible rfl))
      try simp only [Act.put, List.setIfInBounds_toArray, List.set_cons_zero, List.set_cons_succ]
      refine wpAnyH_take (i := 3) (oi := { dst := some 15, op := Op.indexAddr 36 (Operand.tmp 13) (Operand.tmp 14), type := _, pos := _, after := _, guard := none }) (v := ?_) rfl (by kernel_rfl) (by kernel_rfl) (by kernel_rfl) (fun _ _ _ h => h) (Or.inl ⟨by rfl, ?_⟩) (by assumption) ?_
      rotate_left
      · intro w hSw; (try dsimp only at hSw); go_simp; try (first | with_reducible rfl | (refine (if_pos ?_).trans ?_ <;> first | omega | with_reducible rfl))
      try simp only [Act.put, List.setIfInBounds_toArray, List.set_cons_zero, List.set_cons_succ]
      refine wpAnyH_take (i := 4) (oi := { dst := some 16, op := Op.fieldAddr 40 (Operand.tmp 15) 0, type := _, pos := _, after := _, guard := none }) (v := ?_) rfl (by kernel_rfl) (by kernel_rfl) (by kernel_rfl) (fun _ _ _ h => h) (Or.inl ⟨by rfl, ?_⟩) (by assumption) ?_
      rotate_left
      · intro w hSw; (try dsimp only at hSw); go_simp; try (first | with_reducible rfl | (refine (if_pos ?_).trans ?_ <;> first | omega | with_reducible rfl))
      try simp only [Act.put, List.setIfInBounds_toArray, List.set_cons_zero, List.set_cons_succ]
      refine wpAnyH_take (i := 5) (oi := { dst := some 17, op := Op.load 21 (Operand.tmp 16), type := _, pos := _, after := _, guard := none }) (v := ?_) rfl (by kernel_rfl) (by kernel_rfl) (by kernel_rfl) (fun _ _ _ h => h) (Or.inl ⟨by rfl, ?_⟩) (by assumption) ?_
      rotate_left
      · intro w hSw; (try dsimp only at hSw); go_simp; try (first | with_reducible rfl | (refine (if_pos ?_).trans ?_ <;> first | omega | with_reducible rfl))
      try simp only [Act.put, List.setIfInBounds_toArray, List.set_cons_zero, List.set_cons_succ]
      refine wpAnyH_take (i := 7) (oi := { dst := some 19, op := Op.move (Operand.tmp 0), type := _, pos := _, after := _, guard := none }) (v := ?_) rfl (by kernel_rfl) (by kernel_rfl) (by kernel_rfl) (fun _ _ _ h => h) (Or.inl ⟨by rfl, ?_⟩) (by assumption) ?_
      rotate_left
      · intro w hSw; (try dsimp only at hSw); go_simp; try (first | with_reducible rfl | (refine (if_pos ?_).trans ?_ <;> first | omega | with_reducible rfl))
      try simp only [Act.put, List.setIfInBounds_toArray, List.set_cons_zero, List.set_cons_succ]
      refine wpAnyH_take (i := 8) (oi := { dst := some 20, op := Op.move (Operand.tmp 4), type := _, pos := _, after := _, guard := none }) (v := ?_) rfl (by kernel_rfl) (by kernel_rfl) (by kernel_rfl) (fun _ _ _ h => h) (Or.inl ⟨by rfl, ?_⟩) (by assumption) ?_
      rotate_left
      · intro w hSw; (try dsimp only at hSw); go_simp; try (first | with_reducible rfl | (refine (if_pos ?_).trans ?_ <;> first | omega | with_reducible rfl))
      try simp only [Act.put, List.setIfInBounds_toArray, List.set_cons_zero, List.set_cons_succ]
      refine wpAnyH_take (i := 9) (oi := { dst := some 21, op := Op.indexAddr 36 (Operand.tmp 19) (Operand.tmp 20), type := _, pos := _, after := _, guard := none }) (v := ?_) rfl (by kernel_rfl) (by kernel_rfl) (by kernel_rfl) (fun _ _ _ h => h) (Or.inl ⟨by rfl, ?_⟩) (by assumption) ?_
      rotate_left
      · intro w hSw; (try dsimp only at hSw); go_simp; try (first | with_reducible rfl | (refine (if_pos ?_).trans ?_ <;> first | omega | with_reducible rfl))
      try simp only [Act.put, List.setIfInBounds_toArray, List.set_cons_zero, List.set_cons_succ]
      refine wpAnyH_take (i := 10) (oi := { dst := some 22, op := Op.fieldAddr 40 (Operand.tmp 21) 1, type := _, pos := _, after := _, guard := none }) (v := ?_) rfl (by kernel_rfl) (by kernel_rfl) (by kernel_rfl) (fun _ _ _ h => h) (Or.inl ⟨by rfl, ?_⟩) (by assumption) ?_
      rotate_left
      · intro w hSw; (try dsimp only at hSw); go_simp; try (first | with_reducible rfl | (refine (if_pos ?_).trans ?_ <;> first | omega | with_reducible rfl))
      try simp only [Act.put, List.setIfInBounds_toArray, List.set_cons_zero, List.set_cons_succ]
      refine wpAnyH_take (i := 11) (oi := { dst := some 23, op := Op.load 21 (Operand.tmp 22), type := _, pos := _, after := _, guard := none }) (v := ?_) rfl (by kernel_rfl) (by kernel_rfl) (by kernel_rfl) (fun _ _ _ h => h) (Or.inl ⟨by rfl, ?_⟩) (by assumption) ?_
      rotate_left
      · intro w hSw; (try dsimp only at hSw); go_simp; try (first | with_reducible rfl | (refine (if_pos ?_).trans ?_ <;> first | omega | with_reducible rfl))
      try simp only [Act.put, List.setIfInBounds_toArray, List.set_cons_zero, List.set_cons_succ]
      refine wpAnyH_take (i := 12) (oi := { dst := some 24, op := Op.binOp BinOp.add 21 (Operand.tmp 23) (Operand.const (Value.int IntKind.i32 1)) 21, type := _, pos := _, after := _, guard := none }) (v := ?_) rfl (by kernel_rfl) (by kernel_rfl) (by kernel_rfl) (fun _ _ _ h => h) (Or.inl ⟨by rfl, ?_⟩) (by assumption) ?_
      rotate_left
      · intro w hSw; (try dsimp only at hSw); go_simp; try (first | with_reducible rfl | (refine (if_pos ?_).trans ?_ <;> first | omega | with_reducible rfl))
      try simp only [Act.put, List.setIfInBounds_toArray, List.set_cons_zero, List.set_cons_succ]
      refine wpAnyH_ready (rs := [6]) (by kernel_rfl) (by simp) ?_
      refine AllReadyH.cons (o := { dst := some 18, op := Op.call { callee := Callee.value (Operand.func 58), args := #[Operand.tmp 12, Operand.tmp 17], argTypes := #[23, 21] }, type := _, pos := _, after := _, guard := none }) rfl (fun K hK => ?_) AllReadyH.nil
      go_simp
      refine (insert_any _ _ _ x1 _ ((HR.out.below ((Below.refl _ _).drew))) (by have := HLN.out; omega)).mono ?_
      rintro e wa ⟨va, rfl, hna, hba⟩
      have HNA := hid (hna.mono fun b h _ => h.elim id fun h => Nat.le_trans HBS.out h)
      have HBA := hid (ends_true HB.out.drew hba)
      have HBAS := hid (Nat.le_trans HBS.out hba.size)
      clear hna hba
      refine hK.out _ _ (by exact HXC.out _ HBA.out) (fun hHeld => ?_)
      clear hK K
      try simp only [Act.put, List.setIfInBounds_toArray, List.set_cons_zero, List.set_cons_succ]
      refine wpAnyH_ready (rs := [13]) (by kernel_rfl) (by simp) ?_
      refine AllReadyH.cons (o := { dst := some 25, op := Op.call { callee := Callee.value (Operand.func 58), args := #[Operand.tmp 18, Operand.tmp 24], argTypes := #[23, 21] }, type := _, pos := _, after := _, guard := none }) rfl (fun K hK => ?_) AllReadyH.nil
      go_simp
      refine (insert_any _ _ _ (x2 + 1) _ HNA.out (by have := @insB_len (L) x1; have := HLN.out; omega)).mono ?_
      rintro e wb ⟨vb, rfl, hnb, hbb⟩
      have HNB := hid (hnb.mono fun b h _ => h.elim id fun h => Nat.le_trans HBAS.out h)
      have HBB := hid (ends_true HBA.out hbb)
      clear hnb hbb
      refine hK.out _ _ (by exact HXC.out _ HBB.out) (fun hHeld => ?_)
      clear hK K
      try simp only [Act.put, List.setIfInBounds_toArray, List.set_cons_zero, List.set_cons_succ]
      refine wpAnyH_take (i := 14) (oi := { dst := some 3, op := Op.assign (Operand.tmp 25), type := _, pos := _, after := _, guard := none }) (v := ?_) rfl (by kernel_rfl) (by kernel_rfl) (by kernel_rfl) (fun _ _ _ h => h) (Or.inl ⟨by rfl, ?_⟩) (by assumption) ?_
      rotate_left
      · intro w hSw; (try dsimp only at hSw); go_simp; try (first | with_reducible rfl | (refine (if_pos ?_).trans ?_ <;> first | omega | with_reducible rfl))
      try simp only [Act.put, List.setIfInBounds_toArray, List.set_cons_zero, List.set_cons_succ]
      refine wpAnyH_done (by kernel_rfl) ?_ _
      clear hwr
      go_wp2_with fail
      exact ⟨⟨i + 1, _, by omega, by go_num, rfl, hid (by rw [HNX.out]; exact HNB.out), HBB⟩, by simp [intOf]; omega⟩
    · obtain rfl : i = l.length := by omega
      have HPT := hid (show pts2 l = insB L 1114112 by rw [hL, List.take_length]; rfl)
      rw [← hL] at HR
      clear hL
      go_wp2_with fail
      refine (insert_any _ _ _ 1114112 _ HR.out (by have := HLN.out; omega)).mono ?_
      rintro e wa ⟨va, rfl, hna, hba⟩
      have HNA := hid (hna.mono fun b h _ => h.elim id fun h => Nat.le_trans HBS.out h)
      have HBA := hid (ends_true HB.out hba)
      clear hna hba
      go_wp2_with fail
      go_ret
      exact ⟨_, rfl, by rw [HPT.out]; exact HNA.out, HBA.out⟩
end Go.Proofs.Ytehchnagjdmdgaa
