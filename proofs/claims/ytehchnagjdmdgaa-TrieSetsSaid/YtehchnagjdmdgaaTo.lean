/- The given entries as the program's. Conditions: entries in memory, not too many. -/
import Derived.Test.YtehchnagjdmdgaaOw
namespace Go.Proofs.Ytehchnagjdmdgaa
open Go.RowKit
set_option linter.unusedSimpArgs false
theorem IsRngs.mono {w : World} {S S' : Nat → Prop} {v : Value} {l : List Rng} (h : IsRngs w S v l) (hS : ∀ b, S b → b < w.heap.size → S' b) : IsRngs w S' v l := h.imp (fun _ _ _ => rfl) hS
set_option maxRecDepth 100000 in
set_option maxHeartbeats 2000000 in
theorem toR_any (S : Nat → Prop) (A : Option Addr) (c : Nat) (l : List Rng) (w : World) (h : IsRngs w S (.slice A l.length c) l) (hl : l.length ≤ 1000) :
    Calls Try.prog 29 #[.slice A l.length c] w fun e w' => ∃ A1 n1 c1, e = .returned (.slice A1 n1 c1) ∧ IsRngs w' (fun b => w.heap.size ≤ b) (.slice A1 n1 c1) l ∧ Below w.heap.size w w' := by
  have H := hid h
  clear h
  go_enter Try.func29, Try.ntmps29
  go_wp2_with fail
  go_loopw [3, 4] (fun s3 s4 wr => ∃ (k : Nat) (v : Value), k ≤ l.length ∧ s4 = .int .i64 k ∧ s3 = v ∧ Hid (OwnR wr w.heap.size v (l.take k)) ∧ Hid (Below w.heap.size w wr)) (fun _ s4 _ => l.length - (intOf s4).toNat)
  case atStart => exact ⟨0, _, by omega, rfl, rfl, hid (OwnR.nil _ _), hid (Below.refl _ _)⟩
  case round =>
    obtain ⟨k, v, hk, rfl, e3, HR, HB⟩ := hrel
    subst e3
    by_cases hlt : k < l.length
    · obtain ⟨b, o, rfl, -, hbl, c0, c1, hr⟩ := H.out.at hlt
      have HTK := hid (show l.take (k + 1) = l.take k ++ [((rng l k).1, (rng l k).2)] from take_rng hlt)
      have HX := hid (show r32 ((rng l k).1, (rng l k).2) from hr)
      obtain ⟨x1, hx1⟩ : ∃ z, z = (rng l k).1 := ⟨_, rfl⟩
      obtain ⟨x2, hx2⟩ : ∃ z, z = (rng l k).2 := ⟨_, rfl⟩
      rw [← hx1, ← hx2] at HTK HX
      rw [← hx1] at c0
      rw [← hx2] at c1
      have HKE := hid (show ∀ Y, Below w.heap.size w Y → Y.cell? ⟨b, o + k * 2, none⟩ = some (.int .i32 x1) ∧ Y.cell? ⟨b, o + k * 2 + 1, none⟩ = some (.int .i32 x2) from fun Y hY =>
        ⟨(hY.cell (p := ⟨b, o + k * 2, none⟩) hbl).trans c0, (hY.cell (p := ⟨b, o + k * 2 + 1, none⟩) hbl).trans c1⟩)
      have HKL := hid (show (l.take k).length = k by rw [List.length_take]; omega)
      have HLK := hid (show (l.take k).length ≤ 1000000 by rw [List.length_take]; omega)
      clear hx1 hx2 hr c0 c1 hbl
      go_wp2_with fail
      refine wp_region_held_drew (S := (fun Y => Y.cell? ⟨b, o + k * 2, none⟩ = some (.int .i32 x1) ∧ Y.cell? ⟨b, o + k * 2 + 1, none⟩ = some (.int .i32 x2))) (by kernel_rfl) (by first | exact HKE.out _ HB.out | exact HKE.out _ HB.out.drew) (fun hHeld => ?_)
      refine wpAnyH_take (i := 0) (oi := { dst := some 11, op := Op.move (Operand.tmp 3), type := _, pos := _, after := _, guard := none }) (v := ?_) rfl (by kernel_rfl) (by kernel_rfl) (by kernel_rfl) (fun _ _ _ h => h) (Or.inl ⟨by rfl, ?_⟩) (by assumption) ?_
      rotate_left
      · intro w hSw; (try dsimp only at hSw); go_simp; try with_reducible rfl
      try simp only [Act.put, List.setIfInBounds_toArray, List.set_cons_zero, List.set_cons_succ]
      refine wpAnyH_take (i := 1) (oi := { dst := some 12, op := Op.move (Operand.tmp 0), type := _, pos := _, after := _, guard := none }) (v := ?_) rfl (by kernel_rfl) (by kernel_rfl) (by kernel_rfl) (fun _ _ _ h => h) (Or.inl ⟨by rfl, ?_⟩) (by assumption) ?_
      rotate_left
      · intro w hSw; (try dsimp only at hSw); go_simp; try with_reducible rfl
      try simp only [Act.put, List.setIfInBounds_toArray, List.set_cons_zero, List.set_cons_succ]
      refine wpAnyH_take (i := 2) (oi := { dst := some 13, op := Op.move (Operand.tmp 4), type := _, pos := _, after := _, guard := none }) (v := ?_) rfl (by kernel_rfl) (by kernel_rfl) (by kernel_rfl) (fun _ _ _ h => h) (Or.inl ⟨by rfl, ?_⟩) (by assumption) ?_
      rotate_left
      · intro w hSw; (try dsimp only at hSw); go_simp; try with_reducible rfl
      try simp only [Act.put, List.setIfInBounds_toArray, List.set_cons_zero, List.set_cons_succ]
      refine wpAnyH_take (i := 3) (oi := { dst := some 14, op := Op.indexAddr 36 (Operand.tmp 12) (Operand.tmp 13), type := _, pos := _, after := _, guard := none }) (v := ?_) rfl (by kernel_rfl) (by kernel_rfl) (by kernel_rfl) (fun _ _ _ h => h) (Or.inl ⟨by rfl, ?_⟩) (by assumption) ?_
      rotate_left
      · intro w hSw; (try dsimp only at hSw); go_simp; try with_reducible rfl
      try simp only [Act.put, List.setIfInBounds_toArray, List.set_cons_zero, List.set_cons_succ]
      refine wpAnyH_take (i := 4) (oi := { dst := some 15, op := Op.fieldAddr 40 (Operand.tmp 14) 0, type := _, pos := _, after := _, guard := none }) (v := ?_) rfl (by kernel_rfl) (by kernel_rfl) (by kernel_rfl) (fun _ _ _ h => h) (Or.inl ⟨by rfl, ?_⟩) (by assumption) ?_
      rotate_left
      · intro w hSw; (try dsimp only at hSw); go_simp; try with_reducible rfl
      try simp only [Act.put, List.setIfInBounds_toArray, List.set_cons_zero, List.set_cons_succ]
      refine wpAnyH_take (i := 5) (oi := { dst := some 16, op := Op.load 21 (Operand.tmp 15), type := _, pos := _, after := _, guard := none }) (v := ?_) rfl (by kernel_rfl) (by kernel_rfl) (by kernel_rfl) (fun _ _ _ h => h) (Or.inl ⟨by rfl, ?_⟩) (by assumption) ?_
      rotate_left
      · intro w hSw; (try dsimp only at hSw); go_simp; try with_reducible rfl
      try simp only [Act.put, List.setIfInBounds_toArray, List.set_cons_zero, List.set_cons_succ]
      refine wpAnyH_take (i := 6) (oi := { dst := some 17, op := Op.move (Operand.tmp 0), type := _, pos := _, after := _, guard := none }) (v := ?_) rfl (by kernel_rfl) (by kernel_rfl) (by kernel_rfl) (fun _ _ _ h => h) (Or.inl ⟨by rfl, ?_⟩) (by assumption) ?_
      rotate_left
      · intro w hSw; (try dsimp only at hSw); go_simp; try with_reducible rfl
      try simp only [Act.put, List.setIfInBounds_toArray, List.set_cons_zero, List.set_cons_succ]
      refine wpAnyH_take (i := 7) (oi := { dst := some 18, op := Op.move (Operand.tmp 4), type := _, pos := _, after := _, guard := none }) (v := ?_) rfl (by kernel_rfl) (by kernel_rfl) (by kernel_rfl) (fun _ _ _ h => h) (Or.inl ⟨by rfl, ?_⟩) (by assumption) ?_
      rotate_left
      · intro w hSw; (try dsimp only at hSw); go_simp; try with_reducible rfl
      try simp only [Act.put, List.setIfInBounds_toArray, List.set_cons_zero, List.set_cons_succ]
      refine wpAnyH_take (i := 8) (oi := { dst := some 19, op := Op.indexAddr 36 (Operand.tmp 17) (Operand.tmp 18), type := _, pos := _, after := _, guard := none }) (v := ?_) rfl (by kernel_rfl) (by kernel_rfl) (by kernel_rfl) (fun _ _ _ h => h) (Or.inl ⟨by rfl, ?_⟩) (by assumption) ?_
      rotate_left
      · intro w hSw; (try dsimp only at hSw); go_simp; try with_reducible rfl
      try simp only [Act.put, List.setIfInBounds_toArray, List.set_cons_zero, List.set_cons_succ]
      refine wpAnyH_take (i := 9) (oi := { dst := some 20, op := Op.fieldAddr 40 (Operand.tmp 19) 1, type := _, pos := _, after := _, guard := none }) (v := ?_) rfl (by kernel_rfl) (by kernel_rfl) (by kernel_rfl) (fun _ _ _ h => h) (Or.inl ⟨by rfl, ?_⟩) (by assumption) ?_
      rotate_left
      · intro w hSw; (try dsimp only at hSw); go_simp; try with_reducible rfl
      try simp only [Act.put, List.setIfInBounds_toArray, List.set_cons_zero, List.set_cons_succ]
      refine wpAnyH_take (i := 10) (oi := { dst := some 21, op := Op.load 21 (Operand.tmp 20), type := _, pos := _, after := _, guard := none }) (v := ?_) rfl (by kernel_rfl) (by kernel_rfl) (by kernel_rfl) (fun _ _ _ h => h) (Or.inl ⟨by rfl, ?_⟩) (by assumption) ?_
      rotate_left
      · intro w hSw; (try dsimp only at hSw); go_simp; try with_reducible rfl
      try simp only [Act.put, List.setIfInBounds_toArray, List.set_cons_zero, List.set_cons_succ]
      refine wpAnyH_take (i := 11) (oi := { dst := some 22, op := Op.build 56 #[(0, Operand.tmp 16), (1, Operand.tmp 21)], type := _, pos := _, after := _, guard := none }) (v := ?_) rfl (by kernel_rfl) (by kernel_rfl) (by kernel_rfl) (fun _ _ _ h => h) (Or.inl ⟨by rfl, ?_⟩) (by assumption) ?_
      rotate_left
      · intro w hSw; (try dsimp only at hSw); go_simp; try with_reducible rfl
      try simp only [Act.put, List.setIfInBounds_toArray, List.set_cons_zero, List.set_cons_succ]
      refine wpAnyH_ready (rs := [12]) (by kernel_rfl) (by simp) ?_
      refine AllReadyH.cons (o := { dst := some 23, op := Op.buildSlice 43 1 #[(0, Operand.tmp 22)], type := _, pos := _, after := _, guard := none }) rfl (fun K hK => ?_) AllReadyH.nil
      go_simp
      have HB1 := hid (HB.out.drew.alloc HB.out.size (.cells #[.int .i32 x1, .int .i32 x2] 56))
      refine hK.out _ _ (by exact HKE.out _ HB1.out) (fun hHeld => ?_)
      clear hK K
      try simp only [Act.put, List.setIfInBounds_toArray, List.set_cons_zero, List.set_cons_succ]
      refine wpAnyH_ready (rs := [13]) (by kernel_rfl) (by simp) ?_
      refine AllReadyH.cons (o := { dst := some 24, op := Op.call { callee := Callee.builtin Builtin.append, args := #[Operand.tmp 11, Operand.tmp 23], argTypes := #[43, 43] }, type := _, pos := _, after := _, guard := none }) rfl (fun K hK => ?_) AllReadyH.nil
      rw [if_pos (by rfl)]
      refine wp_app_rng (.tmp 11) (.tmp 23) rfl (w0 := wr.drew) (y := (x1, x2)) rfl rfl (show OwnR wr.drew w.heap.size _ (l.take k) from HR.out) rfl HX.out HLK.out HB.out.size ?_
      intro A4 c4 w4 ho4 hg4 hv4
      have HO4 := hid (show OwnR w4 w.heap.size (.slice A4 (k + 1) c4) (l.take (k + 1)) by rw [HTK.out]; have h := ho4; rwa [HKL.out] at h)
      have HB4 := hid (HB1.out.grown hg4 HB1.out.size fun j e => (HR.out.1.lt j e).1)
      clear ho4 hg4 hv4
      refine hK.out _ _ (by exact HKE.out _ HB4.out) (fun hHeld => ?_)
      clear hK K
      try simp only [Act.put, List.setIfInBounds_toArray, List.set_cons_zero, List.set_cons_succ]
      refine wpAnyH_take (i := 14) (oi := { dst := some 3, op := Op.assign (Operand.tmp 24), type := _, pos := _, after := _, guard := none }) (v := ?_) rfl (by kernel_rfl) (by kernel_rfl) (by kernel_rfl) (fun _ _ _ h => h) (Or.inl ⟨by rfl, ?_⟩) (by assumption) ?_
      rotate_left
      · intro w hSw; (try dsimp only at hSw); go_simp; try with_reducible rfl
      try simp only [Act.put, List.setIfInBounds_toArray, List.set_cons_zero, List.set_cons_succ]
      refine wpAnyH_done (by kernel_rfl) ?_ _
      go_wp2_with fail
      exact ⟨⟨k + 1, _, by omega, by go_num, rfl, HO4, HB4⟩, by simp [intOf]; omega⟩
    · obtain rfl : k = l.length := by omega
      have HRR := hid (show OwnR wr w.heap.size _ l by have h := HR.out; rw [List.take_length] at h; exact h)
      clear HR
      obtain ⟨A1, c1, e1⟩ := HRR.out.is.form
      subst e1
      go_wp2_with fail
      go_ret
      exact ⟨_, _, _, rfl, HRR.out.is.mono fun b hb _ => hb.1, HB.out⟩
set_option maxRecDepth 100000 in
set_option maxHeartbeats 2000000 in
theorem to_own (S : Nat → Prop) (A : Option Addr) (c : Nat) (es : List Ent) (w : World) (h : IsEnts w S (.slice A es.length c) es) (hl : es.length ≤ 1000) (hl2 : ∀ e ∈ es, e.1.length ≤ 1000) :
    Calls Try.prog 11 #[.slice A es.length c] w fun e w' => ∃ A1 c1, e = .returned (.slice A1 es.length c1) ∧ OwnE w' w.heap.size (.slice A1 es.length c1) es ∧ Below w.heap.size w w' := by
  have H := hid h
  have HL2 := hid hl2
  clear h hl2
  go_enter Try.func11, Try.ntmps11
  go_wp2_with fail
  go_loopw [3, 4] (fun s3 s4 wr => ∃ (k : Nat) (v : Value), k ≤ es.length ∧ s4 = .int .i64 k ∧ s3 = v ∧ Hid (OwnE wr w.heap.size v (es.take k)) ∧ Hid (Below w.heap.size w wr)) (fun _ s4 _ => es.length - (intOf s4).toNat)
  case atStart => exact ⟨0, _, by omega, rfl, rfl, hid (OwnE.nil _ _), hid (Below.refl _ _)⟩
  case round =>
    obtain ⟨k, v, hk, rfl, e3, HR, HB⟩ := hrel
    subst e3
    by_cases hlt : k < es.length
    · obtain ⟨b, o, SA, sc, rfl, -, hbl, c0, c1, hr, hyb⟩ := H.out.at hlt
      have HTK := hid (show es.take (k + 1) = es.take k ++ [((ent es k).1, (ent es k).2)] from take_ent hlt)
      have HSR := hid (hr.below HB.out)
      have HSL := hid (HL2.out _ (ent_mem hlt))
      have HYB := hid hyb
      obtain ⟨y, hy⟩ : ∃ z, z = (ent es k).2 := ⟨_, rfl⟩
      rw [← hy] at HTK HYB c1
      have HKE := hid (show ∀ Y, Below w.heap.size w Y → Y.cell? ⟨b, o + k * 2, none⟩ = some (.slice SA (ent es k).1.length sc) ∧ Y.cell? ⟨b, o + k * 2 + 1, none⟩ = some (.int .i64 y) from fun Y hY =>
        ⟨(hY.cell (p := ⟨b, o + k * 2, none⟩) hbl).trans c0, (hY.cell (p := ⟨b, o + k * 2 + 1, none⟩) hbl).trans c1⟩)
      have HKL := hid (show (es.take k).length = k by rw [List.length_take]; omega)
      have HLK := hid (show (es.take k).length ≤ 1000000 by rw [List.length_take]; omega)
      clear hy hr c0 c1 hbl hyb
      go_wp2_with fail
      refine wp_region_held_drew (S := (fun Y => Y.cell? ⟨b, o + k * 2, none⟩ = some (.slice SA (ent es k).1.length sc) ∧ Y.cell? ⟨b, o + k * 2 + 1, none⟩ = some (.int .i64 y))) (by kernel_rfl) (by first | exact HKE.out _ HB.out | exact HKE.out _ HB.out.drew) (fun hHeld => ?_)
      refine wpAnyH_take (i := 0) (oi := { dst := some 11, op := Op.move (Operand.tmp 3), type := _, pos := _, after := _, guard := none }) (v := ?_) rfl (by kernel_rfl) (by kernel_rfl) (by kernel_rfl) (fun _ _ _ h => h) (Or.inl ⟨by rfl, ?_⟩) (by assumption) ?_
      rotate_left
      · intro w hSw; (try dsimp only at hSw); go_simp; try with_reducible rfl
      try simp only [Act.put, List.setIfInBounds_toArray, List.set_cons_zero, List.set_cons_succ]
      refine wpAnyH_take (i := 1) (oi := { dst := some 12, op := Op.move (Operand.tmp 0), type := _, pos := _, after := _, guard := none }) (v := ?_) rfl (by kernel_rfl) (by kernel_rfl) (by kernel_rfl) (fun _ _ _ h => h) (Or.inl ⟨by rfl, ?_⟩) (by assumption) ?_
      rotate_left
      · intro w hSw; (try dsimp only at hSw); go_simp; try with_reducible rfl
      try simp only [Act.put, List.setIfInBounds_toArray, List.set_cons_zero, List.set_cons_succ]
      refine wpAnyH_take (i := 2) (oi := { dst := some 13, op := Op.move (Operand.tmp 4), type := _, pos := _, after := _, guard := none }) (v := ?_) rfl (by kernel_rfl) (by kernel_rfl) (by kernel_rfl) (fun _ _ _ h => h) (Or.inl ⟨by rfl, ?_⟩) (by assumption) ?_
      rotate_left
      · intro w hSw; (try dsimp only at hSw); go_simp; try with_reducible rfl
      try simp only [Act.put, List.setIfInBounds_toArray, List.set_cons_zero, List.set_cons_succ]
      refine wpAnyH_take (i := 3) (oi := { dst := some 14, op := Op.indexAddr 22 (Operand.tmp 12) (Operand.tmp 13), type := _, pos := _, after := _, guard := none }) (v := ?_) rfl (by kernel_rfl) (by kernel_rfl) (by kernel_rfl) (fun _ _ _ h => h) (Or.inl ⟨by rfl, ?_⟩) (by assumption) ?_
      rotate_left
      · intro w hSw; (try dsimp only at hSw); go_simp; try with_reducible rfl
      try simp only [Act.put, List.setIfInBounds_toArray, List.set_cons_zero, List.set_cons_succ]
      refine wpAnyH_take (i := 4) (oi := { dst := some 15, op := Op.fieldAddr 38 (Operand.tmp 14) 0, type := _, pos := _, after := _, guard := none }) (v := ?_) rfl (by kernel_rfl) (by kernel_rfl) (by kernel_rfl) (fun _ _ _ h => h) (Or.inl ⟨by rfl, ?_⟩) (by assumption) ?_
      rotate_left
      · intro w hSw; (try dsimp only at hSw); go_simp; try with_reducible rfl
      try simp only [Act.put, List.setIfInBounds_toArray, List.set_cons_zero, List.set_cons_succ]
      refine wpAnyH_take (i := 5) (oi := { dst := some 16, op := Op.load 36 (Operand.tmp 15), type := _, pos := _, after := _, guard := none }) (v := ?_) rfl (by kernel_rfl) (by kernel_rfl) (by kernel_rfl) (fun _ _ _ h => h) (Or.inl ⟨by rfl, ?_⟩) (by assumption) ?_
      rotate_left
      · intro w hSw; (try dsimp only at hSw); go_simp; try with_reducible rfl
      try simp only [Act.put, List.setIfInBounds_toArray, List.set_cons_zero, List.set_cons_succ]
      refine wpAnyH_take (i := 7) (oi := { dst := some 18, op := Op.move (Operand.tmp 0), type := _, pos := _, after := _, guard := none }) (v := ?_) rfl (by kernel_rfl) (by kernel_rfl) (by kernel_rfl) (fun _ _ _ h => h) (Or.inl ⟨by rfl, ?_⟩) (by assumption) ?_
      rotate_left
      · intro w hSw; (try dsimp only at hSw); go_simp; try with_reducible rfl
      try simp only [Act.put, List.setIfInBounds_toArray, List.set_cons_zero, List.set_cons_succ]
      refine wpAnyH_take (i := 8) (oi := { dst := some 19, op := Op.move (Operand.tmp 4), type := _, pos := _, after := _, guard := none }) (v := ?_) rfl (by kernel_rfl) (by kernel_rfl) (by kernel_rfl) (fun _ _ _ h => h) (Or.inl ⟨by rfl, ?_⟩) (by assumption) ?_
      rotate_left
      · intro w hSw; (try dsimp only at hSw); go_simp; try with_reducible rfl
      try simp only [Act.put, List.setIfInBounds_toArray, List.set_cons_zero, List.set_cons_succ]
      refine wpAnyH_take (i := 9) (oi := { dst := some 20, op := Op.indexAddr 22 (Operand.tmp 18) (Operand.tmp 19), type := _, pos := _, after := _, guard := none }) (v := ?_) rfl (by kernel_rfl) (by kernel_rfl) (by kernel_rfl) (fun _ _ _ h => h) (Or.inl ⟨by rfl, ?_⟩) (by assumption) ?_
      rotate_left
      · intro w hSw; (try dsimp only at hSw); go_simp; try with_reducible rfl
      try simp only [Act.put, List.setIfInBounds_toArray, List.set_cons_zero, List.set_cons_succ]
      refine wpAnyH_take (i := 10) (oi := { dst := some 21, op := Op.fieldAddr 38 (Operand.tmp 20) 1, type := _, pos := _, after := _, guard := none }) (v := ?_) rfl (by kernel_rfl) (by kernel_rfl) (by kernel_rfl) (fun _ _ _ h => h) (Or.inl ⟨by rfl, ?_⟩) (by assumption) ?_
      rotate_left
      · intro w hSw; (try dsimp only at hSw); go_simp; try with_reducible rfl
      try simp only [Act.put, List.setIfInBounds_toArray, List.set_cons_zero, List.set_cons_succ]
      refine wpAnyH_take (i := 11) (oi := { dst := some 22, op := Op.load 3 (Operand.tmp 21), type := _, pos := _, after := _, guard := none }) (v := ?_) rfl (by kernel_rfl) (by kernel_rfl) (by kernel_rfl) (fun _ _ _ h => h) (Or.inl ⟨by rfl, ?_⟩) (by assumption) ?_
      rotate_left
      · intro w hSw; (try dsimp only at hSw); go_simp; try with_reducible rfl
      try simp only [Act.put, List.setIfInBounds_toArray, List.set_cons_zero, List.set_cons_succ]
      refine wpAnyH_ready (rs := [6]) (by kernel_rfl) (by simp) ?_
      refine AllReadyH.cons (o := { dst := some 17, op := Op.call { callee := Callee.value (Operand.func 29), args := #[Operand.tmp 16], argTypes := #[36] }, type := _, pos := _, after := _, guard := none }) rfl (fun K hK => ?_) AllReadyH.nil
      go_simp
      refine (toR_any S SA sc _ wr.drew (HSR.out.below (Below.refl wr.heap.size wr).drew) HSL.out).mono ?_
      rintro e w1 ⟨A1, n1, c1, rfl, ho1, hb1⟩
      have HO1 := hid ho1
      have HB1 := hid ((Below.refl wr.heap.size wr).drew.trans hb1)
      have HBB := hid (HB.out.trans (HB1.out.mono HB.out.size))
      clear ho1 hb1
      refine hK.out _ _ (by exact HKE.out _ HBB.out) (fun hHeld => ?_)
      clear hK K
      try simp only [Act.put, List.setIfInBounds_toArray, List.set_cons_zero, List.set_cons_succ]
      refine wpAnyH_take (i := 12) (oi := { dst := some 23, op := Op.build 58 #[(0, Operand.tmp 17), (1, Operand.tmp 22)], type := _, pos := _, after := _, guard := none }) (v := ?_) rfl (by kernel_rfl) (by kernel_rfl) (by kernel_rfl) (fun _ _ _ h => h) (Or.inl ⟨by rfl, ?_⟩) (by assumption) ?_
      rotate_left
      · intro w hSw; (try dsimp only at hSw); go_simp; try with_reducible rfl
      try simp only [Act.put, List.setIfInBounds_toArray, List.set_cons_zero, List.set_cons_succ]
      refine wpAnyH_ready (rs := [13]) (by kernel_rfl) (by simp) ?_
      refine AllReadyH.cons (o := { dst := some 24, op := Op.buildSlice 30 1 #[(0, Operand.tmp 23)], type := _, pos := _, after := _, guard := none }) rfl (fun K hK => ?_) AllReadyH.nil
      go_simp
      have HB2 := hid (HBB.out.alloc HBB.out.size (.cells #[.slice A1 n1 c1, .int .i64 y] 58))
      refine hK.out _ _ (by exact HKE.out _ HB2.out) (fun hHeld => ?_)
      clear hK K
      try simp only [Act.put, List.setIfInBounds_toArray, List.set_cons_zero, List.set_cons_succ]
      refine wpAnyH_ready (rs := [14]) (by kernel_rfl) (by simp) ?_
      refine AllReadyH.cons (o := { dst := some 25, op := Op.call { callee := Callee.builtin Builtin.append, args := #[Operand.tmp 11, Operand.tmp 24], argTypes := #[30, 30] }, type := _, pos := _, after := _, guard := none }) rfl (fun K hK => ?_) AllReadyH.nil
      rw [if_pos (by rfl)]
      refine wp_app_ent (.tmp 11) (.tmp 24) rfl (w0 := w1) (e := ((ent es k).1, y)) rfl rfl (HR.out.below HB1.out) rfl ⟨HO1.out.mono (fun b hb _ => ⟨Nat.le_trans HB.out.size hb, fun e => by have hb' : wr.heap.size ≤ b := hb; have := (HR.out.lt b e).2; omega⟩), rfl, HYB.out⟩ HLK.out HBB.out.size ?_
      intro A4 c4 w4 ho4 hg4
      have HO4 := hid (show OwnE w4 w.heap.size (.slice A4 (k + 1) c4) (es.take (k + 1)) by rw [HTK.out]; have h := ho4; rwa [HKL.out] at h)
      have HB4 := hid (HB2.out.grown hg4 HB2.out.size fun j e => (HR.out.lt j e).1)
      clear ho4 hg4
      refine hK.out _ _ (by exact HKE.out _ HB4.out) (fun hHeld => ?_)
      clear hK K
      try simp only [Act.put, List.setIfInBounds_toArray, List.set_cons_zero, List.set_cons_succ]
      refine wpAnyH_take (i := 15) (oi := { dst := some 3, op := Op.assign (Operand.tmp 25), type := _, pos := _, after := _, guard := none }) (v := ?_) rfl (by kernel_rfl) (by kernel_rfl) (by kernel_rfl) (fun _ _ _ h => h) (Or.inl ⟨by rfl, ?_⟩) (by assumption) ?_
      rotate_left
      · intro w hSw; (try dsimp only at hSw); go_simp; try with_reducible rfl
      try simp only [Act.put, List.setIfInBounds_toArray, List.set_cons_zero, List.set_cons_succ]
      refine wpAnyH_done (by kernel_rfl) ?_ _
      go_wp2_with fail
      exact ⟨⟨k + 1, _, by omega, by go_num, rfl, HO4, HB4⟩, by simp [intOf]; omega⟩
    · obtain rfl : k = es.length := by omega
      have HRR := hid (show OwnE wr w.heap.size _ es by have h := HR.out; rw [List.take_length] at h; exact h)
      clear HR
      obtain ⟨A1, c1, e1⟩ := HRR.out.is.form
      subst e1
      go_wp2_with fail
      go_ret
      exact ⟨_, _, rfl, HRR.out, HB.out⟩
theorem to_any (S : Nat → Prop) (A : Option Addr) (c : Nat) (es : List Ent) (w : World) (h : IsEnts w S (.slice A es.length c) es) (hl : es.length ≤ 1000) (hl2 : ∀ e ∈ es, e.1.length ≤ 1000) :
    Calls Try.prog 11 #[.slice A es.length c] w fun e w' => ∃ A1 c1, e = .returned (.slice A1 es.length c1) ∧ IsEnts w' (fun b => w.heap.size ≤ b) (.slice A1 es.length c1) es ∧ Below w.heap.size w w' :=
  (to_own S A c es w h hl hl2).mono fun _ _ ⟨A1, c1, h1, h2, h3⟩ => ⟨A1, c1, h1, h2.is, h3⟩
end Go.Proofs.Ytehchnagjdmdgaa
