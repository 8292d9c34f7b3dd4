/- The document's set of a class. Conditions: right entries in memory, no more than are asked of. -/
import Derived.Test.YtehchnagjdmdgaaGa
namespace Go.Proofs.Ytehchnagjdmdgaa
open Go.RowKit
set_option linter.unusedSimpArgs false
set_option maxRecDepth 100000 in
theorem make_any (S : Nat → Prop) (A : Option Addr) (c : Nat) (l : List Rng) (w : World) (h : IsRngs w S (.slice A l.length c) l) (hok : ∀ x ∈ l, okR x) (hl : l.length ≤ 4000) :
    Calls Try.prog 33 #[.slice A l.length c] w fun e w' => ∃ A' c', e = .returned (.slice A' (makeR l).length c') ∧ OwnQ w' w.heap.size (.slice A' (makeR l).length c') (makeR l) ∧ Below w.heap.size w w' := by
  go_enter Try.func33, Try.ntmps33
  go_wp2_with fail
  refine (gather_any S A c l _ h hok hl).mono ?_
  rintro e w1 ⟨A1, c1, rfl, ho, hb⟩
  have HO := hid ho
  have HB := hid hb
  clear ho hb
  go_wp2_with fail
  go_ret
  exact ⟨_, _, rfl, HO.out, HB.out⟩
theorem allR_take {es : List Ent} {i : Nat} (h : i < es.length) : allR (es.take (i + 1)) = allR (es.take i) ++ (ent es i).1 := by
  rw [take_ent h]
  simp [allR]
theorem allR_len {es : List Ent} (h : ∀ e ∈ es, e.1.length ≤ 12) : (allR es).length ≤ 12 * es.length := by
  induction es with
  | nil => simp [allR]
  | cons e es ih =>
    have h1 := h e List.mem_cons_self
    have h2 := ih fun x hx => h x (List.mem_cons_of_mem _ hx)
    have e1 : allR (e :: es) = e.1 ++ allR es := by simp [allR]
    rw [e1, List.length_append, List.length_cons]
    omega
theorem pts3_len (l : List Rng) : (pts3 l).length ≤ 2 * l.length + 2 := by
  have h := ins_fold_len l [0, 1114112]
  unfold pts3
  simp only [List.length_cons, List.length_nil] at h
  omega
set_option maxRecDepth 100000 in
set_option maxHeartbeats 4000000 in
theorem refSet_any (S : Nat → Prop) (A : Option Addr) (c : Nat) (other y : Int) (es : List Ent) (w : World) (h : IsEnts w S (.slice A es.length c) es) (hg : ∀ e ∈ es, goodE e = true) (hl : es.length ≤ 12) (hl2 : ∀ e ∈ es, e.1.length ≤ 12) :
    Calls Try.prog 17 #[.int .i64 other, .slice A es.length c, .int .i64 y] w fun e w' => ∃ A' c', e = .returned (.slice A' (refSet other es y).length c') ∧ OwnQ w' w.heap.size (.slice A' (refSet other es y).length c') (refSet other es y) ∧ Below w.heap.size w w' := by
  have H := hid h
  have HAL := hid (allR_len hl2)
  have HAK := hid (allR_ok hg)
  have HL2 := hid hl2
  have HG := hid hg
  clear h hl2 hg
  go_enter Try.func17, Try.ntmps17
  go_wp2_with fail
  go_loopw [7, 9] (fun s7 s9 wr => ∃ (i : Nat) (v : Value), i ≤ es.length ∧ s9 = .int .i64 i ∧ s7 = v ∧ Hid (OwnQ wr w.heap.size v (allR (es.take i))) ∧ Hid (Below w.heap.size w wr)) (fun _ s9 _ => es.length - (intOf s9).toNat)
  case atStart => exact ⟨0, _, by omega, rfl, rfl, hid (OwnQ.nil _ _), hid (Below.refl _ _)⟩
  case round =>
    obtain ⟨i, v, hi, rfl, e7, HO, HB⟩ := hrel
    subst e7
    by_cases hlt : i < es.length
    · obtain ⟨eb, eo, RA, rc, rfl, -, heb, c0, -, hrs, -⟩ := (H.out.below HB.out).at hlt
      have HRS := hid hrs
      have HAT := hid (allR_take hlt)
      obtain ⟨m, hm⟩ : ∃ m, m = (ent es i).1 := ⟨_, rfl⟩
      obtain ⟨L, hL⟩ : ∃ L, L = allR (es.take i) := ⟨_, rfl⟩
      have HLN := hid (show L.length + m.length ≤ 1000000 by
        have h1 := allR_len (es := es.take i) fun e he => HL2.out e (List.mem_of_mem_take he)
        have h2 := HL2.out _ (ent_mem hlt)
        rw [List.length_take] at h1
        rw [hL, hm]; omega)
      rw [← hm] at c0 HRS HAT
      rw [← hL] at HO HAT
      clear hm hL hrs
      go_wp2_with (at_builtin; refine wpList_appQ rfl (.tmp 18) (.tmp 23) rfl rfl HO.out rfl rfl HRS.out HLN.out HB.out.size ?_; intro A2 c2 w2 ho2 hg2)
      have HO2 := hid ho2
      have HB2 := hid (HB.out.grown hg2 HB.out.size fun j e => (HO.out.1.lt j e).1)
      clear ho2 hg2
      exact ⟨⟨i + 1, _, by omega, by go_num, rfl, hid (by rw [HAT.out]; have h := HO2.out; rwa [List.length_append] at h), HB2⟩, by simp [intOf]; omega⟩
    · obtain rfl : i = es.length := by omega
      have ho := HO.out
      rw [List.take_length] at ho
      have HO := hid ho
      obtain ⟨l, hl⟩ : ∃ l, l = allR es := ⟨_, rfl⟩
      have HSG := hid (refSegs_is (other := other) HG.out y).1
      have HRF := hid (show refSet other es y = makeR (segTo (pts3 (allR es)) (fun r => decide (getB other es r = y)) ((pts3 (allR es)).length - 1)) from rfl)
      rw [← hl] at HO HAL HAK HSG HRF
      clear ho hl
      obtain ⟨LA, lc, e7⟩ := HO.out.is.form
      subst e7
      have hll : l.length ≤ 144 := by have := HAL.out; omega
      go_wp2_with fail
      refine (points3_any _ LA lc l _ HO.out.is HAK.out (by omega)).mono ?_
      rintro e w3 ⟨v3, rfl, hn3, hb3⟩
      have HN3 := hid hn3
      have HB3 := hid (ends_true HB.out hb3)
      clear hn3 hb3 HO HB
      obtain ⟨at', hat⟩ : ∃ a, a = pts3 l := ⟨_, rfl⟩
      have HPT := hid (show Pts at' l by rw [hat]; exact pts3_is l)
      have hal : at'.length ≤ 300 := by rw [hat]; have := pts3_len l; omega
      have ha2 : 2 ≤ at'.length := HPT.out.two
      have HRG := hid (HPT.out.rng HAK.out)
      rw [← hat] at HN3 HSG HRF
      obtain ⟨AA, ac, rfl, -, -, hA⟩ := id HN3.out
      have HA := hid hA
      have HH3 := hid (H.out.below HB3.out)
      obtain ⟨P, hP⟩ : ∃ P : Int → Bool, P = fun r => decide (getB other es r = y) := ⟨_, rfl⟩
      have HPE := hid (show ∀ r, decide (getB other es r = y) = P r from fun r => by rw [hP])
      rw [← hP] at HSG HRF
      clear hat hA hP
      have HBW := hid HB3.out.size
      go_wp2_with fail
      go_loopw [8, 11] (fun s8 s11 wr => ∃ (i : Nat) (v : Value), i + 1 ≤ at'.length ∧ s11 = .int .i64 i ∧ s8 = v ∧ Hid (OwnQ wr w3.heap.size v (segTo at' P i)) ∧ Hid (Below w3.heap.size w3 wr)) (fun _ s11 _ => at'.length - (intOf s11).toNat)
      case atStart => exact ⟨0, _, by omega, rfl, rfl, hid (OwnQ.nil _ _), hid (Below.refl _ _)⟩
      case round =>
        obtain ⟨i, v, hi, rfl, e8, HO, HB⟩ := hrel
        subst e8
        by_cases hlt : i + 1 < at'.length
        · obtain ⟨ab, ao, rfl, -, hab, ca0⟩ := HA.out.num (j := i) (by omega)
          obtain ⟨ab', ao', e2, -, -, ca1⟩ := HA.out.num (j := i + 1) hlt
          obtain ⟨rfl, rfl⟩ : ab = ab' ∧ ao = ao' := by injection e2 with e2; injection e2 with x y; exact ⟨x, y⟩
          have hr0 := HRG.out _ (nth_mem (show i < at'.length by omega))
          have hr1 := HRG.out _ (nth_mem hlt)
          obtain ⟨a0, ha0⟩ : ∃ x, x = nth at' i := ⟨_, rfl⟩
          obtain ⟨a1, ha1⟩ : ∃ x, x = nth at' (i + 1) := ⟨_, rfl⟩
          rw [← ha0] at hr0 ca0
          rw [← ha1] at hr1 ca1
          obtain ⟨i1, hi1⟩ : ∃ p : Nat, p = i + 1 := ⟨_, rfl⟩
          rw [← hi1] at ca1
          have HWI := hid (show IntKind.i64.wrap ((i : Int) + 1) = (i1 : Int) by rw [hi1]; simp [IntKind.wrap, IntKind.bits, IntKind.signed]; omega)
          have hi1l : (i1 : Int) < (at'.length : Int) := by omega
          clear hi1
          obtain ⟨a1m, ha1m⟩ : ∃ x, x = a1 - 1 := ⟨_, rfl⟩
          obtain ⟨L, hL⟩ : ∃ L, L = segTo at' P i := ⟨_, rfl⟩
          have HLN := hid (show L.length ≤ 1000000 by have := seg_len at' P i; rw [hL]; omega)
          have HST := hid (show segTo at' P (i + 1) = if P a0 = true then L ++ [(a0, a1m)] else L by rw [hL, ha0, ha1m, ha1]; rfl)
          have HR32 := hid (show r32 (a0, a1m) from ⟨by show -2147483648 ≤ a0 ∧ a0 ≤ 2147483647; omega, by show -2147483648 ≤ a1m ∧ a1m ≤ 2147483647; omega⟩)
          have hwm : IntKind.i32.wrap (a1 - 1) = a1m := by rw [ha1m]; simp [IntKind.wrap, IntKind.bits, IntKind.signed]; omega
          have HXA := hid (show ∀ Y, Below w3.heap.size w3 Y → Y.cell? ⟨ab, ao + i, none⟩ = some (.int .i32 a0) ∧ Y.cell? ⟨ab, ao + i1, none⟩ = some (.int .i32 a1) from fun Y hY =>
            ⟨(hY.cell (p := ⟨ab, ao + i, none⟩) hab).trans ca0, (hY.cell (p := ⟨ab, ao + i1, none⟩) hab).trans ca1⟩)
          rw [← hL] at HO
          clear hL ha0 ha1 ca0 ca1 ha1m
          have hx0 := (HXA.out _ HB.out).1
          go_wp2_with fail
          refine (refGet_any S A c es other a0 _ (HH3.out.below HB.out)).mono ?_
          rintro e wb ⟨rfl, hbb⟩
          have HBB := hid (HB.out.trans (hbb.mono HB.out.size))
          have HOB := hid (HO.out.below hbb)
          have HPA := hid (HPE.out a0)
          obtain ⟨gv, hgv⟩ : ∃ g, g = getB other es a0 := ⟨_, rfl⟩
          rw [← hgv] at HPA ⊢
          clear hbb hgv hx0
          by_cases hq : gv = y
          · have HNX := hid (show segTo at' P (i + 1) = L ++ [(a0, a1m)] by rw [HST.out, ← HPA.out, if_pos (by simpa using hq)])
            subst hq
            go_wp2_with fail
            have hwi := HWI.out
            refine wp_region_held_drew (S := (fun Y => Y.cell? ⟨ab, ao + i, none⟩ = some (.int .i32 a0) ∧ Y.cell? ⟨ab, ao + i1, none⟩ = some (.int .i32 a1))) (by kernel_rfl) (by first | exact HXA.out _ HBB.out.drew | exact HXA.out _ HBB.out) (fun hHeld => ?_)
            refine wpAnyH_take (i := 0) (oi := { dst := some 43, op := Op.move (Operand.tmp 8), type := _, pos := _, after := _, guard := none }) (v := ?_) rfl (by kernel_rfl) (by kernel_rfl) (by kernel_rfl) (fun _ _ _ h => h) (Or.inl ⟨by rfl, ?_⟩) (by assumption) ?_
            rotate_left
            · intro w hSw; (try dsimp only at hSw); go_simp; try (first | with_reducible rfl | (refine (if_pos ?_).trans ?_ <;> first | omega | with_reducible rfl))
            try simp only [Act.put, List.setIfInBounds_toArray, List.set_cons_zero, List.set_cons_succ]
            refine wpAnyH_take (i := 1) (oi := { dst := some 44, op := Op.move (Operand.tmp 10), type := _, pos := _, after := _, guard := none }) (v := ?_) rfl (by kernel_rfl) (by kernel_rfl) (by kernel_rfl) (fun _ _ _ h => h) (Or.inl ⟨by rfl, ?_⟩) (by assumption) ?_
            rotate_left
            · intro w hSw; (try dsimp only at hSw); go_simp; try (first | with_reducible rfl | (refine (if_pos ?_).trans ?_ <;> first | omega | with_reducible rfl))
            try simp only [Act.put, List.setIfInBounds_toArray, List.set_cons_zero, List.set_cons_succ]
            refine wpAnyH_take (i := 2) (oi := { dst := some 45, op := Op.move (Operand.tmp 11), type := _, pos := _, after := _, guard := none }) (v := ?_) rfl (by kernel_rfl) (by kernel_rfl) (by kernel_rfl) (fun _ _ _ h => h) (Or.inl ⟨by rfl, ?_⟩) (by assumption) ?_
            rotate_left
            · intro w hSw; (try dsimp only at hSw); go_simp; try (first | with_reducible rfl | (refine (if_pos ?_).trans ?_ <;> first | omega | with_reducible rfl))
            try simp only [Act.put, List.setIfInBounds_toArray, List.set_cons_zero, List.set_cons_succ]
            refine wpAnyH_take (i := 3) (oi := { dst := some 46, op := Op.indexAddr 23 (Operand.tmp 44) (Operand.tmp 45), type := _, pos := _, after := _, guard := none }) (v := ?_) rfl (by kernel_rfl) (by kernel_rfl) (by kernel_rfl) (fun _ _ _ h => h) (Or.inl ⟨by rfl, ?_⟩) (by assumption) ?_
            rotate_left
            · intro w hSw; (try dsimp only at hSw); go_simp; try (first | with_reducible rfl | (refine (if_pos ?_).trans ?_ <;> first | omega | with_reducible rfl))
            try simp only [Act.put, List.setIfInBounds_toArray, List.set_cons_zero, List.set_cons_succ]
            refine wpAnyH_take (i := 4) (oi := { dst := some 47, op := Op.load 21 (Operand.tmp 46), type := _, pos := _, after := _, guard := none }) (v := ?_) rfl (by kernel_rfl) (by kernel_rfl) (by kernel_rfl) (fun _ _ _ h => h) (Or.inl ⟨by rfl, ?_⟩) (by assumption) ?_
            rotate_left
            · intro w hSw; (try dsimp only at hSw); go_simp; try (first | with_reducible rfl | (refine (if_pos ?_).trans ?_ <;> first | omega | with_reducible rfl))
            try simp only [Act.put, List.setIfInBounds_toArray, List.set_cons_zero, List.set_cons_succ]
            refine wpAnyH_take (i := 5) (oi := { dst := some 48, op := Op.move (Operand.tmp 10), type := _, pos := _, after := _, guard := none }) (v := ?_) rfl (by kernel_rfl) (by kernel_rfl) (by kernel_rfl) (fun _ _ _ h => h) (Or.inl ⟨by rfl, ?_⟩) (by assumption) ?_
            rotate_left
            · intro w hSw; (try dsimp only at hSw); go_simp; try (first | with_reducible rfl | (refine (if_pos ?_).trans ?_ <;> first | omega | with_reducible rfl))
            try simp only [Act.put, List.setIfInBounds_toArray, List.set_cons_zero, List.set_cons_succ]
            refine wpAnyH_take (i := 6) (oi := { dst := some 49, op := Op.move (Operand.tmp 11), type := _, pos := _, after := _, guard := none }) (v := ?_) rfl (by kernel_rfl) (by kernel_rfl) (by kernel_rfl) (fun _ _ _ h => h) (Or.inl ⟨by rfl, ?_⟩) (by assumption) ?_
            rotate_left
            · intro w hSw; (try dsimp only at hSw); go_simp; try (first | with_reducible rfl | (refine (if_pos ?_).trans ?_ <;> first | omega | with_reducible rfl))
            try simp only [Act.put, List.setIfInBounds_toArray, List.set_cons_zero, List.set_cons_succ]
            refine wpAnyH_take (i := 7) (oi := { dst := some 50, op := Op.binOp BinOp.add 3 (Operand.tmp 49) (Operand.const (Value.int IntKind.i64 1)) 3, type := _, pos := _, after := _, guard := none }) (v := ?_) rfl (by kernel_rfl) (by kernel_rfl) (by kernel_rfl) (fun _ _ _ h => h) (Or.inl ⟨by rfl, ?_⟩) (by assumption) ?_
            rotate_left
            · intro w hSw; (try dsimp only at hSw); go_simp; try (first | with_reducible rfl | (refine (if_pos ?_).trans ?_ <;> first | omega | with_reducible rfl))
            try simp only [Act.put, List.setIfInBounds_toArray, List.set_cons_zero, List.set_cons_succ]
            refine wpAnyH_take (i := 8) (oi := { dst := some 51, op := Op.indexAddr 23 (Operand.tmp 48) (Operand.tmp 50), type := _, pos := _, after := _, guard := none }) (v := ?_) rfl (by kernel_rfl) (by kernel_rfl) (by kernel_rfl) (fun _ _ _ h => h) (Or.inl ⟨by rfl, ?_⟩) (by assumption) ?_
            rotate_left
            · intro w hSw; (try dsimp only at hSw); go_simp; try (first | with_reducible rfl | (refine (if_pos ?_).trans ?_ <;> first | omega | with_reducible rfl))
            try simp only [Act.put, List.setIfInBounds_toArray, List.set_cons_zero, List.set_cons_succ]
            refine wpAnyH_take (i := 9) (oi := { dst := some 52, op := Op.load 21 (Operand.tmp 51), type := _, pos := _, after := _, guard := none }) (v := ?_) rfl (by kernel_rfl) (by kernel_rfl) (by kernel_rfl) (fun _ _ _ h => h) (Or.inl ⟨by rfl, ?_⟩) (by assumption) ?_
            rotate_left
            · intro w hSw; (try dsimp only at hSw); go_simp; try (first | with_reducible rfl | (refine (if_pos ?_).trans ?_ <;> first | omega | with_reducible rfl))
            try simp only [Act.put, List.setIfInBounds_toArray, List.set_cons_zero, List.set_cons_succ]
            refine wpAnyH_take (i := 10) (oi := { dst := some 53, op := Op.binOp BinOp.sub 21 (Operand.tmp 52) (Operand.const (Value.int IntKind.i32 1)) 21, type := _, pos := _, after := _, guard := none }) (v := ?_) rfl (by kernel_rfl) (by kernel_rfl) (by kernel_rfl) (fun _ _ _ h => h) (Or.inl ⟨by rfl, ?_⟩) (by assumption) ?_
            rotate_left
            · intro w hSw; (try dsimp only at hSw); go_simp; try (first | with_reducible rfl | (refine (if_pos ?_).trans ?_ <;> first | omega | with_reducible rfl))
            try simp only [Act.put, List.setIfInBounds_toArray, List.set_cons_zero, List.set_cons_succ]
            refine wpAnyH_take (i := 11) (oi := { dst := some 54, op := Op.build 40 #[(0, Operand.tmp 47), (1, Operand.tmp 53)], type := _, pos := _, after := _, guard := none }) (v := ?_) rfl (by kernel_rfl) (by kernel_rfl) (by kernel_rfl) (fun _ _ _ h => h) (Or.inl ⟨by rfl, ?_⟩) (by assumption) ?_
            rotate_left
            · intro w hSw; (try dsimp only at hSw); go_simp; try (first | with_reducible rfl | (refine (if_pos ?_).trans ?_ <;> first | omega | with_reducible rfl))
            try simp only [Act.put, List.setIfInBounds_toArray, List.set_cons_zero, List.set_cons_succ]
            refine wpAnyH_ready (rs := [12]) (by kernel_rfl) (by simp) ?_
            refine AllReadyH.cons (o := { dst := some 55, op := Op.buildSlice 36 1 #[(0, Operand.tmp 54)], type := _, pos := _, after := _, guard := none }) rfl (fun K hK => ?_) AllReadyH.nil
            go_simp
            have HBC := hid (HBB.out.drew.alloc (by have := HBB.out.size; exact this) (.cells #[.int .i32 a0, .int .i32 a1m] 40))
            refine hK.out _ _ (by exact HXA.out _ HBC.out) (fun hHeld => ?_)
            clear hK K
            try simp only [Act.put, List.setIfInBounds_toArray, List.set_cons_zero, List.set_cons_succ]
            refine wpAnyH_ready (rs := [13]) (by kernel_rfl) (by simp) ?_
            refine AllReadyH.cons (o := { dst := some 56, op := Op.call { callee := Callee.builtin Builtin.append, args := #[Operand.tmp 43, Operand.tmp 55], argTypes := #[36, 36] }, type := _, pos := _, after := _, guard := none }) rfl (fun K hK => ?_) AllReadyH.nil
            rw [if_pos (by rfl)]
            refine wp_appQ1 (.tmp 43) (.tmp 55) rfl (w0 := wb.drew) (y := (a0, a1m)) rfl rfl HOB.out rfl HR32.out HLN.out HBB.out.size ?_
            intro A4 c4 w4 ho4 hg4
            have HO4 := hid ho4
            have HB4 := hid (HBC.out.grown hg4 HBC.out.size fun j e => (HOB.out.1.lt j e).1)
            clear ho4 hg4
            refine hK.out _ _ (by exact HXA.out _ HB4.out) (fun hHeld => ?_)
            clear hK K
            try simp only [Act.put, List.setIfInBounds_toArray, List.set_cons_zero, List.set_cons_succ]
            refine wpAnyH_take (i := 14) (oi := { dst := some 8, op := Op.assign (Operand.tmp 56), type := _, pos := _, after := _, guard := none }) (v := ?_) rfl (by kernel_rfl) (by kernel_rfl) (by kernel_rfl) (fun _ _ _ h => h) (Or.inl ⟨by rfl, ?_⟩) (by assumption) ?_
            rotate_left
            · intro w hSw; (try dsimp only at hSw); go_simp; try (first | with_reducible rfl | (refine (if_pos ?_).trans ?_ <;> first | omega | with_reducible rfl))
            try simp only [Act.put, List.setIfInBounds_toArray, List.set_cons_zero, List.set_cons_succ]
            refine wpAnyH_done (by kernel_rfl) ?_ _
            clear hwi
            go_wp2_with fail
            exact ⟨⟨i + 1, _, by omega, by go_num, rfl, hid (by rw [HNX.out]; exact HO4.out), HB4⟩, by simp [intOf]; omega⟩
          · have HNX := hid (show segTo at' P (i + 1) = L by rw [HST.out, ← HPA.out, if_neg (by simpa using hq)])
            go_wp2_with fail
            exact ⟨⟨i + 1, _, by omega, by go_num, rfl, hid (by rw [HNX.out]; exact HOB.out), HBB⟩, by simp [intOf]; omega⟩
        · obtain rfl : i = at'.length - 1 := by omega
          obtain ⟨q, hq⟩ : ∃ q, q = segTo at' P (at'.length - 1) := ⟨_, rfl⟩
          have HQL := hid (show q.length ≤ 4000 by have := seg_len at' P (at'.length - 1); rw [hq]; omega)
          rw [← hq] at HO HSG HRF
          clear hq
          obtain ⟨QA, qc, e8⟩ := HO.out.is.form
          subst e8
          go_wp2_with fail
          refine (make_any _ QA qc q _ HO.out.is HSG.out HQL.out).mono ?_
          rintro e w5 ⟨A5, c5, rfl, ho5, hb5⟩
          rw [← HRF.out] at ho5 ⊢
          have HO5 := hid ho5
          have HB5 := hid (ends_true HB3.out (ends_true HB.out hb5))
          have HZ := hid (show w.heap.size ≤ wr.heap.size from Nat.le_trans HBW.out HB.out.size)
          clear ho5 hb5
          go_wp2_with fail
          go_ret
          exact ⟨_, _, rfl, HO5.out.base HZ.out, HB5.out⟩
end Go.Proofs.Ytehchnagjdmdgaa
