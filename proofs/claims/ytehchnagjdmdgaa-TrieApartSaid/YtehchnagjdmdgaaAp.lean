/- TrieApart, walked. No conditions but what lies in memory. -/
import Derived.Test.YtehchnagjdmdgaaDt
import Derived.Test.YtehchnagjdmdgaaSm
import Derived.Test.YtehchnagjdmdgaaAw
namespace Go.Proofs.Ytehchnagjdmdgaa
open Go.RowKit
set_option linter.unusedSimpArgs false
theorem may_parts2 {other : Int} {es : List Ent} (h : mayE other es = true) : (∀ e ∈ es, goodE e = true) ∧ 0 ≤ other ∧ other ≤ 255 := by
  unfold mayE at h
  rw [Bool.and_eq_true] at h
  exact ⟨List.all_eq_true.1 h.2, by have := h.1; unfold classB at this; simpa using this⟩
theorem may_append {other : Int} {es : List Ent} (h : mayE other es = true) : mayE other (es ++ es) = true := by
  unfold mayE at h ⊢
  rw [Bool.and_eq_true] at h ⊢
  exact ⟨h.1, by rw [List.all_append, h.2]; rfl⟩
/-- The classes of a trie, by what the numbers have. -/
theorem mem_cells (other : Int) (es : List Ent) (n : Nat) (x : Int) : x ∈ cellsOf (blksTo other es n) ↔ ∃ r : Int, 0 ≤ r ∧ r < ((n * 256 : Nat) : Int) ∧ x = cls other es r := by
  unfold cellsOf
  rw [mem_sortB, mem_addsC]
  have h := mem_blks other es n x
  rw [show (((n * 256 : Nat) : Int)) = (n : Int) * 256 by omega, ← h]
  simp only [List.not_mem_nil, false_or, List.mem_flatten]
theorem blk_few {other : Int} {es : List Ent} (h : mayE other es = true) (n : Nat) : (∀ l ∈ blksTo other es n, ∀ x ∈ l, 0 ≤ x ∧ x ≤ 255) ∧ (cellsOf (blksTo other es n)).length ≤ 256 := by
  have hp := may_parts2 h
  have h1 : ∀ l ∈ blksTo other es n, ∀ x ∈ l, 0 ≤ x ∧ x ≤ 255 := fun l hl x hx => by
    obtain ⟨q, -, rfl⟩ := blks_all other es n l hl
    exact (blk_byte hp.1 hp.2 q).2 x hx
  refine ⟨h1, ?_⟩
  unfold cellsOf
  rw [sortB_len]
  exact adds_byte fun x hx => by
    obtain ⟨l, hl, hx⟩ := List.mem_flatten.1 hx
    exact h1 l hl x hx
theorem all_take_snoc {k : List Int} {f : Int → Bool} {i : Nat} (h : i < k.length) : (k.take (i + 1)).all f = ((k.take i).all f && f (nth k i)) := by
  rw [take_nth h, List.all_append]
  simp
set_option maxRecDepth 100000 in
set_option maxHeartbeats 4000000 in
theorem apart_walk (S S' : Nat → Prop) (other : Int) (A A' : Option Addr) (c c' : Nat) (l m : List Ent) (w : World) (h : IsEnts w S (.slice A l.length c) l) (h' : IsEnts w S' (.slice A' m.length c') m) :
    Calls Try.prog 7 #[.int .i64 other, .slice A l.length c, .slice A' m.length c'] w fun e w' => e = .returned (.bool true) ∧ Below w.heap.size w w' := by
  have HL := hid h
  have HM := hid h'
  have hel := h.le
  have hem := h'.le
  clear h h'
  cases hg : greatE l with
  | true =>
    have HG := hid hg
    clear hg
    go_enter Try.func7, Try.ntmps7
    go_wp2_with fail
    refine (great_any S A c l w HL.out).mono ?_
    rintro e w1 ⟨rfl, hb⟩
    rw [HG.out]
    have HB1 := hid hb
    clear hb
    go_wp2_with fail
    refine (awake_any w1).mono ?_
    rintro e w2 ⟨rfl, hb⟩
    have HB2 := hid (ends_true HB1.out hb)
    clear hb
    go_wp2_with fail
    go_ret
    exact ⟨rfl, HB2.out⟩
  | false =>
  cases hg2 : greatE m with
  | true =>
    have HG := hid hg
    have HG2 := hid hg2
    clear hg hg2
    go_enter Try.func7, Try.ntmps7
    go_wp2_with fail
    refine (great_any S A c l w HL.out).mono ?_
    rintro e w1 ⟨rfl, hb⟩
    rw [HG.out]
    have HB1 := hid hb
    clear hb
    go_wp2_with fail
    refine (great_any S' A' c' m w1 (HM.out.below HB1.out)).mono ?_
    rintro e w2 ⟨rfl, hb⟩
    rw [HG2.out]
    have HB2 := hid (ends_true HB1.out hb)
    clear hb
    go_wp2_with fail
    refine (awake_any w2).mono ?_
    rintro e w3 ⟨rfl, hb⟩
    have HB3 := hid (ends_true HB2.out hb)
    clear hb
    go_wp2_with fail
    go_ret
    exact ⟨rfl, HB3.out⟩
  | false =>
  have HG := hid hg
  have HG2 := hid hg2
  have HGN := hid (greatE_no hg)
  have HGN2 := hid (greatE_no hg2)
  clear hg hg2
  go_enter Try.func7, Try.ntmps7
  go_wp2_with fail
  refine (great_any S A c l w HL.out).mono ?_
  rintro e w1 ⟨rfl, hb⟩
  rw [HG.out]
  have HB1 := hid hb
  clear hb
  go_wp2_with fail
  refine (great_any S' A' c' m w1 (HM.out.below HB1.out)).mono ?_
  rintro e w2 ⟨rfl, hb⟩
  rw [HG2.out]
  have HB2 := hid (ends_true HB1.out hb)
  clear hb
  go_wp2_with fail
  refine (awake_any w2).mono ?_
  rintro e w3 ⟨rfl, hb⟩
  have HB3 := hid (ends_true HB2.out hb)
  clear hb
  go_wp2_with fail
  refine (may_any S A c other l w3 (HL.out.below HB3.out)).mono ?_
  rintro e w4 ⟨rfl, hb⟩
  have HB4 := hid (ends_true HB3.out hb)
  clear hb HB1 HB2 HB3
  cases hm : mayE other l with
  | false =>
    clear hm
    go_wp2_with fail
    go_ret
    exact ⟨rfl, HB4.out⟩
  | true =>
  have HMAY := hid hm
  have HGL := hid (may_parts2 hm)
  clear hm
  go_wp2_with fail
  refine (may_any S' A' c' other m w4 (HM.out.below HB4.out)).mono ?_
  rintro e w5 ⟨rfl, hb⟩
  have HB5 := hid (ends_true HB4.out hb)
  clear hb
  cases hm : mayE other m with
  | false =>
    clear hm
    go_wp2_with fail
    go_ret
    exact ⟨rfl, HB5.out⟩
  | true =>
  have HMAY2 := hid hm
  have HGM := hid (may_parts2 hm)
  clear hm HB4
  go_wp2_with fail
  refine (to_any S A c l w5 (HL.out.below HB5.out) (by have := HGN.out.1; omega) (fun e he => by have := HGN.out.2 e he; omega)).mono ?_
  rintro e w6 ⟨A6, c6, rfl, hE6, hb⟩
  have HE6 := hid hE6
  have HB6 := hid (ends_true HB5.out hb)
  clear hb hE6
  go_wp2_with fail
  refine (new_right HE6.out (by have := HGN.out.1; omega) HMAY.out).mono ?_
  rintro e w7 ⟨ta, rfl, ht, hb⟩
  have HTA := hid ht
  have HB7 := hid (ends_true HB6.out hb)
  clear hb ht HE6
  go_wp2_with fail
  refine (to_any S' A' c' m w7 (HM.out.below HB7.out) (by have := HGN2.out.1; omega) (fun e he => by have := HGN2.out.2 e he; omega)).mono ?_
  rintro e w8 ⟨A8, c8, rfl, hE8, hb⟩
  have HE8 := hid hE8
  have HB8 := hid (ends_true HB7.out hb)
  have HTA8 := hid (HTA.out.below hb)
  clear hb hE8
  go_wp2_with fail
  refine (new_right HE8.out (by have := HGN2.out.1; omega) HMAY2.out).mono ?_
  rintro e w9 ⟨tb, rfl, ht, hb⟩
  have HTB := hid ht
  have HTA9 := hid (HTA8.out.below hb)
  have HB9 := hid (ends_true HB8.out hb)
  clear hb ht HE8 HTA HTA8 HB5 HB6 HB7 HB8
  go_wp2_with fail
  refine (to_own S A c l w9 (HL.out.below HB9.out) (by have := HGN.out.1; omega) (fun e he => by have := HGN.out.2 e he; omega)).mono ?_
  rintro e w10 ⟨A10, c10, rfl, hE10, hb⟩
  have HE10 := hid hE10
  have HN10 := hid hb
  have HB10 := hid (ends_true HB9.out hb)
  clear hb hE10
  go_wp2_with fail
  refine (to_own S A c l w10 (HL.out.below HB10.out) (by have := HGN.out.1; omega) (fun e he => by have := HGN.out.2 e he; omega)).mono ?_
  rintro e w11 ⟨A11, c11, rfl, hE11, hb⟩
  have HE11 := hid hE11
  have HB11 := hid (ends_true HB10.out hb)
  have HN11 := hid (ends_true HN10.out hb)
  have HE10b := hid (HE10.out.below hb)
  have HLT := hid (show ∀ b, (Value.slice A10 l.length c10).ownBlock = some b → w9.heap.size ≤ b ∧ b < w10.heap.size from HE10.out.lt)
  clear hb hE11 HE10
  obtain ⟨ll, hll⟩ : ∃ z, z = l ++ l := ⟨_, rfl⟩
  have HLLL := hid hll
  have HLG := hid (show ll.length ≤ 200 by rw [hll, List.length_append]; have := HGN.out.1; omega)
  clear hll
  go_wp2_with (at_builtin; refine wpList_app_ents rfl (.tmp 54) (.tmp 56) rfl (B1 := w9.heap.size) (B2 := w10.heap.size) rfl HE10b.out rfl HE11.out (fun b hb => (HLT.out b hb).2) (by have := HGN.out.1; omega) HN11.out.size ?_; intro A12 c12 w12 hE12 hg12; rw [← HLLL.out] at hE12 ⊢)
  have HE12 := hid hE12
  have HN12 := hid (HN11.out.grown hg12 HN11.out.size fun j e => (HLT.out j e).1)
  have HB12 := hid (ends_true HB9.out HN12.out)
  have HTA12 := hid (HTA9.out.below HN12.out)
  have HTB12 := hid (HTB.out.below HN12.out)
  clear hE12 hg12 HTA9 HTB HN10 HN11 HN12 HE10b HE11 HLT HB9 HB10 HB11
  refine (new_right HE12.out HLG.out (by rw [HLLL.out]; exact may_append HMAY.out)).mono ?_
  rintro e w13 ⟨tc, rfl, ht, hb⟩
  rw [HLLL.out] at ht
  have HTC := hid ht
  have HTA13 := hid (HTA12.out.below hb)
  have HTB13 := hid (HTB12.out.below hb)
  have HB13 := hid (ends_true HB12.out hb)
  clear hb ht HE12 HTA12 HTB12 HB12
  obtain ⟨sb, hsb⟩ : ∃ b, b = sameTo other l m 4352 := ⟨_, rfl⟩
  obtain ⟨bs, hbs⟩ : ∃ bs, bs = blksTo other l 4352 := ⟨_, rfl⟩
  obtain ⟨ks, hks⟩ : ∃ ks, ks = cellsOf bs := ⟨_, rfl⟩
  have HBF := hid (show (∀ l ∈ bs, ∀ x ∈ l, 0 ≤ x ∧ x ≤ 255) ∧ ks.length ≤ 256 by rw [hks, hbs]; exact blk_few HMAY.out 4352)
  obtain ⟨F, hF⟩ : ∃ F : Int → Bool, F = fun y => decide (setOf other l y 1114112 = setOf other m y 1114112) := ⟨_, rfl⟩
  have HFE := hid (show ∀ y, decide (runsTo (fun r => decide (getB other l r = y)) 1114112 = runsTo (fun r => decide (getB other m r = y)) 1114112) = F y from fun y => by rw [hF]; rfl)
  have HALL := hid (show ks.all F = sb by
    rw [hF, hsb]
    exact apart_is (by omega) (by omega) fun x => by rw [hks, hbs]; exact mem_cells other l 4352 x)
  have HSB := hid hsb
  have HBS := hid hbs
  have HKS := hid hks
  clear hsb hbs hks hF
  go_wp2_with fail
  refine (classes_any HTA13.out HBS.out HBF.out.1).mono ?_
  rintro e w14 ⟨v, rfl, ho, hb⟩
  rw [← HKS.out] at ho
  have HTA := hid (HTA13.out.below hb)
  have HTB := hid (HTB13.out.below hb)
  have HTC2 := hid (HTC.out.below hb)
  have HB14 := hid (ends_true HB13.out hb)
  have HK := hid (ownI_nums ho)
  obtain ⟨KA, kc, e1⟩ := HK.out.form
  subst e1
  clear ho hb HTA13 HTB13 HTC HB13
  have hkl : ks.length ≤ 256 := HBF.out.2
  go_wp2_with fail
  go_loopw [13, 15] (fun s13 s15 wr => ∃ (i : Nat), i ≤ ks.length ∧ s15 = .int .i64 i ∧ s13 = .bool ((ks.take i).all F) ∧ Hid (Below w14.heap.size w14 wr)) (fun _ s15 _ => ks.length - (intOf s15).toNat)
  case atStart => exact ⟨0, by omega, rfl, rfl, hid (Below.refl _ _)⟩
  case round =>
    obtain ⟨i, hi, rfl, rfl, HBW⟩ := hrel
    by_cases hlt : i < ks.length
    · obtain ⟨kb, ko, kc', e1, -, hkb, hkc⟩ := HK.out.at hlt
      obtain ⟨rfl, rfl⟩ : KA = some ⟨kb, ko, none⟩ ∧ kc = kc' := by injection e1 with e1 e2 e3; exact ⟨e1, e3⟩
      obtain ⟨y, hy⟩ : ∃ y, y = nth ks i := ⟨_, rfl⟩
      rw [← hy] at hkc
      have HKC := hid (show ∀ Y, Below w14.heap.size w14 Y → Y.cell? ⟨kb, ko + i, none⟩ = some (.int .i64 y) from fun Y hY => (hY.cell (p := ⟨kb, ko + i, none⟩) hkb).trans hkc)
      have HFY := hid (HFE.out y)
      have HNX := hid (show (ks.take (i + 1)).all F = ((ks.take i).all F && F y) by rw [all_take_snoc hlt, hy])
      clear hkc hkb hy e1
      cases hq : (ks.take i).all F with
      | true =>
        have HNX2 := hid (show (ks.take (i + 1)).all F = F y by rw [HNX.out, hq]; rfl)
        clear hq
        go_wp2_with fail
        refine wp_region_held_drew (S := (fun Y => Y.cell? ⟨kb, ko + i, none⟩ = some (.int .i64 y))) (by kernel_rfl) (by first | exact HKC.out _ HBW.out.drew | exact HKC.out _ HBW.out) (fun hHeld => ?_)
        refine wpAnyH_take (i := 0) (oi := { dst := some 69, op := Op.move (Operand.tmp 13), type := _, pos := _, after := _, guard := none }) (v := ?_) rfl (by kernel_rfl) (by kernel_rfl) (by kernel_rfl) (fun _ _ _ h => h) (Or.inl ⟨by rfl, ?_⟩) (by assumption) ?_
        rotate_left
        · intro w hSw; (try dsimp only at hSw); go_simp; try (first | with_reducible rfl | (refine (if_pos ?_).trans ?_ <;> first | omega | with_reducible rfl))
        try simp only [Act.put, List.setIfInBounds_toArray, List.set_cons_zero, List.set_cons_succ]
        refine wpAnyH_take (i := 1) (oi := { dst := some 70, op := Op.move (Operand.tmp 69), type := _, pos := _, after := _, guard := none }) (v := ?_) rfl (by kernel_rfl) (by kernel_rfl) (by kernel_rfl) (fun _ _ _ h => h) (Or.inl ⟨by rfl, ?_⟩) (by assumption) ?_
        rotate_left
        · intro w hSw; (try dsimp only at hSw); go_simp; try (first | with_reducible rfl | (refine (if_pos ?_).trans ?_ <;> first | omega | with_reducible rfl))
        try simp only [Act.put, List.setIfInBounds_toArray, List.set_cons_zero, List.set_cons_succ]
        refine wpAnyH_take (i := 2) (oi := { dst := some 71, op := Op.move (Operand.tmp 7), type := _, pos := _, after := _, guard := some (1, true) }) (v := ?_) rfl (by kernel_rfl) (by kernel_rfl) (by kernel_rfl) (fun _ _ _ h => h) (Or.inl ⟨by rfl, ?_⟩) (by assumption) ?_
        rotate_left
        · intro w hSw; (try dsimp only at hSw); go_simp; try (first | with_reducible rfl | (refine (if_pos ?_).trans ?_ <;> first | omega | with_reducible rfl))
        try simp only [Act.put, List.setIfInBounds_toArray, List.set_cons_zero, List.set_cons_succ]
        refine wpAnyH_take (i := 3) (oi := { dst := some 72, op := Op.move (Operand.tmp 14), type := _, pos := _, after := _, guard := some (1, true) }) (v := ?_) rfl (by kernel_rfl) (by kernel_rfl) (by kernel_rfl) (fun _ _ _ h => h) (Or.inl ⟨by rfl, ?_⟩) (by assumption) ?_
        rotate_left
        · intro w hSw; (try dsimp only at hSw); go_simp; try (first | with_reducible rfl | (refine (if_pos ?_).trans ?_ <;> first | omega | with_reducible rfl))
        try simp only [Act.put, List.setIfInBounds_toArray, List.set_cons_zero, List.set_cons_succ]
        refine wpAnyH_take (i := 4) (oi := { dst := some 73, op := Op.move (Operand.tmp 15), type := _, pos := _, after := _, guard := some (1, true) }) (v := ?_) rfl (by kernel_rfl) (by kernel_rfl) (by kernel_rfl) (fun _ _ _ h => h) (Or.inl ⟨by rfl, ?_⟩) (by assumption) ?_
        rotate_left
        · intro w hSw; (try dsimp only at hSw); go_simp; try (first | with_reducible rfl | (refine (if_pos ?_).trans ?_ <;> first | omega | with_reducible rfl))
        try simp only [Act.put, List.setIfInBounds_toArray, List.set_cons_zero, List.set_cons_succ]
        refine wpAnyH_take (i := 5) (oi := { dst := some 74, op := Op.indexAddr 49 (Operand.tmp 72) (Operand.tmp 73), type := _, pos := _, after := _, guard := some (1, true) }) (v := ?_) rfl (by kernel_rfl) (by kernel_rfl) (by kernel_rfl) (fun _ _ _ h => h) (Or.inl ⟨by rfl, ?_⟩) (by assumption) ?_
        rotate_left
        · intro w hSw; (try dsimp only at hSw); go_simp; try (first | with_reducible rfl | (refine (if_pos ?_).trans ?_ <;> first | omega | with_reducible rfl))
        try simp only [Act.put, List.setIfInBounds_toArray, List.set_cons_zero, List.set_cons_succ]
        refine wpAnyH_take (i := 6) (oi := { dst := some 75, op := Op.load 3 (Operand.tmp 74), type := _, pos := _, after := _, guard := some (1, true) }) (v := ?_) rfl (by kernel_rfl) (by kernel_rfl) (by kernel_rfl) (fun _ _ _ h => h) (Or.inl ⟨by rfl, ?_⟩) (by assumption) ?_
        rotate_left
        · intro w hSw; (try dsimp only at hSw); go_simp; try (first | with_reducible rfl | (refine (if_pos ?_).trans ?_ <;> first | omega | with_reducible rfl))
        try simp only [Act.put, List.setIfInBounds_toArray, List.set_cons_zero, List.set_cons_succ]
        refine wpAnyH_take (i := 8) (oi := { dst := some 77, op := Op.move (Operand.tmp 9), type := _, pos := _, after := _, guard := some (1, true) }) (v := ?_) rfl (by kernel_rfl) (by kernel_rfl) (by kernel_rfl) (fun _ _ _ h => h) (Or.inl ⟨by rfl, ?_⟩) (by assumption) ?_
        rotate_left
        · intro w hSw; (try dsimp only at hSw); go_simp; try (first | with_reducible rfl | (refine (if_pos ?_).trans ?_ <;> first | omega | with_reducible rfl))
        try simp only [Act.put, List.setIfInBounds_toArray, List.set_cons_zero, List.set_cons_succ]
        refine wpAnyH_take (i := 9) (oi := { dst := some 78, op := Op.move (Operand.tmp 14), type := _, pos := _, after := _, guard := some (1, true) }) (v := ?_) rfl (by kernel_rfl) (by kernel_rfl) (by kernel_rfl) (fun _ _ _ h => h) (Or.inl ⟨by rfl, ?_⟩) (by assumption) ?_
        rotate_left
        · intro w hSw; (try dsimp only at hSw); go_simp; try (first | with_reducible rfl | (refine (if_pos ?_).trans ?_ <;> first | omega | with_reducible rfl))
        try simp only [Act.put, List.setIfInBounds_toArray, List.set_cons_zero, List.set_cons_succ]
        refine wpAnyH_take (i := 10) (oi := { dst := some 79, op := Op.move (Operand.tmp 15), type := _, pos := _, after := _, guard := some (1, true) }) (v := ?_) rfl (by kernel_rfl) (by kernel_rfl) (by kernel_rfl) (fun _ _ _ h => h) (Or.inl ⟨by rfl, ?_⟩) (by assumption) ?_
        rotate_left
        · intro w hSw; (try dsimp only at hSw); go_simp; try (first | with_reducible rfl | (refine (if_pos ?_).trans ?_ <;> first | omega | with_reducible rfl))
        try simp only [Act.put, List.setIfInBounds_toArray, List.set_cons_zero, List.set_cons_succ]
        refine wpAnyH_take (i := 11) (oi := { dst := some 80, op := Op.indexAddr 49 (Operand.tmp 78) (Operand.tmp 79), type := _, pos := _, after := _, guard := some (1, true) }) (v := ?_) rfl (by kernel_rfl) (by kernel_rfl) (by kernel_rfl) (fun _ _ _ h => h) (Or.inl ⟨by rfl, ?_⟩) (by assumption) ?_
        rotate_left
        · intro w hSw; (try dsimp only at hSw); go_simp; try (first | with_reducible rfl | (refine (if_pos ?_).trans ?_ <;> first | omega | with_reducible rfl))
        try simp only [Act.put, List.setIfInBounds_toArray, List.set_cons_zero, List.set_cons_succ]
        refine wpAnyH_take (i := 12) (oi := { dst := some 81, op := Op.load 3 (Operand.tmp 80), type := _, pos := _, after := _, guard := some (1, true) }) (v := ?_) rfl (by kernel_rfl) (by kernel_rfl) (by kernel_rfl) (fun _ _ _ h => h) (Or.inl ⟨by rfl, ?_⟩) (by assumption) ?_
        rotate_left
        · intro w hSw; (try dsimp only at hSw); go_simp; try (first | with_reducible rfl | (refine (if_pos ?_).trans ?_ <;> first | omega | with_reducible rfl))
        try simp only [Act.put, List.setIfInBounds_toArray, List.set_cons_zero, List.set_cons_succ]
        refine wpAnyH_ready (rs := [7]) (by kernel_rfl) (by simp) ?_
        refine AllReadyH.cons (o := { dst := some 76, op := Op.call { callee := Callee.value (Operand.func 15), args := #[Operand.tmp 71, Operand.tmp 75], argTypes := #[26, 3] }, type := _, pos := _, after := _, guard := some (1, true) }) rfl (fun K hK => ?_) AllReadyH.nil
        go_simp
        refine (set_any (y := y) (HTA.out.below HBW.out.drew) HGL.out.1 HGL.out.2).mono ?_
        rintro e wa ⟨va, rfl, hoa, hba⟩
        have HOA := hid hoa
        have HBA := hid (ends_true HBW.out.drew hba)
        have HBA2 := hid (show Below wr.drew.heap.size wr.drew wa from hba)
        clear hoa hba
        refine hK.out _ _ (by exact HKC.out _ HBA.out) (fun hHeld => ?_)
        clear hK K
        try simp only [Act.put, List.setIfInBounds_toArray, List.set_cons_zero, List.set_cons_succ]
        refine wpAnyH_ready (rs := [13]) (by kernel_rfl) (by simp) ?_
        refine AllReadyH.cons (o := { dst := some 82, op := Op.call { callee := Callee.value (Operand.func 15), args := #[Operand.tmp 77, Operand.tmp 81], argTypes := #[26, 3] }, type := _, pos := _, after := _, guard := some (1, true) }) rfl (fun K hK => ?_) AllReadyH.nil
        go_simp
        refine (set_any (y := y) (HTB.out.below HBA.out) HGM.out.1 HGM.out.2).mono ?_
        rintro e wb ⟨vb, rfl, hob, hbb⟩
        have HOB := hid hob
        have HOA2 := hid (HOA.out.below hbb)
        have HBB := hid (ends_true HBA.out hbb)
        clear hob hbb
        obtain ⟨A1, c1, e1⟩ := HOA2.out.is.form
        subst e1
        obtain ⟨A2, c2, e2⟩ := HOB.out.is.form
        subst e2
        refine hK.out _ _ (by exact HKC.out _ HBB.out) (fun hHeld => ?_)
        clear hK K
        try simp only [Act.put, List.setIfInBounds_toArray, List.set_cons_zero, List.set_cons_succ]
        refine wpAnyH_ready (rs := [14]) (by kernel_rfl) (by simp) ?_
        refine AllReadyH.cons (o := { dst := some 83, op := Op.call { callee := Callee.value (Operand.func 22), args := #[Operand.tmp 76, Operand.tmp 82], argTypes := #[43, 43] }, type := _, pos := _, after := _, guard := some (1, true) }) rfl (fun K hK => ?_) AllReadyH.nil
        go_simp
        refine (same_any _ _ A1 A2 c1 c2 _ _ _ HOA2.out.is HOB.out.is (runs_right _ _ (Nat.le_refl _)) (runs_right _ _ (Nat.le_refl _))).mono ?_
        rintro e wc ⟨rfl, hbc⟩
        rw [HFY.out]
        have HBC := hid (ends_true HBB.out hbc)
        clear hbc
        refine hK.out _ _ (by exact HKC.out _ HBC.out) (fun hHeld => ?_)
        clear hK K
        try simp only [Act.put, List.setIfInBounds_toArray, List.set_cons_zero, List.set_cons_succ]
        refine wpAnyH_take (i := 15) (oi := { dst := some 84, op := Op.pick (Operand.tmp 70) (Operand.tmp 83) (Operand.const (Value.bool false)), type := _, pos := _, after := _, guard := none }) (v := ?_) rfl (by kernel_rfl) (by kernel_rfl) (by kernel_rfl) (fun _ _ _ h => h) (Or.inl ⟨by rfl, ?_⟩) (by assumption) ?_
        rotate_left
        · intro w hSw; (try dsimp only at hSw); go_simp; try (first | with_reducible rfl | (refine (if_pos ?_).trans ?_ <;> first | omega | with_reducible rfl))
        try simp only [Act.put, List.setIfInBounds_toArray, List.set_cons_zero, List.set_cons_succ]
        refine wpAnyH_take (i := 16) (oi := { dst := some 13, op := Op.assign (Operand.tmp 84), type := _, pos := _, after := _, guard := none }) (v := ?_) rfl (by kernel_rfl) (by kernel_rfl) (by kernel_rfl) (fun _ _ _ h => h) (Or.inl ⟨by rfl, ?_⟩) (by assumption) ?_
        rotate_left
        · intro w hSw; (try dsimp only at hSw); go_simp; try (first | with_reducible rfl | (refine (if_pos ?_).trans ?_ <;> first | omega | with_reducible rfl))
        try simp only [Act.put, List.setIfInBounds_toArray, List.set_cons_zero, List.set_cons_succ]
        refine wpAnyH_done (by kernel_rfl) ?_ _
        go_wp2_with fail
        exact ⟨⟨i + 1, by omega, by go_num, by rw [HNX2.out], HBC⟩, by simp [intOf]; omega⟩
      | false =>
        have HNX2 := hid (show (ks.take (i + 1)).all F = false by rw [HNX.out, hq]; rfl)
        clear hq
        go_wp2_with fail
        refine wp_region_held_drew (S := (fun Y => Y.cell? ⟨kb, ko + i, none⟩ = some (.int .i64 y))) (by kernel_rfl) (by first | exact HKC.out _ HBW.out.drew | exact HKC.out _ HBW.out) (fun hHeld => ?_)
        refine wpAnyH_take (i := 0) (oi := { dst := some 69, op := Op.move (Operand.tmp 13), type := _, pos := _, after := _, guard := none }) (v := ?_) rfl (by kernel_rfl) (by kernel_rfl) (by kernel_rfl) (fun _ _ _ h => h) (Or.inl ⟨by rfl, ?_⟩) (by assumption) ?_
        rotate_left
        · intro w hSw; (try dsimp only at hSw); go_simp; try (first | with_reducible rfl | (refine (if_pos ?_).trans ?_ <;> first | omega | with_reducible rfl))
        try simp only [Act.put, List.setIfInBounds_toArray, List.set_cons_zero, List.set_cons_succ]
        refine wpAnyH_take (i := 1) (oi := { dst := some 70, op := Op.move (Operand.tmp 69), type := _, pos := _, after := _, guard := none }) (v := ?_) rfl (by kernel_rfl) (by kernel_rfl) (by kernel_rfl) (fun _ _ _ h => h) (Or.inl ⟨by rfl, ?_⟩) (by assumption) ?_
        rotate_left
        · intro w hSw; (try dsimp only at hSw); go_simp; try (first | with_reducible rfl | (refine (if_pos ?_).trans ?_ <;> first | omega | with_reducible rfl))
        try simp only [Act.put, List.setIfInBounds_toArray, List.set_cons_zero, List.set_cons_succ]
        refine wpAnyH_take (i := 2) (oi := { dst := some 71, op := Op.move (Operand.tmp 7), type := _, pos := _, after := _, guard := some (1, true) }) (v := undef) rfl (by kernel_rfl) (by kernel_rfl) (by kernel_rfl) (fun _ _ _ h => h) (Or.inr ⟨by rfl, rfl⟩) (by assumption) ?_
        try simp only [Act.put, List.setIfInBounds_toArray, List.set_cons_zero, List.set_cons_succ]
        refine wpAnyH_take (i := 3) (oi := { dst := some 72, op := Op.move (Operand.tmp 14), type := _, pos := _, after := _, guard := some (1, true) }) (v := undef) rfl (by kernel_rfl) (by kernel_rfl) (by kernel_rfl) (fun _ _ _ h => h) (Or.inr ⟨by rfl, rfl⟩) (by assumption) ?_
        try simp only [Act.put, List.setIfInBounds_toArray, List.set_cons_zero, List.set_cons_succ]
        refine wpAnyH_take (i := 4) (oi := { dst := some 73, op := Op.move (Operand.tmp 15), type := _, pos := _, after := _, guard := some (1, true) }) (v := undef) rfl (by kernel_rfl) (by kernel_rfl) (by kernel_rfl) (fun _ _ _ h => h) (Or.inr ⟨by rfl, rfl⟩) (by assumption) ?_
        try simp only [Act.put, List.setIfInBounds_toArray, List.set_cons_zero, List.set_cons_succ]
        refine wpAnyH_take (i := 5) (oi := { dst := some 74, op := Op.indexAddr 49 (Operand.tmp 72) (Operand.tmp 73), type := _, pos := _, after := _, guard := some (1, true) }) (v := undef) rfl (by kernel_rfl) (by kernel_rfl) (by kernel_rfl) (fun _ _ _ h => h) (Or.inr ⟨by rfl, rfl⟩) (by assumption) ?_
        try simp only [Act.put, List.setIfInBounds_toArray, List.set_cons_zero, List.set_cons_succ]
        refine wpAnyH_take (i := 6) (oi := { dst := some 75, op := Op.load 3 (Operand.tmp 74), type := _, pos := _, after := _, guard := some (1, true) }) (v := undef) rfl (by kernel_rfl) (by kernel_rfl) (by kernel_rfl) (fun _ _ _ h => h) (Or.inr ⟨by rfl, rfl⟩) (by assumption) ?_
        try simp only [Act.put, List.setIfInBounds_toArray, List.set_cons_zero, List.set_cons_succ]
        refine wpAnyH_take (i := 7) (oi := { dst := some 76, op := Op.call { callee := Callee.value (Operand.func 15), args := #[Operand.tmp 71, Operand.tmp 75], argTypes := #[26, 3] }, type := _, pos := _, after := _, guard := some (1, true) }) (v := undef) rfl (by kernel_rfl) (by kernel_rfl) (by kernel_rfl) (fun _ _ _ h => h) (Or.inr ⟨by rfl, rfl⟩) (by assumption) ?_
        try simp only [Act.put, List.setIfInBounds_toArray, List.set_cons_zero, List.set_cons_succ]
        refine wpAnyH_take (i := 8) (oi := { dst := some 77, op := Op.move (Operand.tmp 9), type := _, pos := _, after := _, guard := some (1, true) }) (v := undef) rfl (by kernel_rfl) (by kernel_rfl) (by kernel_rfl) (fun _ _ _ h => h) (Or.inr ⟨by rfl, rfl⟩) (by assumption) ?_
        try simp only [Act.put, List.setIfInBounds_toArray, List.set_cons_zero, List.set_cons_succ]
        refine wpAnyH_take (i := 9) (oi := { dst := some 78, op := Op.move (Operand.tmp 14), type := _, pos := _, after := _, guard := some (1, true) }) (v := undef) rfl (by kernel_rfl) (by kernel_rfl) (by kernel_rfl) (fun _ _ _ h => h) (Or.inr ⟨by rfl, rfl⟩) (by assumption) ?_
        try simp only [Act.put, List.setIfInBounds_toArray, List.set_cons_zero, List.set_cons_succ]
        refine wpAnyH_take (i := 10) (oi := { dst := some 79, op := Op.move (Operand.tmp 15), type := _, pos := _, after := _, guard := some (1, true) }) (v := undef) rfl (by kernel_rfl) (by kernel_rfl) (by kernel_rfl) (fun _ _ _ h => h) (Or.inr ⟨by rfl, rfl⟩) (by assumption) ?_
        try simp only [Act.put, List.setIfInBounds_toArray, List.set_cons_zero, List.set_cons_succ]
        refine wpAnyH_take (i := 11) (oi := { dst := some 80, op := Op.indexAddr 49 (Operand.tmp 78) (Operand.tmp 79), type := _, pos := _, after := _, guard := some (1, true) }) (v := undef) rfl (by kernel_rfl) (by kernel_rfl) (by kernel_rfl) (fun _ _ _ h => h) (Or.inr ⟨by rfl, rfl⟩) (by assumption) ?_
        try simp only [Act.put, List.setIfInBounds_toArray, List.set_cons_zero, List.set_cons_succ]
        refine wpAnyH_take (i := 12) (oi := { dst := some 81, op := Op.load 3 (Operand.tmp 80), type := _, pos := _, after := _, guard := some (1, true) }) (v := undef) rfl (by kernel_rfl) (by kernel_rfl) (by kernel_rfl) (fun _ _ _ h => h) (Or.inr ⟨by rfl, rfl⟩) (by assumption) ?_
        try simp only [Act.put, List.setIfInBounds_toArray, List.set_cons_zero, List.set_cons_succ]
        refine wpAnyH_take (i := 13) (oi := { dst := some 82, op := Op.call { callee := Callee.value (Operand.func 15), args := #[Operand.tmp 77, Operand.tmp 81], argTypes := #[26, 3] }, type := _, pos := _, after := _, guard := some (1, true) }) (v := undef) rfl (by kernel_rfl) (by kernel_rfl) (by kernel_rfl) (fun _ _ _ h => h) (Or.inr ⟨by rfl, rfl⟩) (by assumption) ?_
        try simp only [Act.put, List.setIfInBounds_toArray, List.set_cons_zero, List.set_cons_succ]
        refine wpAnyH_take (i := 14) (oi := { dst := some 83, op := Op.call { callee := Callee.value (Operand.func 22), args := #[Operand.tmp 76, Operand.tmp 82], argTypes := #[43, 43] }, type := _, pos := _, after := _, guard := some (1, true) }) (v := undef) rfl (by kernel_rfl) (by kernel_rfl) (by kernel_rfl) (fun _ _ _ h => h) (Or.inr ⟨by rfl, rfl⟩) (by assumption) ?_
        try simp only [Act.put, List.setIfInBounds_toArray, List.set_cons_zero, List.set_cons_succ]
        refine wpAnyH_take (i := 15) (oi := { dst := some 84, op := Op.pick (Operand.tmp 70) (Operand.tmp 83) (Operand.const (Value.bool false)), type := _, pos := _, after := _, guard := none }) (v := ?_) rfl (by kernel_rfl) (by kernel_rfl) (by kernel_rfl) (fun _ _ _ h => h) (Or.inl ⟨by rfl, ?_⟩) (by assumption) ?_
        rotate_left
        · intro w hSw; (try dsimp only at hSw); go_simp; try (first | with_reducible rfl | (refine (if_pos ?_).trans ?_ <;> first | omega | with_reducible rfl))
        try simp only [Act.put, List.setIfInBounds_toArray, List.set_cons_zero, List.set_cons_succ]
        refine wpAnyH_take (i := 16) (oi := { dst := some 13, op := Op.assign (Operand.tmp 84), type := _, pos := _, after := _, guard := none }) (v := ?_) rfl (by kernel_rfl) (by kernel_rfl) (by kernel_rfl) (fun _ _ _ h => h) (Or.inl ⟨by rfl, ?_⟩) (by assumption) ?_
        rotate_left
        · intro w hSw; (try dsimp only at hSw); go_simp; try (first | with_reducible rfl | (refine (if_pos ?_).trans ?_ <;> first | omega | with_reducible rfl))
        try simp only [Act.put, List.setIfInBounds_toArray, List.set_cons_zero, List.set_cons_succ]
        refine wpAnyH_done (by kernel_rfl) ?_ _
        go_wp2_with fail
        exact ⟨⟨i + 1, by omega, by go_num, by rw [HNX2.out], hid HBW.out.drew⟩, by simp [intOf]; omega⟩
    · obtain rfl : i = ks.length := by omega
      have hall : (ks.take ks.length).all F = sb := by rw [List.take_length]; exact HALL.out
      rw [hall]
      clear hall
      go_wp2_with fail
      refine (sameT_any (HTA.out.below HBW.out) (HTB.out.below HBW.out) HGL.out.1 HGM.out.1 HGL.out.2).mono ?_
      rintro e w15 ⟨rfl, hb⟩
      rw [← HSB.out]
      have HB15 := hid (ends_true HBW.out hb)
      clear hb
      go_wp2_with fail
      refine (sameT_any (HTB.out.below HB15.out) (HTA.out.below HB15.out) HGM.out.1 HGL.out.1 HGL.out.2).mono ?_
      rintro e w16 ⟨rfl, hb⟩
      rw [sameTo_sym, ← HSB.out]
      have HB16 := hid (ends_true HB15.out hb)
      clear hb
      go_wp2_with fail
      refine (sameT_any (HTA.out.below HB16.out) (HTC2.out.below HB16.out) HGL.out.1 (fun e he => HGL.out.1 e ((List.mem_append.1 he).elim id id)) HGL.out.2).mono ?_
      rintro e w17 ⟨rfl, hb⟩
      rw [same_twice]
      have HB17 := hid (ends_true HB14.out (ends_true HB16.out hb))
      clear hb
      go_wp2_with fail
      go_ret
      exact ⟨rfl, HB17.out⟩
end Go.Proofs.Ytehchnagjdmdgaa
