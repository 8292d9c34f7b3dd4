/- Of any table the least one, and of each state which ones are alike: the law's walk. No conditions. -/
import Derived.Test.YtmdkmobcglnmgaaLk
namespace Go.Proofs.Ytmdkmobcglnmgaa
open Go.RowKit
set_option linter.unusedSimpArgs false

theorem sameD_self2 (d : D) : sameD d d = true := by simp [sameD]
theorem numGo_pre (l : List Int) : ∀ (m i k : Nat), i + m = l.length → k < i → nth (numGo (l.take i)).2 k = nth (numbered l) k
  | 0, i, k, h, _ => by rw [List.take_of_length_le (by omega)]; rfl
  | m + 1, i, k, h, hk => by
    rw [← numGo_pre l m (i + 1) k (by omega) (by omega), take_nth (by omega), numGo_snoc]
    have hl : k < (numGo (l.take i)).2.length := by rw [(numGo_len _).1, List.length_take]; omega
    unfold numStep
    split <;> simp [nth, List.getElem?_append_left hl]
/-- The number of the i-th: that of one ahead that is alike, or the next new one. -/
theorem cls_next {l : List Int} {i : Nat} (hi : i < l.length) :
    ((∃ k, k < i ∧ nth l k = nth l i) → (numGo (l.take (i + 1))).1.length = (numGo (l.take i)).1.length ∧ nth (numbered l) i < (numGo (l.take i)).1.length) ∧
    ((∀ k, k < i → nth l k ≠ nth l i) → nth (numbered l) i = (numGo (l.take i)).1.length ∧ (numGo (l.take (i + 1))).1.length = (numGo (l.take i)).1.length + 1) := by
  have e : numGo (l.take (i + 1)) = numStep (numGo (l.take i)) (nth l i) := by rw [take_nth hi, numGo_snoc]
  have hl : (numGo (l.take i)).2.length = i := by rw [(numGo_len _).1, List.length_take]; omega
  have hc : nth (numbered l) i = nth (numGo (l.take (i + 1))).2 i := (numGo_pre l (l.length - (i + 1)) (i + 1) i (by omega) (by omega)).symm
  have I := numI (l.take i)
  have tk : ∀ k, k < i → (l.take i)[k]? = some (nth l k) := fun k hk => by rw [List.getElem?_take, if_pos hk, some_nth (by omega)]
  rw [hc, e]
  refine ⟨fun ⟨k, hk, hek⟩ => ?_, fun hne => ?_⟩
  · have h1 := I.at_ k _ (tk k hk)
    rw [hek] at h1
    unfold numStep
    rw [h1]
    refine ⟨rfl, ?_⟩
    have := I.bd _ _ h1
    simp only
    rw [show nth ((numGo (l.take i)).2 ++ [nth (numGo (l.take i)).2 k]) i = nth (numGo (l.take i)).2 k by
      have := nth_last (l := (numGo (l.take i)).2) (z := nth (numGo (l.take i)).2 k)
      rwa [hl] at this]
    exact this.2
  · have h0 : mget (numGo (l.take i)).1 (nth l i) = none := by
      cases hm : mget (numGo (l.take i)).1 (nth l i) with
      | none => rfl
      | some n =>
        exfalso
        have hb := I.bd _ _ hm
        obtain ⟨j, h3, h4⟩ := I.onto n hb.1 hb.2
        have hj : j < i := by rw [List.length_take] at h3; omega
        have h5 := I.at_ j _ (tk j hj)
        rw [h4] at h5
        exact hne j hj (I.inj _ _ _ h5 hm)
    unfold numStep
    rw [h0]
    simp only
    refine ⟨?_, ?_⟩
    · have := nth_last (l := (numGo (l.take i)).2) (z := ((numGo (l.take i)).1.length : Int))
      rwa [hl] at this
    · rw [mset_new _ (mget_none_iff.1 h0)]; simp
/-- Among those from the j-th on one that is alike was met, or none was. -/
def WantIs (l : List Int) (i j : Nat) (z : Int) : Prop :=
  (z = nth (numbered l) i ∧ ∃ k, j ≤ k ∧ k < i ∧ nth l k = nth l i) ∨ (z = (numGo (l.take i)).1.length ∧ ∀ k, j ≤ k → k < i → nth l k ≠ nth l i)
theorem WantIs.start (l : List Int) (i : Nat) : WantIs l i i (numGo (l.take i)).1.length := .inr ⟨rfl, fun k h1 h2 => by omega⟩
theorem WantIs.yes {l : List Int} {i j : Nat} (hi : i < l.length) (hj : j < i) (h : nth l j = nth l i) : WantIs l i j (nth (numbered l) j) := .inl ⟨(numbered_iff (by omega) hi).2 h, j, Nat.le_refl _, hj, h⟩
theorem WantIs.no {l : List Int} {i j : Nat} {z : Int} (h : WantIs l i (j + 1) z) (hn : nth l j ≠ nth l i) : WantIs l i j z := by
  rcases h with ⟨h1, k, h2, h3⟩ | ⟨h1, h2⟩
  · exact .inl ⟨h1, k, by omega, h3⟩
  · refine .inr ⟨h1, fun k h3 h4 => ?_⟩
    by_cases e : k = j
    · rw [e]; exact hn
    · exact h2 k (by omega) h4
theorem WantIs.fin {l : List Int} {i : Nat} {z : Int} (h : WantIs l i 0 z) (hi : i < l.length) : z = nth (numbered l) i ∧ ((numGo (l.take (i + 1))).1.length : Int) = if ((numGo (l.take i)).1.length : Int) < z + 1 then z + 1 else ((numGo (l.take i)).1.length : Int) := by
  obtain ⟨a, b⟩ := cls_next hi
  rcases h with ⟨h1, k, _, h2, h3⟩ | ⟨h1, h2⟩
  · obtain ⟨a1, a2⟩ := a ⟨k, h2, h3⟩
    refine ⟨h1, ?_⟩
    rw [h1, a1, if_neg (by omega)]
  · obtain ⟨b1, b2⟩ := b fun k hk => h2 k (Nat.zero_le _) hk
    refine ⟨by rw [h1, b1], ?_⟩
    rw [h1, b2, if_pos (by omega)]; omega
set_option maxRecDepth 100000 in
set_option maxHeartbeats 4000000 in
theorem leastOf_walk (S : Nat → Prop) (v : Value) (d : D) (w : World) (h : IsD w S v d) (hu : ∀ z ∈ d.tells, u64ok z) :
    Calls Try.prog 7 #[v] w fun e w' => e = .returned (.bool true) ∧ Below w.heap.size w w' := by
  obtain ⟨nv, tv, rfl, hn, ht⟩ := id h
  obtain ⟨NA, nc, rfl⟩ := hn.form
  obtain ⟨TA, tc, rfl⟩ := ht.form
  have HD := hid h
  have HU := hid hu
  obtain ⟨w1, hw1⟩ : ∃ w1, w1 = w.alloc (.cells #[.slice NA d.next.length nc, .slice TA d.tells.length tc] 29) := ⟨_, rfl⟩
  have hb1 : Below w.heap.size w w1 := by rw [hw1]; exact (Below.refl _ _).alloc (Nat.le_refl _) _
  have HB1 := hid hb1
  have HP := hid (show w1.heap[w.heap.size]? = some (.cells #[.slice NA d.next.length nc, .slice TA d.tells.length tc] 29 (0, 0)) by rw [hw1]; exact heap_alloc_new _ _)
  have HL1 := hid (show w.heap.size < w1.heap.size by rw [hw1]; simp)
  -- what the box holds, above w1
  have HX1 := hid (show ∀ Y, Below w1.heap.size w1 Y → Y.cell? ⟨w.heap.size, 0, none⟩ = some (.slice NA d.next.length nc) ∧ Y.cell? ⟨w.heap.size, 1, none⟩ = some (.slice TA d.tells.length tc) from fun Y hY => by
    obtain ⟨a, b, _⟩ := slot2 ((hY.block w.heap.size HL1.out).trans HP.out)
    exact ⟨a, b⟩)
  have HBA := hid (show ∀ Y, Below w1.heap.size w1 Y → Below w.heap.size w Y from fun Y hY => HB1.out.trans (hY.mono HB1.out.size))
  obtain ⟨x0, x1, _⟩ := slot2 HP.out
  rw [hw1] at x0 x1
  clear h hn ht hu hb1
  cases hg : greatB d with
  | true =>
    have HG := hid hg
    clear hg
    go_enter Try.func7, Try.ntmps7
    go_wp2_with (first
      | (go_at_call 14; rw [← hw1]; refine (great_any S _ d _ (HD.out.below HB1.out)).mono ?_; rintro e w2 ⟨rfl, hb2⟩; rw [HG.out]; have HB2 := hid hb2; clear hb2)
      | (go_at_call 31; refine (awake_any _).mono ?_; rintro e w3 ⟨rfl, hb3⟩; have HB3 := hid (HB2.out.trans (hb3.mono HB2.out.size)); clear hb3)
      | fail)
    go_ret
    exact ⟨rfl, HBA.out _ HB3.out⟩
  | false =>
    have HG := hid hg
    clear hg
    cases hr : rightB d with
    | false =>
      have HR := hid hr
      clear hr
      have tok1 : True := trivial
      go_enter Try.func7, Try.ntmps7
      go_wp2_with (first
        | (go_at_call 14; rw [← hw1]; refine (great_any S _ d _ (HD.out.below HB1.out)).mono ?_; rintro e w2 ⟨rfl, hb2⟩; rw [HG.out]; have HB2 := hid hb2; clear hb2)
        | (go_at_call 31; refine (awake_any _).mono ?_; rintro e w3 ⟨rfl, hb3⟩; have HB3 := hid (HB2.out.trans (hb3.mono HB2.out.size)); obtain ⟨y0, y1⟩ := HX1.out _ HB3.out; clear hb3)
        | (go_at_call 15; have _t := tok1; refine (to_any _ _ _ _ _ _ _).mono ?_; rintro e w4 ⟨rfl, hb4⟩; have HB4 := hid (HB3.out.trans (hb4.mono HB3.out.size)); clear hb4 tok1 _t)
        | (go_at_call 32; refine (least_no S _ d _ (HD.out.below (HBA.out _ HB4.out)) HR.out).mono ?_; rintro e w5 ⟨rfl, hb5⟩; have HB5 := hid (HB4.out.trans (hb5.mono HB4.out.size)); have HB6 := hid (HB5.out.alloc HB5.out.size (.cells #[.slice none 0 0, .slice none 0 0] 30)); obtain ⟨z0, z1⟩ := HX1.out _ HB6.out; have HQ6 := hid (heap_alloc_new w5 (.cells #[.slice none 0 0, .slice none 0 0] 30)); have HL6 := hid (show w5.heap.size < (w5.alloc (.cells #[.slice none 0 0, .slice none 0 0] 30)).heap.size by simp); clear hb5)
        | (go_at_call 15; refine (to_any _ _ _ _ _ _ _).mono ?_; rintro e w7 ⟨rfl, hb7⟩; have HB7 := hid (HB6.out.trans (hb7.mono HB6.out.size)); have HQ7 := hid ((hb7.block _ HL6.out).trans HQ6.out); have HL7 := hid (Nat.lt_of_lt_of_le HL6.out hb7.size); clear hb7)
        | (go_at_call 33; refine (classes_no S _ d _ (HD.out.below (HBA.out _ HB7.out)) HR.out).mono ?_; rintro e w8 ⟨rfl, hb8⟩; have HB8 := hid (HB7.out.trans (hb8.mono HB7.out.size)); have HQ8 := hid ((hb8.block _ HL7.out).trans HQ7.out); have HL8 := hid (Nat.lt_of_lt_of_le HL7.out hb8.size); obtain ⟨u0, u1⟩ := HX1.out _ HB8.out; clear hb8)
        | (go_at_call 22; refine (refRight_any S _ d _ (HD.out.below (HBA.out _ HB8.out))).mono ?_; rintro e w9 ⟨rfl, hb9⟩; rw [HR.out]; have HB9 := hid (HB8.out.trans (hb9.mono HB8.out.size)); obtain ⟨v0, v1, _⟩ := slot2 ((hb9.block _ HL8.out).trans HQ8.out); clear hb9)
        | fail)
      go_ret
      exact ⟨rfl, HBA.out _ HB9.out⟩
    | true =>
      have HR := hid hr
      have HRT := hid (rt_of_right hr)
      have h := HD.out
      obtain ⟨nb, no, nc', tb, to', tc', e1, e2, hx⟩ := tabX_of h hr HU.out
      obtain ⟨e1a, e1c⟩ : NA = some ⟨nb, no, none⟩ ∧ nc = nc' := by simpa using e1
      obtain ⟨e2a, e2b, e2c⟩ : TA = some ⟨tb, to', none⟩ ∧ d.tells.length = d.next.length ∧ tc = tc' := by simpa using e2
      have HTL := hid e2b
      subst e1a e1c e2a e2c
      rw [e2b] at HD HP HX1 x0 x1 hw1 ⊢
      have HTX := hid hx
      clear hr h e1 e2 e2b hx
      have tok1 : True := trivial
      go_enter Try.func7, Try.ntmps7
      go_wp2_with (first
        | (go_at_call 14; rw [← hw1]; refine (great_any S _ d _ (HD.out.below HB1.out)).mono ?_; rintro e w2 ⟨rfl, hb2⟩; rw [HG.out]; have HB2 := hid hb2; clear hb2)
        | (go_at_call 31; refine (awake_any _).mono ?_; rintro e w3 ⟨rfl, hb3⟩; have HB3 := hid (HB2.out.trans (hb3.mono HB2.out.size)); obtain ⟨y0, y1⟩ := HX1.out _ HB3.out; clear hb3)
        | (go_at_call 15; have _t := tok1; refine (to_any _ _ _ _ _ _ _).mono ?_; rintro e w4 ⟨rfl, hb4⟩; have HB4 := hid (HB3.out.trans (hb4.mono HB3.out.size)); clear hb4 tok1 _t)
        | (go_at_call 32; refine (least_yes S _ d _ (HD.out.below (HBA.out _ HB4.out)) HR.out HU.out).mono ?_; rintro e w5 ⟨nv, tv, al, rfl, hal, hisd, hb5⟩; obtain ⟨nv', tv', e1, hn5, ht5⟩ := id hisd; obtain ⟨rfl, rfl⟩ : nv = nv' ∧ tv = tv' := (by simpa using e1); obtain ⟨YA, yc, rfl⟩ := hn5.form; obtain ⟨VA, vc, rfl⟩ := ht5.form; have HB5 := hid (HB4.out.trans (hb5.mono HB4.out.size)); have HAL := hid hal; have HY := hid hisd; have HB6 := hid (HB5.out.alloc HB5.out.size (.cells #[.slice YA (leastD al d).next.length yc, .slice VA (leastD al d).tells.length vc] 30)); obtain ⟨z0, z1⟩ := HX1.out _ HB6.out; have HQ6 := hid (heap_alloc_new w5 (.cells #[.slice YA (leastD al d).next.length yc, .slice VA (leastD al d).tells.length vc] 30)); have HL6 := hid (show w5.heap.size < (w5.alloc (.cells #[.slice YA (leastD al d).next.length yc, .slice VA (leastD al d).tells.length vc] 30)).heap.size by simp); have HY6 := hid (HY.out.below ((Below.refl _ _).alloc (Nat.le_refl _) (.cells #[.slice YA (leastD al d).next.length yc, .slice VA (leastD al d).tells.length vc] 30)) |>.mono (S' := Any) (fun _ _ _ => trivial)); clear hb5 hal hisd hn5 ht5 e1)
        | (go_at_call 15; refine (to_any _ _ _ _ _ _ _).mono ?_; rintro e w7 ⟨rfl, hb7⟩; have HB7 := hid (HB6.out.trans (hb7.mono HB6.out.size)); have HQ7 := hid ((hb7.block _ HL6.out).trans HQ6.out); have HL7 := hid (Nat.lt_of_lt_of_le HL6.out hb7.size); have HY7 := hid (HY6.out.below hb7); clear hb7)
        | (go_at_call 33; refine (classes_yes S _ d _ (HD.out.below (HBA.out _ HB7.out)) HR.out HU.out).mono ?_; rintro e w8 ⟨cb, l, rfl, hg8, hl8, ha8, hi8, hb8⟩; have HB8 := hid (HB7.out.trans (hb8.mono HB7.out.size)); have HQ8 := hid ((hb8.block _ HL7.out).trans HQ7.out); have HL8 := hid (Nat.lt_of_lt_of_le HL7.out hb8.size); have HY8 := hid (HY7.out.below hb8); have HC := hid (And.intro hl8 ha8); have HI8 := hid hi8; obtain ⟨u0, u1⟩ := HX1.out _ HB8.out; clear hb8 hl8 ha8 hi8 hg8)
        | (go_at_call 22; refine (refRight_any S _ d _ (HD.out.below (HBA.out _ HB8.out))).mono ?_; rintro e w9 ⟨rfl, hb9⟩; rw [HR.out]; have HB9 := hid (HB8.out.trans (hb9.mono HB8.out.size)); have HQ9 := hid ((hb9.block _ HL8.out).trans HQ8.out); have HL9 := hid (Nat.lt_of_lt_of_le HL8.out hb9.size); have HY9 := hid (HY8.out.below hb9); have HI9 := hid (HI8.out.below hb9 HI8.out.lt); clear hb9)
        | fail)
      obtain ⟨y, hy⟩ : ∃ y, y = leastD al d := ⟨_, rfl⟩
      have HYE := hid hy
      obtain ⟨W, hW⟩ : ∃ W, W = w9 := ⟨_, rfl⟩
      obtain ⟨P, hP⟩ : ∃ P, P = w5.heap.size := ⟨_, rfl⟩
      rw [← hP] at HQ9 HL9 ⊢
      rw [← hy] at HQ9 HY9 ⊢
      rw [← hW] at HQ9 HL9 HY9 HB9 HI9 ⊢
      have HYW := hid HY9.out
      have HBW := hid (HBA.out _ HB9.out)
      have HX2 := hid (show ∀ Y, Below W.heap.size W Y → Y.cell? ⟨w.heap.size, 0, none⟩ = some (.slice (some ⟨nb, no, none⟩) d.next.length nc) ∧ Y.cell? ⟨w.heap.size, 1, none⟩ = some (.slice (some ⟨tb, to', none⟩) d.next.length tc) ∧ Y.cell? ⟨P, 0, none⟩ = some (.slice YA y.next.length yc) ∧ Y.cell? ⟨P, 1, none⟩ = some (.slice VA y.tells.length vc) from fun Y hY => by
        obtain ⟨a, b⟩ := HX1.out Y (HB9.out.trans (hY.mono HB9.out.size))
        obtain ⟨c, e, _⟩ := slot2 ((hY.block P HL9.out).trans HQ9.out)
        exact ⟨a, b, c, e⟩)
      obtain ⟨D0, hD0⟩ : ∃ D0, D0 = w.heap.size := ⟨_, rfl⟩
      have HD0 := hid hD0
      rw [← hD0] at HX2 ⊢
      clear hy hW hP hD0 hw1 x0 x1 y0 y1 z0 z1 u0 u1
      go_wp2_with fail
      refine wp_region_held_drew (S := (fun Y => Y.cell? ⟨D0, 0, none⟩ = some (.slice (some ⟨nb, no, none⟩) d.next.length nc) ∧ Y.cell? ⟨D0, 1, none⟩ = some (.slice (some ⟨tb, to', none⟩) d.next.length tc) ∧ Y.cell? ⟨P, 0, none⟩ = some (.slice YA y.next.length yc) ∧ Y.cell? ⟨P, 1, none⟩ = some (.slice VA y.tells.length vc))) (by kernel_rfl) (by exact HX2.out W (Below.refl _ _)) (fun hHeld => ?_)
      refine wpAnyH_take (i := 0) (oi := { dst := some 41, op := Op.fieldAddr 30 (Operand.tmp 3) 0, type := _, pos := _, after := _, guard := none }) (v := ?_) rfl (by kernel_rfl) (by kernel_rfl) (by kernel_rfl) (fun _ _ _ h => h) (Or.inl ⟨by rfl, ?_⟩) (by assumption) ?_
      rotate_left
      · intro w hSw; (try dsimp only at hSw); go_simp; try with_reducible rfl
      try simp only [Act.put, List.setIfInBounds_toArray, List.set_cons_zero, List.set_cons_succ]
      refine wpAnyH_take (i := 1) (oi := { dst := some 42, op := Op.load 25 (Operand.tmp 41), type := _, pos := _, after := _, guard := none }) (v := ?_) rfl (by kernel_rfl) (by kernel_rfl) (by kernel_rfl) (fun _ _ _ h => h) (Or.inl ⟨by rfl, ?_⟩) (by assumption) ?_
      rotate_left
      · intro w hSw; (try dsimp only at hSw); go_simp; try with_reducible rfl
      try simp only [Act.put, List.setIfInBounds_toArray, List.set_cons_zero, List.set_cons_succ]
      refine wpAnyH_take (i := 2) (oi := { dst := some 43, op := Op.fieldAddr 30 (Operand.tmp 3) 1, type := _, pos := _, after := _, guard := none }) (v := ?_) rfl (by kernel_rfl) (by kernel_rfl) (by kernel_rfl) (fun _ _ _ h => h) (Or.inl ⟨by rfl, ?_⟩) (by assumption) ?_
      rotate_left
      · intro w hSw; (try dsimp only at hSw); go_simp; try with_reducible rfl
      try simp only [Act.put, List.setIfInBounds_toArray, List.set_cons_zero, List.set_cons_succ]
      refine wpAnyH_take (i := 3) (oi := { dst := some 44, op := Op.load 26 (Operand.tmp 43), type := _, pos := _, after := _, guard := none }) (v := ?_) rfl (by kernel_rfl) (by kernel_rfl) (by kernel_rfl) (fun _ _ _ h => h) (Or.inl ⟨by rfl, ?_⟩) (by assumption) ?_
      rotate_left
      · intro w hSw; (try dsimp only at hSw); go_simp; try with_reducible rfl
      try simp only [Act.put, List.setIfInBounds_toArray, List.set_cons_zero, List.set_cons_succ]
      refine wpAnyH_take (i := 4) (oi := { dst := some 45, op := Op.build 29 #[(0, Operand.tmp 42), (1, Operand.tmp 44)], type := _, pos := _, after := _, guard := none }) (v := ?_) rfl (by kernel_rfl) (by kernel_rfl) (by kernel_rfl) (fun _ _ _ h => h) (Or.inl ⟨by rfl, ?_⟩) (by assumption) ?_
      rotate_left
      · intro w hSw; (try dsimp only at hSw); go_simp; try with_reducible rfl
      try simp only [Act.put, List.setIfInBounds_toArray, List.set_cons_zero, List.set_cons_succ]
      refine wpAnyH_take (i := 5) (oi := { dst := some 46, op := Op.load 29 (Operand.tmp 1), type := _, pos := _, after := _, guard := none }) (v := ?_) rfl (by kernel_rfl) (by kernel_rfl) (by kernel_rfl) (fun _ _ _ h => h) (Or.inl ⟨by rfl, ?_⟩) (by assumption) ?_
      rotate_left
      · intro w hSw; (try dsimp only at hSw); go_simp; try with_reducible rfl
      try simp only [Act.put, List.setIfInBounds_toArray, List.set_cons_zero, List.set_cons_succ]
      refine wpAnyH_ready (rs := [6]) (by kernel_rfl) (by simp) ?_
      refine AllReadyH.cons (o := { dst := some 47, op := Op.call { callee := Callee.value (Operand.func 34), args := #[Operand.tmp 46], argTypes := #[29] }, type := _, pos := _, after := _, guard := none }) rfl (fun K hK => ?_) AllReadyH.nil
      go_simp
      refine (refLeast_any _ nb no nc tb to' tc _ d rfl ((HTX.out.below HBW.out).below (Below.refl _ _).drew)).mono ?_
      rintro e w9 ⟨nv9, tv9, al9, rfl, hal9, hisd9, hb9⟩
      have HE9 := hid (show Below W.heap.size W w9 from ((Below.refl _ _).drew).trans hb9)
      rw [leastD_uniq hal9 HAL.out HRT.out.1 HRT.out.2.1, ← HYE.out] at hisd9
      have HJ9 := hid hisd9
      obtain ⟨_, _, e9, hn9, ht9⟩ := hisd9
      obtain ⟨rfl, rfl⟩ : nv9 = _ ∧ tv9 = _ := (by simpa using e9)
      clear hb9 hal9 e9 hn9 ht9
      refine hK.out _ _ (by exact HX2.out _ HE9.out) (fun hHeld => ?_)
      clear hK K
      try simp only [Act.put, List.setIfInBounds_toArray, List.set_cons_zero, List.set_cons_succ]
      refine wpAnyH_ready (rs := [7]) (by kernel_rfl) (by simp) ?_
      refine AllReadyH.cons (o := { dst := some 48, op := Op.call { callee := Callee.value (Operand.func 25), args := #[Operand.tmp 45, Operand.tmp 47], argTypes := #[29, 29] }, type := _, pos := _, after := _, guard := none }) rfl (fun K hK => ?_) AllReadyH.nil
      go_simp
      refine (refSame_any _ _ _ _ y y _ (HYW.out.below HE9.out) HJ9.out).mono ?_
      rintro e w8 ⟨rfl, hb8⟩
      rw [sameD_self2]
      have HE8 := hid (show Below W.heap.size W w8 from HE9.out.trans (hb8.mono HE9.out.size))
      clear hb8
      refine hK.out _ _ (by exact HX2.out _ HE8.out) (fun hHeld => ?_)
      clear hK K
      try simp only [Act.put, List.setIfInBounds_toArray, List.set_cons_zero, List.set_cons_succ]
      refine wpAnyH_take (i := 8) (oi := { dst := some 49, op := Op.unOp UnOp.not 4 (Operand.tmp 48), type := _, pos := _, after := _, guard := none }) (v := ?_) rfl (by kernel_rfl) (by kernel_rfl) (by kernel_rfl) (fun _ _ _ h => h) (Or.inl ⟨by rfl, ?_⟩) (by assumption) ?_
      rotate_left
      · intro w hSw; (try dsimp only at hSw); go_simp; try with_reducible rfl
      try simp only [Act.put, List.setIfInBounds_toArray, List.set_cons_zero, List.set_cons_succ]
      refine wpAnyH_take (i := 9) (oi := { dst := some 50, op := Op.move (Operand.tmp 49), type := _, pos := _, after := _, guard := none }) (v := ?_) rfl (by kernel_rfl) (by kernel_rfl) (by kernel_rfl) (fun _ _ _ h => h) (Or.inl ⟨by rfl, ?_⟩) (by assumption) ?_
      rotate_left
      · intro w hSw; (try dsimp only at hSw); go_simp; try with_reducible rfl
      try simp only [Act.put, List.setIfInBounds_toArray, List.set_cons_zero, List.set_cons_succ]
      refine wpAnyH_take (i := 10) (oi := { dst := some 51, op := Op.move (Operand.tmp 4), type := _, pos := _, after := _, guard := some (9, false) }) (v := ?_) rfl (by kernel_rfl) (by kernel_rfl) (by kernel_rfl) (fun _ _ _ h => h) (Or.inl ⟨by rfl, ?_⟩) (by assumption) ?_
      rotate_left
      · intro w hSw; (try dsimp only at hSw); go_simp; try with_reducible rfl
      try simp only [Act.put, List.setIfInBounds_toArray, List.set_cons_zero, List.set_cons_succ]
      refine wpAnyH_take (i := 11) (oi := { dst := some 52, op := Op.call { callee := Callee.builtin Builtin.len, args := #[Operand.tmp 51], argTypes := #[32] }, type := _, pos := _, after := _, guard := some (9, false) }) (v := ?_) rfl (by kernel_rfl) (by kernel_rfl) (by kernel_rfl) (fun _ _ _ h => h) (Or.inl ⟨by rfl, ?_⟩) (by assumption) ?_
      rotate_left
      · intro w hSw; (try dsimp only at hSw); go_simp; try with_reducible rfl
      try simp only [Act.put, List.setIfInBounds_toArray, List.set_cons_zero, List.set_cons_succ]
      refine wpAnyH_take (i := 12) (oi := { dst := some 53, op := Op.fieldAddr 29 (Operand.tmp 1) 0, type := _, pos := _, after := _, guard := some (9, false) }) (v := ?_) rfl (by kernel_rfl) (by kernel_rfl) (by kernel_rfl) (fun _ _ _ h => h) (Or.inl ⟨by rfl, ?_⟩) (by assumption) ?_
      rotate_left
      · intro w hSw; (try dsimp only at hSw); go_simp; try with_reducible rfl
      try simp only [Act.put, List.setIfInBounds_toArray, List.set_cons_zero, List.set_cons_succ]
      refine wpAnyH_take (i := 13) (oi := { dst := some 54, op := Op.load 25 (Operand.tmp 53), type := _, pos := _, after := _, guard := some (9, false) }) (v := ?_) rfl (by kernel_rfl) (by kernel_rfl) (by kernel_rfl) (fun _ _ _ h => h) (Or.inl ⟨by rfl, ?_⟩) (by assumption) ?_
      rotate_left
      · intro w hSw; (try dsimp only at hSw); go_simp; try with_reducible rfl
      try simp only [Act.put, List.setIfInBounds_toArray, List.set_cons_zero, List.set_cons_succ]
      refine wpAnyH_take (i := 14) (oi := { dst := some 55, op := Op.call { callee := Callee.builtin Builtin.len, args := #[Operand.tmp 54], argTypes := #[25] }, type := _, pos := _, after := _, guard := some (9, false) }) (v := ?_) rfl (by kernel_rfl) (by kernel_rfl) (by kernel_rfl) (fun _ _ _ h => h) (Or.inl ⟨by rfl, ?_⟩) (by assumption) ?_
      rotate_left
      · intro w hSw; (try dsimp only at hSw); go_simp; try with_reducible rfl
      try simp only [Act.put, List.setIfInBounds_toArray, List.set_cons_zero, List.set_cons_succ]
      refine wpAnyH_take (i := 15) (oi := { dst := some 56, op := Op.binOp BinOp.neq 3 (Operand.tmp 52) (Operand.tmp 55) 3, type := _, pos := _, after := _, guard := some (9, false) }) (v := ?_) rfl (by kernel_rfl) (by kernel_rfl) (by kernel_rfl) (fun _ _ _ h => h) (Or.inl ⟨by rfl, ?_⟩) (by assumption) ?_
      rotate_left
      · intro w hSw; (try dsimp only at hSw); go_simp; try with_reducible rfl
      try simp only [Act.put, List.setIfInBounds_toArray, List.set_cons_zero, List.set_cons_succ]
      refine wpAnyH_take (i := 16) (oi := { dst := some 57, op := Op.pick (Operand.tmp 50) (Operand.const (Value.bool true)) (Operand.tmp 56), type := _, pos := _, after := _, guard := none }) (v := ?_) rfl (by kernel_rfl) (by kernel_rfl) (by kernel_rfl) (fun _ _ _ h => h) (Or.inl ⟨by rfl, ?_⟩) (by assumption) ?_
      rotate_left
      · intro w hSw; (try dsimp only at hSw); go_simp; try with_reducible rfl
      try simp only [Act.put, List.setIfInBounds_toArray, List.set_cons_zero, List.set_cons_succ]
      refine wpAnyH_done (by kernel_rfl) ?_ _
      have HDE := hid (HBW.out.trans (HE8.out.mono HBW.out.size))
      have HIE := hid (HI9.out.below HE8.out HI9.out.lt)
      have HTE := hid (HTX.out.below HDE.out)
      obtain ⟨f0, f1, _⟩ := HX2.out _ HE8.out
      clear HE9 HI9
      go_wp2_with (first
        | (go_at_call 35
           refine (refApart_any _ nb no nc tb to' tc _ d.next d.tells HTE.out).mono ?_
           rintro e wa ⟨mb, rb, M, rfl, _, _, hma, haa, hba⟩
           have HMA := hid hma
           have HAA := hid haa
           have HIA := hid (HIE.out.below hba HIE.out.lt)
           have HBE := hid (HDE.out.trans (hba.mono HDE.out.size))
           clear hma haa hba f0 f1)
        | fail)
      obtain ⟨n, hn⟩ : ∃ n, n = d.next.length := ⟨_, rfl⟩
      have HN := hid hn
      have hn1000 : n ≤ 1000 := by rw [hn]; exact HRT.out.2.2.1
      have HLN := hid (show l.length = n by rw [hn]; exact HC.out.1)
      rw [← hn] at HMA HAA ⊢
      have HAL2 := hid (show ∀ i k, i < n → k < n → (M i k < 0 ↔ nth l k = nth l i) from fun i k hi hk => by
        have h1 := (HAA.out i k hi hk).alk (by have := HRT.out.1; rwa [← HN.out] at this) (by omega) hi hk
        rw [h1, HC.out.2 k i (by rw [← HN.out]; exact hk) (by rw [← HN.out]; exact hi)]
        exact ⟨fun h => h.symm, fun h => h.symm⟩)
      have HCL := hid (show (numbered l).length = n by rw [show (numbered l).length = l.length from (numGo_len l).1]; exact HLN.out)
      have HCB := hid (show ∀ i, i < n → 0 ≤ nth (numbered l) i ∧ nth (numbered l) i < (n : Int) from fun i hi => by
        have I := numI l
        have h1 := I.bd _ _ (I.at_ i _ (nth_at (by rw [HLN.out]; exact hi)))
        have h2 := (numGo_len l).2
        rw [HLN.out] at h2
        exact ⟨h1.1, by have := h1.2; show nth (numGo l).2 i < _; omega⟩)
      have HCC := hid (show ∀ i, (numGo (l.take i)).1.length ≤ n from fun i => by
        have h2 := (numGo_len (l.take i)).2
        rw [List.length_take, HLN.out] at h2; omega)
      clear hn
      go_wp2_with fail
      go_loop [6, 7] (fun s6 s7 => ∃ i : Nat, i ≤ n ∧ s7 = .int .i64 i ∧ s6 = .int .i64 ((numGo (l.take i)).1.length : Int)) (fun _ s7 => n - (intOf s7).toNat)
      case atStart => exact ⟨0, by omega, rfl, rfl⟩
      case round =>
        obtain ⟨i, hi, rfl, rfl⟩ := hrel
        by_cases hlt : i < n
        · have hli : i < l.length := by rw [HLN.out]; exact hlt
          obtain ⟨cnt, hcnt⟩ : ∃ cnt, cnt = (numGo (l.take i)).1.length := ⟨_, rfl⟩
          have HCNT := hid hcnt
          have hcn : cnt ≤ n := by rw [hcnt]; exact HCC.out i
          have HW0 := hid (show WantIs l i i (cnt : Int) by rw [hcnt]; exact WantIs.start l i)
          rw [← hcnt]
          have hii : (i : Int) < (n : Int) := by omega
          have hi0 : 0 ≤ (i : Int) := by omega
          clear hcnt
          go_wp2_with fail
          go_loop [8, 9] (fun s8 s9 => ∃ (j : Nat) (x z : Int), j ≤ i ∧ s9 = .int .i64 x ∧ x = (j : Int) - 1 ∧ s8 = .int .i64 z ∧ Hid (WantIs l i j z)) (fun _ s9 => (intOf s9 + 1).toNat)
          case atStart => exact ⟨i, _, _, Nat.le_refl _, rfl, rfl, rfl, HW0⟩
          case round =>
            obtain ⟨j, x, z, hj, rfl, hx, rfl, HW⟩ := hrel
            by_cases hj0 : j = 0
            · subst hj0
              obtain rfl : x = -1 := by omega
              obtain ⟨hz, hmax⟩ := HW.out.fin hli
              obtain ⟨b1, b2⟩ := HCB.out i hlt
              have hci := HIA.out.cell (j := i) (by rw [HCL.out]; exact hlt)
              rw [← hz] at b1 b2 hci
              rw [← HCNT.out] at hmax
              have HMX := hid hmax
              have hzn : z ≤ 1000 := by omega
              clear hz hmax hx hj
              go_wp2_with fail
              go_round
              case rel => exact ⟨i + 1, by omega, by go_num, by rw [HMX.out]⟩
              case measure => simp [intOf]; omega
            · obtain ⟨k, rfl⟩ : ∃ k, j = k + 1 := ⟨j - 1, by omega⟩
              obtain rfl : x = (k : Int) := by omega
              have hkn : k < n := by omega
              have hc1 := HMA.out.cell hlt
              have hc2 := HMA.out.at hlt hkn
              have hc3 := HIA.out.cell (j := k) (by rw [HCL.out]; exact hkn)
              have hab := HAL2.out i k hlt hkn
              obtain ⟨a, ha⟩ : ∃ a, a = M i k := ⟨_, rfl⟩
              rw [← ha] at hc2 hab
              have hki : (k : Int) < (n : Int) := by omega
              have hk0 : 0 ≤ (k : Int) := by omega
              by_cases ha0 : a < 0
              · have HWN := hid (show WantIs l i k (nth (numbered l) k) from WantIs.yes hli (by omega) (hab.1 ha0))
                clear ha hab hx hj0
                go_wp2_with fail
                go_round
                case rel => exact ⟨k, _, _, by omega, rfl, rfl, rfl, HWN⟩
                case measure => simp [intOf] <;> omega
              · have HWN := hid (show WantIs l i k z from WantIs.no HW.out (fun e => ha0 (hab.2 e)))
                have ha1 : 0 ≤ a := by omega
                clear ha hab hx hj0 ha0
                go_wp2_with fail
                go_round
                case rel => exact ⟨k, _, _, by omega, rfl, rfl, rfl, HWN⟩
                case measure => simp [intOf] <;> omega
        · obtain rfl : i = n := by omega
          go_wp2_with fail
          go_ret
          exact ⟨rfl, HBE.out⟩
end Go.Proofs.Ytmdkmobcglnmgaa
