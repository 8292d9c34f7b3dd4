/- The least automaton is alike, right, and its own least one; no two of its states are alike: the law's walk. Conditions: none. -/
import Derived.Test.YtmdkmobcglnmgaaBo
namespace Go.Proofs.Ytmdkmobcglnmgaa
open Go.RowKit
set_option linter.unusedSimpArgs false

theorem fix_of {d y : D} {al be : Int → Int → Bool} (ha : AlIs al d) (hb : AlIs be y) (hr : rightB d = true) (hy : y = leastD al d) : leastD be y = y := by
  obtain ⟨hrt, hn, _, _⟩ := rt_of_right hr
  obtain ⟨F, hF⟩ := least_is ha hrt hn
  rw [← hy] at hF
  have h := (least_alike ha hb hrt hF.rt hn (by rw [hF.len.1]; exact hF.z.2)).1 (hF.alkT hrt)
  rw [← h, hy]
theorem modN (n : Nat) (hn : 1 ≤ n) (hn2 : n ≤ 1000) (z : Int) : ∃ i : Nat, i < n ∧ wrap64 ((IntKind.u64.wrap z).tmod n) = (i : Int) := by
  have h0 : 0 ≤ IntKind.u64.wrap z := by simp [IntKind.wrap, IntKind.bits, IntKind.signed]; omega
  have h1 : (IntKind.u64.wrap z).tmod n = IntKind.u64.wrap z % n := Int.tmod_eq_emod_of_nonneg h0
  have h2 := Int.emod_nonneg (IntKind.u64.wrap z) (show (n : Int) ≠ 0 by omega)
  have h3 := Int.emod_lt_of_pos (IntKind.u64.wrap z) (show (0 : Int) < n by omega)
  refine ⟨(IntKind.u64.wrap z % n).toNat, by omega, ?_⟩
  rw [h1]
  generalize IntKind.u64.wrap z % n = x at h2 h3
  unfold wrap64
  omega
theorem dNil_right : rightB ⟨[], []⟩ = false := by decide
theorem dNil_is (w : World) : IsD w Any (.agg #[.slice none 0 0, .slice none 0 0]) ⟨[], []⟩ :=
  ⟨_, _, rfl, ⟨none, 0, [], rfl, Nat.le_refl _, Nat.zero_le _, Arr.nil, rfl, fun k r h => by simp at h⟩, ⟨none, 0, rfl, Nat.le_refl _, Nat.zero_le _, Arr.nil⟩⟩
set_option maxRecDepth 100000 in
set_option maxHeartbeats 4000000 in
theorem leastSame_walk (S : Nat → Prop) (v : Value) (d : D) (p q : Int) (w : World) (h : IsD w S v d) (hu : ∀ z ∈ d.tells, u64ok z) :
    Calls Try.prog 12 #[v, .int .i64 p, .int .i64 q] w fun e w' => e = .returned (.bool true) ∧ Below w.heap.size w w' := by
  obtain ⟨nv, tv, rfl, hn, ht⟩ := id h
  obtain ⟨NA, nc, rfl⟩ := hn.form
  obtain ⟨TA, tc, rfl⟩ := ht.form
  have HD := hid h
  have HU := hid hu
  obtain ⟨w1, hw1⟩ : ∃ w1, w1 = w.alloc (.cells #[.slice NA d.next.length nc, .slice TA d.tells.length tc] 29) := ⟨_, rfl⟩
  have HB1 := hid (show Below w.heap.size w w1 by rw [hw1]; exact (Below.refl _ _).alloc (Nat.le_refl _) _)
  have HP := hid (show w1.heap[w.heap.size]? = some (.cells #[.slice NA d.next.length nc, .slice TA d.tells.length tc] 29 (0, 0)) by rw [hw1]; exact heap_alloc_new _ _)
  have HL1 := hid (show w.heap.size < w1.heap.size by rw [hw1]; simp)
  have HX1 := hid (show ∀ Y, Below w1.heap.size w1 Y → Y.cell? ⟨w.heap.size, 0, none⟩ = some (.slice NA d.next.length nc) ∧ Y.cell? ⟨w.heap.size, 1, none⟩ = some (.slice TA d.tells.length tc) from fun Y hY => by
    obtain ⟨a, b, _⟩ := slot2 ((hY.block w.heap.size HL1.out).trans HP.out)
    exact ⟨a, b⟩)
  have HBA := hid (show ∀ Y, Below w1.heap.size w1 Y → Below w.heap.size w Y from fun Y hY => HB1.out.trans (hY.mono HB1.out.size))
  obtain ⟨x0, x1⟩ := HX1.out w1 (Below.refl _ _)
  rw [hw1] at x0 x1
  clear h hn ht hu
  cases hg : greatB d with
  | true =>
    have HG := hid hg
    clear hg
    go_enter Try.func12, Try.ntmps12
    go_wp2_with (first
      | (go_at_call 14; rw [← hw1]; refine (great_any S _ d _ (HD.out.below HB1.out)).mono ?_; rintro e w2 ⟨rfl, hb2⟩; rw [HG.out]; have HB2 := hid hb2; clear hb2)
      | (go_at_call 31; refine (awake_any _).mono ?_; rintro e w3 ⟨rfl, hb3⟩; have HB3 := hid (HB2.out.trans (hb3.mono HB2.out.size)); clear hb3)
      | fail)
    go_ret
    exact ⟨rfl, HBA.out _ HB3.out⟩
  | false =>
    have HG := hid hg
    clear hg
    cases hr : rightB d with
    | false =>
      have HR := hid hr
      have tok1 : True := trivial
      clear hr
      go_enter Try.func12, Try.ntmps12
      go_wp2_with (first
        | (go_at_call 14; rw [← hw1]; refine (great_any S _ d _ (HD.out.below HB1.out)).mono ?_; rintro e w2 ⟨rfl, hb2⟩; rw [HG.out]; have HB2 := hid hb2; clear hb2)
        | (go_at_call 31; refine (awake_any _).mono ?_; rintro e w3 ⟨rfl, hb3⟩; have HB3 := hid (HB2.out.trans (hb3.mono HB2.out.size)); obtain ⟨y0, y1⟩ := HX1.out _ HB3.out; clear hb3)
        | (go_at_call 15; refine (to_any _ _ _ _ _ _ _).mono ?_; rintro e w4 ⟨rfl, hb4⟩; have HB4 := hid (HB3.out.trans (hb4.mono HB3.out.size)); have HB5 := hid (HB4.out.alloc HB4.out.size (.cells #[.slice NA d.next.length nc, .slice TA d.tells.length tc] 30)); have HP5 := hid (heap_alloc_new w4 (.cells #[.slice NA d.next.length nc, .slice TA d.tells.length tc] 30)); have HL5 := hid (show w4.heap.size < (w4.alloc (.cells #[.slice NA d.next.length nc, .slice TA d.tells.length tc] 30)).heap.size by simp); clear hb4)
        | (go_at_call 32; refine (least_no S _ d _ (HD.out.below (HBA.out _ HB5.out)) HR.out).mono ?_; rintro e w6 ⟨rfl, hb6⟩; have HB6 := hid (HB5.out.trans (hb6.mono HB5.out.size)); have HP6 := hid ((hb6.block _ HL5.out).trans HP5.out); have HL6 := hid (Nat.lt_of_lt_of_le HL5.out hb6.size)
           have HB7 := hid (HB6.out.alloc HB6.out.size (.cells #[.slice none 0 0, .slice none 0 0] 30)); have HQ7 := hid (heap_alloc_new w6 (.cells #[.slice none 0 0, .slice none 0 0] 30)); have HP7 := hid ((heap_alloc_old w6 (.cells #[.slice none 0 0, .slice none 0 0] 30) HL6.out).trans HP6.out)
           have HL7 := hid (show w4.heap.size < (w6.alloc (.cells #[.slice none 0 0, .slice none 0 0] 30)).heap.size ∧ w6.heap.size < (w6.alloc (.cells #[.slice none 0 0, .slice none 0 0] 30)).heap.size from ⟨by have := HL6.out; simp; omega, by simp⟩)
           obtain ⟨z0, z1, _⟩ := slot2 HP7.out; clear hb6)
        | (go_at_call 26; refine (right_any S _ d _ (HD.out.below (HBA.out _ HB7.out))).mono ?_; rintro e w8 ⟨rfl, hb8⟩; rw [HR.out]; have HB8 := hid (HB7.out.trans (hb8.mono HB7.out.size)); have HP8 := hid ((hb8.block _ HL7.out.1).trans HP7.out); have HL8 := hid (Nat.lt_of_lt_of_le HL7.out.1 hb8.size); obtain ⟨u0, u1, _⟩ := slot2 ((hb8.block _ HL7.out.2).trans HQ7.out); obtain ⟨u2, u3, _⟩ := slot2 HP8.out; clear hb8)
        | (go_at_call 41; have _t := tok1; refine (alikeT_any S S _ _ d d _ (HD.out.below (HBA.out _ HB8.out)) (HD.out.below (HBA.out _ HB8.out)) HU.out HU.out).mono ?_; rintro e w9 ⟨b1, rfl, hq1, hb9⟩; have hbf : b1 = false := (Bool.eq_false_iff.2 fun h => by have := (hq1.1 h).1; rw [HR.out] at this; cases this); subst hbf; have HB9 := hid (HB8.out.trans (hb9.mono HB8.out.size)); obtain ⟨v0, v1, _⟩ := slot2 ((hb9.block _ HL8.out).trans HP8.out); clear hb9 hq1 tok1 _t)
        | (go_at_call 41; refine (alikeT_any S Any _ _ d ⟨[], []⟩ _ (HD.out.below (HBA.out _ HB9.out)) (dNil_is _) HU.out (fun z hz => by cases hz)).mono ?_; rintro e wx ⟨b2, rfl, hq2, hbx⟩; have hbf : b2 = false := (Bool.eq_false_iff.2 fun h => by have := (hq2.1 h).1; rw [HR.out] at this; cases this); subst hbf; have HBX := hid (HB9.out.trans (hbx.mono HB9.out.size)); clear hbx hq2)
        | fail)
      go_ret
      exact ⟨rfl, HBA.out _ HBX.out⟩
    | true =>
      have HR := hid hr
      have HRT := hid (rt_of_right hr)
      clear hr
      go_enter Try.func12, Try.ntmps12
      go_wp2_with (first
        | (go_at_call 14; rw [← hw1]; refine (great_any S _ d _ (HD.out.below HB1.out)).mono ?_; rintro e w2 ⟨rfl, hb2⟩; rw [HG.out]; have HB2 := hid hb2; clear hb2)
        | (go_at_call 31; refine (awake_any _).mono ?_; rintro e w3 ⟨rfl, hb3⟩; have HB3 := hid (HB2.out.trans (hb3.mono HB2.out.size)); obtain ⟨y0, y1⟩ := HX1.out _ HB3.out; clear hb3)
        | (go_at_call 15; refine (to_any _ _ _ _ _ _ _).mono ?_; rintro e w4 ⟨rfl, hb4⟩; have HB4 := hid (HB3.out.trans (hb4.mono HB3.out.size)); have HB5 := hid (HB4.out.alloc HB4.out.size (.cells #[.slice NA d.next.length nc, .slice TA d.tells.length tc] 30)); have HP5 := hid (heap_alloc_new w4 (.cells #[.slice NA d.next.length nc, .slice TA d.tells.length tc] 30)); have HL5 := hid (show w4.heap.size < (w4.alloc (.cells #[.slice NA d.next.length nc, .slice TA d.tells.length tc] 30)).heap.size by simp); clear hb4)
        | (go_at_call 32; refine (least_yes S _ d _ (HD.out.below (HBA.out _ HB5.out)) HR.out HU.out).mono ?_; rintro e w6 ⟨nv, tv, al, rfl, hal, hisd, hb6⟩; obtain ⟨nv', tv', e1, hn6, ht6⟩ := id hisd; obtain ⟨rfl, rfl⟩ : nv = nv' ∧ tv = tv' := (by simpa using e1); obtain ⟨YA, yc, rfl⟩ := hn6.form; obtain ⟨VA, vc, rfl⟩ := ht6.form; have HAL := hid hal; have HB6 := hid (HB5.out.trans (hb6.mono HB5.out.size)); have HP6 := hid ((hb6.block _ HL5.out).trans HP5.out); have HL6 := hid (Nat.lt_of_lt_of_le HL5.out hb6.size)
           have HB7 := hid (HB6.out.alloc HB6.out.size (.cells #[.slice YA (leastD al d).next.length yc, .slice VA (leastD al d).tells.length vc] 30)); have HQ7 := hid (heap_alloc_new w6 (.cells #[.slice YA (leastD al d).next.length yc, .slice VA (leastD al d).tells.length vc] 30)); have HP7 := hid ((heap_alloc_old w6 (.cells #[.slice YA (leastD al d).next.length yc, .slice VA (leastD al d).tells.length vc] 30) HL6.out).trans HP6.out)
           have HL7 := hid (show w4.heap.size < (w6.alloc (.cells #[.slice YA (leastD al d).next.length yc, .slice VA (leastD al d).tells.length vc] 30)).heap.size ∧ w6.heap.size < (w6.alloc (.cells #[.slice YA (leastD al d).next.length yc, .slice VA (leastD al d).tells.length vc] 30)).heap.size from ⟨by have := HL6.out; simp; omega, by simp⟩)
           have HI7 := hid (hisd.below ((Below.refl _ _).alloc (Nat.le_refl _) (.cells #[.slice YA (leastD al d).next.length yc, .slice VA (leastD al d).tells.length vc] 30)) |>.mono (S' := Any) (fun _ _ _ => trivial))
           obtain ⟨z0, z1, _⟩ := slot2 HP7.out; clear hb6 hal hisd hn6 ht6 e1)
        | (go_at_call 26; refine (right_any S _ d _ (HD.out.below (HBA.out _ HB7.out))).mono ?_; rintro e w8 ⟨rfl, hb8⟩; rw [HR.out]; have HB8 := hid (HB7.out.trans (hb8.mono HB7.out.size)); have HP8 := hid ((hb8.block _ HL7.out.1).trans HP7.out); have HQ8 := hid ((hb8.block _ HL7.out.2).trans HQ7.out); have HL8 := hid (And.intro (Nat.lt_of_lt_of_le HL7.out.1 hb8.size) (Nat.lt_of_lt_of_le HL7.out.2 hb8.size)); have HI8 := hid (HI7.out.below hb8); obtain ⟨u0, u1, _⟩ := slot2 HQ8.out; clear hb8)
        | fail)
      obtain ⟨y, hy⟩ : ∃ y, y = leastD al d := ⟨_, rfl⟩
      have HYE := hid hy
      obtain ⟨F, hF⟩ := least_is HAL.out HRT.out.1 HRT.out.2.1
      rw [← hy] at hF
      have HLI := hid hF
      have HRY := hid (hF.right HR.out)
      have HUY := hid (hF.u64 HRT.out.2.2.2 HU.out)
      have HAT := hid (hF.alkT HRT.out.1)
      have HFL := hid (show 1 ≤ y.next.length ∧ y.next.length ≤ d.next.length ∧ d.next.length ≤ 1000 from ⟨by rw [hF.len.1]; exact hF.z.2, by rw [hF.len.1]; exact hF.len.2.2, HRT.out.2.2.1⟩)
      obtain ⟨wz, hwz⟩ : ∃ wz, wz = w8 := ⟨_, rfl⟩
      obtain ⟨P, hP⟩ : ∃ P, P = w4.heap.size := ⟨_, rfl⟩
      obtain ⟨Q, hQ⟩ : ∃ Q, Q = w6.heap.size := ⟨_, rfl⟩
      rw [← hP] at HP8 HL8 ⊢
      rw [← hQ] at HQ8 HL8 u0 u1 ⊢
      rw [← hy] at HQ8 HI8 u0 u1 ⊢
      rw [← hwz] at HP8 HQ8 HL8 HI8 HB8 u0 u1 ⊢
      have HY := hid HI8.out
      have HX2 := hid (show ∀ Y, Below wz.heap.size wz Y → Y.cell? ⟨P, 0, none⟩ = some (.slice NA d.next.length nc) ∧ Y.cell? ⟨P, 1, none⟩ = some (.slice TA d.tells.length tc) ∧ Y.cell? ⟨Q, 0, none⟩ = some (.slice YA y.next.length yc) ∧ Y.cell? ⟨Q, 1, none⟩ = some (.slice VA y.tells.length vc) from fun Y hY => by
        obtain ⟨a, b, _⟩ := slot2 ((hY.block P HL8.out.1).trans HP8.out)
        obtain ⟨c, e, _⟩ := slot2 ((hY.block Q HL8.out.2).trans HQ8.out)
        exact ⟨a, b, c, e⟩)
      have HBZ := hid (HBA.out _ HB8.out)
      have HDZ := hid (HD.out.below HBZ.out)
      obtain ⟨g1, g2, g3⟩ := HFL.out
      obtain ⟨i, hi, hie⟩ := modN y.next.length g1 (by omega) p
      obtain ⟨k, hk, hke⟩ := modN y.next.length g1 (by omega) q
      have HIE := hid hie
      have HKE := hid hke
      have hz0 : ((y.next.length : Int) == 0) = false := ieq_false (by omega)
      have hgt : decide ((d.next.length : Int) < (y.next.length : Int)) = false := by simp; omega
      have hgn : decide (d.next.length < y.next.length) = false := by simp; omega
      have HAP := hid (show ∀ Y, Below wz.heap.size wz Y → Calls Try.prog 38 #[.agg #[.slice YA y.next.length yc, .slice VA y.tells.length vc], .int .i64 i, .int .i64 k] Y (SearchAns Y y y i k) from fun Y hY =>
        apart_yes Any _ y i k Y (HY.out.below hY) HRY.out HUY.out hi hk)
      have HNE := hid (show ∀ u, (∀ m ∈ u, m < 37) → sep y y i k u → i ≠ k from fun u _ hs e => hs (by rw [e]))
      have HEQ := hid (show (∀ u, (∀ m ∈ u, m < 37) → ¬ sep y y i k u) → i = k from fun h => (hF.alk HRT.out.1 (by rw [← hF.len.1]; exact hi) (by rw [← hF.len.1]; exact hk)).1 fun u hu => Classical.byContradiction fun hc => h u hu hc)
      clear hy hwz hP hQ hF hw1 x0 x1 y0 y1 z0 z1 hie hke hi hk
      go_wp2_with fail
      refine wp_region_held_drew (S := (fun Y => Y.cell? ⟨P, 0, none⟩ = some (.slice NA d.next.length nc) ∧ Y.cell? ⟨P, 1, none⟩ = some (.slice TA d.tells.length tc) ∧ Y.cell? ⟨Q, 0, none⟩ = some (.slice YA y.next.length yc) ∧ Y.cell? ⟨Q, 1, none⟩ = some (.slice VA y.tells.length vc))) (by kernel_rfl) (by exact HX2.out wz (Below.refl _ _)) (fun hHeld => ?_)
      refine wpAnyH_take (i := 0) (oi := { dst := some 47, op := Op.move (Operand.tmp 9), type := _, pos := _, after := _, guard := none }) (v := ?_) rfl (by kernel_rfl) (by kernel_rfl) (by kernel_rfl) (fun _ _ _ h => h) (Or.inl ⟨by rfl, ?_⟩) (by assumption) ?_
      rotate_left
      · intro w hSw; (try dsimp only at hSw); go_simp; try with_reducible rfl
      try simp only [Act.put, List.setIfInBounds_toArray, List.set_cons_zero, List.set_cons_succ]
      refine wpAnyH_take (i := 1) (oi := { dst := some 48, op := Op.binOp BinOp.eql 3 (Operand.tmp 47) (Operand.const (Value.int IntKind.i64 0)) 3, type := _, pos := _, after := _, guard := none }) (v := ?_) rfl (by kernel_rfl) (by kernel_rfl) (by kernel_rfl) (fun _ _ _ h => h) (Or.inl ⟨by rfl, ?_⟩) (by assumption) ?_
      rotate_left
      · intro w hSw; (try dsimp only at hSw); go_simp; try with_reducible rfl
      try simp only [Act.put, List.setIfInBounds_toArray, List.set_cons_zero, List.set_cons_succ]
      refine wpAnyH_take (i := 2) (oi := { dst := some 49, op := Op.move (Operand.tmp 48), type := _, pos := _, after := _, guard := none }) (v := ?_) rfl (by kernel_rfl) (by kernel_rfl) (by kernel_rfl) (fun _ _ _ h => h) (Or.inl ⟨by rfl, ?_⟩) (by assumption) ?_
      rotate_left
      · intro w hSw; (try dsimp only at hSw); go_simp; try with_reducible rfl
      try simp only [Act.put, List.setIfInBounds_toArray, List.set_cons_zero, List.set_cons_succ]
      refine wpAnyH_take (i := 3) (oi := { dst := some 50, op := Op.move (Operand.tmp 9), type := _, pos := _, after := _, guard := some (2, false) }) (v := ?_) rfl (by kernel_rfl) (by kernel_rfl) (by kernel_rfl) (fun _ _ _ h => h) (Or.inl ⟨by rfl, ?_⟩) (by assumption) ?_
      rotate_left
      · intro w hSw; (try dsimp only at hSw); go_simp; try with_reducible rfl
      try simp only [Act.put, List.setIfInBounds_toArray, List.set_cons_zero, List.set_cons_succ]
      refine wpAnyH_take (i := 4) (oi := { dst := some 51, op := Op.fieldAddr 30 (Operand.tmp 7) 0, type := _, pos := _, after := _, guard := some (2, false) }) (v := ?_) rfl (by kernel_rfl) (by kernel_rfl) (by kernel_rfl) (fun _ _ _ h => h) (Or.inl ⟨by rfl, ?_⟩) (by assumption) ?_
      rotate_left
      · intro w hSw; (try dsimp only at hSw); go_simp; try with_reducible rfl
      try simp only [Act.put, List.setIfInBounds_toArray, List.set_cons_zero, List.set_cons_succ]
      refine wpAnyH_take (i := 5) (oi := { dst := some 52, op := Op.load 25 (Operand.tmp 51), type := _, pos := _, after := _, guard := some (2, false) }) (v := ?_) rfl (by kernel_rfl) (by kernel_rfl) (by kernel_rfl) (fun _ _ _ h => h) (Or.inl ⟨by rfl, ?_⟩) (by assumption) ?_
      rotate_left
      · intro w hSw; (try dsimp only at hSw); go_simp; try with_reducible rfl
      try simp only [Act.put, List.setIfInBounds_toArray, List.set_cons_zero, List.set_cons_succ]
      refine wpAnyH_take (i := 6) (oi := { dst := some 53, op := Op.call { callee := Callee.builtin Builtin.len, args := #[Operand.tmp 52], argTypes := #[25] }, type := _, pos := _, after := _, guard := some (2, false) }) (v := ?_) rfl (by kernel_rfl) (by kernel_rfl) (by kernel_rfl) (fun _ _ _ h => h) (Or.inl ⟨by rfl, ?_⟩) (by assumption) ?_
      rotate_left
      · intro w hSw; (try dsimp only at hSw); go_simp; try with_reducible rfl
      try simp only [Act.put, List.setIfInBounds_toArray, List.set_cons_zero, List.set_cons_succ]
      refine wpAnyH_take (i := 7) (oi := { dst := some 54, op := Op.binOp BinOp.gtr 3 (Operand.tmp 50) (Operand.tmp 53) 3, type := _, pos := _, after := _, guard := some (2, false) }) (v := ?_) rfl (by kernel_rfl) (by kernel_rfl) (by kernel_rfl) (fun _ _ _ h => h) (Or.inl ⟨by rfl, ?_⟩) (by assumption) ?_
      rotate_left
      · intro w hSw; (try dsimp only at hSw); go_simp; try with_reducible rfl
      try simp only [Act.put, List.setIfInBounds_toArray, List.set_cons_zero, List.set_cons_succ]
      refine wpAnyH_take (i := 8) (oi := { dst := some 55, op := Op.pick (Operand.tmp 49) (Operand.const (Value.bool true)) (Operand.tmp 54), type := _, pos := _, after := _, guard := none }) (v := ?_) rfl (by kernel_rfl) (by kernel_rfl) (by kernel_rfl) (fun _ _ _ h => h) (Or.inl ⟨by rfl, ?_⟩) (by assumption) ?_
      rotate_left
      · intro w hSw; (try dsimp only at hSw); go_simp; try with_reducible rfl
      try simp only [Act.put, List.setIfInBounds_toArray, List.set_cons_zero, List.set_cons_succ]
      refine wpAnyH_take (i := 9) (oi := { dst := some 56, op := Op.move (Operand.tmp 55), type := _, pos := _, after := _, guard := none }) (v := ?_) rfl (by kernel_rfl) (by kernel_rfl) (by kernel_rfl) (fun _ _ _ h => h) (Or.inl ⟨by rfl, ?_⟩) (by assumption) ?_
      rotate_left
      · intro w hSw; (try dsimp only at hSw); go_simp; try with_reducible rfl
      try simp only [Act.put, List.setIfInBounds_toArray, List.set_cons_zero, List.set_cons_succ]
      refine wpAnyH_take (i := 10) (oi := { dst := some 57, op := Op.load 30 (Operand.tmp 8), type := _, pos := _, after := _, guard := some (9, false) }) (v := ?_) rfl (by kernel_rfl) (by kernel_rfl) (by kernel_rfl) (fun _ _ _ h => h) (Or.inl ⟨by rfl, ?_⟩) (by assumption) ?_
      rotate_left
      · intro w hSw; (try dsimp only at hSw); go_simp; try with_reducible rfl
      try simp only [Act.put, List.setIfInBounds_toArray, List.set_cons_zero, List.set_cons_succ]
      refine wpAnyH_ready (rs := [11]) (by kernel_rfl) (by simp) ?_
      refine AllReadyH.cons (o := { dst := some 58, op := Op.call { callee := Callee.value (Operand.func 26), args := #[Operand.tmp 57], argTypes := #[30] }, type := _, pos := _, after := _, guard := some (9, false) }) rfl (fun K hK => ?_) AllReadyH.nil
      go_simp
      refine (right_any Any _ y _ (HY.out.below (Below.refl _ _).drew)).mono ?_
      rintro e wa ⟨rfl, hba⟩
      rw [HRY.out]
      have HEA := hid (show Below wz.heap.size wz wa from ((Below.refl _ _).drew).trans hba)
      clear hba
      refine hK.out _ _ (by exact HX2.out _ HEA.out) (fun hHeld => ?_)
      clear hK K
      try simp only [Act.put, List.setIfInBounds_toArray, List.set_cons_zero, List.set_cons_succ]
      refine wpAnyH_take (i := 12) (oi := { dst := some 59, op := Op.unOp UnOp.not 4 (Operand.tmp 58), type := _, pos := _, after := _, guard := some (9, false) }) (v := ?_) rfl (by kernel_rfl) (by kernel_rfl) (by kernel_rfl) (fun _ _ _ h => h) (Or.inl ⟨by rfl, ?_⟩) (by assumption) ?_
      rotate_left
      · intro w hSw; (try dsimp only at hSw); go_simp; try with_reducible rfl
      try simp only [Act.put, List.setIfInBounds_toArray, List.set_cons_zero, List.set_cons_succ]
      refine wpAnyH_take (i := 13) (oi := { dst := some 60, op := Op.pick (Operand.tmp 56) (Operand.const (Value.bool true)) (Operand.tmp 59), type := _, pos := _, after := _, guard := none }) (v := ?_) rfl (by kernel_rfl) (by kernel_rfl) (by kernel_rfl) (fun _ _ _ h => h) (Or.inl ⟨by rfl, ?_⟩) (by assumption) ?_
      rotate_left
      · intro w hSw; (try dsimp only at hSw); go_simp; try with_reducible rfl
      try simp only [Act.put, List.setIfInBounds_toArray, List.set_cons_zero, List.set_cons_succ]
      refine wpAnyH_take (i := 14) (oi := { dst := some 61, op := Op.move (Operand.tmp 60), type := _, pos := _, after := _, guard := none }) (v := ?_) rfl (by kernel_rfl) (by kernel_rfl) (by kernel_rfl) (fun _ _ _ h => h) (Or.inl ⟨by rfl, ?_⟩) (by assumption) ?_
      rotate_left
      · intro w hSw; (try dsimp only at hSw); go_simp; try with_reducible rfl
      try simp only [Act.put, List.setIfInBounds_toArray, List.set_cons_zero, List.set_cons_succ]
      refine wpAnyH_take (i := 15) (oi := { dst := some 62, op := Op.load 30 (Operand.tmp 8), type := _, pos := _, after := _, guard := some (14, false) }) (v := ?_) rfl (by kernel_rfl) (by kernel_rfl) (by kernel_rfl) (fun _ _ _ h => h) (Or.inl ⟨by rfl, ?_⟩) (by assumption) ?_
      rotate_left
      · intro w hSw; (try dsimp only at hSw); go_simp; try with_reducible rfl
      try simp only [Act.put, List.setIfInBounds_toArray, List.set_cons_zero, List.set_cons_succ]
      refine wpAnyH_take (i := 17) (oi := { dst := some 64, op := Op.load 30 (Operand.tmp 8), type := _, pos := _, after := _, guard := some (14, false) }) (v := ?_) rfl (by kernel_rfl) (by kernel_rfl) (by kernel_rfl) (fun _ _ _ h => h) (Or.inl ⟨by rfl, ?_⟩) (by assumption) ?_
      rotate_left
      · intro w hSw; (try dsimp only at hSw); go_simp; try with_reducible rfl
      try simp only [Act.put, List.setIfInBounds_toArray, List.set_cons_zero, List.set_cons_succ]
      refine wpAnyH_ready (rs := [16]) (by kernel_rfl) (by simp) ?_
      refine AllReadyH.cons (o := { dst := some 63, op := Op.call { callee := Callee.value (Operand.func 32), args := #[Operand.tmp 62], argTypes := #[30] }, type := _, pos := _, after := _, guard := some (14, false) }) rfl (fun K hK => ?_) AllReadyH.nil
      go_simp
      refine (least_yes Any _ y _ (HY.out.below HEA.out) HRY.out HUY.out).mono ?_
      rintro e wb ⟨nvb, tvb, be, rfl, hbe, his, hbb⟩
      rw [fix_of HAL.out hbe HR.out HYE.out] at his
      have HEB := hid (show Below wz.heap.size wz wb from HEA.out.trans (hbb.mono HEA.out.size))
      have HIB := hid his
      clear hbb his hbe
      refine hK.out _ _ (by exact HX2.out _ HEB.out) (fun hHeld => ?_)
      clear hK K
      try simp only [Act.put, List.setIfInBounds_toArray, List.set_cons_zero, List.set_cons_succ]
      refine wpAnyH_ready (rs := [18]) (by kernel_rfl) (by simp) ?_
      refine AllReadyH.cons (o := { dst := some 65, op := Op.call { callee := Callee.value (Operand.func 40), args := #[Operand.tmp 63, Operand.tmp 64], argTypes := #[30, 30] }, type := _, pos := _, after := _, guard := some (14, false) }) rfl (fun K hK => ?_) AllReadyH.nil
      go_simp
      refine (same_any _ _ _ _ y y _ HIB.out (HY.out.below HEB.out)).mono ?_
      rintro e wc ⟨rfl, hbc⟩
      rw [sameD_self2]
      have HEC := hid (show Below wz.heap.size wz wc from HEB.out.trans (hbc.mono HEB.out.size))
      clear hbc
      refine hK.out _ _ (by exact HX2.out _ HEC.out) (fun hHeld => ?_)
      clear hK K
      try simp only [Act.put, List.setIfInBounds_toArray, List.set_cons_zero, List.set_cons_succ]
      refine wpAnyH_take (i := 19) (oi := { dst := some 66, op := Op.unOp UnOp.not 4 (Operand.tmp 65), type := _, pos := _, after := _, guard := some (14, false) }) (v := ?_) rfl (by kernel_rfl) (by kernel_rfl) (by kernel_rfl) (fun _ _ _ h => h) (Or.inl ⟨by rfl, ?_⟩) (by assumption) ?_
      rotate_left
      · intro w hSw; (try dsimp only at hSw); go_simp; try with_reducible rfl
      try simp only [Act.put, List.setIfInBounds_toArray, List.set_cons_zero, List.set_cons_succ]
      refine wpAnyH_take (i := 20) (oi := { dst := some 67, op := Op.pick (Operand.tmp 61) (Operand.const (Value.bool true)) (Operand.tmp 66), type := _, pos := _, after := _, guard := none }) (v := ?_) rfl (by kernel_rfl) (by kernel_rfl) (by kernel_rfl) (fun _ _ _ h => h) (Or.inl ⟨by rfl, ?_⟩) (by assumption) ?_
      rotate_left
      · intro w hSw; (try dsimp only at hSw); go_simp; try with_reducible rfl
      try simp only [Act.put, List.setIfInBounds_toArray, List.set_cons_zero, List.set_cons_succ]
      refine wpAnyH_take (i := 21) (oi := { dst := some 68, op := Op.move (Operand.tmp 67), type := _, pos := _, after := _, guard := none }) (v := ?_) rfl (by kernel_rfl) (by kernel_rfl) (by kernel_rfl) (fun _ _ _ h => h) (Or.inl ⟨by rfl, ?_⟩) (by assumption) ?_
      rotate_left
      · intro w hSw; (try dsimp only at hSw); go_simp; try with_reducible rfl
      try simp only [Act.put, List.setIfInBounds_toArray, List.set_cons_zero, List.set_cons_succ]
      refine wpAnyH_take (i := 22) (oi := { dst := some 69, op := Op.load 30 (Operand.tmp 7), type := _, pos := _, after := _, guard := some (21, false) }) (v := ?_) rfl (by kernel_rfl) (by kernel_rfl) (by kernel_rfl) (fun _ _ _ h => h) (Or.inl ⟨by rfl, ?_⟩) (by assumption) ?_
      rotate_left
      · intro w hSw; (try dsimp only at hSw); go_simp; try with_reducible rfl
      try simp only [Act.put, List.setIfInBounds_toArray, List.set_cons_zero, List.set_cons_succ]
      refine wpAnyH_take (i := 23) (oi := { dst := some 70, op := Op.load 30 (Operand.tmp 8), type := _, pos := _, after := _, guard := some (21, false) }) (v := ?_) rfl (by kernel_rfl) (by kernel_rfl) (by kernel_rfl) (fun _ _ _ h => h) (Or.inl ⟨by rfl, ?_⟩) (by assumption) ?_
      rotate_left
      · intro w hSw; (try dsimp only at hSw); go_simp; try with_reducible rfl
      try simp only [Act.put, List.setIfInBounds_toArray, List.set_cons_zero, List.set_cons_succ]
      refine wpAnyH_ready (rs := [24]) (by kernel_rfl) (by simp) ?_
      refine AllReadyH.cons (o := { dst := some 71, op := Op.call { callee := Callee.value (Operand.func 41), args := #[Operand.tmp 69, Operand.tmp 70], argTypes := #[30, 30] }, type := _, pos := _, after := _, guard := some (21, false) }) rfl (fun K hK => ?_) AllReadyH.nil
      go_simp
      refine (alikeT_any S Any _ _ d y _ (HDZ.out.below HEC.out) (HY.out.below HEC.out) HU.out HUY.out).mono ?_
      rintro e we ⟨b1, rfl, hq1, hbe⟩
      have hb1e : b1 = true := hq1.2 ⟨HR.out, HRY.out, HAT.out⟩
      subst hb1e
      have HEE := hid (show Below wz.heap.size wz we from HEC.out.trans (hbe.mono HEC.out.size))
      clear hbe hq1
      refine hK.out _ _ (by exact HX2.out _ HEE.out) (fun hHeld => ?_)
      clear hK K
      try simp only [Act.put, List.setIfInBounds_toArray, List.set_cons_zero, List.set_cons_succ]
      refine wpAnyH_take (i := 25) (oi := { dst := some 72, op := Op.unOp UnOp.not 4 (Operand.tmp 71), type := _, pos := _, after := _, guard := some (21, false) }) (v := ?_) rfl (by kernel_rfl) (by kernel_rfl) (by kernel_rfl) (fun _ _ _ h => h) (Or.inl ⟨by rfl, ?_⟩) (by assumption) ?_
      rotate_left
      · intro w hSw; (try dsimp only at hSw); go_simp; try with_reducible rfl
      try simp only [Act.put, List.setIfInBounds_toArray, List.set_cons_zero, List.set_cons_succ]
      refine wpAnyH_take (i := 26) (oi := { dst := some 73, op := Op.pick (Operand.tmp 68) (Operand.const (Value.bool true)) (Operand.tmp 72), type := _, pos := _, after := _, guard := none }) (v := ?_) rfl (by kernel_rfl) (by kernel_rfl) (by kernel_rfl) (fun _ _ _ h => h) (Or.inl ⟨by rfl, ?_⟩) (by assumption) ?_
      rotate_left
      · intro w hSw; (try dsimp only at hSw); go_simp; try with_reducible rfl
      try simp only [Act.put, List.setIfInBounds_toArray, List.set_cons_zero, List.set_cons_succ]
      refine wpAnyH_take (i := 27) (oi := { dst := some 74, op := Op.move (Operand.tmp 73), type := _, pos := _, after := _, guard := none }) (v := ?_) rfl (by kernel_rfl) (by kernel_rfl) (by kernel_rfl) (fun _ _ _ h => h) (Or.inl ⟨by rfl, ?_⟩) (by assumption) ?_
      rotate_left
      · intro w hSw; (try dsimp only at hSw); go_simp; try with_reducible rfl
      try simp only [Act.put, List.setIfInBounds_toArray, List.set_cons_zero, List.set_cons_succ]
      refine wpAnyH_take (i := 28) (oi := { dst := some 75, op := Op.load 30 (Operand.tmp 8), type := _, pos := _, after := _, guard := some (27, false) }) (v := ?_) rfl (by kernel_rfl) (by kernel_rfl) (by kernel_rfl) (fun _ _ _ h => h) (Or.inl ⟨by rfl, ?_⟩) (by assumption) ?_
      rotate_left
      · intro w hSw; (try dsimp only at hSw); go_simp; try with_reducible rfl
      try simp only [Act.put, List.setIfInBounds_toArray, List.set_cons_zero, List.set_cons_succ]
      refine wpAnyH_take (i := 29) (oi := { dst := some 76, op := Op.load 30 (Operand.tmp 7), type := _, pos := _, after := _, guard := some (27, false) }) (v := ?_) rfl (by kernel_rfl) (by kernel_rfl) (by kernel_rfl) (fun _ _ _ h => h) (Or.inl ⟨by rfl, ?_⟩) (by assumption) ?_
      rotate_left
      · intro w hSw; (try dsimp only at hSw); go_simp; try with_reducible rfl
      try simp only [Act.put, List.setIfInBounds_toArray, List.set_cons_zero, List.set_cons_succ]
      refine wpAnyH_ready (rs := [30]) (by kernel_rfl) (by simp) ?_
      refine AllReadyH.cons (o := { dst := some 77, op := Op.call { callee := Callee.value (Operand.func 41), args := #[Operand.tmp 75, Operand.tmp 76], argTypes := #[30, 30] }, type := _, pos := _, after := _, guard := some (27, false) }) rfl (fun K hK => ?_) AllReadyH.nil
      go_simp
      refine (alikeT_any Any S _ _ y d _ (HY.out.below HEE.out) (HDZ.out.below HEE.out) HUY.out HU.out).mono ?_
      rintro e wf ⟨b2, rfl, hq2, hbf⟩
      have hb2e : b2 = true := hq2.2 ⟨HRY.out, HR.out, HAT.out.symm⟩
      subst hb2e
      have HEF := hid (show Below wz.heap.size wz wf from HEE.out.trans (hbf.mono HEE.out.size))
      clear hbf hq2
      refine hK.out _ _ (by exact HX2.out _ HEF.out) (fun hHeld => ?_)
      clear hK K
      try simp only [Act.put, List.setIfInBounds_toArray, List.set_cons_zero, List.set_cons_succ]
      refine wpAnyH_take (i := 31) (oi := { dst := some 78, op := Op.unOp UnOp.not 4 (Operand.tmp 77), type := _, pos := _, after := _, guard := some (27, false) }) (v := ?_) rfl (by kernel_rfl) (by kernel_rfl) (by kernel_rfl) (fun _ _ _ h => h) (Or.inl ⟨by rfl, ?_⟩) (by assumption) ?_
      rotate_left
      · intro w hSw; (try dsimp only at hSw); go_simp; try with_reducible rfl
      try simp only [Act.put, List.setIfInBounds_toArray, List.set_cons_zero, List.set_cons_succ]
      refine wpAnyH_take (i := 32) (oi := { dst := some 79, op := Op.pick (Operand.tmp 74) (Operand.const (Value.bool true)) (Operand.tmp 78), type := _, pos := _, after := _, guard := none }) (v := ?_) rfl (by kernel_rfl) (by kernel_rfl) (by kernel_rfl) (fun _ _ _ h => h) (Or.inl ⟨by rfl, ?_⟩) (by assumption) ?_
      rotate_left
      · intro w hSw; (try dsimp only at hSw); go_simp; try with_reducible rfl
      try simp only [Act.put, List.setIfInBounds_toArray, List.set_cons_zero, List.set_cons_succ]
      refine wpAnyH_take (i := 33) (oi := { dst := some 80, op := Op.move (Operand.tmp 79), type := _, pos := _, after := _, guard := none }) (v := ?_) rfl (by kernel_rfl) (by kernel_rfl) (by kernel_rfl) (fun _ _ _ h => h) (Or.inl ⟨by rfl, ?_⟩) (by assumption) ?_
      rotate_left
      · intro w hSw; (try dsimp only at hSw); go_simp; try with_reducible rfl
      try simp only [Act.put, List.setIfInBounds_toArray, List.set_cons_zero, List.set_cons_succ]
      refine wpAnyH_take (i := 34) (oi := { dst := some 81, op := Op.load 30 (Operand.tmp 8), type := _, pos := _, after := _, guard := some (33, false) }) (v := ?_) rfl (by kernel_rfl) (by kernel_rfl) (by kernel_rfl) (fun _ _ _ h => h) (Or.inl ⟨by rfl, ?_⟩) (by assumption) ?_
      rotate_left
      · intro w hSw; (try dsimp only at hSw); go_simp; try with_reducible rfl
      try simp only [Act.put, List.setIfInBounds_toArray, List.set_cons_zero, List.set_cons_succ]
      refine wpAnyH_take (i := 37) (oi := { dst := some 84, op := Op.move (Operand.tmp 9), type := _, pos := _, after := _, guard := some (33, false) }) (v := ?_) rfl (by kernel_rfl) (by kernel_rfl) (by kernel_rfl) (fun _ _ _ h => h) (Or.inl ⟨by rfl, ?_⟩) (by assumption) ?_
      rotate_left
      · intro w hSw; (try dsimp only at hSw); go_simp; try with_reducible rfl
      try simp only [Act.put, List.setIfInBounds_toArray, List.set_cons_zero, List.set_cons_succ]
      refine wpAnyH_ready (rs := [35]) (by kernel_rfl) (by simp) ?_
      refine AllReadyH.cons (o := { dst := some 82, op := Op.call { callee := Callee.value (Operand.func 42), args := #[Operand.tmp 81], argTypes := #[30] }, type := _, pos := _, after := _, guard := some (33, false) }) rfl (fun K hK => ?_) AllReadyH.nil
      go_simp
      refine (reached_any Any _ y _ (HY.out.below HEF.out) HRY.out HUY.out).mono ?_
      rintro e wg ⟨A9, c9, l9, rfl, hrm, hbg⟩
      have hl9 : l9.length = y.next.length := hrm.all HLI.out
      rw [hl9]
      have HEG := hid (show Below wz.heap.size wz wg from HEF.out.trans (hbg.mono HEF.out.size))
      clear hbg hrm hl9
      refine hK.out _ _ (by exact HX2.out _ HEG.out) (fun hHeld => ?_)
      clear hK K
      try simp only [Act.put, List.setIfInBounds_toArray, List.set_cons_zero, List.set_cons_succ]
      refine wpAnyH_take (i := 36) (oi := { dst := some 83, op := Op.call { callee := Callee.builtin Builtin.len, args := #[Operand.tmp 82], argTypes := #[32] }, type := _, pos := _, after := _, guard := some (33, false) }) (v := ?_) rfl (by kernel_rfl) (by kernel_rfl) (by kernel_rfl) (fun _ _ _ h => h) (Or.inl ⟨by rfl, ?_⟩) (by assumption) ?_
      rotate_left
      · intro w hSw; (try dsimp only at hSw); go_simp; try with_reducible rfl
      try simp only [Act.put, List.setIfInBounds_toArray, List.set_cons_zero, List.set_cons_succ]
      refine wpAnyH_take (i := 38) (oi := { dst := some 85, op := Op.binOp BinOp.neq 3 (Operand.tmp 83) (Operand.tmp 84) 3, type := _, pos := _, after := _, guard := some (33, false) }) (v := ?_) rfl (by kernel_rfl) (by kernel_rfl) (by kernel_rfl) (fun _ _ _ h => h) (Or.inl ⟨by rfl, ?_⟩) (by assumption) ?_
      rotate_left
      · intro w hSw; (try dsimp only at hSw); go_simp; try with_reducible rfl
      try simp only [Act.put, List.setIfInBounds_toArray, List.set_cons_zero, List.set_cons_succ]
      refine wpAnyH_take (i := 39) (oi := { dst := some 86, op := Op.pick (Operand.tmp 80) (Operand.const (Value.bool true)) (Operand.tmp 85), type := _, pos := _, after := _, guard := none }) (v := ?_) rfl (by kernel_rfl) (by kernel_rfl) (by kernel_rfl) (fun _ _ _ h => h) (Or.inl ⟨by rfl, ?_⟩) (by assumption) ?_
      rotate_left
      · intro w hSw; (try dsimp only at hSw); go_simp; try with_reducible rfl
      try simp only [Act.put, List.setIfInBounds_toArray, List.set_cons_zero, List.set_cons_succ]
      refine wpAnyH_done (by kernel_rfl) ?_ _
      have hwl : IntKind.u64.wrap (y.next.length : Int) = (y.next.length : Int) := by simp [IntKind.wrap, IntKind.bits, IntKind.signed]; omega
      have hie := HIE.out
      have hke := HKE.out
      go_wp2_with fail
      go_quiet (fail)
      go_wp2_with fail
      have HBG := hid (HBZ.out.trans (below_drewN (HEG.out.mono HBZ.out.size) nq))
      refine (HAP.out _ (below_drewN HEG.out nq)).mono ?_
      rintro e wh (⟨v9, u9, rfl, hf, _, hbh⟩ | ⟨rfl, hno, hbh⟩)
      · have hne := HNE.out u9 hf.ok hf.sep
        have hnb : ((i : Int) != (k : Int)) = true := by simp; omega
        have HBH := hid (HBG.out.trans (hbh.mono HBG.out.size))
        clear hf hbh hne
        go_wp2_with fail
        go_ret
        exact ⟨rfl, HBH.out⟩
      · have heq := HEQ.out hno
        have hnb : ((i : Int) != (k : Int)) = false := by simp; omega
        have HBH := hid (HBG.out.trans (hbh.mono HBG.out.size))
        clear hno hbh heq
        go_wp2_with fail
        go_ret
        exact ⟨rfl, HBH.out⟩
end Go.Proofs.Ytmdkmobcglnmgaa
