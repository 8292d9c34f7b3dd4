/- Any marks lead, in a table and in its least one, to what tells the same: the law's walk. No conditions. -/
import Derived.Test.YtmdkmobcglnmgaaLg
namespace Go.Proofs.Ytmdkmobcglnmgaa
open Go.RowKit
set_option linter.unusedSimpArgs false

theorem runGo_nat {rs : List (List Int)} {n : Nat} (hr : RT rs n) : ∀ (ms : List Int) (s : Nat), s < n →
    (runGo rs s ms = -1 ∧ ∃ z ∈ ms, z < 0 ∨ 37 ≤ z) ∨ (∃ w : List Nat, (∀ m ∈ w, m < 37) ∧ ms = w.map (fun (m : Nat) => (m : Int)) ∧ runGo rs s ms = (goW rs s w : Nat))
  | [], s, _ => .inr ⟨[], (fun m h => by cases h), rfl, rfl⟩
  | z :: ms, s, hs => by
    by_cases hz : z < 0 ∨ 37 ≤ z
    · exact .inl ⟨by simp only [runGo]; rw [if_pos hz], z, by simp, hz⟩
    · obtain ⟨m, rfl⟩ : ∃ m : Nat, z = m := ⟨z.toNat, by omega⟩
      have hm : m < 37 := by omega
      have e : runGo rs s ((m : Int) :: ms) = runGo rs (stp rs s m : Nat) ms := by
        simp only [runGo]; rw [if_neg hz]
        show runGo rs (nth (row rs s) m) ms = _
        rw [(hr.at hs hm).2]
      rcases runGo_nat hr ms (stp rs s m) (hr.at hs hm).1 with ⟨h1, y, h2, h3⟩ | ⟨w, h1, h2, h3⟩
      · exact .inl ⟨by rw [e, h1], y, by simp [h2], h3⟩
      · exact .inr ⟨m :: w, (fun k hk => by
          rcases List.mem_cons.1 hk with rfl | hk
          · exact hm
          · exact h1 k hk), by rw [h2]; rfl, by rw [e, h3]; rfl⟩
theorem rt_of_right {d : D} (h : rightB d = true) : RT d.next d.next.length ∧ 1 ≤ d.next.length ∧ d.next.length ≤ 1000 ∧ d.tells.length = d.next.length := by
  obtain ⟨r1, r2, r3, r4⟩ := right_rows h
  exact ⟨⟨rfl, fun p hp => ⟨(r4 _ (row_mem hp)).1, fun m hm => (r4 _ (row_mem hp)).2 _ (nth_mem (by rw [(r4 _ (row_mem hp)).1]; exact hm))⟩⟩, r2, r1, r3⟩
theorem right_of {y : D} (h : RT y.next y.next.length) (h1 : 1 ≤ y.next.length) (h2 : y.next.length ≤ 1000) (h3 : y.tells.length = y.next.length) : rightB y = true := by
  simp only [rightB, Bool.and_eq_true, decide_eq_true_eq, List.all_eq_true]
  refine ⟨⟨⟨h1, h2⟩, h3⟩, fun r hr => ?_⟩
  obtain ⟨k, hk⟩ := List.getElem?_of_mem hr
  have hlt := (List.getElem?_eq_some_iff.1 hk).1
  obtain ⟨a, b⟩ := h.2 k hlt
  rw [row_some hk] at a b
  refine ⟨a, fun z hz => ?_⟩
  obtain ⟨m, hm⟩ := List.getElem?_of_mem hz
  have hml := (List.getElem?_eq_some_iff.1 hm).1
  have := b m (by omega)
  rw [nth_some hm] at this
  exact ⟨this.1, this.2⟩
theorem LeastIs.right {d y : D} {F : List Int} (h : LeastIs d F y) (hd : rightB d = true) : rightB y = true :=
  right_of h.rt (by rw [h.len.1]; exact h.z.2) (by rw [h.len.1]; have := (rt_of_right hd).2.2.1; have := h.len.2.2; omega) (by rw [h.len.1, h.len.2.1])
/-- The statement, of plain data. -/
theorem least_runs {al : Int → Int → Bool} {d : D} (ha : AlIs al d) (hd : rightB d = true) (ms : List Int) :
    ((decide (runL d 0 ms < 0)) == decide (runL (leastD al d) 0 ms < 0)) = true ∧ tellsL d (runL d 0 ms) = tellsL (leastD al d) (runL (leastD al d) 0 ms) := by
  obtain ⟨hr, hn, _, htl⟩ := rt_of_right hd
  obtain ⟨F, hF⟩ := least_is ha hr hn
  have hy := hF.right hd
  have hry : RT (leastD al d).next F.length := by have := hF.rt; rwa [hF.len.1] at this
  have s1 : stateB d 0 = true := by simp [stateB, hd]; omega
  have hz := hF.z.2
  have s2 : stateB (leastD al d) 0 = true := by simp [stateB, hy, hF.len.1]; omega
  have e1 : runL d 0 ms = runGo d.next (0 : Nat) ms := by unfold runL; rw [if_pos s1]; rfl
  have e2 : runL (leastD al d) 0 ms = runGo (leastD al d).next (0 : Nat) ms := by unfold runL; rw [if_pos s2]; rfl
  rw [e1, e2]
  rcases runGo_nat hr ms 0 hn with ⟨h1, x, hx, hx2⟩ | ⟨v, v1, v2, v3⟩
  · rcases runGo_nat hry ms 0 hF.z.2 with ⟨k1, _⟩ | ⟨u, u1, u2, u3⟩
    · rw [h1, k1]
      exact ⟨rfl, by simp [tellsL, stateB]⟩
    · exfalso
      rw [u2] at hx
      obtain ⟨m, hm, rfl⟩ := List.mem_map.1 hx
      have := u1 m hm
      omega
  · rcases runGo_nat hry ms 0 hF.z.2 with ⟨k1, x, hx, hx2⟩ | ⟨u, u1, u2, u3⟩
    · exfalso
      rw [v2] at hx
      obtain ⟨m, hm, rfl⟩ := List.mem_map.1 hx
      have := v1 m hm
      omega
    · have huv : u = v := by
        have h := congrArg (List.map Int.toNat) (u2.symm.trans v2)
        simpa [Function.comp_def] using h
      subst huv
      rw [v3, u3]
      have hg := hF.go hr u 0 hF.z.2 u1
      have hlt : ∀ (w : List Nat) (p : Nat), p < d.next.length → (∀ m ∈ w, m < 37) → goW d.next p w < d.next.length := by
        intro w
        induction w with
        | nil => intro p hp _; exact hp
        | cons m w ih => intro p hp hw; exact ih _ (hr.at hp (hw m List.mem_cons_self)).1 fun k hk => hw k (List.mem_cons_of_mem _ hk)
      have hl := hlt u 0 hn u1
      refine ⟨?_, ?_⟩
      · have a1 : ¬ ((goW d.next 0 u : Nat) : Int) < 0 := by omega
        have a2 : ¬ ((goW (leastD al d).next 0 u : Nat) : Int) < 0 := by omega
        simp [a1, a2]
      · have t1 : stateB d (goW d.next 0 u : Nat) = true := by simp [stateB, hd]; omega
        have t2 : stateB (leastD al d) (goW (leastD al d).next 0 u : Nat) = true := by
          have := hg.1
          simp [stateB, hy, hF.len.1]; omega
        unfold tellsL
        rw [if_pos t1, if_pos t2]
        have := hF.tell hr hF.z.2 u1
        rw [hF.z.1] at this
        exact this.symm
set_option maxRecDepth 100000 in
set_option maxHeartbeats 4000000 in
theorem leastRuns_walk (S S' : Nat → Prop) (NA TA : Option Addr) (nc tc : Nat) (vm : Value) (d : D) (ms : List Int) (w : World) (h : IsD w S (.agg #[.slice NA d.next.length nc, .slice TA d.tells.length tc]) d) (hm : IsNums .i64 w S' vm ms) (hu : ∀ z ∈ d.tells, u64ok z) :
    Calls Try.prog 8 #[.agg #[.slice NA d.next.length nc, .slice TA d.tells.length tc], vm] w fun e w' => e = .returned (.bool true) ∧ Below w.heap.size w w' := by
  have HD := hid h
  have HM := hid hm
  have HU := hid hu
  have hml := hm.le
  obtain ⟨MA, mc, rfl⟩ := hm.form
  obtain ⟨w1, hw1⟩ : ∃ w1, w1 = w.alloc (.cells #[.slice NA d.next.length nc, .slice TA d.tells.length tc] 29) := ⟨_, rfl⟩
  have hb1 : Below w.heap.size w w1 := by rw [hw1]; exact (Below.refl _ _).alloc (Nat.le_refl _) _
  have HB1 := hid hb1
  have HP := hid (show w1.heap[w.heap.size]? = some (.cells #[.slice NA d.next.length nc, .slice TA d.tells.length tc] 29 (0, 0)) by rw [hw1]; exact heap_alloc_new _ _)
  have HL1 := hid (show w.heap.size < w1.heap.size by rw [hw1]; simp)
  obtain ⟨x0, x1, _⟩ := slot2 HP.out
  rw [hw1] at x0 x1
  clear h hm hu hb1
  cases hg : greatB d with
  | true =>
    have HG := hid hg
    clear hg
    go_enter Try.func8, Try.ntmps8
    go_wp2_with (first
      | (go_at_call 14; rw [← hw1]; refine (great_any S _ d _ (HD.out.below HB1.out)).mono ?_; rintro e w2 ⟨rfl, hb2⟩; rw [HG.out]; have HB2 := hid (HB1.out.trans (hb2.mono HB1.out.size)); clear hb2)
      | (go_at_call 31; refine (awake_any _).mono ?_; rintro e w3 ⟨rfl, hb3⟩; have HB3 := hid (HB2.out.trans (hb3.mono HB2.out.size)); clear hb3)
      | fail)
    go_ret
    exact ⟨rfl, HB3.out⟩
  | false =>
    have HG := hid hg
    clear hg
    by_cases hl : 30 < ms.length
    · have hlb : decide (30 < (ms.length : Int)) = true := by simp; omega
      go_enter Try.func8, Try.ntmps8
      go_wp2_with (first
        | (go_at_call 14; rw [← hw1]; refine (great_any S _ d _ (HD.out.below HB1.out)).mono ?_; rintro e w2 ⟨rfl, hb2⟩; rw [HG.out]; have HB2 := hid (HB1.out.trans (hb2.mono HB1.out.size)); clear hb2)
        | (go_at_call 31; refine (awake_any _).mono ?_; rintro e w3 ⟨rfl, hb3⟩; have HB3 := hid (HB2.out.trans (hb3.mono HB2.out.size)); clear hb3)
        | fail)
      go_ret
      exact ⟨rfl, HB3.out⟩
    · have hlb : decide (30 < (ms.length : Int)) = false := by simp; omega
      cases hr : rightB d with
      | false =>
        have HR := hid hr
        clear hr
        go_enter Try.func8, Try.ntmps8
        go_wp2_with (first
          | (go_at_call 14; rw [← hw1]; refine (great_any S _ d _ (HD.out.below HB1.out)).mono ?_; rintro e w2 ⟨rfl, hb2⟩; rw [HG.out]; have HB2 := hid (HB1.out.trans (hb2.mono HB1.out.size)); have HP2 := hid ((hb2.block _ HL1.out).trans HP.out); have HL2 := hid (Nat.lt_of_lt_of_le HL1.out hb2.size); clear hb2)
          | (go_at_call 31; refine (awake_any _).mono ?_; rintro e w3 ⟨rfl, hb3⟩; have HB3 := hid (HB2.out.trans (hb3.mono HB2.out.size)); obtain ⟨y0, y1, _⟩ := slot2 ((hb3.block _ HL2.out).trans HP2.out); clear hb3)
          | (go_at_call 15; refine (to_any _ _ _ _ _ _ _).mono ?_; rintro e w4 ⟨rfl, hb4⟩; have HB4 := hid (HB3.out.trans (hb4.mono HB3.out.size)); have HB5 := hid (HB4.out.alloc HB4.out.size (.cells #[.slice NA d.next.length nc, .slice TA d.tells.length tc] 30)); clear hb4)
          | (go_at_call 26; refine (right_any S _ d _ (HD.out.below HB5.out)).mono ?_; rintro e w6 ⟨rfl, hb6⟩; rw [HR.out]; have HB6 := hid (HB5.out.trans (hb6.mono HB5.out.size)); clear hb6)
          | fail)
        go_ret
        exact ⟨rfl, HB6.out⟩
      | true =>
        have HR := hid hr
        clear hr
        go_enter Try.func8, Try.ntmps8
        go_wp2_with (first
          | (go_at_call 14; rw [← hw1]; refine (great_any S _ d _ (HD.out.below HB1.out)).mono ?_; rintro e w2 ⟨rfl, hb2⟩; rw [HG.out]; have HB2 := hid (HB1.out.trans (hb2.mono HB1.out.size)); have HP2 := hid ((hb2.block _ HL1.out).trans HP.out); have HL2 := hid (Nat.lt_of_lt_of_le HL1.out hb2.size); clear hb2)
          | (go_at_call 31; refine (awake_any _).mono ?_; rintro e w3 ⟨rfl, hb3⟩; have HB3 := hid (HB2.out.trans (hb3.mono HB2.out.size)); obtain ⟨y0, y1, _⟩ := slot2 ((hb3.block _ HL2.out).trans HP2.out); clear hb3)
          | (go_at_call 15; refine (to_any _ _ _ _ _ _ _).mono ?_; rintro e w4 ⟨rfl, hb4⟩; have HB4 := hid (HB3.out.trans (hb4.mono HB3.out.size)); have HB5 := hid (HB4.out.alloc HB4.out.size (.cells #[.slice NA d.next.length nc, .slice TA d.tells.length tc] 30)); clear hb4)
          | (go_at_call 26; refine (right_any S _ d _ (HD.out.below HB5.out)).mono ?_; rintro e w6 ⟨rfl, hb6⟩; rw [HR.out]; have HB6 := hid (HB5.out.trans (hb6.mono HB5.out.size)); have HP6 := hid ((hb6.block w4.heap.size (by simp)).trans (heap_alloc_new w4 (.cells #[.slice NA d.next.length nc, .slice TA d.tells.length tc] 30))); have HL6 := hid (Nat.lt_of_lt_of_le (show w4.heap.size < (w4.alloc (.cells #[.slice NA d.next.length nc, .slice TA d.tells.length tc] 30)).heap.size by simp) hb6.size); obtain ⟨z0, z1, _⟩ := slot2 HP6.out; clear hb6)
          | (go_at_call 32; refine (least_yes S _ d _ (HD.out.below HB6.out) HR.out HU.out).mono ?_; rintro e w7 ⟨nv, tv, al, rfl, hal, hisd, hb7⟩; obtain ⟨nv', tv', e1, hn7, ht7⟩ := id hisd; obtain ⟨rfl, rfl⟩ : nv = nv' ∧ tv = tv' := (by simpa using e1); obtain ⟨YA, yc, rfl⟩ := hn7.form; obtain ⟨VA, vc, rfl⟩ := ht7.form; have HB7 := hid (HB6.out.trans (hb7.mono HB6.out.size)); have HP7 := hid ((hb7.block w4.heap.size HL6.out).trans HP6.out); have HL7 := hid (Nat.lt_of_lt_of_le HL6.out hb7.size); have HAL := hid hal; have HY := hid hisd; clear hb7 hal hisd hn7 ht7 e1)
          | fail)
        have HP8 := hid ((heap_alloc_old w7 (.cells #[.slice YA (leastD al d).next.length yc, .slice VA (leastD al d).tells.length vc] 30) HL7.out).trans HP7.out)
        have HQ8 := hid (heap_alloc_new w7 (.cells #[.slice YA (leastD al d).next.length yc, .slice VA (leastD al d).tells.length vc] 30))
        have HX := hid (show ∀ Y, Below (w7.alloc (.cells #[.slice YA (leastD al d).next.length yc, .slice VA (leastD al d).tells.length vc] 30)).heap.size (w7.alloc (.cells #[.slice YA (leastD al d).next.length yc, .slice VA (leastD al d).tells.length vc] 30)) Y →
            Y.cell? ⟨w4.heap.size, 0, none⟩ = some (.slice NA d.next.length nc) ∧ Y.cell? ⟨w4.heap.size, 1, none⟩ = some (.slice TA d.tells.length tc) ∧ Y.cell? ⟨w7.heap.size, 0, none⟩ = some (.slice YA (leastD al d).next.length yc) ∧ Y.cell? ⟨w7.heap.size, 1, none⟩ = some (.slice VA (leastD al d).tells.length vc) from fun Y hY => by
          obtain ⟨a, b, _⟩ := slot2 ((hY.block w4.heap.size (by have := HL7.out; simp; omega)).trans HP8.out)
          obtain ⟨c, e, _⟩ := slot2 ((hY.block w7.heap.size (by simp)).trans HQ8.out)
          exact ⟨a, b, c, e⟩)
        have HB8 := hid (HB7.out.alloc HB7.out.size (.cells #[.slice YA (leastD al d).next.length yc, .slice VA (leastD al d).tells.length vc] 30))
        have HY8 := hid (HY.out.below ((Below.refl _ _).alloc (Nat.le_refl _) (.cells #[.slice YA (leastD al d).next.length yc, .slice VA (leastD al d).tells.length vc] 30)) |>.mono (S' := Any) (fun _ _ _ => trivial))
        obtain ⟨y, hy⟩ : ∃ y, y = leastD al d := ⟨_, rfl⟩
        have HYE := hid hy
        rw [← hy] at HX HY8 HB8 ⊢
        obtain ⟨W, hW⟩ : ∃ W, W = w7.alloc (.cells #[.slice YA y.next.length yc, .slice VA y.tells.length vc] 30) := ⟨_, rfl⟩
        rw [← hW] at HX HY8 HB8 ⊢
        have HDW := hid (HD.out.below HB8.out)
        have HMW := hid (HM.out.below HB8.out)
        obtain ⟨P, hP⟩ : ∃ P, P = w4.heap.size := ⟨_, rfl⟩
        obtain ⟨Q, hQ⟩ : ∃ Q, Q = w7.heap.size := ⟨_, rfl⟩
        rw [← hP, ← hQ] at HX ⊢
        clear hy hW hP hQ hw1 x0 x1 y0 y1 z0 z1
        go_wp2_with fail
        go_cut [7, 8] from 28 (fun s7 s8 wc => s7 = .int .i64 (runL d 0 ms) ∧ s8 = .int .i64 (runL y 0 ms) ∧ Hid (Below W.heap.size W wc))
        case first =>
          refine wp_region_held_drew (S := (fun Y => Y.cell? ⟨P, 0, none⟩ = some (.slice NA d.next.length nc) ∧ Y.cell? ⟨P, 1, none⟩ = some (.slice TA d.tells.length tc) ∧ Y.cell? ⟨Q, 0, none⟩ = some (.slice YA y.next.length yc) ∧ Y.cell? ⟨Q, 1, none⟩ = some (.slice VA y.tells.length vc))) (by kernel_rfl) (by exact HX.out W (Below.refl _ _)) (fun hHeld => ?_)
          refine wpAnyH_take (i := 0) (oi := { dst := some 28, op := Op.load 30 (Operand.tmp 5), type := _, pos := _, after := _, guard := none }) (v := ?_) rfl (by kernel_rfl) (by kernel_rfl) (by kernel_rfl) (fun _ _ _ h => h) (Or.inl ⟨by rfl, ?_⟩) (by assumption) ?_
          rotate_left
          · intro w hSw; (try dsimp only at hSw); go_simp; try with_reducible rfl
          try simp only [Act.put, List.setIfInBounds_toArray, List.set_cons_zero, List.set_cons_succ]
          refine wpAnyH_take (i := 1) (oi := { dst := some 29, op := Op.move (Operand.tmp 1), type := _, pos := _, after := _, guard := none }) (v := ?_) rfl (by kernel_rfl) (by kernel_rfl) (by kernel_rfl) (fun _ _ _ h => h) (Or.inl ⟨by rfl, ?_⟩) (by assumption) ?_
          rotate_left
          · intro w hSw; (try dsimp only at hSw); go_simp; try with_reducible rfl
          try simp only [Act.put, List.setIfInBounds_toArray, List.set_cons_zero, List.set_cons_succ]
          refine wpAnyH_take (i := 3) (oi := { dst := some 31, op := Op.load 30 (Operand.tmp 6), type := _, pos := _, after := _, guard := none }) (v := ?_) rfl (by kernel_rfl) (by kernel_rfl) (by kernel_rfl) (fun _ _ _ h => h) (Or.inl ⟨by rfl, ?_⟩) (by assumption) ?_
          rotate_left
          · intro w hSw; (try dsimp only at hSw); go_simp; try with_reducible rfl
          try simp only [Act.put, List.setIfInBounds_toArray, List.set_cons_zero, List.set_cons_succ]
          refine wpAnyH_take (i := 4) (oi := { dst := some 32, op := Op.move (Operand.tmp 1), type := _, pos := _, after := _, guard := none }) (v := ?_) rfl (by kernel_rfl) (by kernel_rfl) (by kernel_rfl) (fun _ _ _ h => h) (Or.inl ⟨by rfl, ?_⟩) (by assumption) ?_
          rotate_left
          · intro w hSw; (try dsimp only at hSw); go_simp; try with_reducible rfl
          try simp only [Act.put, List.setIfInBounds_toArray, List.set_cons_zero, List.set_cons_succ]
          refine wpAnyH_ready (rs := [2]) (by kernel_rfl) (by simp) ?_
          refine AllReadyH.cons (o := { dst := some 30, op := Op.call { callee := Callee.value (Operand.func 36), args := #[Operand.tmp 28, Operand.const (Value.int IntKind.i64 0), Operand.tmp 29], argTypes := #[30, 3, 32] }, type := _, pos := _, after := _, guard := none }) rfl (fun K hK => ?_) AllReadyH.nil
          go_simp
          refine (run_any S S' NA TA nc tc _ d 0 ms _ (HDW.out.below (Below.refl _ _).drew) (HMW.out.below (Below.refl _ _).drew)).mono ?_
          rintro e w9 ⟨rfl, hb9⟩
          have HE9 := hid (show Below W.heap.size W w9 from ((Below.refl _ _).drew).trans hb9)
          clear hb9
          refine hK.out _ _ (by exact HX.out _ HE9.out) (fun hHeld => ?_)
          clear hK K
          try simp only [Act.put, List.setIfInBounds_toArray, List.set_cons_zero, List.set_cons_succ]
          refine wpAnyH_ready (rs := [5]) (by kernel_rfl) (by simp) ?_
          refine AllReadyH.cons (o := { dst := some 33, op := Op.call { callee := Callee.value (Operand.func 36), args := #[Operand.tmp 31, Operand.const (Value.int IntKind.i64 0), Operand.tmp 32], argTypes := #[30, 3, 32] }, type := _, pos := _, after := _, guard := none }) rfl (fun K hK => ?_) AllReadyH.nil
          go_simp
          refine (run_any Any S' YA VA yc vc _ y 0 ms _ (HY8.out.below HE9.out) (HMW.out.below HE9.out)).mono ?_
          rintro e w8 ⟨rfl, hb9⟩
          have HE8 := hid (show Below W.heap.size W w8 from HE9.out.trans (hb9.mono HE9.out.size))
          clear hb9
          refine hK.out _ _ (by exact HX.out _ HE8.out) (fun hHeld => ?_)
          clear hK K
          try simp only [Act.put, List.setIfInBounds_toArray, List.set_cons_zero, List.set_cons_succ]
          refine wpAnyH_take (i := 6) (oi := { dst := some 7, op := Op.assign (Operand.tmp 30), type := _, pos := _, after := _, guard := none }) (v := ?_) rfl (by kernel_rfl) (by kernel_rfl) (by kernel_rfl) (fun _ _ _ h => h) (Or.inl ⟨by rfl, ?_⟩) (by assumption) ?_
          rotate_left
          · intro w hSw; (try dsimp only at hSw); go_simp; try with_reducible rfl
          try simp only [Act.put, List.setIfInBounds_toArray, List.set_cons_zero, List.set_cons_succ]
          refine wpAnyH_take (i := 7) (oi := { dst := some 8, op := Op.assign (Operand.tmp 33), type := _, pos := _, after := _, guard := none }) (v := ?_) rfl (by kernel_rfl) (by kernel_rfl) (by kernel_rfl) (fun _ _ _ h => h) (Or.inl ⟨by rfl, ?_⟩) (by assumption) ?_
          rotate_left
          · intro w hSw; (try dsimp only at hSw); go_simp; try with_reducible rfl
          try simp only [Act.put, List.setIfInBounds_toArray, List.set_cons_zero, List.set_cons_succ]
          refine wpAnyH_done (by kernel_rfl) ?_ _
          all_goals
            go_wp2_with fail
            go_meet
            exact ⟨rfl, rfl, HE8⟩
        case rest =>
          obtain ⟨rfl, rfl, HBC⟩ := hcut
          obtain ⟨W2, hW2⟩ : ∃ W2, W2 = wc := ⟨_, rfl⟩
          have hrun := least_runs HAL.out HR.out ms
          rw [← HYE.out] at hrun
          obtain ⟨p, hp⟩ : ∃ p, p = runL d 0 ms := ⟨_, rfl⟩
          obtain ⟨q, hq⟩ : ∃ q, q = runL y 0 ms := ⟨_, rfl⟩
          rw [← hp, ← hq] at hrun ⊢
          obtain ⟨hr1, hr2⟩ := hrun
          have hr3 : (tellsL d p == tellsL y q) = true := by simpa using hr2
          have HDC := hid (HDW.out.below HBC.out)
          have HYC := hid (HY8.out.below HBC.out)
          have HXC := hid (show ∀ Y, Below wc.heap.size wc Y → _ from fun Y hY => HX.out Y (HBC.out.trans (hY.mono HBC.out.size)))
          clear hp hq hr2 hW2 W2
          go_wp2_with fail
          refine wp_region_held_drew (S := (fun Y => Y.cell? ⟨P, 0, none⟩ = some (.slice NA d.next.length nc) ∧ Y.cell? ⟨P, 1, none⟩ = some (.slice TA d.tells.length tc) ∧ Y.cell? ⟨Q, 0, none⟩ = some (.slice YA y.next.length yc) ∧ Y.cell? ⟨Q, 1, none⟩ = some (.slice VA y.tells.length vc))) (by kernel_rfl) (by exact HXC.out wc (Below.refl _ _)) (fun hHeld => ?_)
          refine wpAnyH_take (i := 0) (oi := { dst := some 34, op := Op.move (Operand.tmp 7), type := _, pos := _, after := _, guard := none }) (v := ?_) rfl (by kernel_rfl) (by kernel_rfl) (by kernel_rfl) (fun _ _ _ h => h) (Or.inl ⟨by rfl, ?_⟩) (by assumption) ?_
          rotate_left
          · intro w hSw; (try dsimp only at hSw); go_simp; try with_reducible rfl
          try simp only [Act.put, List.setIfInBounds_toArray, List.set_cons_zero, List.set_cons_succ]
          refine wpAnyH_take (i := 1) (oi := { dst := some 35, op := Op.binOp BinOp.lss 3 (Operand.tmp 34) (Operand.const (Value.int IntKind.i64 0)) 3, type := _, pos := _, after := _, guard := none }) (v := ?_) rfl (by kernel_rfl) (by kernel_rfl) (by kernel_rfl) (fun _ _ _ h => h) (Or.inl ⟨by rfl, ?_⟩) (by assumption) ?_
          rotate_left
          · intro w hSw; (try dsimp only at hSw); go_simp; try with_reducible rfl
          try simp only [Act.put, List.setIfInBounds_toArray, List.set_cons_zero, List.set_cons_succ]
          refine wpAnyH_take (i := 2) (oi := { dst := some 36, op := Op.move (Operand.tmp 8), type := _, pos := _, after := _, guard := none }) (v := ?_) rfl (by kernel_rfl) (by kernel_rfl) (by kernel_rfl) (fun _ _ _ h => h) (Or.inl ⟨by rfl, ?_⟩) (by assumption) ?_
          rotate_left
          · intro w hSw; (try dsimp only at hSw); go_simp; try with_reducible rfl
          try simp only [Act.put, List.setIfInBounds_toArray, List.set_cons_zero, List.set_cons_succ]
          refine wpAnyH_take (i := 3) (oi := { dst := some 37, op := Op.binOp BinOp.lss 3 (Operand.tmp 36) (Operand.const (Value.int IntKind.i64 0)) 3, type := _, pos := _, after := _, guard := none }) (v := ?_) rfl (by kernel_rfl) (by kernel_rfl) (by kernel_rfl) (fun _ _ _ h => h) (Or.inl ⟨by rfl, ?_⟩) (by assumption) ?_
          rotate_left
          · intro w hSw; (try dsimp only at hSw); go_simp; try with_reducible rfl
          try simp only [Act.put, List.setIfInBounds_toArray, List.set_cons_zero, List.set_cons_succ]
          refine wpAnyH_take (i := 4) (oi := { dst := some 38, op := Op.binOp BinOp.eql 4 (Operand.tmp 35) (Operand.tmp 37) 4, type := _, pos := _, after := _, guard := none }) (v := ?_) rfl (by kernel_rfl) (by kernel_rfl) (by kernel_rfl) (fun _ _ _ h => h) (Or.inl ⟨by rfl, ?_⟩) (by assumption) ?_
          rotate_left
          · intro w hSw; (try dsimp only at hSw); go_simp; try with_reducible rfl
          try simp only [Act.put, List.setIfInBounds_toArray, List.set_cons_zero, List.set_cons_succ]
          refine wpAnyH_take (i := 5) (oi := { dst := some 39, op := Op.move (Operand.tmp 38), type := _, pos := _, after := _, guard := none }) (v := ?_) rfl (by kernel_rfl) (by kernel_rfl) (by kernel_rfl) (fun _ _ _ h => h) (Or.inl ⟨by rfl, ?_⟩) (by assumption) ?_
          rotate_left
          · intro w hSw; (try dsimp only at hSw); go_simp; try with_reducible rfl
          try simp only [Act.put, List.setIfInBounds_toArray, List.set_cons_zero, List.set_cons_succ]
          refine wpAnyH_take (i := 6) (oi := { dst := some 40, op := Op.load 30 (Operand.tmp 5), type := _, pos := _, after := _, guard := some (5, true) }) (v := ?_) rfl (by kernel_rfl) (by kernel_rfl) (by kernel_rfl) (fun _ _ _ h => h) (Or.inl ⟨by rfl, ?_⟩) (by assumption) ?_
          rotate_left
          · intro w hSw; (try dsimp only at hSw); go_simp; try with_reducible rfl
          try simp only [Act.put, List.setIfInBounds_toArray, List.set_cons_zero, List.set_cons_succ]
          refine wpAnyH_take (i := 7) (oi := { dst := some 41, op := Op.move (Operand.tmp 7), type := _, pos := _, after := _, guard := some (5, true) }) (v := ?_) rfl (by kernel_rfl) (by kernel_rfl) (by kernel_rfl) (fun _ _ _ h => h) (Or.inl ⟨by rfl, ?_⟩) (by assumption) ?_
          rotate_left
          · intro w hSw; (try dsimp only at hSw); go_simp; try with_reducible rfl
          try simp only [Act.put, List.setIfInBounds_toArray, List.set_cons_zero, List.set_cons_succ]
          refine wpAnyH_take (i := 9) (oi := { dst := some 43, op := Op.load 30 (Operand.tmp 6), type := _, pos := _, after := _, guard := some (5, true) }) (v := ?_) rfl (by kernel_rfl) (by kernel_rfl) (by kernel_rfl) (fun _ _ _ h => h) (Or.inl ⟨by rfl, ?_⟩) (by assumption) ?_
          rotate_left
          · intro w hSw; (try dsimp only at hSw); go_simp; try with_reducible rfl
          try simp only [Act.put, List.setIfInBounds_toArray, List.set_cons_zero, List.set_cons_succ]
          refine wpAnyH_take (i := 10) (oi := { dst := some 44, op := Op.move (Operand.tmp 8), type := _, pos := _, after := _, guard := some (5, true) }) (v := ?_) rfl (by kernel_rfl) (by kernel_rfl) (by kernel_rfl) (fun _ _ _ h => h) (Or.inl ⟨by rfl, ?_⟩) (by assumption) ?_
          rotate_left
          · intro w hSw; (try dsimp only at hSw); go_simp; try with_reducible rfl
          try simp only [Act.put, List.setIfInBounds_toArray, List.set_cons_zero, List.set_cons_succ]
          refine wpAnyH_ready (rs := [8]) (by kernel_rfl) (by simp) ?_
          refine AllReadyH.cons (o := { dst := some 42, op := Op.call { callee := Callee.value (Operand.func 37), args := #[Operand.tmp 40, Operand.tmp 41], argTypes := #[30, 3] }, type := _, pos := _, after := _, guard := some (5, true) }) rfl (fun K hK => ?_) AllReadyH.nil
          go_simp
          refine (tells_any S _ d p _ (HDC.out.below (Below.refl _ _).drew)).mono ?_
          rintro e w9 ⟨rfl, hb9⟩
          have HE9 := hid (show Below wc.heap.size wc w9 from ((Below.refl _ _).drew).trans hb9)
          clear hb9
          refine hK.out _ _ (by exact HXC.out _ HE9.out) (fun hHeld => ?_)
          clear hK K
          try simp only [Act.put, List.setIfInBounds_toArray, List.set_cons_zero, List.set_cons_succ]
          refine wpAnyH_ready (rs := [11]) (by kernel_rfl) (by simp) ?_
          refine AllReadyH.cons (o := { dst := some 45, op := Op.call { callee := Callee.value (Operand.func 37), args := #[Operand.tmp 43, Operand.tmp 44], argTypes := #[30, 3] }, type := _, pos := _, after := _, guard := some (5, true) }) rfl (fun K hK => ?_) AllReadyH.nil
          go_simp
          refine (tells_any Any _ y q _ (HYC.out.below HE9.out)).mono ?_
          rintro e w8 ⟨rfl, hb9⟩
          have HE8 := hid (show Below wc.heap.size wc w8 from HE9.out.trans (hb9.mono HE9.out.size))
          clear hb9
          refine hK.out _ _ (by exact HXC.out _ HE8.out) (fun hHeld => ?_)
          clear hK K
          try simp only [Act.put, List.setIfInBounds_toArray, List.set_cons_zero, List.set_cons_succ]
          refine wpAnyH_take (i := 12) (oi := { dst := some 46, op := Op.binOp BinOp.eql 52 (Operand.tmp 42) (Operand.tmp 45) 52, type := _, pos := _, after := _, guard := some (5, true) }) (v := ?_) rfl (by kernel_rfl) (by kernel_rfl) (by kernel_rfl) (fun _ _ _ h => h) (Or.inl ⟨by rfl, ?_⟩) (by assumption) ?_
          rotate_left
          · intro w hSw; (try dsimp only at hSw); go_simp; try with_reducible rfl
          try simp only [Act.put, List.setIfInBounds_toArray, List.set_cons_zero, List.set_cons_succ]
          refine wpAnyH_take (i := 13) (oi := { dst := some 47, op := Op.pick (Operand.tmp 39) (Operand.tmp 46) (Operand.const (Value.bool false)), type := _, pos := _, after := _, guard := none }) (v := ?_) rfl (by kernel_rfl) (by kernel_rfl) (by kernel_rfl) (fun _ _ _ h => h) (Or.inl ⟨by rfl, ?_⟩) (by assumption) ?_
          rotate_left
          · intro w hSw; (try dsimp only at hSw); go_simp; try with_reducible rfl
          try simp only [Act.put, List.setIfInBounds_toArray, List.set_cons_zero, List.set_cons_succ]
          refine wpAnyH_take (i := 14) (oi := { dst := some 4, op := Op.assign (Operand.tmp 47), type := _, pos := _, after := _, guard := none }) (v := ?_) rfl (by kernel_rfl) (by kernel_rfl) (by kernel_rfl) (fun _ _ _ h => h) (Or.inl ⟨by rfl, ?_⟩) (by assumption) ?_
          rotate_left
          · intro w hSw; (try dsimp only at hSw); go_simp; try with_reducible rfl
          try simp only [Act.put, List.setIfInBounds_toArray, List.set_cons_zero, List.set_cons_succ]
          refine wpAnyH_done (by kernel_rfl) ?_ _
          go_wp2_with fail
          go_ret
          exact ⟨rfl, HB8.out.trans ((HBC.out.trans (HE8.out.mono HBC.out.size)).mono HB8.out.size)⟩
end Go.Proofs.Ytmdkmobcglnmgaa
