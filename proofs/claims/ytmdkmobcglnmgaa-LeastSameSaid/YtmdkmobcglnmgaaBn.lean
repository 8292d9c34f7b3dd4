/- Two tables are alike just if their least ones are the same: the law's walk. Conditions: none. -/
import Derived.Test.YtmdkmobcglnmgaaBm

namespace Go.Proofs.Ytmdkmobcglnmgaa
open Go.RowKit
set_option linter.unusedSimpArgs false

theorem to_ex (A B : Option Addr) (n c m c' : Nat) (w : World) :
    Calls Try.prog 15 #[.agg #[.slice A n c, .slice B m c']] w fun e w' => e = .returned (.agg #[.slice A n c, .slice B m c']) ∧ (w.alloc (.cells #[.slice A n c, .slice B m c'] 29)).alloc (.cells #[.slice A n c, .slice B m c'] 30) = w' := by
  go_enter Try.func15, Try.ntmps15
  go_wp2
  exact bodyPost_ret (v := .agg #[.slice A n c, .slice B m c']) (by simp [results, Try.results15, go_sem]) rfl ⟨rfl, rfl⟩
theorem heap_alloc_at (w : World) (o : Obj) (b : Nat) : (w.alloc o).heap[b]? = if b = w.heap.size then some o else w.heap[b]? := by
  by_cases h : b = w.heap.size
  · rw [if_pos h, h]; exact heap_alloc_new w o
  · rw [if_neg h]
    by_cases hlt : b < w.heap.size
    · exact heap_alloc_old w o hlt
    · have h2 : (w.alloc o).heap.size = w.heap.size + 1 := by simp
      rw [Array.getElem?_eq_none (by omega), Array.getElem?_eq_none (by omega)]
theorem eq1_of {a b : D} {al be : Int → Int → Bool} {b1 : Bool} (ha : AlIs al a) (hb : AlIs be b) (hra : rightB a = true) (hrb : rightB b = true) (h : b1 = true ↔ rightB a = true ∧ rightB b = true ∧ AlkT a b) : (b1 == sameD (leastD al a) (leastD be b)) = true := by
  have h1 := least_alike ha hb (rt_of_right hra).1 (rt_of_right hrb).1 (rt_of_right hra).2.1 (rt_of_right hrb).2.1
  have h2 : sameD (leastD al a) (leastD be b) = true ↔ leastD al a = leastD be b := by
    generalize leastD al a = x
    generalize leastD be b = y
    cases x; cases y
    simp [sameD]
  rw [beq_iff_eq, Bool.eq_iff_iff, h, h2, ← h1]
  exact ⟨fun h => h.2.2, fun h => ⟨hra, hrb, h⟩⟩
theorem eq2_of {a b : D} {b2 b3 : Bool} (h : b2 = true ↔ rightB a = true ∧ rightB b = true ∧ AlkT a b) (k : b3 = true ↔ rightB b = true ∧ rightB a = true ∧ AlkT b a) : (b2 == b3) = true := by
  rw [beq_iff_eq, Bool.eq_iff_iff, h, k]
  exact ⟨fun h => ⟨h.2.1, h.1, h.2.2.symm⟩, fun h => ⟨h.2.1, h.1, h.2.2.symm⟩⟩
set_option maxRecDepth 100000 in
set_option maxHeartbeats 4000000 in
theorem leastAlike_walk (S : Nat → Prop) (NA TA NB TB : Option Addr) (nc tc nd td : Nat) (a b : D) (w : World) (ha0 : IsD w S (.agg #[.slice NA a.next.length nc, .slice TA a.tells.length tc]) a) (hb0 : IsD w S (.agg #[.slice NB b.next.length nd, .slice TB b.tells.length td]) b) (hua : ∀ z ∈ a.tells, u64ok z) (hub : ∀ z ∈ b.tells, u64ok z) :
    Calls Try.prog 11 #[.agg #[.slice NA a.next.length nc, .slice TA a.tells.length tc], .agg #[.slice NB b.next.length nd, .slice TB b.tells.length td]] w (fun e w' => e = .returned (.bool true) ∧ Below w.heap.size w w') := by
  obtain ⟨W, hWW⟩ : ∃ W, W = (w.alloc (.cells #[.slice NA a.next.length nc, .slice TA a.tells.length tc] 29)).alloc (.cells #[.slice NB b.next.length nd, .slice TB b.tells.length td] 29) := ⟨_, rfl⟩
  have hWb : Below w.heap.size w W := by rw [hWW]; exact ((Below.refl _ _).alloc (Nat.le_refl _) _).alloc (by simp) _
  have HZ := hid (show W.heap.size = w.heap.size + 2 by rw [hWW]; simp)
  have HP0 := hid (show W.heap[w.heap.size]? = some (.cells #[.slice NA a.next.length nc, .slice TA a.tells.length tc] 29 (0, 0)) by rw [hWW, heap_alloc_old _ _ (by simp)]; exact heap_alloc_new _ _)
  have HP1 := hid (show W.heap[w.heap.size + 1]? = some (.cells #[.slice NB b.next.length nd, .slice TB b.tells.length td] 29 (0, 0)) by rw [hWW]; exact heap_alloc2_new _ _ _)
  have HC := hid (show ∀ Y, Below W.heap.size W Y → Y.cell? ⟨w.heap.size, 0, none⟩ = some (.slice NA a.next.length nc) ∧ Y.cell? ⟨w.heap.size, 1, none⟩ = some (.slice TA a.tells.length tc) ∧ Y.cell? ⟨w.heap.size + 1, 0, none⟩ = some (.slice NB b.next.length nd) ∧ Y.cell? ⟨w.heap.size + 1, 1, none⟩ = some (.slice TB b.tells.length td) from fun Y hY => by
    have hz := HZ.out
    obtain ⟨x, y, _⟩ := slot2 ((hY.block w.heap.size (by omega)).trans HP0.out)
    obtain ⟨u, v, _⟩ := slot2 ((hY.block (w.heap.size + 1) (by omega)).trans HP1.out)
    exact ⟨x, y, u, v⟩)
  have HB := hid hWb
  have HA := hid (ha0.below hWb)
  have HBB := hid (hb0.below hWb)
  have HUA := hid hua
  have HUB := hid hub
  obtain ⟨f1, f2, f3, f4⟩ := HC.out W (Below.refl _ _)
  clear hWb ha0 hb0 hua hub
  cases hga : greatB a with
  | true =>
    go_enter Try.func11, Try.ntmps11
    go_wp2_with fail
    rw [← hWW]
    clear hWW
    go_wp2_with fail
    refine (great_any S _ a _ HA.out).mono ?_
    rintro e w1 ⟨rfl, hb1⟩
    rw [hga]
    go_wp2_with fail
    refine (awake_any _).mono ?_
    rintro e w2 ⟨rfl, hb2⟩
    have hbel := HB.out.trans ((hb1.trans (hb2.mono hb1.size)).mono HB.out.size)
    go_wp2_with fail
    go_ret
    exact ⟨rfl, hbel⟩
  | false =>
    cases hgb : greatB b with
    | true =>
      go_enter Try.func11, Try.ntmps11
      go_wp2_with fail
      rw [← hWW]
      clear hWW
      go_wp2_with fail
      refine (great_any S _ a _ HA.out).mono ?_
      rintro e w1 ⟨rfl, hb1⟩
      rw [hga]
      obtain ⟨g1, g2, g3, g4⟩ := HC.out w1 hb1
      go_wp2_with fail
      refine (great_any S _ b _ (HBB.out.below hb1)).mono ?_
      rintro e w2 ⟨rfl, hb2⟩
      rw [hgb]
      have hB2 := hb1.trans (hb2.mono hb1.size)
      go_wp2_with fail
      refine (awake_any _).mono ?_
      rintro e w3 ⟨rfl, hb3⟩
      have hbel := HB.out.trans ((hB2.trans (hb3.mono hB2.size)).mono HB.out.size)
      go_wp2_with fail
      go_ret
      exact ⟨rfl, hbel⟩
    | false =>
      go_enter Try.func11, Try.ntmps11
      go_wp2_with fail
      rw [← hWW]
      clear hWW
      go_wp2_with fail
      refine (great_any S _ a _ HA.out).mono ?_
      rintro e w1 ⟨rfl, hb1⟩
      rw [hga]
      obtain ⟨g1, g2, g3, g4⟩ := HC.out w1 hb1
      go_wp2_with fail
      refine (great_any S _ b _ (HBB.out.below hb1)).mono ?_
      rintro e w2 ⟨rfl, hb2⟩
      rw [hgb]
      have hB2 := hb1.trans (hb2.mono hb1.size)
      go_wp2_with fail
      refine (awake_any _).mono ?_
      rintro e w3 ⟨rfl, hb3⟩
      have hB3 := hB2.trans (hb3.mono hB2.size)
      go_wp2_with fail
      clear g1 g2 g3 g4 f1 f2 f3 f4 hgb hga hb1 hb2 hb3 hB2
      obtain ⟨f1, f2, f3, f4⟩ := HC.out w3 hB3
      go_cut [5, 6] from 18 (fun s5 s6 wc => ∃ p q, s5 = .pointer (some ⟨p, 0, none⟩) ∧ s6 = .pointer (some ⟨q, 0, none⟩) ∧ w3.heap.size ≤ p ∧ w3.heap.size ≤ q ∧ wc.heap[p]? = some (.cells #[.slice NA a.next.length nc, .slice TA a.tells.length tc] 30 (0, 0)) ∧
        wc.heap[q]? = some (.cells #[.slice NB b.next.length nd, .slice TB b.tells.length td] 30 (0, 0)) ∧ Below w3.heap.size w3 wc)
      case first =>
        have hz3 : w.heap.size + 1 < w3.heap.size := by have := block_lt_of_cell f3; have := hB3.size; omega
        have hz30 := hB3.size
        go_region_held3 (fun Y => Y.cell? ⟨w.heap.size, 0, none⟩ = some (.slice NA a.next.length nc) ∧ Y.cell? ⟨w.heap.size, 1, none⟩ = some (.slice TA a.tells.length tc) ∧ Y.cell? ⟨w.heap.size + 1, 0, none⟩ = some (.slice NB b.next.length nd) ∧ Y.cell? ⟨w.heap.size + 1, 1, none⟩ = some (.slice TB b.tells.length td)) (first | exact HC.out _ (by (repeat' (first | exact hB3 | assumption | refine Below.drew ?_ | refine Below.alloc ?_ ?_ _ | refine Below.setCell ?_ ?_ _)) <;> (first | omega | (simp <;> omega))))
          ((go_at_call 15; refine (to_ex _ _ _ _ _ _ _).mono ?_; rintro e w4 ⟨rfl, rfl⟩))
        all_goals
          go_wp2_with fail
          go_meet
          refine ⟨_, _, rfl, rfl, by first | omega | (simp <;> omega), by first | omega | (simp <;> omega), ?_, ?_, ?_⟩
          · rw [heap_drew]; simp only [heap_alloc_at, World.size_alloc, if_true]; repeat (first | rw [if_pos (by omega)] | rw [if_neg (by omega)])
          · rw [heap_drew]; simp only [heap_alloc_at, World.size_alloc, if_true]; repeat (first | rw [if_pos (by omega)] | rw [if_neg (by omega)])
          · (repeat' (first | exact Below.refl _ _ | refine Below.drew ?_ | refine Below.alloc ?_ ?_ _)) <;> (simp <;> omega)
      case rest =>
        obtain ⟨p, q, rfl, rfl, hp, hq, hxp, hxq, hbc⟩ := hcut
        have hBc := hB3.trans (hbc.mono hB3.size)
        have HA' := hid (HA.out.below hBc)
        have HBB' := hid (HBB.out.below hBc)
        have HBc := hid (HB.out.trans (hBc.mono HB.out.size))
        have hpl : p < wc.heap.size := (Array.getElem?_eq_some_iff.1 hxp).1
        have hql : q < wc.heap.size := (Array.getElem?_eq_some_iff.1 hxq).1
        have HX := hid (show ∀ Y, Below wc.heap.size wc Y → Y.cell? ⟨p, 0, none⟩ = some (.slice NA a.next.length nc) ∧ Y.cell? ⟨p, 1, none⟩ = some (.slice TA a.tells.length tc) ∧ Y.cell? ⟨q, 0, none⟩ = some (.slice NB b.next.length nd) ∧ Y.cell? ⟨q, 1, none⟩ = some (.slice TB b.tells.length td) from fun Y hY => by
          obtain ⟨x, y, _⟩ := slot2 ((hY.block p hpl).trans hxp)
          obtain ⟨u, v, _⟩ := slot2 ((hY.block q hql).trans hxq)
          exact ⟨x, y, u, v⟩)
        obtain ⟨k1, k2, k3, k4⟩ := HX.out wc (Below.refl _ _)
        clear hxp hxq hbc hBc hp hq f1 f2 f3 f4 hB3
        cases hra : rightB a with
        | false =>
          have HRA := hid hra
          clear hra
          go_wp2_with (first
            | (go_at_call 26; refine (right_any S _ a _ HA'.out).mono ?_; rintro e w5 ⟨rfl, hb5⟩; rw [HRA.out]; have HB5 := hid hb5; obtain ⟨m1, m2, m3, m4⟩ := HX.out _ hb5; clear hb5)
            | (go_at_call 41; refine (alikeT_any S S _ _ a b _ (HA'.out.below HB5.out) (HBB'.out.below HB5.out) HUA.out HUB.out).mono ?_; rintro e w6 ⟨b1, rfl, hq1, hb6⟩; have hbf : b1 = false := (Bool.eq_false_iff.2 fun h => by have := (hq1.1 h).1; rw [HRA.out] at this; cases this); subst hbf; have HB6 := hid (HB5.out.trans (hb6.mono HB5.out.size)); clear hb6 hq1)
            | fail)
          go_ret
          exact ⟨rfl, HBc.out.trans (HB6.out.mono HBc.out.size)⟩
        | true =>
          have HRA := hid hra
          clear hra
          cases hrb : rightB b with
          | false =>
            have HRB := hid hrb
            have tok1 : True := trivial
            clear hrb
            go_wp2_with (first
              | (go_at_call 26; have _t := tok1; refine (right_any S _ a _ HA'.out).mono ?_; rintro e w5 ⟨rfl, hb5⟩; rw [HRA.out]; have HB5 := hid hb5; obtain ⟨m1, m2, m3, m4⟩ := HX.out _ hb5; clear hb5 tok1 _t)
              | (go_at_call 26; refine (right_any S _ b _ (HBB'.out.below HB5.out)).mono ?_; rintro e w6 ⟨rfl, hb6⟩; rw [HRB.out]; have HB6 := hid (HB5.out.trans (hb6.mono HB5.out.size)); obtain ⟨n1, n2, n3, n4⟩ := HX.out _ (HB5.out.trans (hb6.mono HB5.out.size)); clear hb6)
              | (go_at_call 41; refine (alikeT_any S S _ _ a b _ (HA'.out.below HB6.out) (HBB'.out.below HB6.out) HUA.out HUB.out).mono ?_; rintro e w7 ⟨b1, rfl, hq1, hb7⟩; have hbf : b1 = false := (Bool.eq_false_iff.2 fun h => by have := (hq1.1 h).2.1; rw [HRB.out] at this; cases this); subst hbf; have HB7 := hid (HB6.out.trans (hb7.mono HB6.out.size)); clear hb7 hq1)
              | fail)
            go_ret
            exact ⟨rfl, HBc.out.trans (HB7.out.mono HBc.out.size)⟩
          | true =>
            have HRB := hid hrb
            have tok1 : True := trivial
            clear hrb
            go_wp2_with (first
              | (go_at_call 26; have _t := tok1; refine (right_any S _ a _ HA'.out).mono ?_; rintro e w5 ⟨rfl, hb5⟩; rw [HRA.out]; have HB5 := hid hb5; obtain ⟨m1, m2, m3, m4⟩ := HX.out _ hb5; clear hb5 tok1 _t)
              | (go_at_call 26; refine (right_any S _ b _ (HBB'.out.below HB5.out)).mono ?_; rintro e w6 ⟨rfl, hb6⟩; rw [HRB.out]; have HB6 := hid (HB5.out.trans (hb6.mono HB5.out.size)); clear hb6)
              | fail)
            have HA6 := hid (HA'.out.below HB6.out)
            have HBB6 := hid (HBB'.out.below HB6.out)
            have HBC6 := hid (HBc.out.trans (HB6.out.mono HBc.out.size))
            have HX6 := hid (show ∀ Y, Below w6.heap.size w6 Y → Y.cell? ⟨p, 0, none⟩ = some (.slice NA a.next.length nc) ∧ Y.cell? ⟨p, 1, none⟩ = some (.slice TA a.tells.length tc) ∧ Y.cell? ⟨q, 0, none⟩ = some (.slice NB b.next.length nd) ∧ Y.cell? ⟨q, 1, none⟩ = some (.slice TB b.tells.length td) from fun Y hY => HX.out Y (HB6.out.trans (hY.mono HB6.out.size)))
            clear k1 k2 k3 k4 m1 m2 m3 m4 HX HA' HBB'
            obtain ⟨wz, hwz⟩ : ∃ wz, wz = w6 := ⟨_, rfl⟩
            rw [← hwz] at HA6 HBB6 HBC6 HX6 ⊢
            clear hwz
            go_wp2_with fail
            refine wp_region_held_drew (S := (fun Y => Y.cell? ⟨p, 0, none⟩ = some (.slice NA a.next.length nc) ∧ Y.cell? ⟨p, 1, none⟩ = some (.slice TA a.tells.length tc) ∧ Y.cell? ⟨q, 0, none⟩ = some (.slice NB b.next.length nd) ∧ Y.cell? ⟨q, 1, none⟩ = some (.slice TB b.tells.length td))) (by kernel_rfl) (by exact HX6.out wz (Below.refl _ _)) (fun hHeld => ?_)
            refine wpAnyH_take (i := 0) (oi := { dst := some 34, op := Op.load 30 (Operand.tmp 5), type := _, pos := _, after := _, guard := none }) (v := ?_) rfl (by kernel_rfl) (by kernel_rfl) (by kernel_rfl) (fun _ _ _ h => h) (Or.inl ⟨by rfl, ?_⟩) (by assumption) ?_
            rotate_left
            · intro w hSw; (try dsimp only at hSw); go_simp; try with_reducible rfl
            try simp only [Act.put, List.setIfInBounds_toArray, List.set_cons_zero, List.set_cons_succ]
            refine wpAnyH_take (i := 1) (oi := { dst := some 35, op := Op.load 30 (Operand.tmp 6), type := _, pos := _, after := _, guard := none }) (v := ?_) rfl (by kernel_rfl) (by kernel_rfl) (by kernel_rfl) (fun _ _ _ h => h) (Or.inl ⟨by rfl, ?_⟩) (by assumption) ?_
            rotate_left
            · intro w hSw; (try dsimp only at hSw); go_simp; try with_reducible rfl
            try simp only [Act.put, List.setIfInBounds_toArray, List.set_cons_zero, List.set_cons_succ]
            refine wpAnyH_take (i := 3) (oi := { dst := some 37, op := Op.load 30 (Operand.tmp 5), type := _, pos := _, after := _, guard := none }) (v := ?_) rfl (by kernel_rfl) (by kernel_rfl) (by kernel_rfl) (fun _ _ _ h => h) (Or.inl ⟨by rfl, ?_⟩) (by assumption) ?_
            rotate_left
            · intro w hSw; (try dsimp only at hSw); go_simp; try with_reducible rfl
            try simp only [Act.put, List.setIfInBounds_toArray, List.set_cons_zero, List.set_cons_succ]
            refine wpAnyH_take (i := 5) (oi := { dst := some 39, op := Op.load 30 (Operand.tmp 6), type := _, pos := _, after := _, guard := none }) (v := ?_) rfl (by kernel_rfl) (by kernel_rfl) (by kernel_rfl) (fun _ _ _ h => h) (Or.inl ⟨by rfl, ?_⟩) (by assumption) ?_
            rotate_left
            · intro w hSw; (try dsimp only at hSw); go_simp; try with_reducible rfl
            try simp only [Act.put, List.setIfInBounds_toArray, List.set_cons_zero, List.set_cons_succ]
            refine wpAnyH_ready (rs := [2]) (by kernel_rfl) (by simp) ?_
            refine AllReadyH.cons (o := { dst := some 36, op := Op.call { callee := Callee.value (Operand.func 41), args := #[Operand.tmp 34, Operand.tmp 35], argTypes := #[30, 30] }, type := _, pos := _, after := _, guard := none }) rfl (fun K hK => ?_) AllReadyH.nil
            go_simp
            refine (alikeT_any S S _ _ a b _ (HA6.out.below (Below.refl _ _).drew) (HBB6.out.below (Below.refl _ _).drew) HUA.out HUB.out).mono ?_
            rintro e w5 ⟨b1, rfl, hq1, hb5⟩
            have HQ1 := hid hq1
            have HE5 := hid (show Below wz.heap.size wz w5 from ((Below.refl _ _).drew).trans hb5)
            clear hb5 hq1
            refine hK.out _ _ (by exact HX6.out _ HE5.out) (fun hHeld => ?_)
            clear hK K
            try simp only [Act.put, List.setIfInBounds_toArray, List.set_cons_zero, List.set_cons_succ]
            refine wpAnyH_ready (rs := [4]) (by kernel_rfl) (by simp) ?_
            refine AllReadyH.cons (o := { dst := some 38, op := Op.call { callee := Callee.value (Operand.func 32), args := #[Operand.tmp 37], argTypes := #[30] }, type := _, pos := _, after := _, guard := none }) rfl (fun K hK => ?_) AllReadyH.nil
            go_simp
            refine (least_yes S _ a _ (HA6.out.below HE5.out) HRA.out HUA.out).mono ?_
            rintro e w6 ⟨nv6, tv6, al, rfl, hal, his, hb6⟩
            have HAL := hid hal
            have HE6 := hid (show Below wz.heap.size wz w6 from HE5.out.trans (hb6.mono HE5.out.size))
            have HI6 := hid his
            clear hb6 hal his
            refine hK.out _ _ (by exact HX6.out _ HE6.out) (fun hHeld => ?_)
            clear hK K
            try simp only [Act.put, List.setIfInBounds_toArray, List.set_cons_zero, List.set_cons_succ]
            refine wpAnyH_ready (rs := [6]) (by kernel_rfl) (by simp) ?_
            refine AllReadyH.cons (o := { dst := some 40, op := Op.call { callee := Callee.value (Operand.func 32), args := #[Operand.tmp 39], argTypes := #[30] }, type := _, pos := _, after := _, guard := none }) rfl (fun K hK => ?_) AllReadyH.nil
            go_simp
            refine (least_yes S _ b _ (HBB6.out.below HE6.out) HRB.out HUB.out).mono ?_
            rintro e w7 ⟨nv7, tv7, be, rfl, hbe, his, hb7⟩
            have HBE := hid hbe
            have HE7 := hid (show Below wz.heap.size wz w7 from HE6.out.trans (hb7.mono HE6.out.size))
            have HI7 := hid (HI6.out.below hb7)
            have HJ7 := hid his
            clear hb7 hbe his
            refine hK.out _ _ (by exact HX6.out _ HE7.out) (fun hHeld => ?_)
            clear hK K
            try simp only [Act.put, List.setIfInBounds_toArray, List.set_cons_zero, List.set_cons_succ]
            refine wpAnyH_ready (rs := [7]) (by kernel_rfl) (by simp) ?_
            refine AllReadyH.cons (o := { dst := some 41, op := Op.call { callee := Callee.value (Operand.func 40), args := #[Operand.tmp 38, Operand.tmp 40], argTypes := #[30, 30] }, type := _, pos := _, after := _, guard := none }) rfl (fun K hK => ?_) AllReadyH.nil
            go_simp
            refine (same_any _ _ _ _ _ _ _ HI7.out HJ7.out).mono ?_
            rintro e w8 ⟨rfl, hb8⟩
            have HE8 := hid (show Below wz.heap.size wz w8 from HE7.out.trans (hb8.mono HE7.out.size))
            have heq1 : (b1 == sameD (leastD al a) (leastD be b)) = true := eq1_of HAL.out HBE.out HRA.out HRB.out HQ1.out
            clear hb8
            refine hK.out _ _ (by exact HX6.out _ HE8.out) (fun hHeld => ?_)
            clear hK K
            try simp only [Act.put, List.setIfInBounds_toArray, List.set_cons_zero, List.set_cons_succ]
            refine wpAnyH_take (i := 8) (oi := { dst := some 42, op := Op.binOp BinOp.eql 4 (Operand.tmp 36) (Operand.tmp 41) 4, type := _, pos := _, after := _, guard := none }) (v := ?_) rfl (by kernel_rfl) (by kernel_rfl) (by kernel_rfl) (fun _ _ _ h => h) (Or.inl ⟨by rfl, ?_⟩) (by assumption) ?_
            rotate_left
            · intro w hSw; (try dsimp only at hSw); go_simp; try with_reducible rfl
            try simp only [Act.put, List.setIfInBounds_toArray, List.set_cons_zero, List.set_cons_succ]
            refine wpAnyH_take (i := 9) (oi := { dst := some 43, op := Op.move (Operand.tmp 42), type := _, pos := _, after := _, guard := none }) (v := ?_) rfl (by kernel_rfl) (by kernel_rfl) (by kernel_rfl) (fun _ _ _ h => h) (Or.inl ⟨by rfl, ?_⟩) (by assumption) ?_
            rotate_left
            · intro w hSw; (try dsimp only at hSw); go_simp; try with_reducible rfl
            try simp only [Act.put, List.setIfInBounds_toArray, List.set_cons_zero, List.set_cons_succ]
            refine wpAnyH_take (i := 10) (oi := { dst := some 44, op := Op.load 30 (Operand.tmp 5), type := _, pos := _, after := _, guard := some (9, true) }) (v := ?_) rfl (by kernel_rfl) (by kernel_rfl) (by kernel_rfl) (fun _ _ _ h => h) (Or.inl ⟨by rfl, ?_⟩) (by assumption) ?_
            rotate_left
            · intro w hSw; (try dsimp only at hSw); go_simp; try with_reducible rfl
            try simp only [Act.put, List.setIfInBounds_toArray, List.set_cons_zero, List.set_cons_succ]
            refine wpAnyH_take (i := 11) (oi := { dst := some 45, op := Op.load 30 (Operand.tmp 6), type := _, pos := _, after := _, guard := some (9, true) }) (v := ?_) rfl (by kernel_rfl) (by kernel_rfl) (by kernel_rfl) (fun _ _ _ h => h) (Or.inl ⟨by rfl, ?_⟩) (by assumption) ?_
            rotate_left
            · intro w hSw; (try dsimp only at hSw); go_simp; try with_reducible rfl
            try simp only [Act.put, List.setIfInBounds_toArray, List.set_cons_zero, List.set_cons_succ]
            refine wpAnyH_take (i := 13) (oi := { dst := some 47, op := Op.load 30 (Operand.tmp 6), type := _, pos := _, after := _, guard := some (9, true) }) (v := ?_) rfl (by kernel_rfl) (by kernel_rfl) (by kernel_rfl) (fun _ _ _ h => h) (Or.inl ⟨by rfl, ?_⟩) (by assumption) ?_
            rotate_left
            · intro w hSw; (try dsimp only at hSw); go_simp; try with_reducible rfl
            try simp only [Act.put, List.setIfInBounds_toArray, List.set_cons_zero, List.set_cons_succ]
            refine wpAnyH_take (i := 14) (oi := { dst := some 48, op := Op.load 30 (Operand.tmp 5), type := _, pos := _, after := _, guard := some (9, true) }) (v := ?_) rfl (by kernel_rfl) (by kernel_rfl) (by kernel_rfl) (fun _ _ _ h => h) (Or.inl ⟨by rfl, ?_⟩) (by assumption) ?_
            rotate_left
            · intro w hSw; (try dsimp only at hSw); go_simp; try with_reducible rfl
            try simp only [Act.put, List.setIfInBounds_toArray, List.set_cons_zero, List.set_cons_succ]
            refine wpAnyH_ready (rs := [12]) (by kernel_rfl) (by simp) ?_
            refine AllReadyH.cons (o := { dst := some 46, op := Op.call { callee := Callee.value (Operand.func 41), args := #[Operand.tmp 44, Operand.tmp 45], argTypes := #[30, 30] }, type := _, pos := _, after := _, guard := some (9, true) }) rfl (fun K hK => ?_) AllReadyH.nil
            go_simp
            refine (alikeT_any S S _ _ a b _ (HA6.out.below HE8.out) (HBB6.out.below HE8.out) HUA.out HUB.out).mono ?_
            rintro e w9 ⟨b2, rfl, hq2, hb9⟩
            have HQ2 := hid hq2
            have HE9 := hid (show Below wz.heap.size wz w9 from HE8.out.trans (hb9.mono HE8.out.size))
            clear hb9 hq2
            refine hK.out _ _ (by exact HX6.out _ HE9.out) (fun hHeld => ?_)
            clear hK K
            try simp only [Act.put, List.setIfInBounds_toArray, List.set_cons_zero, List.set_cons_succ]
            refine wpAnyH_ready (rs := [15]) (by kernel_rfl) (by simp) ?_
            refine AllReadyH.cons (o := { dst := some 49, op := Op.call { callee := Callee.value (Operand.func 41), args := #[Operand.tmp 47, Operand.tmp 48], argTypes := #[30, 30] }, type := _, pos := _, after := _, guard := some (9, true) }) rfl (fun K hK => ?_) AllReadyH.nil
            go_simp
            refine (alikeT_any S S _ _ b a _ (HBB6.out.below HE9.out) (HA6.out.below HE9.out) HUB.out HUA.out).mono ?_
            rintro e wx ⟨b3, rfl, hq3, hbx⟩
            have heq2 : (b2 == b3) = true := eq2_of HQ2.out hq3
            have HEX := hid (show Below wz.heap.size wz wx from HE9.out.trans (hbx.mono HE9.out.size))
            clear hbx hq3
            refine hK.out _ _ (by exact HX6.out _ HEX.out) (fun hHeld => ?_)
            clear hK K
            try simp only [Act.put, List.setIfInBounds_toArray, List.set_cons_zero, List.set_cons_succ]
            refine wpAnyH_take (i := 16) (oi := { dst := some 50, op := Op.binOp BinOp.eql 4 (Operand.tmp 46) (Operand.tmp 49) 4, type := _, pos := _, after := _, guard := some (9, true) }) (v := ?_) rfl (by kernel_rfl) (by kernel_rfl) (by kernel_rfl) (fun _ _ _ h => h) (Or.inl ⟨by rfl, ?_⟩) (by assumption) ?_
            rotate_left
            · intro w hSw; (try dsimp only at hSw); go_simp; try with_reducible rfl
            try simp only [Act.put, List.setIfInBounds_toArray, List.set_cons_zero, List.set_cons_succ]
            refine wpAnyH_take (i := 17) (oi := { dst := some 51, op := Op.pick (Operand.tmp 43) (Operand.tmp 50) (Operand.const (Value.bool false)), type := _, pos := _, after := _, guard := none }) (v := ?_) rfl (by kernel_rfl) (by kernel_rfl) (by kernel_rfl) (fun _ _ _ h => h) (Or.inl ⟨by rfl, ?_⟩) (by assumption) ?_
            rotate_left
            · intro w hSw; (try dsimp only at hSw); go_simp; try with_reducible rfl
            try simp only [Act.put, List.setIfInBounds_toArray, List.set_cons_zero, List.set_cons_succ]
            refine wpAnyH_take (i := 18) (oi := { dst := some 52, op := Op.move (Operand.tmp 51), type := _, pos := _, after := _, guard := none }) (v := ?_) rfl (by kernel_rfl) (by kernel_rfl) (by kernel_rfl) (fun _ _ _ h => h) (Or.inl ⟨by rfl, ?_⟩) (by assumption) ?_
            rotate_left
            · intro w hSw; (try dsimp only at hSw); go_simp; try with_reducible rfl
            try simp only [Act.put, List.setIfInBounds_toArray, List.set_cons_zero, List.set_cons_succ]
            refine wpAnyH_take (i := 19) (oi := { dst := some 53, op := Op.load 30 (Operand.tmp 5), type := _, pos := _, after := _, guard := some (18, true) }) (v := ?_) rfl (by kernel_rfl) (by kernel_rfl) (by kernel_rfl) (fun _ _ _ h => h) (Or.inl ⟨by rfl, ?_⟩) (by assumption) ?_
            rotate_left
            · intro w hSw; (try dsimp only at hSw); go_simp; try with_reducible rfl
            try simp only [Act.put, List.setIfInBounds_toArray, List.set_cons_zero, List.set_cons_succ]
            refine wpAnyH_take (i := 20) (oi := { dst := some 54, op := Op.load 30 (Operand.tmp 5), type := _, pos := _, after := _, guard := some (18, true) }) (v := ?_) rfl (by kernel_rfl) (by kernel_rfl) (by kernel_rfl) (fun _ _ _ h => h) (Or.inl ⟨by rfl, ?_⟩) (by assumption) ?_
            rotate_left
            · intro w hSw; (try dsimp only at hSw); go_simp; try with_reducible rfl
            try simp only [Act.put, List.setIfInBounds_toArray, List.set_cons_zero, List.set_cons_succ]
            refine wpAnyH_ready (rs := [21]) (by kernel_rfl) (by simp) ?_
            refine AllReadyH.cons (o := { dst := some 55, op := Op.call { callee := Callee.value (Operand.func 41), args := #[Operand.tmp 53, Operand.tmp 54], argTypes := #[30, 30] }, type := _, pos := _, after := _, guard := some (18, true) }) rfl (fun K hK => ?_) AllReadyH.nil
            go_simp
            refine (alikeT_any S S _ _ a a _ (HA6.out.below HEX.out) (HA6.out.below HEX.out) HUA.out HUA.out).mono ?_
            rintro e wy ⟨b4, rfl, hq4, hby⟩
            have hb4e : b4 = true := hq4.2 ⟨HRA.out, HRA.out, AlkT.refl a⟩
            subst hb4e
            have HEY := hid (show Below wz.heap.size wz wy from HEX.out.trans (hby.mono HEX.out.size))
            clear hby hq4
            refine hK.out _ _ (by exact HX6.out _ HEY.out) (fun hHeld => ?_)
            clear hK K
            try simp only [Act.put, List.setIfInBounds_toArray, List.set_cons_zero, List.set_cons_succ]
            refine wpAnyH_take (i := 22) (oi := { dst := some 56, op := Op.pick (Operand.tmp 52) (Operand.tmp 55) (Operand.const (Value.bool false)), type := _, pos := _, after := _, guard := none }) (v := ?_) rfl (by kernel_rfl) (by kernel_rfl) (by kernel_rfl) (fun _ _ _ h => h) (Or.inl ⟨by rfl, ?_⟩) (by assumption) ?_
            rotate_left
            · intro w hSw; (try dsimp only at hSw); go_simp; try with_reducible rfl
            try simp only [Act.put, List.setIfInBounds_toArray, List.set_cons_zero, List.set_cons_succ]
            refine wpAnyH_take (i := 23) (oi := { dst := some 4, op := Op.assign (Operand.tmp 56), type := _, pos := _, after := _, guard := none }) (v := ?_) rfl (by kernel_rfl) (by kernel_rfl) (by kernel_rfl) (fun _ _ _ h => h) (Or.inl ⟨by rfl, ?_⟩) (by assumption) ?_
            rotate_left
            · intro w hSw; (try dsimp only at hSw); go_simp; try with_reducible rfl
            try simp only [Act.put, List.setIfInBounds_toArray, List.set_cons_zero, List.set_cons_succ]
            refine wpAnyH_done (by kernel_rfl) ?_ _
            go_wp2_with fail
            go_ret
            exact ⟨rfl, HBC6.out.trans (HEY.out.mono HBC6.out.size)⟩
end Go.Proofs.Ytmdkmobcglnmgaa
