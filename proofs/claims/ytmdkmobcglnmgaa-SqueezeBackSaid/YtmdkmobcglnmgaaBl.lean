/- The statement SqueezeBack, walked. Conditions: none beyond the input's shape. -/
import Derived.Test.YtmdkmobcglnmgaaBk
import Derived.Test.YtmdkmobcglnmgaaMl
namespace Go.Proofs.Ytmdkmobcglnmgaa
open Go.RowKit

set_option maxHeartbeats 400000 in
theorem to_exact (A B : Option Addr) (n c m c' : Nat) (w : World) :
    Calls Try.prog 15 #[.agg #[.slice A n c, .slice B m c']] w fun e w' => e = .returned (.agg #[.slice A n c, .slice B m c']) ∧ (w.alloc (.cells #[.slice A n c, .slice B m c'] 29)).alloc (.cells #[.slice A n c, .slice B m c'] 30) = w' := by
  go_enter Try.func15, Try.ntmps15
  go_wp2
  exact bodyPost_ret (v := .agg #[.slice A n c, .slice B m c']) (by simp [results, Try.results15, go_sem]) rfl ⟨rfl, rfl⟩
theorem heap_alloc_if (w : World) (o : Obj) (b : Nat) : (w.alloc o).heap[b]? = if b = w.heap.size then some o else w.heap[b]? := by
  by_cases h : b = w.heap.size
  · rw [if_pos h, h]; exact heap_alloc_new w o
  · rw [if_neg h]
    by_cases hlt : b < w.heap.size
    · exact heap_alloc_old w o hlt
    · have h2 : (w.alloc o).heap.size = w.heap.size + 1 := by simp
      rw [Array.getElem?_eq_none (by omega), Array.getElem?_eq_none (by omega)]
theorem below_step {W X Y : World} (h : Below W.heap.size W X) (hb : Below X.heap.size X Y) : Below W.heap.size W Y := h.trans (hb.mono h.size)
theorem isDs_two {w : World} {S : Nat → Prop} {p t : Nat} {na ta nb tb : Value} {a b : D} (h : w.heap[p]? = some (.cells #[na, ta, nb, tb] t (0, 0))) (hp : S p) (ha : IsD w S (.agg #[na, ta]) a) (hb : IsD w S (.agg #[nb, tb]) b) :
    IsDs w S (.slice (some ⟨p, 0, none⟩) 2 2) [a, b] := by
  obtain ⟨_, _, e1, a1, a2⟩ := ha
  obtain ⟨rfl, rfl⟩ : na = _ ∧ ta = _ := by simpa using e1
  obtain ⟨_, _, e2, b1, b2⟩ := hb
  obtain ⟨rfl, rfl⟩ : nb = _ ∧ tb = _ := by simpa using e2
  refine ⟨_, 2, [na, ta, nb, tb], rfl, Nat.le_refl _, by simp [maxLen], fun _ => ⟨p, 0, rfl, hp, ?_⟩, rfl, ?_⟩
  · intro k v hk
    rw [cell_of_row _ _ _ _ _ _ h]
    simpa using hk
  · intro k d' hk
    have hlt := (List.getElem?_eq_some_iff.1 hk).1
    simp at hlt
    match k, hlt with
    | 0, _ => simp at hk; subst hk; exact ⟨na, ta, rfl, rfl, a1, a2⟩
    | 1, _ => simp at hk; subst hk; exact ⟨nb, tb, rfl, rfl, b1, b2⟩
theorem groups_pair (S : Nat → Prop) (p t : Nat) (na ta nb tb : Value) (a b : D) (w : World) (h : w.heap[p]? = some (.cells #[na, ta, nb, tb] t (0, 0))) (hp : S p) (ha : IsD w S (.agg #[na, ta]) a) (hb : IsD w S (.agg #[nb, tb]) b) :
    Calls Try.prog 16 #[.slice (some ⟨p, 0, none⟩) 2 2] w (OwnedS w 3 1 37 ((groupsL [a, b]).map (.int .i64))) :=
  (groups_any S _ [a, b] w (isDs_two h hp ha hb) (by simp)).mono fun e w' h => by rw [groupsL_len] at h; exact owned_s h
theorem mod37 (n : Int) : ∃ i : Nat, i < 37 ∧ wrap64 ((IntKind.u64.wrap n).tmod 37) = (i : Int) := by
  have h0 : 0 ≤ IntKind.u64.wrap n := by simp [IntKind.wrap, IntKind.bits, IntKind.signed]; omega
  have h1 : (IntKind.u64.wrap n).tmod 37 = IntKind.u64.wrap n % 37 := Int.tmod_eq_emod_of_nonneg h0
  refine ⟨(IntKind.u64.wrap n % 37).toNat, by omega, ?_⟩
  rw [h1]
  generalize IntKind.u64.wrap n = z at h0
  unfold wrap64
  omega
theorem run_blk (S : Nat → Prop) (NA TA : Option Addr) (nc tc : Nat) (d : D) (s m g t : Nat) (w : World) (h : IsD w S (.agg #[.slice NA d.next.length nc, .slice TA d.tells.length tc]) d) (hg : w.heap[g]? = some (.cells #[.int .i64 m] t (0, 0)))
    (hr : rightB d = true) (hs : s < d.next.length) (hm : m < 37) :
    Calls Try.prog 36 #[.agg #[.slice NA d.next.length nc, .slice TA d.tells.length tc], .int .i64 s, .slice (some ⟨g, 0, none⟩) 1 1] w fun e w' => e = .returned (.int .i64 (nth (row d.next s) m)) ∧ Below w.heap.size w w' := by
  have hn : IsNums .i64 w (fun _ => True) (.slice (some ⟨g, 0, none⟩) 1 1) [(m : Int)] := blk_nums (zs := [(m : Int)]) hg trivial (by simp)
  have := run_any S (fun _ => True) NA TA nc tc _ d s [(m : Int)] w h hn
  rw [run_one d hr hs hm] at this
  exact this
theorem sameRows_succ (rs : List (List Int)) (i j : Nat) {s : Nat} (h : s < rs.length) : sameRows (rs.take (s + 1)) i j = (sameRows (rs.take s) i j && decide (nth (row rs s) i = nth (row rs s) j)) :=
  all_take_succ _ rs s _ (some_row h)
set_option maxRecDepth 100000 in
set_option maxHeartbeats 4000000 in
theorem backl_walk (S : Nat → Prop) (NA TA NB TB : Option Addr) (nc tc nd td : Nat) (a b : D) (mi ki : Int) (w : World) (ha0 : IsD w S (.agg #[.slice NA a.next.length nc, .slice TA a.tells.length tc]) a) (hb0 : IsD w S (.agg #[.slice NB b.next.length nd, .slice TB b.tells.length td]) b) :
    Calls Try.prog 10 #[.agg #[.slice NA a.next.length nc, .slice TA a.tells.length tc], .agg #[.slice NB b.next.length nd, .slice TB b.tells.length td], .int .i64 mi, .int .i64 ki] w (fun e w' => e = .returned (.bool true) ∧ Below w.heap.size w w') := by
  obtain ⟨W0, hW00⟩ : ∃ W, W = w.alloc (.cells #[.slice NA a.next.length nc, .slice TA a.tells.length tc] 29) := ⟨_, rfl⟩
  obtain ⟨W, hW0⟩ : ∃ W, W = W0.alloc (.cells #[.slice NB b.next.length nd, .slice TB b.tells.length td] 29) := ⟨_, rfl⟩
  have hb00 : Below w.heap.size w W0 := by rw [hW00]; exact (Below.refl _ _).alloc (Nat.le_refl _) _
  have hb01 : Below W0.heap.size W0 W := by rw [hW0]; exact (Below.refl _ _).alloc (Nat.le_refl _) _
  have hz0 : W0.heap.size = w.heap.size + 1 := by rw [hW00]; simp
  have hc0 := box2 w hW00
  have hc1 := box2 W0 hW0
  have hWb : Below w.heap.size w W := hb00.trans (hb01.mono hb00.size)
  have HC := hid (show ∀ Y, Below W.heap.size W Y → Y.cell? ⟨w.heap.size, 0, none⟩ = some (.slice NA a.next.length nc) ∧ Y.cell? ⟨w.heap.size, 1, none⟩ = some (.slice TA a.tells.length tc) ∧ Y.cell? ⟨w.heap.size + 1, 0, none⟩ = some (.slice NB b.next.length nd) ∧ Y.cell? ⟨w.heap.size + 1, 1, none⟩ = some (.slice TB b.tells.length td) from fun Y hY => by
    obtain ⟨x1, x2⟩ := hc0 Y (hb01.trans (hY.mono hb01.size))
    obtain ⟨x3, x4⟩ := hc1 Y hY
    rw [hz0] at x3 x4
    exact ⟨x1, x2, x3, x4⟩)
  have HB := hid hWb
  have HA := hid (ha0.below hWb)
  have HBB := hid (hb0.below hWb)
  have hWW : W = (w.alloc (.cells #[.slice NA a.next.length nc, .slice TA a.tells.length tc] 29)).alloc (.cells #[.slice NB b.next.length nd, .slice TB b.tells.length td] 29) := by rw [hW0, hW00]
  obtain ⟨f1, f2, f3, f4⟩ := HC.out W (Below.refl _ _)
  clear hc0 hc1 hb00 hb01 hz0 hWb ha0 hb0 hW0 hW00
  cases hga : greatB a with
  | true =>
    go_enter Try.func10, Try.ntmps10
    go_wp2_with fail
    rw [← hWW]
    clear hWW
    go_wp2_with fail
    refine (great_any S _ a _ HA.out).mono ?_
    rintro e w1 ⟨rfl, hb1⟩
    rw [hga]
    go_wp2_with fail
    refine (awake_any _).mono ?_
    rintro e w2 ⟨rfl, hb2⟩
    have hbel := HB.out.trans ((hb1.trans (hb2.mono hb1.size)).mono HB.out.size)
    go_wp2_with fail
    go_ret
    exact ⟨rfl, hbel⟩
  | false =>
    cases hgb : greatB b with
    | true =>
      go_enter Try.func10, Try.ntmps10
      go_wp2_with fail
      rw [← hWW]
      clear hWW
      go_wp2_with fail
      refine (great_any S _ a _ HA.out).mono ?_
      rintro e w1 ⟨rfl, hb1⟩
      rw [hga]
      obtain ⟨g1, g2, g3, g4⟩ := HC.out w1 hb1
      go_wp2_with fail
      refine (great_any S _ b _ (HBB.out.below hb1)).mono ?_
      rintro e w2 ⟨rfl, hb2⟩
      rw [hgb]
      have hB2 := hb1.trans (hb2.mono hb1.size)
      go_wp2_with fail
      refine (awake_any _).mono ?_
      rintro e w3 ⟨rfl, hb3⟩
      have hbel := HB.out.trans ((hB2.trans (hb3.mono hB2.size)).mono HB.out.size)
      go_wp2_with fail
      go_ret
      exact ⟨rfl, hbel⟩
    | false =>
      have HGA := hid (great_bounds' hga)
      go_enter Try.func10, Try.ntmps10
      go_wp2_with fail
      rw [← hWW]
      clear hWW
      go_wp2_with fail
      refine (great_any S _ a _ HA.out).mono ?_
      rintro e w1 ⟨rfl, hb1⟩
      rw [hga]
      obtain ⟨g1, g2, g3, g4⟩ := HC.out w1 hb1
      go_wp2_with fail
      refine (great_any S _ b _ (HBB.out.below hb1)).mono ?_
      rintro e w2 ⟨rfl, hb2⟩
      rw [hgb]
      have hB2 := hb1.trans (hb2.mono hb1.size)
      go_wp2_with fail
      refine (awake_any _).mono ?_
      rintro e w3 ⟨rfl, hb3⟩
      have hB3 := hB2.trans (hb3.mono hB2.size)
      go_wp2_with fail
      clear g1 g2 g3 g4 f1 f2 f3 f4 hgb hga hb1 hb2 hb3 hB2
      obtain ⟨f1, f2, f3, f4⟩ := HC.out w3 hB3
      go_cut [9, 10] from 36 (fun s9 s10 wc => ∃ p q, s9 = .pointer (some ⟨p, 0, none⟩) ∧ s10 = .pointer (some ⟨q, 0, none⟩) ∧ w3.heap.size ≤ p ∧ w3.heap.size ≤ q ∧ wc.heap[p]? = some (.cells #[.slice NA a.next.length nc, .slice TA a.tells.length tc] 30 (0, 0)) ∧
        wc.heap[q]? = some (.cells #[.slice NB b.next.length nd, .slice TB b.tells.length td] 30 (0, 0)) ∧ Below w3.heap.size w3 wc)
      case first =>
        have hz3 : w.heap.size + 1 < w3.heap.size := by have := block_lt_of_cell f3; have := hB3.size; omega
        have hz30 := hB3.size
        go_region_held3 (fun Y => Y.cell? ⟨w.heap.size, 0, none⟩ = some (.slice NA a.next.length nc) ∧ Y.cell? ⟨w.heap.size, 1, none⟩ = some (.slice TA a.tells.length tc) ∧ Y.cell? ⟨w.heap.size + 1, 0, none⟩ = some (.slice NB b.next.length nd) ∧ Y.cell? ⟨w.heap.size + 1, 1, none⟩ = some (.slice TB b.tells.length td)) (first | exact HC.out _ (by (repeat' (first | exact hB3 | assumption | refine Below.drew ?_ | refine Below.alloc ?_ ?_ _ | refine Below.setCell ?_ ?_ _)) <;> (first | omega | (simp <;> omega))))
          ((go_at_call 15; refine (to_exact _ _ _ _ _ _ _).mono ?_; rintro e w4 ⟨rfl, rfl⟩))
        all_goals
          go_wp2_with fail
          go_meet
          refine ⟨_, _, rfl, rfl, by first | omega | (simp <;> omega), by first | omega | (simp <;> omega), ?_, ?_, ?_⟩
          · rw [heap_drew]; simp only [heap_alloc_if, World.size_alloc, if_true]; repeat (first | rw [if_pos (by omega)] | rw [if_neg (by omega)])
          · rw [heap_drew]; simp only [heap_alloc_if, World.size_alloc, if_true]; repeat (first | rw [if_pos (by omega)] | rw [if_neg (by omega)])
          · (repeat' (first | exact Below.refl _ _ | refine Below.drew ?_ | refine Below.alloc ?_ ?_ _)) <;> (simp <;> omega)
      case rest =>
        obtain ⟨p, q, rfl, rfl, hp, hq, hxp, hxq, hbc⟩ := hcut
        have hBc := hB3.trans (hbc.mono hB3.size)
        have HA' := hid (HA.out.below hBc)
        have HBB' := hid (HBB.out.below hBc)
        have HBc := hid (HB.out.trans (hBc.mono HB.out.size))
        have hpl : p < wc.heap.size := (Array.getElem?_eq_some_iff.1 hxp).1
        have hql : q < wc.heap.size := (Array.getElem?_eq_some_iff.1 hxq).1
        have HX := hid (show ∀ Y, Below wc.heap.size wc Y → Y.cell? ⟨p, 0, none⟩ = some (.slice NA a.next.length nc) ∧ Y.cell? ⟨p, 1, none⟩ = some (.slice TA a.tells.length tc) ∧ Y.cell? ⟨q, 0, none⟩ = some (.slice NB b.next.length nd) ∧ Y.cell? ⟨q, 1, none⟩ = some (.slice TB b.tells.length td) from fun Y hY => by
          obtain ⟨x1, x2, _, _⟩ := slot2 ((hY.block p hpl).trans hxp)
          obtain ⟨x3, x4, _, _⟩ := slot2 ((hY.block q hql).trans hxq)
          exact ⟨x1, x2, x3, x4⟩)
        clear hxp hxq hbc hp hq hBc HB HC HA HBB hB3 f1 f2 f3 f4
        obtain ⟨f1, f2, f3, f4⟩ := HX.out wc (Below.refl _ _)
        cases hra : rightB a with
        | false =>
          go_wp2_with fail
          refine (right_any S _ a _ HA'.out).mono ?_
          rintro e w4 ⟨rfl, hb4⟩
          rw [hra]
          go_wp2_with fail
          go_ret
          exact ⟨rfl, HBc.out.trans (hb4.mono HBc.out.size)⟩
        | true =>
          cases hrb : rightB b with
          | false =>
            go_wp2_with fail
            refine (right_any S _ a _ HA'.out).mono ?_
            rintro e w4 ⟨rfl, hb4⟩
            rw [hra]
            obtain ⟨g1, g2, g3, g4⟩ := HX.out w4 hb4
            go_wp2_with fail
            refine (right_any S _ b _ (HBB'.out.below hb4)).mono ?_
            rintro e w5 ⟨rfl, hb5⟩
            rw [hrb]
            go_wp2_with fail
            go_ret
            exact ⟨rfl, HBc.out.trans ((hb4.trans (hb5.mono hb4.size)).mono HBc.out.size)⟩
          | true =>
            go_wp2_with fail
            refine (right_any S _ a _ HA'.out).mono ?_
            rintro e w4 ⟨rfl, hb4⟩
            rw [hra]
            obtain ⟨g1, g2, g3, g4⟩ := HX.out w4 hb4
            go_wp2_with fail
            refine (right_any S _ b _ (HBB'.out.below hb4)).mono ?_
            rintro e w5 ⟨rfl, hb5⟩
            rw [hrb]
            have hb45 := hb4.trans (hb5.mono hb4.size)
            have HRA := hid hra
            have HRB := hid hrb
            clear f1 f2 f3 f4 g1 g2 g3 g4 hra hrb
            obtain ⟨f1, f2, f3, f4⟩ := HX.out w5 hb45
            go_wp2_with fail
            have hgd : goodD [a, b] = [a, b] := by simp [goodD, HRA.out, HRB.out]
            have HMA := hid (show a ∈ goodD [a, b] by rw [hgd]; simp)
            have HMB := hid (show b ∈ goodD [a, b] by rw [hgd]; simp)
            clear hgd
            obtain ⟨V, hV⟩ : ∃ V, V = w5.alloc (.cells #[.slice NA a.next.length nc, .slice TA a.tells.length tc, .slice NB b.next.length nd, .slice TB b.tells.length td] 30) := ⟨_, rfl⟩
            have hVb : Below w5.heap.size w5 V := by rw [hV]; exact (Below.refl _ _).alloc (Nat.le_refl _) _
            have hVc := hb45.trans (hVb.mono hb45.size)
            have hV4 : V.heap[w5.heap.size]? = some (.cells #[.slice NA a.next.length nc, .slice TA a.tells.length tc, .slice NB b.next.length nd, .slice TB b.tells.length td] 30 (0, 0)) := by rw [hV]; exact heap_alloc_new _ _
            rw [← hV]
            clear hV
            refine (groups_pair (fun _ => True) _ 30 _ _ _ _ a b _ hV4 trivial ((HA'.out.below hVc).mono (fun _ _ _ => trivial)) ((HBB'.out.below hVc).mono (fun _ _ _ => trivial))).mono ?_
            rintro e w6 ⟨gA, gc, rfl, hown6, hb6⟩
            have hc6 := hVc.trans (hb6.mono hVc.size)
            have HG := hid ((own_nums hown6).mono (S' := fun _ => True) (fun _ _ _ => trivial))
            clear hown6 hV4 f1 f2 f3 f4 hVb hVc hb45 hb4 hb5 hb6
            obtain ⟨f1, f2, f3, f4⟩ := HX.out w6 hc6
            go_wp2_with fail
            refine (make_back _ S _ _ [a, b] a _ HG.out (HA'.out.below hc6) HMA.out).mono ?_
            rintro e w7 ⟨gA7, gc7, nA7, nc7, tA7, tc7, rfl, G7, D7, hb7⟩
            obtain ⟨V7, hV7⟩ : ∃ V, V = w7.alloc (.cells #[.slice gA7 37 gc7, .slice nA7 a.next.length nc7, .slice tA7 a.tells.length tc7] 40) := ⟨_, rfl⟩
            have hV7b : Below w7.heap.size w7 V7 := by rw [hV7]; exact (Below.refl _ _).alloc (Nat.le_refl _) _
            have h67 := hb7.trans (hV7b.mono hb7.size)
            have hc7 := hc6.trans (h67.mono hc6.size)
            have HX7 := hid (box3 w7 hV7)
            have HG7 := hid (G7.below hV7b)
            have HD7 := hid (D7.below hV7b)
            clear G7 D7 f1 f2 f3 f4
            obtain ⟨f1, f2, f3, f4⟩ := HX.out V7 hc7
            have hl1 := f3
            have hl2 := f4
            rw [hV7] at hl1 hl2
            go_wp2_with fail
            rw [← hV7]
            clear hV7 hl1 hl2
            refine (make_back _ S _ _ [a, b] b _ (HG.out.below h67) (HBB'.out.below hc7) HMB.out).mono ?_
            rintro e w8 ⟨gA8, gc8, nA8, nc8, tA8, tc8, rfl, G8, D8, hb8⟩
            obtain ⟨V8, hV8⟩ : ∃ V, V = w8.alloc (.cells #[.slice gA8 37 gc8, .slice nA8 b.next.length nc8, .slice tA8 b.tells.length tc8] 40) := ⟨_, rfl⟩
            have hV8b : Below w8.heap.size w8 V8 := by rw [hV8]; exact (Below.refl _ _).alloc (Nat.le_refl _) _
            have h78 := hb8.trans (hV8b.mono hb8.size)
            have hc8 := hc7.trans (h78.mono hc7.size)
            have HX8 := hid (box3 w8 hV8)
            have HG8 := hid (G8.below hV8b)
            have HD8 := hid (D8.below hV8b)
            clear G8 D8 f1 f2 f3 f4
            obtain ⟨l1, l2, l3⟩ := HX7.out V8 h78
            rw [hV8] at l1 l2 l3
            go_wp2_with fail
            rw [← hV8]
            clear hV8 l1 l2 l3
            refine (wide_back _ _ _ _ _ _ _ [a, b] a _ (HG7.out.below h78) (HD7.out.below h78) HMA.out).mono ?_
            rintro e w9 ⟨nA9, nc9, tA9, tc9, rfl, D9, hb9⟩
            obtain ⟨V9, hV9⟩ : ∃ V, V = w9.alloc (.cells #[.slice nA9 a.next.length nc9, .slice tA9 a.tells.length tc9] 30) := ⟨_, rfl⟩
            have hV9b : Below w9.heap.size w9 V9 := by rw [hV9]; exact (Below.refl _ _).alloc (Nat.le_refl _) _
            have h89 := hb9.trans (hV9b.mono hb9.size)
            have hc9 := hc8.trans (h89.mono hc8.size)
            have HX9 := hid (box2 w9 hV9)
            have HD9 := hid (D9.below hV9b)
            clear D9
            obtain ⟨l1, l2, l3⟩ := HX8.out V9 h89
            rw [hV9] at l1 l2 l3
            go_wp2_with fail
            rw [← hV9]
            clear hV9 l1 l2 l3
            refine (wide_back _ _ _ _ _ _ _ [a, b] b _ (HG8.out.below h89) (HD8.out.below h89) HMB.out).mono ?_
            rintro e w10 ⟨nA10, nc10, tA10, tc10, rfl, D10, hb10⟩
            obtain ⟨V10, hV10⟩ : ∃ V, V = w10.alloc (.cells #[.slice nA10 b.next.length nc10, .slice tA10 b.tells.length tc10] 30) := ⟨_, rfl⟩
            have hV10b : Below w10.heap.size w10 V10 := by rw [hV10]; exact (Below.refl _ _).alloc (Nat.le_refl _) _
            have h910 := hb10.trans (hV10b.mono hb10.size)
            have hc10 := hc9.trans (h910.mono hc9.size)
            have HX10 := hid (box2 w10 hV10)
            have HD10 := hid (D10.below hV10b)
            clear D10
            obtain ⟨l1, l2⟩ := HX9.out V10 h910
            obtain ⟨l3, l4, _, _⟩ := HX.out V10 hc10
            rw [hV10] at l1 l2 l3 l4
            go_wp2_with fail
            rw [← hV10]
            clear hV10 l1 l2 l3 l4
            refine (same_any _ S _ _ a a _ (HD9.out.below h910) (HA'.out.below hc10)).mono ?_
            rintro e w11 ⟨rfl, hb11⟩
            rw [sameD_self']
            obtain ⟨l1, l2⟩ := HX10.out w11 hb11
            have hc11 := hc10.trans (hb11.mono hc10.size)
            obtain ⟨_, _, l3, l4⟩ := HX.out w11 hc11
            go_wp2_with fail
            refine (same_any _ S _ _ b b _ (HD10.out.below hb11) (HBB'.out.below hc11)).mono ?_
            rintro e w12 ⟨rfl, hb12⟩
            rw [sameD_self']
            have hc12 := hc11.trans (hb12.mono hc11.size)
            have h612 := h67.trans ((h78.trans ((h89.trans ((h910.trans ((hb11.trans (hb12.mono hb11.size)).mono h910.size)).mono h89.size)).mono h78.size)).mono h67.size)
            have HG12 := hid (HG.out.below h612)
            obtain ⟨f1, f2, f3, f4⟩ := HX.out w12 hc12
            clear l1 l2 l3 l4 HX7 HX8 HX9 HX10 HG7 HG8 HD7 HD8 HD9 HD10 HG hb7 hb8 hb9 hb10 hb11 hb12 hV7b hV8b hV9b hV10b h67 h78 h89 h910 hc6 hc7 hc8 hc9 hc10 hc11 h612
            go_wp2_with fail
            obtain ⟨i, hi, ei⟩ := mod37 mi
            obtain ⟨j, hj, ej⟩ := mod37 ki
            rw [ei, ej]
            have HI := hid hi
            have HJ := hid hj
            clear ei ej f1 f2 f3 f4
            have hna := (right_rows HRA.out).1
            have hnb := (right_rows HRB.out).1
            obtain ⟨Z, hZ⟩ : ∃ Z : World, Z = w12 := ⟨_, rfl⟩
            rw [← hZ] at hc12 HG12 ⊢
            clear hZ
            go_loopw [22, 23] (fun s22 s23 wr => ∃ s : Nat, s ≤ a.next.length ∧ s23 = .int .i64 s ∧ s22 = .bool (sameRows (a.next.take s) i j) ∧ Below Z.heap.size Z wr) (fun _ s23 _ => a.next.length - (intOf s23).toNat)
            case atStart => exact ⟨0, by omega, rfl, rfl, Below.refl _ _⟩
            case round =>
              obtain ⟨s, hs, rfl, rfl, hbz⟩ := hrel
              have hcz := hc12.trans (hbz.mono hc12.size)
              obtain ⟨f1, f2, _, _⟩ := HX.out wr hcz
              by_cases hlt : s < a.next.length
              · have hst := hid (sameRows_succ a.next i j hlt)
                cases hbo : sameRows (a.next.take s) i j with
                | false =>
                  have HBO := hid hbo
                  clear hbo
                  go_wp2_with fail
                  go_quiet (fail)
                  go_wp2_with fail
                  go_roundw
                  case rel => exact ⟨s + 1, by omega, by go_num, by rw [hst.out, HBO.out]; rfl, below_drewN hbz _⟩
                  case measure => simp [intOf]; omega
                | true =>
                  have HBO := hid hbo
                  clear hbo
                  have hxy : ∀ bo2 : Bool, decide (nth (row a.next s) i = nth (row a.next s) j) = bo2 → (nth (row a.next s) i == nth (row a.next s) j) = bo2 := fun bo2 h => by rw [← h]; rfl
                  cases hd : decide (nth (row a.next s) i = nth (row a.next s) j) with
                  | false =>
                    have heb := hxy _ hd
                    have hfin := hid (show sameRows (a.next.take (s + 1)) i j = false by rw [hst.out, hd]; simp)
                    clear hxy hd
                    go_wp2_with fail
                    have hzr := hbz.size
                    have hczz := hcz.size
                    have HBZ := hid hbz
                    go_region_held3 (fun Y => Y.cell? ⟨p, 0, none⟩ = some (.slice NA a.next.length nc) ∧ Y.cell? ⟨p, 1, none⟩ = some (.slice TA a.tells.length tc)) (first | (exact ⟨(HX.out _ (by (repeat' (first | exact Below.refl _ _ | assumption | refine Below.drew ?_ | refine Below.alloc ?_ ?_ _)) <;> (first | omega | (simp <;> omega)))).1, (HX.out _ (by (repeat' (first | exact Below.refl _ _ | assumption | refine Below.drew ?_ | refine Below.alloc ?_ ?_ _)) <;> (first | omega | (simp <;> omega)))).2.1⟩))
                      (first
                        | (go_at_call 36; refine (run_blk S NA TA nc tc a s i _ 3 _ (HA'.out.below (by (repeat' (first | exact Below.refl _ _ | assumption | refine Below.drew ?_ | refine Below.alloc ?_ ?_ _)) <;> (first | omega | (simp <;> omega)))) (by first | exact heap_alloc_new _ _ | exact heap_alloc2_new _ _ _ | exact heap_alloc2_old _ _ _) HRA.out hlt HI.out).mono ?_; rintro e w20 ⟨rfl, hb20⟩; have hq20 := below_step (show Below wc.heap.size wc _ by (repeat' (first | exact Below.refl _ _ | assumption | refine Below.drew ?_ | refine Below.alloc ?_ ?_ _)) <;> (first | omega | (simp <;> omega))) hb20; have hy20 := below_step (show Below Z.heap.size Z _ by (repeat' (first | exact Below.refl _ _ | assumption | refine Below.drew ?_ | refine Below.alloc ?_ ?_ _)) <;> (first | omega | (simp <;> omega))) hb20; have hyz := hy20.size; have hqz := hq20.size; have hz20 := hb20.size; simp at hz20)
                        | (go_at_call 36; refine (run_blk S NA TA nc tc a s j _ 3 _ (HA'.out.below (by (repeat' (first | exact Below.refl _ _ | assumption | refine Below.drew ?_ | refine Below.alloc ?_ ?_ _)) <;> (first | omega | (simp <;> omega)))) (by first | exact heap_alloc_new _ _ | exact heap_alloc2_new _ _ _ | exact (hb20.block _ (by simp <;> omega)).trans (heap_alloc2_new _ _ _) | exact (hb20.block _ (by simp <;> omega)).trans (heap_alloc2_old _ _ _)) HRA.out hlt HJ.out).mono ?_; rintro e w21 ⟨rfl, hb21⟩; have hq21 := below_step (show Below wc.heap.size wc _ by (repeat' (first | exact Below.refl _ _ | assumption | refine Below.drew ?_ | refine Below.alloc ?_ ?_ _)) <;> (first | omega | (simp <;> omega))) hb21; have hqz21 := hq21.size; have hy21 := below_step (show Below Z.heap.size Z _ by (repeat' (first | exact Below.refl _ _ | assumption | refine Below.drew ?_ | refine Below.alloc ?_ ?_ _)) <;> (first | omega | (simp <;> omega))) hb21))
                    all_goals
                      go_wp2_with fail
                      go_roundw
                      case rel =>
                        exact ⟨s + 1, by omega, by go_num, by rw [hfin.out], hy21⟩
                      case measure => simp [intOf]; omega
                  | true =>
                    have heb := hxy _ hd
                    have hfin := hid (show sameRows (a.next.take (s + 1)) i j = true by rw [hst.out, hd, HBO.out]; rfl)
                    clear hxy hd
                    go_wp2_with fail
                    have hzr := hbz.size
                    have hczz := hcz.size
                    have HBZ := hid hbz
                    go_region_held3 (fun Y => Y.cell? ⟨p, 0, none⟩ = some (.slice NA a.next.length nc) ∧ Y.cell? ⟨p, 1, none⟩ = some (.slice TA a.tells.length tc)) (first | (exact ⟨(HX.out _ (by (repeat' (first | exact Below.refl _ _ | assumption | refine Below.drew ?_ | refine Below.alloc ?_ ?_ _)) <;> (first | omega | (simp <;> omega)))).1, (HX.out _ (by (repeat' (first | exact Below.refl _ _ | assumption | refine Below.drew ?_ | refine Below.alloc ?_ ?_ _)) <;> (first | omega | (simp <;> omega)))).2.1⟩))
                      (first
                        | (go_at_call 36; refine (run_blk S NA TA nc tc a s i _ 3 _ (HA'.out.below (by (repeat' (first | exact Below.refl _ _ | assumption | refine Below.drew ?_ | refine Below.alloc ?_ ?_ _)) <;> (first | omega | (simp <;> omega)))) (by first | exact heap_alloc_new _ _ | exact heap_alloc2_new _ _ _ | exact heap_alloc2_old _ _ _) HRA.out hlt HI.out).mono ?_; rintro e w20 ⟨rfl, hb20⟩; have hq20 := below_step (show Below wc.heap.size wc _ by (repeat' (first | exact Below.refl _ _ | assumption | refine Below.drew ?_ | refine Below.alloc ?_ ?_ _)) <;> (first | omega | (simp <;> omega))) hb20; have hy20 := below_step (show Below Z.heap.size Z _ by (repeat' (first | exact Below.refl _ _ | assumption | refine Below.drew ?_ | refine Below.alloc ?_ ?_ _)) <;> (first | omega | (simp <;> omega))) hb20; have hyz := hy20.size; have hqz := hq20.size; have hz20 := hb20.size; simp at hz20)
                        | (go_at_call 36; refine (run_blk S NA TA nc tc a s j _ 3 _ (HA'.out.below (by (repeat' (first | exact Below.refl _ _ | assumption | refine Below.drew ?_ | refine Below.alloc ?_ ?_ _)) <;> (first | omega | (simp <;> omega)))) (by first | exact heap_alloc_new _ _ | exact heap_alloc2_new _ _ _ | exact (hb20.block _ (by simp <;> omega)).trans (heap_alloc2_new _ _ _) | exact (hb20.block _ (by simp <;> omega)).trans (heap_alloc2_old _ _ _)) HRA.out hlt HJ.out).mono ?_; rintro e w21 ⟨rfl, hb21⟩; have hq21 := below_step (show Below wc.heap.size wc _ by (repeat' (first | exact Below.refl _ _ | assumption | refine Below.drew ?_ | refine Below.alloc ?_ ?_ _)) <;> (first | omega | (simp <;> omega))) hb21; have hqz21 := hq21.size; have hy21 := below_step (show Below Z.heap.size Z _ by (repeat' (first | exact Below.refl _ _ | assumption | refine Below.drew ?_ | refine Below.alloc ?_ ?_ _)) <;> (first | omega | (simp <;> omega))) hb21))
                    all_goals
                      go_wp2_with fail
                      go_roundw
                      case rel =>
                        exact ⟨s + 1, by omega, by go_num, by rw [hfin.out], hy21⟩
                      case measure => simp [intOf]; omega
              · obtain rfl : s = a.next.length := by omega
                rw [List.take_length]
                have HZ12 := hid hbz
                go_wp2_with fail
                obtain ⟨Z1, hZ1⟩ : ∃ Z1 : World, Z1 = wr := ⟨_, rfl⟩
                rw [← hZ1] at hbz ⊢
                clear f1 f2 hZ1 hcz
                go_loopw [22, 24] (fun s22 s24 wr => ∃ s : Nat, s ≤ b.next.length ∧ s24 = .int .i64 s ∧ s22 = .bool (sameRows a.next i j && sameRows (b.next.take s) i j) ∧ Below Z.heap.size Z wr) (fun _ s24 _ => b.next.length - (intOf s24).toNat)
                case atStart => exact ⟨0, by omega, rfl, by simp [sameRows], hbz⟩
                case round =>
                  obtain ⟨s, hs, rfl, rfl, hbz⟩ := hrel
                  have hcz := hc12.trans (hbz.mono hc12.size)
                  obtain ⟨_, _, f1, f2⟩ := HX.out wr hcz
                  by_cases hlt : s < b.next.length
                  · have hst := hid (sameRows_succ b.next i j hlt)
                    cases hbo : (sameRows a.next i j && sameRows (b.next.take s) i j) with
                    | false =>
                      have HBO := hid hbo
                      clear hbo
                      go_wp2_with fail
                      go_quiet (fail)
                      go_wp2_with fail
                      go_roundw
                      case rel => exact ⟨s + 1, by omega, by go_num, by rw [hst.out, ← Bool.and_assoc, HBO.out]; rfl, below_drewN hbz _⟩
                      case measure => simp [intOf]; omega
                    | true =>
                      have HBO := hid hbo
                      clear hbo
                      have hxy : ∀ bo2 : Bool, decide (nth (row b.next s) i = nth (row b.next s) j) = bo2 → (nth (row b.next s) i == nth (row b.next s) j) = bo2 := fun bo2 h => by rw [← h]; rfl
                      cases hd : decide (nth (row b.next s) i = nth (row b.next s) j) with
                      | false =>
                        have heb := hxy _ hd
                        have hfin := hid (show (sameRows a.next i j && sameRows (b.next.take (s + 1)) i j) = false by rw [hst.out, hd]; simp)
                        clear hxy hd
                        go_wp2_with fail
                        have hzr := hbz.size
                        have hczz := hcz.size
                        have HBZ := hid hbz
                        go_region_held3 (fun Y => Y.cell? ⟨q, 0, none⟩ = some (.slice NB b.next.length nd) ∧ Y.cell? ⟨q, 1, none⟩ = some (.slice TB b.tells.length td)) (first | (exact ⟨(HX.out _ (by (repeat' (first | exact Below.refl _ _ | assumption | refine Below.drew ?_ | refine Below.alloc ?_ ?_ _)) <;> (first | omega | (simp <;> omega)))).2.2.1, (HX.out _ (by (repeat' (first | exact Below.refl _ _ | assumption | refine Below.drew ?_ | refine Below.alloc ?_ ?_ _)) <;> (first | omega | (simp <;> omega)))).2.2.2⟩))
                          (first
                            | (go_at_call 36; refine (run_blk S NB TB nd td b s i _ 3 _ (HBB'.out.below (by (repeat' (first | exact Below.refl _ _ | assumption | refine Below.drew ?_ | refine Below.alloc ?_ ?_ _)) <;> (first | omega | (simp <;> omega)))) (by first | exact heap_alloc_new _ _ | exact heap_alloc2_new _ _ _ | exact heap_alloc2_old _ _ _) HRB.out hlt HI.out).mono ?_; rintro e w20 ⟨rfl, hb20⟩; have hq20 := below_step (show Below wc.heap.size wc _ by (repeat' (first | exact Below.refl _ _ | assumption | refine Below.drew ?_ | refine Below.alloc ?_ ?_ _)) <;> (first | omega | (simp <;> omega))) hb20; have hy20 := below_step (show Below Z.heap.size Z _ by (repeat' (first | exact Below.refl _ _ | assumption | refine Below.drew ?_ | refine Below.alloc ?_ ?_ _)) <;> (first | omega | (simp <;> omega))) hb20; have hyz := hy20.size; have hqz := hq20.size; have hz20 := hb20.size; simp at hz20)
                            | (go_at_call 36; refine (run_blk S NB TB nd td b s j _ 3 _ (HBB'.out.below (by (repeat' (first | exact Below.refl _ _ | assumption | refine Below.drew ?_ | refine Below.alloc ?_ ?_ _)) <;> (first | omega | (simp <;> omega)))) (by first | exact heap_alloc_new _ _ | exact heap_alloc2_new _ _ _ | exact (hb20.block _ (by simp <;> omega)).trans (heap_alloc2_new _ _ _) | exact (hb20.block _ (by simp <;> omega)).trans (heap_alloc2_old _ _ _)) HRB.out hlt HJ.out).mono ?_; rintro e w21 ⟨rfl, hb21⟩; have hq21 := below_step (show Below wc.heap.size wc _ by (repeat' (first | exact Below.refl _ _ | assumption | refine Below.drew ?_ | refine Below.alloc ?_ ?_ _)) <;> (first | omega | (simp <;> omega))) hb21; have hqz21 := hq21.size; have hy21 := below_step (show Below Z.heap.size Z _ by (repeat' (first | exact Below.refl _ _ | assumption | refine Below.drew ?_ | refine Below.alloc ?_ ?_ _)) <;> (first | omega | (simp <;> omega))) hb21))
                        all_goals
                          go_wp2_with fail
                          go_roundw
                          case rel =>
                            exact ⟨s + 1, by omega, by go_num, by rw [hfin.out], hy21⟩
                          case measure => simp [intOf]; omega
                      | true =>
                        have heb := hxy _ hd
                        have hfin := hid (show (sameRows a.next i j && sameRows (b.next.take (s + 1)) i j) = true by rw [hst.out, ← Bool.and_assoc, HBO.out, hd]; rfl)
                        clear hxy hd
                        go_wp2_with fail
                        have hzr := hbz.size
                        have hczz := hcz.size
                        have HBZ := hid hbz
                        go_region_held3 (fun Y => Y.cell? ⟨q, 0, none⟩ = some (.slice NB b.next.length nd) ∧ Y.cell? ⟨q, 1, none⟩ = some (.slice TB b.tells.length td)) (first | (exact ⟨(HX.out _ (by (repeat' (first | exact Below.refl _ _ | assumption | refine Below.drew ?_ | refine Below.alloc ?_ ?_ _)) <;> (first | omega | (simp <;> omega)))).2.2.1, (HX.out _ (by (repeat' (first | exact Below.refl _ _ | assumption | refine Below.drew ?_ | refine Below.alloc ?_ ?_ _)) <;> (first | omega | (simp <;> omega)))).2.2.2⟩))
                          (first
                            | (go_at_call 36; refine (run_blk S NB TB nd td b s i _ 3 _ (HBB'.out.below (by (repeat' (first | exact Below.refl _ _ | assumption | refine Below.drew ?_ | refine Below.alloc ?_ ?_ _)) <;> (first | omega | (simp <;> omega)))) (by first | exact heap_alloc_new _ _ | exact heap_alloc2_new _ _ _ | exact heap_alloc2_old _ _ _) HRB.out hlt HI.out).mono ?_; rintro e w20 ⟨rfl, hb20⟩; have hq20 := below_step (show Below wc.heap.size wc _ by (repeat' (first | exact Below.refl _ _ | assumption | refine Below.drew ?_ | refine Below.alloc ?_ ?_ _)) <;> (first | omega | (simp <;> omega))) hb20; have hy20 := below_step (show Below Z.heap.size Z _ by (repeat' (first | exact Below.refl _ _ | assumption | refine Below.drew ?_ | refine Below.alloc ?_ ?_ _)) <;> (first | omega | (simp <;> omega))) hb20; have hyz := hy20.size; have hqz := hq20.size; have hz20 := hb20.size; simp at hz20)
                            | (go_at_call 36; refine (run_blk S NB TB nd td b s j _ 3 _ (HBB'.out.below (by (repeat' (first | exact Below.refl _ _ | assumption | refine Below.drew ?_ | refine Below.alloc ?_ ?_ _)) <;> (first | omega | (simp <;> omega)))) (by first | exact heap_alloc_new _ _ | exact heap_alloc2_new _ _ _ | exact (hb20.block _ (by simp <;> omega)).trans (heap_alloc2_new _ _ _) | exact (hb20.block _ (by simp <;> omega)).trans (heap_alloc2_old _ _ _)) HRB.out hlt HJ.out).mono ?_; rintro e w21 ⟨rfl, hb21⟩; have hq21 := below_step (show Below wc.heap.size wc _ by (repeat' (first | exact Below.refl _ _ | assumption | refine Below.drew ?_ | refine Below.alloc ?_ ?_ _)) <;> (first | omega | (simp <;> omega))) hb21; have hqz21 := hq21.size; have hy21 := below_step (show Below Z.heap.size Z _ by (repeat' (first | exact Below.refl _ _ | assumption | refine Below.drew ?_ | refine Below.alloc ?_ ?_ _)) <;> (first | omega | (simp <;> omega))) hb21))
                        all_goals
                          go_wp2_with fail
                          go_roundw
                          case rel =>
                            exact ⟨s + 1, by omega, by go_num, by rw [hfin.out], hy21⟩
                          case measure => simp [intOf]; omega
                  · obtain rfl : s = b.next.length := by omega
                    rw [List.take_length]
                    obtain ⟨gb, go, gc', e0, _, hgb, hc1⟩ := (HG12.out.below hbz).at (j := i) (by rw [groupsL_len]; exact HI.out)
                    rw [groupsL_len] at e0
                    obtain ⟨rfl, rfl⟩ : gA = some ⟨gb, go, none⟩ ∧ gc = gc' := by simpa using e0
                    obtain ⟨gb', go', gc'', e1, _, _, hc2⟩ := (HG12.out.below hbz).at (j := j) (by rw [groupsL_len]; exact HJ.out)
                    rw [groupsL_len] at e1
                    obtain ⟨⟨rfl, rfl⟩, rfl⟩ : (gb = gb' ∧ go = go') ∧ gc = gc'' := by simpa using e1
                    have hfin := hid (groups_two HRA.out HRB.out HI.out HJ.out)
                    have hi1 : (i : Int) < 37 := by have := HI.out; omega
                    have hj1 : (j : Int) < 37 := by have := HJ.out; omega
                    clear e0 e1
                    go_wp2_with fail
                    go_quiet (fail)
                    go_wp2_with fail
                    go_ret
                    have hb9 := HBc.out.trans (hcz.mono HBc.out.size)
                    exact ⟨ret_bool (by show (decide (nth (groupsL [a, b]) i = nth (groupsL [a, b]) j) == _) = true; rw [hfin.out]; simp), below_drewN hb9 _⟩
end Go.Proofs.Ytmdkmobcglnmgaa
