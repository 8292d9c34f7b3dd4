/- The document's Breaks: the walk; it says what the program's answer says. Condition: at most 900 places. -/
import Derived.Test.YtjcdcmeclnihbaaWk
import Derived.Test.YtjcdcmeclnihbaaHi
namespace Go.Proofs.Ytjcdcmeclnihbaa
open Go.RowKit
set_option linter.unusedSimpArgs false
theorem own_boolsB {w : World} {base e n : Nat} {v : Value} {zs : List Bool} (h : w.ownsRow base e 1 v n (zs.map .bool)) : IsBools w (fun b => base ≤ b ∧ v.ownBlock = some b) v zs := by
  obtain ⟨A, c, rfl, h1, h2, h3⟩ := own_arr h
  have hl : zs.length = n := by simpa using h.1
  subst hl
  exact ⟨A, c, rfl, h1, h2, h3⟩
theorem one_bools (zs : List Bool) : ∀ u ∈ zs.map Value.bool, u.oneCell' = true := by
  intro u hu
  obtain ⟨z, _, rfl⟩ := List.mem_map.1 hu
  rfl
def rbrAt {d : Nat} (rs : List (Rl d)) (z : Int) : Bool := decide (z = -1) || (decide (0 ≤ z) && ruleBr rs z)
def rbrTo {d : Nat} (rs : List (Rl d)) (l : List Int) (hide : List Bool) (k : Nat) : List Bool := (List.range k).map fun i => if i = 0 then true else rbrAt rs (rAt rs l hide i)
def rbrL {d : Nat} (rs : List (Rl d)) (l : List Int) (hide : List Bool) (n : Nat) : List Bool := if n = 0 then [true] else rbrTo rs l hide n ++ [true]
theorem rbrTo_put {d : Nat} {rs : List (Rl d)} {l : List Int} {hide : List Bool} {k : Nat} (hk : 1 ≤ k) : rbrTo rs l hide (k + 1) = rbrTo rs l hide k ++ [rbrAt rs (rAt rs l hide k)] := by
  unfold rbrTo
  rw [List.range_succ, List.map_append, List.map_singleton, if_neg (by omega)]
theorem rAt_bd {d : Nat} (rs : List (Rl d)) (l : List Int) (hide : List Bool) (i : Nat) : rAt rs l hide i = -2 ∨ rAt rs l hide i = -1 ∨ ∃ j : Nat, rAt rs l hide i = (j : Int) ∧ j < rs.length := by
  unfold rAt
  split
  · exact .inl rfl
  · rcases idx_bd (fun r => aheadB r.L (wayOf l hide) (posOf l hide i) && behindB r.R (wayOf l hide) (posOf l hide i)) rs 0 with h | ⟨j, h, _, h2⟩
    · exact .inr (.inl h)
    · exact .inr (.inr ⟨j, h, by omega⟩)
theorem rbr_is {d : Nat} (t : Tx d) (l : List Int) (hide : List Bool) : rbrL (knownT t).rs l hide l.length = brL (knownT t).rs l hide := by
  unfold rbrL brL
  by_cases h0 : l.length = 0
  · rw [if_pos h0, h0]
    simp [brAt]
  · rw [if_neg h0, List.range_succ, List.map_append, List.map_singleton]
    congr 1
    · unfold rbrTo
      refine List.map_congr_left fun i hi => ?_
      have hi' := List.mem_range.1 hi
      by_cases e : i = 0
      · subst e; simp [brAt]
      · rw [if_neg e]
        unfold brAt
        rw [if_neg (by omega)]
        cases hb : nthB hide i with
        | true =>
          have : rAt (knownT t).rs l hide i = -2 := by unfold rAt; rw [if_pos hb]
          rw [this]; rfl
        | false =>
          rw [if_neg (by simp), ← rAt_is t (by omega) hb]
          unfold rbrAt
          rcases rAt_bd (knownT t).rs l hide i with h | h | ⟨j, h, hj⟩
          · unfold rAt at h
            rw [if_neg (by rw [hb]; simp)] at h
            rcases idx_bd (fun r => aheadB r.L (wayOf l hide) (posOf l hide i) && behindB r.R (wayOf l hide) (posOf l hide i)) (knownT t).rs 0 with h' | ⟨j, h', _, _⟩
            · rw [h'] at h; omega
            · rw [h'] at h; omega
          · rw [h]; rfl
          · rw [h, decide_eq_false (by omega), decide_eq_true (p := (0 : Int) ≤ j) (by omega), decide_eq_false (p := (j : Int) < 0) (by omega)]
            simp
    · simp [brAt]
set_option maxRecDepth 100000 in
set_option maxHeartbeats 4000000 in
theorem rbreaks_any (d : Nat) (v lv : Value) (t : Tx d) (ids : List Int) (w : World) (h : IsTx w Any d v t) (hl : IsNums .i64 w Any lv ids) (hn : ids.length ≤ 900) :
    Calls Try.prog 16 #[v, lv] w fun e w' => ∃ v', e = .returned v' ∧ IsBools w' (fun b => w.heap.size ≤ b) v' (rbrL t.rs (ids.map classOf) (hidL t.ig t.kp (ids.map classOf)) ids.length) ∧ Below w.heap.size w w' := by
  have HT0 := hid h
  obtain ⟨I, ic, K, kc, A, c, rfl, -, -, lI, lK, lA, hR⟩ := h.open
  have HLA := hid lA
  clear h lI lK lA
  obtain ⟨M, cm, rfl⟩ := hl.form
  have HMw := hid hl
  obtain ⟨hide, hhd⟩ : ∃ hide, hide = hidL t.ig t.kp (ids.map classOf) := ⟨_, rfl⟩
  have HHD := hid hhd
  rw [← hhd]
  obtain ⟨l, hll⟩ : ∃ l, l = ids.map classOf := ⟨_, rfl⟩
  have HLL := hid hll
  rw [← hll]
  obtain ⟨n, hnn⟩ : ∃ n, n = ids.length := ⟨_, rfl⟩
  have HNN := hid hnn
  rw [← hnn] at hn ⊢
  obtain ⟨rs, hrs⟩ : ∃ rs, rs = t.rs := ⟨_, rfl⟩
  have HRS := hid hrs
  rw [← hrs] at hR
  have HRw := hid hR
  obtain ⟨a, ha⟩ : ∃ a, a = t.ig.length := ⟨_, rfl⟩
  obtain ⟨b, hb⟩ : ∃ b, b = t.kp.length := ⟨_, rfl⟩
  obtain ⟨r, hr⟩ : ∃ r, r = t.rs.length := ⟨_, rfl⟩
  have HRE := hid (show r = rs.length by rw [hr, hrs])
  have hr9 : r ≤ 9223372036854775807 := by rw [hr]; exact HLA.out
  have HT := hid (show IsTx w Any d (.agg #[.slice I a ic, .slice K b kc, .slice A r c]) t by rw [ha, hb, hr]; exact HT0.out)
  rw [← ha, ← hb, ← hr, ← hrs]
  obtain ⟨W, hW0⟩ : ∃ W, W = w.alloc (.cells #[.slice I a ic, .slice K b kc, .slice A r c] 25) := ⟨_, rfl⟩
  have HBW := hid (show Below w.heap.size w W by rw [hW0]; exact (Below.refl _ _).alloc (Nat.le_refl _) _)
  have HXW := hid (show W.heap[w.heap.size]? = some (.cells #[.slice I a ic, .slice K b kc, .slice A r c] 25 (0, 0)) by rw [hW0]; exact heap_alloc_new _ _)
  have HTW := hid (HT.out.below HBW.out)
  have HMW := hid (show IsNums .i64 W Any (.slice M n cm) ids by rw [HNN.out]; exact HMw.out.below HBW.out)
  have HN9 := hid (show ids.length ≤ 900 by rw [← HNN.out]; omega)
  obtain ⟨q, hq⟩ : ∃ q, q = w.heap.size := ⟨_, rfl⟩
  have HQ := hid hq
  clear hl hhd hll hnn hrs ha hb hr hR
  obtain ⟨j0, hj0, hy0, hy1, hy2⟩ := info_parts info4
  go_enter Try.func16, Try.ntmps16
  go_wp2_with fail
  rw [← hW0, ← hq]
  rw [← hq] at HXW
  clear hW0 hq
  refine (rwhich_any d _ _ t ids _ HTW.out HMW.out HN9.out).mono ?_
  rintro e w1 ⟨v1, rfl, hv1, hb1⟩
  have hv1' : IsNums .i64 w1 (fun b => W.heap.size ≤ b) v1 ((List.range n).map (rAt rs l hide)) := by rw [HRS.out, HLL.out, HHD.out, HNN.out]; exact hv1
  obtain ⟨R, hR⟩ : ∃ R, R = (List.range n).map (rAt rs l hide) := ⟨_, rfl⟩
  rw [← hR] at hv1'
  have HRN := hid (show R.length = n by rw [hR]; simp)
  have HRA := hid (show ∀ k, k < n → nth R k = rAt rs l hide k from fun k hk => by rw [hR]; unfold nth; simp [hk])
  have HV1 := hid hv1'
  have HX1 := hid ((hb1.block q (Array.getElem?_eq_some_iff.1 HXW.out).1).trans HXW.out)
  obtain ⟨A1, c1, rfl⟩ := hv1'.form
  rw [HRN.out]
  have HB1 := hid (HBW.out.trans (hb1.mono HBW.out.size))
  obtain ⟨z, hz⟩ : ∃ z, z = w1.heap.size := ⟨_, rfl⟩
  have HZ := hid hz
  have HZ1 := hid (show z ≤ w1.heap.size by omega)
  have HZW := hid (show w.heap.size ≤ z by rw [hz]; exact HB1.out.size)
  obtain ⟨W2, hW2⟩ : ∃ W2, W2 = w1.alloc (.cells #[.bool true] 4) := ⟨_, rfl⟩
  have HO2 := hid (show W2.ownsRow z 4 1 (.slice (some ⟨z, 0, none⟩) 1 1) 1 ((rbrTo rs l hide 1).map .bool) from ⟨rfl, .inr ⟨_, 1, _, rfl, Nat.le_refl _, by rw [hW2, hz]; exact heap_alloc_new _ _, Nat.le_refl _, by unfold maxLen; omega, rfl, rfl⟩⟩)
  have HB2 := hid (show Below z w1 W2 by rw [hW2, hz]; exact (Below.refl _ _).alloc (Nat.le_refl _) _)
  clear hv1 hv1' hb1 hR
  go_wp2_with fail
  rw [← hW2, ← hz]
  clear hW2 hz
  go_loopw [6, 7] (fun s6 s7 wr => ∃ k : Nat, 1 ≤ k ∧ (k ≤ n ∨ k = 1) ∧ s7 = .int .i64 k ∧ Hid (wr.ownsRow z 4 1 s6 k ((rbrTo rs l hide k).map .bool)) ∧ Hid (Below z w1 wr)) (fun _ s7 _ => n - (intOf s7).toNat)
  case atStart => exact ⟨1, by omega, .inr rfl, rfl, HO2, HB2⟩
  case round =>
    obtain ⟨k, hk1, hk, rfl, HO, HWr⟩ := hrel
    by_cases hlt : k < n
    · obtain ⟨b5, o5, cm', hem, -, hb5, hc5⟩ := HV1.out.at (j := k) (by rw [HRN.out]; exact hlt)
      obtain ⟨rfl, -⟩ : A1 = some ⟨b5, o5, none⟩ ∧ True := by simpa using (show A1 = some ⟨b5, o5, none⟩ by injection hem)
      rw [HRA.out k hlt] at hc5
      have HB5 := hid (show b5 < z by rw [HZ.out]; exact hb5)
      have hput := rbrTo_put (rs := rs) (l := l) (hide := hide) (k := k) hk1
      have hbd := rAt_bd rs l hide k
      obtain ⟨y, hy⟩ : ∃ y, y = rAt rs l hide k := ⟨_, rfl⟩
      rw [← hy] at hc5 hput hbd
      have HC5 := hid hc5
      have HP := hid hput
      clear hem hb5 hc5 hy hput
      rcases hbd with rfl | rfl | ⟨j, rfl, hj⟩
      · have HS := hid (show ∀ Y, Below z w1 Y → Y.cell? ⟨b5, o5 + k, none⟩ = some (.int .i64 (-2)) from fun Y hY => (cell_same (hY.block b5 HB5.out)).trans HC5.out)
        have HWX := hid (show Below z w1 (wr.drew.alloc (.cells #[.bool false] 4)) from HWr.out.drew.alloc (Nat.le_trans HZ1.out HWr.out.size) _)
        have HOX := hid (show (wr.drew.alloc (.cells #[.bool false] 4)).ownsRow z 4 1 _ k _ from HO.out.drew.alloc _)
        have HN := hid (show rbrTo rs l hide (k + 1) = rbrTo rs l hide k ++ [false] by rw [HP.out]; rfl)
        go_wp2_with fail
        refine wp_region_held_drew (S := (fun Y => Y.cell? ⟨b5, o5 + k, none⟩ = some (.int .i64 (-2)))) (by kernel_rfl) (by exact (cell_same (HWr.out.block b5 HB5.out)).trans HC5.out) (fun hHeld => ?_)
        refine wpAnyH_take (i := 0) (oi := { dst := some 18, op := Op.move (Operand.tmp 6), type := _, pos := _, after := _, guard := none }) (v := ?_) rfl (by kernel_rfl) (by kernel_rfl) (by kernel_rfl) (fun _ _ _ h => h) (Or.inl ⟨by rfl, ?_⟩) (by assumption) ?_
        rotate_left
        · intro w hSw; (try dsimp only at hSw); go_simp; try with_reducible rfl
        try simp only [Act.put, List.setIfInBounds_toArray, List.set_cons_zero, List.set_cons_succ]
        refine wpAnyH_take (i := 1) (oi := { dst := some 19, op := Op.move (Operand.tmp 5), type := _, pos := _, after := _, guard := none }) (v := ?_) rfl (by kernel_rfl) (by kernel_rfl) (by kernel_rfl) (fun _ _ _ h => h) (Or.inl ⟨by rfl, ?_⟩) (by assumption) ?_
        rotate_left
        · intro w hSw; (try dsimp only at hSw); go_simp; try with_reducible rfl
        try simp only [Act.put, List.setIfInBounds_toArray, List.set_cons_zero, List.set_cons_succ]
        refine wpAnyH_take (i := 2) (oi := { dst := some 20, op := Op.move (Operand.tmp 7), type := _, pos := _, after := _, guard := none }) (v := ?_) rfl (by kernel_rfl) (by kernel_rfl) (by kernel_rfl) (fun _ _ _ h => h) (Or.inl ⟨by rfl, ?_⟩) (by assumption) ?_
        rotate_left
        · intro w hSw; (try dsimp only at hSw); go_simp; try with_reducible rfl
        try simp only [Act.put, List.setIfInBounds_toArray, List.set_cons_zero, List.set_cons_succ]
        refine wpAnyH_take (i := 3) (oi := { dst := some 21, op := Op.indexAddr 22 (Operand.tmp 19) (Operand.tmp 20), type := _, pos := _, after := _, guard := none }) (v := ?_) rfl (by kernel_rfl) (by kernel_rfl) (by kernel_rfl) (fun _ _ _ h => h) (Or.inl ⟨by rfl, ?_⟩) (by assumption) ?_
        rotate_left
        · intro w hSw; (try dsimp only at hSw); go_simp; try with_reducible rfl
        try simp only [Act.put, List.setIfInBounds_toArray, List.set_cons_zero, List.set_cons_succ]
        refine wpAnyH_take (i := 4) (oi := { dst := some 22, op := Op.load 3 (Operand.tmp 21), type := _, pos := _, after := _, guard := none }) (v := ?_) rfl (by kernel_rfl) (by kernel_rfl) (by kernel_rfl) (fun _ _ _ h => h) (Or.inl ⟨by rfl, ?_⟩) (by assumption) ?_
        rotate_left
        · intro w hSw; (try dsimp only at hSw); go_simp; try with_reducible rfl
        try simp only [Act.put, List.setIfInBounds_toArray, List.set_cons_zero, List.set_cons_succ]
        refine wpAnyH_take (i := 5) (oi := { dst := some 23, op := Op.binOp BinOp.eql 3 (Operand.tmp 22) (Operand.const (Value.int IntKind.i64 (-1))) 3, type := _, pos := _, after := _, guard := none }) (v := ?_) rfl (by kernel_rfl) (by kernel_rfl) (by kernel_rfl) (fun _ _ _ h => h) (Or.inl ⟨by rfl, ?_⟩) (by assumption) ?_
        rotate_left
        · intro w hSw; (try dsimp only at hSw); go_simp; try with_reducible rfl
        try simp only [Act.put, List.setIfInBounds_toArray, List.set_cons_zero, List.set_cons_succ]
        refine wpAnyH_take (i := 6) (oi := { dst := some 24, op := Op.move (Operand.tmp 23), type := _, pos := _, after := _, guard := none }) (v := ?_) rfl (by kernel_rfl) (by kernel_rfl) (by kernel_rfl) (fun _ _ _ h => h) (Or.inl ⟨by rfl, ?_⟩) (by assumption) ?_
        rotate_left
        · intro w hSw; (try dsimp only at hSw); go_simp; try with_reducible rfl
        try simp only [Act.put, List.setIfInBounds_toArray, List.set_cons_zero, List.set_cons_succ]
        refine wpAnyH_take (i := 7) (oi := { dst := some 25, op := Op.move (Operand.tmp 5), type := _, pos := _, after := _, guard := some (6, false) }) (v := ?_) rfl (by kernel_rfl) (by kernel_rfl) (by kernel_rfl) (fun _ _ _ h => h) (Or.inl ⟨by rfl, ?_⟩) (by assumption) ?_
        rotate_left
        · intro w hSw; (try dsimp only at hSw); go_simp; try with_reducible rfl
        try simp only [Act.put, List.setIfInBounds_toArray, List.set_cons_zero, List.set_cons_succ]
        refine wpAnyH_take (i := 8) (oi := { dst := some 26, op := Op.move (Operand.tmp 7), type := _, pos := _, after := _, guard := some (6, false) }) (v := ?_) rfl (by kernel_rfl) (by kernel_rfl) (by kernel_rfl) (fun _ _ _ h => h) (Or.inl ⟨by rfl, ?_⟩) (by assumption) ?_
        rotate_left
        · intro w hSw; (try dsimp only at hSw); go_simp; try with_reducible rfl
        try simp only [Act.put, List.setIfInBounds_toArray, List.set_cons_zero, List.set_cons_succ]
        refine wpAnyH_take (i := 9) (oi := { dst := some 27, op := Op.indexAddr 22 (Operand.tmp 25) (Operand.tmp 26), type := _, pos := _, after := _, guard := some (6, false) }) (v := ?_) rfl (by kernel_rfl) (by kernel_rfl) (by kernel_rfl) (fun _ _ _ h => h) (Or.inl ⟨by rfl, ?_⟩) (by assumption) ?_
        rotate_left
        · intro w hSw; (try dsimp only at hSw); go_simp; try with_reducible rfl
        try simp only [Act.put, List.setIfInBounds_toArray, List.set_cons_zero, List.set_cons_succ]
        refine wpAnyH_take (i := 10) (oi := { dst := some 28, op := Op.load 3 (Operand.tmp 27), type := _, pos := _, after := _, guard := some (6, false) }) (v := ?_) rfl (by kernel_rfl) (by kernel_rfl) (by kernel_rfl) (fun _ _ _ h => h) (Or.inl ⟨by rfl, ?_⟩) (by assumption) ?_
        rotate_left
        · intro w hSw; (try dsimp only at hSw); go_simp; try with_reducible rfl
        try simp only [Act.put, List.setIfInBounds_toArray, List.set_cons_zero, List.set_cons_succ]
        refine wpAnyH_take (i := 11) (oi := { dst := some 29, op := Op.binOp BinOp.geq 3 (Operand.tmp 28) (Operand.const (Value.int IntKind.i64 0)) 3, type := _, pos := _, after := _, guard := some (6, false) }) (v := ?_) rfl (by kernel_rfl) (by kernel_rfl) (by kernel_rfl) (fun _ _ _ h => h) (Or.inl ⟨by rfl, ?_⟩) (by assumption) ?_
        rotate_left
        · intro w hSw; (try dsimp only at hSw); go_simp; try with_reducible rfl
        try simp only [Act.put, List.setIfInBounds_toArray, List.set_cons_zero, List.set_cons_succ]
        refine wpAnyH_take (i := 12) (oi := { dst := some 30, op := Op.move (Operand.tmp 29), type := _, pos := _, after := _, guard := some (6, false) }) (v := ?_) rfl (by kernel_rfl) (by kernel_rfl) (by kernel_rfl) (fun _ _ _ h => h) (Or.inl ⟨by rfl, ?_⟩) (by assumption) ?_
        rotate_left
        · intro w hSw; (try dsimp only at hSw); go_simp; try with_reducible rfl
        try simp only [Act.put, List.setIfInBounds_toArray, List.set_cons_zero, List.set_cons_succ]
        refine wpAnyH_take (i := 13) (oi := { dst := some 31, op := Op.fieldAddr 25 (Operand.tmp 2) 2, type := _, pos := _, after := _, guard := some (12, true) }) (v := undef) rfl (by kernel_rfl) (by kernel_rfl) (by kernel_rfl) (fun _ _ _ h => h) (Or.inr ⟨by rfl, rfl⟩) (by assumption) ?_
        try simp only [Act.put, List.setIfInBounds_toArray, List.set_cons_zero, List.set_cons_succ]
        refine wpAnyH_take (i := 14) (oi := { dst := some 32, op := Op.load 23 (Operand.tmp 31), type := _, pos := _, after := _, guard := some (12, true) }) (v := undef) rfl (by kernel_rfl) (by kernel_rfl) (by kernel_rfl) (fun _ _ _ h => h) (Or.inr ⟨by rfl, rfl⟩) (by assumption) ?_
        try simp only [Act.put, List.setIfInBounds_toArray, List.set_cons_zero, List.set_cons_succ]
        refine wpAnyH_take (i := 15) (oi := { dst := some 33, op := Op.move (Operand.tmp 5), type := _, pos := _, after := _, guard := some (12, true) }) (v := undef) rfl (by kernel_rfl) (by kernel_rfl) (by kernel_rfl) (fun _ _ _ h => h) (Or.inr ⟨by rfl, rfl⟩) (by assumption) ?_
        try simp only [Act.put, List.setIfInBounds_toArray, List.set_cons_zero, List.set_cons_succ]
        refine wpAnyH_take (i := 16) (oi := { dst := some 34, op := Op.move (Operand.tmp 7), type := _, pos := _, after := _, guard := some (12, true) }) (v := undef) rfl (by kernel_rfl) (by kernel_rfl) (by kernel_rfl) (fun _ _ _ h => h) (Or.inr ⟨by rfl, rfl⟩) (by assumption) ?_
        try simp only [Act.put, List.setIfInBounds_toArray, List.set_cons_zero, List.set_cons_succ]
        refine wpAnyH_take (i := 17) (oi := { dst := some 35, op := Op.indexAddr 22 (Operand.tmp 33) (Operand.tmp 34), type := _, pos := _, after := _, guard := some (12, true) }) (v := undef) rfl (by kernel_rfl) (by kernel_rfl) (by kernel_rfl) (fun _ _ _ h => h) (Or.inr ⟨by rfl, rfl⟩) (by assumption) ?_
        try simp only [Act.put, List.setIfInBounds_toArray, List.set_cons_zero, List.set_cons_succ]
        refine wpAnyH_take (i := 18) (oi := { dst := some 36, op := Op.load 3 (Operand.tmp 35), type := _, pos := _, after := _, guard := some (12, true) }) (v := undef) rfl (by kernel_rfl) (by kernel_rfl) (by kernel_rfl) (fun _ _ _ h => h) (Or.inr ⟨by rfl, rfl⟩) (by assumption) ?_
        try simp only [Act.put, List.setIfInBounds_toArray, List.set_cons_zero, List.set_cons_succ]
        refine wpAnyH_take (i := 19) (oi := { dst := some 37, op := Op.indexAddr 23 (Operand.tmp 32) (Operand.tmp 36), type := _, pos := _, after := _, guard := some (12, true) }) (v := undef) rfl (by kernel_rfl) (by kernel_rfl) (by kernel_rfl) (fun _ _ _ h => h) (Or.inr ⟨by rfl, rfl⟩) (by assumption) ?_
        try simp only [Act.put, List.setIfInBounds_toArray, List.set_cons_zero, List.set_cons_succ]
        refine wpAnyH_take (i := 20) (oi := { dst := some 38, op := Op.fieldAddr 72 (Operand.tmp 37) 2, type := _, pos := _, after := _, guard := some (12, true) }) (v := undef) rfl (by kernel_rfl) (by kernel_rfl) (by kernel_rfl) (fun _ _ _ h => h) (Or.inr ⟨by rfl, rfl⟩) (by assumption) ?_
        try simp only [Act.put, List.setIfInBounds_toArray, List.set_cons_zero, List.set_cons_succ]
        refine wpAnyH_take (i := 21) (oi := { dst := some 39, op := Op.load 4 (Operand.tmp 38), type := _, pos := _, after := _, guard := some (12, true) }) (v := undef) rfl (by kernel_rfl) (by kernel_rfl) (by kernel_rfl) (fun _ _ _ h => h) (Or.inr ⟨by rfl, rfl⟩) (by assumption) ?_
        try simp only [Act.put, List.setIfInBounds_toArray, List.set_cons_zero, List.set_cons_succ]
        refine wpAnyH_take (i := 22) (oi := { dst := some 40, op := Op.pick (Operand.tmp 30) (Operand.tmp 39) (Operand.const (Value.bool false)), type := _, pos := _, after := _, guard := some (6, false) }) (v := ?_) rfl (by kernel_rfl) (by kernel_rfl) (by kernel_rfl) (fun _ _ _ h => h) (Or.inl ⟨by rfl, ?_⟩) (by assumption) ?_
        rotate_left
        · intro w hSw; (try dsimp only at hSw); go_simp; try with_reducible rfl
        try simp only [Act.put, List.setIfInBounds_toArray, List.set_cons_zero, List.set_cons_succ]
        refine wpAnyH_take (i := 23) (oi := { dst := some 41, op := Op.pick (Operand.tmp 24) (Operand.const (Value.bool true)) (Operand.tmp 40), type := _, pos := _, after := _, guard := none }) (v := ?_) rfl (by kernel_rfl) (by kernel_rfl) (by kernel_rfl) (fun _ _ _ h => h) (Or.inl ⟨by rfl, ?_⟩) (by assumption) ?_
        rotate_left
        · intro w hSw; (try dsimp only at hSw); go_simp; try with_reducible rfl
        try simp only [Act.put, List.setIfInBounds_toArray, List.set_cons_zero, List.set_cons_succ]
        refine wpAnyH_ready (rs := [24]) (by kernel_rfl) (by simp) ?_
        refine AllReadyH.cons (o := { dst := some 42, op := Op.buildSlice 28 1 #[(0, Operand.tmp 41)], type := _, pos := _, after := _, guard := none }) rfl (fun K hK => ?_) AllReadyH.nil
        go_simp
        refine hK.out _ _ (by exact HS.out _ HWX.out) (fun hHeld => ?_)
        clear hK K
        try simp only [Act.put, List.setIfInBounds_toArray, List.set_cons_zero, List.set_cons_succ]
        refine wpAnyH_ready (rs := [25]) (by kernel_rfl) (by simp) ?_
        refine AllReadyH.cons (o := { dst := some 43, op := Op.call { callee := Callee.builtin Builtin.append, args := #[Operand.tmp 18, Operand.tmp 42], argTypes := #[28, 28] }, type := _, pos := _, after := _, guard := none }) rfl (fun K hK => ?_) AllReadyH.nil
        rw [if_pos (by rfl)]
        refine wp_app _ (.tmp 18) (.tmp 42) 28 rfl z 4 j0 _ 1 1 Try.underlying28 hj0 hy0 hy1 hy2 rfl (by decide) _ k ((rbrTo rs l hide k).map .bool) rfl HOX.out _ 1 1 [.bool false] rfl (src_new _ #[.bool false] 4 1 rfl) (one_bools [false]) (by simp only [maxLen]; omega) (by omega) (by have := HWX.out.size; exact Nat.le_trans HZ1.out this) ?_
        intro v' w' hown hgrow hat
        have HWN := hid (below_own HWX.out HOX.out hgrow (Nat.le_trans HZ1.out HWX.out.size))
        have HON := hid (show w'.ownsRow z 4 1 v' (k + 1) ((rbrTo rs l hide (k + 1)).map .bool) by rw [HN.out]; simpa using hown)
        clear hown hgrow hat
        refine hK.out _ _ (by exact HS.out _ HWN.out) (fun hHeld => ?_)
        clear hK K
        try simp only [Act.put, List.setIfInBounds_toArray, List.set_cons_zero, List.set_cons_succ]
        refine wpAnyH_take (i := 26) (oi := { dst := some 6, op := Op.assign (Operand.tmp 43), type := _, pos := _, after := _, guard := none }) (v := ?_) rfl (by kernel_rfl) (by kernel_rfl) (by kernel_rfl) (fun _ _ _ h => h) (Or.inl ⟨by rfl, ?_⟩) (by assumption) ?_
        rotate_left
        · intro w hSw; (try dsimp only at hSw); go_simp; try with_reducible rfl
        try simp only [Act.put, List.setIfInBounds_toArray, List.set_cons_zero, List.set_cons_succ]
        refine wpAnyH_done (by kernel_rfl) ?_ _
        all_goals
          go_wp2_with fail
          go_roundw
          case rel => exact ⟨k + 1, by omega, by omega, by go_num, HON, HWN⟩
          case measure => simp [intOf]; omega
      · have HS := hid (show ∀ Y, Below z w1 Y → Y.cell? ⟨b5, o5 + k, none⟩ = some (.int .i64 (-1)) from fun Y hY => (cell_same (hY.block b5 HB5.out)).trans HC5.out)
        have HWX := hid (show Below z w1 (wr.drew.alloc (.cells #[.bool true] 4)) from HWr.out.drew.alloc (Nat.le_trans HZ1.out HWr.out.size) _)
        have HOX := hid (show (wr.drew.alloc (.cells #[.bool true] 4)).ownsRow z 4 1 _ k _ from HO.out.drew.alloc _)
        have HN := hid (show rbrTo rs l hide (k + 1) = rbrTo rs l hide k ++ [true] by rw [HP.out]; rfl)
        go_wp2_with fail
        refine wp_region_held_drew (S := (fun Y => Y.cell? ⟨b5, o5 + k, none⟩ = some (.int .i64 (-1)))) (by kernel_rfl) (by exact (cell_same (HWr.out.block b5 HB5.out)).trans HC5.out) (fun hHeld => ?_)
        refine wpAnyH_take (i := 0) (oi := { dst := some 18, op := Op.move (Operand.tmp 6), type := _, pos := _, after := _, guard := none }) (v := ?_) rfl (by kernel_rfl) (by kernel_rfl) (by kernel_rfl) (fun _ _ _ h => h) (Or.inl ⟨by rfl, ?_⟩) (by assumption) ?_
        rotate_left
        · intro w hSw; (try dsimp only at hSw); go_simp; try with_reducible rfl
        try simp only [Act.put, List.setIfInBounds_toArray, List.set_cons_zero, List.set_cons_succ]
        refine wpAnyH_take (i := 1) (oi := { dst := some 19, op := Op.move (Operand.tmp 5), type := _, pos := _, after := _, guard := none }) (v := ?_) rfl (by kernel_rfl) (by kernel_rfl) (by kernel_rfl) (fun _ _ _ h => h) (Or.inl ⟨by rfl, ?_⟩) (by assumption) ?_
        rotate_left
        · intro w hSw; (try dsimp only at hSw); go_simp; try with_reducible rfl
        try simp only [Act.put, List.setIfInBounds_toArray, List.set_cons_zero, List.set_cons_succ]
        refine wpAnyH_take (i := 2) (oi := { dst := some 20, op := Op.move (Operand.tmp 7), type := _, pos := _, after := _, guard := none }) (v := ?_) rfl (by kernel_rfl) (by kernel_rfl) (by kernel_rfl) (fun _ _ _ h => h) (Or.inl ⟨by rfl, ?_⟩) (by assumption) ?_
        rotate_left
        · intro w hSw; (try dsimp only at hSw); go_simp; try with_reducible rfl
        try simp only [Act.put, List.setIfInBounds_toArray, List.set_cons_zero, List.set_cons_succ]
        refine wpAnyH_take (i := 3) (oi := { dst := some 21, op := Op.indexAddr 22 (Operand.tmp 19) (Operand.tmp 20), type := _, pos := _, after := _, guard := none }) (v := ?_) rfl (by kernel_rfl) (by kernel_rfl) (by kernel_rfl) (fun _ _ _ h => h) (Or.inl ⟨by rfl, ?_⟩) (by assumption) ?_
        rotate_left
        · intro w hSw; (try dsimp only at hSw); go_simp; try with_reducible rfl
        try simp only [Act.put, List.setIfInBounds_toArray, List.set_cons_zero, List.set_cons_succ]
        refine wpAnyH_take (i := 4) (oi := { dst := some 22, op := Op.load 3 (Operand.tmp 21), type := _, pos := _, after := _, guard := none }) (v := ?_) rfl (by kernel_rfl) (by kernel_rfl) (by kernel_rfl) (fun _ _ _ h => h) (Or.inl ⟨by rfl, ?_⟩) (by assumption) ?_
        rotate_left
        · intro w hSw; (try dsimp only at hSw); go_simp; try with_reducible rfl
        try simp only [Act.put, List.setIfInBounds_toArray, List.set_cons_zero, List.set_cons_succ]
        refine wpAnyH_take (i := 5) (oi := { dst := some 23, op := Op.binOp BinOp.eql 3 (Operand.tmp 22) (Operand.const (Value.int IntKind.i64 (-1))) 3, type := _, pos := _, after := _, guard := none }) (v := ?_) rfl (by kernel_rfl) (by kernel_rfl) (by kernel_rfl) (fun _ _ _ h => h) (Or.inl ⟨by rfl, ?_⟩) (by assumption) ?_
        rotate_left
        · intro w hSw; (try dsimp only at hSw); go_simp; try with_reducible rfl
        try simp only [Act.put, List.setIfInBounds_toArray, List.set_cons_zero, List.set_cons_succ]
        refine wpAnyH_take (i := 6) (oi := { dst := some 24, op := Op.move (Operand.tmp 23), type := _, pos := _, after := _, guard := none }) (v := ?_) rfl (by kernel_rfl) (by kernel_rfl) (by kernel_rfl) (fun _ _ _ h => h) (Or.inl ⟨by rfl, ?_⟩) (by assumption) ?_
        rotate_left
        · intro w hSw; (try dsimp only at hSw); go_simp; try with_reducible rfl
        try simp only [Act.put, List.setIfInBounds_toArray, List.set_cons_zero, List.set_cons_succ]
        refine wpAnyH_take (i := 7) (oi := { dst := some 25, op := Op.move (Operand.tmp 5), type := _, pos := _, after := _, guard := some (6, false) }) (v := undef) rfl (by kernel_rfl) (by kernel_rfl) (by kernel_rfl) (fun _ _ _ h => h) (Or.inr ⟨by rfl, rfl⟩) (by assumption) ?_
        try simp only [Act.put, List.setIfInBounds_toArray, List.set_cons_zero, List.set_cons_succ]
        refine wpAnyH_take (i := 8) (oi := { dst := some 26, op := Op.move (Operand.tmp 7), type := _, pos := _, after := _, guard := some (6, false) }) (v := undef) rfl (by kernel_rfl) (by kernel_rfl) (by kernel_rfl) (fun _ _ _ h => h) (Or.inr ⟨by rfl, rfl⟩) (by assumption) ?_
        try simp only [Act.put, List.setIfInBounds_toArray, List.set_cons_zero, List.set_cons_succ]
        refine wpAnyH_take (i := 9) (oi := { dst := some 27, op := Op.indexAddr 22 (Operand.tmp 25) (Operand.tmp 26), type := _, pos := _, after := _, guard := some (6, false) }) (v := undef) rfl (by kernel_rfl) (by kernel_rfl) (by kernel_rfl) (fun _ _ _ h => h) (Or.inr ⟨by rfl, rfl⟩) (by assumption) ?_
        try simp only [Act.put, List.setIfInBounds_toArray, List.set_cons_zero, List.set_cons_succ]
        refine wpAnyH_take (i := 10) (oi := { dst := some 28, op := Op.load 3 (Operand.tmp 27), type := _, pos := _, after := _, guard := some (6, false) }) (v := undef) rfl (by kernel_rfl) (by kernel_rfl) (by kernel_rfl) (fun _ _ _ h => h) (Or.inr ⟨by rfl, rfl⟩) (by assumption) ?_
        try simp only [Act.put, List.setIfInBounds_toArray, List.set_cons_zero, List.set_cons_succ]
        refine wpAnyH_take (i := 11) (oi := { dst := some 29, op := Op.binOp BinOp.geq 3 (Operand.tmp 28) (Operand.const (Value.int IntKind.i64 0)) 3, type := _, pos := _, after := _, guard := some (6, false) }) (v := undef) rfl (by kernel_rfl) (by kernel_rfl) (by kernel_rfl) (fun _ _ _ h => h) (Or.inr ⟨by rfl, rfl⟩) (by assumption) ?_
        try simp only [Act.put, List.setIfInBounds_toArray, List.set_cons_zero, List.set_cons_succ]
        refine wpAnyH_take (i := 12) (oi := { dst := some 30, op := Op.move (Operand.tmp 29), type := _, pos := _, after := _, guard := some (6, false) }) (v := undef) rfl (by kernel_rfl) (by kernel_rfl) (by kernel_rfl) (fun _ _ _ h => h) (Or.inr ⟨by rfl, rfl⟩) (by assumption) ?_
        try simp only [Act.put, List.setIfInBounds_toArray, List.set_cons_zero, List.set_cons_succ]
        refine wpAnyH_take (i := 13) (oi := { dst := some 31, op := Op.fieldAddr 25 (Operand.tmp 2) 2, type := _, pos := _, after := _, guard := some (12, true) }) (v := undef) rfl (by kernel_rfl) (by kernel_rfl) (by kernel_rfl) (fun _ _ _ h => h) (Or.inr ⟨by rfl, rfl⟩) (by assumption) ?_
        try simp only [Act.put, List.setIfInBounds_toArray, List.set_cons_zero, List.set_cons_succ]
        refine wpAnyH_take (i := 14) (oi := { dst := some 32, op := Op.load 23 (Operand.tmp 31), type := _, pos := _, after := _, guard := some (12, true) }) (v := undef) rfl (by kernel_rfl) (by kernel_rfl) (by kernel_rfl) (fun _ _ _ h => h) (Or.inr ⟨by rfl, rfl⟩) (by assumption) ?_
        try simp only [Act.put, List.setIfInBounds_toArray, List.set_cons_zero, List.set_cons_succ]
        refine wpAnyH_take (i := 15) (oi := { dst := some 33, op := Op.move (Operand.tmp 5), type := _, pos := _, after := _, guard := some (12, true) }) (v := undef) rfl (by kernel_rfl) (by kernel_rfl) (by kernel_rfl) (fun _ _ _ h => h) (Or.inr ⟨by rfl, rfl⟩) (by assumption) ?_
        try simp only [Act.put, List.setIfInBounds_toArray, List.set_cons_zero, List.set_cons_succ]
        refine wpAnyH_take (i := 16) (oi := { dst := some 34, op := Op.move (Operand.tmp 7), type := _, pos := _, after := _, guard := some (12, true) }) (v := undef) rfl (by kernel_rfl) (by kernel_rfl) (by kernel_rfl) (fun _ _ _ h => h) (Or.inr ⟨by rfl, rfl⟩) (by assumption) ?_
        try simp only [Act.put, List.setIfInBounds_toArray, List.set_cons_zero, List.set_cons_succ]
        refine wpAnyH_take (i := 17) (oi := { dst := some 35, op := Op.indexAddr 22 (Operand.tmp 33) (Operand.tmp 34), type := _, pos := _, after := _, guard := some (12, true) }) (v := undef) rfl (by kernel_rfl) (by kernel_rfl) (by kernel_rfl) (fun _ _ _ h => h) (Or.inr ⟨by rfl, rfl⟩) (by assumption) ?_
        try simp only [Act.put, List.setIfInBounds_toArray, List.set_cons_zero, List.set_cons_succ]
        refine wpAnyH_take (i := 18) (oi := { dst := some 36, op := Op.load 3 (Operand.tmp 35), type := _, pos := _, after := _, guard := some (12, true) }) (v := undef) rfl (by kernel_rfl) (by kernel_rfl) (by kernel_rfl) (fun _ _ _ h => h) (Or.inr ⟨by rfl, rfl⟩) (by assumption) ?_
        try simp only [Act.put, List.setIfInBounds_toArray, List.set_cons_zero, List.set_cons_succ]
        refine wpAnyH_take (i := 19) (oi := { dst := some 37, op := Op.indexAddr 23 (Operand.tmp 32) (Operand.tmp 36), type := _, pos := _, after := _, guard := some (12, true) }) (v := undef) rfl (by kernel_rfl) (by kernel_rfl) (by kernel_rfl) (fun _ _ _ h => h) (Or.inr ⟨by rfl, rfl⟩) (by assumption) ?_
        try simp only [Act.put, List.setIfInBounds_toArray, List.set_cons_zero, List.set_cons_succ]
        refine wpAnyH_take (i := 20) (oi := { dst := some 38, op := Op.fieldAddr 72 (Operand.tmp 37) 2, type := _, pos := _, after := _, guard := some (12, true) }) (v := undef) rfl (by kernel_rfl) (by kernel_rfl) (by kernel_rfl) (fun _ _ _ h => h) (Or.inr ⟨by rfl, rfl⟩) (by assumption) ?_
        try simp only [Act.put, List.setIfInBounds_toArray, List.set_cons_zero, List.set_cons_succ]
        refine wpAnyH_take (i := 21) (oi := { dst := some 39, op := Op.load 4 (Operand.tmp 38), type := _, pos := _, after := _, guard := some (12, true) }) (v := undef) rfl (by kernel_rfl) (by kernel_rfl) (by kernel_rfl) (fun _ _ _ h => h) (Or.inr ⟨by rfl, rfl⟩) (by assumption) ?_
        try simp only [Act.put, List.setIfInBounds_toArray, List.set_cons_zero, List.set_cons_succ]
        refine wpAnyH_take (i := 22) (oi := { dst := some 40, op := Op.pick (Operand.tmp 30) (Operand.tmp 39) (Operand.const (Value.bool false)), type := _, pos := _, after := _, guard := some (6, false) }) (v := undef) rfl (by kernel_rfl) (by kernel_rfl) (by kernel_rfl) (fun _ _ _ h => h) (Or.inr ⟨by rfl, rfl⟩) (by assumption) ?_
        try simp only [Act.put, List.setIfInBounds_toArray, List.set_cons_zero, List.set_cons_succ]
        refine wpAnyH_take (i := 23) (oi := { dst := some 41, op := Op.pick (Operand.tmp 24) (Operand.const (Value.bool true)) (Operand.tmp 40), type := _, pos := _, after := _, guard := none }) (v := ?_) rfl (by kernel_rfl) (by kernel_rfl) (by kernel_rfl) (fun _ _ _ h => h) (Or.inl ⟨by rfl, ?_⟩) (by assumption) ?_
        rotate_left
        · intro w hSw; (try dsimp only at hSw); go_simp; try with_reducible rfl
        try simp only [Act.put, List.setIfInBounds_toArray, List.set_cons_zero, List.set_cons_succ]
        refine wpAnyH_ready (rs := [24]) (by kernel_rfl) (by simp) ?_
        refine AllReadyH.cons (o := { dst := some 42, op := Op.buildSlice 28 1 #[(0, Operand.tmp 41)], type := _, pos := _, after := _, guard := none }) rfl (fun K hK => ?_) AllReadyH.nil
        go_simp
        refine hK.out _ _ (by exact HS.out _ HWX.out) (fun hHeld => ?_)
        clear hK K
        try simp only [Act.put, List.setIfInBounds_toArray, List.set_cons_zero, List.set_cons_succ]
        refine wpAnyH_ready (rs := [25]) (by kernel_rfl) (by simp) ?_
        refine AllReadyH.cons (o := { dst := some 43, op := Op.call { callee := Callee.builtin Builtin.append, args := #[Operand.tmp 18, Operand.tmp 42], argTypes := #[28, 28] }, type := _, pos := _, after := _, guard := none }) rfl (fun K hK => ?_) AllReadyH.nil
        rw [if_pos (by rfl)]
        refine wp_app _ (.tmp 18) (.tmp 42) 28 rfl z 4 j0 _ 1 1 Try.underlying28 hj0 hy0 hy1 hy2 rfl (by decide) _ k ((rbrTo rs l hide k).map .bool) rfl HOX.out _ 1 1 [.bool true] rfl (src_new _ #[.bool true] 4 1 rfl) (one_bools [true]) (by simp only [maxLen]; omega) (by omega) (by have := HWX.out.size; exact Nat.le_trans HZ1.out this) ?_
        intro v' w' hown hgrow hat
        have HWN := hid (below_own HWX.out HOX.out hgrow (Nat.le_trans HZ1.out HWX.out.size))
        have HON := hid (show w'.ownsRow z 4 1 v' (k + 1) ((rbrTo rs l hide (k + 1)).map .bool) by rw [HN.out]; simpa using hown)
        clear hown hgrow hat
        refine hK.out _ _ (by exact HS.out _ HWN.out) (fun hHeld => ?_)
        clear hK K
        try simp only [Act.put, List.setIfInBounds_toArray, List.set_cons_zero, List.set_cons_succ]
        refine wpAnyH_take (i := 26) (oi := { dst := some 6, op := Op.assign (Operand.tmp 43), type := _, pos := _, after := _, guard := none }) (v := ?_) rfl (by kernel_rfl) (by kernel_rfl) (by kernel_rfl) (fun _ _ _ h => h) (Or.inl ⟨by rfl, ?_⟩) (by assumption) ?_
        rotate_left
        · intro w hSw; (try dsimp only at hSw); go_simp; try with_reducible rfl
        try simp only [Act.put, List.setIfInBounds_toArray, List.set_cons_zero, List.set_cons_succ]
        refine wpAnyH_done (by kernel_rfl) ?_ _
        all_goals
          go_wp2_with fail
          go_roundw
          case rel => exact ⟨k + 1, by omega, by omega, by go_num, HON, HWN⟩
          case measure => simp [intOf]; omega
      · have hjr : j < r := by rw [HRE.out]; exact hj
        obtain ⟨b7, o7, k0, k1, A0, n0, p0, j1, j2, A2, n1, p1, rfl, -, hb7, -, -, -, -, -, -, d6, -, -⟩ := HRw.out.at (List.getElem?_eq_getElem hj)
        obtain ⟨br, hbr⟩ : ∃ br, br = rs[j].br := ⟨_, rfl⟩
        rw [← hbr] at d6
        have HS := hid (show ∀ Y, Below z w1 Y → Y.cell? ⟨b5, o5 + k, none⟩ = some (.int .i64 (j : Int)) ∧ Y.cell? ⟨q, 2, none⟩ = some (.slice (some ⟨b7, o7, none⟩) r c) ∧ Y.cell? ⟨b7, o7 + j * 7 + 6, none⟩ = some (.bool br) from fun Y hY =>
          ⟨(cell_same (hY.block b5 HB5.out)).trans HC5.out, (slot3 ((hY.block q (by rw [HZ.out]; exact (Array.getElem?_eq_some_iff.1 HX1.out).1)).trans HX1.out)).2.2.1, (cell_same (hY.block b7 (Nat.lt_of_lt_of_le hb7 HZW.out))).trans ((cell_same (HB1.out.block b7 hb7)).trans d6)⟩)
        have HWX := hid (show Below z w1 (wr.drew.alloc (.cells #[.bool br] 4)) from HWr.out.drew.alloc (Nat.le_trans HZ1.out HWr.out.size) _)
        have HOX := hid (show (wr.drew.alloc (.cells #[.bool br] 4)).ownsRow z 4 1 _ k _ from HO.out.drew.alloc _)
        have HN := hid (show rbrTo rs l hide (k + 1) = rbrTo rs l hide k ++ [br] by
          rw [HP.out]
          unfold rbrAt ruleBr
          rw [decide_eq_false (p := (j : Int) = -1) (by omega), decide_eq_true (p := (0 : Int) ≤ j) (by omega), Int.toNat_natCast, List.getElem?_eq_getElem hj, hbr]
          rfl)
        have bj0 : ((j : Int) == -1) = false := ieq_false (by omega)
        have hj9 : (j : Int) ≤ 9223372036854775807 := by omega
        clear hb7 d6 hbr hj
        go_wp2_with fail
        refine wp_region_held_drew (S := (fun Y => Y.cell? ⟨b5, o5 + k, none⟩ = some (.int .i64 (j : Int)) ∧ Y.cell? ⟨q, 2, none⟩ = some (.slice (some ⟨b7, o7, none⟩) r c) ∧ Y.cell? ⟨b7, o7 + j * 7 + 6, none⟩ = some (.bool br))) (by kernel_rfl) (by exact HS.out _ HWr.out.drew) (fun hHeld => ?_)
        refine wpAnyH_take (i := 0) (oi := { dst := some 18, op := Op.move (Operand.tmp 6), type := _, pos := _, after := _, guard := none }) (v := ?_) rfl (by kernel_rfl) (by kernel_rfl) (by kernel_rfl) (fun _ _ _ h => h) (Or.inl ⟨by rfl, ?_⟩) (by assumption) ?_
        rotate_left
        · intro w hSw; (try dsimp only at hSw); go_simp; try with_reducible rfl
        try simp only [Act.put, List.setIfInBounds_toArray, List.set_cons_zero, List.set_cons_succ]
        refine wpAnyH_take (i := 1) (oi := { dst := some 19, op := Op.move (Operand.tmp 5), type := _, pos := _, after := _, guard := none }) (v := ?_) rfl (by kernel_rfl) (by kernel_rfl) (by kernel_rfl) (fun _ _ _ h => h) (Or.inl ⟨by rfl, ?_⟩) (by assumption) ?_
        rotate_left
        · intro w hSw; (try dsimp only at hSw); go_simp; try with_reducible rfl
        try simp only [Act.put, List.setIfInBounds_toArray, List.set_cons_zero, List.set_cons_succ]
        refine wpAnyH_take (i := 2) (oi := { dst := some 20, op := Op.move (Operand.tmp 7), type := _, pos := _, after := _, guard := none }) (v := ?_) rfl (by kernel_rfl) (by kernel_rfl) (by kernel_rfl) (fun _ _ _ h => h) (Or.inl ⟨by rfl, ?_⟩) (by assumption) ?_
        rotate_left
        · intro w hSw; (try dsimp only at hSw); go_simp; try with_reducible rfl
        try simp only [Act.put, List.setIfInBounds_toArray, List.set_cons_zero, List.set_cons_succ]
        refine wpAnyH_take (i := 3) (oi := { dst := some 21, op := Op.indexAddr 22 (Operand.tmp 19) (Operand.tmp 20), type := _, pos := _, after := _, guard := none }) (v := ?_) rfl (by kernel_rfl) (by kernel_rfl) (by kernel_rfl) (fun _ _ _ h => h) (Or.inl ⟨by rfl, ?_⟩) (by assumption) ?_
        rotate_left
        · intro w hSw; (try dsimp only at hSw); go_simp; try with_reducible rfl
        try simp only [Act.put, List.setIfInBounds_toArray, List.set_cons_zero, List.set_cons_succ]
        refine wpAnyH_take (i := 4) (oi := { dst := some 22, op := Op.load 3 (Operand.tmp 21), type := _, pos := _, after := _, guard := none }) (v := ?_) rfl (by kernel_rfl) (by kernel_rfl) (by kernel_rfl) (fun _ _ _ h => h) (Or.inl ⟨by rfl, ?_⟩) (by assumption) ?_
        rotate_left
        · intro w hSw; (try dsimp only at hSw); go_simp; try with_reducible rfl
        try simp only [Act.put, List.setIfInBounds_toArray, List.set_cons_zero, List.set_cons_succ]
        refine wpAnyH_take (i := 5) (oi := { dst := some 23, op := Op.binOp BinOp.eql 3 (Operand.tmp 22) (Operand.const (Value.int IntKind.i64 (-1))) 3, type := _, pos := _, after := _, guard := none }) (v := ?_) rfl (by kernel_rfl) (by kernel_rfl) (by kernel_rfl) (fun _ _ _ h => h) (Or.inl ⟨by rfl, ?_⟩) (by assumption) ?_
        rotate_left
        · intro w hSw; (try dsimp only at hSw); go_simp; try with_reducible rfl
        try simp only [Act.put, List.setIfInBounds_toArray, List.set_cons_zero, List.set_cons_succ]
        refine wpAnyH_take (i := 6) (oi := { dst := some 24, op := Op.move (Operand.tmp 23), type := _, pos := _, after := _, guard := none }) (v := ?_) rfl (by kernel_rfl) (by kernel_rfl) (by kernel_rfl) (fun _ _ _ h => h) (Or.inl ⟨by rfl, ?_⟩) (by assumption) ?_
        rotate_left
        · intro w hSw; (try dsimp only at hSw); go_simp; try with_reducible rfl
        try simp only [Act.put, List.setIfInBounds_toArray, List.set_cons_zero, List.set_cons_succ]
        refine wpAnyH_take (i := 7) (oi := { dst := some 25, op := Op.move (Operand.tmp 5), type := _, pos := _, after := _, guard := some (6, false) }) (v := ?_) rfl (by kernel_rfl) (by kernel_rfl) (by kernel_rfl) (fun _ _ _ h => h) (Or.inl ⟨by rfl, ?_⟩) (by assumption) ?_
        rotate_left
        · intro w hSw; (try dsimp only at hSw); go_simp; try with_reducible rfl
        try simp only [Act.put, List.setIfInBounds_toArray, List.set_cons_zero, List.set_cons_succ]
        refine wpAnyH_take (i := 8) (oi := { dst := some 26, op := Op.move (Operand.tmp 7), type := _, pos := _, after := _, guard := some (6, false) }) (v := ?_) rfl (by kernel_rfl) (by kernel_rfl) (by kernel_rfl) (fun _ _ _ h => h) (Or.inl ⟨by rfl, ?_⟩) (by assumption) ?_
        rotate_left
        · intro w hSw; (try dsimp only at hSw); go_simp; try with_reducible rfl
        try simp only [Act.put, List.setIfInBounds_toArray, List.set_cons_zero, List.set_cons_succ]
        refine wpAnyH_take (i := 9) (oi := { dst := some 27, op := Op.indexAddr 22 (Operand.tmp 25) (Operand.tmp 26), type := _, pos := _, after := _, guard := some (6, false) }) (v := ?_) rfl (by kernel_rfl) (by kernel_rfl) (by kernel_rfl) (fun _ _ _ h => h) (Or.inl ⟨by rfl, ?_⟩) (by assumption) ?_
        rotate_left
        · intro w hSw; (try dsimp only at hSw); go_simp; try with_reducible rfl
        try simp only [Act.put, List.setIfInBounds_toArray, List.set_cons_zero, List.set_cons_succ]
        refine wpAnyH_take (i := 10) (oi := { dst := some 28, op := Op.load 3 (Operand.tmp 27), type := _, pos := _, after := _, guard := some (6, false) }) (v := ?_) rfl (by kernel_rfl) (by kernel_rfl) (by kernel_rfl) (fun _ _ _ h => h) (Or.inl ⟨by rfl, ?_⟩) (by assumption) ?_
        rotate_left
        · intro w hSw; (try dsimp only at hSw); go_simp; try with_reducible rfl
        try simp only [Act.put, List.setIfInBounds_toArray, List.set_cons_zero, List.set_cons_succ]
        refine wpAnyH_take (i := 11) (oi := { dst := some 29, op := Op.binOp BinOp.geq 3 (Operand.tmp 28) (Operand.const (Value.int IntKind.i64 0)) 3, type := _, pos := _, after := _, guard := some (6, false) }) (v := ?_) rfl (by kernel_rfl) (by kernel_rfl) (by kernel_rfl) (fun _ _ _ h => h) (Or.inl ⟨by rfl, ?_⟩) (by assumption) ?_
        rotate_left
        · intro w hSw; (try dsimp only at hSw); go_simp; try with_reducible rfl
        try simp only [Act.put, List.setIfInBounds_toArray, List.set_cons_zero, List.set_cons_succ]
        refine wpAnyH_take (i := 12) (oi := { dst := some 30, op := Op.move (Operand.tmp 29), type := _, pos := _, after := _, guard := some (6, false) }) (v := ?_) rfl (by kernel_rfl) (by kernel_rfl) (by kernel_rfl) (fun _ _ _ h => h) (Or.inl ⟨by rfl, ?_⟩) (by assumption) ?_
        rotate_left
        · intro w hSw; (try dsimp only at hSw); go_simp; try with_reducible rfl
        try simp only [Act.put, List.setIfInBounds_toArray, List.set_cons_zero, List.set_cons_succ]
        refine wpAnyH_take (i := 13) (oi := { dst := some 31, op := Op.fieldAddr 25 (Operand.tmp 2) 2, type := _, pos := _, after := _, guard := some (12, true) }) (v := ?_) rfl (by kernel_rfl) (by kernel_rfl) (by kernel_rfl) (fun _ _ _ h => h) (Or.inl ⟨by rfl, ?_⟩) (by assumption) ?_
        rotate_left
        · intro w hSw; (try dsimp only at hSw); go_simp; try with_reducible rfl
        try simp only [Act.put, List.setIfInBounds_toArray, List.set_cons_zero, List.set_cons_succ]
        refine wpAnyH_take (i := 14) (oi := { dst := some 32, op := Op.load 23 (Operand.tmp 31), type := _, pos := _, after := _, guard := some (12, true) }) (v := ?_) rfl (by kernel_rfl) (by kernel_rfl) (by kernel_rfl) (fun _ _ _ h => h) (Or.inl ⟨by rfl, ?_⟩) (by assumption) ?_
        rotate_left
        · intro w hSw; (try dsimp only at hSw); go_simp; try with_reducible rfl
        try simp only [Act.put, List.setIfInBounds_toArray, List.set_cons_zero, List.set_cons_succ]
        refine wpAnyH_take (i := 15) (oi := { dst := some 33, op := Op.move (Operand.tmp 5), type := _, pos := _, after := _, guard := some (12, true) }) (v := ?_) rfl (by kernel_rfl) (by kernel_rfl) (by kernel_rfl) (fun _ _ _ h => h) (Or.inl ⟨by rfl, ?_⟩) (by assumption) ?_
        rotate_left
        · intro w hSw; (try dsimp only at hSw); go_simp; try with_reducible rfl
        try simp only [Act.put, List.setIfInBounds_toArray, List.set_cons_zero, List.set_cons_succ]
        refine wpAnyH_take (i := 16) (oi := { dst := some 34, op := Op.move (Operand.tmp 7), type := _, pos := _, after := _, guard := some (12, true) }) (v := ?_) rfl (by kernel_rfl) (by kernel_rfl) (by kernel_rfl) (fun _ _ _ h => h) (Or.inl ⟨by rfl, ?_⟩) (by assumption) ?_
        rotate_left
        · intro w hSw; (try dsimp only at hSw); go_simp; try with_reducible rfl
        try simp only [Act.put, List.setIfInBounds_toArray, List.set_cons_zero, List.set_cons_succ]
        refine wpAnyH_take (i := 17) (oi := { dst := some 35, op := Op.indexAddr 22 (Operand.tmp 33) (Operand.tmp 34), type := _, pos := _, after := _, guard := some (12, true) }) (v := ?_) rfl (by kernel_rfl) (by kernel_rfl) (by kernel_rfl) (fun _ _ _ h => h) (Or.inl ⟨by rfl, ?_⟩) (by assumption) ?_
        rotate_left
        · intro w hSw; (try dsimp only at hSw); go_simp; try with_reducible rfl
        try simp only [Act.put, List.setIfInBounds_toArray, List.set_cons_zero, List.set_cons_succ]
        refine wpAnyH_take (i := 18) (oi := { dst := some 36, op := Op.load 3 (Operand.tmp 35), type := _, pos := _, after := _, guard := some (12, true) }) (v := ?_) rfl (by kernel_rfl) (by kernel_rfl) (by kernel_rfl) (fun _ _ _ h => h) (Or.inl ⟨by rfl, ?_⟩) (by assumption) ?_
        rotate_left
        · intro w hSw; (try dsimp only at hSw); go_simp; try with_reducible rfl
        try simp only [Act.put, List.setIfInBounds_toArray, List.set_cons_zero, List.set_cons_succ]
        refine wpAnyH_take (i := 19) (oi := { dst := some 37, op := Op.indexAddr 23 (Operand.tmp 32) (Operand.tmp 36), type := _, pos := _, after := _, guard := some (12, true) }) (v := ?_) rfl (by kernel_rfl) (by kernel_rfl) (by kernel_rfl) (fun _ _ _ h => h) (Or.inl ⟨by rfl, ?_⟩) (by assumption) ?_
        rotate_left
        · intro w hSw; (try dsimp only at hSw); go_simp; try with_reducible rfl
        try simp only [Act.put, List.setIfInBounds_toArray, List.set_cons_zero, List.set_cons_succ]
        refine wpAnyH_take (i := 20) (oi := { dst := some 38, op := Op.fieldAddr 72 (Operand.tmp 37) 2, type := _, pos := _, after := _, guard := some (12, true) }) (v := ?_) rfl (by kernel_rfl) (by kernel_rfl) (by kernel_rfl) (fun _ _ _ h => h) (Or.inl ⟨by rfl, ?_⟩) (by assumption) ?_
        rotate_left
        · intro w hSw; (try dsimp only at hSw); go_simp; try with_reducible rfl
        try simp only [Act.put, List.setIfInBounds_toArray, List.set_cons_zero, List.set_cons_succ]
        refine wpAnyH_take (i := 21) (oi := { dst := some 39, op := Op.load 4 (Operand.tmp 38), type := _, pos := _, after := _, guard := some (12, true) }) (v := ?_) rfl (by kernel_rfl) (by kernel_rfl) (by kernel_rfl) (fun _ _ _ h => h) (Or.inl ⟨by rfl, ?_⟩) (by assumption) ?_
        rotate_left
        · intro w hSw; (try dsimp only at hSw); go_simp; try with_reducible rfl
        try simp only [Act.put, List.setIfInBounds_toArray, List.set_cons_zero, List.set_cons_succ]
        refine wpAnyH_take (i := 22) (oi := { dst := some 40, op := Op.pick (Operand.tmp 30) (Operand.tmp 39) (Operand.const (Value.bool false)), type := _, pos := _, after := _, guard := some (6, false) }) (v := ?_) rfl (by kernel_rfl) (by kernel_rfl) (by kernel_rfl) (fun _ _ _ h => h) (Or.inl ⟨by rfl, ?_⟩) (by assumption) ?_
        rotate_left
        · intro w hSw; (try dsimp only at hSw); go_simp; try with_reducible rfl
        try simp only [Act.put, List.setIfInBounds_toArray, List.set_cons_zero, List.set_cons_succ]
        refine wpAnyH_take (i := 23) (oi := { dst := some 41, op := Op.pick (Operand.tmp 24) (Operand.const (Value.bool true)) (Operand.tmp 40), type := _, pos := _, after := _, guard := none }) (v := ?_) rfl (by kernel_rfl) (by kernel_rfl) (by kernel_rfl) (fun _ _ _ h => h) (Or.inl ⟨by rfl, ?_⟩) (by assumption) ?_
        rotate_left
        · intro w hSw; (try dsimp only at hSw); go_simp; try with_reducible rfl
        try simp only [Act.put, List.setIfInBounds_toArray, List.set_cons_zero, List.set_cons_succ]
        refine wpAnyH_ready (rs := [24]) (by kernel_rfl) (by simp) ?_
        refine AllReadyH.cons (o := { dst := some 42, op := Op.buildSlice 28 1 #[(0, Operand.tmp 41)], type := _, pos := _, after := _, guard := none }) rfl (fun K hK => ?_) AllReadyH.nil
        go_simp
        refine hK.out _ _ (by exact HS.out _ HWX.out) (fun hHeld => ?_)
        clear hK K
        try simp only [Act.put, List.setIfInBounds_toArray, List.set_cons_zero, List.set_cons_succ]
        refine wpAnyH_ready (rs := [25]) (by kernel_rfl) (by simp) ?_
        refine AllReadyH.cons (o := { dst := some 43, op := Op.call { callee := Callee.builtin Builtin.append, args := #[Operand.tmp 18, Operand.tmp 42], argTypes := #[28, 28] }, type := _, pos := _, after := _, guard := none }) rfl (fun K hK => ?_) AllReadyH.nil
        rw [if_pos (by rfl)]
        refine wp_app _ (.tmp 18) (.tmp 42) 28 rfl z 4 j0 _ 1 1 Try.underlying28 hj0 hy0 hy1 hy2 rfl (by decide) _ k ((rbrTo rs l hide k).map .bool) rfl HOX.out _ 1 1 [.bool br] rfl (src_new _ #[.bool br] 4 1 rfl) (one_bools [br]) (by simp only [maxLen]; omega) (by omega) (by have := HWX.out.size; exact Nat.le_trans HZ1.out this) ?_
        intro v' w' hown hgrow hat
        have HWN := hid (below_own HWX.out HOX.out hgrow (Nat.le_trans HZ1.out HWX.out.size))
        have HON := hid (show w'.ownsRow z 4 1 v' (k + 1) ((rbrTo rs l hide (k + 1)).map .bool) by rw [HN.out]; simpa using hown)
        clear hown hgrow hat
        refine hK.out _ _ (by exact HS.out _ HWN.out) (fun hHeld => ?_)
        clear hK K
        try simp only [Act.put, List.setIfInBounds_toArray, List.set_cons_zero, List.set_cons_succ]
        refine wpAnyH_take (i := 26) (oi := { dst := some 6, op := Op.assign (Operand.tmp 43), type := _, pos := _, after := _, guard := none }) (v := ?_) rfl (by kernel_rfl) (by kernel_rfl) (by kernel_rfl) (fun _ _ _ h => h) (Or.inl ⟨by rfl, ?_⟩) (by assumption) ?_
        rotate_left
        · intro w hSw; (try dsimp only at hSw); go_simp; try with_reducible rfl
        try simp only [Act.put, List.setIfInBounds_toArray, List.set_cons_zero, List.set_cons_succ]
        refine wpAnyH_done (by kernel_rfl) ?_ _
        all_goals
          go_wp2_with fail
          go_roundw
          case rel => exact ⟨k + 1, by omega, by omega, by go_num, HON, HWN⟩
          case measure => simp [intOf]; omega
    · have hz0 : (0 < n ∧ n = k) ∨ (n = 0 ∧ k = 1) := by omega
      rcases hz0 with ⟨h0, rfl⟩ | ⟨h0, h1⟩
      · have bz : decide (0 < n) = true := decide_eq_true h0
        have HWX := hid (show Below z w1 (wr.alloc (.cells #[.bool true] 4)) from HWr.out.alloc (Nat.le_trans HZ1.out HWr.out.size) _)
        have HOX := hid (show (wr.alloc (.cells #[.bool true] 4)).ownsRow z 4 1 _ n _ from HO.out.alloc _)
        have HRL := hid (show rbrL rs l hide n = rbrTo rs l hide n ++ [true] by unfold rbrL; rw [if_neg (by omega)])
        clear hk hlt
        go_wp2_with (first
          | (at_builtin; (refine wpList_app _ rfl (.tmp 47) (.tmp 48) 28 rfl z 4 j0 _ 1 1 Try.underlying28 hj0 hy0 hy1 hy2 rfl (by decide) _ n ((rbrTo rs l hide n).map .bool) rfl HOX.out _ 1 1 [.bool true] rfl (src_new _ #[.bool true] 4 1 rfl) (one_bools [true]) (by simp only [maxLen]; omega) (by omega) (by have := HWX.out.size; exact Nat.le_trans HZ1.out this) ?_); intro v' w' hown hgrow hat; have HWN := hid (below_own HWX.out HOX.out hgrow (Nat.le_trans HZ1.out HWX.out.size)); have HON := hid (show w'.ownsRow z 4 1 v' (n + 1) ((rbrL rs l hide n).map .bool) by rw [HRL.out]; simpa using hown); clear hown hgrow hat)
          | fail)
        go_ret
        exact ⟨_, rfl, (own_boolsB HON.out).mono fun b hb _ => Nat.le_trans HZW.out hb.1, HB1.out.trans (HWN.out.mono HZW.out)⟩
      · have bz : decide (0 < n) = false := decide_eq_false (by omega)
        have HON := hid (show wr.ownsRow z 4 1 _ 1 ((rbrL rs l hide n).map .bool) by
          have h := HO.out
          rw [h1] at h
          unfold rbrL
          rw [if_pos h0]
          exact h)
        have hn0 : ¬ 0 < n := by omega
        clear hk hlt h0 h1
        go_wp2_with fail
        go_ret
        exact ⟨_, rfl, (own_boolsB HON.out).mono fun b hb _ => Nat.le_trans HZW.out hb.1, HB1.out.trans (HWr.out.mono HZW.out)⟩
set_option maxRecDepth 100000 in
set_option maxHeartbeats 4000000 in
theorem breaks_walk (d : Nat) (v lv : Value) (t : Tx d) (ids : List Int) (w : World) (h : IsTx w Any d v t) (hl : IsNums .i64 w Any lv ids) :
    Calls Try.prog 3 #[v, lv] w fun e w' => e = .returned (.bool true) ∧ Below w.heap.size w w' := by
  obtain ⟨I, ic, K, kc, A, c, rfl, -, -, -, -, -, -⟩ := h.open
  have H := hid h
  clear h
  obtain ⟨M, cm, rfl⟩ := hl.form
  have hle := hl.le
  have HMw := hid hl
  clear hl
  obtain ⟨q, hq⟩ : ∃ q, q = w.heap.size := ⟨_, rfl⟩
  obtain ⟨W, hW0⟩ : ∃ W, W = w.alloc (.cells #[.slice I t.ig.length ic, .slice K t.kp.length kc, .slice A t.rs.length c] 25) := ⟨_, rfl⟩
  have HX := hid (box3 hW0)
  have HWw := hid HX.out.1
  have HT := hid (H.out.below HWw.out)
  have HM := hid (HMw.out.below HWw.out)
  rw [← hq] at HX
  clear H HMw
  cases hg : greatX t with
  | true =>
    have HG := hid hg
    clear hg
    go_enter Try.func3, Try.ntmps3
    go_wp2_with fail
    rw [← hW0]
    refine (great_any d _ t W HT.out).mono ?_
    rintro e w1 ⟨rfl, hb1⟩
    rw [HG.out]
    go_wp2_with fail
    refine (awake_any w1).mono ?_
    rintro e w2 ⟨rfl, hb2⟩
    go_wp2_with fail
    go_ret
    exact ⟨rfl, HWw.out.trans ((hb1.trans (hb2.mono hb1.size)).mono HWw.out.size)⟩
  | false =>
    have HG := hid hg
    obtain ⟨hn45, hcnt⟩ := great_no hg
    have HSM := hid (show t.rs.length ≤ 1000 ∧ ∀ r ∈ t.rs, cnt d r.L ≤ 2000 ∧ cnt d r.R ≤ 2000 from ⟨by omega, fun r hr => by have := hcnt r hr; omega⟩)
    have HRB := hid (show rbrL (knownT t).rs (ids.map classOf) (hidL (knownT t).ig (knownT t).kp (ids.map classOf)) ids.length = breaksP t ids by have h := rbr_is t (ids.map classOf) (hidL (knownT t).ig (knownT t).kp (ids.map classOf)); rw [List.length_map] at h; exact h)
    have HSM2 := hid (show SmallT t from HSM.out.2)
    clear hg hn45 hcnt
    by_cases h60 : (14 : Int) < ids.length
    · have b60 := ilt_true h60
      clear h60
      go_enter Try.func3, Try.ntmps3
      go_wp2_with fail
      rw [← hW0]
      refine (great_any d _ t W HT.out).mono ?_
      rintro e w1 ⟨rfl, hb1⟩
      rw [HG.out]
      go_wp2_with fail
      refine (awake_any w1).mono ?_
      rintro e w2 ⟨rfl, hb2⟩
      go_wp2_with fail
      go_ret
      exact ⟨rfl, HWw.out.trans ((hb1.trans (hb2.mono hb1.size)).mono HWw.out.size)⟩
    · have b60 := ilt_false h60
      have hn60 : ids.length ≤ 14 := by omega
      clear h60
      go_enter Try.func3, Try.ntmps3
      go_wp2_with fail
      rw [← hW0]
      refine (great_any d _ t W HT.out).mono ?_
      rintro e w1 ⟨rfl, hb1⟩
      rw [HG.out]
      go_wp2_with fail
      refine (awake_any w1).mono ?_
      rintro e w2 ⟨rfl, hb2⟩
      have HB2 := hid (hb1.trans (hb2.mono hb1.size))
      clear hb1 hb2
      rw [← hq]
      clear hq hW0
      go_wp2_with fail
      refine wp_region_held_drew (S := (fun Y => Y.cell? ⟨q, 0, none⟩ = some (.slice I t.ig.length ic) ∧ Y.cell? ⟨q, 1, none⟩ = some (.slice K t.kp.length kc) ∧ Y.cell? ⟨q, 2, none⟩ = some (.slice A t.rs.length c))) (by kernel_rfl) (by exact HX.out.2 _ HB2.out.drew) (fun hHeld => ?_)
      refine wpAnyH_take (i := 0) (oi := { dst := some 17, op := Op.load 25 (Operand.tmp 2), type := _, pos := _, after := _, guard := none }) (v := ?_) rfl (by kernel_rfl) (by kernel_rfl) (by kernel_rfl) (fun _ _ _ h => h) (Or.inl ⟨by rfl, ?_⟩) (by assumption) ?_
      rotate_left
      · intro w hSw; (try dsimp only at hSw); go_simp; try with_reducible rfl
      try simp only [Act.put, List.setIfInBounds_toArray, List.set_cons_zero, List.set_cons_succ]
      refine wpAnyH_take (i := 2) (oi := { dst := some 19, op := Op.move (Operand.tmp 1), type := _, pos := _, after := _, guard := none }) (v := ?_) rfl (by kernel_rfl) (by kernel_rfl) (by kernel_rfl) (fun _ _ _ h => h) (Or.inl ⟨by rfl, ?_⟩) (by assumption) ?_
      rotate_left
      · intro w hSw; (try dsimp only at hSw); go_simp; try with_reducible rfl
      try simp only [Act.put, List.setIfInBounds_toArray, List.set_cons_zero, List.set_cons_succ]
      refine wpAnyH_take (i := 4) (oi := { dst := some 21, op := Op.load 25 (Operand.tmp 2), type := _, pos := _, after := _, guard := none }) (v := ?_) rfl (by kernel_rfl) (by kernel_rfl) (by kernel_rfl) (fun _ _ _ h => h) (Or.inl ⟨by rfl, ?_⟩) (by assumption) ?_
      rotate_left
      · intro w hSw; (try dsimp only at hSw); go_simp; try with_reducible rfl
      try simp only [Act.put, List.setIfInBounds_toArray, List.set_cons_zero, List.set_cons_succ]
      refine wpAnyH_take (i := 6) (oi := { dst := some 23, op := Op.move (Operand.tmp 1), type := _, pos := _, after := _, guard := none }) (v := ?_) rfl (by kernel_rfl) (by kernel_rfl) (by kernel_rfl) (fun _ _ _ h => h) (Or.inl ⟨by rfl, ?_⟩) (by assumption) ?_
      rotate_left
      · intro w hSw; (try dsimp only at hSw); go_simp; try with_reducible rfl
      try simp only [Act.put, List.setIfInBounds_toArray, List.set_cons_zero, List.set_cons_succ]
      refine wpAnyH_ready (rs := [1]) (by kernel_rfl) (by simp) ?_
      refine AllReadyH.cons (o := { dst := some 18, op := Op.call { callee := Callee.value (Operand.func 14), args := #[Operand.tmp 17], argTypes := #[25] }, type := _, pos := _, after := _, guard := none }) rfl (fun K hK => ?_) AllReadyH.nil
      go_simp
      refine (totext_any d _ t _ (HT.out.below HB2.out.drew) HSM.out.2 HSM.out.1).mono ?_; rintro e w3 ⟨v3, rfl, ht3, hb3⟩; have HB3 := hid (HB2.out.trans (((Below.refl w2.heap.size w2).drew.trans hb3).mono HB2.out.size)); have HT3 := hid ht3; obtain ⟨I3, ic3, K3, kc3, A3, c3, rfl, -, -, -, -, -, -⟩ := ht3.open; clear hb3 ht3; go_wp2_with fail
      refine hK.out _ _ (by exact HX.out.2 _ HB3.out) (fun hHeld => ?_)
      clear hK K
      try simp only [Act.put, List.setIfInBounds_toArray, List.set_cons_zero, List.set_cons_succ]
      refine wpAnyH_ready (rs := [3]) (by kernel_rfl) (by simp) ?_
      refine AllReadyH.cons (o := { dst := some 20, op := Op.call { callee := Callee.value (Operand.func 13), args := #[Operand.tmp 18, Operand.tmp 19], argTypes := #[33, 22] }, type := _, pos := _, after := _, guard := none }) rfl (fun K hK => ?_) AllReadyH.nil
      go_simp
      refine (Breaks_any d _ _ t ids _ HT3.out (HM.out.below HB3.out) (by omega)).mono ?_; rintro e w4 ⟨v4, rfl, hv4, hb4⟩; have HB4 := hid (HB3.out.trans (hb4.mono HB3.out.size)); have HV4 := hid hv4; obtain ⟨A4, c4, rfl, -, -⟩ := hv4.open; clear hb4 hv4; go_wp2_with fail
      refine hK.out _ _ (by exact HX.out.2 _ HB4.out) (fun hHeld => ?_)
      clear hK K
      try simp only [Act.put, List.setIfInBounds_toArray, List.set_cons_zero, List.set_cons_succ]
      refine wpAnyH_ready (rs := [5]) (by kernel_rfl) (by simp) ?_
      refine AllReadyH.cons (o := { dst := some 22, op := Op.call { callee := Callee.value (Operand.func 17), args := #[Operand.tmp 21], argTypes := #[25] }, type := _, pos := _, after := _, guard := none }) rfl (fun K hK => ?_) AllReadyH.nil
      go_simp
      refine (rknown_any Any d _ t _ (HT.out.below HB4.out) HSM2.out).mono ?_; rintro e w5 ⟨v5, rfl, ht5, hb5⟩; have HB5 := hid (HB4.out.trans (hb5.mono HB4.out.size)); have HV5 := hid (HV4.out.below hb5); have HT5 := hid ht5; obtain ⟨I5, ic5, K5, kc5, A5, c5, rfl, -, -, -, -, -, -⟩ := ht5.open; clear hb5 ht5; go_wp2_with fail
      refine hK.out _ _ (by exact HX.out.2 _ HB5.out) (fun hHeld => ?_)
      clear hK K
      try simp only [Act.put, List.setIfInBounds_toArray, List.set_cons_zero, List.set_cons_succ]
      refine wpAnyH_ready (rs := [7]) (by kernel_rfl) (by simp) ?_
      refine AllReadyH.cons (o := { dst := some 24, op := Op.call { callee := Callee.value (Operand.func 16), args := #[Operand.tmp 22, Operand.tmp 23], argTypes := #[25, 22] }, type := _, pos := _, after := _, guard := none }) rfl (fun K hK => ?_) AllReadyH.nil
      go_simp
      refine (rbreaks_any d _ _ (knownT t) ids _ HT5.out (HM.out.below HB5.out) (by omega)).mono ?_; rintro e w6 ⟨v6, rfl, hv6, hb6⟩; rw [HRB.out] at hv6; have HB6 := hid (HB5.out.trans (hb6.mono HB5.out.size)); have HV6 := hid (HV5.out.below hb6); have HU6 := hid hv6; obtain ⟨A6, c6, rfl, -, -⟩ := hv6.open; clear hb6 hv6; go_wp2_with fail
      refine hK.out _ _ (by exact HX.out.2 _ HB6.out) (fun hHeld => ?_)
      clear hK K
      try simp only [Act.put, List.setIfInBounds_toArray, List.set_cons_zero, List.set_cons_succ]
      refine wpAnyH_ready (rs := [8]) (by kernel_rfl) (by simp) ?_
      refine AllReadyH.cons (o := { dst := some 25, op := Op.call { callee := Callee.value (Operand.func 15), args := #[Operand.tmp 20, Operand.tmp 24], argTypes := #[29, 28] }, type := _, pos := _, after := _, guard := none }) rfl (fun K hK => ?_) AllReadyH.nil
      go_simp
      refine (is_any _ _ _ _ _ _ _ HV6.out HU6.out).mono ?_; rintro e w7 ⟨rfl, hb7⟩; rw [decide_eq_true rfl]; have HB7 := hid (HB6.out.trans (hb7.mono HB6.out.size)); clear hb7; go_wp2_with fail
      refine hK.out _ _ (by exact HX.out.2 _ HB7.out) (fun hHeld => ?_)
      clear hK K
      try simp only [Act.put, List.setIfInBounds_toArray, List.set_cons_zero, List.set_cons_succ]
      refine wpAnyH_take (i := 9) (oi := { dst := some 4, op := Op.assign (Operand.tmp 25), type := _, pos := _, after := _, guard := none }) (v := ?_) rfl (by kernel_rfl) (by kernel_rfl) (by kernel_rfl) (fun _ _ _ h => h) (Or.inl ⟨by rfl, ?_⟩) (by assumption) ?_
      rotate_left
      · intro w hSw; (try dsimp only at hSw); go_simp; try with_reducible rfl
      try simp only [Act.put, List.setIfInBounds_toArray, List.set_cons_zero, List.set_cons_succ]
      refine wpAnyH_done (by kernel_rfl) ?_ _
      all_goals
        go_wp2_with fail
        go_ret
        exact ⟨rfl, HWw.out.trans (HB7.out.mono HWw.out.size)⟩
end Go.Proofs.Ytjcdcmeclnihbaa
