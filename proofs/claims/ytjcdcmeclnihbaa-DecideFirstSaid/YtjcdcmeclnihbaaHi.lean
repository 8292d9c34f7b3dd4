/- The document's example holds; which places are hidden: the walk of the law. No conditions. -/
import Derived.Test.YtjcdcmeclnihbaaBr
import Derived.Test.YtjcdcmeclnihbaaGr
import Derived.Test.YtjcdcmeclnihbaaTt
namespace Go.Proofs.Ytjcdcmeclnihbaa
open Go.RowKit
set_option linter.unusedSimpArgs false
/-- The example's rule. -/
def exRule : Rl 1 := ⟨((0, 1, []) : Int × Int × List Empty), ((0, 2, []) : Int × Int × List Empty), false⟩
def exText : Tx 1 := ⟨[], [], [exRule]⟩
theorem ex_breaks : breaksP exText [2, 1, 2] = [true, true, false, true] := by kernel_rfl
set_option maxRecDepth 100000 in
set_option maxHeartbeats 2000000 in
theorem awake_any (w : World) : Calls Try.prog 12 #[] w fun e w' => e = .returned (.bool true) ∧ Below w.heap.size w w' := by
  go_enter Try.func12, Try.ntmps12
  go_wp2_with fail
  obtain ⟨W, hW0⟩ : ∃ W, W = ((w.alloc (.cells #[.int .i64 0, .int .i64 1, .slice none 0 0, .int .i64 0, .int .i64 2, .slice none 0 0, .bool false] 47)).alloc (.cells #[.slice none 0 0, .slice none 0 0, .slice (some ⟨w.heap.size, 0, none⟩) 1 1] 33)).alloc (.cells #[.int .i64 2, .int .i64 1, .int .i64 2] 3) := ⟨_, rfl⟩
  have HWb := hid (show Below w.heap.size w W by rw [hW0]; exact (((Below.refl _ _).alloc (Nat.le_refl _) _).alloc (by simp) _).alloc (by simp; omega) _)
  have HW := hid (alloc3 hW0)
  rw [← hW0]
  clear hW0
  have hnil : ∀ (v : Value), v = .slice none 0 0 → IsNums .i64 W Any v [] := fun v e => by rw [e]; exact ⟨none, 0, rfl, Nat.le_refl _, Nat.zero_le _, Arr.nil⟩
  have htree : ∀ (c : Int), IsTr W Any 1 (.agg #[.int .i64 0, .int .i64 c, .slice none 0 0]) ((0, c, []) : Int × Int × List Empty) := fun c =>
    ⟨none, 0, rfl, Nat.le_refl _, Nat.zero_le _, fun k t h => t.elim⟩
  have HTX := hid (show IsTx W Any 1 (.agg #[.slice none 0 0, .slice none 0 0, .slice (some ⟨w.heap.size, 0, none⟩) 1 1]) exText from
    ⟨_, _, some ⟨w.heap.size, 0, none⟩, 1, rfl, hnil _ rfl, hnil _ rfl, Nat.le_refl _, by unfold maxLen; omega, fun k r hr => by
      have hk : k = 0 ∧ r = exRule := by
        cases k with
        | zero => exact ⟨rfl, by simpa [exText] using hr.symm⟩
        | succ k => simp [exText] at hr
      obtain ⟨rfl, rfl⟩ := hk
      have hc : ∀ j v, #[Value.int .i64 0, .int .i64 1, .slice none 0 0, .int .i64 0, .int .i64 2, .slice none 0 0, .bool false][j]? = some v → W.cell? ⟨w.heap.size, j, none⟩ = some v := fun j v hv => by
        rw [cell_of_row _ _ _ _ _ _ HW.out.1]; exact hv
      exact ⟨w.heap.size, 0, _, _, _, _, _, _, rfl, trivial, by rw [HW.out.2.2.2]; omega, hc 0 _ rfl, hc 1 _ rfl, hc 2 _ rfl, hc 3 _ rfl, hc 4 _ rfl, hc 5 _ rfl, hc 6 _ rfl, htree 1, htree 2⟩⟩)
  have HNM := hid (show IsNums .i64 W Any (.slice (some ⟨w.heap.size + 2, 0, none⟩) 3 3) [2, 1, 2] from (IntBlk.nums (l := [2, 1, 2]) (e := 3) (k := .i64) (show IntBlk W (w.heap.size + 2) 3 .i64 [2, 1, 2] from HW.out.2.2.1) (by decide)).mono fun _ _ _ => trivial)
  clear hnil htree
  refine (Breaks_any 1 _ _ exText [2, 1, 2] W HTX.out HNM.out (by decide)).mono ?_
  rintro e w1 ⟨v1, rfl, hv1, hb1⟩
  rw [ex_breaks] at hv1
  have HV1 := hid hv1
  obtain ⟨A1, c1, rfl, -, -⟩ := hv1.open
  have HB1 := hid (HWb.out.trans (hb1.mono HWb.out.size))
  clear hv1 hb1
  go_wp2_with fail
  obtain ⟨W2, hW2⟩ : ∃ W2, W2 = w1.alloc (.cells #[.bool true, .bool true, .bool false, .bool true] 4) := ⟨_, rfl⟩
  have hbk : BoolBlk W2 w1.heap.size [true, true, false, true] := by unfold BoolBlk; rw [hW2]; exact heap_alloc_new _ _
  have hb2 : Below w1.heap.size w1 W2 := by rw [hW2]; exact (Below.refl _ _).alloc (Nat.le_refl _) _
  rw [← hW2]
  refine (is_any _ _ _ _ [true, true, false, true] [true, true, false, true] W2 (HV1.out.below hb2) (hbk.bools (by decide))).mono ?_
  rintro e w3 ⟨rfl, hb3⟩
  rw [decide_eq_true rfl]
  go_wp2_with fail
  go_ret
  exact ⟨rfl, HB1.out.trans ((hb2.trans (hb3.mono hb2.size)).mono HB1.out.size)⟩
set_option maxRecDepth 100000 in
set_option maxHeartbeats 4000000 in
theorem hides_walk (d : Nat) (v lv : Value) (t : Tx d) (ids : List Int) (w : World) (h : IsTx w Any d v t) (hl : IsNums .i64 w Any lv ids) :
    Calls Try.prog 4 #[v, lv] w fun e w' => e = .returned (.bool true) ∧ Below w.heap.size w w' := by
  obtain ⟨I, ic, K, kc, A, c, rfl, -, -, -, -, -, -⟩ := h.open
  have H := hid h
  clear h
  obtain ⟨M, cm, rfl⟩ := hl.form
  have hle := hl.le
  have HMw := hid hl
  clear hl
  obtain ⟨q, hq⟩ : ∃ q, q = w.heap.size := ⟨_, rfl⟩
  obtain ⟨W, hW0⟩ : ∃ W, W = w.alloc (.cells #[.slice I t.ig.length ic, .slice K t.kp.length kc, .slice A t.rs.length c] 25) := ⟨_, rfl⟩
  have HX := hid (box3 hW0)
  have HWw := hid HX.out.1
  have HT := hid (H.out.below HWw.out)
  have HM := hid (HMw.out.below HWw.out)
  rw [← hq] at HX
  clear H HMw
  cases hg : greatX t with
  | true =>
    have HG := hid hg
    clear hg
    go_enter Try.func4, Try.ntmps4
    go_wp2_with fail
    rw [← hW0]
    refine (great_any d _ t W HT.out).mono ?_
    rintro e w1 ⟨rfl, hb1⟩
    rw [HG.out]
    go_wp2_with fail
    refine (awake_any w1).mono ?_
    rintro e w2 ⟨rfl, hb2⟩
    go_wp2_with fail
    go_ret
    exact ⟨rfl, HWw.out.trans ((hb1.trans (hb2.mono hb1.size)).mono HWw.out.size)⟩
  | false =>
    have HG := hid hg
    obtain ⟨hn45, hcnt⟩ := great_no hg
    have HSM := hid (show t.rs.length ≤ 1000 ∧ ∀ r ∈ t.rs, cnt d r.L ≤ 2000 ∧ cnt d r.R ≤ 2000 from ⟨by omega, fun r hr => by have := hcnt r hr; omega⟩)
    have HSM2 := hid (show SmallT t from HSM.out.2)
    clear hg hn45 hcnt
    by_cases h60 : (60 : Int) < ids.length
    · have b60 := ilt_true h60
      clear h60
      go_enter Try.func4, Try.ntmps4
      go_wp2_with fail
      rw [← hW0]
      refine (great_any d _ t W HT.out).mono ?_
      rintro e w1 ⟨rfl, hb1⟩
      rw [HG.out]
      go_wp2_with fail
      refine (awake_any w1).mono ?_
      rintro e w2 ⟨rfl, hb2⟩
      go_wp2_with fail
      go_ret
      exact ⟨rfl, HWw.out.trans ((hb1.trans (hb2.mono hb1.size)).mono HWw.out.size)⟩
    · have b60 := ilt_false h60
      have hn60 : ids.length ≤ 60 := by omega
      clear h60
      go_enter Try.func4, Try.ntmps4
      go_wp2_with fail
      rw [← hW0]
      refine (great_any d _ t W HT.out).mono ?_
      rintro e w1 ⟨rfl, hb1⟩
      rw [HG.out]
      go_wp2_with fail
      refine (awake_any w1).mono ?_
      rintro e w2 ⟨rfl, hb2⟩
      have HB2 := hid (hb1.trans (hb2.mono hb1.size))
      clear hb1 hb2
      rw [← hq]
      clear hq hW0
      go_wp2_with fail
      refine wp_region_held_drew (S := (fun Y => Y.cell? ⟨q, 0, none⟩ = some (.slice I t.ig.length ic) ∧ Y.cell? ⟨q, 1, none⟩ = some (.slice K t.kp.length kc) ∧ Y.cell? ⟨q, 2, none⟩ = some (.slice A t.rs.length c))) (by kernel_rfl) (by exact HX.out.2 _ HB2.out.drew) (fun hHeld => ?_)
      refine wpAnyH_take (i := 0) (oi := { dst := some 17, op := Op.load 25 (Operand.tmp 2), type := _, pos := _, after := _, guard := none }) (v := ?_) rfl (by kernel_rfl) (by kernel_rfl) (by kernel_rfl) (fun _ _ _ h => h) (Or.inl ⟨by rfl, ?_⟩) (by assumption) ?_
      rotate_left
      · intro w hSw; (try dsimp only at hSw); go_simp; try with_reducible rfl
      try simp only [Act.put, List.setIfInBounds_toArray, List.set_cons_zero, List.set_cons_succ]
      refine wpAnyH_take (i := 2) (oi := { dst := some 19, op := Op.move (Operand.tmp 1), type := _, pos := _, after := _, guard := none }) (v := ?_) rfl (by kernel_rfl) (by kernel_rfl) (by kernel_rfl) (fun _ _ _ h => h) (Or.inl ⟨by rfl, ?_⟩) (by assumption) ?_
      rotate_left
      · intro w hSw; (try dsimp only at hSw); go_simp; try with_reducible rfl
      try simp only [Act.put, List.setIfInBounds_toArray, List.set_cons_zero, List.set_cons_succ]
      refine wpAnyH_take (i := 4) (oi := { dst := some 21, op := Op.load 25 (Operand.tmp 2), type := _, pos := _, after := _, guard := none }) (v := ?_) rfl (by kernel_rfl) (by kernel_rfl) (by kernel_rfl) (fun _ _ _ h => h) (Or.inl ⟨by rfl, ?_⟩) (by assumption) ?_
      rotate_left
      · intro w hSw; (try dsimp only at hSw); go_simp; try with_reducible rfl
      try simp only [Act.put, List.setIfInBounds_toArray, List.set_cons_zero, List.set_cons_succ]
      refine wpAnyH_take (i := 6) (oi := { dst := some 23, op := Op.move (Operand.tmp 1), type := _, pos := _, after := _, guard := none }) (v := ?_) rfl (by kernel_rfl) (by kernel_rfl) (by kernel_rfl) (fun _ _ _ h => h) (Or.inl ⟨by rfl, ?_⟩) (by assumption) ?_
      rotate_left
      · intro w hSw; (try dsimp only at hSw); go_simp; try with_reducible rfl
      try simp only [Act.put, List.setIfInBounds_toArray, List.set_cons_zero, List.set_cons_succ]
      refine wpAnyH_ready (rs := [1]) (by kernel_rfl) (by simp) ?_
      refine AllReadyH.cons (o := { dst := some 18, op := Op.call { callee := Callee.value (Operand.func 14), args := #[Operand.tmp 17], argTypes := #[25] }, type := _, pos := _, after := _, guard := none }) rfl (fun K hK => ?_) AllReadyH.nil
      go_simp
      refine (totext_any d _ t _ (HT.out.below HB2.out.drew) HSM.out.2 HSM.out.1).mono ?_; rintro e w3 ⟨v3, rfl, ht3, hb3⟩; have HB3 := hid (HB2.out.trans (((Below.refl w2.heap.size w2).drew.trans hb3).mono HB2.out.size)); have HT3 := hid ht3; obtain ⟨I3, ic3, K3, kc3, A3, c3, rfl, -, -, -, -, -, -⟩ := ht3.open; clear hb3 ht3; go_wp2_with fail
      refine hK.out _ _ (by exact HX.out.2 _ HB3.out) (fun hHeld => ?_)
      clear hK K
      try simp only [Act.put, List.setIfInBounds_toArray, List.set_cons_zero, List.set_cons_succ]
      refine wpAnyH_ready (rs := [3]) (by kernel_rfl) (by simp) ?_
      refine AllReadyH.cons (o := { dst := some 20, op := Op.call { callee := Callee.value (Operand.func 18), args := #[Operand.tmp 18, Operand.tmp 19], argTypes := #[33, 22] }, type := _, pos := _, after := _, guard := none }) rfl (fun K hK => ?_) AllReadyH.nil
      go_simp
      refine (Hidden_any d _ _ t ids _ HT3.out (HM.out.below HB3.out) (by omega)).mono ?_; rintro e w4 ⟨v4, rfl, hv4, hb4⟩; have HB4 := hid (HB3.out.trans (hb4.mono HB3.out.size)); have HV4 := hid hv4; obtain ⟨A4, c4, rfl, -, -⟩ := hv4.open; clear hb4 hv4; go_wp2_with fail
      refine hK.out _ _ (by exact HX.out.2 _ HB4.out) (fun hHeld => ?_)
      clear hK K
      try simp only [Act.put, List.setIfInBounds_toArray, List.set_cons_zero, List.set_cons_succ]
      refine wpAnyH_ready (rs := [5]) (by kernel_rfl) (by simp) ?_
      refine AllReadyH.cons (o := { dst := some 22, op := Op.call { callee := Callee.value (Operand.func 17), args := #[Operand.tmp 21], argTypes := #[25] }, type := _, pos := _, after := _, guard := none }) rfl (fun K hK => ?_) AllReadyH.nil
      go_simp
      refine (rknown_any Any d _ t _ (HT.out.below HB4.out) HSM2.out).mono ?_; rintro e w5 ⟨v5, rfl, ht5, hb5⟩; have HB5 := hid (HB4.out.trans (hb5.mono HB4.out.size)); have HV5 := hid (HV4.out.below hb5); have HT5 := hid ht5; obtain ⟨I5, ic5, K5, kc5, A5, c5, rfl, -, -, -, -, -, -⟩ := ht5.open; clear hb5 ht5; go_wp2_with fail
      refine hK.out _ _ (by exact HX.out.2 _ HB5.out) (fun hHeld => ?_)
      clear hK K
      try simp only [Act.put, List.setIfInBounds_toArray, List.set_cons_zero, List.set_cons_succ]
      refine wpAnyH_ready (rs := [7]) (by kernel_rfl) (by simp) ?_
      refine AllReadyH.cons (o := { dst := some 24, op := Op.call { callee := Callee.value (Operand.func 19), args := #[Operand.tmp 22, Operand.tmp 23], argTypes := #[25, 22] }, type := _, pos := _, after := _, guard := none }) rfl (fun K hK => ?_) AllReadyH.nil
      go_simp
      refine (rhidden_any d _ _ (knownT t) ids _ HT5.out (HM.out.below HB5.out) (by omega)).mono ?_; rintro e w6 ⟨v6, rfl, hv6, hb6⟩; have HB6 := hid (HB5.out.trans (hb6.mono HB5.out.size)); have HV6 := hid (HV5.out.below hb6); have HU6 := hid hv6; obtain ⟨A6, c6, rfl, -, -⟩ := hv6.open; clear hb6 hv6; go_wp2_with fail
      refine hK.out _ _ (by exact HX.out.2 _ HB6.out) (fun hHeld => ?_)
      clear hK K
      try simp only [Act.put, List.setIfInBounds_toArray, List.set_cons_zero, List.set_cons_succ]
      refine wpAnyH_ready (rs := [8]) (by kernel_rfl) (by simp) ?_
      refine AllReadyH.cons (o := { dst := some 25, op := Op.call { callee := Callee.value (Operand.func 15), args := #[Operand.tmp 20, Operand.tmp 24], argTypes := #[29, 28] }, type := _, pos := _, after := _, guard := none }) rfl (fun K hK => ?_) AllReadyH.nil
      go_simp
      refine (is_any _ _ _ _ _ _ _ HV6.out HU6.out).mono ?_; rintro e w7 ⟨rfl, hb7⟩; rw [decide_eq_true rfl]; have HB7 := hid (HB6.out.trans (hb7.mono HB6.out.size)); clear hb7; go_wp2_with fail
      refine hK.out _ _ (by exact HX.out.2 _ HB7.out) (fun hHeld => ?_)
      clear hK K
      try simp only [Act.put, List.setIfInBounds_toArray, List.set_cons_zero, List.set_cons_succ]
      refine wpAnyH_take (i := 9) (oi := { dst := some 4, op := Op.assign (Operand.tmp 25), type := _, pos := _, after := _, guard := none }) (v := ?_) rfl (by kernel_rfl) (by kernel_rfl) (by kernel_rfl) (fun _ _ _ h => h) (Or.inl ⟨by rfl, ?_⟩) (by assumption) ?_
      rotate_left
      · intro w hSw; (try dsimp only at hSw); go_simp; try with_reducible rfl
      try simp only [Act.put, List.setIfInBounds_toArray, List.set_cons_zero, List.set_cons_succ]
      refine wpAnyH_done (by kernel_rfl) ?_ _
      all_goals
        go_wp2_with fail
        go_ret
        exact ⟨rfl, HWw.out.trans (HB7.out.mono HWw.out.size)⟩
end Go.Proofs.Ytjcdcmeclnihbaa
