/- Whether two lists of bools are the same: the law's Is; whether a meaning is more than is asked: Great; a meaning, or none: the document's Known. No conditions but Known's. -/
import Derived.Test.YtjcdcmeclnihbaaKn
import Derived.Test.YtjcdcmeclnihbaaRg
namespace Go.Proofs.Ytjcdcmeclnihbaa
open Go.RowKit
set_option linter.unusedSimpArgs false
theorem takeB_succ {l : List Bool} {k : Nat} (h : k < l.length) : l.take (k + 1) = l.take k ++ [nthB l k] := by
  rw [List.take_add_one, some_nthB h]; rfl
set_option maxRecDepth 100000 in
set_option maxHeartbeats 2000000 in
theorem is_any (S S' : Nat → Prop) (va vb : Value) (a b : List Bool) (w : World) (ha : IsBools w S va a) (hb : IsBools w S' vb b) :
    Calls Try.prog 15 #[va, vb] w fun e w' => e = .returned (.bool (decide (a = b))) ∧ Below w.heap.size w w' := by
  obtain ⟨A, ca, rfl, hla, hA⟩ := ha.open
  obtain ⟨B, cb, rfl, hlb, hB⟩ := hb.open
  have HA := hid hA
  have HB := hid hB
  clear hA hB ha hb
  by_cases hl : a.length = b.length
  · have hLL := hid hl
    rw [← hl] at hlb ⊢
    obtain ⟨n, hn⟩ : ∃ n, n = a.length := ⟨_, rfl⟩
    have HN := hid hn
    rw [← hn] at hla ⊢
    clear hl hn hlb
    have bnn : ((n : Int) != (n : Int)) = false := ine_false rfl
    go_enter Try.func15, Try.ntmps15
    go_wp2_with fail
    go_loopw [5] (fun s5 wr => ∃ k : Nat, k ≤ n ∧ s5 = .int .i64 k ∧ Hid (a.take k = b.take k) ∧ Hid (Below w.heap.size w wr)) (fun s5 _ => n - (intOf s5).toNat)
    case atStart => exact ⟨0, by omega, rfl, hid rfl, hid (Below.refl _ _)⟩
    case round =>
      obtain ⟨k, hk, rfl, HT, HW⟩ := hrel
      by_cases hlt : k < n
      · have hka : k < a.length := by rw [← HN.out]; exact hlt
        have hkb : k < b.length := by rw [← hLL.out, ← HN.out]; exact hlt
        obtain ⟨b1, o1, rfl, -, -, hc1⟩ := (HA.out.below HW.out).bool hka
        obtain ⟨b2, o2, rfl, -, -, hc2⟩ := (HB.out.below HW.out).bool hkb
        have hst : nthB a k = nthB b k → Hid (a.take (k + 1) = b.take (k + 1)) := fun e => hid (by rw [takeB_succ hka, takeB_succ hkb, HT.out, e])
        have hne : nthB a k ≠ nthB b k → Hid (false = decide (a = b)) := fun e => hid (decide_eq_false (fun h => e (by rw [h]))).symm
        have HST := hid hst
        have HNE := hid hne
        clear hst hne hka hkb
        obtain ⟨x, hx⟩ : ∃ x, x = nthB a k := ⟨_, rfl⟩
        obtain ⟨y, hy⟩ : ∃ y, y = nthB b k := ⟨_, rfl⟩
        rw [← hx] at hc1 HST HNE
        rw [← hy] at hc2 HST HNE
        clear hx hy
        cases x <;> cases y
        · have HN2 := HST.out rfl
          go_wp2_with fail
          go_quiet (fail)
          go_wp2_with fail
          go_roundw
          case rel => exact ⟨k + 1, by omega, by go_num, HN2, hid (below_drewN HW.out _)⟩
          case measure => simp [intOf]; omega
        · have HE := HNE.out (by simp)
          go_wp2_with fail
          go_quiet (fail)
          go_wp2_with fail
          go_ret
          exact ⟨ret_bool HE.out, below_drewN HW.out _⟩
        · have HE := HNE.out (by simp)
          go_wp2_with fail
          go_quiet (fail)
          go_wp2_with fail
          go_ret
          exact ⟨ret_bool HE.out, below_drewN HW.out _⟩
        · have HN2 := HST.out rfl
          go_wp2_with fail
          go_quiet (fail)
          go_wp2_with fail
          go_roundw
          case rel => exact ⟨k + 1, by omega, by go_num, HN2, hid (below_drewN HW.out _)⟩
          case measure => simp [intOf]; omega
      · obtain rfl : k = n := by omega
        have HE := hid (show true = decide (a = b) from (decide_eq_true (by
          have h := HT.out
          rw [HN.out, List.take_length, hLL.out, List.take_length] at h
          exact h)).symm)
        go_wp2_with fail
        go_ret
        exact ⟨ret_bool HE.out, HW.out⟩
  · have bl : ((a.length : Int) != (b.length : Int)) = true := ine_true (by omega)
    have HE := hid (show false = decide (a = b) from (decide_eq_false (fun h => hl (by rw [h]))).symm)
    clear hl
    go_enter Try.func15, Try.ntmps15
    go_wp2_with fail
    go_ret
    exact ⟨ret_bool HE.out, Below.refl _ _⟩
def gsum {d : Nat} : Int → List (Rl d) → Int
  | s, [] => s
  | s, r :: l => if s ≤ 150 then gsum (s + sizeT d 150 r.L + sizeT d 150 r.R) l else s
def greatX {d : Nat} (t : Tx d) : Bool := decide ((45 : Int) < t.rs.length) || decide ((40 : Int) < t.ig.length) || decide ((40 : Int) < t.kp.length) || decide (150 < gsum 0 t.rs)
theorem gsum_small {d : Nat} (l : List (Rl d)) : ∀ s : Int, 0 ≤ s → gsum s l ≤ 150 → s ≤ 150 ∧ ∀ r ∈ l, cnt d r.L ≤ 150 ∧ cnt d r.R ≤ 150 := by
  induction l with
  | nil => intro s _ h; exact ⟨h, fun r hr => by simp at hr⟩
  | cons r l ih =>
    intro s hs h
    simp only [gsum] at h
    split at h
    · rename_i hle
      have hL := sizeT_bd d 150 r.L (by omega)
      have hR := sizeT_bd d 150 r.R (by omega)
      obtain ⟨h1, h2⟩ := ih _ (by omega) h
      refine ⟨hle, fun x hx => ?_⟩
      rcases List.mem_cons.1 hx with rfl | hx
      · have e1 := (sizeT_le (d := d) (most := 150) (t := x.L) (by omega)).1 (by omega)
        have e2 := (sizeT_le (d := d) (most := 150) (t := x.R) (by omega)).1 (by omega)
        omega
      · exact h2 x hx
    · exact ⟨by omega, by omega⟩
theorem great_no {d : Nat} {t : Tx d} (h : greatX t = false) : t.rs.length ≤ 45 ∧ ∀ r ∈ t.rs, cnt d r.L ≤ 150 ∧ cnt d r.R ≤ 150 := by
  simp only [greatX, Bool.or_eq_false_iff, decide_eq_false_iff_not] at h
  exact ⟨by omega, (gsum_small t.rs 0 (by omega) (by omega)).2⟩
set_option maxRecDepth 100000 in
set_option maxHeartbeats 4000000 in
theorem great_any (d : Nat) (v : Value) (t : Tx d) (w : World) (h : IsTx w Any d v t) :
    Calls Try.prog 11 #[v] w fun e w' => e = .returned (.bool (greatX t)) ∧ Below w.heap.size w w' := by
  obtain ⟨I, ic, K, kc, A, c, rfl, -, -, lI, lK, lA, hA⟩ := h.open
  clear h
  obtain ⟨ni, hni⟩ : ∃ ni, ni = t.ig.length := ⟨_, rfl⟩
  obtain ⟨nk, hnk⟩ : ∃ nk, nk = t.kp.length := ⟨_, rfl⟩
  obtain ⟨l, hl⟩ : ∃ l, l = t.rs := ⟨_, rfl⟩
  have HE := hid (show ∀ a b e f, decide ((45 : Int) < l.length) = a → decide ((40 : Int) < ni) = b → decide ((40 : Int) < nk) = e → decide (150 < gsum 0 l) = f → greatX t = (a || b || e || f) from fun a b e f h1 h2 h3 h4 => by
    unfold greatX; rw [← hl, ← hni, ← hnk, h1, h2, h3, h4])
  rw [← hni] at lI
  rw [← hnk] at lK
  rw [← hl] at lA hA
  rw [← hni, ← hnk, ← hl]
  clear hni hnk hl
  obtain ⟨q, hq⟩ : ∃ q, q = w.heap.size := ⟨_, rfl⟩
  have HQ := hid hq
  obtain ⟨W, hW0⟩ : ∃ W, W = w.alloc (.cells #[.slice I ni ic, .slice K nk kc, .slice A l.length c] 26) := ⟨_, rfl⟩
  have HX := hid (box3 hW0)
  rw [← hq] at HX
  have HKw := hid hA
  clear hA
  by_cases h1 : (45 : Int) < l.length
  · have b1 := ilt_true h1
    have HF := hid (show true = greatX t by rw [HE.out _ _ _ _ b1 rfl rfl rfl]; simp)
    clear h1
    go_enter Try.func11, Try.ntmps11
    go_wp2_with fail
    go_ret
    exact ⟨ret_bool HF.out, by rw [← hW0, ← HQ.out]; exact HX.out.1⟩
  have b1 := ilt_false h1
  by_cases h2 : (40 : Int) < ni
  · have b2 := ilt_true h2
    have HF := hid (show true = greatX t by rw [HE.out _ _ _ _ b1 b2 rfl rfl]; simp)
    clear h1 h2
    go_enter Try.func11, Try.ntmps11
    go_wp2_with fail
    go_ret
    exact ⟨ret_bool HF.out, by rw [← hW0, ← HQ.out]; exact HX.out.1⟩
  have b2 := ilt_false h2
  by_cases h3 : (40 : Int) < nk
  · have b3 := ilt_true h3
    have HF := hid (show true = greatX t by rw [HE.out _ _ _ _ b1 b2 b3 rfl]; simp)
    clear h1 h2 h3
    go_enter Try.func11, Try.ntmps11
    go_wp2_with fail
    go_ret
    exact ⟨ret_bool HF.out, by rw [← hW0, ← HQ.out]; exact HX.out.1⟩
  have b3 := ilt_false h3
  have HF := hid (show greatX t = decide (150 < gsum 0 l) by rw [HE.out _ _ _ _ b1 b2 b3 rfl]; simp)
  have hl45 : l.length ≤ 45 := by omega
  clear h1 h2 h3 HE
  go_enter Try.func11, Try.ntmps11
  go_wp2_with fail
  rw [← hW0, ← hq]
  clear hW0 hq
  obtain ⟨i0, i1, i2⟩ := HX.out.2 W (Below.refl _ _)
  go_wp2_with fail
  go_loopw [3, 4] (fun s3 s4 wr => ∃ (k : Nat) (s : Int), k ≤ l.length ∧ s4 = .int .i64 k ∧ s3 = .int .i64 s ∧ 0 ≤ s ∧ s ≤ 452 ∧ Hid (gsum s (l.drop k) = gsum 0 l) ∧ Hid (Below W.heap.size W wr)) (fun _ s4 _ => l.length - (intOf s4).toNat)
  case atStart => exact ⟨0, 0, by omega, rfl, rfl, by omega, by omega, hid rfl, hid (Below.refl _ _)⟩
  case round =>
    obtain ⟨k, s, hk, rfl, rfl, hs0, hs1, HT, HW⟩ := hrel
    obtain ⟨f0, f1, f2⟩ := HX.out.2 _ HW.out
    clear i0 i1 i2
    by_cases hlt : k < l.length
    · by_cases hsm : s ≤ 150
      · have bs := ile_true hsm
        obtain ⟨b, o, k0, k1, A0, n0, p0, j0, j1, A1, n1, p1, rfl, -, hbs, c0, c1, c2, c3, c4, c5, -, hL, hR⟩ := (HKw.out.below (by rw [← HQ.out]; exact HX.out.1)).at (List.getElem?_eq_getElem hlt)
        have HS := hid (show ∀ Y : World, Below W.heap.size W Y → Y.cell? ⟨q, 2, none⟩ = some (.slice (some ⟨b, o, none⟩) l.length c) ∧ Y.cell? ⟨b, o + k * 7, none⟩ = some (.int .i64 k0) ∧ Y.cell? ⟨b, o + k * 7 + 1, none⟩ = some (.int .i64 k1) ∧ Y.cell? ⟨b, o + k * 7 + 2, none⟩ = some (.slice A0 n0 p0) ∧ Y.cell? ⟨b, o + k * 7 + 3, none⟩ = some (.int .i64 j0) ∧ Y.cell? ⟨b, o + k * 7 + 4, none⟩ = some (.int .i64 j1) ∧ Y.cell? ⟨b, o + k * 7 + 5, none⟩ = some (.slice A1 n1 p1) from fun Y hY => by
          have hb1 : Y.heap[b]? = W.heap[b]? := hY.block b hbs
          exact ⟨(HX.out.2 Y hY).2.2, (cell_same hb1).trans c0, (cell_same hb1).trans c1, (cell_same hb1).trans c2, (cell_same hb1).trans c3, (cell_same hb1).trans c4, (cell_same hb1).trans c5⟩)
        have HLD := hid ((hL.below HW.out).keep (w' := wr.drew) (fun _ _ _ => rfl))
        have HRD := hid (hR.below HW.out)
        obtain ⟨z1, hz1⟩ : ∃ z1, z1 = sizeT d 150 l[k].L := ⟨_, rfl⟩
        obtain ⟨z2, hz2⟩ : ∃ z2, z2 = sizeT d 150 l[k].R := ⟨_, rfl⟩
        have HZ1 := hid hz1
        have HZ2 := hid hz2
        have hzb1 := sizeT_bd d 150 l[k].L (by omega)
        have hzb2 := sizeT_bd d 150 l[k].R (by omega)
        rw [← hz1] at hzb1
        rw [← hz2] at hzb2
        have HN := hid (show gsum (s + z1 + z2) (l.drop (k + 1)) = gsum 0 l by
          rw [← HT.out, List.drop_eq_getElem_cons hlt]; simp only [gsum]; rw [if_pos hsm, hz1, hz2])
        have hy1 : 1 ≤ z1 := hzb1.1
        have hy2 : z1 ≤ 151 := by omega
        have hy3 : 1 ≤ z2 := hzb2.1
        have hy4 : z2 ≤ 151 := by omega
        have hw1 : IntKind.i64.wrap (s + z1) = s + z1 := by rw [IntKind.wrap_i64]; omega
        have hw2 : IntKind.i64.wrap (s + z1 + z2) = s + z1 + z2 := by rw [IntKind.wrap_i64]; omega
        clear hL hR c0 c1 c2 c3 c4 c5 hz1 hz2 hzb1 hzb2
        go_wp2_with fail
        refine wp_region_held_drew (S := (fun Y => Y.cell? ⟨q, 2, none⟩ = some (.slice (some ⟨b, o, none⟩) l.length c) ∧ Y.cell? ⟨b, o + k * 7, none⟩ = some (.int .i64 k0) ∧ Y.cell? ⟨b, o + k * 7 + 1, none⟩ = some (.int .i64 k1) ∧ Y.cell? ⟨b, o + k * 7 + 2, none⟩ = some (.slice A0 n0 p0) ∧ Y.cell? ⟨b, o + k * 7 + 3, none⟩ = some (.int .i64 j0) ∧ Y.cell? ⟨b, o + k * 7 + 4, none⟩ = some (.int .i64 j1) ∧ Y.cell? ⟨b, o + k * 7 + 5, none⟩ = some (.slice A1 n1 p1))) (by kernel_rfl) (by exact HS.out _ HW.out.drew) (fun hHeld => ?_)
        refine wpAnyH_take (i := 0) (oi := { dst := some 32, op := Op.move (Operand.tmp 3), type := _, pos := _, after := _, guard := none }) (v := ?_) rfl (by kernel_rfl) (by kernel_rfl) (by kernel_rfl) (fun _ _ _ h => h) (Or.inl ⟨by rfl, ?_⟩) (by assumption) ?_
        rotate_left
        · intro w hSw; (try dsimp only at hSw); go_simp; try with_reducible rfl
        try simp only [Act.put, List.setIfInBounds_toArray, List.set_cons_zero, List.set_cons_succ]
        refine wpAnyH_take (i := 1) (oi := { dst := some 33, op := Op.fieldAddr 26 (Operand.tmp 1) 2, type := _, pos := _, after := _, guard := none }) (v := ?_) rfl (by kernel_rfl) (by kernel_rfl) (by kernel_rfl) (fun _ _ _ h => h) (Or.inl ⟨by rfl, ?_⟩) (by assumption) ?_
        rotate_left
        · intro w hSw; (try dsimp only at hSw); go_simp; try with_reducible rfl
        try simp only [Act.put, List.setIfInBounds_toArray, List.set_cons_zero, List.set_cons_succ]
        refine wpAnyH_take (i := 2) (oi := { dst := some 34, op := Op.load 23 (Operand.tmp 33), type := _, pos := _, after := _, guard := none }) (v := ?_) rfl (by kernel_rfl) (by kernel_rfl) (by kernel_rfl) (fun _ _ _ h => h) (Or.inl ⟨by rfl, ?_⟩) (by assumption) ?_
        rotate_left
        · intro w hSw; (try dsimp only at hSw); go_simp; try with_reducible rfl
        try simp only [Act.put, List.setIfInBounds_toArray, List.set_cons_zero, List.set_cons_succ]
        refine wpAnyH_take (i := 3) (oi := { dst := some 35, op := Op.move (Operand.tmp 4), type := _, pos := _, after := _, guard := none }) (v := ?_) rfl (by kernel_rfl) (by kernel_rfl) (by kernel_rfl) (fun _ _ _ h => h) (Or.inl ⟨by rfl, ?_⟩) (by assumption) ?_
        rotate_left
        · intro w hSw; (try dsimp only at hSw); go_simp; try with_reducible rfl
        try simp only [Act.put, List.setIfInBounds_toArray, List.set_cons_zero, List.set_cons_succ]
        refine wpAnyH_take (i := 4) (oi := { dst := some 36, op := Op.indexAddr 23 (Operand.tmp 34) (Operand.tmp 35), type := _, pos := _, after := _, guard := none }) (v := ?_) rfl (by kernel_rfl) (by kernel_rfl) (by kernel_rfl) (fun _ _ _ h => h) (Or.inl ⟨by rfl, ?_⟩) (by assumption) ?_
        rotate_left
        · intro w hSw; (try dsimp only at hSw); go_simp; try with_reducible rfl
        try simp only [Act.put, List.setIfInBounds_toArray, List.set_cons_zero, List.set_cons_succ]
        refine wpAnyH_take (i := 5) (oi := { dst := some 37, op := Op.fieldAddr 72 (Operand.tmp 36) 0, type := _, pos := _, after := _, guard := none }) (v := ?_) rfl (by kernel_rfl) (by kernel_rfl) (by kernel_rfl) (fun _ _ _ h => h) (Or.inl ⟨by rfl, ?_⟩) (by assumption) ?_
        rotate_left
        · intro w hSw; (try dsimp only at hSw); go_simp; try with_reducible rfl
        try simp only [Act.put, List.setIfInBounds_toArray, List.set_cons_zero, List.set_cons_succ]
        refine wpAnyH_take (i := 6) (oi := { dst := some 38, op := Op.load 51 (Operand.tmp 37), type := _, pos := _, after := _, guard := none }) (v := ?_) rfl (by kernel_rfl) (by kernel_rfl) (by kernel_rfl) (fun _ _ _ h => h) (Or.inl ⟨by rfl, ?_⟩) (by assumption) ?_
        rotate_left
        · intro w hSw; (try dsimp only at hSw); go_simp; try with_reducible rfl
        try simp only [Act.put, List.setIfInBounds_toArray, List.set_cons_zero, List.set_cons_succ]
        refine wpAnyH_take (i := 9) (oi := { dst := some 41, op := Op.fieldAddr 26 (Operand.tmp 1) 2, type := _, pos := _, after := _, guard := none }) (v := ?_) rfl (by kernel_rfl) (by kernel_rfl) (by kernel_rfl) (fun _ _ _ h => h) (Or.inl ⟨by rfl, ?_⟩) (by assumption) ?_
        rotate_left
        · intro w hSw; (try dsimp only at hSw); go_simp; try with_reducible rfl
        try simp only [Act.put, List.setIfInBounds_toArray, List.set_cons_zero, List.set_cons_succ]
        refine wpAnyH_take (i := 10) (oi := { dst := some 42, op := Op.load 23 (Operand.tmp 41), type := _, pos := _, after := _, guard := none }) (v := ?_) rfl (by kernel_rfl) (by kernel_rfl) (by kernel_rfl) (fun _ _ _ h => h) (Or.inl ⟨by rfl, ?_⟩) (by assumption) ?_
        rotate_left
        · intro w hSw; (try dsimp only at hSw); go_simp; try with_reducible rfl
        try simp only [Act.put, List.setIfInBounds_toArray, List.set_cons_zero, List.set_cons_succ]
        refine wpAnyH_take (i := 11) (oi := { dst := some 43, op := Op.move (Operand.tmp 4), type := _, pos := _, after := _, guard := none }) (v := ?_) rfl (by kernel_rfl) (by kernel_rfl) (by kernel_rfl) (fun _ _ _ h => h) (Or.inl ⟨by rfl, ?_⟩) (by assumption) ?_
        rotate_left
        · intro w hSw; (try dsimp only at hSw); go_simp; try with_reducible rfl
        try simp only [Act.put, List.setIfInBounds_toArray, List.set_cons_zero, List.set_cons_succ]
        refine wpAnyH_take (i := 12) (oi := { dst := some 44, op := Op.indexAddr 23 (Operand.tmp 42) (Operand.tmp 43), type := _, pos := _, after := _, guard := none }) (v := ?_) rfl (by kernel_rfl) (by kernel_rfl) (by kernel_rfl) (fun _ _ _ h => h) (Or.inl ⟨by rfl, ?_⟩) (by assumption) ?_
        rotate_left
        · intro w hSw; (try dsimp only at hSw); go_simp; try with_reducible rfl
        try simp only [Act.put, List.setIfInBounds_toArray, List.set_cons_zero, List.set_cons_succ]
        refine wpAnyH_take (i := 13) (oi := { dst := some 45, op := Op.fieldAddr 72 (Operand.tmp 44) 1, type := _, pos := _, after := _, guard := none }) (v := ?_) rfl (by kernel_rfl) (by kernel_rfl) (by kernel_rfl) (fun _ _ _ h => h) (Or.inl ⟨by rfl, ?_⟩) (by assumption) ?_
        rotate_left
        · intro w hSw; (try dsimp only at hSw); go_simp; try with_reducible rfl
        try simp only [Act.put, List.setIfInBounds_toArray, List.set_cons_zero, List.set_cons_succ]
        refine wpAnyH_take (i := 14) (oi := { dst := some 46, op := Op.load 51 (Operand.tmp 45), type := _, pos := _, after := _, guard := none }) (v := ?_) rfl (by kernel_rfl) (by kernel_rfl) (by kernel_rfl) (fun _ _ _ h => h) (Or.inl ⟨by rfl, ?_⟩) (by assumption) ?_
        rotate_left
        · intro w hSw; (try dsimp only at hSw); go_simp; try with_reducible rfl
        try simp only [Act.put, List.setIfInBounds_toArray, List.set_cons_zero, List.set_cons_succ]
        refine wpAnyH_ready (rs := [7]) (by kernel_rfl) (by simp) ?_
        refine AllReadyH.cons (o := { dst := some 39, op := Op.call { callee := Callee.value (Operand.func 36), args := #[Operand.tmp 38, Operand.const (Value.int IntKind.i64 150)], argTypes := #[51, 3] }, type := _, pos := _, after := _, guard := none }) rfl (fun K hK => ?_) AllReadyH.nil
        go_simp
        refine (size_any Any d _ _ _ _ HLD.out (by omega) (by omega)).mono ?_; rintro e w1 ⟨rfl, hb1⟩; have HB1 := hid ((Below.refl wr.heap.size wr).drew.trans hb1); have HW1 := hid (HW.out.trans (HB1.out.mono HW.out.size)); rw [← HZ1.out]; clear hb1; go_wp2_with fail
        refine hK.out _ _ (by exact HS.out _ HW1.out) (fun hHeld => ?_)
        clear hK K
        try simp only [Act.put, List.setIfInBounds_toArray, List.set_cons_zero, List.set_cons_succ]
        refine wpAnyH_take (i := 8) (oi := { dst := some 40, op := Op.binOp BinOp.add 3 (Operand.tmp 32) (Operand.tmp 39) 3, type := _, pos := _, after := _, guard := none }) (v := ?_) rfl (by kernel_rfl) (by kernel_rfl) (by kernel_rfl) (fun _ _ _ h => h) (Or.inl ⟨by rfl, ?_⟩) (by assumption) ?_
        rotate_left
        · intro w hSw; (try dsimp only at hSw); go_simp; try with_reducible rfl
        try simp only [Act.put, List.setIfInBounds_toArray, List.set_cons_zero, List.set_cons_succ]
        refine wpAnyH_ready (rs := [15]) (by kernel_rfl) (by simp) ?_
        refine AllReadyH.cons (o := { dst := some 47, op := Op.call { callee := Callee.value (Operand.func 36), args := #[Operand.tmp 46, Operand.const (Value.int IntKind.i64 150)], argTypes := #[51, 3] }, type := _, pos := _, after := _, guard := none }) rfl (fun K hK => ?_) AllReadyH.nil
        go_simp
        refine (size_any Any d _ _ _ _ (HRD.out.below HB1.out) (by omega) (by omega)).mono ?_; rintro e w2 ⟨rfl, hb2⟩; have HW2 := hid (HW1.out.trans (hb2.mono HW1.out.size)); rw [← HZ2.out]; clear hb2; go_wp2_with fail
        refine hK.out _ _ (by exact HS.out _ HW2.out) (fun hHeld => ?_)
        clear hK K
        try simp only [Act.put, List.setIfInBounds_toArray, List.set_cons_zero, List.set_cons_succ]
        refine wpAnyH_take (i := 16) (oi := { dst := some 48, op := Op.binOp BinOp.add 3 (Operand.tmp 40) (Operand.tmp 47) 3, type := _, pos := _, after := _, guard := none }) (v := ?_) rfl (by kernel_rfl) (by kernel_rfl) (by kernel_rfl) (fun _ _ _ h => h) (Or.inl ⟨by rfl, ?_⟩) (by assumption) ?_
        rotate_left
        · intro w hSw; (try dsimp only at hSw); go_simp; try with_reducible rfl
        try simp only [Act.put, List.setIfInBounds_toArray, List.set_cons_zero, List.set_cons_succ]
        refine wpAnyH_take (i := 17) (oi := { dst := some 3, op := Op.assign (Operand.tmp 48), type := _, pos := _, after := _, guard := none }) (v := ?_) rfl (by kernel_rfl) (by kernel_rfl) (by kernel_rfl) (fun _ _ _ h => h) (Or.inl ⟨by rfl, ?_⟩) (by assumption) ?_
        rotate_left
        · intro w hSw; (try dsimp only at hSw); go_simp; try with_reducible rfl
        try simp only [Act.put, List.setIfInBounds_toArray, List.set_cons_zero, List.set_cons_succ]
        refine wpAnyH_done (by kernel_rfl) ?_ _
        all_goals
          go_wp2_with fail
          go_roundw
          case rel => exact ⟨k + 1, s + z1 + z2, by omega, by go_num, by go_num, by omega, by omega, HN, HW2⟩
          case measure => simp [intOf]; omega
      · have bs := ile_false hsm
        have HE := hid (show s = gsum 0 l by rw [← HT.out, List.drop_eq_getElem_cons hlt]; simp only [gsum]; rw [if_neg hsm])
        go_wp2_with fail
        go_ret
        exact ⟨ret_bool (by rw [HF.out, ← HE.out]; exact (decide_eq_true (by omega)).symm), by rw [← HQ.out]; exact HX.out.1.trans (HW.out.mono (by rw [HQ.out]; exact HX.out.1.size))⟩
    · have HE := hid (show s = gsum 0 l by rw [← HT.out, List.drop_eq_nil_of_le (by omega)]; rfl)
      go_wp2_with fail
      go_ret
      exact ⟨ret_bool (by rw [HF.out, ← HE.out]), by rw [← HQ.out]; exact HX.out.1.trans (HW.out.mono (by rw [HQ.out]; exact HX.out.1.size))⟩
set_option maxRecDepth 100000 in
set_option maxHeartbeats 2000000 in
theorem rknown_any (S : Nat → Prop) (d : Nat) (v : Value) (t : Tx d) (w : World) (h : IsTx w S d v t) (hs : SmallT t) :
    Calls Try.prog 17 #[v] w fun e w' => ∃ v', e = .returned v' ∧ IsTx w' S d v' (knownT t) ∧ Below w.heap.size w w' := by
  have H := hid h
  obtain ⟨I, ic, K, kc, A, c, rfl, -, -, -, -, -, -⟩ := h.open
  clear h
  obtain ⟨q, hq⟩ : ∃ q, q = w.heap.size := ⟨_, rfl⟩
  have HQ := hid hq
  obtain ⟨W, hW0⟩ : ∃ W, W = (w.alloc (.cells #[.slice I t.ig.length ic, .slice K t.kp.length kc, .slice A t.rs.length c] 25)).alloc (.cells #[.slice none 0 0, .slice none 0 0, .slice none 0 0] 25) := ⟨_, rfl⟩
  have HWW := hid (alloc2 hW0)
  rw [← hq] at HWW
  have HWw := hid (show Below w.heap.size w W by rw [← HQ.out]; exact HWW.out.2.2.2)
  have HT := hid (H.out.below HWw.out)
  cases hr : txB t with
  | false =>
    have HR := hid hr
    have HE := hid (show knownT t = ⟨[], [], []⟩ by unfold knownT; rw [hr]; rfl)
    clear hr
    go_enter Try.func17, Try.ntmps17
    go_wp2_with fail
    rw [← hW0]
    refine (rtxRight_any S d _ t W HT.out hs).mono ?_
    rintro e w1 ⟨rfl, hb1⟩
    rw [HR.out, ← hq]
    have HP := hid ((hb1.block (q + 1) (by rw [HWW.out.2.2.1]; omega)).trans HWW.out.2.1)
    have HB1 := hid (show Below q w w1 by rw [HQ.out]; exact HWw.out.trans (hb1.mono HWw.out.size))
    clear hb1 hW0 hq
    obtain ⟨h0, h1, h2, hf⟩ := slot3 HP.out
    have hf0 := hf 0
    have hf1 := hf 1
    have hf2 := hf 2
    clear hf
    go_wp2_with fail
    obtain ⟨e0, e1, e2, -⟩ := slot3 (put3 (.slice none 0 0) (.slice none 0 0) (.slice none 0 0) HP.out)
    refine bodyPost_ret (v := .agg #[.slice none 0 0, .slice none 0 0, .slice none 0 0]) (by simp [results, Try.results17, go_sem, e0, e1, e2]) rfl ⟨_, rfl, ?_, ?_⟩
    · rw [HE.out]; exact IsTx.nil _ _ _
    · rw [← HQ.out]
      exact ((HB1.out.setCell (p := ⟨q + 1, 0, none⟩) (by show q ≤ q + 1; omega) _).setCell (p := ⟨q + 1, 1, none⟩) (by show q ≤ q + 1; omega) _).setCell (p := ⟨q + 1, 2, none⟩) (by show q ≤ q + 1; omega) _
  | true =>
    have HR := hid hr
    have HE := hid (show knownT t = t by unfold knownT; rw [hr]; rfl)
    clear hr
    go_enter Try.func17, Try.ntmps17
    go_wp2_with fail
    rw [← hW0]
    refine (rtxRight_any S d _ t W HT.out hs).mono ?_
    rintro e w1 ⟨rfl, hb1⟩
    rw [HR.out, ← hq]
    have HP := hid ((hb1.block (q + 1) (by rw [HWW.out.2.2.1]; omega)).trans HWW.out.2.1)
    have HX := hid ((hb1.block q (by rw [HWW.out.2.2.1]; omega)).trans HWW.out.1)
    have HB1 := hid (show Below q w w1 by rw [HQ.out]; exact HWw.out.trans (hb1.mono HWw.out.size))
    clear hb1 hW0 hq
    obtain ⟨h0, h1, h2, hf⟩ := slot3 HP.out
    have hf0 := hf 0
    have hf1 := hf 1
    have hf2 := hf 2
    clear hf
    obtain ⟨g0, g1, g2, -⟩ := slot3 HX.out
    go_wp2_with fail
    obtain ⟨e0, e1, e2, -⟩ := slot3 (put3 (.slice I t.ig.length ic) (.slice K t.kp.length kc) (.slice A t.rs.length c) HP.out)
    have hbf : Below q w (((w1.setCell ⟨q + 1, 0, none⟩ (.slice I t.ig.length ic)).setCell ⟨q + 1, 1, none⟩ (.slice K t.kp.length kc)).setCell ⟨q + 1, 2, none⟩ (.slice A t.rs.length c)) :=
      ((HB1.out.setCell (p := ⟨q + 1, 0, none⟩) (by show q ≤ q + 1; omega) _).setCell (p := ⟨q + 1, 1, none⟩) (by show q ≤ q + 1; omega) _).setCell (p := ⟨q + 1, 2, none⟩) (by show q ≤ q + 1; omega) _
    refine bodyPost_ret (v := .agg #[.slice I t.ig.length ic, .slice K t.kp.length kc, .slice A t.rs.length c]) (by simp [results, Try.results17, go_sem, e0, e1, e2]) rfl ⟨_, rfl, ?_, ?_⟩
    · rw [HE.out]; rw [HQ.out] at hbf; rw [HQ.out]; exact H.out.below hbf
    · rw [← HQ.out]; exact hbf
end Go.Proofs.Ytjcdcmeclnihbaa
