/- By one of both tables; by the first one, then by the second one: the document's either and times: the walks. Condition: at most a thousand places. -/
import Derived.Test.YtjcdcmeclnihbaaEi
import Derived.Test.YtjcdcmeclnihbaaLf
namespace Go.Proofs.Ytjcdcmeclnihbaa
open Go.RowKit
set_option linter.unusedSimpArgs false
/-- A table's places, at any later world. -/
theorem IsTab.at {w : World} {n : Nat} {g : Nat} {f : Nat → Nat → Bool} (h : IsTab w n (.slice (some ⟨g, 0, none⟩) n n) f) {i : Nat} (hi : i < n) : ∃ r, g < w.heap.size ∧ r < w.heap.size ∧ (∀ Y, Below w.heap.size w Y → Y.cell? ⟨g, i, none⟩ = some (.slice (some ⟨r, 0, none⟩) n n) ∧ ∀ j, j < n → Y.cell? ⟨r, j, none⟩ = some (.bool (f i j))) := by
  obtain ⟨g', e, hg, hr⟩ := h
  cases e
  obtain ⟨r, hlt, hc, hj⟩ := hr i hi
  exact ⟨r, hg, hlt, fun Y hY => ⟨(cell_same (hY.block g hg)).trans hc, fun j hj' => (cell_same (hY.block r hlt)).trans (hj j hj')⟩⟩
theorem dec_succ {f : Nat → Bool} {j : Nat} {v : Bool} (hv : v = f j) (k : Nat) : (if k = j then v else decide (k < j) && f k) = (decide (k < j + 1) && f k) := by
  by_cases e : k = j
  · subst e; rw [if_pos rfl, hv]; simp
  · rw [if_neg e]
    by_cases h : k < j
    · rw [decide_eq_true h, decide_eq_true (show k < j + 1 by omega)]
    · rw [decide_eq_false h, decide_eq_false (show ¬ k < j + 1 by omega)]
set_option maxRecDepth 100000 in
set_option maxHeartbeats 8000000 in
theorem either_any (n : Nat) (va vb : Value) (fa fb : Nat → Nat → Bool) (w : World) (ha : IsTab w n va fa) (hb : IsTab w n vb fb) (hn : n ≤ 1001) :
    Calls Try.prog 70 #[va, vb] w fun e w' => ∃ v', e = .returned v' ∧ IsTab w' n v' (eitherF fa fb) ∧ Below w.heap.size w w' := by
  obtain ⟨ga, rfl, -, -⟩ := id ha
  obtain ⟨gb, rfl, -, -⟩ := id hb
  have HA := hid ha
  have HB := hid hb
  clear ha hb
  have hmr := run_make_rows .i64 .i64 n (by omega)
  have hmb := run_make_bools .i64 .i64 n (by omega)
  obtain ⟨g, hg⟩ : ∃ g, g = w.heap.size := ⟨_, rfl⟩
  have HG := hid hg
  obtain ⟨W, hW⟩ : ∃ W, W = w.alloc (.cells (Array.replicate n (Value.slice none 0 0)) 28) := ⟨_, rfl⟩
  have HO0 := hid (show OutTab W g n 0 ((eitherF fa fb)) by rw [hW, hg]; exact OutTab.new w n _)
  have HB0 := hid (show Below w.heap.size w W by rw [hW]; exact (Below.refl _ _).alloc (Nat.le_refl _) _)
  go_enter Try.func70, Try.ntmps70
  go_wp2_with fail
  rw [← hW, ← hg]
  clear hW hg hmr
  go_loopw [6, 7] (fun s6 _ wr => ∃ i : Nat, i ≤ n ∧ s6 = .int .i64 i ∧ Hid (OutTab wr g n i ((eitherF fa fb))) ∧ Hid (Below w.heap.size w wr)) (fun s6 _ _ => n - (intOf s6).toNat)
  case atStart => exact ⟨0, by omega, rfl, HO0, HB0⟩
  case round =>
    obtain ⟨i, hi, rfl, HO, HW⟩ := hrel
    by_cases hlt : i < n
    · obtain ⟨W1, hW1⟩ : ∃ W1, W1 = (wr.alloc (.cells (Array.replicate n (Value.bool false)) 4)).setCell ⟨g, i, none⟩ (.slice (some ⟨wr.heap.size, 0, none⟩) n n) := ⟨_, rfl⟩
      have HR0 := hid (HO.out.row hlt hW1)
      have hOa := HO.out.keep (w' := wr.alloc (.cells (Array.replicate n (Value.bool false)) 4)) (fun b hb => heap_alloc_old _ _ hb)
      obtain ⟨u, hu, hfu⟩ := hOa.cell hlt
      have HW1 := hid (show Below w.heap.size w W1 by rw [hW1]; exact (HW.out.alloc HW.out.size _).setCell (p := ⟨g, i, none⟩) (by rw [HG.out]; exact Nat.le_refl _) _)
      obtain ⟨r, hr⟩ : ∃ r, r = wr.heap.size := ⟨_, rfl⟩
      have HRW := hid (show w.heap.size ≤ r by rw [hr]; exact HW.out.size)
      clear hOa
      go_wp2_with fail
      rw [← hW1, ← hr]
      rw [← hr] at HR0
      clear hW1 hr hu hfu
      obtain ⟨gai, hga1, hga2, HAt⟩ := HA.out.at hlt
      obtain ⟨gbi, hgb1, hgb2, HBt⟩ := HB.out.at hlt
      have HAT := hid HAt
      have HBT := hid HBt
      clear HAt HBt
      go_loopw [7] (fun s7 wx => ∃ j : Nat, j ≤ n ∧ s7 = .int .i64 j ∧ Hid (OutRow wx g n i r (eitherF fa fb) (fun k => decide (k < j) && eitherF fa fb i k)) ∧ Hid (Below w.heap.size w wx)) (fun s7 _ => n - (intOf s7).toNat)
      case atStart => exact ⟨0, by omega, rfl, hid (HR0.out.congr fun k _ => by simp), HW1⟩
      case round =>
        obtain ⟨j, hj, rfl, HX, HWx⟩ := hrel
        by_cases hlt2 : j < n
        · have hrow := HX.out.rowCell
          obtain ⟨hc, hfc⟩ := HX.out.cell hlt2
          obtain ⟨ya, hya⟩ : ∃ y, y = (decide (j < j) && eitherF fa fb i j) := ⟨_, rfl⟩
          rw [← hya] at hc
          obtain ⟨a1, a2⟩ := HAT.out wr HWx.out
          obtain ⟨b1, b2⟩ := HBT.out wr HWx.out
          replace a2 := a2 j hlt2
          replace b2 := b2 j hlt2
          obtain ⟨x, hx⟩ : ∃ x, x = fa i j := ⟨_, rfl⟩
          obtain ⟨y, hy⟩ : ∃ y, y = fb i j := ⟨_, rfl⟩
          have hF : eitherF fa fb i j = (x || y) := by unfold eitherF; rw [hx, hy]
          rw [← hx] at a2
          rw [← hy] at b2
          have hne := HX.out
          obtain ⟨us, hgx, -, -, hrg, -, -⟩ := hne
          have hN : ∀ v, v = (x || y) → Hid (OutRow (wr.drew.setCell ⟨r, j, none⟩ (.bool v)) g n i r (eitherF fa fb) (fun k => decide (k < j + 1) && eitherF fa fb i k)) := fun v hv =>
            hid ((OutRow.set (w := wr.drew) HX.out j v).congr fun k _ => dec_succ (f := fun k => eitherF fa fb i k) (by rw [hv, hF]) k)
          have HNN := hid hN
          have HW2 := hid (fun v => (show Below w.heap.size w (wr.drew.setCell ⟨r, j, none⟩ (.bool v)) from HWx.out.drew.setCell (p := ⟨r, j, none⟩) HRW.out _))
          have HNE := hid (show g ≠ r ∧ ga ≠ r ∧ gai ≠ r ∧ gb ≠ r ∧ gbi ≠ r from ⟨fun e => hrg e.symm, by have := HRW.out; omega, by have := HRW.out; omega, by have := HRW.out; omega, by have := HRW.out; omega⟩)
          clear hx hy hya hF hN hgx hrg
          cases x with
          | true =>
            have HN := HNN.out true rfl
            have HS := hid (And.intro hrow (And.intro a1 a2))
            have HSN := hid (show (wr.drew.setCell ⟨r, j, none⟩ (.bool true)).cell? ⟨g, i, none⟩ = some (.slice (some ⟨r, 0, none⟩) n n) ∧ (wr.drew.setCell ⟨r, j, none⟩ (.bool true)).cell? ⟨ga, i, none⟩ = some (.slice (some ⟨gai, 0, none⟩) n n) ∧ (wr.drew.setCell ⟨r, j, none⟩ (.bool true)).cell? ⟨gai, j, none⟩ = some (.bool true) from
              ⟨(cell_set_other (.inl HNE.out.1)).trans hrow, (cell_set_other (.inl HNE.out.2.1)).trans a1, (cell_set_other (.inl HNE.out.2.2.1)).trans a2⟩)
            go_wp2_with fail
            refine wp_region_held_drew (S := (fun Y => Y.cell? ⟨g, i, none⟩ = some (.slice (some ⟨r, 0, none⟩) n n) ∧ Y.cell? ⟨ga, i, none⟩ = some (.slice (some ⟨gai, 0, none⟩) n n) ∧ Y.cell? ⟨gai, j, none⟩ = some (.bool true))) (by kernel_rfl) (by exact HS.out) (fun hHeld => ?_)
            refine wpAnyH_take (i := 0) (oi := { dst := some 29, op := Op.move (Operand.tmp 5), type := _, pos := _, after := _, guard := none }) (v := ?_) rfl (by kernel_rfl) (by kernel_rfl) (by kernel_rfl) (fun _ _ _ h => h) (Or.inl ⟨by rfl, ?_⟩) (by assumption) ?_
            rotate_left
            · intro w hSw; (try dsimp only at hSw); go_simp; try with_reducible rfl
            try simp only [Act.put, List.setIfInBounds_toArray, List.set_cons_zero, List.set_cons_succ]
            refine wpAnyH_take (i := 1) (oi := { dst := some 30, op := Op.move (Operand.tmp 6), type := _, pos := _, after := _, guard := none }) (v := ?_) rfl (by kernel_rfl) (by kernel_rfl) (by kernel_rfl) (fun _ _ _ h => h) (Or.inl ⟨by rfl, ?_⟩) (by assumption) ?_
            rotate_left
            · intro w hSw; (try dsimp only at hSw); go_simp; try with_reducible rfl
            try simp only [Act.put, List.setIfInBounds_toArray, List.set_cons_zero, List.set_cons_succ]
            refine wpAnyH_take (i := 2) (oi := { dst := some 31, op := Op.indexAddr 78 (Operand.tmp 29) (Operand.tmp 30), type := _, pos := _, after := _, guard := none }) (v := ?_) rfl (by kernel_rfl) (by kernel_rfl) (by kernel_rfl) (fun _ _ _ h => h) (Or.inl ⟨by rfl, ?_⟩) (by assumption) ?_
            rotate_left
            · intro w hSw; (try dsimp only at hSw); go_simp; try with_reducible rfl
            try simp only [Act.put, List.setIfInBounds_toArray, List.set_cons_zero, List.set_cons_succ]
            refine wpAnyH_take (i := 3) (oi := { dst := some 32, op := Op.load 28 (Operand.tmp 31), type := _, pos := _, after := _, guard := none }) (v := ?_) rfl (by kernel_rfl) (by kernel_rfl) (by kernel_rfl) (fun _ _ _ h => h) (Or.inl ⟨by rfl, ?_⟩) (by assumption) ?_
            rotate_left
            · intro w hSw; (try dsimp only at hSw); go_simp; try with_reducible rfl
            try simp only [Act.put, List.setIfInBounds_toArray, List.set_cons_zero, List.set_cons_succ]
            refine wpAnyH_take (i := 4) (oi := { dst := some 33, op := Op.move (Operand.tmp 7), type := _, pos := _, after := _, guard := none }) (v := ?_) rfl (by kernel_rfl) (by kernel_rfl) (by kernel_rfl) (fun _ _ _ h => h) (Or.inl ⟨by rfl, ?_⟩) (by assumption) ?_
            rotate_left
            · intro w hSw; (try dsimp only at hSw); go_simp; try with_reducible rfl
            try simp only [Act.put, List.setIfInBounds_toArray, List.set_cons_zero, List.set_cons_succ]
            refine wpAnyH_take (i := 5) (oi := { dst := some 34, op := Op.move (Operand.tmp 0), type := _, pos := _, after := _, guard := none }) (v := ?_) rfl (by kernel_rfl) (by kernel_rfl) (by kernel_rfl) (fun _ _ _ h => h) (Or.inl ⟨by rfl, ?_⟩) (by assumption) ?_
            rotate_left
            · intro w hSw; (try dsimp only at hSw); go_simp; try with_reducible rfl
            try simp only [Act.put, List.setIfInBounds_toArray, List.set_cons_zero, List.set_cons_succ]
            refine wpAnyH_take (i := 6) (oi := { dst := some 35, op := Op.move (Operand.tmp 6), type := _, pos := _, after := _, guard := none }) (v := ?_) rfl (by kernel_rfl) (by kernel_rfl) (by kernel_rfl) (fun _ _ _ h => h) (Or.inl ⟨by rfl, ?_⟩) (by assumption) ?_
            rotate_left
            · intro w hSw; (try dsimp only at hSw); go_simp; try with_reducible rfl
            try simp only [Act.put, List.setIfInBounds_toArray, List.set_cons_zero, List.set_cons_succ]
            refine wpAnyH_take (i := 7) (oi := { dst := some 36, op := Op.indexAddr 78 (Operand.tmp 34) (Operand.tmp 35), type := _, pos := _, after := _, guard := none }) (v := ?_) rfl (by kernel_rfl) (by kernel_rfl) (by kernel_rfl) (fun _ _ _ h => h) (Or.inl ⟨by rfl, ?_⟩) (by assumption) ?_
            rotate_left
            · intro w hSw; (try dsimp only at hSw); go_simp; try with_reducible rfl
            try simp only [Act.put, List.setIfInBounds_toArray, List.set_cons_zero, List.set_cons_succ]
            refine wpAnyH_take (i := 8) (oi := { dst := some 37, op := Op.load 28 (Operand.tmp 36), type := _, pos := _, after := _, guard := none }) (v := ?_) rfl (by kernel_rfl) (by kernel_rfl) (by kernel_rfl) (fun _ _ _ h => h) (Or.inl ⟨by rfl, ?_⟩) (by assumption) ?_
            rotate_left
            · intro w hSw; (try dsimp only at hSw); go_simp; try with_reducible rfl
            try simp only [Act.put, List.setIfInBounds_toArray, List.set_cons_zero, List.set_cons_succ]
            refine wpAnyH_take (i := 9) (oi := { dst := some 38, op := Op.move (Operand.tmp 7), type := _, pos := _, after := _, guard := none }) (v := ?_) rfl (by kernel_rfl) (by kernel_rfl) (by kernel_rfl) (fun _ _ _ h => h) (Or.inl ⟨by rfl, ?_⟩) (by assumption) ?_
            rotate_left
            · intro w hSw; (try dsimp only at hSw); go_simp; try with_reducible rfl
            try simp only [Act.put, List.setIfInBounds_toArray, List.set_cons_zero, List.set_cons_succ]
            refine wpAnyH_take (i := 10) (oi := { dst := some 39, op := Op.indexAddr 28 (Operand.tmp 37) (Operand.tmp 38), type := _, pos := _, after := _, guard := none }) (v := ?_) rfl (by kernel_rfl) (by kernel_rfl) (by kernel_rfl) (fun _ _ _ h => h) (Or.inl ⟨by rfl, ?_⟩) (by assumption) ?_
            rotate_left
            · intro w hSw; (try dsimp only at hSw); go_simp; try with_reducible rfl
            try simp only [Act.put, List.setIfInBounds_toArray, List.set_cons_zero, List.set_cons_succ]
            refine wpAnyH_take (i := 11) (oi := { dst := some 40, op := Op.load 4 (Operand.tmp 39), type := _, pos := _, after := _, guard := none }) (v := ?_) rfl (by kernel_rfl) (by kernel_rfl) (by kernel_rfl) (fun _ _ _ h => h) (Or.inl ⟨by rfl, ?_⟩) (by assumption) ?_
            rotate_left
            · intro w hSw; (try dsimp only at hSw); go_simp; try with_reducible rfl
            try simp only [Act.put, List.setIfInBounds_toArray, List.set_cons_zero, List.set_cons_succ]
            refine wpAnyH_take (i := 12) (oi := { dst := some 41, op := Op.move (Operand.tmp 40), type := _, pos := _, after := _, guard := none }) (v := ?_) rfl (by kernel_rfl) (by kernel_rfl) (by kernel_rfl) (fun _ _ _ h => h) (Or.inl ⟨by rfl, ?_⟩) (by assumption) ?_
            rotate_left
            · intro w hSw; (try dsimp only at hSw); go_simp; try with_reducible rfl
            try simp only [Act.put, List.setIfInBounds_toArray, List.set_cons_zero, List.set_cons_succ]
            refine wpAnyH_take (i := 13) (oi := { dst := some 42, op := Op.move (Operand.tmp 1), type := _, pos := _, after := _, guard := some (12, false) }) (v := undef) rfl (by kernel_rfl) (by kernel_rfl) (by kernel_rfl) (fun _ _ _ h => h) (Or.inr ⟨by rfl, rfl⟩) (by assumption) ?_
            try simp only [Act.put, List.setIfInBounds_toArray, List.set_cons_zero, List.set_cons_succ]
            refine wpAnyH_take (i := 14) (oi := { dst := some 43, op := Op.move (Operand.tmp 6), type := _, pos := _, after := _, guard := some (12, false) }) (v := undef) rfl (by kernel_rfl) (by kernel_rfl) (by kernel_rfl) (fun _ _ _ h => h) (Or.inr ⟨by rfl, rfl⟩) (by assumption) ?_
            try simp only [Act.put, List.setIfInBounds_toArray, List.set_cons_zero, List.set_cons_succ]
            refine wpAnyH_take (i := 15) (oi := { dst := some 44, op := Op.indexAddr 78 (Operand.tmp 42) (Operand.tmp 43), type := _, pos := _, after := _, guard := some (12, false) }) (v := undef) rfl (by kernel_rfl) (by kernel_rfl) (by kernel_rfl) (fun _ _ _ h => h) (Or.inr ⟨by rfl, rfl⟩) (by assumption) ?_
            try simp only [Act.put, List.setIfInBounds_toArray, List.set_cons_zero, List.set_cons_succ]
            refine wpAnyH_take (i := 16) (oi := { dst := some 45, op := Op.load 28 (Operand.tmp 44), type := _, pos := _, after := _, guard := some (12, false) }) (v := undef) rfl (by kernel_rfl) (by kernel_rfl) (by kernel_rfl) (fun _ _ _ h => h) (Or.inr ⟨by rfl, rfl⟩) (by assumption) ?_
            try simp only [Act.put, List.setIfInBounds_toArray, List.set_cons_zero, List.set_cons_succ]
            refine wpAnyH_take (i := 17) (oi := { dst := some 46, op := Op.move (Operand.tmp 7), type := _, pos := _, after := _, guard := some (12, false) }) (v := undef) rfl (by kernel_rfl) (by kernel_rfl) (by kernel_rfl) (fun _ _ _ h => h) (Or.inr ⟨by rfl, rfl⟩) (by assumption) ?_
            try simp only [Act.put, List.setIfInBounds_toArray, List.set_cons_zero, List.set_cons_succ]
            refine wpAnyH_take (i := 18) (oi := { dst := some 47, op := Op.indexAddr 28 (Operand.tmp 45) (Operand.tmp 46), type := _, pos := _, after := _, guard := some (12, false) }) (v := undef) rfl (by kernel_rfl) (by kernel_rfl) (by kernel_rfl) (fun _ _ _ h => h) (Or.inr ⟨by rfl, rfl⟩) (by assumption) ?_
            try simp only [Act.put, List.setIfInBounds_toArray, List.set_cons_zero, List.set_cons_succ]
            refine wpAnyH_take (i := 19) (oi := { dst := some 48, op := Op.load 4 (Operand.tmp 47), type := _, pos := _, after := _, guard := some (12, false) }) (v := undef) rfl (by kernel_rfl) (by kernel_rfl) (by kernel_rfl) (fun _ _ _ h => h) (Or.inr ⟨by rfl, rfl⟩) (by assumption) ?_
            try simp only [Act.put, List.setIfInBounds_toArray, List.set_cons_zero, List.set_cons_succ]
            refine wpAnyH_take (i := 20) (oi := { dst := some 49, op := Op.pick (Operand.tmp 41) (Operand.const (Value.bool true)) (Operand.tmp 48), type := _, pos := _, after := _, guard := none }) (v := ?_) rfl (by kernel_rfl) (by kernel_rfl) (by kernel_rfl) (fun _ _ _ h => h) (Or.inl ⟨by rfl, ?_⟩) (by assumption) ?_
            rotate_left
            · intro w hSw; (try dsimp only at hSw); go_simp; try with_reducible rfl
            try simp only [Act.put, List.setIfInBounds_toArray, List.set_cons_zero, List.set_cons_succ]
            refine wpAnyH_take (i := 21) (oi := { dst := some 50, op := Op.indexAddr 28 (Operand.tmp 32) (Operand.tmp 33), type := _, pos := _, after := _, guard := none }) (v := ?_) rfl (by kernel_rfl) (by kernel_rfl) (by kernel_rfl) (fun _ _ _ h => h) (Or.inl ⟨by rfl, ?_⟩) (by assumption) ?_
            rotate_left
            · intro w hSw; (try dsimp only at hSw); go_simp; try with_reducible rfl
            try simp only [Act.put, List.setIfInBounds_toArray, List.set_cons_zero, List.set_cons_succ]
            refine wpAnyH_ready (rs := [22]) (by kernel_rfl) (by simp) ?_
            refine AllReadyH.cons (o := { dst := none, op := Op.store 4 (Operand.tmp 50) (Operand.tmp 49), type := _, pos := _, after := _, guard := none }) rfl (fun K hK => ?_) AllReadyH.nil
            go_simp
            refine hK.out _ _ (by exact HSN.out) (fun hHeld => ?_)
            clear hK K
            try simp only [Act.put, List.setIfInBounds_toArray, List.set_cons_zero, List.set_cons_succ]
            refine wpAnyH_done (by kernel_rfl) ?_ _
            all_goals
              go_wp2_with fail
              go_roundw
              case rel => exact ⟨j + 1, by omega, by go_num, HN, hid (HW2.out true)⟩
              case measure => simp [intOf]; omega
          | false =>
            have HN := HNN.out y rfl
            have HS := hid (And.intro hrow (And.intro a1 (And.intro a2 (And.intro b1 b2))))
            have HSN := hid (show (wr.drew.setCell ⟨r, j, none⟩ (.bool y)).cell? ⟨g, i, none⟩ = some (.slice (some ⟨r, 0, none⟩) n n) ∧ (wr.drew.setCell ⟨r, j, none⟩ (.bool y)).cell? ⟨ga, i, none⟩ = some (.slice (some ⟨gai, 0, none⟩) n n) ∧ (wr.drew.setCell ⟨r, j, none⟩ (.bool y)).cell? ⟨gai, j, none⟩ = some (.bool false) ∧
                (wr.drew.setCell ⟨r, j, none⟩ (.bool y)).cell? ⟨gb, i, none⟩ = some (.slice (some ⟨gbi, 0, none⟩) n n) ∧ (wr.drew.setCell ⟨r, j, none⟩ (.bool y)).cell? ⟨gbi, j, none⟩ = some (.bool y) from
              ⟨(cell_set_other (.inl HNE.out.1)).trans hrow, (cell_set_other (.inl HNE.out.2.1)).trans a1, (cell_set_other (.inl HNE.out.2.2.1)).trans a2, (cell_set_other (.inl HNE.out.2.2.2.1)).trans b1, (cell_set_other (.inl HNE.out.2.2.2.2)).trans b2⟩)
            go_wp2_with fail
            refine wp_region_held_drew (S := (fun Y => Y.cell? ⟨g, i, none⟩ = some (.slice (some ⟨r, 0, none⟩) n n) ∧ Y.cell? ⟨ga, i, none⟩ = some (.slice (some ⟨gai, 0, none⟩) n n) ∧ Y.cell? ⟨gai, j, none⟩ = some (.bool false) ∧ Y.cell? ⟨gb, i, none⟩ = some (.slice (some ⟨gbi, 0, none⟩) n n) ∧ Y.cell? ⟨gbi, j, none⟩ = some (.bool y))) (by kernel_rfl) (by exact HS.out) (fun hHeld => ?_)
            refine wpAnyH_take (i := 0) (oi := { dst := some 29, op := Op.move (Operand.tmp 5), type := _, pos := _, after := _, guard := none }) (v := ?_) rfl (by kernel_rfl) (by kernel_rfl) (by kernel_rfl) (fun _ _ _ h => h) (Or.inl ⟨by rfl, ?_⟩) (by assumption) ?_
            rotate_left
            · intro w hSw; (try dsimp only at hSw); go_simp; try with_reducible rfl
            try simp only [Act.put, List.setIfInBounds_toArray, List.set_cons_zero, List.set_cons_succ]
            refine wpAnyH_take (i := 1) (oi := { dst := some 30, op := Op.move (Operand.tmp 6), type := _, pos := _, after := _, guard := none }) (v := ?_) rfl (by kernel_rfl) (by kernel_rfl) (by kernel_rfl) (fun _ _ _ h => h) (Or.inl ⟨by rfl, ?_⟩) (by assumption) ?_
            rotate_left
            · intro w hSw; (try dsimp only at hSw); go_simp; try with_reducible rfl
            try simp only [Act.put, List.setIfInBounds_toArray, List.set_cons_zero, List.set_cons_succ]
            refine wpAnyH_take (i := 2) (oi := { dst := some 31, op := Op.indexAddr 78 (Operand.tmp 29) (Operand.tmp 30), type := _, pos := _, after := _, guard := none }) (v := ?_) rfl (by kernel_rfl) (by kernel_rfl) (by kernel_rfl) (fun _ _ _ h => h) (Or.inl ⟨by rfl, ?_⟩) (by assumption) ?_
            rotate_left
            · intro w hSw; (try dsimp only at hSw); go_simp; try with_reducible rfl
            try simp only [Act.put, List.setIfInBounds_toArray, List.set_cons_zero, List.set_cons_succ]
            refine wpAnyH_take (i := 3) (oi := { dst := some 32, op := Op.load 28 (Operand.tmp 31), type := _, pos := _, after := _, guard := none }) (v := ?_) rfl (by kernel_rfl) (by kernel_rfl) (by kernel_rfl) (fun _ _ _ h => h) (Or.inl ⟨by rfl, ?_⟩) (by assumption) ?_
            rotate_left
            · intro w hSw; (try dsimp only at hSw); go_simp; try with_reducible rfl
            try simp only [Act.put, List.setIfInBounds_toArray, List.set_cons_zero, List.set_cons_succ]
            refine wpAnyH_take (i := 4) (oi := { dst := some 33, op := Op.move (Operand.tmp 7), type := _, pos := _, after := _, guard := none }) (v := ?_) rfl (by kernel_rfl) (by kernel_rfl) (by kernel_rfl) (fun _ _ _ h => h) (Or.inl ⟨by rfl, ?_⟩) (by assumption) ?_
            rotate_left
            · intro w hSw; (try dsimp only at hSw); go_simp; try with_reducible rfl
            try simp only [Act.put, List.setIfInBounds_toArray, List.set_cons_zero, List.set_cons_succ]
            refine wpAnyH_take (i := 5) (oi := { dst := some 34, op := Op.move (Operand.tmp 0), type := _, pos := _, after := _, guard := none }) (v := ?_) rfl (by kernel_rfl) (by kernel_rfl) (by kernel_rfl) (fun _ _ _ h => h) (Or.inl ⟨by rfl, ?_⟩) (by assumption) ?_
            rotate_left
            · intro w hSw; (try dsimp only at hSw); go_simp; try with_reducible rfl
            try simp only [Act.put, List.setIfInBounds_toArray, List.set_cons_zero, List.set_cons_succ]
            refine wpAnyH_take (i := 6) (oi := { dst := some 35, op := Op.move (Operand.tmp 6), type := _, pos := _, after := _, guard := none }) (v := ?_) rfl (by kernel_rfl) (by kernel_rfl) (by kernel_rfl) (fun _ _ _ h => h) (Or.inl ⟨by rfl, ?_⟩) (by assumption) ?_
            rotate_left
            · intro w hSw; (try dsimp only at hSw); go_simp; try with_reducible rfl
            try simp only [Act.put, List.setIfInBounds_toArray, List.set_cons_zero, List.set_cons_succ]
            refine wpAnyH_take (i := 7) (oi := { dst := some 36, op := Op.indexAddr 78 (Operand.tmp 34) (Operand.tmp 35), type := _, pos := _, after := _, guard := none }) (v := ?_) rfl (by kernel_rfl) (by kernel_rfl) (by kernel_rfl) (fun _ _ _ h => h) (Or.inl ⟨by rfl, ?_⟩) (by assumption) ?_
            rotate_left
            · intro w hSw; (try dsimp only at hSw); go_simp; try with_reducible rfl
            try simp only [Act.put, List.setIfInBounds_toArray, List.set_cons_zero, List.set_cons_succ]
            refine wpAnyH_take (i := 8) (oi := { dst := some 37, op := Op.load 28 (Operand.tmp 36), type := _, pos := _, after := _, guard := none }) (v := ?_) rfl (by kernel_rfl) (by kernel_rfl) (by kernel_rfl) (fun _ _ _ h => h) (Or.inl ⟨by rfl, ?_⟩) (by assumption) ?_
            rotate_left
            · intro w hSw; (try dsimp only at hSw); go_simp; try with_reducible rfl
            try simp only [Act.put, List.setIfInBounds_toArray, List.set_cons_zero, List.set_cons_succ]
            refine wpAnyH_take (i := 9) (oi := { dst := some 38, op := Op.move (Operand.tmp 7), type := _, pos := _, after := _, guard := none }) (v := ?_) rfl (by kernel_rfl) (by kernel_rfl) (by kernel_rfl) (fun _ _ _ h => h) (Or.inl ⟨by rfl, ?_⟩) (by assumption) ?_
            rotate_left
            · intro w hSw; (try dsimp only at hSw); go_simp; try with_reducible rfl
            try simp only [Act.put, List.setIfInBounds_toArray, List.set_cons_zero, List.set_cons_succ]
            refine wpAnyH_take (i := 10) (oi := { dst := some 39, op := Op.indexAddr 28 (Operand.tmp 37) (Operand.tmp 38), type := _, pos := _, after := _, guard := none }) (v := ?_) rfl (by kernel_rfl) (by kernel_rfl) (by kernel_rfl) (fun _ _ _ h => h) (Or.inl ⟨by rfl, ?_⟩) (by assumption) ?_
            rotate_left
            · intro w hSw; (try dsimp only at hSw); go_simp; try with_reducible rfl
            try simp only [Act.put, List.setIfInBounds_toArray, List.set_cons_zero, List.set_cons_succ]
            refine wpAnyH_take (i := 11) (oi := { dst := some 40, op := Op.load 4 (Operand.tmp 39), type := _, pos := _, after := _, guard := none }) (v := ?_) rfl (by kernel_rfl) (by kernel_rfl) (by kernel_rfl) (fun _ _ _ h => h) (Or.inl ⟨by rfl, ?_⟩) (by assumption) ?_
            rotate_left
            · intro w hSw; (try dsimp only at hSw); go_simp; try with_reducible rfl
            try simp only [Act.put, List.setIfInBounds_toArray, List.set_cons_zero, List.set_cons_succ]
            refine wpAnyH_take (i := 12) (oi := { dst := some 41, op := Op.move (Operand.tmp 40), type := _, pos := _, after := _, guard := none }) (v := ?_) rfl (by kernel_rfl) (by kernel_rfl) (by kernel_rfl) (fun _ _ _ h => h) (Or.inl ⟨by rfl, ?_⟩) (by assumption) ?_
            rotate_left
            · intro w hSw; (try dsimp only at hSw); go_simp; try with_reducible rfl
            try simp only [Act.put, List.setIfInBounds_toArray, List.set_cons_zero, List.set_cons_succ]
            refine wpAnyH_take (i := 13) (oi := { dst := some 42, op := Op.move (Operand.tmp 1), type := _, pos := _, after := _, guard := some (12, false) }) (v := ?_) rfl (by kernel_rfl) (by kernel_rfl) (by kernel_rfl) (fun _ _ _ h => h) (Or.inl ⟨by rfl, ?_⟩) (by assumption) ?_
            rotate_left
            · intro w hSw; (try dsimp only at hSw); go_simp; try with_reducible rfl
            try simp only [Act.put, List.setIfInBounds_toArray, List.set_cons_zero, List.set_cons_succ]
            refine wpAnyH_take (i := 14) (oi := { dst := some 43, op := Op.move (Operand.tmp 6), type := _, pos := _, after := _, guard := some (12, false) }) (v := ?_) rfl (by kernel_rfl) (by kernel_rfl) (by kernel_rfl) (fun _ _ _ h => h) (Or.inl ⟨by rfl, ?_⟩) (by assumption) ?_
            rotate_left
            · intro w hSw; (try dsimp only at hSw); go_simp; try with_reducible rfl
            try simp only [Act.put, List.setIfInBounds_toArray, List.set_cons_zero, List.set_cons_succ]
            refine wpAnyH_take (i := 15) (oi := { dst := some 44, op := Op.indexAddr 78 (Operand.tmp 42) (Operand.tmp 43), type := _, pos := _, after := _, guard := some (12, false) }) (v := ?_) rfl (by kernel_rfl) (by kernel_rfl) (by kernel_rfl) (fun _ _ _ h => h) (Or.inl ⟨by rfl, ?_⟩) (by assumption) ?_
            rotate_left
            · intro w hSw; (try dsimp only at hSw); go_simp; try with_reducible rfl
            try simp only [Act.put, List.setIfInBounds_toArray, List.set_cons_zero, List.set_cons_succ]
            refine wpAnyH_take (i := 16) (oi := { dst := some 45, op := Op.load 28 (Operand.tmp 44), type := _, pos := _, after := _, guard := some (12, false) }) (v := ?_) rfl (by kernel_rfl) (by kernel_rfl) (by kernel_rfl) (fun _ _ _ h => h) (Or.inl ⟨by rfl, ?_⟩) (by assumption) ?_
            rotate_left
            · intro w hSw; (try dsimp only at hSw); go_simp; try with_reducible rfl
            try simp only [Act.put, List.setIfInBounds_toArray, List.set_cons_zero, List.set_cons_succ]
            refine wpAnyH_take (i := 17) (oi := { dst := some 46, op := Op.move (Operand.tmp 7), type := _, pos := _, after := _, guard := some (12, false) }) (v := ?_) rfl (by kernel_rfl) (by kernel_rfl) (by kernel_rfl) (fun _ _ _ h => h) (Or.inl ⟨by rfl, ?_⟩) (by assumption) ?_
            rotate_left
            · intro w hSw; (try dsimp only at hSw); go_simp; try with_reducible rfl
            try simp only [Act.put, List.setIfInBounds_toArray, List.set_cons_zero, List.set_cons_succ]
            refine wpAnyH_take (i := 18) (oi := { dst := some 47, op := Op.indexAddr 28 (Operand.tmp 45) (Operand.tmp 46), type := _, pos := _, after := _, guard := some (12, false) }) (v := ?_) rfl (by kernel_rfl) (by kernel_rfl) (by kernel_rfl) (fun _ _ _ h => h) (Or.inl ⟨by rfl, ?_⟩) (by assumption) ?_
            rotate_left
            · intro w hSw; (try dsimp only at hSw); go_simp; try with_reducible rfl
            try simp only [Act.put, List.setIfInBounds_toArray, List.set_cons_zero, List.set_cons_succ]
            refine wpAnyH_take (i := 19) (oi := { dst := some 48, op := Op.load 4 (Operand.tmp 47), type := _, pos := _, after := _, guard := some (12, false) }) (v := ?_) rfl (by kernel_rfl) (by kernel_rfl) (by kernel_rfl) (fun _ _ _ h => h) (Or.inl ⟨by rfl, ?_⟩) (by assumption) ?_
            rotate_left
            · intro w hSw; (try dsimp only at hSw); go_simp; try with_reducible rfl
            try simp only [Act.put, List.setIfInBounds_toArray, List.set_cons_zero, List.set_cons_succ]
            refine wpAnyH_take (i := 20) (oi := { dst := some 49, op := Op.pick (Operand.tmp 41) (Operand.const (Value.bool true)) (Operand.tmp 48), type := _, pos := _, after := _, guard := none }) (v := ?_) rfl (by kernel_rfl) (by kernel_rfl) (by kernel_rfl) (fun _ _ _ h => h) (Or.inl ⟨by rfl, ?_⟩) (by assumption) ?_
            rotate_left
            · intro w hSw; (try dsimp only at hSw); go_simp; try with_reducible rfl
            try simp only [Act.put, List.setIfInBounds_toArray, List.set_cons_zero, List.set_cons_succ]
            refine wpAnyH_take (i := 21) (oi := { dst := some 50, op := Op.indexAddr 28 (Operand.tmp 32) (Operand.tmp 33), type := _, pos := _, after := _, guard := none }) (v := ?_) rfl (by kernel_rfl) (by kernel_rfl) (by kernel_rfl) (fun _ _ _ h => h) (Or.inl ⟨by rfl, ?_⟩) (by assumption) ?_
            rotate_left
            · intro w hSw; (try dsimp only at hSw); go_simp; try with_reducible rfl
            try simp only [Act.put, List.setIfInBounds_toArray, List.set_cons_zero, List.set_cons_succ]
            refine wpAnyH_ready (rs := [22]) (by kernel_rfl) (by simp) ?_
            refine AllReadyH.cons (o := { dst := none, op := Op.store 4 (Operand.tmp 50) (Operand.tmp 49), type := _, pos := _, after := _, guard := none }) rfl (fun K hK => ?_) AllReadyH.nil
            go_simp
            refine hK.out _ _ (by exact HSN.out) (fun hHeld => ?_)
            clear hK K
            try simp only [Act.put, List.setIfInBounds_toArray, List.set_cons_zero, List.set_cons_succ]
            refine wpAnyH_done (by kernel_rfl) ?_ _
            all_goals
              go_wp2_with fail
              go_roundw
              case rel => exact ⟨j + 1, by omega, by go_num, HN, hid (HW2.out y)⟩
              case measure => simp [intOf]; omega
        · obtain rfl : j = n := by omega
          have HD := hid (HX.out.done fun k hk => by rw [decide_eq_true hk]; rfl)
          go_wp2_with fail
          go_roundw
          case rel => exact ⟨i + 1, by omega, by go_num, HD, HWx⟩
          case measure => simp [intOf]; omega
    · obtain rfl : i = n := by omega
      go_wp2_with fail
      go_ret
      exact ⟨_, rfl, HO.out.tab, HW.out⟩
theorem any_range_succ' (p : Nat → Bool) (k : Nat) : (List.range (k + 1)).any p = ((List.range k).any p || p k) := by simp [List.range_succ]
set_option maxRecDepth 100000 in
set_option maxHeartbeats 8000000 in
theorem times_any (n : Nat) (va vb : Value) (fa fb : Nat → Nat → Bool) (w : World) (ha : IsTab w n va fa) (hb : IsTab w n vb fb) (hn : n ≤ 1001) :
    Calls Try.prog 69 #[va, vb] w fun e w' => ∃ v', e = .returned v' ∧ IsTab w' n v' (timesF n fa fb) ∧ Below w.heap.size w w' := by
  obtain ⟨ga, rfl, -, -⟩ := id ha
  obtain ⟨gb, rfl, -, -⟩ := id hb
  have HA := hid ha
  have HB := hid hb
  clear ha hb
  have hmr := run_make_rows .i64 .i64 n (by omega)
  have hmb := run_make_bools .i64 .i64 n (by omega)
  obtain ⟨g, hg⟩ : ∃ g, g = w.heap.size := ⟨_, rfl⟩
  have HG := hid hg
  obtain ⟨W, hW⟩ : ∃ W, W = w.alloc (.cells (Array.replicate n (Value.slice none 0 0)) 28) := ⟨_, rfl⟩
  have HO0 := hid (show OutTab W g n 0 ((timesF n fa fb)) by rw [hW, hg]; exact OutTab.new w n _)
  have HB0 := hid (show Below w.heap.size w W by rw [hW]; exact (Below.refl _ _).alloc (Nat.le_refl _) _)
  go_enter Try.func69, Try.ntmps69
  go_wp2_with fail
  rw [← hW, ← hg]
  clear hW hg hmr
  go_loopw [6, 7, 8] (fun s6 _ _ wr => ∃ i : Nat, i ≤ n ∧ s6 = .int .i64 i ∧ Hid (OutTab wr g n i ((timesF n fa fb))) ∧ Hid (Below w.heap.size w wr)) (fun s6 _ _ _ => n - (intOf s6).toNat)
  case atStart => exact ⟨0, by omega, rfl, HO0, HB0⟩
  case round =>
    obtain ⟨i, hi, rfl, HO, HW⟩ := hrel
    by_cases hlt : i < n
    · obtain ⟨W1, hW1⟩ : ∃ W1, W1 = (wr.alloc (.cells (Array.replicate n (Value.bool false)) 4)).setCell ⟨g, i, none⟩ (.slice (some ⟨wr.heap.size, 0, none⟩) n n) := ⟨_, rfl⟩
      have HR0 := hid (HO.out.row hlt hW1)
      have hOa := HO.out.keep (w' := wr.alloc (.cells (Array.replicate n (Value.bool false)) 4)) (fun b hb => heap_alloc_old _ _ hb)
      obtain ⟨u, hu, hfu⟩ := hOa.cell hlt
      have HW1 := hid (show Below w.heap.size w W1 by rw [hW1]; exact (HW.out.alloc HW.out.size _).setCell (p := ⟨g, i, none⟩) (by rw [HG.out]; exact Nat.le_refl _) _)
      obtain ⟨r, hr⟩ : ∃ r, r = wr.heap.size := ⟨_, rfl⟩
      have HRW := hid (show w.heap.size ≤ r by rw [hr]; exact HW.out.size)
      clear hOa
      go_wp2_with fail
      rw [← hW1, ← hr]
      rw [← hr] at HR0
      clear hW1 hr hu hfu
      obtain ⟨gai, hga1, hga2, HAt⟩ := HA.out.at hlt
      have HAT := hid HAt
      clear HAt
      go_loopw [7, 8] (fun s7 _ wx => ∃ k : Nat, k ≤ n ∧ s7 = .int .i64 k ∧ Hid (OutRow wx g n i r (timesF n fa fb) (fun j => (List.range k).any fun m => fa i m && fb m j)) ∧ Hid (Below w.heap.size w wx)) (fun s7 _ _ => n - (intOf s7).toNat)
      case atStart => exact ⟨0, by omega, rfl, hid (HR0.out.congr fun k _ => by simp), HW1⟩
      case round =>
        obtain ⟨k, hk, rfl, HX, HWx⟩ := hrel
        by_cases hlk : k < n
        · obtain ⟨gbk, hgb1, hgb2, HBt⟩ := HB.out.at hlk
          have HBT := hid HBt
          clear HBt
          cases hx : fa i k with
          | false =>
            obtain ⟨a1, a2⟩ := HAT.out wr HWx.out
            replace a2 := a2 k hlk
            rw [hx] at a2
            have HX1 := hid (HX.out.congr (h' := fun j => (List.range (k + 1)).any fun m => fa i m && fb m j) fun j _ => by rw [any_range_succ', hx]; simp)
            clear hx
            go_wp2_with fail
            go_loopw [8] (fun s8 wy => s8 = .int .i64 0 ∧ wy = wr) (fun _ _ => 0)
            case atStart => exact ⟨rfl, rfl⟩
            case round =>
              obtain ⟨rfl, rfl⟩ := hrel
              have hn0 : (0 : Int) < (n : Int) := by omega
              go_wp2_with fail
              go_roundw
              case rel => exact ⟨k + 1, by omega, by go_num, HX1, HWx⟩
              case measure => simp [intOf]; omega
          | true =>
            have HXT := hid hx
            clear hx
            go_wp2_with fail
            go_loopw [8] (fun s8 wy => ∃ j : Nat, j ≤ n ∧ s8 = .int .i64 j ∧ Hid (OutRow wy g n i r (timesF n fa fb) (fun j' => (List.range k).any (fun m => fa i m && fb m j') || (decide (j' < j) && fb k j'))) ∧ Hid (Below w.heap.size w wy)) (fun s8 _ => n - (intOf s8).toNat)
            case atStart => exact ⟨0, by omega, rfl, hid (HX.out.congr fun j _ => by simp), HWx⟩
            case round =>
              obtain ⟨j, hj, rfl, HY, HWy⟩ := hrel
              obtain ⟨a1, a2⟩ := HAT.out wr HWy.out
              replace a2 := a2 k hlk
              rw [HXT.out] at a2
              by_cases hlj : j < n
              · have hrow := HY.out.rowCell
                obtain ⟨hc, hfc⟩ := HY.out.cell hlj
                obtain ⟨x, hx⟩ : ∃ x, x = ((List.range k).any (fun m => fa i m && fb m j) || (decide (j < j) && fb k j)) := ⟨_, rfl⟩
                have hx' : x = (List.range k).any (fun m => fa i m && fb m j) := by rw [hx, decide_eq_false (Nat.lt_irrefl j), Bool.false_and, Bool.or_false]
                rw [← hx] at hc
                obtain ⟨b1, b2⟩ := HBT.out wr HWy.out
                replace b2 := b2 j hlj
                obtain ⟨y, hy⟩ : ∃ y, y = fb k j := ⟨_, rfl⟩
                rw [← hy] at b2
                obtain ⟨us, hgx, -, -, hrg, -, -⟩ := HY.out
                have hN : ∀ v, v = (x || y) → Hid (OutRow (wr.drew.setCell ⟨r, j, none⟩ (.bool v)) g n i r (timesF n fa fb) (fun j' => (List.range k).any (fun m => fa i m && fb m j') || (decide (j' < j + 1) && fb k j'))) := fun v hv =>
                  hid ((OutRow.set (w := wr.drew) HY.out j v).congr fun m _ => by
                    by_cases e : m = j
                    · subst e; rw [if_pos rfl, hv, hx', hy, decide_eq_true (Nat.lt_succ_self m), Bool.true_and]
                    · rw [if_neg e]
                      by_cases h : m < j
                      · rw [decide_eq_true h, decide_eq_true (show m < j + 1 by omega)]
                      · rw [decide_eq_false h, decide_eq_false (show ¬ m < j + 1 by omega)])
                have HNN := hid hN
                have HW2 := hid (fun v => (show Below w.heap.size w (wr.drew.setCell ⟨r, j, none⟩ (.bool v)) from HWy.out.drew.setCell (p := ⟨r, j, none⟩) HRW.out _))
                have HNE := hid (show g ≠ r ∧ gb ≠ r ∧ gbk ≠ r from ⟨fun e => hrg e.symm, by have := HRW.out; omega, by have := HRW.out; omega⟩)
                clear hx hx' hy hN hgx hrg
                cases x with
                | true =>
                  have HN := HNN.out true rfl
                  have HS := hid hrow
                  have HSN := hid (show (wr.drew.setCell ⟨r, j, none⟩ (.bool true)).cell? ⟨g, i, none⟩ = some (.slice (some ⟨r, 0, none⟩) n n) from (cell_set_other (.inl HNE.out.1)).trans hrow)
                  go_wp2_with fail
                  refine wp_region_held_drew (S := (fun Y => Y.cell? ⟨g, i, none⟩ = some (.slice (some ⟨r, 0, none⟩) n n))) (by kernel_rfl) (by exact HS.out) (fun hHeld => ?_)
                  refine wpAnyH_take (i := 0) (oi := { dst := some 45, op := Op.move (Operand.tmp 5), type := _, pos := _, after := _, guard := none }) (v := ?_) rfl (by kernel_rfl) (by kernel_rfl) (by kernel_rfl) (fun _ _ _ h => h) (Or.inl ⟨by rfl, ?_⟩) (by assumption) ?_
                  rotate_left
                  · intro w hSw; (try dsimp only at hSw); go_simp; try with_reducible rfl
                  try simp only [Act.put, List.setIfInBounds_toArray, List.set_cons_zero, List.set_cons_succ]
                  refine wpAnyH_take (i := 1) (oi := { dst := some 46, op := Op.move (Operand.tmp 6), type := _, pos := _, after := _, guard := none }) (v := ?_) rfl (by kernel_rfl) (by kernel_rfl) (by kernel_rfl) (fun _ _ _ h => h) (Or.inl ⟨by rfl, ?_⟩) (by assumption) ?_
                  rotate_left
                  · intro w hSw; (try dsimp only at hSw); go_simp; try with_reducible rfl
                  try simp only [Act.put, List.setIfInBounds_toArray, List.set_cons_zero, List.set_cons_succ]
                  refine wpAnyH_take (i := 2) (oi := { dst := some 47, op := Op.indexAddr 78 (Operand.tmp 45) (Operand.tmp 46), type := _, pos := _, after := _, guard := none }) (v := ?_) rfl (by kernel_rfl) (by kernel_rfl) (by kernel_rfl) (fun _ _ _ h => h) (Or.inl ⟨by rfl, ?_⟩) (by assumption) ?_
                  rotate_left
                  · intro w hSw; (try dsimp only at hSw); go_simp; try with_reducible rfl
                  try simp only [Act.put, List.setIfInBounds_toArray, List.set_cons_zero, List.set_cons_succ]
                  refine wpAnyH_take (i := 3) (oi := { dst := some 48, op := Op.load 28 (Operand.tmp 47), type := _, pos := _, after := _, guard := none }) (v := ?_) rfl (by kernel_rfl) (by kernel_rfl) (by kernel_rfl) (fun _ _ _ h => h) (Or.inl ⟨by rfl, ?_⟩) (by assumption) ?_
                  rotate_left
                  · intro w hSw; (try dsimp only at hSw); go_simp; try with_reducible rfl
                  try simp only [Act.put, List.setIfInBounds_toArray, List.set_cons_zero, List.set_cons_succ]
                  refine wpAnyH_take (i := 4) (oi := { dst := some 49, op := Op.move (Operand.tmp 8), type := _, pos := _, after := _, guard := none }) (v := ?_) rfl (by kernel_rfl) (by kernel_rfl) (by kernel_rfl) (fun _ _ _ h => h) (Or.inl ⟨by rfl, ?_⟩) (by assumption) ?_
                  rotate_left
                  · intro w hSw; (try dsimp only at hSw); go_simp; try with_reducible rfl
                  try simp only [Act.put, List.setIfInBounds_toArray, List.set_cons_zero, List.set_cons_succ]
                  refine wpAnyH_take (i := 5) (oi := { dst := some 50, op := Op.move (Operand.tmp 5), type := _, pos := _, after := _, guard := none }) (v := ?_) rfl (by kernel_rfl) (by kernel_rfl) (by kernel_rfl) (fun _ _ _ h => h) (Or.inl ⟨by rfl, ?_⟩) (by assumption) ?_
                  rotate_left
                  · intro w hSw; (try dsimp only at hSw); go_simp; try with_reducible rfl
                  try simp only [Act.put, List.setIfInBounds_toArray, List.set_cons_zero, List.set_cons_succ]
                  refine wpAnyH_take (i := 6) (oi := { dst := some 51, op := Op.move (Operand.tmp 6), type := _, pos := _, after := _, guard := none }) (v := ?_) rfl (by kernel_rfl) (by kernel_rfl) (by kernel_rfl) (fun _ _ _ h => h) (Or.inl ⟨by rfl, ?_⟩) (by assumption) ?_
                  rotate_left
                  · intro w hSw; (try dsimp only at hSw); go_simp; try with_reducible rfl
                  try simp only [Act.put, List.setIfInBounds_toArray, List.set_cons_zero, List.set_cons_succ]
                  refine wpAnyH_take (i := 7) (oi := { dst := some 52, op := Op.indexAddr 78 (Operand.tmp 50) (Operand.tmp 51), type := _, pos := _, after := _, guard := none }) (v := ?_) rfl (by kernel_rfl) (by kernel_rfl) (by kernel_rfl) (fun _ _ _ h => h) (Or.inl ⟨by rfl, ?_⟩) (by assumption) ?_
                  rotate_left
                  · intro w hSw; (try dsimp only at hSw); go_simp; try with_reducible rfl
                  try simp only [Act.put, List.setIfInBounds_toArray, List.set_cons_zero, List.set_cons_succ]
                  refine wpAnyH_take (i := 8) (oi := { dst := some 53, op := Op.load 28 (Operand.tmp 52), type := _, pos := _, after := _, guard := none }) (v := ?_) rfl (by kernel_rfl) (by kernel_rfl) (by kernel_rfl) (fun _ _ _ h => h) (Or.inl ⟨by rfl, ?_⟩) (by assumption) ?_
                  rotate_left
                  · intro w hSw; (try dsimp only at hSw); go_simp; try with_reducible rfl
                  try simp only [Act.put, List.setIfInBounds_toArray, List.set_cons_zero, List.set_cons_succ]
                  refine wpAnyH_take (i := 9) (oi := { dst := some 54, op := Op.move (Operand.tmp 8), type := _, pos := _, after := _, guard := none }) (v := ?_) rfl (by kernel_rfl) (by kernel_rfl) (by kernel_rfl) (fun _ _ _ h => h) (Or.inl ⟨by rfl, ?_⟩) (by assumption) ?_
                  rotate_left
                  · intro w hSw; (try dsimp only at hSw); go_simp; try with_reducible rfl
                  try simp only [Act.put, List.setIfInBounds_toArray, List.set_cons_zero, List.set_cons_succ]
                  refine wpAnyH_take (i := 10) (oi := { dst := some 55, op := Op.indexAddr 28 (Operand.tmp 53) (Operand.tmp 54), type := _, pos := _, after := _, guard := none }) (v := ?_) rfl (by kernel_rfl) (by kernel_rfl) (by kernel_rfl) (fun _ _ _ h => h) (Or.inl ⟨by rfl, ?_⟩) (by assumption) ?_
                  rotate_left
                  · intro w hSw; (try dsimp only at hSw); go_simp; try with_reducible rfl
                  try simp only [Act.put, List.setIfInBounds_toArray, List.set_cons_zero, List.set_cons_succ]
                  refine wpAnyH_ready (rs := [11]) (by kernel_rfl) (by simp) ?_
                  refine AllReadyH.cons (o := { dst := some 56, op := Op.load 4 (Operand.tmp 55), type := _, pos := _, after := _, guard := none }) rfl (fun K hK => ?_) AllReadyH.nil
                  go_simp
                  refine hK.out _ _ (by exact HS.out) (fun hHeld => ?_)
                  clear hK K
                  try simp only [Act.put, List.setIfInBounds_toArray, List.set_cons_zero, List.set_cons_succ]
                  refine wpAnyH_take (i := 12) (oi := { dst := some 57, op := Op.move (Operand.tmp 56), type := _, pos := _, after := _, guard := none }) (v := ?_) rfl (by kernel_rfl) (by kernel_rfl) (by kernel_rfl) (fun _ _ _ h => h) (Or.inl ⟨by rfl, ?_⟩) (by assumption) ?_
                  rotate_left
                  · intro w hSw; (try dsimp only at hSw); go_simp; try with_reducible rfl
                  try simp only [Act.put, List.setIfInBounds_toArray, List.set_cons_zero, List.set_cons_succ]
                  refine wpAnyH_take (i := 13) (oi := { dst := some 58, op := Op.move (Operand.tmp 1), type := _, pos := _, after := _, guard := some (12, false) }) (v := undef) rfl (by kernel_rfl) (by kernel_rfl) (by kernel_rfl) (fun _ _ _ h => h) (Or.inr ⟨by rfl, rfl⟩) (by assumption) ?_
                  try simp only [Act.put, List.setIfInBounds_toArray, List.set_cons_zero, List.set_cons_succ]
                  refine wpAnyH_take (i := 14) (oi := { dst := some 59, op := Op.move (Operand.tmp 7), type := _, pos := _, after := _, guard := some (12, false) }) (v := undef) rfl (by kernel_rfl) (by kernel_rfl) (by kernel_rfl) (fun _ _ _ h => h) (Or.inr ⟨by rfl, rfl⟩) (by assumption) ?_
                  try simp only [Act.put, List.setIfInBounds_toArray, List.set_cons_zero, List.set_cons_succ]
                  refine wpAnyH_take (i := 15) (oi := { dst := some 60, op := Op.indexAddr 78 (Operand.tmp 58) (Operand.tmp 59), type := _, pos := _, after := _, guard := some (12, false) }) (v := undef) rfl (by kernel_rfl) (by kernel_rfl) (by kernel_rfl) (fun _ _ _ h => h) (Or.inr ⟨by rfl, rfl⟩) (by assumption) ?_
                  try simp only [Act.put, List.setIfInBounds_toArray, List.set_cons_zero, List.set_cons_succ]
                  refine wpAnyH_take (i := 16) (oi := { dst := some 61, op := Op.load 28 (Operand.tmp 60), type := _, pos := _, after := _, guard := some (12, false) }) (v := undef) rfl (by kernel_rfl) (by kernel_rfl) (by kernel_rfl) (fun _ _ _ h => h) (Or.inr ⟨by rfl, rfl⟩) (by assumption) ?_
                  try simp only [Act.put, List.setIfInBounds_toArray, List.set_cons_zero, List.set_cons_succ]
                  refine wpAnyH_take (i := 17) (oi := { dst := some 62, op := Op.move (Operand.tmp 8), type := _, pos := _, after := _, guard := some (12, false) }) (v := undef) rfl (by kernel_rfl) (by kernel_rfl) (by kernel_rfl) (fun _ _ _ h => h) (Or.inr ⟨by rfl, rfl⟩) (by assumption) ?_
                  try simp only [Act.put, List.setIfInBounds_toArray, List.set_cons_zero, List.set_cons_succ]
                  refine wpAnyH_take (i := 18) (oi := { dst := some 63, op := Op.indexAddr 28 (Operand.tmp 61) (Operand.tmp 62), type := _, pos := _, after := _, guard := some (12, false) }) (v := undef) rfl (by kernel_rfl) (by kernel_rfl) (by kernel_rfl) (fun _ _ _ h => h) (Or.inr ⟨by rfl, rfl⟩) (by assumption) ?_
                  try simp only [Act.put, List.setIfInBounds_toArray, List.set_cons_zero, List.set_cons_succ]
                  refine wpAnyH_take (i := 19) (oi := { dst := some 64, op := Op.load 4 (Operand.tmp 63), type := _, pos := _, after := _, guard := some (12, false) }) (v := undef) rfl (by kernel_rfl) (by kernel_rfl) (by kernel_rfl) (fun _ _ _ h => h) (Or.inr ⟨by rfl, rfl⟩) (by assumption) ?_
                  try simp only [Act.put, List.setIfInBounds_toArray, List.set_cons_zero, List.set_cons_succ]
                  refine wpAnyH_take (i := 20) (oi := { dst := some 65, op := Op.pick (Operand.tmp 57) (Operand.const (Value.bool true)) (Operand.tmp 64), type := _, pos := _, after := _, guard := none }) (v := ?_) rfl (by kernel_rfl) (by kernel_rfl) (by kernel_rfl) (fun _ _ _ h => h) (Or.inl ⟨by rfl, ?_⟩) (by assumption) ?_
                  rotate_left
                  · intro w hSw; (try dsimp only at hSw); go_simp; try with_reducible rfl
                  try simp only [Act.put, List.setIfInBounds_toArray, List.set_cons_zero, List.set_cons_succ]
                  refine wpAnyH_take (i := 21) (oi := { dst := some 66, op := Op.indexAddr 28 (Operand.tmp 48) (Operand.tmp 49), type := _, pos := _, after := _, guard := none }) (v := ?_) rfl (by kernel_rfl) (by kernel_rfl) (by kernel_rfl) (fun _ _ _ h => h) (Or.inl ⟨by rfl, ?_⟩) (by assumption) ?_
                  rotate_left
                  · intro w hSw; (try dsimp only at hSw); go_simp; try with_reducible rfl
                  try simp only [Act.put, List.setIfInBounds_toArray, List.set_cons_zero, List.set_cons_succ]
                  refine wpAnyH_ready (rs := [22]) (by kernel_rfl) (by simp) ?_
                  refine AllReadyH.cons (o := { dst := none, op := Op.store 4 (Operand.tmp 66) (Operand.tmp 65), type := _, pos := _, after := _, guard := none }) rfl (fun K hK => ?_) AllReadyH.nil
                  go_simp
                  refine hK.out _ _ (by exact HSN.out) (fun hHeld => ?_)
                  clear hK K
                  try simp only [Act.put, List.setIfInBounds_toArray, List.set_cons_zero, List.set_cons_succ]
                  refine wpAnyH_done (by kernel_rfl) ?_ _
                  all_goals
                    go_wp2_with fail
                    go_roundw
                    case rel => exact ⟨j + 1, by omega, by go_num, HN, hid (HW2.out true)⟩
                    case measure => simp [intOf]; omega
                | false =>
                  have HN := HNN.out y rfl
                  have HS := hid (And.intro hrow (And.intro b1 b2))
                  have HSN := hid (show (wr.drew.setCell ⟨r, j, none⟩ (.bool y)).cell? ⟨g, i, none⟩ = some (.slice (some ⟨r, 0, none⟩) n n) ∧ (wr.drew.setCell ⟨r, j, none⟩ (.bool y)).cell? ⟨gb, k, none⟩ = some (.slice (some ⟨gbk, 0, none⟩) n n) ∧ (wr.drew.setCell ⟨r, j, none⟩ (.bool y)).cell? ⟨gbk, j, none⟩ = some (.bool y) from
                    ⟨(cell_set_other (.inl HNE.out.1)).trans hrow, (cell_set_other (.inl HNE.out.2.1)).trans b1, (cell_set_other (.inl HNE.out.2.2)).trans b2⟩)
                  go_wp2_with fail
                  refine wp_region_held_drew (S := (fun Y => Y.cell? ⟨g, i, none⟩ = some (.slice (some ⟨r, 0, none⟩) n n) ∧ Y.cell? ⟨gb, k, none⟩ = some (.slice (some ⟨gbk, 0, none⟩) n n) ∧ Y.cell? ⟨gbk, j, none⟩ = some (.bool y))) (by kernel_rfl) (by exact HS.out) (fun hHeld => ?_)
                  refine wpAnyH_take (i := 0) (oi := { dst := some 45, op := Op.move (Operand.tmp 5), type := _, pos := _, after := _, guard := none }) (v := ?_) rfl (by kernel_rfl) (by kernel_rfl) (by kernel_rfl) (fun _ _ _ h => h) (Or.inl ⟨by rfl, ?_⟩) (by assumption) ?_
                  rotate_left
                  · intro w hSw; (try dsimp only at hSw); go_simp; try with_reducible rfl
                  try simp only [Act.put, List.setIfInBounds_toArray, List.set_cons_zero, List.set_cons_succ]
                  refine wpAnyH_take (i := 1) (oi := { dst := some 46, op := Op.move (Operand.tmp 6), type := _, pos := _, after := _, guard := none }) (v := ?_) rfl (by kernel_rfl) (by kernel_rfl) (by kernel_rfl) (fun _ _ _ h => h) (Or.inl ⟨by rfl, ?_⟩) (by assumption) ?_
                  rotate_left
                  · intro w hSw; (try dsimp only at hSw); go_simp; try with_reducible rfl
                  try simp only [Act.put, List.setIfInBounds_toArray, List.set_cons_zero, List.set_cons_succ]
                  refine wpAnyH_take (i := 2) (oi := { dst := some 47, op := Op.indexAddr 78 (Operand.tmp 45) (Operand.tmp 46), type := _, pos := _, after := _, guard := none }) (v := ?_) rfl (by kernel_rfl) (by kernel_rfl) (by kernel_rfl) (fun _ _ _ h => h) (Or.inl ⟨by rfl, ?_⟩) (by assumption) ?_
                  rotate_left
                  · intro w hSw; (try dsimp only at hSw); go_simp; try with_reducible rfl
                  try simp only [Act.put, List.setIfInBounds_toArray, List.set_cons_zero, List.set_cons_succ]
                  refine wpAnyH_take (i := 3) (oi := { dst := some 48, op := Op.load 28 (Operand.tmp 47), type := _, pos := _, after := _, guard := none }) (v := ?_) rfl (by kernel_rfl) (by kernel_rfl) (by kernel_rfl) (fun _ _ _ h => h) (Or.inl ⟨by rfl, ?_⟩) (by assumption) ?_
                  rotate_left
                  · intro w hSw; (try dsimp only at hSw); go_simp; try with_reducible rfl
                  try simp only [Act.put, List.setIfInBounds_toArray, List.set_cons_zero, List.set_cons_succ]
                  refine wpAnyH_take (i := 4) (oi := { dst := some 49, op := Op.move (Operand.tmp 8), type := _, pos := _, after := _, guard := none }) (v := ?_) rfl (by kernel_rfl) (by kernel_rfl) (by kernel_rfl) (fun _ _ _ h => h) (Or.inl ⟨by rfl, ?_⟩) (by assumption) ?_
                  rotate_left
                  · intro w hSw; (try dsimp only at hSw); go_simp; try with_reducible rfl
                  try simp only [Act.put, List.setIfInBounds_toArray, List.set_cons_zero, List.set_cons_succ]
                  refine wpAnyH_take (i := 5) (oi := { dst := some 50, op := Op.move (Operand.tmp 5), type := _, pos := _, after := _, guard := none }) (v := ?_) rfl (by kernel_rfl) (by kernel_rfl) (by kernel_rfl) (fun _ _ _ h => h) (Or.inl ⟨by rfl, ?_⟩) (by assumption) ?_
                  rotate_left
                  · intro w hSw; (try dsimp only at hSw); go_simp; try with_reducible rfl
                  try simp only [Act.put, List.setIfInBounds_toArray, List.set_cons_zero, List.set_cons_succ]
                  refine wpAnyH_take (i := 6) (oi := { dst := some 51, op := Op.move (Operand.tmp 6), type := _, pos := _, after := _, guard := none }) (v := ?_) rfl (by kernel_rfl) (by kernel_rfl) (by kernel_rfl) (fun _ _ _ h => h) (Or.inl ⟨by rfl, ?_⟩) (by assumption) ?_
                  rotate_left
                  · intro w hSw; (try dsimp only at hSw); go_simp; try with_reducible rfl
                  try simp only [Act.put, List.setIfInBounds_toArray, List.set_cons_zero, List.set_cons_succ]
                  refine wpAnyH_take (i := 7) (oi := { dst := some 52, op := Op.indexAddr 78 (Operand.tmp 50) (Operand.tmp 51), type := _, pos := _, after := _, guard := none }) (v := ?_) rfl (by kernel_rfl) (by kernel_rfl) (by kernel_rfl) (fun _ _ _ h => h) (Or.inl ⟨by rfl, ?_⟩) (by assumption) ?_
                  rotate_left
                  · intro w hSw; (try dsimp only at hSw); go_simp; try with_reducible rfl
                  try simp only [Act.put, List.setIfInBounds_toArray, List.set_cons_zero, List.set_cons_succ]
                  refine wpAnyH_take (i := 8) (oi := { dst := some 53, op := Op.load 28 (Operand.tmp 52), type := _, pos := _, after := _, guard := none }) (v := ?_) rfl (by kernel_rfl) (by kernel_rfl) (by kernel_rfl) (fun _ _ _ h => h) (Or.inl ⟨by rfl, ?_⟩) (by assumption) ?_
                  rotate_left
                  · intro w hSw; (try dsimp only at hSw); go_simp; try with_reducible rfl
                  try simp only [Act.put, List.setIfInBounds_toArray, List.set_cons_zero, List.set_cons_succ]
                  refine wpAnyH_take (i := 9) (oi := { dst := some 54, op := Op.move (Operand.tmp 8), type := _, pos := _, after := _, guard := none }) (v := ?_) rfl (by kernel_rfl) (by kernel_rfl) (by kernel_rfl) (fun _ _ _ h => h) (Or.inl ⟨by rfl, ?_⟩) (by assumption) ?_
                  rotate_left
                  · intro w hSw; (try dsimp only at hSw); go_simp; try with_reducible rfl
                  try simp only [Act.put, List.setIfInBounds_toArray, List.set_cons_zero, List.set_cons_succ]
                  refine wpAnyH_take (i := 10) (oi := { dst := some 55, op := Op.indexAddr 28 (Operand.tmp 53) (Operand.tmp 54), type := _, pos := _, after := _, guard := none }) (v := ?_) rfl (by kernel_rfl) (by kernel_rfl) (by kernel_rfl) (fun _ _ _ h => h) (Or.inl ⟨by rfl, ?_⟩) (by assumption) ?_
                  rotate_left
                  · intro w hSw; (try dsimp only at hSw); go_simp; try with_reducible rfl
                  try simp only [Act.put, List.setIfInBounds_toArray, List.set_cons_zero, List.set_cons_succ]
                  refine wpAnyH_ready (rs := [11]) (by kernel_rfl) (by simp) ?_
                  refine AllReadyH.cons (o := { dst := some 56, op := Op.load 4 (Operand.tmp 55), type := _, pos := _, after := _, guard := none }) rfl (fun K hK => ?_) AllReadyH.nil
                  go_simp
                  refine hK.out _ _ (by exact HS.out) (fun hHeld => ?_)
                  clear hK K
                  try simp only [Act.put, List.setIfInBounds_toArray, List.set_cons_zero, List.set_cons_succ]
                  refine wpAnyH_take (i := 12) (oi := { dst := some 57, op := Op.move (Operand.tmp 56), type := _, pos := _, after := _, guard := none }) (v := ?_) rfl (by kernel_rfl) (by kernel_rfl) (by kernel_rfl) (fun _ _ _ h => h) (Or.inl ⟨by rfl, ?_⟩) (by assumption) ?_
                  rotate_left
                  · intro w hSw; (try dsimp only at hSw); go_simp; try with_reducible rfl
                  try simp only [Act.put, List.setIfInBounds_toArray, List.set_cons_zero, List.set_cons_succ]
                  refine wpAnyH_take (i := 13) (oi := { dst := some 58, op := Op.move (Operand.tmp 1), type := _, pos := _, after := _, guard := some (12, false) }) (v := ?_) rfl (by kernel_rfl) (by kernel_rfl) (by kernel_rfl) (fun _ _ _ h => h) (Or.inl ⟨by rfl, ?_⟩) (by assumption) ?_
                  rotate_left
                  · intro w hSw; (try dsimp only at hSw); go_simp; try with_reducible rfl
                  try simp only [Act.put, List.setIfInBounds_toArray, List.set_cons_zero, List.set_cons_succ]
                  refine wpAnyH_take (i := 14) (oi := { dst := some 59, op := Op.move (Operand.tmp 7), type := _, pos := _, after := _, guard := some (12, false) }) (v := ?_) rfl (by kernel_rfl) (by kernel_rfl) (by kernel_rfl) (fun _ _ _ h => h) (Or.inl ⟨by rfl, ?_⟩) (by assumption) ?_
                  rotate_left
                  · intro w hSw; (try dsimp only at hSw); go_simp; try with_reducible rfl
                  try simp only [Act.put, List.setIfInBounds_toArray, List.set_cons_zero, List.set_cons_succ]
                  refine wpAnyH_take (i := 15) (oi := { dst := some 60, op := Op.indexAddr 78 (Operand.tmp 58) (Operand.tmp 59), type := _, pos := _, after := _, guard := some (12, false) }) (v := ?_) rfl (by kernel_rfl) (by kernel_rfl) (by kernel_rfl) (fun _ _ _ h => h) (Or.inl ⟨by rfl, ?_⟩) (by assumption) ?_
                  rotate_left
                  · intro w hSw; (try dsimp only at hSw); go_simp; try with_reducible rfl
                  try simp only [Act.put, List.setIfInBounds_toArray, List.set_cons_zero, List.set_cons_succ]
                  refine wpAnyH_take (i := 16) (oi := { dst := some 61, op := Op.load 28 (Operand.tmp 60), type := _, pos := _, after := _, guard := some (12, false) }) (v := ?_) rfl (by kernel_rfl) (by kernel_rfl) (by kernel_rfl) (fun _ _ _ h => h) (Or.inl ⟨by rfl, ?_⟩) (by assumption) ?_
                  rotate_left
                  · intro w hSw; (try dsimp only at hSw); go_simp; try with_reducible rfl
                  try simp only [Act.put, List.setIfInBounds_toArray, List.set_cons_zero, List.set_cons_succ]
                  refine wpAnyH_take (i := 17) (oi := { dst := some 62, op := Op.move (Operand.tmp 8), type := _, pos := _, after := _, guard := some (12, false) }) (v := ?_) rfl (by kernel_rfl) (by kernel_rfl) (by kernel_rfl) (fun _ _ _ h => h) (Or.inl ⟨by rfl, ?_⟩) (by assumption) ?_
                  rotate_left
                  · intro w hSw; (try dsimp only at hSw); go_simp; try with_reducible rfl
                  try simp only [Act.put, List.setIfInBounds_toArray, List.set_cons_zero, List.set_cons_succ]
                  refine wpAnyH_take (i := 18) (oi := { dst := some 63, op := Op.indexAddr 28 (Operand.tmp 61) (Operand.tmp 62), type := _, pos := _, after := _, guard := some (12, false) }) (v := ?_) rfl (by kernel_rfl) (by kernel_rfl) (by kernel_rfl) (fun _ _ _ h => h) (Or.inl ⟨by rfl, ?_⟩) (by assumption) ?_
                  rotate_left
                  · intro w hSw; (try dsimp only at hSw); go_simp; try with_reducible rfl
                  try simp only [Act.put, List.setIfInBounds_toArray, List.set_cons_zero, List.set_cons_succ]
                  refine wpAnyH_take (i := 19) (oi := { dst := some 64, op := Op.load 4 (Operand.tmp 63), type := _, pos := _, after := _, guard := some (12, false) }) (v := ?_) rfl (by kernel_rfl) (by kernel_rfl) (by kernel_rfl) (fun _ _ _ h => h) (Or.inl ⟨by rfl, ?_⟩) (by assumption) ?_
                  rotate_left
                  · intro w hSw; (try dsimp only at hSw); go_simp; try with_reducible rfl
                  try simp only [Act.put, List.setIfInBounds_toArray, List.set_cons_zero, List.set_cons_succ]
                  refine wpAnyH_take (i := 20) (oi := { dst := some 65, op := Op.pick (Operand.tmp 57) (Operand.const (Value.bool true)) (Operand.tmp 64), type := _, pos := _, after := _, guard := none }) (v := ?_) rfl (by kernel_rfl) (by kernel_rfl) (by kernel_rfl) (fun _ _ _ h => h) (Or.inl ⟨by rfl, ?_⟩) (by assumption) ?_
                  rotate_left
                  · intro w hSw; (try dsimp only at hSw); go_simp; try with_reducible rfl
                  try simp only [Act.put, List.setIfInBounds_toArray, List.set_cons_zero, List.set_cons_succ]
                  refine wpAnyH_take (i := 21) (oi := { dst := some 66, op := Op.indexAddr 28 (Operand.tmp 48) (Operand.tmp 49), type := _, pos := _, after := _, guard := none }) (v := ?_) rfl (by kernel_rfl) (by kernel_rfl) (by kernel_rfl) (fun _ _ _ h => h) (Or.inl ⟨by rfl, ?_⟩) (by assumption) ?_
                  rotate_left
                  · intro w hSw; (try dsimp only at hSw); go_simp; try with_reducible rfl
                  try simp only [Act.put, List.setIfInBounds_toArray, List.set_cons_zero, List.set_cons_succ]
                  refine wpAnyH_ready (rs := [22]) (by kernel_rfl) (by simp) ?_
                  refine AllReadyH.cons (o := { dst := none, op := Op.store 4 (Operand.tmp 66) (Operand.tmp 65), type := _, pos := _, after := _, guard := none }) rfl (fun K hK => ?_) AllReadyH.nil
                  go_simp
                  refine hK.out _ _ (by exact HSN.out) (fun hHeld => ?_)
                  clear hK K
                  try simp only [Act.put, List.setIfInBounds_toArray, List.set_cons_zero, List.set_cons_succ]
                  refine wpAnyH_done (by kernel_rfl) ?_ _
                  all_goals
                    go_wp2_with fail
                    go_roundw
                    case rel => exact ⟨j + 1, by omega, by go_num, HN, hid (HW2.out y)⟩
                    case measure => simp [intOf]; omega
              · obtain rfl : j = n := by omega
                have HD := hid (HY.out.congr (h' := fun j' => (List.range (k + 1)).any fun m => fa i m && fb m j') fun j' hj' => by rw [any_range_succ', HXT.out, decide_eq_true hj'])
                go_wp2_with fail
                go_roundw
                case rel => exact ⟨k + 1, by omega, by go_num, HD, HWy⟩
                case measure => simp [intOf]; omega
        · obtain rfl : k = n := by omega
          have HD := hid (HX.out.done fun j _ => rfl)
          go_wp2_with fail
          go_roundw
          case rel => exact ⟨i + 1, by omega, by go_num, HD, HWx⟩
          case measure => simp [intOf]; omega
    · obtain rfl : i = n := by omega
      go_wp2_with fail
      go_ret
      exact ⟨_, rfl, HO.out.tab, HW.out⟩
end Go.Proofs.Ytjcdcmeclnihbaa
