/- Whether two tries tell the same. Conditions: tries of one other class in memory. -/
import Derived.Test.YtehchnagjdmdgaaCw
import Derived.Test.YtehchnagjdmdgaaTp
namespace Go.Proofs.Ytehchnagjdmdgaa
open Go.RowKit
set_option linter.unusedSimpArgs false
theorem neq76 {x y : List Int} (hx : byteL x) (hy : byteL y) (w : World) : (binOp BinOp.neq 76 (.agg (x.map (Value.int .u8)).toArray) (.agg (y.map (Value.int .u8)).toArray)).run Try.prog w = .ok (.bool (!decide (x = y))) w := by
  obtain ⟨kx, ex⟩ := byte_key hx
  obtain ⟨ky, ey⟩ := byte_key hy
  obtain ⟨r, hr, hrx⟩ := run_equal_deep (P := Try.prog) w (m := 3) (by omega) (k := 76) (by kernel_rfl) (by kernel_rfl) ex ey
  have hinj : (kx = ky) ↔ x = y := by
    constructor
    · intro e
      subst e
      exact byteKey.inj (byteKey.law.inj ex ey)
    · intro e
      subst e
      rw [ex] at ey
      injection ey
  have hrd : r = decide (x = y) := by
    rw [hinj] at hrx
    exact Bool.eq_iff_iff.2 (by rw [hrx]; simp)
  rw [← hrd]
  show (binOp BinOp.neq 76 (encB x) (encB y)).run Try.prog w = _
  have hb : binOp BinOp.neq 76 (encB x) (encB y) = (do let b ← Op.equal 76 (encB x) (encB y); pure (.bool !b)) := rfl
  rw [hb, Sem.run_bind, hr]
  rfl
theorem place_of {w : World} {B t m : Nat} {other : Int} {es : List Ent} (h : Tb w B t other (firstTo other es m) (blksTo other es m)) : ∃ VA vc, ∃ n : Nat, w.cell? ⟨t, 4353, none⟩ = some (.slice VA n vc) ∧
    ∀ p, p < m → ∃ bb bo, ∃ ix : Nat, VA = some ⟨bb, bo, none⟩ ∧ ix < n ∧ ix < m ∧ w.cell? ⟨t, 1 + p, none⟩ = some (.int .u16 (ix : Int)) ∧ w.rangeAt bb (bo + ix * 256) ((blkOf other es p).map (.int .u8)) := by
  obtain ⟨-, VA, vc, c1, hr⟩ := h.read (all256 other es m)
  obtain ⟨VA', vc', c1', hr'⟩ := h.blks (all256 other es m)
  have hle := blks_len other es m
  obtain ⟨n, hn⟩ : ∃ n, n = (blksTo other es m).length := ⟨_, rfl⟩
  rw [← hn] at c1 c1' hle
  obtain ⟨rfl, rfl⟩ : VA = VA' ∧ vc = vc' := by rw [c1] at c1'; injection c1' with e; injection e with e1 e2 e3; exact ⟨e1, e3⟩
  refine ⟨VA, vc, n, c1, fun p hp => ?_⟩
  obtain ⟨ix, e1, e2⟩ := first_at (other := other) (es := es) (q := p) m hp
  obtain ⟨bb, bo, ea, h1, h2, -⟩ := hr p 0 ix _ (by omega) e1 e2
  obtain ⟨bb', bo', ea', h3⟩ := hr' ix _ e2
  obtain ⟨rfl, rfl⟩ : bb = bb' ∧ bo = bo' := by rw [ea] at ea'; injection ea' with ea'; injection ea' with a b; exact ⟨a, b⟩
  rw [← hn] at h1
  exact ⟨bb, bo, ix, ea, h1, by omega, h2, h3⟩
theorem IsTrie.place {w : World} {t : Nat} {other : Int} {es : List Ent} (h : IsTrie w t other es) : w.cell? ⟨t, 0, none⟩ = some (.int .i64 other) ∧ ∃ VA vc, ∃ n : Nat, w.cell? ⟨t, 4353, none⟩ = some (.slice VA n vc) ∧
    ∀ p, p < 4352 → ∃ bb bo, ∃ ix : Nat, VA = some ⟨bb, bo, none⟩ ∧ ix < n ∧ ix < 4352 ∧ w.cell? ⟨t, 1 + p, none⟩ = some (.int .u16 (ix : Int)) ∧ w.rangeAt bb (bo + ix * 256) ((blkOf other es p).map (.int .u8)) := by
  obtain ⟨c0, -⟩ := h.read
  obtain ⟨B, h⟩ := h
  obtain ⟨VA, vc, n, c1, hr⟩ := place_of h
  exact ⟨c0, VA, vc, n, c1, hr⟩
set_option maxRecDepth 100000 in
set_option maxHeartbeats 2000000 in
theorem sameT_any {w : World} {ta tb : Nat} {other : Int} {l m : List Ent} (h : IsTrie w ta other l) (h' : IsTrie w tb other m) (hg : ∀ e ∈ l, goodE e = true) (hg' : ∀ e ∈ m, goodE e = true) (ho : 0 ≤ other ∧ other ≤ 255) :
    Calls Try.prog 21 #[.pointer (some ⟨ta, 0, none⟩), .pointer (some ⟨tb, 0, none⟩)] w fun e w' => e = .returned (.bool (sameTo other l m 4352)) ∧ Below w.heap.size w w' := by
  obtain ⟨a0, AV, ac, an, a1, har⟩ := h.place
  obtain ⟨b0, BV, bc, bn, b1, hbr⟩ := h'.place
  have HA := hid (show ∀ Y, Below w.heap.size w Y → Y.cell? ⟨ta, 4353, none⟩ = some (.slice AV an ac) ∧ (∀ p, p < 4352 → ∃ bb bo, ∃ ix : Nat, AV = some ⟨bb, bo, none⟩ ∧ ix < an ∧ ix < 4352 ∧ Y.cell? ⟨ta, 1 + p, none⟩ = some (.int .u16 (ix : Int)) ∧ Y.rangeAt bb (bo + ix * 256) ((blkOf other l p).map (.int .u8))) from fun Y hY =>
    ⟨(hY.cell (p := ⟨ta, 4353, none⟩) (cell_lt a1)).trans a1, fun p hp => by
      obtain ⟨bb, bo, ix, h1, h2, h3, h4, h5⟩ := har p hp
      exact ⟨bb, bo, ix, h1, h2, h3, (hY.cell (p := ⟨ta, 1 + p, none⟩) (cell_lt a1)).trans h4, range_below h5 hY (Nat.le_refl _)⟩⟩)
  have HB := hid (show ∀ Y, Below w.heap.size w Y → Y.cell? ⟨tb, 4353, none⟩ = some (.slice BV bn bc) ∧ (∀ p, p < 4352 → ∃ bb bo, ∃ ix : Nat, BV = some ⟨bb, bo, none⟩ ∧ ix < bn ∧ ix < 4352 ∧ Y.cell? ⟨tb, 1 + p, none⟩ = some (.int .u16 (ix : Int)) ∧ Y.rangeAt bb (bo + ix * 256) ((blkOf other m p).map (.int .u8))) from fun Y hY =>
    ⟨(hY.cell (p := ⟨tb, 4353, none⟩) (cell_lt b1)).trans b1, fun p hp => by
      obtain ⟨bb, bo, ix, h1, h2, h3, h4, h5⟩ := hbr p hp
      exact ⟨bb, bo, ix, h1, h2, h3, (hY.cell (p := ⟨tb, 1 + p, none⟩) (cell_lt b1)).trans h4, range_below h5 hY (Nat.le_refl _)⟩⟩)
  have HBL := hid (show ∀ p, byteL (blkOf other l p) ∧ byteL (blkOf other m p) from fun p => ⟨blk_byte hg ho p, blk_byte hg' ho p⟩)
  clear h h' har hbr a1 b1 hg hg' ho
  go_enter Try.func21, Try.ntmps21
  go_wp2_with fail
  go_region
  all_goals
    go_wp2_with fail
    go_loopw [24] (fun s24 wr => ∃ (p : Nat), p ≤ 4352 ∧ s24 = .int .i64 p ∧ Hid (sameTo other l m p = true) ∧ Hid (Below w.heap.size w wr)) (fun s24 _ => 4352 - (intOf s24).toNat)
    case atStart => exact ⟨0, by omega, rfl, hid rfl, hid (Below.refl _ _).drew⟩
    case round =>
      obtain ⟨p, hp, rfl, HO, HBW⟩ := hrel
      by_cases hlt : p < 4352
      · obtain ⟨a1, har⟩ := HA.out wr HBW.out
        obtain ⟨ab, ao, ia, rfl, hia, hia2, a2, a3⟩ := har p hlt
        obtain ⟨b1, hbr⟩ := HB.out wr HBW.out
        obtain ⟨bb, bo, ib, rfl, hib, hib2, b2, b3⟩ := hbr p hlt
        obtain ⟨xa, hxa⟩ : ∃ x, x = (blkOf other l p).map (Value.int .u8) := ⟨_, rfl⟩
        obtain ⟨xb, hxb⟩ : ∃ x, x = (blkOf other m p).map (Value.int .u8) := ⟨_, rfl⟩
        have hneq : ∀ W, (binOp BinOp.neq 76 (.agg xa.toArray) (.agg xb.toArray)).run Try.prog W = .ok (.bool (!decide (blkOf other l p = blkOf other m p))) W := fun W => by
          rw [hxa, hxb]; exact neq76 (HBL.out p).1 (HBL.out p).2 W
        have HLA := hid (show xa.length = 256 by rw [hxa, List.length_map]; exact (HBL.out p).1.1)
        have HLB := hid (show xb.length = 256 by rw [hxb, List.length_map]; exact (HBL.out p).2.1)
        rw [← hxa] at a3
        rw [← hxb] at b3
        have HZZ := hid (Below.refl wr.heap.size wr)
        have HXC := hid (show ∀ Y, Below wr.heap.size wr Y → (Y.cell? ⟨ta, 4353, none⟩ = some (.slice (some ⟨ab, ao, none⟩) an ac) ∧ Y.cell? ⟨ta, 1 + p, none⟩ = some (.int .u16 (ia : Int)) ∧ Y.rangeAt ab (ao + ia * 256) xa) ∧ Y.cell? ⟨tb, 4353, none⟩ = some (.slice (some ⟨bb, bo, none⟩) bn bc) ∧ Y.cell? ⟨tb, 1 + p, none⟩ = some (.int .u16 (ib : Int)) ∧ Y.rangeAt bb (bo + ib * 256) xb from fun Y hY =>
          ⟨⟨(hY.cell (p := ⟨ta, 4353, none⟩) (cell_lt a1)).trans a1, (hY.cell (p := ⟨ta, 1 + p, none⟩) (cell_lt a1)).trans a2, range_below a3 hY (Nat.le_refl _)⟩, (hY.cell (p := ⟨tb, 4353, none⟩) (cell_lt b1)).trans b1, (hY.cell (p := ⟨tb, 1 + p, none⟩) (cell_lt b1)).trans b2, range_below b3 hY (Nat.le_refl _)⟩)
        have hpi : (p : Int) < 4352 := by omega
        clear a1 a2 a3 b1 b2 b3 har hbr hxa hxb
        cases hd : decide (blkOf other l p = blkOf other m p) with
        | true =>
          have HN := hid (show sameTo other l m (p + 1) = true by rw [sameTo_succ, HO.out, hd]; rfl)
          rw [hd] at hneq
          clear hd
          go_wp2_with fail
          refine wp_region_held_drew (S := (fun Y => (Y.cell? ⟨ta, 4353, none⟩ = some (.slice (some ⟨ab, ao, none⟩) an ac) ∧ Y.cell? ⟨ta, 1 + p, none⟩ = some (.int .u16 (ia : Int)) ∧ Y.rangeAt ab (ao + ia * 256) xa) ∧ Y.cell? ⟨tb, 4353, none⟩ = some (.slice (some ⟨bb, bo, none⟩) bn bc) ∧ Y.cell? ⟨tb, 1 + p, none⟩ = some (.int .u16 (ib : Int)) ∧ Y.rangeAt bb (bo + ib * 256) xb)) (by kernel_rfl) (by first | exact HXC.out _ HZZ.out | exact HXC.out _ HZZ.out.drew) (fun hHeld => ?_)
          refine wpAnyH_take (i := 0) (oi := { dst := some 27, op := Op.move (Operand.tmp 0), type := _, pos := _, after := _, guard := none }) (v := ?_) rfl (by kernel_rfl) (by kernel_rfl) (by kernel_rfl) (fun _ _ _ h => h) (Or.inl ⟨by rfl, ?_⟩) (by assumption) ?_
          rotate_left
          · intro w hSw; (try dsimp only at hSw); go_simp; try (first | with_reducible rfl | (refine (if_pos ?_).trans ?_ <;> first | omega | with_reducible rfl))
          try simp only [Act.put, List.setIfInBounds_toArray, List.set_cons_zero, List.set_cons_succ]
          refine wpAnyH_take (i := 1) (oi := { dst := some 28, op := Op.nilCheck (Operand.tmp 27), type := _, pos := _, after := _, guard := none }) (v := ?_) rfl (by kernel_rfl) (by kernel_rfl) (by kernel_rfl) (fun _ _ _ h => h) (Or.inl ⟨by rfl, ?_⟩) (by assumption) ?_
          rotate_left
          · intro w hSw; (try dsimp only at hSw); go_simp; try (first | with_reducible rfl | (refine (if_pos ?_).trans ?_ <;> first | omega | with_reducible rfl))
          try simp only [Act.put, List.setIfInBounds_toArray, List.set_cons_zero, List.set_cons_succ]
          refine wpAnyH_take (i := 2) (oi := { dst := some 29, op := Op.fieldAddr 73 (Operand.tmp 28) 2, type := _, pos := _, after := _, guard := none }) (v := ?_) rfl (by kernel_rfl) (by kernel_rfl) (by kernel_rfl) (fun _ _ _ h => h) (Or.inl ⟨by rfl, ?_⟩) (by assumption) ?_
          rotate_left
          · intro w hSw; (try dsimp only at hSw); go_simp; try (first | with_reducible rfl | (refine (if_pos ?_).trans ?_ <;> first | omega | with_reducible rfl))
          try simp only [Act.put, List.setIfInBounds_toArray, List.set_cons_zero, List.set_cons_succ]
          refine wpAnyH_take (i := 3) (oi := { dst := some 30, op := Op.load 71 (Operand.tmp 29), type := _, pos := _, after := _, guard := none }) (v := ?_) rfl (by kernel_rfl) (by kernel_rfl) (by kernel_rfl) (fun _ _ _ h => h) (Or.inl ⟨by rfl, ?_⟩) (by assumption) ?_
          rotate_left
          · intro w hSw; (try dsimp only at hSw); go_simp; try (first | with_reducible rfl | (refine (if_pos ?_).trans ?_ <;> first | omega | with_reducible rfl))
          try simp only [Act.put, List.setIfInBounds_toArray, List.set_cons_zero, List.set_cons_succ]
          refine wpAnyH_take (i := 4) (oi := { dst := some 31, op := Op.move (Operand.tmp 0), type := _, pos := _, after := _, guard := none }) (v := ?_) rfl (by kernel_rfl) (by kernel_rfl) (by kernel_rfl) (fun _ _ _ h => h) (Or.inl ⟨by rfl, ?_⟩) (by assumption) ?_
          rotate_left
          · intro w hSw; (try dsimp only at hSw); go_simp; try (first | with_reducible rfl | (refine (if_pos ?_).trans ?_ <;> first | omega | with_reducible rfl))
          try simp only [Act.put, List.setIfInBounds_toArray, List.set_cons_zero, List.set_cons_succ]
          refine wpAnyH_take (i := 5) (oi := { dst := some 32, op := Op.move (Operand.tmp 5), type := _, pos := _, after := _, guard := none }) (v := ?_) rfl (by kernel_rfl) (by kernel_rfl) (by kernel_rfl) (fun _ _ _ h => h) (Or.inl ⟨by rfl, ?_⟩) (by assumption) ?_
          rotate_left
          · intro w hSw; (try dsimp only at hSw); go_simp; try (first | with_reducible rfl | (refine (if_pos ?_).trans ?_ <;> first | omega | with_reducible rfl))
          try simp only [Act.put, List.setIfInBounds_toArray, List.set_cons_zero, List.set_cons_succ]
          refine wpAnyH_take (i := 6) (oi := { dst := some 33, op := Op.nilCheck (Operand.tmp 31), type := _, pos := _, after := _, guard := none }) (v := ?_) rfl (by kernel_rfl) (by kernel_rfl) (by kernel_rfl) (fun _ _ _ h => h) (Or.inl ⟨by rfl, ?_⟩) (by assumption) ?_
          rotate_left
          · intro w hSw; (try dsimp only at hSw); go_simp; try (first | with_reducible rfl | (refine (if_pos ?_).trans ?_ <;> first | omega | with_reducible rfl))
          try simp only [Act.put, List.setIfInBounds_toArray, List.set_cons_zero, List.set_cons_succ]
          refine wpAnyH_take (i := 7) (oi := { dst := some 34, op := Op.fieldAddr 73 (Operand.tmp 33) 1, type := _, pos := _, after := _, guard := none }) (v := ?_) rfl (by kernel_rfl) (by kernel_rfl) (by kernel_rfl) (fun _ _ _ h => h) (Or.inl ⟨by rfl, ?_⟩) (by assumption) ?_
          rotate_left
          · intro w hSw; (try dsimp only at hSw); go_simp; try (first | with_reducible rfl | (refine (if_pos ?_).trans ?_ <;> first | omega | with_reducible rfl))
          try simp only [Act.put, List.setIfInBounds_toArray, List.set_cons_zero, List.set_cons_succ]
          refine wpAnyH_take (i := 8) (oi := { dst := some 35, op := Op.indexAddr 70 (Operand.tmp 34) (Operand.tmp 32), type := _, pos := _, after := _, guard := none }) (v := ?_) rfl (by kernel_rfl) (by kernel_rfl) (by kernel_rfl) (fun _ _ _ h => h) (Or.inl ⟨by rfl, ?_⟩) (by assumption) ?_
          rotate_left
          · intro w hSw; (try dsimp only at hSw); go_simp; try (first | with_reducible rfl | (refine (if_pos ?_).trans ?_ <;> first | omega | with_reducible rfl))
          try simp only [Act.put, List.setIfInBounds_toArray, List.set_cons_zero, List.set_cons_succ]
          refine wpAnyH_take (i := 9) (oi := { dst := some 36, op := Op.load 69 (Operand.tmp 35), type := _, pos := _, after := _, guard := none }) (v := ?_) rfl (by kernel_rfl) (by kernel_rfl) (by kernel_rfl) (fun _ _ _ h => h) (Or.inl ⟨by rfl, ?_⟩) (by assumption) ?_
          rotate_left
          · intro w hSw; (try dsimp only at hSw); go_simp; try (first | with_reducible rfl | (refine (if_pos ?_).trans ?_ <;> first | omega | with_reducible rfl))
          try simp only [Act.put, List.setIfInBounds_toArray, List.set_cons_zero, List.set_cons_succ]
          refine wpAnyH_take (i := 10) (oi := { dst := some 37, op := Op.indexAddr 71 (Operand.tmp 30) (Operand.tmp 36), type := _, pos := _, after := _, guard := none }) (v := ?_) rfl (by kernel_rfl) (by kernel_rfl) (by kernel_rfl) (fun _ _ _ h => h) (Or.inl ⟨by rfl, ?_⟩) (by assumption) ?_
          rotate_left
          · intro w hSw; (try dsimp only at hSw); go_simp; try (first | with_reducible rfl | (refine (if_pos ?_).trans ?_ <;> first | omega | with_reducible rfl))
          try simp only [Act.put, List.setIfInBounds_toArray, List.set_cons_zero, List.set_cons_succ]
          refine wpAnyH_take (i := 11) (oi := { dst := some 38, op := Op.load 76 (Operand.tmp 37), type := _, pos := _, after := _, guard := none }) (v := .agg xa.toArray) rfl (by kernel_rfl) (by kernel_rfl) (by kernel_rfl) (fun _ _ _ h => h) (yieldsIf_load_mid (by rfl) 76 (.tmp 37) rfl ab (ao + ia * 256) rfl xa _ (fun _ h => h.1.2.2) Try.underlying76 rfl (by rw [size76, HLA.out])) (by assumption) ?_
          try simp only [Act.put, List.setIfInBounds_toArray, List.set_cons_zero, List.set_cons_succ]
          refine wpAnyH_take (i := 12) (oi := { dst := some 39, op := Op.move (Operand.tmp 1), type := _, pos := _, after := _, guard := none }) (v := ?_) rfl (by kernel_rfl) (by kernel_rfl) (by kernel_rfl) (fun _ _ _ h => h) (Or.inl ⟨by rfl, ?_⟩) (by assumption) ?_
          rotate_left
          · intro w hSw; (try dsimp only at hSw); go_simp; try (first | with_reducible rfl | (refine (if_pos ?_).trans ?_ <;> first | omega | with_reducible rfl))
          try simp only [Act.put, List.setIfInBounds_toArray, List.set_cons_zero, List.set_cons_succ]
          refine wpAnyH_take (i := 13) (oi := { dst := some 40, op := Op.nilCheck (Operand.tmp 39), type := _, pos := _, after := _, guard := none }) (v := ?_) rfl (by kernel_rfl) (by kernel_rfl) (by kernel_rfl) (fun _ _ _ h => h) (Or.inl ⟨by rfl, ?_⟩) (by assumption) ?_
          rotate_left
          · intro w hSw; (try dsimp only at hSw); go_simp; try (first | with_reducible rfl | (refine (if_pos ?_).trans ?_ <;> first | omega | with_reducible rfl))
          try simp only [Act.put, List.setIfInBounds_toArray, List.set_cons_zero, List.set_cons_succ]
          refine wpAnyH_take (i := 14) (oi := { dst := some 41, op := Op.fieldAddr 73 (Operand.tmp 40) 2, type := _, pos := _, after := _, guard := none }) (v := ?_) rfl (by kernel_rfl) (by kernel_rfl) (by kernel_rfl) (fun _ _ _ h => h) (Or.inl ⟨by rfl, ?_⟩) (by assumption) ?_
          rotate_left
          · intro w hSw; (try dsimp only at hSw); go_simp; try (first | with_reducible rfl | (refine (if_pos ?_).trans ?_ <;> first | omega | with_reducible rfl))
          try simp only [Act.put, List.setIfInBounds_toArray, List.set_cons_zero, List.set_cons_succ]
          refine wpAnyH_take (i := 15) (oi := { dst := some 42, op := Op.load 71 (Operand.tmp 41), type := _, pos := _, after := _, guard := none }) (v := ?_) rfl (by kernel_rfl) (by kernel_rfl) (by kernel_rfl) (fun _ _ _ h => h) (Or.inl ⟨by rfl, ?_⟩) (by assumption) ?_
          rotate_left
          · intro w hSw; (try dsimp only at hSw); go_simp; try (first | with_reducible rfl | (refine (if_pos ?_).trans ?_ <;> first | omega | with_reducible rfl))
          try simp only [Act.put, List.setIfInBounds_toArray, List.set_cons_zero, List.set_cons_succ]
          refine wpAnyH_take (i := 16) (oi := { dst := some 43, op := Op.move (Operand.tmp 1), type := _, pos := _, after := _, guard := none }) (v := ?_) rfl (by kernel_rfl) (by kernel_rfl) (by kernel_rfl) (fun _ _ _ h => h) (Or.inl ⟨by rfl, ?_⟩) (by assumption) ?_
          rotate_left
          · intro w hSw; (try dsimp only at hSw); go_simp; try (first | with_reducible rfl | (refine (if_pos ?_).trans ?_ <;> first | omega | with_reducible rfl))
          try simp only [Act.put, List.setIfInBounds_toArray, List.set_cons_zero, List.set_cons_succ]
          refine wpAnyH_take (i := 17) (oi := { dst := some 44, op := Op.move (Operand.tmp 5), type := _, pos := _, after := _, guard := none }) (v := ?_) rfl (by kernel_rfl) (by kernel_rfl) (by kernel_rfl) (fun _ _ _ h => h) (Or.inl ⟨by rfl, ?_⟩) (by assumption) ?_
          rotate_left
          · intro w hSw; (try dsimp only at hSw); go_simp; try (first | with_reducible rfl | (refine (if_pos ?_).trans ?_ <;> first | omega | with_reducible rfl))
          try simp only [Act.put, List.setIfInBounds_toArray, List.set_cons_zero, List.set_cons_succ]
          refine wpAnyH_take (i := 18) (oi := { dst := some 45, op := Op.nilCheck (Operand.tmp 43), type := _, pos := _, after := _, guard := none }) (v := ?_) rfl (by kernel_rfl) (by kernel_rfl) (by kernel_rfl) (fun _ _ _ h => h) (Or.inl ⟨by rfl, ?_⟩) (by assumption) ?_
          rotate_left
          · intro w hSw; (try dsimp only at hSw); go_simp; try (first | with_reducible rfl | (refine (if_pos ?_).trans ?_ <;> first | omega | with_reducible rfl))
          try simp only [Act.put, List.setIfInBounds_toArray, List.set_cons_zero, List.set_cons_succ]
          refine wpAnyH_take (i := 19) (oi := { dst := some 46, op := Op.fieldAddr 73 (Operand.tmp 45) 1, type := _, pos := _, after := _, guard := none }) (v := ?_) rfl (by kernel_rfl) (by kernel_rfl) (by kernel_rfl) (fun _ _ _ h => h) (Or.inl ⟨by rfl, ?_⟩) (by assumption) ?_
          rotate_left
          · intro w hSw; (try dsimp only at hSw); go_simp; try (first | with_reducible rfl | (refine (if_pos ?_).trans ?_ <;> first | omega | with_reducible rfl))
          try simp only [Act.put, List.setIfInBounds_toArray, List.set_cons_zero, List.set_cons_succ]
          refine wpAnyH_take (i := 20) (oi := { dst := some 47, op := Op.indexAddr 70 (Operand.tmp 46) (Operand.tmp 44), type := _, pos := _, after := _, guard := none }) (v := ?_) rfl (by kernel_rfl) (by kernel_rfl) (by kernel_rfl) (fun _ _ _ h => h) (Or.inl ⟨by rfl, ?_⟩) (by assumption) ?_
          rotate_left
          · intro w hSw; (try dsimp only at hSw); go_simp; try (first | with_reducible rfl | (refine (if_pos ?_).trans ?_ <;> first | omega | with_reducible rfl))
          try simp only [Act.put, List.setIfInBounds_toArray, List.set_cons_zero, List.set_cons_succ]
          refine wpAnyH_take (i := 21) (oi := { dst := some 48, op := Op.load 69 (Operand.tmp 47), type := _, pos := _, after := _, guard := none }) (v := ?_) rfl (by kernel_rfl) (by kernel_rfl) (by kernel_rfl) (fun _ _ _ h => h) (Or.inl ⟨by rfl, ?_⟩) (by assumption) ?_
          rotate_left
          · intro w hSw; (try dsimp only at hSw); go_simp; try (first | with_reducible rfl | (refine (if_pos ?_).trans ?_ <;> first | omega | with_reducible rfl))
          try simp only [Act.put, List.setIfInBounds_toArray, List.set_cons_zero, List.set_cons_succ]
          refine wpAnyH_take (i := 22) (oi := { dst := some 49, op := Op.indexAddr 71 (Operand.tmp 42) (Operand.tmp 48), type := _, pos := _, after := _, guard := none }) (v := ?_) rfl (by kernel_rfl) (by kernel_rfl) (by kernel_rfl) (fun _ _ _ h => h) (Or.inl ⟨by rfl, ?_⟩) (by assumption) ?_
          rotate_left
          · intro w hSw; (try dsimp only at hSw); go_simp; try (first | with_reducible rfl | (refine (if_pos ?_).trans ?_ <;> first | omega | with_reducible rfl))
          try simp only [Act.put, List.setIfInBounds_toArray, List.set_cons_zero, List.set_cons_succ]
          refine wpAnyH_take (i := 23) (oi := { dst := some 50, op := Op.load 76 (Operand.tmp 49), type := _, pos := _, after := _, guard := none }) (v := .agg xb.toArray) rfl (by kernel_rfl) (by kernel_rfl) (by kernel_rfl) (fun _ _ _ h => h) (yieldsIf_load_mid (by rfl) 76 (.tmp 49) rfl bb (bo + ib * 256) rfl xb _ (fun _ h => h.2.2.2) Try.underlying76 rfl (by rw [size76, HLB.out])) (by assumption) ?_
          try simp only [Act.put, List.setIfInBounds_toArray, List.set_cons_zero, List.set_cons_succ]
          refine wpAnyH_take (i := 24) (oi := { dst := some 51, op := Op.binOp BinOp.neq 76 (Operand.tmp 38) (Operand.tmp 50) 76, type := _, pos := _, after := _, guard := none }) (v := ?_) rfl (by kernel_rfl) (by kernel_rfl) (by kernel_rfl) (fun _ _ _ h => h) (Or.inl ⟨by rfl, ?_⟩) (by assumption) ?_
          rotate_left
          · intro w hSw; (try dsimp only at hSw); go_simp; try (first | with_reducible rfl | (refine (if_pos ?_).trans ?_ <;> first | omega | with_reducible rfl))
          try simp only [Act.put, List.setIfInBounds_toArray, List.set_cons_zero, List.set_cons_succ]
          refine wpAnyH_done (by kernel_rfl) ?_ _
          go_wp2_with fail
          exact ⟨⟨p + 1, by omega, by go_num, HN, hid HBW.out.drew⟩, by simp [intOf]; omega⟩
        | false =>
          have HN := hid (show sameTo other l m 4352 = false from sameTo_off 4352 hlt (of_decide_eq_false hd))
          rw [hd] at hneq
          clear hd
          go_wp2_with fail
          refine wp_region_held_drew (S := (fun Y => (Y.cell? ⟨ta, 4353, none⟩ = some (.slice (some ⟨ab, ao, none⟩) an ac) ∧ Y.cell? ⟨ta, 1 + p, none⟩ = some (.int .u16 (ia : Int)) ∧ Y.rangeAt ab (ao + ia * 256) xa) ∧ Y.cell? ⟨tb, 4353, none⟩ = some (.slice (some ⟨bb, bo, none⟩) bn bc) ∧ Y.cell? ⟨tb, 1 + p, none⟩ = some (.int .u16 (ib : Int)) ∧ Y.rangeAt bb (bo + ib * 256) xb)) (by kernel_rfl) (by first | exact HXC.out _ HZZ.out | exact HXC.out _ HZZ.out.drew) (fun hHeld => ?_)
          refine wpAnyH_take (i := 0) (oi := { dst := some 27, op := Op.move (Operand.tmp 0), type := _, pos := _, after := _, guard := none }) (v := ?_) rfl (by kernel_rfl) (by kernel_rfl) (by kernel_rfl) (fun _ _ _ h => h) (Or.inl ⟨by rfl, ?_⟩) (by assumption) ?_
          rotate_left
          · intro w hSw; (try dsimp only at hSw); go_simp; try (first | with_reducible rfl | (refine (if_pos ?_).trans ?_ <;> first | omega | with_reducible rfl))
          try simp only [Act.put, List.setIfInBounds_toArray, List.set_cons_zero, List.set_cons_succ]
          refine wpAnyH_take (i := 1) (oi := { dst := some 28, op := Op.nilCheck (Operand.tmp 27), type := _, pos := _, after := _, guard := none }) (v := ?_) rfl (by kernel_rfl) (by kernel_rfl) (by kernel_rfl) (fun _ _ _ h => h) (Or.inl ⟨by rfl, ?_⟩) (by assumption) ?_
          rotate_left
          · intro w hSw; (try dsimp only at hSw); go_simp; try (first | with_reducible rfl | (refine (if_pos ?_).trans ?_ <;> first | omega | with_reducible rfl))
          try simp only [Act.put, List.setIfInBounds_toArray, List.set_cons_zero, List.set_cons_succ]
          refine wpAnyH_take (i := 2) (oi := { dst := some 29, op := Op.fieldAddr 73 (Operand.tmp 28) 2, type := _, pos := _, after := _, guard := none }) (v := ?_) rfl (by kernel_rfl) (by kernel_rfl) (by kernel_rfl) (fun _ _ _ h => h) (Or.inl ⟨by rfl, ?_⟩) (by assumption) ?_
          rotate_left
          · intro w hSw; (try dsimp only at hSw); go_simp; try (first | with_reducible rfl | (refine (if_pos ?_).trans ?_ <;> first | omega | with_reducible rfl))
          try simp only [Act.put, List.setIfInBounds_toArray, List.set_cons_zero, List.set_cons_succ]
          refine wpAnyH_take (i := 3) (oi := { dst := some 30, op := Op.load 71 (Operand.tmp 29), type := _, pos := _, after := _, guard := none }) (v := ?_) rfl (by kernel_rfl) (by kernel_rfl) (by kernel_rfl) (fun _ _ _ h => h) (Or.inl ⟨by rfl, ?_⟩) (by assumption) ?_
          rotate_left
          · intro w hSw; (try dsimp only at hSw); go_simp; try (first | with_reducible rfl | (refine (if_pos ?_).trans ?_ <;> first | omega | with_reducible rfl))
          try simp only [Act.put, List.setIfInBounds_toArray, List.set_cons_zero, List.set_cons_succ]
          refine wpAnyH_take (i := 4) (oi := { dst := some 31, op := Op.move (Operand.tmp 0), type := _, pos := _, after := _, guard := none }) (v := ?_) rfl (by kernel_rfl) (by kernel_rfl) (by kernel_rfl) (fun _ _ _ h => h) (Or.inl ⟨by rfl, ?_⟩) (by assumption) ?_
          rotate_left
          · intro w hSw; (try dsimp only at hSw); go_simp; try (first | with_reducible rfl | (refine (if_pos ?_).trans ?_ <;> first | omega | with_reducible rfl))
          try simp only [Act.put, List.setIfInBounds_toArray, List.set_cons_zero, List.set_cons_succ]
          refine wpAnyH_take (i := 5) (oi := { dst := some 32, op := Op.move (Operand.tmp 5), type := _, pos := _, after := _, guard := none }) (v := ?_) rfl (by kernel_rfl) (by kernel_rfl) (by kernel_rfl) (fun _ _ _ h => h) (Or.inl ⟨by rfl, ?_⟩) (by assumption) ?_
          rotate_left
          · intro w hSw; (try dsimp only at hSw); go_simp; try (first | with_reducible rfl | (refine (if_pos ?_).trans ?_ <;> first | omega | with_reducible rfl))
          try simp only [Act.put, List.setIfInBounds_toArray, List.set_cons_zero, List.set_cons_succ]
          refine wpAnyH_take (i := 6) (oi := { dst := some 33, op := Op.nilCheck (Operand.tmp 31), type := _, pos := _, after := _, guard := none }) (v := ?_) rfl (by kernel_rfl) (by kernel_rfl) (by kernel_rfl) (fun _ _ _ h => h) (Or.inl ⟨by rfl, ?_⟩) (by assumption) ?_
          rotate_left
          · intro w hSw; (try dsimp only at hSw); go_simp; try (first | with_reducible rfl | (refine (if_pos ?_).trans ?_ <;> first | omega | with_reducible rfl))
          try simp only [Act.put, List.setIfInBounds_toArray, List.set_cons_zero, List.set_cons_succ]
          refine wpAnyH_take (i := 7) (oi := { dst := some 34, op := Op.fieldAddr 73 (Operand.tmp 33) 1, type := _, pos := _, after := _, guard := none }) (v := ?_) rfl (by kernel_rfl) (by kernel_rfl) (by kernel_rfl) (fun _ _ _ h => h) (Or.inl ⟨by rfl, ?_⟩) (by assumption) ?_
          rotate_left
          · intro w hSw; (try dsimp only at hSw); go_simp; try (first | with_reducible rfl | (refine (if_pos ?_).trans ?_ <;> first | omega | with_reducible rfl))
          try simp only [Act.put, List.setIfInBounds_toArray, List.set_cons_zero, List.set_cons_succ]
          refine wpAnyH_take (i := 8) (oi := { dst := some 35, op := Op.indexAddr 70 (Operand.tmp 34) (Operand.tmp 32), type := _, pos := _, after := _, guard := none }) (v := ?_) rfl (by kernel_rfl) (by kernel_rfl) (by kernel_rfl) (fun _ _ _ h => h) (Or.inl ⟨by rfl, ?_⟩) (by assumption) ?_
          rotate_left
          · intro w hSw; (try dsimp only at hSw); go_simp; try (first | with_reducible rfl | (refine (if_pos ?_).trans ?_ <;> first | omega | with_reducible rfl))
          try simp only [Act.put, List.setIfInBounds_toArray, List.set_cons_zero, List.set_cons_succ]
          refine wpAnyH_take (i := 9) (oi := { dst := some 36, op := Op.load 69 (Operand.tmp 35), type := _, pos := _, after := _, guard := none }) (v := ?_) rfl (by kernel_rfl) (by kernel_rfl) (by kernel_rfl) (fun _ _ _ h => h) (Or.inl ⟨by rfl, ?_⟩) (by assumption) ?_
          rotate_left
          · intro w hSw; (try dsimp only at hSw); go_simp; try (first | with_reducible rfl | (refine (if_pos ?_).trans ?_ <;> first | omega | with_reducible rfl))
          try simp only [Act.put, List.setIfInBounds_toArray, List.set_cons_zero, List.set_cons_succ]
          refine wpAnyH_take (i := 10) (oi := { dst := some 37, op := Op.indexAddr 71 (Operand.tmp 30) (Operand.tmp 36), type := _, pos := _, after := _, guard := none }) (v := ?_) rfl (by kernel_rfl) (by kernel_rfl) (by kernel_rfl) (fun _ _ _ h => h) (Or.inl ⟨by rfl, ?_⟩) (by assumption) ?_
          rotate_left
          · intro w hSw; (try dsimp only at hSw); go_simp; try (first | with_reducible rfl | (refine (if_pos ?_).trans ?_ <;> first | omega | with_reducible rfl))
          try simp only [Act.put, List.setIfInBounds_toArray, List.set_cons_zero, List.set_cons_succ]
          refine wpAnyH_take (i := 11) (oi := { dst := some 38, op := Op.load 76 (Operand.tmp 37), type := _, pos := _, after := _, guard := none }) (v := .agg xa.toArray) rfl (by kernel_rfl) (by kernel_rfl) (by kernel_rfl) (fun _ _ _ h => h) (yieldsIf_load_mid (by rfl) 76 (.tmp 37) rfl ab (ao + ia * 256) rfl xa _ (fun _ h => h.1.2.2) Try.underlying76 rfl (by rw [size76, HLA.out])) (by assumption) ?_
          try simp only [Act.put, List.setIfInBounds_toArray, List.set_cons_zero, List.set_cons_succ]
          refine wpAnyH_take (i := 12) (oi := { dst := some 39, op := Op.move (Operand.tmp 1), type := _, pos := _, after := _, guard := none }) (v := ?_) rfl (by kernel_rfl) (by kernel_rfl) (by kernel_rfl) (fun _ _ _ h => h) (Or.inl ⟨by rfl, ?_⟩) (by assumption) ?_
          rotate_left
          · intro w hSw; (try dsimp only at hSw); go_simp; try (first | with_reducible rfl | (refine (if_pos ?_).trans ?_ <;> first | omega | with_reducible rfl))
          try simp only [Act.put, List.setIfInBounds_toArray, List.set_cons_zero, List.set_cons_succ]
          refine wpAnyH_take (i := 13) (oi := { dst := some 40, op := Op.nilCheck (Operand.tmp 39), type := _, pos := _, after := _, guard := none }) (v := ?_) rfl (by kernel_rfl) (by kernel_rfl) (by kernel_rfl) (fun _ _ _ h => h) (Or.inl ⟨by rfl, ?_⟩) (by assumption) ?_
          rotate_left
          · intro w hSw; (try dsimp only at hSw); go_simp; try (first | with_reducible rfl | (refine (if_pos ?_).trans ?_ <;> first | omega | with_reducible rfl))
          try simp only [Act.put, List.setIfInBounds_toArray, List.set_cons_zero, List.set_cons_succ]
          refine wpAnyH_take (i := 14) (oi := { dst := some 41, op := Op.fieldAddr 73 (Operand.tmp 40) 2, type := _, pos := _, after := _, guard := none }) (v := ?_) rfl (by kernel_rfl) (by kernel_rfl) (by kernel_rfl) (fun _ _ _ h => h) (Or.inl ⟨by rfl, ?_⟩) (by assumption) ?_
          rotate_left
          · intro w hSw; (try dsimp only at hSw); go_simp; try (first | with_reducible rfl | (refine (if_pos ?_).trans ?_ <;> first | omega | with_reducible rfl))
          try simp only [Act.put, List.setIfInBounds_toArray, List.set_cons_zero, List.set_cons_succ]
          refine wpAnyH_take (i := 15) (oi := { dst := some 42, op := Op.load 71 (Operand.tmp 41), type := _, pos := _, after := _, guard := none }) (v := ?_) rfl (by kernel_rfl) (by kernel_rfl) (by kernel_rfl) (fun _ _ _ h => h) (Or.inl ⟨by rfl, ?_⟩) (by assumption) ?_
          rotate_left
          · intro w hSw; (try dsimp only at hSw); go_simp; try (first | with_reducible rfl | (refine (if_pos ?_).trans ?_ <;> first | omega | with_reducible rfl))
          try simp only [Act.put, List.setIfInBounds_toArray, List.set_cons_zero, List.set_cons_succ]
          refine wpAnyH_take (i := 16) (oi := { dst := some 43, op := Op.move (Operand.tmp 1), type := _, pos := _, after := _, guard := none }) (v := ?_) rfl (by kernel_rfl) (by kernel_rfl) (by kernel_rfl) (fun _ _ _ h => h) (Or.inl ⟨by rfl, ?_⟩) (by assumption) ?_
          rotate_left
          · intro w hSw; (try dsimp only at hSw); go_simp; try (first | with_reducible rfl | (refine (if_pos ?_).trans ?_ <;> first | omega | with_reducible rfl))
          try simp only [Act.put, List.setIfInBounds_toArray, List.set_cons_zero, List.set_cons_succ]
          refine wpAnyH_take (i := 17) (oi := { dst := some 44, op := Op.move (Operand.tmp 5), type := _, pos := _, after := _, guard := none }) (v := ?_) rfl (by kernel_rfl) (by kernel_rfl) (by kernel_rfl) (fun _ _ _ h => h) (Or.inl ⟨by rfl, ?_⟩) (by assumption) ?_
          rotate_left
          · intro w hSw; (try dsimp only at hSw); go_simp; try (first | with_reducible rfl | (refine (if_pos ?_).trans ?_ <;> first | omega | with_reducible rfl))
          try simp only [Act.put, List.setIfInBounds_toArray, List.set_cons_zero, List.set_cons_succ]
          refine wpAnyH_take (i := 18) (oi := { dst := some 45, op := Op.nilCheck (Operand.tmp 43), type := _, pos := _, after := _, guard := none }) (v := ?_) rfl (by kernel_rfl) (by kernel_rfl) (by kernel_rfl) (fun _ _ _ h => h) (Or.inl ⟨by rfl, ?_⟩) (by assumption) ?_
          rotate_left
          · intro w hSw; (try dsimp only at hSw); go_simp; try (first | with_reducible rfl | (refine (if_pos ?_).trans ?_ <;> first | omega | with_reducible rfl))
          try simp only [Act.put, List.setIfInBounds_toArray, List.set_cons_zero, List.set_cons_succ]
          refine wpAnyH_take (i := 19) (oi := { dst := some 46, op := Op.fieldAddr 73 (Operand.tmp 45) 1, type := _, pos := _, after := _, guard := none }) (v := ?_) rfl (by kernel_rfl) (by kernel_rfl) (by kernel_rfl) (fun _ _ _ h => h) (Or.inl ⟨by rfl, ?_⟩) (by assumption) ?_
          rotate_left
          · intro w hSw; (try dsimp only at hSw); go_simp; try (first | with_reducible rfl | (refine (if_pos ?_).trans ?_ <;> first | omega | with_reducible rfl))
          try simp only [Act.put, List.setIfInBounds_toArray, List.set_cons_zero, List.set_cons_succ]
          refine wpAnyH_take (i := 20) (oi := { dst := some 47, op := Op.indexAddr 70 (Operand.tmp 46) (Operand.tmp 44), type := _, pos := _, after := _, guard := none }) (v := ?_) rfl (by kernel_rfl) (by kernel_rfl) (by kernel_rfl) (fun _ _ _ h => h) (Or.inl ⟨by rfl, ?_⟩) (by assumption) ?_
          rotate_left
          · intro w hSw; (try dsimp only at hSw); go_simp; try (first | with_reducible rfl | (refine (if_pos ?_).trans ?_ <;> first | omega | with_reducible rfl))
          try simp only [Act.put, List.setIfInBounds_toArray, List.set_cons_zero, List.set_cons_succ]
          refine wpAnyH_take (i := 21) (oi := { dst := some 48, op := Op.load 69 (Operand.tmp 47), type := _, pos := _, after := _, guard := none }) (v := ?_) rfl (by kernel_rfl) (by kernel_rfl) (by kernel_rfl) (fun _ _ _ h => h) (Or.inl ⟨by rfl, ?_⟩) (by assumption) ?_
          rotate_left
          · intro w hSw; (try dsimp only at hSw); go_simp; try (first | with_reducible rfl | (refine (if_pos ?_).trans ?_ <;> first | omega | with_reducible rfl))
          try simp only [Act.put, List.setIfInBounds_toArray, List.set_cons_zero, List.set_cons_succ]
          refine wpAnyH_take (i := 22) (oi := { dst := some 49, op := Op.indexAddr 71 (Operand.tmp 42) (Operand.tmp 48), type := _, pos := _, after := _, guard := none }) (v := ?_) rfl (by kernel_rfl) (by kernel_rfl) (by kernel_rfl) (fun _ _ _ h => h) (Or.inl ⟨by rfl, ?_⟩) (by assumption) ?_
          rotate_left
          · intro w hSw; (try dsimp only at hSw); go_simp; try (first | with_reducible rfl | (refine (if_pos ?_).trans ?_ <;> first | omega | with_reducible rfl))
          try simp only [Act.put, List.setIfInBounds_toArray, List.set_cons_zero, List.set_cons_succ]
          refine wpAnyH_take (i := 23) (oi := { dst := some 50, op := Op.load 76 (Operand.tmp 49), type := _, pos := _, after := _, guard := none }) (v := .agg xb.toArray) rfl (by kernel_rfl) (by kernel_rfl) (by kernel_rfl) (fun _ _ _ h => h) (yieldsIf_load_mid (by rfl) 76 (.tmp 49) rfl bb (bo + ib * 256) rfl xb _ (fun _ h => h.2.2.2) Try.underlying76 rfl (by rw [size76, HLB.out])) (by assumption) ?_
          try simp only [Act.put, List.setIfInBounds_toArray, List.set_cons_zero, List.set_cons_succ]
          refine wpAnyH_take (i := 24) (oi := { dst := some 51, op := Op.binOp BinOp.neq 76 (Operand.tmp 38) (Operand.tmp 50) 76, type := _, pos := _, after := _, guard := none }) (v := ?_) rfl (by kernel_rfl) (by kernel_rfl) (by kernel_rfl) (fun _ _ _ h => h) (Or.inl ⟨by rfl, ?_⟩) (by assumption) ?_
          rotate_left
          · intro w hSw; (try dsimp only at hSw); go_simp; try (first | with_reducible rfl | (refine (if_pos ?_).trans ?_ <;> first | omega | with_reducible rfl))
          try simp only [Act.put, List.setIfInBounds_toArray, List.set_cons_zero, List.set_cons_succ]
          refine wpAnyH_done (by kernel_rfl) ?_ _
          go_wp2_with fail
          go_ret
          exact ⟨ret_bool HN.out.symm, HBW.out.drew⟩
      · have HN := hid (show sameTo other l m 4352 = true by rw [← show p = 4352 by omega]; exact HO.out)
        go_wp2_with fail
        go_ret
        exact ⟨ret_bool HN.out.symm, HBW.out⟩
end Go.Proofs.Ytehchnagjdmdgaa
