/- Which states lead to which, by mark: the walk. Conditions: at most a thousand states. -/
import Derived.Test.YtmdkmobcglnmgaaTp
namespace Go.Proofs.Ytmdkmobcglnmgaa
open Go.RowKit
set_option linter.unusedSimpArgs false

def DoneTo (w : World) (F n : Nat) (us : List Value) (rs : List (List Int)) : Prop := ∀ (j : Nat) (u : Value), us[j]? = some u → ByDone w F u n (col rs j)
def TurnAns (x : Sx) (w : World) (many : Int) (blk : List Int) (st : List (Int × GV)) (td : List ((Int × Int) × Unit)) (rs : List (List Int)) (e : Ending) (w' : World) : Prop :=
  e = .returned (.tuple #[]) ∧ ∃ fv us, SpM x w' fv many blk st td ∧ w'.ownsRow w.heap.size 25 1 fv 37 us ∧ DoneTo w' w.heap.size x.n us rs ∧ Below x.B w w'
theorem info25 : (Try.prog.info? 25).map (fun i => (i.zero, i.size, i.bytes)) = some (some (.slice none 0 0), 1, 24) := by kernel_rfl
set_option maxRecDepth 100000 in
set_option maxHeartbeats 4000000 in
theorem turned_any (x : Sx) (hx : x.ok) (rs : List (List Int)) (many : Int) (blk : List Int) (st : List (Int × GV)) (td : List ((Int × Int) × Unit)) (hn1 : x.n ≤ 1000) (w : World) (hN : NextAt x w rs) (h : SpM x w (.slice none 0 0) many blk st td) (hB : x.B ≤ w.heap.size) :
    Calls Try.prog 66 #[.pointer (some ⟨x.sb, 0, none⟩)] w (TurnAns x w many blk st td rs) := by
  obtain ⟨i0, hi0, hz0, hz1, hz2⟩ := info_parts info25
  have HX := hid hx
  have HN := hid hN
  have HSP := hid h
  have HSBL := hid h.1.lt
  obtain ⟨Z, hZ⟩ : ∃ Z, Z = (List.replicate x.n (Value.slice none 0 0)).toArray := ⟨_, rfl⟩
  have HZ := hid hZ
  have HMK := hid (show ∀ w : World, (Instr.makeSlice 25 (.int .i64 (x.n : Int)) (.int .i64 (x.n : Int))).run Try.prog w = .ok (.slice (some ⟨w.heap.size, 0, none⟩) x.n x.n) (w.alloc (.cells Z 32)) from fun w => by
    rw [hZ]; exact run_make_one (P := Try.prog) 25 32 (.slice none 0 0) 24 rfl Try.underlying25 info32 x.n (by omega) (by omega) w)
  obtain ⟨F0, hF0⟩ : ∃ F0, F0 = w.heap.size := ⟨_, rfl⟩
  have HF0 := hid hF0
  clear hx hN h hZ
  go_enter Try.func66, Try.ntmps66
  go_wp2_with fail
  have HIN := hid (show w.ownsRow F0 25 1 (.slice none 0 0) 0 [] from World.ownsRow_nil _ _ _ _)
  clear hF0
  go_loopw [6] (fun s6 wr => ∃ (m : Nat) (fv : Value) (us : List Value), m ≤ 37 ∧ s6 = .int .i64 m ∧ Hid (SpM x wr fv many blk st td) ∧ Hid (wr.ownsRow F0 25 1 fv m us) ∧ Hid (DoneTo wr F0 x.n us rs) ∧ Hid (Below x.B w wr)) (fun s6 _ => 37 - (intOf s6).toNat)
  case atStart => exact ⟨0, _, [], by omega, rfl, HSP, HIN, hid (fun j u hj => by simp at hj), hid (Below.refl _ _)⟩
  case round =>
    obtain ⟨m, fv, us, hm, rfl, HP, HO, HD, HB⟩ := hrel
    by_cases hlt : m < 37
    · have hmd : decide ((m : Int) < 37) = true := decide_eq_true (by omega)
      have hm37 : (m : Int) < 37 := by omega
      obtain ⟨c0, c1, c2, c3, c4, c5, c6⟩ := HP.out.1.cells
      obtain ⟨F, hF⟩ : ∃ F, F = wr.heap.size := ⟨_, rfl⟩
      have HF := hid hF
      have hF0F : F0 ≤ F := by rw [hF, HF0.out]; exact HB.out.size
      have hmk := HMK.out
      have HP1 := hid (HP.out.below ((Below.refl _ _).alloc (Nat.le_refl _) (.cells Z 32)))
      have d0 := HP1.out.1.cells.1
      have HRB := hid (show RowBlk (wr.alloc (.cells Z 32)) F F (List.replicate x.n (.slice none 0 0)) [] by rw [hF, HZ.out]; exact RowBlk.start wr _ x.n)
      clear hF
      go_wp2_with fail
      clear hmk c0 c1 c2 c3 c4 c5 c6 d0
      rw [← HF.out]
      obtain ⟨wo, rfl⟩ : ∃ wo : World, wo = wr := ⟨_, rfl⟩
      go_loopw [22] (fun s22 wx => ∃ (k : Nat) (vs : List Value), k ≤ x.n ∧ s22 = .int .i64 k ∧ Hid (RowBlk wx F F vs ((col rs m).take k) ∧ vs.length = x.n) ∧ Hid (Below F wo wx)) (fun s22 _ => x.n - (intOf s22).toNat)
      case atStart => exact ⟨0, _, by omega, rfl, hid ⟨HRB.out, by simp⟩, hid (show Below F wo (wo.alloc (.cells Z 32)) from (Below.refl _ _).alloc (Nat.le_of_eq HF.out) _)⟩
      case round =>
        obtain ⟨k, vs, hk, rfl, HR, HBX⟩ := hrel
        by_cases hltk : k < x.n
        · have HNr := hid (HN.out.below (HB.out.trans (HBX.out.mono (by rw [HF.out]; exact Nat.le_trans hB HB.out.size))))
          obtain ⟨hl37, hcb, rb, ro, rc, hrow, hrb, hcells⟩ := HNr.out.2.2 k hltk
          obtain ⟨q1, q2⟩ := hcb m hlt
          obtain ⟨c, hc⟩ : ∃ c : Nat, nth (row rs k) m = (c : Int) := ⟨_, (Int.toNat_of_nonneg q1).symm⟩
          rw [hc] at q1 q2
          have hcm := hcells m hlt
          rw [hc] at hcm
          have hcn : c < x.n := by omega
          obtain ⟨v, hv⟩ : ∃ v, vs[c]? = some v := ⟨_, List.getElem?_eq_getElem (by rw [HR.out.2]; exact hcn)⟩
          have HVC := hid hv
          have HFB := hid (show x.B ≤ F by rw [HF.out]; exact Nat.le_trans hB HB.out.size)
          have HRC0 := hid (show ∀ Y, Below F wo Y → Y.cell? ⟨rb, ro + m, none⟩ = some (.int .i64 (c : Int)) from fun Y hY =>
            (hY.cell (p := ⟨rb, ro + m, none⟩) (Nat.lt_of_lt_of_le hrb HFB.out)).trans ((HBX.out.cell (p := ⟨rb, ro + m, none⟩) (Nat.lt_of_lt_of_le hrb HFB.out)).symm.trans hcm))
          have HFW := hid (show F ≤ wr.drew.heap.size from Nat.le_trans (by rw [HF.out]; exact Nat.le_refl _) HBX.out.size)
          have HBX1 := hid (show Below F wo (wr.drew.alloc (.cells #[.int .i64 (k : Int)] 3)) from (Below.drew HBX.out).alloc HFW.out _)
          have HRC1 := hid (HRC0.out _ HBX1.out)
          have HFW1 := hid (show F ≤ (wr.drew.alloc (.cells #[.int .i64 (k : Int)] 3)).heap.size from Nat.le_trans HFW.out (by simp))
          have HOW := hid (show OwnI wr.drew F v (pos ((col rs m).take k) (c : Int)) from HR.out.1.2.1 c v hv)
          have hll : ((col rs m).take k).length = k := by rw [List.length_take, col_len, HN.out.1]; omega
          have HRL := hid (show (pos ((col rs m).take k) (c : Int)).length ≤ 1010000 by have := pos_len ((col rs m).take k) (c : Int); omega)
          have HRB1 := hid (show RowBlk (wr.drew.alloc (.cells #[.int .i64 (k : Int)] 3)) F F vs ((col rs m).take k) from RowBlk.below (w := wr.drew) HR.out.1 ((Below.refl _ _).alloc (Nat.le_refl _) _))
          have hvx : wr.cell? ⟨F, c, none⟩ = some v := by rw [cell_of_row _ _ _ _ _ _ HR.out.1.1]; simpa using hv
          have hvx1 : (wr.alloc (.cells #[.int .i64 (k : Int)] 3)).cell? ⟨F, c, none⟩ = some v := by rw [cell_of_row (wr.alloc (.cells #[.int .i64 (k : Int)] 3)) F c _ _ _ HRB1.out.1]; simpa using hv
          have HTK := hid (show (col rs m).take (k + 1) = (col rs m).take k ++ [(c : Int)] by rw [take_nth (by rw [col_len, HN.out.1]; exact hltk), nth_col (by rw [HN.out.1]; exact hltk), hc])
          have HLL := hid hll
          clear hl37 hcb hcells hv hc hll
          go_wp2_with fail
          refine wp_region_held_drew (S := (fun Y => Y.cell? ⟨rb, ro + m, none⟩ = some (.int .i64 (c : Int)))) (by kernel_rfl) (by exact hcm) (fun hHeld => ?_)
          refine wpAnyH_take (i := 0) (oi := { dst := some 27, op := Op.move (Operand.tmp 3), type := _, pos := _, after := _, guard := none }) (v := ?_) rfl (by kernel_rfl) (by kernel_rfl) (by kernel_rfl) (fun _ _ _ h => h) (Or.inl ⟨by rfl, ?_⟩) (by assumption) ?_
          rotate_left
          · intro w hSw; (try dsimp only at hSw); go_simp; try with_reducible rfl
          try simp only [Act.put, List.setIfInBounds_toArray, List.set_cons_zero, List.set_cons_succ]
          refine wpAnyH_take (i := 1) (oi := { dst := some 28, op := Op.move (Operand.tmp 5), type := _, pos := _, after := _, guard := none }) (v := ?_) rfl (by kernel_rfl) (by kernel_rfl) (by kernel_rfl) (fun _ _ _ h => h) (Or.inl ⟨by rfl, ?_⟩) (by assumption) ?_
          rotate_left
          · intro w hSw; (try dsimp only at hSw); go_simp; try with_reducible rfl
          try simp only [Act.put, List.setIfInBounds_toArray, List.set_cons_zero, List.set_cons_succ]
          refine wpAnyH_take (i := 2) (oi := { dst := some 29, op := Op.move (Operand.tmp 2), type := _, pos := _, after := _, guard := none }) (v := ?_) rfl (by kernel_rfl) (by kernel_rfl) (by kernel_rfl) (fun _ _ _ h => h) (Or.inl ⟨by rfl, ?_⟩) (by assumption) ?_
          rotate_left
          · intro w hSw; (try dsimp only at hSw); go_simp; try with_reducible rfl
          try simp only [Act.put, List.setIfInBounds_toArray, List.set_cons_zero, List.set_cons_succ]
          refine wpAnyH_take (i := 3) (oi := { dst := some 30, op := Op.indexAddr 32 (Operand.tmp 28) (Operand.tmp 29), type := _, pos := _, after := _, guard := none }) (v := ?_) rfl (by kernel_rfl) (by kernel_rfl) (by kernel_rfl) (fun _ _ _ h => h) (Or.inl ⟨by rfl, ?_⟩) (by assumption) ?_
          rotate_left
          · intro w hSw; (try dsimp only at hSw); go_simp; try with_reducible rfl
          try simp only [Act.put, List.setIfInBounds_toArray, List.set_cons_zero, List.set_cons_succ]
          refine wpAnyH_take (i := 4) (oi := { dst := some 31, op := Op.load 3 (Operand.tmp 30), type := _, pos := _, after := _, guard := none }) (v := ?_) rfl (by kernel_rfl) (by kernel_rfl) (by kernel_rfl) (fun _ _ _ h => h) (Or.inl ⟨by rfl, ?_⟩) (by assumption) ?_
          rotate_left
          · intro w hSw; (try dsimp only at hSw); go_simp; try with_reducible rfl
          try simp only [Act.put, List.setIfInBounds_toArray, List.set_cons_zero, List.set_cons_succ]
          refine wpAnyH_take (i := 5) (oi := { dst := some 32, op := Op.move (Operand.tmp 3), type := _, pos := _, after := _, guard := none }) (v := ?_) rfl (by kernel_rfl) (by kernel_rfl) (by kernel_rfl) (fun _ _ _ h => h) (Or.inl ⟨by rfl, ?_⟩) (by assumption) ?_
          rotate_left
          · intro w hSw; (try dsimp only at hSw); go_simp; try with_reducible rfl
          try simp only [Act.put, List.setIfInBounds_toArray, List.set_cons_zero, List.set_cons_succ]
          refine wpAnyH_take (i := 6) (oi := { dst := some 33, op := Op.move (Operand.tmp 5), type := _, pos := _, after := _, guard := none }) (v := ?_) rfl (by kernel_rfl) (by kernel_rfl) (by kernel_rfl) (fun _ _ _ h => h) (Or.inl ⟨by rfl, ?_⟩) (by assumption) ?_
          rotate_left
          · intro w hSw; (try dsimp only at hSw); go_simp; try with_reducible rfl
          try simp only [Act.put, List.setIfInBounds_toArray, List.set_cons_zero, List.set_cons_succ]
          refine wpAnyH_take (i := 7) (oi := { dst := some 34, op := Op.move (Operand.tmp 2), type := _, pos := _, after := _, guard := none }) (v := ?_) rfl (by kernel_rfl) (by kernel_rfl) (by kernel_rfl) (fun _ _ _ h => h) (Or.inl ⟨by rfl, ?_⟩) (by assumption) ?_
          rotate_left
          · intro w hSw; (try dsimp only at hSw); go_simp; try with_reducible rfl
          try simp only [Act.put, List.setIfInBounds_toArray, List.set_cons_zero, List.set_cons_succ]
          refine wpAnyH_take (i := 8) (oi := { dst := some 35, op := Op.indexAddr 32 (Operand.tmp 33) (Operand.tmp 34), type := _, pos := _, after := _, guard := none }) (v := ?_) rfl (by kernel_rfl) (by kernel_rfl) (by kernel_rfl) (fun _ _ _ h => h) (Or.inl ⟨by rfl, ?_⟩) (by assumption) ?_
          rotate_left
          · intro w hSw; (try dsimp only at hSw); go_simp; try with_reducible rfl
          try simp only [Act.put, List.setIfInBounds_toArray, List.set_cons_zero, List.set_cons_succ]
          refine wpAnyH_take (i := 9) (oi := { dst := some 36, op := Op.load 3 (Operand.tmp 35), type := _, pos := _, after := _, guard := none }) (v := ?_) rfl (by kernel_rfl) (by kernel_rfl) (by kernel_rfl) (fun _ _ _ h => h) (Or.inl ⟨by rfl, ?_⟩) (by assumption) ?_
          rotate_left
          · intro w hSw; (try dsimp only at hSw); go_simp; try with_reducible rfl
          try simp only [Act.put, List.setIfInBounds_toArray, List.set_cons_zero, List.set_cons_succ]
          refine wpAnyH_take (i := 10) (oi := { dst := some 37, op := Op.indexAddr 25 (Operand.tmp 32) (Operand.tmp 36), type := _, pos := _, after := _, guard := none }) (v := ?_) rfl (by kernel_rfl) (by kernel_rfl) (by kernel_rfl) (fun _ _ _ h => h) (Or.inl ⟨by rfl, ?_⟩) (by assumption) ?_
          rotate_left
          · intro w hSw; (try dsimp only at hSw); go_simp; try with_reducible rfl
          try simp only [Act.put, List.setIfInBounds_toArray, List.set_cons_zero, List.set_cons_succ]
          refine wpAnyH_take (i := 12) (oi := { dst := some 39, op := Op.move (Operand.tmp 4), type := _, pos := _, after := _, guard := none }) (v := ?_) rfl (by kernel_rfl) (by kernel_rfl) (by kernel_rfl) (fun _ _ _ h => h) (Or.inl ⟨by rfl, ?_⟩) (by assumption) ?_
          rotate_left
          · intro w hSw; (try dsimp only at hSw); go_simp; try with_reducible rfl
          try simp only [Act.put, List.setIfInBounds_toArray, List.set_cons_zero, List.set_cons_succ]
          refine wpAnyH_ready (rs := [11, 13]) (by kernel_rfl) (by simp) ?_
          refine AllReadyH.cons (o := { dst := some 38, op := Op.load 32 (Operand.tmp 37), type := _, pos := _, after := _, guard := none }) rfl ?legA1 (AllReadyH.cons (o := { dst := some 40, op := Op.buildSlice 32 1 #[(0, Operand.tmp 39)], type := _, pos := _, after := _, guard := none }) rfl ?legB1 AllReadyH.nil)
          case' legA1 =>
            intro K hK
            go_simp
            refine hK.out _ _ (by first | exact hcm | exact HRC1.out) (fun hHeld => ?_)
            clear hK K
            try simp only [Act.put, List.setIfInBounds_toArray, List.set_cons_zero, List.set_cons_succ]
            refine wpAnyH_ready (rs := [13]) (by kernel_rfl) (by simp) ?_
            refine AllReadyH.cons (o := { dst := some 40, op := Op.buildSlice 32 1 #[(0, Operand.tmp 39)], type := _, pos := _, after := _, guard := none }) rfl (fun K hK => ?_) AllReadyH.nil
            go_simp
            refine hK.out _ _ (by exact HRC1.out) (fun hHeld => ?_)
            clear hK K
            try simp only [Act.put, List.setIfInBounds_toArray, List.set_cons_zero, List.set_cons_succ]
            refine wpAnyH_ready (rs := [14]) (by kernel_rfl) (by simp) ?_
            refine AllReadyH.cons (o := { dst := some 41, op := Op.call { callee := Callee.builtin Builtin.append, args := #[Operand.tmp 38, Operand.tmp 40], argTypes := #[32, 32] }, type := _, pos := _, after := _, guard := none }) rfl (fun K hK => ?_) AllReadyH.nil
            rw [if_pos (by rfl)]
            refine wp_app_int (.tmp 38) (.tmp 40) rfl (w0 := wr.drew) (z := (k : Int)) (l := pos ((col rs m).take k) (c : Int)) (v := v) (B := F) rfl rfl HOW.out rfl HRL.out HFW.out ?_
            intro v3 w3 hown3 hg3 hat3
            obtain ⟨A3, cap3, e3, _⟩ := own_arr hown3
            obtain ⟨n3, hn3⟩ : ∃ n3, n3 = (pos ((col rs m).take k) (c : Int) ++ [(k : Int)]).length := ⟨_, rfl⟩
            rw [← hn3] at e3
            clear hn3
            subst e3
            have HB3 := hid (below_own HBX1.out (HOW.out.alloc _) hg3 HFW1.out)
            have HRW3 := hid (HRC0.out w3 HB3.out)
            have hb3 := ((hg3.block F HRB1.out.lt (Ne.symm (HRB1.out.row_ne HVC.out))).trans HRB1.out.1)
            have hcx3 : w3.cell? ⟨F, c, none⟩ = some v := by rw [cell_of_row _ _ _ _ _ _ hb3]; simpa using HVC.out
            have hfx3 : w3.frozen? ⟨F, c, none⟩ = false := frozen_of_row _ _ _ _ _ hb3
            refine hK.out _ _ (by exact HRW3.out) (fun hHeld => ?_)
            clear hK K
            try simp only [Act.put, List.setIfInBounds_toArray, List.set_cons_zero, List.set_cons_succ]
            refine wpAnyH_take (i := 15) (oi := { dst := some 42, op := Op.indexAddr 25 (Operand.tmp 27) (Operand.tmp 31), type := _, pos := _, after := _, guard := none }) (v := ?_) rfl (by kernel_rfl) (by kernel_rfl) (by kernel_rfl) (fun _ _ _ h => h) (Or.inl ⟨by rfl, ?_⟩) (by assumption) ?_
            rotate_left
            · intro w hSw; (try dsimp only at hSw); go_simp; try with_reducible rfl
            try simp only [Act.put, List.setIfInBounds_toArray, List.set_cons_zero, List.set_cons_succ]
            refine wpAnyH_ready (rs := [16]) (by kernel_rfl) (by simp) ?_
            refine AllReadyH.cons (o := { dst := none, op := Op.store 32 (Operand.tmp 42) (Operand.tmp 41), type := _, pos := _, after := _, guard := none }) rfl (fun K hK => ?_) AllReadyH.nil
            go_simp
            refine hK.out _ _ (by exact HRC0.out _ (HB3.out.setCell (p := ⟨F, c, none⟩) (Nat.le_refl _) _)) (fun hHeld => ?_)
            clear hK K
            try simp only [Act.put, List.setIfInBounds_toArray, List.set_cons_zero, List.set_cons_succ]
            refine wpAnyH_done (by kernel_rfl) ?_ _
          case' legB1 =>
            intro K hK
            go_simp
            refine hK.out _ _ (by exact HRC1.out) (fun hHeld => ?_)
            clear hK K
            try simp only [Act.put, List.setIfInBounds_toArray, List.set_cons_zero, List.set_cons_succ]
            refine wpAnyH_ready (rs := [11]) (by kernel_rfl) (by simp) ?_
            refine AllReadyH.cons (o := { dst := some 38, op := Op.load 32 (Operand.tmp 37), type := _, pos := _, after := _, guard := none }) rfl (fun K hK => ?_) AllReadyH.nil
            go_simp
            refine hK.out _ _ (by first | exact hcm | exact HRC1.out) (fun hHeld => ?_)
            clear hK K
            try simp only [Act.put, List.setIfInBounds_toArray, List.set_cons_zero, List.set_cons_succ]
            refine wpAnyH_ready (rs := [14]) (by kernel_rfl) (by simp) ?_
            refine AllReadyH.cons (o := { dst := some 41, op := Op.call { callee := Callee.builtin Builtin.append, args := #[Operand.tmp 38, Operand.tmp 40], argTypes := #[32, 32] }, type := _, pos := _, after := _, guard := none }) rfl (fun K hK => ?_) AllReadyH.nil
            rw [if_pos (by rfl)]
            refine wp_app_int (.tmp 38) (.tmp 40) rfl (w0 := wr.drew) (z := (k : Int)) (l := pos ((col rs m).take k) (c : Int)) (v := v) (B := F) rfl rfl HOW.out rfl HRL.out HFW.out ?_
            intro v3 w3 hown3 hg3 hat3
            obtain ⟨A3, cap3, e3, _⟩ := own_arr hown3
            obtain ⟨n3, hn3⟩ : ∃ n3, n3 = (pos ((col rs m).take k) (c : Int) ++ [(k : Int)]).length := ⟨_, rfl⟩
            rw [← hn3] at e3
            clear hn3
            subst e3
            have HB3 := hid (below_own HBX1.out (HOW.out.alloc _) hg3 HFW1.out)
            have HRW3 := hid (HRC0.out w3 HB3.out)
            have hb3 := ((hg3.block F HRB1.out.lt (Ne.symm (HRB1.out.row_ne HVC.out))).trans HRB1.out.1)
            have hcx3 : w3.cell? ⟨F, c, none⟩ = some v := by rw [cell_of_row _ _ _ _ _ _ hb3]; simpa using HVC.out
            have hfx3 : w3.frozen? ⟨F, c, none⟩ = false := frozen_of_row _ _ _ _ _ hb3
            refine hK.out _ _ (by exact HRW3.out) (fun hHeld => ?_)
            clear hK K
            try simp only [Act.put, List.setIfInBounds_toArray, List.set_cons_zero, List.set_cons_succ]
            refine wpAnyH_take (i := 15) (oi := { dst := some 42, op := Op.indexAddr 25 (Operand.tmp 27) (Operand.tmp 31), type := _, pos := _, after := _, guard := none }) (v := ?_) rfl (by kernel_rfl) (by kernel_rfl) (by kernel_rfl) (fun _ _ _ h => h) (Or.inl ⟨by rfl, ?_⟩) (by assumption) ?_
            rotate_left
            · intro w hSw; (try dsimp only at hSw); go_simp; try with_reducible rfl
            try simp only [Act.put, List.setIfInBounds_toArray, List.set_cons_zero, List.set_cons_succ]
            refine wpAnyH_ready (rs := [16]) (by kernel_rfl) (by simp) ?_
            refine AllReadyH.cons (o := { dst := none, op := Op.store 32 (Operand.tmp 42) (Operand.tmp 41), type := _, pos := _, after := _, guard := none }) rfl (fun K hK => ?_) AllReadyH.nil
            go_simp
            refine hK.out _ _ (by exact HRC0.out _ (HB3.out.setCell (p := ⟨F, c, none⟩) (Nat.le_refl _) _)) (fun hHeld => ?_)
            clear hK K
            try simp only [Act.put, List.setIfInBounds_toArray, List.set_cons_zero, List.set_cons_succ]
            refine wpAnyH_done (by kernel_rfl) ?_ _
          all_goals
            have HR4 := hid (RowBlk.step HRB1.out HVC.out rfl hg3 (by rw [HLL.out]; exact hown3) hat3)
            have HB4 := hid (HB3.out.setCell (p := ⟨F, c, none⟩) (Nat.le_refl _) (.slice A3 n3 cap3))
            have HL4 := hid (show (vs.set c (.slice A3 n3 cap3)).length = x.n by rw [List.length_set]; exact HR.out.2)
            rw [← HTK.out] at HR4
            clear hown3 hg3 hat3 hb3 hcx3 hfx3 HB3 HRW3
            go_wp2_with fail
            go_roundw
            case rel => exact ⟨k + 1, _, by omega, by go_num, hid ⟨HR4.out, HL4.out⟩, HB4⟩
            case measure => simp [intOf]; omega
        · obtain rfl : k = x.n := by omega
          have htk : (col rs m).take x.n = col rs m := by rw [← HN.out.1, ← col_len rs m, List.take_length]
          rw [htk] at HR
          have HBF := hid (show Below wo.heap.size wo wr by rw [← HF.out]; exact HBX.out)
          have HP2 := hid (HP.out.below HBF.out)
          have HO2 := hid (show wr.ownsRow F0 25 1 fv m us from HO.out.kept (grown_of_below HBF.out none) (Classical.em _))
          have HD2 := hid (show DoneTo wr F0 x.n us rs from fun j u hj => (HD.out j u hj).below HBF.out)
          have HB2 := hid (HB.out.trans (HBX.out.mono (by rw [HF.out]; exact Nat.le_trans hB HB.out.size)))
          have HNEW := hid (show ByDone wr F0 (.slice (some ⟨F, 0, none⟩) x.n x.n) x.n (col rs m) from ⟨F, vs, rfl, hF0F, HR.out.2, HR.out.1.mono hF0F⟩)
          obtain ⟨c0, c1, c2, c3, c4, c5, c6⟩ := HP2.out.1.cells
          have HP3 := hid (HP2.out.below ((Below.refl _ _).alloc (Nat.le_refl _) (.cells #[.slice (some ⟨F, 0, none⟩) x.n x.n] 25)))
          have hus : us.length = m := by have := HO2.out.1; omega
          have HZW := hid (show F0 ≤ wr.heap.size from Nat.le_trans (by rw [HF0.out]; exact HB.out.size) HBF.out.size)
          clear htk hltk hk HR HBX HP HO HD HB
          go_wp2_with (first
            | (at_builtin; refine wpList_app_s _ rfl (.tmp 48) (.tmp 50) 99 rfl F0 25 i0 _ 1 24 Try.underlying99 hi0 hz0 hz1 hz2 rfl (by decide) fv _ _ rfl (HO2.out.alloc _) (some ⟨wr.heap.size, 0, none⟩) 1 1 _ rfl (src_new wr _ 25 1 rfl) (by simp [Value.oneCell']) (by simp only [maxLen]; omega) (by omega) (by have := HZW.out; simp; omega) ?_; intro A' cap' w4 hown4 hgrow4 hat4
               have HO3 := HO2.out.alloc (.cells #[.slice (some ⟨F, 0, none⟩) x.n x.n] 25)
               have HP4 := hid (SpM.grown HP3.out hgrow4 (Ne.symm (own_blk_ne HO3 HP3.out.1 (by decide))) (Ne.symm (own_blk_ne HO3 HP3.out.2.1 (by decide))) (Ne.symm (own_map_ne HO3 HP3.out.2.2.1)) (Ne.symm (own_map_ne HO3 HP3.out.2.2.2.2.2)) (fun p hp => own_own (HP3.out.2.2.2.1.1 p hp) HO3 (by decide)))
               have e2 := HP4.out.1.cells.2.2.1
               have f2 := HP4.out.1.frozen 2))
          have HP5 := hid (HP4.out.setFrom (.slice A' (m + 1) cap'))
          have hgs : w4.grownBy (w4.setCell ⟨x.sb, 2, none⟩ (.slice A' (m + 1) cap')) (some x.sb) := grown_setCell (World.grownBy.refl w4 _) 2 _
          have HO5 := hid (show (w4.setCell ⟨x.sb, 2, none⟩ (.slice A' (m + 1) cap')).ownsRow F0 25 1 (.slice A' (m + 1) cap') (m + 1) (us ++ [.slice (some ⟨F, 0, none⟩) x.n x.n]) from World.ownsRow.kept hown4 hgs (.inr (own_blk_ne hown4 HP4.out.1 (by decide))))
          have HKEEP := hid (show ∀ u l, ByDone wr F0 u x.n l → ByDone (w4.setCell ⟨x.sb, 2, none⟩ (.slice A' (m + 1) cap')) F0 u x.n l from fun u l h =>
            ((h.below ((Below.refl _ _).alloc (Nat.le_refl _) _)).own hgrow4 (HO2.out.alloc _) (by decide) (by decide)).cells hgs HP4.out.1 (by decide) (by decide))
          have HD5 := hid (show DoneTo (w4.setCell ⟨x.sb, 2, none⟩ (.slice A' (m + 1) cap')) F0 x.n (us ++ [.slice (some ⟨F, 0, none⟩) x.n x.n]) rs from fun j u hj => by
            by_cases hjl : j < us.length
            · rw [List.getElem?_append_left hjl] at hj
              exact HKEEP.out u _ (HD2.out j u hj)
            · rw [List.getElem?_append_right (by omega)] at hj
              have hj0 : j - us.length = 0 := by
                have := (List.getElem?_eq_some_iff.1 hj).1
                simp at this; omega
              rw [hj0] at hj
              obtain rfl : .slice (some ⟨F, 0, none⟩) x.n x.n = u := by simpa using hj
              rw [show j = m by omega]
              exact HKEEP.out _ _ HNEW.out)
          have HB5 := hid (show Below x.B w (w4.setCell ⟨x.sb, 2, none⟩ (.slice A' (m + 1) cap')) from (below_own (HB2.out.alloc (Nat.le_trans hB HB2.out.size) _) (ownsRow_mono (HO2.out.alloc _) (by rw [HF0.out]; exact hB)) hgrow4 (Nat.le_trans hB (Nat.le_trans HB2.out.size (by simp)))).setCell (p := ⟨x.sb, 2, none⟩) HX.out.1 _)
          clear hown4 hgrow4 hat4 HP4 e2 f2 hgs HP3 HO2 HD2 HB2 HKEEP HNEW c0 c1 c2 c3 c4 c5 c6 HZW
          go_roundw
          case rel => exact ⟨m + 1, (.slice A' (m + 1) cap'), _, by omega, by go_num, HP5, HO5, HD5, HB5⟩
          case measure => simp [intOf]; omega
    · obtain rfl : m = 37 := by omega
      go_wp2_with fail
      go_end0
      exact ⟨rfl, fv, us, HP.out, by rw [← HF0.out]; exact HO.out, by rw [← HF0.out]; exact HD.out, HB.out⟩
end Go.Proofs.Ytmdkmobcglnmgaa
