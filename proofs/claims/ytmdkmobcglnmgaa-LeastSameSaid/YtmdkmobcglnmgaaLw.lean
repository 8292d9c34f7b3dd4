/- Which states lead into a block by a mark, by their own blocks: the walk. Conditions: at most a thousand states. -/
import Derived.Test.YtmdkmobcglnmgaaLp
namespace Go.Proofs.Ytmdkmobcglnmgaa
open Go.RowKit
set_option linter.unusedSimpArgs false

def LeadAns (w : World) (blk q : List Int) (e : Ending) (w' : World) : Prop :=
  ∃ ml, e = .returned (.map (some w.heap.size)) ∧ GMap w' w.heap.size ml ∧ Rows w' w.heap.size ml ∧ LdIs ml blk q ∧ Below w.heap.size w w'
theorem own_num {w : World} {F : Nat} {v : Value} {l : List Int} (h : OwnI w F v l) {j : Nat} (hj : j < l.length) : ∃ g c, v = .slice (some ⟨g, 0, none⟩) l.length c ∧ F ≤ g ∧ g < w.heap.size ∧ w.cell? ⟨g, j, none⟩ = some (.int .i64 (nth l j)) := by
  rcases h.2 with ⟨_, h0⟩ | ⟨g, cap, cur, rfl, hF, hb, hn, _, _, htk⟩
  · omega
  · refine ⟨g, cap, rfl, hF, (Array.getElem?_eq_some_iff.1 hb).1, ?_⟩
    rw [cell_of_row _ _ _ _ _ _ hb]
    have h5 : (cur.toList.take (l.length * 1))[j]? = (l.map (Value.int .i64))[j]? := by rw [htk]
    rw [List.getElem?_take_of_lt (by omega), Array.getElem?_toList] at h5
    rw [h5, List.getElem?_map, List.getElem?_eq_getElem hj]
    simp [nth, List.getElem?_eq_getElem hj]
set_option maxRecDepth 100000 in
set_option maxHeartbeats 4000000 in
theorem leads_any (x : Sx) (rs : List (List Int)) (F0 F1 : Nat) (fv : Value) (many : Int) (blk : List Int) (st : List (Int × GV)) (td : List ((Int × Int) × Unit)) (b : Int) (hb : 0 ≤ b ∧ b ≤ 1000) (m : Nat) (hm : m < 37) (hn1 : x.n ≤ 1000) (w : World)
    (h : SpM x w fv many blk st td) (hF : FromAt w F0 F1 fv x.n rs) (hF1 : F1 ≤ w.heap.size) (hrs : rs.length = x.n) (hblk : blk.length = x.n) (hbk : ∀ i, i < x.n → 0 ≤ nth blk i ∧ nth blk i ≤ 1000) (hL : ∀ z ∈ lst st b, ∃ t : Nat, z = t ∧ t < x.n) (hLl : (lst st b).length ≤ x.n) :
    Calls Try.prog 68 #[.pointer (some ⟨x.sb, 0, none⟩), .int .i64 b, .int .i64 m] w (LeadAns w blk (comers rs m (lst st b))) := by
  have HBK := hid hbk
  have HL := hid hL
  have HFR := hid hF
  have HSP := hid h
  have HBL := hid hblk
  have HRS := hid hrs
  have HKB := hid (show i64ok b from ⟨by omega, by omega⟩)
  have HS1 := hid (h.below ((Below.refl _ _).alloc (Nat.le_refl _) (.map #[] 0)))
  have hmm := @run_makeMap Try.prog
  obtain ⟨F, hFe⟩ : ∃ F, F = w.heap.size := ⟨_, rfl⟩
  have HG := hid hFe
  have c4 := HS1.out.1.cells.2.2.2.2.1
  obtain ⟨L, hLe⟩ : ∃ L, L = lst st b := ⟨_, rfl⟩
  have HLE := hid hLe
  have HROWB := hid (show OwnI w x.B (rowV st b) L by rw [hLe]; exact h.2.2.2.1.row b)
  rw [← hLe] at hLl
  obtain ⟨LA, Lc, hLv, _⟩ := own_arr HROWB.out
  have HLV := hid hLv
  have hlenb : ∀ ty, (Builtin.len_ #[32] ty #[rowV st b]).run Try.prog = (Builtin.len_ #[32] ty #[rowV st b]).run Try.prog := fun _ => rfl
  clear hbk hL hF h hblk hFe hLe hlenb hb hrs hLv
  go_enter Try.func68, Try.ntmps68
  go_wp2_with (first | (at_lookup; refine wpList_look_row rfl (.tmp 16) (.tmp 17) rfl HS1.out.2.2.1 b HKB.out rfl rfl ?_; rw [HLV.out]))
  clear hmm c4
  rw [← HG.out]
  go_loopw [20] (fun s20 wr => ∃ (k : Nat) (ml : List (Int × GV)), k ≤ L.length ∧ s20 = .int .i64 k ∧ Hid (GMap wr F ml ∧ Rows wr F ml ∧ LdIs ml blk (comers rs m (L.take k))) ∧ Hid (Below F w wr)) (fun s20 _ => L.length - (intOf s20).toNat)
  case atStart => exact ⟨0, [], by omega, rfl, hid ⟨by rw [HG.out]; exact mapIs_new _ _ _ _, Rows.nil _ _, LdIs.nil _⟩, hid (show Below F w (w.alloc (.map #[] 0)) from (Below.refl _ _).alloc (Nat.le_of_eq HG.out) _)⟩
  case round =>
    obtain ⟨k, ml, hk, rfl, HM, HB⟩ := hrel
    have HBw := hid (show Below w.heap.size w wr by rw [← HG.out]; exact HB.out)
    have HSPr := hid (HSP.out.below HBw.out)
    have HROWBr := hid (show OwnI wr x.B (.slice LA L.length Lc) L by rw [← HLV.out, HLE.out]; exact HSPr.out.2.2.2.1.row b)
    by_cases hlt : k < L.length
    · have HFr := hid (HFR.out.keep (KeepIn.below HBw.out hF1))
      obtain ⟨t, ht, htn⟩ := HL.out (nth L k) (by rw [← HLE.out]; exact nth_mem hlt)
      obtain ⟨lb, lc', hlv, _, _, hcl⟩ := own_num (HROWBr.out) hlt
      obtain ⟨rfl, _, rfl⟩ : LA = some ⟨lb, 0, none⟩ ∧ True ∧ Lc = lc' := by simpa using hlv
      rw [ht] at hcl
      obtain ⟨fb, fc, g, v, hfv, hc1, hc2, hov, hvF⟩ := HFr.out.row hm htn
      obtain ⟨vA, vc, hv, _⟩ := own_arr hov
      have c2 := HSPr.out.1.cells.2.2.1
      rw [hfv] at c2
      rw [hv] at hc2 hov hvF
      have HOV := hid hov
      have HVF := hid hvF
      obtain ⟨l2, hl2⟩ : ∃ l2, l2 = pos (col rs m) (t : Int) := ⟨_, rfl⟩
      have HL2 := hid hl2
      rw [← hl2] at hc2 HOV HVF
      have hl2n : l2.length ≤ x.n := by rw [hl2, ← HRS.out, ← col_len rs m]; exact pos_len _ _
      have HCS := hid (show comers rs m (L.take (k + 1)) = comers rs m (L.take k) ++ l2 by rw [take_nth hlt, comers_snoc, ht, hl2])
      have HCL := hid (show (comers rs m (L.take k)).length ≤ x.n * x.n from by
        have h1 := comers_len rs m x.n (by rw [HRS.out]; exact Nat.le_refl _) (L.take k)
        have h2 : (L.take k).length ≤ x.n := by rw [List.length_take]; omega
        exact Nat.le_trans h1 (Nat.mul_le_mul_right _ h2))
      have HBo := hid HB.out
      clear hlv ht hfv hv hl2 hov hvF
      go_wp2_with fail
      clear c2 hc1 hc2 hcl
      obtain ⟨wo, rfl⟩ : ∃ wo : World, wo = wr := ⟨_, rfl⟩
      go_loopw [35] (fun s35 wr => ∃ (j : Nat) (ml : List (Int × GV)), j ≤ l2.length ∧ s35 = .int .i64 j ∧ Hid (GMap wr F ml ∧ Rows wr F ml ∧ LdIs ml blk (comers rs m (L.take k) ++ l2.take j)) ∧ Hid (Below F w wr)) (fun s35 _ => l2.length - (intOf s35).toNat)
      case atStart => exact ⟨0, ml, by omega, rfl, hid ⟨HM.out.1, HM.out.2.1, by rw [List.take_zero, List.append_nil]; exact HM.out.2.2⟩, HB⟩
      case round =>
        clear HM HB HBw HSPr HFr HROWBr
        obtain ⟨j, ml, hj, rfl, HM, HB⟩ := hrel
        have HBw := hid (show Below w.heap.size w wr by rw [← HG.out]; exact HB.out)
        have HSPr := hid (HSP.out.below HBw.out)
        by_cases hltj : j < l2.length
        · have HFr := hid (HFR.out.keep (KeepIn.below HBw.out hF1))
          have HOVr := hid (own_keep HOV.out fun q hq => (HB.out.block q (by have := HVF.out q hq; have := HG.out; omega)).trans (HBo.out.block q (by have := HVF.out q hq; have := HG.out; omega)).symm)
          obtain ⟨vb, vc', hvv, _, _, hcl⟩ := own_num HOVr.out hltj
          obtain ⟨rfl, _, rfl⟩ : vA = some ⟨vb, 0, none⟩ ∧ True ∧ vc = vc' := by simpa using hvv
          obtain ⟨i, hi1, hi2, hi3⟩ := mem_pos.1 (show nth l2 j ∈ pos (col rs m) (t : Int) by rw [← HL2.out]; exact nth_mem hltj)
          rw [col_len, HRS.out] at hi1
          rw [hi3] at hcl
          obtain ⟨c, hc⟩ : ∃ c, c = nth blk i := ⟨_, rfl⟩
          have HKC := hid (show i64ok c by have := HBK.out i hi1; rw [← hc] at this; exact ⟨by omega, by omega⟩)
          have c3 := HSPr.out.1.cells.2.2.2.1
          have hci : wr.cell? ⟨x.bb, i, none⟩ = some (.int .i64 c) := by rw [hc]; exact HSPr.out.2.1.cell (by rw [HBL.out]; exact hi1)
          have HSC := hid (show ∀ Y, Below F w Y → Y.cell? ⟨x.sb, 3, none⟩ = some (.slice (some ⟨x.bb, 0, none⟩) x.n x.n) ∧ Y.cell? ⟨x.bb, i, none⟩ = some (.int .i64 c) from fun Y hY => by
            have hs := HSP.out.below (show Below w.heap.size w Y by rw [← HG.out]; exact hY)
            exact ⟨hs.1.cells.2.2.2.1, by rw [hc]; exact hs.2.1.cell (by rw [HBL.out]; exact hi1)⟩)
          have HFW := hid (show F ≤ wr.drew.heap.size from Nat.le_trans (Nat.le_of_eq HG.out) HB.out.size)
          have HBX1 := hid (show Below F w (wr.drew.alloc (.cells #[.int .i64 (i : Int)] 3)) from (Below.drew HB.out).alloc HFW.out _)
          have HSC1 := hid (HSC.out _ HBX1.out)
          have HFW1 := hid (show F ≤ (wr.drew.alloc (.cells #[.int .i64 (i : Int)] 3)).heap.size from Nat.le_trans HFW.out (by simp))
          have HGM := hid (show GMap wr.drew F ml from HM.out.1)
          have HGM1 := hid (show GMap (wr.drew.alloc (.cells #[.int .i64 (i : Int)] 3)) F ml from MapIs.alloc (w := wr.drew) HM.out.1 _)
          have HROW := hid (show OwnI wr.drew F (rowV ml c) (lst ml c) from HM.out.2.1.row c)
          have hnn : x.n * x.n ≤ 1000 * 1000 := Nat.mul_le_mul hn1 hn1
          have HRL := hid (show (lst ml c).length ≤ 1010000 by
            have h1 := HM.out.2.2.len c
            have h2 := HCL.out
            rw [List.length_append, List.length_take] at h1
            omega)
          have HR1 := hid (show Rows (wr.drew.alloc (.cells #[.int .i64 (i : Int)] 3)) F ml from Rows.grown (w := wr.drew) HM.out.2.1 (World.grownBy_alloc _ _ none) (fun _ _ => Classical.em _))
          have HTK := hid (show l2.take (j + 1) = l2.take j ++ [(i : Int)] by rw [take_nth hltj, hi3])
          have HCB := hid (show nth blk (i : Int).toNat = c by rw [hc]; rfl)
          clear hvv hi2 hi3 hc hnn
          go_wp2_with fail
          refine wp_region_held_drew (S := (fun Y => Y.cell? ⟨x.sb, 3, none⟩ = some (.slice (some ⟨x.bb, 0, none⟩) x.n x.n) ∧ Y.cell? ⟨x.bb, i, none⟩ = some (.int .i64 c))) (by kernel_rfl) (by exact ⟨c3, hci⟩) (fun hHeld => ?_)
          refine wpAnyH_take (i := 0) (oi := { dst := some 39, op := Op.move (Operand.tmp 7), type := _, pos := _, after := _, guard := none }) (v := ?_) rfl (by kernel_rfl) (by kernel_rfl) (by kernel_rfl) (fun _ _ _ h => h) (Or.inl ⟨by rfl, ?_⟩) (by assumption) ?_
          rotate_left
          · intro w hSw; (try dsimp only at hSw); go_simp; try with_reducible rfl
          try simp only [Act.put, List.setIfInBounds_toArray, List.set_cons_zero, List.set_cons_succ]
          refine wpAnyH_take (i := 1) (oi := { dst := some 40, op := Op.move (Operand.tmp 0), type := _, pos := _, after := _, guard := none }) (v := ?_) rfl (by kernel_rfl) (by kernel_rfl) (by kernel_rfl) (fun _ _ _ h => h) (Or.inl ⟨by rfl, ?_⟩) (by assumption) ?_
          rotate_left
          · intro w hSw; (try dsimp only at hSw); go_simp; try with_reducible rfl
          try simp only [Act.put, List.setIfInBounds_toArray, List.set_cons_zero, List.set_cons_succ]
          refine wpAnyH_take (i := 2) (oi := { dst := some 41, op := Op.nilCheck (Operand.tmp 40), type := _, pos := _, after := _, guard := none }) (v := ?_) rfl (by kernel_rfl) (by kernel_rfl) (by kernel_rfl) (fun _ _ _ h => h) (Or.inl ⟨by rfl, ?_⟩) (by assumption) ?_
          rotate_left
          · intro w hSw; (try dsimp only at hSw); go_simp; try with_reducible rfl
          try simp only [Act.put, List.setIfInBounds_toArray, List.set_cons_zero, List.set_cons_succ]
          refine wpAnyH_take (i := 3) (oi := { dst := some 42, op := Op.fieldAddr 101 (Operand.tmp 41) 2, type := _, pos := _, after := _, guard := none }) (v := ?_) rfl (by kernel_rfl) (by kernel_rfl) (by kernel_rfl) (fun _ _ _ h => h) (Or.inl ⟨by rfl, ?_⟩) (by assumption) ?_
          rotate_left
          · intro w hSw; (try dsimp only at hSw); go_simp; try with_reducible rfl
          try simp only [Act.put, List.setIfInBounds_toArray, List.set_cons_zero, List.set_cons_succ]
          refine wpAnyH_take (i := 4) (oi := { dst := some 43, op := Op.load 32 (Operand.tmp 42), type := _, pos := _, after := _, guard := none }) (v := ?_) rfl (by kernel_rfl) (by kernel_rfl) (by kernel_rfl) (fun _ _ _ h => h) (Or.inl ⟨by rfl, ?_⟩) (by assumption) ?_
          rotate_left
          · intro w hSw; (try dsimp only at hSw); go_simp; try with_reducible rfl
          try simp only [Act.put, List.setIfInBounds_toArray, List.set_cons_zero, List.set_cons_succ]
          refine wpAnyH_take (i := 5) (oi := { dst := some 44, op := Op.move (Operand.tmp 11), type := _, pos := _, after := _, guard := none }) (v := ?_) rfl (by kernel_rfl) (by kernel_rfl) (by kernel_rfl) (fun _ _ _ h => h) (Or.inl ⟨by rfl, ?_⟩) (by assumption) ?_
          rotate_left
          · intro w hSw; (try dsimp only at hSw); go_simp; try with_reducible rfl
          try simp only [Act.put, List.setIfInBounds_toArray, List.set_cons_zero, List.set_cons_succ]
          refine wpAnyH_take (i := 6) (oi := { dst := some 45, op := Op.indexAddr 32 (Operand.tmp 43) (Operand.tmp 44), type := _, pos := _, after := _, guard := none }) (v := ?_) rfl (by kernel_rfl) (by kernel_rfl) (by kernel_rfl) (fun _ _ _ h => h) (Or.inl ⟨by rfl, ?_⟩) (by assumption) ?_
          rotate_left
          · intro w hSw; (try dsimp only at hSw); go_simp; try with_reducible rfl
          try simp only [Act.put, List.setIfInBounds_toArray, List.set_cons_zero, List.set_cons_succ]
          refine wpAnyH_take (i := 7) (oi := { dst := some 46, op := Op.load 3 (Operand.tmp 45), type := _, pos := _, after := _, guard := none }) (v := ?_) rfl (by kernel_rfl) (by kernel_rfl) (by kernel_rfl) (fun _ _ _ h => h) (Or.inl ⟨by rfl, ?_⟩) (by assumption) ?_
          rotate_left
          · intro w hSw; (try dsimp only at hSw); go_simp; try with_reducible rfl
          try simp only [Act.put, List.setIfInBounds_toArray, List.set_cons_zero, List.set_cons_succ]
          refine wpAnyH_take (i := 8) (oi := { dst := some 47, op := Op.move (Operand.tmp 7), type := _, pos := _, after := _, guard := none }) (v := ?_) rfl (by kernel_rfl) (by kernel_rfl) (by kernel_rfl) (fun _ _ _ h => h) (Or.inl ⟨by rfl, ?_⟩) (by assumption) ?_
          rotate_left
          · intro w hSw; (try dsimp only at hSw); go_simp; try with_reducible rfl
          try simp only [Act.put, List.setIfInBounds_toArray, List.set_cons_zero, List.set_cons_succ]
          refine wpAnyH_take (i := 9) (oi := { dst := some 48, op := Op.move (Operand.tmp 0), type := _, pos := _, after := _, guard := none }) (v := ?_) rfl (by kernel_rfl) (by kernel_rfl) (by kernel_rfl) (fun _ _ _ h => h) (Or.inl ⟨by rfl, ?_⟩) (by assumption) ?_
          rotate_left
          · intro w hSw; (try dsimp only at hSw); go_simp; try with_reducible rfl
          try simp only [Act.put, List.setIfInBounds_toArray, List.set_cons_zero, List.set_cons_succ]
          refine wpAnyH_take (i := 10) (oi := { dst := some 49, op := Op.nilCheck (Operand.tmp 48), type := _, pos := _, after := _, guard := none }) (v := ?_) rfl (by kernel_rfl) (by kernel_rfl) (by kernel_rfl) (fun _ _ _ h => h) (Or.inl ⟨by rfl, ?_⟩) (by assumption) ?_
          rotate_left
          · intro w hSw; (try dsimp only at hSw); go_simp; try with_reducible rfl
          try simp only [Act.put, List.setIfInBounds_toArray, List.set_cons_zero, List.set_cons_succ]
          refine wpAnyH_take (i := 11) (oi := { dst := some 50, op := Op.fieldAddr 101 (Operand.tmp 49) 2, type := _, pos := _, after := _, guard := none }) (v := ?_) rfl (by kernel_rfl) (by kernel_rfl) (by kernel_rfl) (fun _ _ _ h => h) (Or.inl ⟨by rfl, ?_⟩) (by assumption) ?_
          rotate_left
          · intro w hSw; (try dsimp only at hSw); go_simp; try with_reducible rfl
          try simp only [Act.put, List.setIfInBounds_toArray, List.set_cons_zero, List.set_cons_succ]
          refine wpAnyH_take (i := 12) (oi := { dst := some 51, op := Op.load 32 (Operand.tmp 50), type := _, pos := _, after := _, guard := none }) (v := ?_) rfl (by kernel_rfl) (by kernel_rfl) (by kernel_rfl) (fun _ _ _ h => h) (Or.inl ⟨by rfl, ?_⟩) (by assumption) ?_
          rotate_left
          · intro w hSw; (try dsimp only at hSw); go_simp; try with_reducible rfl
          try simp only [Act.put, List.setIfInBounds_toArray, List.set_cons_zero, List.set_cons_succ]
          refine wpAnyH_take (i := 13) (oi := { dst := some 52, op := Op.move (Operand.tmp 11), type := _, pos := _, after := _, guard := none }) (v := ?_) rfl (by kernel_rfl) (by kernel_rfl) (by kernel_rfl) (fun _ _ _ h => h) (Or.inl ⟨by rfl, ?_⟩) (by assumption) ?_
          rotate_left
          · intro w hSw; (try dsimp only at hSw); go_simp; try with_reducible rfl
          try simp only [Act.put, List.setIfInBounds_toArray, List.set_cons_zero, List.set_cons_succ]
          refine wpAnyH_take (i := 14) (oi := { dst := some 53, op := Op.indexAddr 32 (Operand.tmp 51) (Operand.tmp 52), type := _, pos := _, after := _, guard := none }) (v := ?_) rfl (by kernel_rfl) (by kernel_rfl) (by kernel_rfl) (fun _ _ _ h => h) (Or.inl ⟨by rfl, ?_⟩) (by assumption) ?_
          rotate_left
          · intro w hSw; (try dsimp only at hSw); go_simp; try with_reducible rfl
          try simp only [Act.put, List.setIfInBounds_toArray, List.set_cons_zero, List.set_cons_succ]
          refine wpAnyH_take (i := 15) (oi := { dst := some 54, op := Op.load 3 (Operand.tmp 53), type := _, pos := _, after := _, guard := none }) (v := ?_) rfl (by kernel_rfl) (by kernel_rfl) (by kernel_rfl) (fun _ _ _ h => h) (Or.inl ⟨by rfl, ?_⟩) (by assumption) ?_
          rotate_left
          · intro w hSw; (try dsimp only at hSw); go_simp; try with_reducible rfl
          try simp only [Act.put, List.setIfInBounds_toArray, List.set_cons_zero, List.set_cons_succ]
          refine wpAnyH_take (i := 17) (oi := { dst := some 56, op := Op.move (Operand.tmp 11), type := _, pos := _, after := _, guard := none }) (v := ?_) rfl (by kernel_rfl) (by kernel_rfl) (by kernel_rfl) (fun _ _ _ h => h) (Or.inl ⟨by rfl, ?_⟩) (by assumption) ?_
          rotate_left
          · intro w hSw; (try dsimp only at hSw); go_simp; try with_reducible rfl
          try simp only [Act.put, List.setIfInBounds_toArray, List.set_cons_zero, List.set_cons_succ]
          refine wpAnyH_ready (rs := [16, 18]) (by kernel_rfl) (by simp) ?_
          refine AllReadyH.cons (o := { dst := some 55, op := Op.lookup 97 (Operand.tmp 47) (Operand.tmp 54) false, type := _, pos := _, after := _, guard := none }) rfl ?legA1 (AllReadyH.cons (o := { dst := some 57, op := Op.buildSlice 32 1 #[(0, Operand.tmp 56)], type := _, pos := _, after := _, guard := none }) rfl ?legB1 AllReadyH.nil)
          case' legA1 =>
            intro K hK
            rw [if_pos (by rfl)]
            refine wp_look_row (.tmp 47) (.tmp 54) rfl (by first | exact HGM.out | exact HGM1.out) c HKC.out rfl rfl ?_
            refine hK.out _ _ (by first | exact ⟨c3, hci⟩ | exact HSC1.out) (fun hHeld => ?_)
            clear hK K
            try simp only [Act.put, List.setIfInBounds_toArray, List.set_cons_zero, List.set_cons_succ]
            refine wpAnyH_ready (rs := [18]) (by kernel_rfl) (by simp) ?_
            refine AllReadyH.cons (o := { dst := some 57, op := Op.buildSlice 32 1 #[(0, Operand.tmp 56)], type := _, pos := _, after := _, guard := none }) rfl (fun K hK => ?_) AllReadyH.nil
            go_simp
            refine hK.out _ _ (by exact HSC1.out) (fun hHeld => ?_)
            clear hK K
            try simp only [Act.put, List.setIfInBounds_toArray, List.set_cons_zero, List.set_cons_succ]
            refine wpAnyH_ready (rs := [19]) (by kernel_rfl) (by simp) ?_
            refine AllReadyH.cons (o := { dst := some 58, op := Op.call { callee := Callee.builtin Builtin.append, args := #[Operand.tmp 55, Operand.tmp 57], argTypes := #[32, 32] }, type := _, pos := _, after := _, guard := none }) rfl (fun K hK => ?_) AllReadyH.nil
            rw [if_pos (by rfl)]
            refine wp_app_int (.tmp 55) (.tmp 57) rfl (w0 := wr.drew) (z := (i : Int)) (l := lst ml c) (v := rowV ml c) (B := F) rfl rfl HROW.out rfl HRL.out HFW.out ?_
            intro v3 w3 hown3 hg3 hat3
            have HB3 := hid (below_own HBX1.out (HROW.out.alloc _) hg3 HFW1.out)
            have HM3 := hid (HGM1.out.grown hg3 (Ne.symm (own_map_ne (HROW.out.alloc _) HGM1.out)))
            have HSC3 := hid (HSC.out w3 HB3.out)
            refine hK.out _ _ (by exact HSC3.out) (fun hHeld => ?_)
            clear hK K
            try simp only [Act.put, List.setIfInBounds_toArray, List.set_cons_zero, List.set_cons_succ]
            refine wpAnyH_ready (rs := [20]) (by kernel_rfl) (by simp) ?_
            refine AllReadyH.cons (o := { dst := none, op := Op.mapUpdate 97 (Operand.tmp 39) (Operand.tmp 46) (Operand.tmp 58), type := _, pos := _, after := _, guard := none }) rfl (fun K hK => ?_) AllReadyH.nil
            rw [if_pos (by rfl)]
            refine wp_mupd intKey (.tmp 39) (.tmp 46) (.tmp 58) 97 rfl Try.underlying97 HM3.out c HKC.out (v3, lst ml c ++ [(i : Int)]) v3 rfl rfl rfl rfl ?_
            intro w4 hm4 hg4
            have HB4 := hid (HB3.out.grown hg4 (Nat.le_trans HFW1.out hg3.size) (fun k hk => by cases hk; exact Nat.le_refl _))
            refine hK.out _ _ (by exact HSC.out w4 HB4.out) (fun hHeld => ?_)
            clear hK K
            try simp only [Act.put, List.setIfInBounds_toArray, List.set_cons_zero, List.set_cons_succ]
            refine wpAnyH_done (by kernel_rfl) ?_ _
          case' legB1 =>
            intro K hK
            go_simp
            refine hK.out _ _ (by exact HSC1.out) (fun hHeld => ?_)
            clear hK K
            try simp only [Act.put, List.setIfInBounds_toArray, List.set_cons_zero, List.set_cons_succ]
            refine wpAnyH_ready (rs := [16]) (by kernel_rfl) (by simp) ?_
            refine AllReadyH.cons (o := { dst := some 55, op := Op.lookup 97 (Operand.tmp 47) (Operand.tmp 54) false, type := _, pos := _, after := _, guard := none }) rfl (fun K hK => ?_) AllReadyH.nil
            rw [if_pos (by rfl)]
            refine wp_look_row (.tmp 47) (.tmp 54) rfl (by first | exact HGM.out | exact HGM1.out) c HKC.out rfl rfl ?_
            refine hK.out _ _ (by first | exact ⟨c3, hci⟩ | exact HSC1.out) (fun hHeld => ?_)
            clear hK K
            try simp only [Act.put, List.setIfInBounds_toArray, List.set_cons_zero, List.set_cons_succ]
            refine wpAnyH_ready (rs := [19]) (by kernel_rfl) (by simp) ?_
            refine AllReadyH.cons (o := { dst := some 58, op := Op.call { callee := Callee.builtin Builtin.append, args := #[Operand.tmp 55, Operand.tmp 57], argTypes := #[32, 32] }, type := _, pos := _, after := _, guard := none }) rfl (fun K hK => ?_) AllReadyH.nil
            rw [if_pos (by rfl)]
            refine wp_app_int (.tmp 55) (.tmp 57) rfl (w0 := wr.drew) (z := (i : Int)) (l := lst ml c) (v := rowV ml c) (B := F) rfl rfl HROW.out rfl HRL.out HFW.out ?_
            intro v3 w3 hown3 hg3 hat3
            have HB3 := hid (below_own HBX1.out (HROW.out.alloc _) hg3 HFW1.out)
            have HM3 := hid (HGM1.out.grown hg3 (Ne.symm (own_map_ne (HROW.out.alloc _) HGM1.out)))
            have HSC3 := hid (HSC.out w3 HB3.out)
            refine hK.out _ _ (by exact HSC3.out) (fun hHeld => ?_)
            clear hK K
            try simp only [Act.put, List.setIfInBounds_toArray, List.set_cons_zero, List.set_cons_succ]
            refine wpAnyH_ready (rs := [20]) (by kernel_rfl) (by simp) ?_
            refine AllReadyH.cons (o := { dst := none, op := Op.mapUpdate 97 (Operand.tmp 39) (Operand.tmp 46) (Operand.tmp 58), type := _, pos := _, after := _, guard := none }) rfl (fun K hK => ?_) AllReadyH.nil
            rw [if_pos (by rfl)]
            refine wp_mupd intKey (.tmp 39) (.tmp 46) (.tmp 58) 97 rfl Try.underlying97 HM3.out c HKC.out (v3, lst ml c ++ [(i : Int)]) v3 rfl rfl rfl rfl ?_
            intro w4 hm4 hg4
            have HB4 := hid (HB3.out.grown hg4 (Nat.le_trans HFW1.out hg3.size) (fun k hk => by cases hk; exact Nat.le_refl _))
            refine hK.out _ _ (by exact HSC.out w4 HB4.out) (fun hHeld => ?_)
            clear hK K
            try simp only [Act.put, List.setIfInBounds_toArray, List.set_cons_zero, List.set_cons_succ]
            refine wpAnyH_done (by kernel_rfl) ?_ _
          all_goals
            have HR4 := hid (show Rows w4 F (mset ml c (v3, lst ml c ++ [(i : Int)])) from
              (Rows.put HR1.out HGM1.out.once hg3 hown3 hat3).grown hg4 fun p hp => .inr (own_map_ne ((Rows.put HR1.out HGM1.out.once hg3 hown3 hat3).1 p hp) HM3.out))
            have HL4 := hid (show LdIs (mset ml c (v3, lst ml c ++ [(i : Int)])) blk (comers rs m (L.take k) ++ l2.take (j + 1)) by
              have h := HM.out.2.2.snoc (i : Int) v3
              rw [HCB.out, List.append_assoc, ← HTK.out] at h
              exact h)
            have HM4 := hid hm4
            clear hown3 hg3 hat3 hm4 hg4 HM3 HB3 HSC3
            go_wp2_with fail
            go_roundw
            case rel => exact ⟨j + 1, _, by omega, by go_num, hid ⟨HM4.out, HR4.out, HL4.out⟩, HB4⟩
            case measure => simp [intOf]; omega
        · obtain rfl : j = l2.length := by omega
          rw [List.take_length, ← HCS.out] at HM
          go_wp2_with fail
          go_roundw
          case rel => exact ⟨k + 1, ml, by omega, by go_num, HM, HB⟩
          case measure => simp [intOf]; omega
    · obtain rfl : k = L.length := by omega
      rw [List.take_length, HLE.out] at HM
      go_wp2_with fail
      go_ret
      rw [HG.out] at HM ⊢
      exact ⟨ml, rfl, HM.out.1, HM.out.2.1, HM.out.2.2, HBw.out⟩
end Go.Proofs.Ytmdkmobcglnmgaa
