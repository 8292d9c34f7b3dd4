/- The document's table of which places lead to which: Leads: the walk. Condition: at most a thousand marks. -/
import Derived.Test.YtjcdcmeclnihbaaEt
namespace Go.Proofs.Ytjcdcmeclnihbaa
open Go.RowKit
set_option linter.unusedSimpArgs false
def LeadsIH (d : Nat) : Prop := ∀ (v : Value) (t : Tr d) (mv : Value) (marks : List Int) (w : World), IsTr w Any d v t → IsNums .i64 w Any mv marks → marks.length ≤ 1000 →
  Calls Try.prog 44 #[v, mv] w fun e w' => ∃ v', e = .returned v' ∧ IsTab w' (marks.length + 1) v' (leadsF d t marks) ∧ Below w.heap.size w w'
def diagB (kd : Int) : Bool := kd == 4 || kd == 6 || kd == 8 || kd == 9
theorem base_row1 {kd cl : Int} {marks : List Int} {i j n : Nat} (hn : n = marks.length + 1) (h : ¬ kd < 4 ∨ ¬ i + 1 < n) (hj : j < n) : (if j = i then diagB kd else false) = baseF kd cl marks i j := by
  unfold baseF diagB
  by_cases e : i = j
  · rw [if_pos e.symm, if_pos e]
  · rw [if_neg (fun e' => e e'.symm), if_neg e]
    rcases h with h | h
    · rw [decide_eq_false h]; simp
    · rw [decide_eq_false (p := j = i + 1) (by omega)]; rfl
theorem base_row2 {kd cl m : Int} {marks : List Int} {i j : Nat} (h : kd < 4) (hm : marks[i]? = some m) : (if j = i + 1 then takesT kd cl m else if j = i then diagB kd else false) = baseF kd cl marks i j := by
  unfold baseF diagB
  by_cases e1 : j = i + 1
  · subst e1
    rw [if_pos rfl, if_neg (by omega), hm, decide_eq_true rfl, decide_eq_true h]; rfl
  · rw [if_neg e1]
    by_cases e : i = j
    · rw [if_pos e.symm, if_pos e]
    · rw [if_neg (fun e' => e e'.symm), if_neg e, decide_eq_false e1]; rfl
set_option maxRecDepth 100000 in
set_option maxHeartbeats 16000000 in
theorem leads_any : ∀ d : Nat, LeadsIH d := by
  intro d
  induction d with
  | zero => intro v t; exact t.elim
  | succ d ih =>
    intro v t mv marks w h hm hlen
    obtain ⟨A, c, rfl, hle, hkids⟩ := h.open
    obtain ⟨kd, hkd⟩ : ∃ kd, kd = Tr.kind t := ⟨_, rfl⟩
    obtain ⟨cl, hcl⟩ : ∃ cl, cl = Tr.cls t := ⟨_, rfl⟩
    obtain ⟨l, hl⟩ : ∃ l, l = Tr.kids t := ⟨_, rfl⟩
    obtain ⟨n, hn⟩ : ∃ n, n = marks.length + 1 := ⟨_, rfl⟩
    have HRES := hid (show leadsF (d + 1) t marks = l.foldl (fun out k => stepF kd n out (leadsF d k marks)) (baseF kd cl marks) by rw [hkd, hcl, hl, hn]; rfl)
    rw [← hkd, ← hcl, ← hl, ← hn]
    rw [← hl] at hkids hle
    obtain ⟨M, cm, rfl⟩ := hm.form
    have HMw := hid hm
    have HKw := hid hkids
    have HLE := hid hle
    have IH := hid ih
    have HML := hid hlen
    have HN := hid hn
    obtain ⟨m, hmn⟩ : ∃ m, m = marks.length := ⟨_, rfl⟩
    have HMN := hid hmn
    have hn1 : n = m + 1 := by rw [hn, hmn]
    have hm2 : m ≤ 1000 := by omega
    have hn1001 : n ≤ 1001 := by omega
    rw [← hmn]
    clear hkd hcl hl h hkids hm ih hlen hmn hn
    have HN1 := hid hn1
    have hmr := run_make_rows .i64 .i64 n (by omega)
    have hmb := run_make_bools .i64 .i64 n (by omega)
    have hnI : (m : Int) + 1 = (n : Int) := by omega
    obtain ⟨q, hq⟩ : ∃ q, q = w.heap.size := ⟨_, rfl⟩
    have HQ := hid hq
    obtain ⟨W, hW⟩ : ∃ W, W = (w.alloc (.cells #[.int .i64 kd, .int .i64 cl, .slice A l.length c] 51)).alloc (.cells (Array.replicate n (Value.slice none 0 0)) 28) := ⟨_, rfl⟩
    have HWW := hid (alloc2 hW)
    rw [← hq] at HWW
    have HO0 := hid (show OutTab W (q + 1) n 0 (baseF kd cl marks) by
      have h := OutTab.new (w.alloc (.cells #[.int .i64 kd, .int .i64 cl, .slice A l.length c] 51)) n (baseF kd cl marks)
      rw [hW, hq]
      have e : (w.alloc (.cells #[.int .i64 kd, .int .i64 cl, .slice A l.length c] 51)).heap.size = w.heap.size + 1 := by simp
      rw [e] at h
      exact h)
    clear hn1
    go_enter Try.func44, Try.ntmps44
    go_wp2_with fail
    rw [← hW, ← hq]
    clear hW hq hmr hnI
    obtain ⟨g, hg⟩ : ∃ g, g = q + 1 := ⟨_, rfl⟩
    rw [← hg] at HO0 ⊢
    have HGQ := hid hg
    clear hg
    go_loopw [7] (fun s7 wr => ∃ i : Nat, i ≤ n ∧ s7 = .int .i64 i ∧ Hid (OutTab wr g n i (baseF kd cl marks)) ∧ Hid (wr.heap[q]? = some (.cells #[.int .i64 kd, .int .i64 cl, .slice A l.length c] 51 (0, 0))) ∧ Hid (Below q w wr)) (fun s7 _ => n - (intOf s7).toNat)
    case atStart => exact ⟨0, by omega, rfl, HO0, hid HWW.out.1, hid HWW.out.2.2.2⟩
    case round =>
      obtain ⟨i, hi, rfl, HO, HX, HW⟩ := hrel
      by_cases hlt : i < n
      · obtain ⟨W1, hW1⟩ : ∃ W1, W1 = (wr.alloc (.cells (Array.replicate n (Value.bool false)) 4)).setCell ⟨g, i, none⟩ (.slice (some ⟨wr.heap.size, 0, none⟩) n n) := ⟨_, rfl⟩
        have HR0 := hid (HO.out.row hlt hW1)
        have hOa := HO.out.keep (w' := wr.alloc (.cells (Array.replicate n (Value.bool false)) 4)) (fun b hb => heap_alloc_old _ _ hb)
        obtain ⟨u, hu, hfu⟩ := hOa.cell hlt
        have hgl := HO.out.lt
        have HW1 := hid (show Below q w W1 by rw [hW1]; exact (HW.out.alloc (by rw [HGQ.out] at hgl; omega) _).setCell (p := ⟨g, i, none⟩) (by rw [HGQ.out]; show q ≤ q + 1; omega) _)
        have HX1 := hid (show W1.heap[q]? = some (.cells #[.int .i64 kd, .int .i64 cl, .slice A l.length c] 51 (0, 0)) by
          rw [hW1, heap_setCell_other _ _ _ _ (by rw [HGQ.out]; show q ≠ q + 1; omega), heap_alloc_old _ _ (by rw [HGQ.out] at hgl; omega)]; exact HX.out)
        obtain ⟨r, hr⟩ : ∃ r, r = wr.heap.size := ⟨_, rfl⟩
        have HRW := hid (show q + 1 < r ∧ w.heap.size < r by rw [hr, ← HQ.out]; rw [HGQ.out] at hgl; omega)
        clear hOa hgl
        go_wp2_with fail
        rw [← hW1, ← hr]
        rw [← hr] at HR0
        clear hW1 hr hu hfu
        have hrow := HR0.out.rowCell
        obtain ⟨hc, hfc⟩ := HR0.out.cell hlt
        obtain ⟨f0, f1, f2, -⟩ := slot3 HX1.out
        have HNE := hid (show g ≠ r ∧ q ≠ r by rw [HGQ.out]; have := HRW.out; omega)
        have HSD := hid (fun v => (show OutRow (W1.drew.setCell ⟨r, i, none⟩ (.bool v)) g n i r (baseF kd cl marks) (fun j => if j = i then v else false) from OutRow.set (w := W1.drew) HR0.out i v))
        have HWD := hid (fun v => (show Below q w (W1.drew.setCell ⟨r, i, none⟩ (.bool v)) from HW1.out.drew.setCell (p := ⟨r, i, none⟩) (by have := HRW.out; show q ≤ r; omega) _))
        have HXD := hid (fun v => (show (W1.drew.setCell ⟨r, i, none⟩ (.bool v)).heap[q]? = some (.cells #[.int .i64 kd, .int .i64 cl, .slice A l.length c] 51 (0, 0)) from (heap_setCell_other _ _ _ _ HNE.out.2).trans HX1.out))
        have HS := hid (And.intro hrow f0)
        have HSV := hid (fun v => (show (W1.drew.setCell ⟨r, i, none⟩ (.bool v)).cell? ⟨g, i, none⟩ = some (.slice (some ⟨r, 0, none⟩) n n) ∧ (W1.drew.setCell ⟨r, i, none⟩ (.bool v)).cell? ⟨q, 0, none⟩ = some (.int .i64 kd) from ⟨(cell_set_other (.inl HNE.out.1)).trans hrow, (cell_set_other (.inl HNE.out.2)).trans f0⟩))
        by_cases h4 : kd = 4
        · subst h4
          have HSN := hid (HSV.out true)
          have HD := hid ((HSD.out true).done fun j hj => base_row1 (kd := 4) HN.out (.inl (by omega)) hj)
          go_wp2_with fail
          refine wp_region_held_drew (S := (fun Y => Y.cell? ⟨g, i, none⟩ = some (.slice (some ⟨r, 0, none⟩) n n) ∧ Y.cell? ⟨q, 0, none⟩ = some (.int .i64 4))) (by kernel_rfl) (by exact HS.out) (fun hHeld => ?_)
          refine wpAnyH_take (i := 0) (oi := { dst := some 27, op := Op.move (Operand.tmp 6), type := _, pos := _, after := _, guard := none }) (v := ?_) rfl (by kernel_rfl) (by kernel_rfl) (by kernel_rfl) (fun _ _ _ h => h) (Or.inl ⟨by rfl, ?_⟩) (by assumption) ?_
          rotate_left
          · intro w hSw; (try dsimp only at hSw); go_simp; try with_reducible rfl
          try simp only [Act.put, List.setIfInBounds_toArray, List.set_cons_zero, List.set_cons_succ]
          refine wpAnyH_take (i := 1) (oi := { dst := some 28, op := Op.move (Operand.tmp 7), type := _, pos := _, after := _, guard := none }) (v := ?_) rfl (by kernel_rfl) (by kernel_rfl) (by kernel_rfl) (fun _ _ _ h => h) (Or.inl ⟨by rfl, ?_⟩) (by assumption) ?_
          rotate_left
          · intro w hSw; (try dsimp only at hSw); go_simp; try with_reducible rfl
          try simp only [Act.put, List.setIfInBounds_toArray, List.set_cons_zero, List.set_cons_succ]
          refine wpAnyH_take (i := 2) (oi := { dst := some 29, op := Op.indexAddr 78 (Operand.tmp 27) (Operand.tmp 28), type := _, pos := _, after := _, guard := none }) (v := ?_) rfl (by kernel_rfl) (by kernel_rfl) (by kernel_rfl) (fun _ _ _ h => h) (Or.inl ⟨by rfl, ?_⟩) (by assumption) ?_
          rotate_left
          · intro w hSw; (try dsimp only at hSw); go_simp; try with_reducible rfl
          try simp only [Act.put, List.setIfInBounds_toArray, List.set_cons_zero, List.set_cons_succ]
          refine wpAnyH_take (i := 3) (oi := { dst := some 30, op := Op.load 28 (Operand.tmp 29), type := _, pos := _, after := _, guard := none }) (v := ?_) rfl (by kernel_rfl) (by kernel_rfl) (by kernel_rfl) (fun _ _ _ h => h) (Or.inl ⟨by rfl, ?_⟩) (by assumption) ?_
          rotate_left
          · intro w hSw; (try dsimp only at hSw); go_simp; try with_reducible rfl
          try simp only [Act.put, List.setIfInBounds_toArray, List.set_cons_zero, List.set_cons_succ]
          refine wpAnyH_take (i := 4) (oi := { dst := some 31, op := Op.move (Operand.tmp 7), type := _, pos := _, after := _, guard := none }) (v := ?_) rfl (by kernel_rfl) (by kernel_rfl) (by kernel_rfl) (fun _ _ _ h => h) (Or.inl ⟨by rfl, ?_⟩) (by assumption) ?_
          rotate_left
          · intro w hSw; (try dsimp only at hSw); go_simp; try with_reducible rfl
          try simp only [Act.put, List.setIfInBounds_toArray, List.set_cons_zero, List.set_cons_succ]
          refine wpAnyH_take (i := 5) (oi := { dst := some 32, op := Op.fieldAddr 51 (Operand.tmp 2) 0, type := _, pos := _, after := _, guard := none }) (v := ?_) rfl (by kernel_rfl) (by kernel_rfl) (by kernel_rfl) (fun _ _ _ h => h) (Or.inl ⟨by rfl, ?_⟩) (by assumption) ?_
          rotate_left
          · intro w hSw; (try dsimp only at hSw); go_simp; try with_reducible rfl
          try simp only [Act.put, List.setIfInBounds_toArray, List.set_cons_zero, List.set_cons_succ]
          refine wpAnyH_take (i := 6) (oi := { dst := some 33, op := Op.load 3 (Operand.tmp 32), type := _, pos := _, after := _, guard := none }) (v := ?_) rfl (by kernel_rfl) (by kernel_rfl) (by kernel_rfl) (fun _ _ _ h => h) (Or.inl ⟨by rfl, ?_⟩) (by assumption) ?_
          rotate_left
          · intro w hSw; (try dsimp only at hSw); go_simp; try with_reducible rfl
          try simp only [Act.put, List.setIfInBounds_toArray, List.set_cons_zero, List.set_cons_succ]
          refine wpAnyH_take (i := 7) (oi := { dst := some 34, op := Op.binOp BinOp.eql 3 (Operand.tmp 33) (Operand.const (Value.int IntKind.i64 4)) 3, type := _, pos := _, after := _, guard := none }) (v := ?_) rfl (by kernel_rfl) (by kernel_rfl) (by kernel_rfl) (fun _ _ _ h => h) (Or.inl ⟨by rfl, ?_⟩) (by assumption) ?_
          rotate_left
          · intro w hSw; (try dsimp only at hSw); go_simp; try with_reducible rfl
          try simp only [Act.put, List.setIfInBounds_toArray, List.set_cons_zero, List.set_cons_succ]
          refine wpAnyH_take (i := 8) (oi := { dst := some 35, op := Op.move (Operand.tmp 34), type := _, pos := _, after := _, guard := none }) (v := ?_) rfl (by kernel_rfl) (by kernel_rfl) (by kernel_rfl) (fun _ _ _ h => h) (Or.inl ⟨by rfl, ?_⟩) (by assumption) ?_
          rotate_left
          · intro w hSw; (try dsimp only at hSw); go_simp; try with_reducible rfl
          try simp only [Act.put, List.setIfInBounds_toArray, List.set_cons_zero, List.set_cons_succ]
          refine wpAnyH_take (i := 9) (oi := { dst := some 36, op := Op.fieldAddr 51 (Operand.tmp 2) 0, type := _, pos := _, after := _, guard := some (8, false) }) (v := undef) rfl (by kernel_rfl) (by kernel_rfl) (by kernel_rfl) (fun _ _ _ h => h) (Or.inr ⟨by rfl, rfl⟩) (by assumption) ?_
          try simp only [Act.put, List.setIfInBounds_toArray, List.set_cons_zero, List.set_cons_succ]
          refine wpAnyH_take (i := 10) (oi := { dst := some 37, op := Op.load 3 (Operand.tmp 36), type := _, pos := _, after := _, guard := some (8, false) }) (v := undef) rfl (by kernel_rfl) (by kernel_rfl) (by kernel_rfl) (fun _ _ _ h => h) (Or.inr ⟨by rfl, rfl⟩) (by assumption) ?_
          try simp only [Act.put, List.setIfInBounds_toArray, List.set_cons_zero, List.set_cons_succ]
          refine wpAnyH_take (i := 11) (oi := { dst := some 38, op := Op.binOp BinOp.eql 3 (Operand.tmp 37) (Operand.const (Value.int IntKind.i64 6)) 3, type := _, pos := _, after := _, guard := some (8, false) }) (v := undef) rfl (by kernel_rfl) (by kernel_rfl) (by kernel_rfl) (fun _ _ _ h => h) (Or.inr ⟨by rfl, rfl⟩) (by assumption) ?_
          try simp only [Act.put, List.setIfInBounds_toArray, List.set_cons_zero, List.set_cons_succ]
          refine wpAnyH_take (i := 12) (oi := { dst := some 39, op := Op.pick (Operand.tmp 35) (Operand.const (Value.bool true)) (Operand.tmp 38), type := _, pos := _, after := _, guard := none }) (v := ?_) rfl (by kernel_rfl) (by kernel_rfl) (by kernel_rfl) (fun _ _ _ h => h) (Or.inl ⟨by rfl, ?_⟩) (by assumption) ?_
          rotate_left
          · intro w hSw; (try dsimp only at hSw); go_simp; try with_reducible rfl
          try simp only [Act.put, List.setIfInBounds_toArray, List.set_cons_zero, List.set_cons_succ]
          refine wpAnyH_take (i := 13) (oi := { dst := some 40, op := Op.move (Operand.tmp 39), type := _, pos := _, after := _, guard := none }) (v := ?_) rfl (by kernel_rfl) (by kernel_rfl) (by kernel_rfl) (fun _ _ _ h => h) (Or.inl ⟨by rfl, ?_⟩) (by assumption) ?_
          rotate_left
          · intro w hSw; (try dsimp only at hSw); go_simp; try with_reducible rfl
          try simp only [Act.put, List.setIfInBounds_toArray, List.set_cons_zero, List.set_cons_succ]
          refine wpAnyH_take (i := 14) (oi := { dst := some 41, op := Op.fieldAddr 51 (Operand.tmp 2) 0, type := _, pos := _, after := _, guard := some (13, false) }) (v := undef) rfl (by kernel_rfl) (by kernel_rfl) (by kernel_rfl) (fun _ _ _ h => h) (Or.inr ⟨by rfl, rfl⟩) (by assumption) ?_
          try simp only [Act.put, List.setIfInBounds_toArray, List.set_cons_zero, List.set_cons_succ]
          refine wpAnyH_take (i := 15) (oi := { dst := some 42, op := Op.load 3 (Operand.tmp 41), type := _, pos := _, after := _, guard := some (13, false) }) (v := undef) rfl (by kernel_rfl) (by kernel_rfl) (by kernel_rfl) (fun _ _ _ h => h) (Or.inr ⟨by rfl, rfl⟩) (by assumption) ?_
          try simp only [Act.put, List.setIfInBounds_toArray, List.set_cons_zero, List.set_cons_succ]
          refine wpAnyH_take (i := 16) (oi := { dst := some 43, op := Op.binOp BinOp.eql 3 (Operand.tmp 42) (Operand.const (Value.int IntKind.i64 8)) 3, type := _, pos := _, after := _, guard := some (13, false) }) (v := undef) rfl (by kernel_rfl) (by kernel_rfl) (by kernel_rfl) (fun _ _ _ h => h) (Or.inr ⟨by rfl, rfl⟩) (by assumption) ?_
          try simp only [Act.put, List.setIfInBounds_toArray, List.set_cons_zero, List.set_cons_succ]
          refine wpAnyH_take (i := 17) (oi := { dst := some 44, op := Op.pick (Operand.tmp 40) (Operand.const (Value.bool true)) (Operand.tmp 43), type := _, pos := _, after := _, guard := none }) (v := ?_) rfl (by kernel_rfl) (by kernel_rfl) (by kernel_rfl) (fun _ _ _ h => h) (Or.inl ⟨by rfl, ?_⟩) (by assumption) ?_
          rotate_left
          · intro w hSw; (try dsimp only at hSw); go_simp; try with_reducible rfl
          try simp only [Act.put, List.setIfInBounds_toArray, List.set_cons_zero, List.set_cons_succ]
          refine wpAnyH_take (i := 18) (oi := { dst := some 45, op := Op.move (Operand.tmp 44), type := _, pos := _, after := _, guard := none }) (v := ?_) rfl (by kernel_rfl) (by kernel_rfl) (by kernel_rfl) (fun _ _ _ h => h) (Or.inl ⟨by rfl, ?_⟩) (by assumption) ?_
          rotate_left
          · intro w hSw; (try dsimp only at hSw); go_simp; try with_reducible rfl
          try simp only [Act.put, List.setIfInBounds_toArray, List.set_cons_zero, List.set_cons_succ]
          refine wpAnyH_take (i := 19) (oi := { dst := some 46, op := Op.fieldAddr 51 (Operand.tmp 2) 0, type := _, pos := _, after := _, guard := some (18, false) }) (v := undef) rfl (by kernel_rfl) (by kernel_rfl) (by kernel_rfl) (fun _ _ _ h => h) (Or.inr ⟨by rfl, rfl⟩) (by assumption) ?_
          try simp only [Act.put, List.setIfInBounds_toArray, List.set_cons_zero, List.set_cons_succ]
          refine wpAnyH_take (i := 20) (oi := { dst := some 47, op := Op.load 3 (Operand.tmp 46), type := _, pos := _, after := _, guard := some (18, false) }) (v := undef) rfl (by kernel_rfl) (by kernel_rfl) (by kernel_rfl) (fun _ _ _ h => h) (Or.inr ⟨by rfl, rfl⟩) (by assumption) ?_
          try simp only [Act.put, List.setIfInBounds_toArray, List.set_cons_zero, List.set_cons_succ]
          refine wpAnyH_take (i := 21) (oi := { dst := some 48, op := Op.binOp BinOp.eql 3 (Operand.tmp 47) (Operand.const (Value.int IntKind.i64 9)) 3, type := _, pos := _, after := _, guard := some (18, false) }) (v := undef) rfl (by kernel_rfl) (by kernel_rfl) (by kernel_rfl) (fun _ _ _ h => h) (Or.inr ⟨by rfl, rfl⟩) (by assumption) ?_
          try simp only [Act.put, List.setIfInBounds_toArray, List.set_cons_zero, List.set_cons_succ]
          refine wpAnyH_take (i := 22) (oi := { dst := some 49, op := Op.pick (Operand.tmp 45) (Operand.const (Value.bool true)) (Operand.tmp 48), type := _, pos := _, after := _, guard := none }) (v := ?_) rfl (by kernel_rfl) (by kernel_rfl) (by kernel_rfl) (fun _ _ _ h => h) (Or.inl ⟨by rfl, ?_⟩) (by assumption) ?_
          rotate_left
          · intro w hSw; (try dsimp only at hSw); go_simp; try with_reducible rfl
          try simp only [Act.put, List.setIfInBounds_toArray, List.set_cons_zero, List.set_cons_succ]
          refine wpAnyH_take (i := 23) (oi := { dst := some 50, op := Op.indexAddr 28 (Operand.tmp 30) (Operand.tmp 31), type := _, pos := _, after := _, guard := none }) (v := ?_) rfl (by kernel_rfl) (by kernel_rfl) (by kernel_rfl) (fun _ _ _ h => h) (Or.inl ⟨by rfl, ?_⟩) (by assumption) ?_
          rotate_left
          · intro w hSw; (try dsimp only at hSw); go_simp; try with_reducible rfl
          try simp only [Act.put, List.setIfInBounds_toArray, List.set_cons_zero, List.set_cons_succ]
          refine wpAnyH_ready (rs := [24]) (by kernel_rfl) (by simp) ?_
          refine AllReadyH.cons (o := { dst := none, op := Op.store 4 (Operand.tmp 50) (Operand.tmp 49), type := _, pos := _, after := _, guard := none }) rfl (fun K hK => ?_) AllReadyH.nil
          go_simp
          refine hK.out _ _ (by exact HSN.out) (fun hHeld => ?_)
          clear hK K
          try simp only [Act.put, List.setIfInBounds_toArray, List.set_cons_zero, List.set_cons_succ]
          refine wpAnyH_done (by kernel_rfl) ?_ _
          all_goals
            obtain ⟨k0, k1, k2, -⟩ := slot3 (HXD.out true)
            go_wp2_with fail
            all_goals
              go_roundw
              case rel => exact ⟨i + 1, by omega, by go_num, HD, hid (HXD.out true), hid (HWD.out true)⟩
              case measure => simp [intOf]; omega
        by_cases h6 : kd = 6
        · subst h6
          have HSN := hid (HSV.out true)
          have HD := hid ((HSD.out true).done fun j hj => base_row1 (kd := 6) HN.out (.inl (by omega)) hj)
          go_wp2_with fail
          refine wp_region_held_drew (S := (fun Y => Y.cell? ⟨g, i, none⟩ = some (.slice (some ⟨r, 0, none⟩) n n) ∧ Y.cell? ⟨q, 0, none⟩ = some (.int .i64 6))) (by kernel_rfl) (by exact HS.out) (fun hHeld => ?_)
          refine wpAnyH_take (i := 0) (oi := { dst := some 27, op := Op.move (Operand.tmp 6), type := _, pos := _, after := _, guard := none }) (v := ?_) rfl (by kernel_rfl) (by kernel_rfl) (by kernel_rfl) (fun _ _ _ h => h) (Or.inl ⟨by rfl, ?_⟩) (by assumption) ?_
          rotate_left
          · intro w hSw; (try dsimp only at hSw); go_simp; try with_reducible rfl
          try simp only [Act.put, List.setIfInBounds_toArray, List.set_cons_zero, List.set_cons_succ]
          refine wpAnyH_take (i := 1) (oi := { dst := some 28, op := Op.move (Operand.tmp 7), type := _, pos := _, after := _, guard := none }) (v := ?_) rfl (by kernel_rfl) (by kernel_rfl) (by kernel_rfl) (fun _ _ _ h => h) (Or.inl ⟨by rfl, ?_⟩) (by assumption) ?_
          rotate_left
          · intro w hSw; (try dsimp only at hSw); go_simp; try with_reducible rfl
          try simp only [Act.put, List.setIfInBounds_toArray, List.set_cons_zero, List.set_cons_succ]
          refine wpAnyH_take (i := 2) (oi := { dst := some 29, op := Op.indexAddr 78 (Operand.tmp 27) (Operand.tmp 28), type := _, pos := _, after := _, guard := none }) (v := ?_) rfl (by kernel_rfl) (by kernel_rfl) (by kernel_rfl) (fun _ _ _ h => h) (Or.inl ⟨by rfl, ?_⟩) (by assumption) ?_
          rotate_left
          · intro w hSw; (try dsimp only at hSw); go_simp; try with_reducible rfl
          try simp only [Act.put, List.setIfInBounds_toArray, List.set_cons_zero, List.set_cons_succ]
          refine wpAnyH_take (i := 3) (oi := { dst := some 30, op := Op.load 28 (Operand.tmp 29), type := _, pos := _, after := _, guard := none }) (v := ?_) rfl (by kernel_rfl) (by kernel_rfl) (by kernel_rfl) (fun _ _ _ h => h) (Or.inl ⟨by rfl, ?_⟩) (by assumption) ?_
          rotate_left
          · intro w hSw; (try dsimp only at hSw); go_simp; try with_reducible rfl
          try simp only [Act.put, List.setIfInBounds_toArray, List.set_cons_zero, List.set_cons_succ]
          refine wpAnyH_take (i := 4) (oi := { dst := some 31, op := Op.move (Operand.tmp 7), type := _, pos := _, after := _, guard := none }) (v := ?_) rfl (by kernel_rfl) (by kernel_rfl) (by kernel_rfl) (fun _ _ _ h => h) (Or.inl ⟨by rfl, ?_⟩) (by assumption) ?_
          rotate_left
          · intro w hSw; (try dsimp only at hSw); go_simp; try with_reducible rfl
          try simp only [Act.put, List.setIfInBounds_toArray, List.set_cons_zero, List.set_cons_succ]
          refine wpAnyH_take (i := 5) (oi := { dst := some 32, op := Op.fieldAddr 51 (Operand.tmp 2) 0, type := _, pos := _, after := _, guard := none }) (v := ?_) rfl (by kernel_rfl) (by kernel_rfl) (by kernel_rfl) (fun _ _ _ h => h) (Or.inl ⟨by rfl, ?_⟩) (by assumption) ?_
          rotate_left
          · intro w hSw; (try dsimp only at hSw); go_simp; try with_reducible rfl
          try simp only [Act.put, List.setIfInBounds_toArray, List.set_cons_zero, List.set_cons_succ]
          refine wpAnyH_take (i := 6) (oi := { dst := some 33, op := Op.load 3 (Operand.tmp 32), type := _, pos := _, after := _, guard := none }) (v := ?_) rfl (by kernel_rfl) (by kernel_rfl) (by kernel_rfl) (fun _ _ _ h => h) (Or.inl ⟨by rfl, ?_⟩) (by assumption) ?_
          rotate_left
          · intro w hSw; (try dsimp only at hSw); go_simp; try with_reducible rfl
          try simp only [Act.put, List.setIfInBounds_toArray, List.set_cons_zero, List.set_cons_succ]
          refine wpAnyH_take (i := 7) (oi := { dst := some 34, op := Op.binOp BinOp.eql 3 (Operand.tmp 33) (Operand.const (Value.int IntKind.i64 4)) 3, type := _, pos := _, after := _, guard := none }) (v := ?_) rfl (by kernel_rfl) (by kernel_rfl) (by kernel_rfl) (fun _ _ _ h => h) (Or.inl ⟨by rfl, ?_⟩) (by assumption) ?_
          rotate_left
          · intro w hSw; (try dsimp only at hSw); go_simp; try with_reducible rfl
          try simp only [Act.put, List.setIfInBounds_toArray, List.set_cons_zero, List.set_cons_succ]
          refine wpAnyH_take (i := 8) (oi := { dst := some 35, op := Op.move (Operand.tmp 34), type := _, pos := _, after := _, guard := none }) (v := ?_) rfl (by kernel_rfl) (by kernel_rfl) (by kernel_rfl) (fun _ _ _ h => h) (Or.inl ⟨by rfl, ?_⟩) (by assumption) ?_
          rotate_left
          · intro w hSw; (try dsimp only at hSw); go_simp; try with_reducible rfl
          try simp only [Act.put, List.setIfInBounds_toArray, List.set_cons_zero, List.set_cons_succ]
          refine wpAnyH_take (i := 9) (oi := { dst := some 36, op := Op.fieldAddr 51 (Operand.tmp 2) 0, type := _, pos := _, after := _, guard := some (8, false) }) (v := ?_) rfl (by kernel_rfl) (by kernel_rfl) (by kernel_rfl) (fun _ _ _ h => h) (Or.inl ⟨by rfl, ?_⟩) (by assumption) ?_
          rotate_left
          · intro w hSw; (try dsimp only at hSw); go_simp; try with_reducible rfl
          try simp only [Act.put, List.setIfInBounds_toArray, List.set_cons_zero, List.set_cons_succ]
          refine wpAnyH_take (i := 10) (oi := { dst := some 37, op := Op.load 3 (Operand.tmp 36), type := _, pos := _, after := _, guard := some (8, false) }) (v := ?_) rfl (by kernel_rfl) (by kernel_rfl) (by kernel_rfl) (fun _ _ _ h => h) (Or.inl ⟨by rfl, ?_⟩) (by assumption) ?_
          rotate_left
          · intro w hSw; (try dsimp only at hSw); go_simp; try with_reducible rfl
          try simp only [Act.put, List.setIfInBounds_toArray, List.set_cons_zero, List.set_cons_succ]
          refine wpAnyH_take (i := 11) (oi := { dst := some 38, op := Op.binOp BinOp.eql 3 (Operand.tmp 37) (Operand.const (Value.int IntKind.i64 6)) 3, type := _, pos := _, after := _, guard := some (8, false) }) (v := ?_) rfl (by kernel_rfl) (by kernel_rfl) (by kernel_rfl) (fun _ _ _ h => h) (Or.inl ⟨by rfl, ?_⟩) (by assumption) ?_
          rotate_left
          · intro w hSw; (try dsimp only at hSw); go_simp; try with_reducible rfl
          try simp only [Act.put, List.setIfInBounds_toArray, List.set_cons_zero, List.set_cons_succ]
          refine wpAnyH_take (i := 12) (oi := { dst := some 39, op := Op.pick (Operand.tmp 35) (Operand.const (Value.bool true)) (Operand.tmp 38), type := _, pos := _, after := _, guard := none }) (v := ?_) rfl (by kernel_rfl) (by kernel_rfl) (by kernel_rfl) (fun _ _ _ h => h) (Or.inl ⟨by rfl, ?_⟩) (by assumption) ?_
          rotate_left
          · intro w hSw; (try dsimp only at hSw); go_simp; try with_reducible rfl
          try simp only [Act.put, List.setIfInBounds_toArray, List.set_cons_zero, List.set_cons_succ]
          refine wpAnyH_take (i := 13) (oi := { dst := some 40, op := Op.move (Operand.tmp 39), type := _, pos := _, after := _, guard := none }) (v := ?_) rfl (by kernel_rfl) (by kernel_rfl) (by kernel_rfl) (fun _ _ _ h => h) (Or.inl ⟨by rfl, ?_⟩) (by assumption) ?_
          rotate_left
          · intro w hSw; (try dsimp only at hSw); go_simp; try with_reducible rfl
          try simp only [Act.put, List.setIfInBounds_toArray, List.set_cons_zero, List.set_cons_succ]
          refine wpAnyH_take (i := 14) (oi := { dst := some 41, op := Op.fieldAddr 51 (Operand.tmp 2) 0, type := _, pos := _, after := _, guard := some (13, false) }) (v := undef) rfl (by kernel_rfl) (by kernel_rfl) (by kernel_rfl) (fun _ _ _ h => h) (Or.inr ⟨by rfl, rfl⟩) (by assumption) ?_
          try simp only [Act.put, List.setIfInBounds_toArray, List.set_cons_zero, List.set_cons_succ]
          refine wpAnyH_take (i := 15) (oi := { dst := some 42, op := Op.load 3 (Operand.tmp 41), type := _, pos := _, after := _, guard := some (13, false) }) (v := undef) rfl (by kernel_rfl) (by kernel_rfl) (by kernel_rfl) (fun _ _ _ h => h) (Or.inr ⟨by rfl, rfl⟩) (by assumption) ?_
          try simp only [Act.put, List.setIfInBounds_toArray, List.set_cons_zero, List.set_cons_succ]
          refine wpAnyH_take (i := 16) (oi := { dst := some 43, op := Op.binOp BinOp.eql 3 (Operand.tmp 42) (Operand.const (Value.int IntKind.i64 8)) 3, type := _, pos := _, after := _, guard := some (13, false) }) (v := undef) rfl (by kernel_rfl) (by kernel_rfl) (by kernel_rfl) (fun _ _ _ h => h) (Or.inr ⟨by rfl, rfl⟩) (by assumption) ?_
          try simp only [Act.put, List.setIfInBounds_toArray, List.set_cons_zero, List.set_cons_succ]
          refine wpAnyH_take (i := 17) (oi := { dst := some 44, op := Op.pick (Operand.tmp 40) (Operand.const (Value.bool true)) (Operand.tmp 43), type := _, pos := _, after := _, guard := none }) (v := ?_) rfl (by kernel_rfl) (by kernel_rfl) (by kernel_rfl) (fun _ _ _ h => h) (Or.inl ⟨by rfl, ?_⟩) (by assumption) ?_
          rotate_left
          · intro w hSw; (try dsimp only at hSw); go_simp; try with_reducible rfl
          try simp only [Act.put, List.setIfInBounds_toArray, List.set_cons_zero, List.set_cons_succ]
          refine wpAnyH_take (i := 18) (oi := { dst := some 45, op := Op.move (Operand.tmp 44), type := _, pos := _, after := _, guard := none }) (v := ?_) rfl (by kernel_rfl) (by kernel_rfl) (by kernel_rfl) (fun _ _ _ h => h) (Or.inl ⟨by rfl, ?_⟩) (by assumption) ?_
          rotate_left
          · intro w hSw; (try dsimp only at hSw); go_simp; try with_reducible rfl
          try simp only [Act.put, List.setIfInBounds_toArray, List.set_cons_zero, List.set_cons_succ]
          refine wpAnyH_take (i := 19) (oi := { dst := some 46, op := Op.fieldAddr 51 (Operand.tmp 2) 0, type := _, pos := _, after := _, guard := some (18, false) }) (v := undef) rfl (by kernel_rfl) (by kernel_rfl) (by kernel_rfl) (fun _ _ _ h => h) (Or.inr ⟨by rfl, rfl⟩) (by assumption) ?_
          try simp only [Act.put, List.setIfInBounds_toArray, List.set_cons_zero, List.set_cons_succ]
          refine wpAnyH_take (i := 20) (oi := { dst := some 47, op := Op.load 3 (Operand.tmp 46), type := _, pos := _, after := _, guard := some (18, false) }) (v := undef) rfl (by kernel_rfl) (by kernel_rfl) (by kernel_rfl) (fun _ _ _ h => h) (Or.inr ⟨by rfl, rfl⟩) (by assumption) ?_
          try simp only [Act.put, List.setIfInBounds_toArray, List.set_cons_zero, List.set_cons_succ]
          refine wpAnyH_take (i := 21) (oi := { dst := some 48, op := Op.binOp BinOp.eql 3 (Operand.tmp 47) (Operand.const (Value.int IntKind.i64 9)) 3, type := _, pos := _, after := _, guard := some (18, false) }) (v := undef) rfl (by kernel_rfl) (by kernel_rfl) (by kernel_rfl) (fun _ _ _ h => h) (Or.inr ⟨by rfl, rfl⟩) (by assumption) ?_
          try simp only [Act.put, List.setIfInBounds_toArray, List.set_cons_zero, List.set_cons_succ]
          refine wpAnyH_take (i := 22) (oi := { dst := some 49, op := Op.pick (Operand.tmp 45) (Operand.const (Value.bool true)) (Operand.tmp 48), type := _, pos := _, after := _, guard := none }) (v := ?_) rfl (by kernel_rfl) (by kernel_rfl) (by kernel_rfl) (fun _ _ _ h => h) (Or.inl ⟨by rfl, ?_⟩) (by assumption) ?_
          rotate_left
          · intro w hSw; (try dsimp only at hSw); go_simp; try with_reducible rfl
          try simp only [Act.put, List.setIfInBounds_toArray, List.set_cons_zero, List.set_cons_succ]
          refine wpAnyH_take (i := 23) (oi := { dst := some 50, op := Op.indexAddr 28 (Operand.tmp 30) (Operand.tmp 31), type := _, pos := _, after := _, guard := none }) (v := ?_) rfl (by kernel_rfl) (by kernel_rfl) (by kernel_rfl) (fun _ _ _ h => h) (Or.inl ⟨by rfl, ?_⟩) (by assumption) ?_
          rotate_left
          · intro w hSw; (try dsimp only at hSw); go_simp; try with_reducible rfl
          try simp only [Act.put, List.setIfInBounds_toArray, List.set_cons_zero, List.set_cons_succ]
          refine wpAnyH_ready (rs := [24]) (by kernel_rfl) (by simp) ?_
          refine AllReadyH.cons (o := { dst := none, op := Op.store 4 (Operand.tmp 50) (Operand.tmp 49), type := _, pos := _, after := _, guard := none }) rfl (fun K hK => ?_) AllReadyH.nil
          go_simp
          refine hK.out _ _ (by exact HSN.out) (fun hHeld => ?_)
          clear hK K
          try simp only [Act.put, List.setIfInBounds_toArray, List.set_cons_zero, List.set_cons_succ]
          refine wpAnyH_done (by kernel_rfl) ?_ _
          all_goals
            obtain ⟨k0, k1, k2, -⟩ := slot3 (HXD.out true)
            go_wp2_with fail
            all_goals
              go_roundw
              case rel => exact ⟨i + 1, by omega, by go_num, HD, hid (HXD.out true), hid (HWD.out true)⟩
              case measure => simp [intOf]; omega
        by_cases h8 : kd = 8
        · subst h8
          have HSN := hid (HSV.out true)
          have HD := hid ((HSD.out true).done fun j hj => base_row1 (kd := 8) HN.out (.inl (by omega)) hj)
          go_wp2_with fail
          refine wp_region_held_drew (S := (fun Y => Y.cell? ⟨g, i, none⟩ = some (.slice (some ⟨r, 0, none⟩) n n) ∧ Y.cell? ⟨q, 0, none⟩ = some (.int .i64 8))) (by kernel_rfl) (by exact HS.out) (fun hHeld => ?_)
          refine wpAnyH_take (i := 0) (oi := { dst := some 27, op := Op.move (Operand.tmp 6), type := _, pos := _, after := _, guard := none }) (v := ?_) rfl (by kernel_rfl) (by kernel_rfl) (by kernel_rfl) (fun _ _ _ h => h) (Or.inl ⟨by rfl, ?_⟩) (by assumption) ?_
          rotate_left
          · intro w hSw; (try dsimp only at hSw); go_simp; try with_reducible rfl
          try simp only [Act.put, List.setIfInBounds_toArray, List.set_cons_zero, List.set_cons_succ]
          refine wpAnyH_take (i := 1) (oi := { dst := some 28, op := Op.move (Operand.tmp 7), type := _, pos := _, after := _, guard := none }) (v := ?_) rfl (by kernel_rfl) (by kernel_rfl) (by kernel_rfl) (fun _ _ _ h => h) (Or.inl ⟨by rfl, ?_⟩) (by assumption) ?_
          rotate_left
          · intro w hSw; (try dsimp only at hSw); go_simp; try with_reducible rfl
          try simp only [Act.put, List.setIfInBounds_toArray, List.set_cons_zero, List.set_cons_succ]
          refine wpAnyH_take (i := 2) (oi := { dst := some 29, op := Op.indexAddr 78 (Operand.tmp 27) (Operand.tmp 28), type := _, pos := _, after := _, guard := none }) (v := ?_) rfl (by kernel_rfl) (by kernel_rfl) (by kernel_rfl) (fun _ _ _ h => h) (Or.inl ⟨by rfl, ?_⟩) (by assumption) ?_
          rotate_left
          · intro w hSw; (try dsimp only at hSw); go_simp; try with_reducible rfl
          try simp only [Act.put, List.setIfInBounds_toArray, List.set_cons_zero, List.set_cons_succ]
          refine wpAnyH_take (i := 3) (oi := { dst := some 30, op := Op.load 28 (Operand.tmp 29), type := _, pos := _, after := _, guard := none }) (v := ?_) rfl (by kernel_rfl) (by kernel_rfl) (by kernel_rfl) (fun _ _ _ h => h) (Or.inl ⟨by rfl, ?_⟩) (by assumption) ?_
          rotate_left
          · intro w hSw; (try dsimp only at hSw); go_simp; try with_reducible rfl
          try simp only [Act.put, List.setIfInBounds_toArray, List.set_cons_zero, List.set_cons_succ]
          refine wpAnyH_take (i := 4) (oi := { dst := some 31, op := Op.move (Operand.tmp 7), type := _, pos := _, after := _, guard := none }) (v := ?_) rfl (by kernel_rfl) (by kernel_rfl) (by kernel_rfl) (fun _ _ _ h => h) (Or.inl ⟨by rfl, ?_⟩) (by assumption) ?_
          rotate_left
          · intro w hSw; (try dsimp only at hSw); go_simp; try with_reducible rfl
          try simp only [Act.put, List.setIfInBounds_toArray, List.set_cons_zero, List.set_cons_succ]
          refine wpAnyH_take (i := 5) (oi := { dst := some 32, op := Op.fieldAddr 51 (Operand.tmp 2) 0, type := _, pos := _, after := _, guard := none }) (v := ?_) rfl (by kernel_rfl) (by kernel_rfl) (by kernel_rfl) (fun _ _ _ h => h) (Or.inl ⟨by rfl, ?_⟩) (by assumption) ?_
          rotate_left
          · intro w hSw; (try dsimp only at hSw); go_simp; try with_reducible rfl
          try simp only [Act.put, List.setIfInBounds_toArray, List.set_cons_zero, List.set_cons_succ]
          refine wpAnyH_take (i := 6) (oi := { dst := some 33, op := Op.load 3 (Operand.tmp 32), type := _, pos := _, after := _, guard := none }) (v := ?_) rfl (by kernel_rfl) (by kernel_rfl) (by kernel_rfl) (fun _ _ _ h => h) (Or.inl ⟨by rfl, ?_⟩) (by assumption) ?_
          rotate_left
          · intro w hSw; (try dsimp only at hSw); go_simp; try with_reducible rfl
          try simp only [Act.put, List.setIfInBounds_toArray, List.set_cons_zero, List.set_cons_succ]
          refine wpAnyH_take (i := 7) (oi := { dst := some 34, op := Op.binOp BinOp.eql 3 (Operand.tmp 33) (Operand.const (Value.int IntKind.i64 4)) 3, type := _, pos := _, after := _, guard := none }) (v := ?_) rfl (by kernel_rfl) (by kernel_rfl) (by kernel_rfl) (fun _ _ _ h => h) (Or.inl ⟨by rfl, ?_⟩) (by assumption) ?_
          rotate_left
          · intro w hSw; (try dsimp only at hSw); go_simp; try with_reducible rfl
          try simp only [Act.put, List.setIfInBounds_toArray, List.set_cons_zero, List.set_cons_succ]
          refine wpAnyH_take (i := 8) (oi := { dst := some 35, op := Op.move (Operand.tmp 34), type := _, pos := _, after := _, guard := none }) (v := ?_) rfl (by kernel_rfl) (by kernel_rfl) (by kernel_rfl) (fun _ _ _ h => h) (Or.inl ⟨by rfl, ?_⟩) (by assumption) ?_
          rotate_left
          · intro w hSw; (try dsimp only at hSw); go_simp; try with_reducible rfl
          try simp only [Act.put, List.setIfInBounds_toArray, List.set_cons_zero, List.set_cons_succ]
          refine wpAnyH_take (i := 9) (oi := { dst := some 36, op := Op.fieldAddr 51 (Operand.tmp 2) 0, type := _, pos := _, after := _, guard := some (8, false) }) (v := ?_) rfl (by kernel_rfl) (by kernel_rfl) (by kernel_rfl) (fun _ _ _ h => h) (Or.inl ⟨by rfl, ?_⟩) (by assumption) ?_
          rotate_left
          · intro w hSw; (try dsimp only at hSw); go_simp; try with_reducible rfl
          try simp only [Act.put, List.setIfInBounds_toArray, List.set_cons_zero, List.set_cons_succ]
          refine wpAnyH_take (i := 10) (oi := { dst := some 37, op := Op.load 3 (Operand.tmp 36), type := _, pos := _, after := _, guard := some (8, false) }) (v := ?_) rfl (by kernel_rfl) (by kernel_rfl) (by kernel_rfl) (fun _ _ _ h => h) (Or.inl ⟨by rfl, ?_⟩) (by assumption) ?_
          rotate_left
          · intro w hSw; (try dsimp only at hSw); go_simp; try with_reducible rfl
          try simp only [Act.put, List.setIfInBounds_toArray, List.set_cons_zero, List.set_cons_succ]
          refine wpAnyH_take (i := 11) (oi := { dst := some 38, op := Op.binOp BinOp.eql 3 (Operand.tmp 37) (Operand.const (Value.int IntKind.i64 6)) 3, type := _, pos := _, after := _, guard := some (8, false) }) (v := ?_) rfl (by kernel_rfl) (by kernel_rfl) (by kernel_rfl) (fun _ _ _ h => h) (Or.inl ⟨by rfl, ?_⟩) (by assumption) ?_
          rotate_left
          · intro w hSw; (try dsimp only at hSw); go_simp; try with_reducible rfl
          try simp only [Act.put, List.setIfInBounds_toArray, List.set_cons_zero, List.set_cons_succ]
          refine wpAnyH_take (i := 12) (oi := { dst := some 39, op := Op.pick (Operand.tmp 35) (Operand.const (Value.bool true)) (Operand.tmp 38), type := _, pos := _, after := _, guard := none }) (v := ?_) rfl (by kernel_rfl) (by kernel_rfl) (by kernel_rfl) (fun _ _ _ h => h) (Or.inl ⟨by rfl, ?_⟩) (by assumption) ?_
          rotate_left
          · intro w hSw; (try dsimp only at hSw); go_simp; try with_reducible rfl
          try simp only [Act.put, List.setIfInBounds_toArray, List.set_cons_zero, List.set_cons_succ]
          refine wpAnyH_take (i := 13) (oi := { dst := some 40, op := Op.move (Operand.tmp 39), type := _, pos := _, after := _, guard := none }) (v := ?_) rfl (by kernel_rfl) (by kernel_rfl) (by kernel_rfl) (fun _ _ _ h => h) (Or.inl ⟨by rfl, ?_⟩) (by assumption) ?_
          rotate_left
          · intro w hSw; (try dsimp only at hSw); go_simp; try with_reducible rfl
          try simp only [Act.put, List.setIfInBounds_toArray, List.set_cons_zero, List.set_cons_succ]
          refine wpAnyH_take (i := 14) (oi := { dst := some 41, op := Op.fieldAddr 51 (Operand.tmp 2) 0, type := _, pos := _, after := _, guard := some (13, false) }) (v := ?_) rfl (by kernel_rfl) (by kernel_rfl) (by kernel_rfl) (fun _ _ _ h => h) (Or.inl ⟨by rfl, ?_⟩) (by assumption) ?_
          rotate_left
          · intro w hSw; (try dsimp only at hSw); go_simp; try with_reducible rfl
          try simp only [Act.put, List.setIfInBounds_toArray, List.set_cons_zero, List.set_cons_succ]
          refine wpAnyH_take (i := 15) (oi := { dst := some 42, op := Op.load 3 (Operand.tmp 41), type := _, pos := _, after := _, guard := some (13, false) }) (v := ?_) rfl (by kernel_rfl) (by kernel_rfl) (by kernel_rfl) (fun _ _ _ h => h) (Or.inl ⟨by rfl, ?_⟩) (by assumption) ?_
          rotate_left
          · intro w hSw; (try dsimp only at hSw); go_simp; try with_reducible rfl
          try simp only [Act.put, List.setIfInBounds_toArray, List.set_cons_zero, List.set_cons_succ]
          refine wpAnyH_take (i := 16) (oi := { dst := some 43, op := Op.binOp BinOp.eql 3 (Operand.tmp 42) (Operand.const (Value.int IntKind.i64 8)) 3, type := _, pos := _, after := _, guard := some (13, false) }) (v := ?_) rfl (by kernel_rfl) (by kernel_rfl) (by kernel_rfl) (fun _ _ _ h => h) (Or.inl ⟨by rfl, ?_⟩) (by assumption) ?_
          rotate_left
          · intro w hSw; (try dsimp only at hSw); go_simp; try with_reducible rfl
          try simp only [Act.put, List.setIfInBounds_toArray, List.set_cons_zero, List.set_cons_succ]
          refine wpAnyH_take (i := 17) (oi := { dst := some 44, op := Op.pick (Operand.tmp 40) (Operand.const (Value.bool true)) (Operand.tmp 43), type := _, pos := _, after := _, guard := none }) (v := ?_) rfl (by kernel_rfl) (by kernel_rfl) (by kernel_rfl) (fun _ _ _ h => h) (Or.inl ⟨by rfl, ?_⟩) (by assumption) ?_
          rotate_left
          · intro w hSw; (try dsimp only at hSw); go_simp; try with_reducible rfl
          try simp only [Act.put, List.setIfInBounds_toArray, List.set_cons_zero, List.set_cons_succ]
          refine wpAnyH_take (i := 18) (oi := { dst := some 45, op := Op.move (Operand.tmp 44), type := _, pos := _, after := _, guard := none }) (v := ?_) rfl (by kernel_rfl) (by kernel_rfl) (by kernel_rfl) (fun _ _ _ h => h) (Or.inl ⟨by rfl, ?_⟩) (by assumption) ?_
          rotate_left
          · intro w hSw; (try dsimp only at hSw); go_simp; try with_reducible rfl
          try simp only [Act.put, List.setIfInBounds_toArray, List.set_cons_zero, List.set_cons_succ]
          refine wpAnyH_take (i := 19) (oi := { dst := some 46, op := Op.fieldAddr 51 (Operand.tmp 2) 0, type := _, pos := _, after := _, guard := some (18, false) }) (v := undef) rfl (by kernel_rfl) (by kernel_rfl) (by kernel_rfl) (fun _ _ _ h => h) (Or.inr ⟨by rfl, rfl⟩) (by assumption) ?_
          try simp only [Act.put, List.setIfInBounds_toArray, List.set_cons_zero, List.set_cons_succ]
          refine wpAnyH_take (i := 20) (oi := { dst := some 47, op := Op.load 3 (Operand.tmp 46), type := _, pos := _, after := _, guard := some (18, false) }) (v := undef) rfl (by kernel_rfl) (by kernel_rfl) (by kernel_rfl) (fun _ _ _ h => h) (Or.inr ⟨by rfl, rfl⟩) (by assumption) ?_
          try simp only [Act.put, List.setIfInBounds_toArray, List.set_cons_zero, List.set_cons_succ]
          refine wpAnyH_take (i := 21) (oi := { dst := some 48, op := Op.binOp BinOp.eql 3 (Operand.tmp 47) (Operand.const (Value.int IntKind.i64 9)) 3, type := _, pos := _, after := _, guard := some (18, false) }) (v := undef) rfl (by kernel_rfl) (by kernel_rfl) (by kernel_rfl) (fun _ _ _ h => h) (Or.inr ⟨by rfl, rfl⟩) (by assumption) ?_
          try simp only [Act.put, List.setIfInBounds_toArray, List.set_cons_zero, List.set_cons_succ]
          refine wpAnyH_take (i := 22) (oi := { dst := some 49, op := Op.pick (Operand.tmp 45) (Operand.const (Value.bool true)) (Operand.tmp 48), type := _, pos := _, after := _, guard := none }) (v := ?_) rfl (by kernel_rfl) (by kernel_rfl) (by kernel_rfl) (fun _ _ _ h => h) (Or.inl ⟨by rfl, ?_⟩) (by assumption) ?_
          rotate_left
          · intro w hSw; (try dsimp only at hSw); go_simp; try with_reducible rfl
          try simp only [Act.put, List.setIfInBounds_toArray, List.set_cons_zero, List.set_cons_succ]
          refine wpAnyH_take (i := 23) (oi := { dst := some 50, op := Op.indexAddr 28 (Operand.tmp 30) (Operand.tmp 31), type := _, pos := _, after := _, guard := none }) (v := ?_) rfl (by kernel_rfl) (by kernel_rfl) (by kernel_rfl) (fun _ _ _ h => h) (Or.inl ⟨by rfl, ?_⟩) (by assumption) ?_
          rotate_left
          · intro w hSw; (try dsimp only at hSw); go_simp; try with_reducible rfl
          try simp only [Act.put, List.setIfInBounds_toArray, List.set_cons_zero, List.set_cons_succ]
          refine wpAnyH_ready (rs := [24]) (by kernel_rfl) (by simp) ?_
          refine AllReadyH.cons (o := { dst := none, op := Op.store 4 (Operand.tmp 50) (Operand.tmp 49), type := _, pos := _, after := _, guard := none }) rfl (fun K hK => ?_) AllReadyH.nil
          go_simp
          refine hK.out _ _ (by exact HSN.out) (fun hHeld => ?_)
          clear hK K
          try simp only [Act.put, List.setIfInBounds_toArray, List.set_cons_zero, List.set_cons_succ]
          refine wpAnyH_done (by kernel_rfl) ?_ _
          all_goals
            obtain ⟨k0, k1, k2, -⟩ := slot3 (HXD.out true)
            go_wp2_with fail
            all_goals
              go_roundw
              case rel => exact ⟨i + 1, by omega, by go_num, HD, hid (HXD.out true), hid (HWD.out true)⟩
              case measure => simp [intOf]; omega
        have b4 := ieq_false h4
        have b6 := ieq_false h6
        have b8 := ieq_false h8
        obtain ⟨v, hv⟩ : ∃ v, v = (kd == 9) := ⟨_, rfl⟩
        have bv := hv.symm
        have HDG := hid (show diagB kd = v by unfold diagB; rw [b4, b6, b8, bv]; rfl)
        have HSN := hid (HSV.out v)
        have h48 := h4
        clear hv h4 h6 h8
        by_cases hi1 : i + 1 < n
        · have hi1I : (i : Int) + 1 < (n : Int) := by omega
          by_cases hk4 : kd < 4
          · have bk4 := ilt_true hk4
            obtain ⟨w3, hw3⟩ : ∃ w3, w3 = (W1.setCell ⟨r, i, none⟩ (.bool v)).drew := ⟨_, rfl⟩
            have HR3 := hid (show OutRow w3 g n i r (baseF kd cl marks) (fun j => if j = i then v else false) by rw [hw3]; exact HSD.out v)
            have HX3 := hid (show w3.heap[q]? = some (.cells #[.int .i64 kd, .int .i64 cl, .slice A l.length c] 51 (0, 0)) by rw [hw3]; exact HXD.out v)
            have HW3 := hid (show Below q w w3 by rw [hw3]; exact HWD.out v)
            obtain ⟨bm, om, cm', hem, -, hbm, hcm⟩ := HMw.out.at (j := i) (by have := HN.out; omega)
            obtain ⟨rfl, -⟩ : M = some ⟨bm, om, none⟩ ∧ True := by simpa using (show M = some ⟨bm, om, none⟩ by injection hem)
            obtain ⟨mz, hmz⟩ : ∃ mz, mz = nth marks i := ⟨_, rfl⟩
            have HMZ := hid (show marks[i]? = some mz by rw [hmz]; exact some_nth (by have := HN.out; omega))
            rw [← hmz] at hcm
            have HBM := hid (show bm ≠ r by have := HRW.out; omega)
            have hcm3 : w3.cell? ⟨bm, om + i, none⟩ = some (.int .i64 mz) := (cell_same ((show Below w.heap.size w w3 by rw [← HQ.out]; exact HW3.out).block bm hbm)).trans hcm
            obtain ⟨k0, k1, k2, -⟩ := slot3 HX3.out
            have HS2 := hid (And.intro HR3.out.rowCell (And.intro k0 (And.intro k1 (And.intro k2 hcm3))))
            have him : i < m := by have := HN1.out; omega
            have hwr : IntKind.i64.wrap ((i : Int) + 1) = (i : Int) + 1 := by rw [IntKind.wrap_i64]; omega
            have h0i : 0 ≤ (i : Int) + 1 := by omega
            have hti : ((i : Int) + 1).toNat = i + 1 := by omega
            clear hem hbm hcm hmz
            go_wp2_with fail
            refine wp_region_held_drew (S := (fun Y => Y.cell? ⟨g, i, none⟩ = some (.slice (some ⟨r, 0, none⟩) n n) ∧ Y.cell? ⟨q, 0, none⟩ = some (.int .i64 kd))) (by kernel_rfl) (by exact HS.out) (fun hHeld => ?_)
            refine wpAnyH_take (i := 0) (oi := { dst := some 27, op := Op.move (Operand.tmp 6), type := _, pos := _, after := _, guard := none }) (v := ?_) rfl (by kernel_rfl) (by kernel_rfl) (by kernel_rfl) (fun _ _ _ h => h) (Or.inl ⟨by rfl, ?_⟩) (by assumption) ?_
            rotate_left
            · intro w hSw; (try dsimp only at hSw); go_simp; try with_reducible rfl
            try simp only [Act.put, List.setIfInBounds_toArray, List.set_cons_zero, List.set_cons_succ]
            refine wpAnyH_take (i := 1) (oi := { dst := some 28, op := Op.move (Operand.tmp 7), type := _, pos := _, after := _, guard := none }) (v := ?_) rfl (by kernel_rfl) (by kernel_rfl) (by kernel_rfl) (fun _ _ _ h => h) (Or.inl ⟨by rfl, ?_⟩) (by assumption) ?_
            rotate_left
            · intro w hSw; (try dsimp only at hSw); go_simp; try with_reducible rfl
            try simp only [Act.put, List.setIfInBounds_toArray, List.set_cons_zero, List.set_cons_succ]
            refine wpAnyH_take (i := 2) (oi := { dst := some 29, op := Op.indexAddr 78 (Operand.tmp 27) (Operand.tmp 28), type := _, pos := _, after := _, guard := none }) (v := ?_) rfl (by kernel_rfl) (by kernel_rfl) (by kernel_rfl) (fun _ _ _ h => h) (Or.inl ⟨by rfl, ?_⟩) (by assumption) ?_
            rotate_left
            · intro w hSw; (try dsimp only at hSw); go_simp; try with_reducible rfl
            try simp only [Act.put, List.setIfInBounds_toArray, List.set_cons_zero, List.set_cons_succ]
            refine wpAnyH_take (i := 3) (oi := { dst := some 30, op := Op.load 28 (Operand.tmp 29), type := _, pos := _, after := _, guard := none }) (v := ?_) rfl (by kernel_rfl) (by kernel_rfl) (by kernel_rfl) (fun _ _ _ h => h) (Or.inl ⟨by rfl, ?_⟩) (by assumption) ?_
            rotate_left
            · intro w hSw; (try dsimp only at hSw); go_simp; try with_reducible rfl
            try simp only [Act.put, List.setIfInBounds_toArray, List.set_cons_zero, List.set_cons_succ]
            refine wpAnyH_take (i := 4) (oi := { dst := some 31, op := Op.move (Operand.tmp 7), type := _, pos := _, after := _, guard := none }) (v := ?_) rfl (by kernel_rfl) (by kernel_rfl) (by kernel_rfl) (fun _ _ _ h => h) (Or.inl ⟨by rfl, ?_⟩) (by assumption) ?_
            rotate_left
            · intro w hSw; (try dsimp only at hSw); go_simp; try with_reducible rfl
            try simp only [Act.put, List.setIfInBounds_toArray, List.set_cons_zero, List.set_cons_succ]
            refine wpAnyH_take (i := 5) (oi := { dst := some 32, op := Op.fieldAddr 51 (Operand.tmp 2) 0, type := _, pos := _, after := _, guard := none }) (v := ?_) rfl (by kernel_rfl) (by kernel_rfl) (by kernel_rfl) (fun _ _ _ h => h) (Or.inl ⟨by rfl, ?_⟩) (by assumption) ?_
            rotate_left
            · intro w hSw; (try dsimp only at hSw); go_simp; try with_reducible rfl
            try simp only [Act.put, List.setIfInBounds_toArray, List.set_cons_zero, List.set_cons_succ]
            refine wpAnyH_take (i := 6) (oi := { dst := some 33, op := Op.load 3 (Operand.tmp 32), type := _, pos := _, after := _, guard := none }) (v := ?_) rfl (by kernel_rfl) (by kernel_rfl) (by kernel_rfl) (fun _ _ _ h => h) (Or.inl ⟨by rfl, ?_⟩) (by assumption) ?_
            rotate_left
            · intro w hSw; (try dsimp only at hSw); go_simp; try with_reducible rfl
            try simp only [Act.put, List.setIfInBounds_toArray, List.set_cons_zero, List.set_cons_succ]
            refine wpAnyH_take (i := 7) (oi := { dst := some 34, op := Op.binOp BinOp.eql 3 (Operand.tmp 33) (Operand.const (Value.int IntKind.i64 4)) 3, type := _, pos := _, after := _, guard := none }) (v := ?_) rfl (by kernel_rfl) (by kernel_rfl) (by kernel_rfl) (fun _ _ _ h => h) (Or.inl ⟨by rfl, ?_⟩) (by assumption) ?_
            rotate_left
            · intro w hSw; (try dsimp only at hSw); go_simp; try with_reducible rfl
            try simp only [Act.put, List.setIfInBounds_toArray, List.set_cons_zero, List.set_cons_succ]
            refine wpAnyH_take (i := 8) (oi := { dst := some 35, op := Op.move (Operand.tmp 34), type := _, pos := _, after := _, guard := none }) (v := ?_) rfl (by kernel_rfl) (by kernel_rfl) (by kernel_rfl) (fun _ _ _ h => h) (Or.inl ⟨by rfl, ?_⟩) (by assumption) ?_
            rotate_left
            · intro w hSw; (try dsimp only at hSw); go_simp; try with_reducible rfl
            try simp only [Act.put, List.setIfInBounds_toArray, List.set_cons_zero, List.set_cons_succ]
            refine wpAnyH_take (i := 9) (oi := { dst := some 36, op := Op.fieldAddr 51 (Operand.tmp 2) 0, type := _, pos := _, after := _, guard := some (8, false) }) (v := ?_) rfl (by kernel_rfl) (by kernel_rfl) (by kernel_rfl) (fun _ _ _ h => h) (Or.inl ⟨by rfl, ?_⟩) (by assumption) ?_
            rotate_left
            · intro w hSw; (try dsimp only at hSw); go_simp; try with_reducible rfl
            try simp only [Act.put, List.setIfInBounds_toArray, List.set_cons_zero, List.set_cons_succ]
            refine wpAnyH_take (i := 10) (oi := { dst := some 37, op := Op.load 3 (Operand.tmp 36), type := _, pos := _, after := _, guard := some (8, false) }) (v := ?_) rfl (by kernel_rfl) (by kernel_rfl) (by kernel_rfl) (fun _ _ _ h => h) (Or.inl ⟨by rfl, ?_⟩) (by assumption) ?_
            rotate_left
            · intro w hSw; (try dsimp only at hSw); go_simp; try with_reducible rfl
            try simp only [Act.put, List.setIfInBounds_toArray, List.set_cons_zero, List.set_cons_succ]
            refine wpAnyH_take (i := 11) (oi := { dst := some 38, op := Op.binOp BinOp.eql 3 (Operand.tmp 37) (Operand.const (Value.int IntKind.i64 6)) 3, type := _, pos := _, after := _, guard := some (8, false) }) (v := ?_) rfl (by kernel_rfl) (by kernel_rfl) (by kernel_rfl) (fun _ _ _ h => h) (Or.inl ⟨by rfl, ?_⟩) (by assumption) ?_
            rotate_left
            · intro w hSw; (try dsimp only at hSw); go_simp; try with_reducible rfl
            try simp only [Act.put, List.setIfInBounds_toArray, List.set_cons_zero, List.set_cons_succ]
            refine wpAnyH_take (i := 12) (oi := { dst := some 39, op := Op.pick (Operand.tmp 35) (Operand.const (Value.bool true)) (Operand.tmp 38), type := _, pos := _, after := _, guard := none }) (v := ?_) rfl (by kernel_rfl) (by kernel_rfl) (by kernel_rfl) (fun _ _ _ h => h) (Or.inl ⟨by rfl, ?_⟩) (by assumption) ?_
            rotate_left
            · intro w hSw; (try dsimp only at hSw); go_simp; try with_reducible rfl
            try simp only [Act.put, List.setIfInBounds_toArray, List.set_cons_zero, List.set_cons_succ]
            refine wpAnyH_take (i := 13) (oi := { dst := some 40, op := Op.move (Operand.tmp 39), type := _, pos := _, after := _, guard := none }) (v := ?_) rfl (by kernel_rfl) (by kernel_rfl) (by kernel_rfl) (fun _ _ _ h => h) (Or.inl ⟨by rfl, ?_⟩) (by assumption) ?_
            rotate_left
            · intro w hSw; (try dsimp only at hSw); go_simp; try with_reducible rfl
            try simp only [Act.put, List.setIfInBounds_toArray, List.set_cons_zero, List.set_cons_succ]
            refine wpAnyH_take (i := 14) (oi := { dst := some 41, op := Op.fieldAddr 51 (Operand.tmp 2) 0, type := _, pos := _, after := _, guard := some (13, false) }) (v := ?_) rfl (by kernel_rfl) (by kernel_rfl) (by kernel_rfl) (fun _ _ _ h => h) (Or.inl ⟨by rfl, ?_⟩) (by assumption) ?_
            rotate_left
            · intro w hSw; (try dsimp only at hSw); go_simp; try with_reducible rfl
            try simp only [Act.put, List.setIfInBounds_toArray, List.set_cons_zero, List.set_cons_succ]
            refine wpAnyH_take (i := 15) (oi := { dst := some 42, op := Op.load 3 (Operand.tmp 41), type := _, pos := _, after := _, guard := some (13, false) }) (v := ?_) rfl (by kernel_rfl) (by kernel_rfl) (by kernel_rfl) (fun _ _ _ h => h) (Or.inl ⟨by rfl, ?_⟩) (by assumption) ?_
            rotate_left
            · intro w hSw; (try dsimp only at hSw); go_simp; try with_reducible rfl
            try simp only [Act.put, List.setIfInBounds_toArray, List.set_cons_zero, List.set_cons_succ]
            refine wpAnyH_take (i := 16) (oi := { dst := some 43, op := Op.binOp BinOp.eql 3 (Operand.tmp 42) (Operand.const (Value.int IntKind.i64 8)) 3, type := _, pos := _, after := _, guard := some (13, false) }) (v := ?_) rfl (by kernel_rfl) (by kernel_rfl) (by kernel_rfl) (fun _ _ _ h => h) (Or.inl ⟨by rfl, ?_⟩) (by assumption) ?_
            rotate_left
            · intro w hSw; (try dsimp only at hSw); go_simp; try with_reducible rfl
            try simp only [Act.put, List.setIfInBounds_toArray, List.set_cons_zero, List.set_cons_succ]
            refine wpAnyH_take (i := 17) (oi := { dst := some 44, op := Op.pick (Operand.tmp 40) (Operand.const (Value.bool true)) (Operand.tmp 43), type := _, pos := _, after := _, guard := none }) (v := ?_) rfl (by kernel_rfl) (by kernel_rfl) (by kernel_rfl) (fun _ _ _ h => h) (Or.inl ⟨by rfl, ?_⟩) (by assumption) ?_
            rotate_left
            · intro w hSw; (try dsimp only at hSw); go_simp; try with_reducible rfl
            try simp only [Act.put, List.setIfInBounds_toArray, List.set_cons_zero, List.set_cons_succ]
            refine wpAnyH_take (i := 18) (oi := { dst := some 45, op := Op.move (Operand.tmp 44), type := _, pos := _, after := _, guard := none }) (v := ?_) rfl (by kernel_rfl) (by kernel_rfl) (by kernel_rfl) (fun _ _ _ h => h) (Or.inl ⟨by rfl, ?_⟩) (by assumption) ?_
            rotate_left
            · intro w hSw; (try dsimp only at hSw); go_simp; try with_reducible rfl
            try simp only [Act.put, List.setIfInBounds_toArray, List.set_cons_zero, List.set_cons_succ]
            refine wpAnyH_take (i := 19) (oi := { dst := some 46, op := Op.fieldAddr 51 (Operand.tmp 2) 0, type := _, pos := _, after := _, guard := some (18, false) }) (v := ?_) rfl (by kernel_rfl) (by kernel_rfl) (by kernel_rfl) (fun _ _ _ h => h) (Or.inl ⟨by rfl, ?_⟩) (by assumption) ?_
            rotate_left
            · intro w hSw; (try dsimp only at hSw); go_simp; try with_reducible rfl
            try simp only [Act.put, List.setIfInBounds_toArray, List.set_cons_zero, List.set_cons_succ]
            refine wpAnyH_take (i := 20) (oi := { dst := some 47, op := Op.load 3 (Operand.tmp 46), type := _, pos := _, after := _, guard := some (18, false) }) (v := ?_) rfl (by kernel_rfl) (by kernel_rfl) (by kernel_rfl) (fun _ _ _ h => h) (Or.inl ⟨by rfl, ?_⟩) (by assumption) ?_
            rotate_left
            · intro w hSw; (try dsimp only at hSw); go_simp; try with_reducible rfl
            try simp only [Act.put, List.setIfInBounds_toArray, List.set_cons_zero, List.set_cons_succ]
            refine wpAnyH_take (i := 21) (oi := { dst := some 48, op := Op.binOp BinOp.eql 3 (Operand.tmp 47) (Operand.const (Value.int IntKind.i64 9)) 3, type := _, pos := _, after := _, guard := some (18, false) }) (v := ?_) rfl (by kernel_rfl) (by kernel_rfl) (by kernel_rfl) (fun _ _ _ h => h) (Or.inl ⟨by rfl, ?_⟩) (by assumption) ?_
            rotate_left
            · intro w hSw; (try dsimp only at hSw); go_simp; try with_reducible rfl
            try simp only [Act.put, List.setIfInBounds_toArray, List.set_cons_zero, List.set_cons_succ]
            refine wpAnyH_take (i := 22) (oi := { dst := some 49, op := Op.pick (Operand.tmp 45) (Operand.const (Value.bool true)) (Operand.tmp 48), type := _, pos := _, after := _, guard := none }) (v := ?_) rfl (by kernel_rfl) (by kernel_rfl) (by kernel_rfl) (fun _ _ _ h => h) (Or.inl ⟨by rfl, ?_⟩) (by assumption) ?_
            rotate_left
            · intro w hSw; (try dsimp only at hSw); go_simp; try with_reducible rfl
            try simp only [Act.put, List.setIfInBounds_toArray, List.set_cons_zero, List.set_cons_succ]
            refine wpAnyH_take (i := 23) (oi := { dst := some 50, op := Op.indexAddr 28 (Operand.tmp 30) (Operand.tmp 31), type := _, pos := _, after := _, guard := none }) (v := ?_) rfl (by kernel_rfl) (by kernel_rfl) (by kernel_rfl) (fun _ _ _ h => h) (Or.inl ⟨by rfl, ?_⟩) (by assumption) ?_
            rotate_left
            · intro w hSw; (try dsimp only at hSw); go_simp; try with_reducible rfl
            try simp only [Act.put, List.setIfInBounds_toArray, List.set_cons_zero, List.set_cons_succ]
            refine wpAnyH_ready (rs := [24]) (by kernel_rfl) (by simp) ?_
            refine AllReadyH.cons (o := { dst := none, op := Op.store 4 (Operand.tmp 50) (Operand.tmp 49), type := _, pos := _, after := _, guard := none }) rfl (fun K hK => ?_) AllReadyH.nil
            go_simp
            refine hK.out _ _ (by exact HSN.out) (fun hHeld => ?_)
            clear hK K
            try simp only [Act.put, List.setIfInBounds_toArray, List.set_cons_zero, List.set_cons_succ]
            refine wpAnyH_done (by kernel_rfl) ?_ _
            all_goals
              go_wp2_with fail
              rw [← hw3]
              clear hw3
              refine wp_region_held_drew (S := (fun Y => Y.cell? ⟨g, i, none⟩ = some (.slice (some ⟨r, 0, none⟩) n n) ∧ Y.cell? ⟨q, 0, none⟩ = some (.int .i64 kd) ∧ Y.cell? ⟨q, 1, none⟩ = some (.int .i64 cl) ∧ Y.cell? ⟨q, 2, none⟩ = some (.slice A l.length c) ∧ Y.cell? ⟨bm, om + i, none⟩ = some (.int .i64 mz))) (by kernel_rfl) (by exact HS2.out) (fun hHeld => ?_)
              refine wpAnyH_take (i := 0) (oi := { dst := some 60, op := Op.move (Operand.tmp 6), type := _, pos := _, after := _, guard := none }) (v := ?_) rfl (by kernel_rfl) (by kernel_rfl) (by kernel_rfl) (fun _ _ _ h => h) (Or.inl ⟨by rfl, ?_⟩) (by assumption) ?_
              rotate_left
              · intro w hSw; (try dsimp only at hSw); go_simp; try with_reducible rfl
              try simp only [Act.put, List.setIfInBounds_toArray, List.set_cons_zero, List.set_cons_succ]
              refine wpAnyH_take (i := 1) (oi := { dst := some 61, op := Op.move (Operand.tmp 7), type := _, pos := _, after := _, guard := none }) (v := ?_) rfl (by kernel_rfl) (by kernel_rfl) (by kernel_rfl) (fun _ _ _ h => h) (Or.inl ⟨by rfl, ?_⟩) (by assumption) ?_
              rotate_left
              · intro w hSw; (try dsimp only at hSw); go_simp; try with_reducible rfl
              try simp only [Act.put, List.setIfInBounds_toArray, List.set_cons_zero, List.set_cons_succ]
              refine wpAnyH_take (i := 2) (oi := { dst := some 62, op := Op.indexAddr 78 (Operand.tmp 60) (Operand.tmp 61), type := _, pos := _, after := _, guard := none }) (v := ?_) rfl (by kernel_rfl) (by kernel_rfl) (by kernel_rfl) (fun _ _ _ h => h) (Or.inl ⟨by rfl, ?_⟩) (by assumption) ?_
              rotate_left
              · intro w hSw; (try dsimp only at hSw); go_simp; try with_reducible rfl
              try simp only [Act.put, List.setIfInBounds_toArray, List.set_cons_zero, List.set_cons_succ]
              refine wpAnyH_take (i := 3) (oi := { dst := some 63, op := Op.load 28 (Operand.tmp 62), type := _, pos := _, after := _, guard := none }) (v := ?_) rfl (by kernel_rfl) (by kernel_rfl) (by kernel_rfl) (fun _ _ _ h => h) (Or.inl ⟨by rfl, ?_⟩) (by assumption) ?_
              rotate_left
              · intro w hSw; (try dsimp only at hSw); go_simp; try with_reducible rfl
              try simp only [Act.put, List.setIfInBounds_toArray, List.set_cons_zero, List.set_cons_succ]
              refine wpAnyH_take (i := 4) (oi := { dst := some 64, op := Op.move (Operand.tmp 7), type := _, pos := _, after := _, guard := none }) (v := ?_) rfl (by kernel_rfl) (by kernel_rfl) (by kernel_rfl) (fun _ _ _ h => h) (Or.inl ⟨by rfl, ?_⟩) (by assumption) ?_
              rotate_left
              · intro w hSw; (try dsimp only at hSw); go_simp; try with_reducible rfl
              try simp only [Act.put, List.setIfInBounds_toArray, List.set_cons_zero, List.set_cons_succ]
              refine wpAnyH_take (i := 5) (oi := { dst := some 65, op := Op.binOp BinOp.add 3 (Operand.tmp 64) (Operand.const (Value.int IntKind.i64 1)) 3, type := _, pos := _, after := _, guard := none }) (v := ?_) rfl (by kernel_rfl) (by kernel_rfl) (by kernel_rfl) (fun _ _ _ h => h) (Or.inl ⟨by rfl, ?_⟩) (by assumption) ?_
              rotate_left
              · intro w hSw; (try dsimp only at hSw); go_simp; try with_reducible rfl
              try simp only [Act.put, List.setIfInBounds_toArray, List.set_cons_zero, List.set_cons_succ]
              refine wpAnyH_take (i := 6) (oi := { dst := some 66, op := Op.load 51 (Operand.tmp 2), type := _, pos := _, after := _, guard := none }) (v := ?_) rfl (by kernel_rfl) (by kernel_rfl) (by kernel_rfl) (fun _ _ _ h => h) (Or.inl ⟨by rfl, ?_⟩) (by assumption) ?_
              rotate_left
              · intro w hSw; (try dsimp only at hSw); go_simp; try with_reducible rfl
              try simp only [Act.put, List.setIfInBounds_toArray, List.set_cons_zero, List.set_cons_succ]
              refine wpAnyH_take (i := 7) (oi := { dst := some 67, op := Op.move (Operand.tmp 1), type := _, pos := _, after := _, guard := none }) (v := ?_) rfl (by kernel_rfl) (by kernel_rfl) (by kernel_rfl) (fun _ _ _ h => h) (Or.inl ⟨by rfl, ?_⟩) (by assumption) ?_
              rotate_left
              · intro w hSw; (try dsimp only at hSw); go_simp; try with_reducible rfl
              try simp only [Act.put, List.setIfInBounds_toArray, List.set_cons_zero, List.set_cons_succ]
              refine wpAnyH_take (i := 8) (oi := { dst := some 68, op := Op.move (Operand.tmp 7), type := _, pos := _, after := _, guard := none }) (v := ?_) rfl (by kernel_rfl) (by kernel_rfl) (by kernel_rfl) (fun _ _ _ h => h) (Or.inl ⟨by rfl, ?_⟩) (by assumption) ?_
              rotate_left
              · intro w hSw; (try dsimp only at hSw); go_simp; try with_reducible rfl
              try simp only [Act.put, List.setIfInBounds_toArray, List.set_cons_zero, List.set_cons_succ]
              refine wpAnyH_take (i := 9) (oi := { dst := some 69, op := Op.indexAddr 22 (Operand.tmp 67) (Operand.tmp 68), type := _, pos := _, after := _, guard := none }) (v := ?_) rfl (by kernel_rfl) (by kernel_rfl) (by kernel_rfl) (fun _ _ _ h => h) (Or.inl ⟨by rfl, ?_⟩) (by assumption) ?_
              rotate_left
              · intro w hSw; (try dsimp only at hSw); go_simp; try with_reducible rfl
              try simp only [Act.put, List.setIfInBounds_toArray, List.set_cons_zero, List.set_cons_succ]
              refine wpAnyH_take (i := 10) (oi := { dst := some 70, op := Op.load 3 (Operand.tmp 69), type := _, pos := _, after := _, guard := none }) (v := ?_) rfl (by kernel_rfl) (by kernel_rfl) (by kernel_rfl) (fun _ _ _ h => h) (Or.inl ⟨by rfl, ?_⟩) (by assumption) ?_
              rotate_left
              · intro w hSw; (try dsimp only at hSw); go_simp; try with_reducible rfl
              try simp only [Act.put, List.setIfInBounds_toArray, List.set_cons_zero, List.set_cons_succ]
              refine wpAnyH_ready (rs := [11]) (by kernel_rfl) (by simp) ?_
              refine AllReadyH.cons (o := { dst := some 71, op := Op.call { callee := Callee.value (Operand.func 68), args := #[Operand.tmp 66, Operand.tmp 70], argTypes := #[51, 3] }, type := _, pos := _, after := _, guard := none }) rfl (fun K hK => ?_) AllReadyH.nil
              go_simp
              refine (one_any kd cl mz A l.length c _).mono ?_; rintro e w4 ⟨rfl, hb4⟩; have HB4 := hid ((Below.refl w3.heap.size w3).drew.trans hb4); clear hb4; have HR4 := hid (HR3.out.keep (w' := w4) (fun b hb => HB4.out.block b hb)); obtain ⟨hc4, hf4⟩ := HR4.out.cell hi1; obtain ⟨y4, hy4⟩ : ∃ y, y = (if i + 1 = i then v else false) := ⟨_, rfl⟩; rw [← hy4] at hc4; clear hy4; have HSM := hid (And.intro (cell_later HB4.out HS2.out.1) (And.intro (cell_later HB4.out HS2.out.2.1) (And.intro (cell_later HB4.out HS2.out.2.2.1) (And.intro (cell_later HB4.out HS2.out.2.2.2.1) (cell_later HB4.out HS2.out.2.2.2.2))))); go_wp2_with fail
              refine hK.out _ _ (by exact HSM.out) (fun hHeld => ?_)
              clear hK K
              try simp only [Act.put, List.setIfInBounds_toArray, List.set_cons_zero, List.set_cons_succ]
              refine wpAnyH_take (i := 12) (oi := { dst := some 72, op := Op.indexAddr 28 (Operand.tmp 63) (Operand.tmp 65), type := _, pos := _, after := _, guard := none }) (v := ?_) rfl (by kernel_rfl) (by kernel_rfl) (by kernel_rfl) (fun _ _ _ h => h) (Or.inl ⟨by rfl, ?_⟩) (by assumption) ?_
              rotate_left
              · intro w hSw; (try dsimp only at hSw); go_simp; try with_reducible rfl
              try simp only [Act.put, List.setIfInBounds_toArray, List.set_cons_zero, List.set_cons_succ]
              refine wpAnyH_ready (rs := [13]) (by kernel_rfl) (by simp) ?_
              refine AllReadyH.cons (o := { dst := none, op := Op.store 4 (Operand.tmp 72) (Operand.tmp 71), type := _, pos := _, after := _, guard := none }) rfl (fun K hK => ?_) AllReadyH.nil
              go_simp
              refine hK.out _ _ (by exact ⟨(cell_set_other (.inl HNE.out.1)).trans HSM.out.1, (cell_set_other (.inl HNE.out.2)).trans HSM.out.2.1, (cell_set_other (.inl HNE.out.2)).trans HSM.out.2.2.1, (cell_set_other (.inl HNE.out.2)).trans HSM.out.2.2.2.1, (cell_set_other (.inl HBM.out)).trans HSM.out.2.2.2.2⟩) (fun hHeld => ?_)
              clear hK K
              try simp only [Act.put, List.setIfInBounds_toArray, List.set_cons_zero, List.set_cons_succ]
              refine wpAnyH_done (by kernel_rfl) ?_ _
              all_goals
                have HRF := hid ((OutRow.set HR4.out (i + 1) (takesT kd cl mz)).done fun j hj => by rw [← HDG.out]; exact base_row2 hk4 HMZ.out)
                have HXF := hid (show (w4.setCell ⟨r, i + 1, none⟩ (.bool (takesT kd cl mz))).heap[q]? = some (.cells #[.int .i64 kd, .int .i64 cl, .slice A l.length c] 51 (0, 0)) from (heap_setCell_other _ _ _ _ HNE.out.2).trans ((HB4.out.block q (Array.getElem?_eq_some_iff.1 HX3.out).1).trans HX3.out))
                have HWF := hid (show Below q w (w4.setCell ⟨r, i + 1, none⟩ (.bool (takesT kd cl mz))) from (HW3.out.trans (HB4.out.mono (by have := (Array.getElem?_eq_some_iff.1 HX3.out).1; omega))).setCell (p := ⟨r, i + 1, none⟩) (by have := HRW.out; show q ≤ r; omega) _)
                clear hc4 hf4
                go_wp2_with fail
                go_roundw
                case rel => exact ⟨i + 1, by omega, by go_num, HRF, HXF, HWF⟩
                case measure => simp [intOf]; omega
          · have bk4 := ilt_false hk4
            have HD := hid ((HSD.out v).done fun j hj => by rw [← HDG.out]; exact base_row1 HN.out (.inl hk4) hj)
            clear hk4
            go_wp2_with fail
            refine wp_region_held_drew (S := (fun Y => Y.cell? ⟨g, i, none⟩ = some (.slice (some ⟨r, 0, none⟩) n n) ∧ Y.cell? ⟨q, 0, none⟩ = some (.int .i64 kd))) (by kernel_rfl) (by exact HS.out) (fun hHeld => ?_)
            refine wpAnyH_take (i := 0) (oi := { dst := some 27, op := Op.move (Operand.tmp 6), type := _, pos := _, after := _, guard := none }) (v := ?_) rfl (by kernel_rfl) (by kernel_rfl) (by kernel_rfl) (fun _ _ _ h => h) (Or.inl ⟨by rfl, ?_⟩) (by assumption) ?_
            rotate_left
            · intro w hSw; (try dsimp only at hSw); go_simp; try with_reducible rfl
            try simp only [Act.put, List.setIfInBounds_toArray, List.set_cons_zero, List.set_cons_succ]
            refine wpAnyH_take (i := 1) (oi := { dst := some 28, op := Op.move (Operand.tmp 7), type := _, pos := _, after := _, guard := none }) (v := ?_) rfl (by kernel_rfl) (by kernel_rfl) (by kernel_rfl) (fun _ _ _ h => h) (Or.inl ⟨by rfl, ?_⟩) (by assumption) ?_
            rotate_left
            · intro w hSw; (try dsimp only at hSw); go_simp; try with_reducible rfl
            try simp only [Act.put, List.setIfInBounds_toArray, List.set_cons_zero, List.set_cons_succ]
            refine wpAnyH_take (i := 2) (oi := { dst := some 29, op := Op.indexAddr 78 (Operand.tmp 27) (Operand.tmp 28), type := _, pos := _, after := _, guard := none }) (v := ?_) rfl (by kernel_rfl) (by kernel_rfl) (by kernel_rfl) (fun _ _ _ h => h) (Or.inl ⟨by rfl, ?_⟩) (by assumption) ?_
            rotate_left
            · intro w hSw; (try dsimp only at hSw); go_simp; try with_reducible rfl
            try simp only [Act.put, List.setIfInBounds_toArray, List.set_cons_zero, List.set_cons_succ]
            refine wpAnyH_take (i := 3) (oi := { dst := some 30, op := Op.load 28 (Operand.tmp 29), type := _, pos := _, after := _, guard := none }) (v := ?_) rfl (by kernel_rfl) (by kernel_rfl) (by kernel_rfl) (fun _ _ _ h => h) (Or.inl ⟨by rfl, ?_⟩) (by assumption) ?_
            rotate_left
            · intro w hSw; (try dsimp only at hSw); go_simp; try with_reducible rfl
            try simp only [Act.put, List.setIfInBounds_toArray, List.set_cons_zero, List.set_cons_succ]
            refine wpAnyH_take (i := 4) (oi := { dst := some 31, op := Op.move (Operand.tmp 7), type := _, pos := _, after := _, guard := none }) (v := ?_) rfl (by kernel_rfl) (by kernel_rfl) (by kernel_rfl) (fun _ _ _ h => h) (Or.inl ⟨by rfl, ?_⟩) (by assumption) ?_
            rotate_left
            · intro w hSw; (try dsimp only at hSw); go_simp; try with_reducible rfl
            try simp only [Act.put, List.setIfInBounds_toArray, List.set_cons_zero, List.set_cons_succ]
            refine wpAnyH_take (i := 5) (oi := { dst := some 32, op := Op.fieldAddr 51 (Operand.tmp 2) 0, type := _, pos := _, after := _, guard := none }) (v := ?_) rfl (by kernel_rfl) (by kernel_rfl) (by kernel_rfl) (fun _ _ _ h => h) (Or.inl ⟨by rfl, ?_⟩) (by assumption) ?_
            rotate_left
            · intro w hSw; (try dsimp only at hSw); go_simp; try with_reducible rfl
            try simp only [Act.put, List.setIfInBounds_toArray, List.set_cons_zero, List.set_cons_succ]
            refine wpAnyH_take (i := 6) (oi := { dst := some 33, op := Op.load 3 (Operand.tmp 32), type := _, pos := _, after := _, guard := none }) (v := ?_) rfl (by kernel_rfl) (by kernel_rfl) (by kernel_rfl) (fun _ _ _ h => h) (Or.inl ⟨by rfl, ?_⟩) (by assumption) ?_
            rotate_left
            · intro w hSw; (try dsimp only at hSw); go_simp; try with_reducible rfl
            try simp only [Act.put, List.setIfInBounds_toArray, List.set_cons_zero, List.set_cons_succ]
            refine wpAnyH_take (i := 7) (oi := { dst := some 34, op := Op.binOp BinOp.eql 3 (Operand.tmp 33) (Operand.const (Value.int IntKind.i64 4)) 3, type := _, pos := _, after := _, guard := none }) (v := ?_) rfl (by kernel_rfl) (by kernel_rfl) (by kernel_rfl) (fun _ _ _ h => h) (Or.inl ⟨by rfl, ?_⟩) (by assumption) ?_
            rotate_left
            · intro w hSw; (try dsimp only at hSw); go_simp; try with_reducible rfl
            try simp only [Act.put, List.setIfInBounds_toArray, List.set_cons_zero, List.set_cons_succ]
            refine wpAnyH_take (i := 8) (oi := { dst := some 35, op := Op.move (Operand.tmp 34), type := _, pos := _, after := _, guard := none }) (v := ?_) rfl (by kernel_rfl) (by kernel_rfl) (by kernel_rfl) (fun _ _ _ h => h) (Or.inl ⟨by rfl, ?_⟩) (by assumption) ?_
            rotate_left
            · intro w hSw; (try dsimp only at hSw); go_simp; try with_reducible rfl
            try simp only [Act.put, List.setIfInBounds_toArray, List.set_cons_zero, List.set_cons_succ]
            refine wpAnyH_take (i := 9) (oi := { dst := some 36, op := Op.fieldAddr 51 (Operand.tmp 2) 0, type := _, pos := _, after := _, guard := some (8, false) }) (v := ?_) rfl (by kernel_rfl) (by kernel_rfl) (by kernel_rfl) (fun _ _ _ h => h) (Or.inl ⟨by rfl, ?_⟩) (by assumption) ?_
            rotate_left
            · intro w hSw; (try dsimp only at hSw); go_simp; try with_reducible rfl
            try simp only [Act.put, List.setIfInBounds_toArray, List.set_cons_zero, List.set_cons_succ]
            refine wpAnyH_take (i := 10) (oi := { dst := some 37, op := Op.load 3 (Operand.tmp 36), type := _, pos := _, after := _, guard := some (8, false) }) (v := ?_) rfl (by kernel_rfl) (by kernel_rfl) (by kernel_rfl) (fun _ _ _ h => h) (Or.inl ⟨by rfl, ?_⟩) (by assumption) ?_
            rotate_left
            · intro w hSw; (try dsimp only at hSw); go_simp; try with_reducible rfl
            try simp only [Act.put, List.setIfInBounds_toArray, List.set_cons_zero, List.set_cons_succ]
            refine wpAnyH_take (i := 11) (oi := { dst := some 38, op := Op.binOp BinOp.eql 3 (Operand.tmp 37) (Operand.const (Value.int IntKind.i64 6)) 3, type := _, pos := _, after := _, guard := some (8, false) }) (v := ?_) rfl (by kernel_rfl) (by kernel_rfl) (by kernel_rfl) (fun _ _ _ h => h) (Or.inl ⟨by rfl, ?_⟩) (by assumption) ?_
            rotate_left
            · intro w hSw; (try dsimp only at hSw); go_simp; try with_reducible rfl
            try simp only [Act.put, List.setIfInBounds_toArray, List.set_cons_zero, List.set_cons_succ]
            refine wpAnyH_take (i := 12) (oi := { dst := some 39, op := Op.pick (Operand.tmp 35) (Operand.const (Value.bool true)) (Operand.tmp 38), type := _, pos := _, after := _, guard := none }) (v := ?_) rfl (by kernel_rfl) (by kernel_rfl) (by kernel_rfl) (fun _ _ _ h => h) (Or.inl ⟨by rfl, ?_⟩) (by assumption) ?_
            rotate_left
            · intro w hSw; (try dsimp only at hSw); go_simp; try with_reducible rfl
            try simp only [Act.put, List.setIfInBounds_toArray, List.set_cons_zero, List.set_cons_succ]
            refine wpAnyH_take (i := 13) (oi := { dst := some 40, op := Op.move (Operand.tmp 39), type := _, pos := _, after := _, guard := none }) (v := ?_) rfl (by kernel_rfl) (by kernel_rfl) (by kernel_rfl) (fun _ _ _ h => h) (Or.inl ⟨by rfl, ?_⟩) (by assumption) ?_
            rotate_left
            · intro w hSw; (try dsimp only at hSw); go_simp; try with_reducible rfl
            try simp only [Act.put, List.setIfInBounds_toArray, List.set_cons_zero, List.set_cons_succ]
            refine wpAnyH_take (i := 14) (oi := { dst := some 41, op := Op.fieldAddr 51 (Operand.tmp 2) 0, type := _, pos := _, after := _, guard := some (13, false) }) (v := ?_) rfl (by kernel_rfl) (by kernel_rfl) (by kernel_rfl) (fun _ _ _ h => h) (Or.inl ⟨by rfl, ?_⟩) (by assumption) ?_
            rotate_left
            · intro w hSw; (try dsimp only at hSw); go_simp; try with_reducible rfl
            try simp only [Act.put, List.setIfInBounds_toArray, List.set_cons_zero, List.set_cons_succ]
            refine wpAnyH_take (i := 15) (oi := { dst := some 42, op := Op.load 3 (Operand.tmp 41), type := _, pos := _, after := _, guard := some (13, false) }) (v := ?_) rfl (by kernel_rfl) (by kernel_rfl) (by kernel_rfl) (fun _ _ _ h => h) (Or.inl ⟨by rfl, ?_⟩) (by assumption) ?_
            rotate_left
            · intro w hSw; (try dsimp only at hSw); go_simp; try with_reducible rfl
            try simp only [Act.put, List.setIfInBounds_toArray, List.set_cons_zero, List.set_cons_succ]
            refine wpAnyH_take (i := 16) (oi := { dst := some 43, op := Op.binOp BinOp.eql 3 (Operand.tmp 42) (Operand.const (Value.int IntKind.i64 8)) 3, type := _, pos := _, after := _, guard := some (13, false) }) (v := ?_) rfl (by kernel_rfl) (by kernel_rfl) (by kernel_rfl) (fun _ _ _ h => h) (Or.inl ⟨by rfl, ?_⟩) (by assumption) ?_
            rotate_left
            · intro w hSw; (try dsimp only at hSw); go_simp; try with_reducible rfl
            try simp only [Act.put, List.setIfInBounds_toArray, List.set_cons_zero, List.set_cons_succ]
            refine wpAnyH_take (i := 17) (oi := { dst := some 44, op := Op.pick (Operand.tmp 40) (Operand.const (Value.bool true)) (Operand.tmp 43), type := _, pos := _, after := _, guard := none }) (v := ?_) rfl (by kernel_rfl) (by kernel_rfl) (by kernel_rfl) (fun _ _ _ h => h) (Or.inl ⟨by rfl, ?_⟩) (by assumption) ?_
            rotate_left
            · intro w hSw; (try dsimp only at hSw); go_simp; try with_reducible rfl
            try simp only [Act.put, List.setIfInBounds_toArray, List.set_cons_zero, List.set_cons_succ]
            refine wpAnyH_take (i := 18) (oi := { dst := some 45, op := Op.move (Operand.tmp 44), type := _, pos := _, after := _, guard := none }) (v := ?_) rfl (by kernel_rfl) (by kernel_rfl) (by kernel_rfl) (fun _ _ _ h => h) (Or.inl ⟨by rfl, ?_⟩) (by assumption) ?_
            rotate_left
            · intro w hSw; (try dsimp only at hSw); go_simp; try with_reducible rfl
            try simp only [Act.put, List.setIfInBounds_toArray, List.set_cons_zero, List.set_cons_succ]
            refine wpAnyH_take (i := 19) (oi := { dst := some 46, op := Op.fieldAddr 51 (Operand.tmp 2) 0, type := _, pos := _, after := _, guard := some (18, false) }) (v := ?_) rfl (by kernel_rfl) (by kernel_rfl) (by kernel_rfl) (fun _ _ _ h => h) (Or.inl ⟨by rfl, ?_⟩) (by assumption) ?_
            rotate_left
            · intro w hSw; (try dsimp only at hSw); go_simp; try with_reducible rfl
            try simp only [Act.put, List.setIfInBounds_toArray, List.set_cons_zero, List.set_cons_succ]
            refine wpAnyH_take (i := 20) (oi := { dst := some 47, op := Op.load 3 (Operand.tmp 46), type := _, pos := _, after := _, guard := some (18, false) }) (v := ?_) rfl (by kernel_rfl) (by kernel_rfl) (by kernel_rfl) (fun _ _ _ h => h) (Or.inl ⟨by rfl, ?_⟩) (by assumption) ?_
            rotate_left
            · intro w hSw; (try dsimp only at hSw); go_simp; try with_reducible rfl
            try simp only [Act.put, List.setIfInBounds_toArray, List.set_cons_zero, List.set_cons_succ]
            refine wpAnyH_take (i := 21) (oi := { dst := some 48, op := Op.binOp BinOp.eql 3 (Operand.tmp 47) (Operand.const (Value.int IntKind.i64 9)) 3, type := _, pos := _, after := _, guard := some (18, false) }) (v := ?_) rfl (by kernel_rfl) (by kernel_rfl) (by kernel_rfl) (fun _ _ _ h => h) (Or.inl ⟨by rfl, ?_⟩) (by assumption) ?_
            rotate_left
            · intro w hSw; (try dsimp only at hSw); go_simp; try with_reducible rfl
            try simp only [Act.put, List.setIfInBounds_toArray, List.set_cons_zero, List.set_cons_succ]
            refine wpAnyH_take (i := 22) (oi := { dst := some 49, op := Op.pick (Operand.tmp 45) (Operand.const (Value.bool true)) (Operand.tmp 48), type := _, pos := _, after := _, guard := none }) (v := ?_) rfl (by kernel_rfl) (by kernel_rfl) (by kernel_rfl) (fun _ _ _ h => h) (Or.inl ⟨by rfl, ?_⟩) (by assumption) ?_
            rotate_left
            · intro w hSw; (try dsimp only at hSw); go_simp; try with_reducible rfl
            try simp only [Act.put, List.setIfInBounds_toArray, List.set_cons_zero, List.set_cons_succ]
            refine wpAnyH_take (i := 23) (oi := { dst := some 50, op := Op.indexAddr 28 (Operand.tmp 30) (Operand.tmp 31), type := _, pos := _, after := _, guard := none }) (v := ?_) rfl (by kernel_rfl) (by kernel_rfl) (by kernel_rfl) (fun _ _ _ h => h) (Or.inl ⟨by rfl, ?_⟩) (by assumption) ?_
            rotate_left
            · intro w hSw; (try dsimp only at hSw); go_simp; try with_reducible rfl
            try simp only [Act.put, List.setIfInBounds_toArray, List.set_cons_zero, List.set_cons_succ]
            refine wpAnyH_ready (rs := [24]) (by kernel_rfl) (by simp) ?_
            refine AllReadyH.cons (o := { dst := none, op := Op.store 4 (Operand.tmp 50) (Operand.tmp 49), type := _, pos := _, after := _, guard := none }) rfl (fun K hK => ?_) AllReadyH.nil
            go_simp
            refine hK.out _ _ (by exact HSN.out) (fun hHeld => ?_)
            clear hK K
            try simp only [Act.put, List.setIfInBounds_toArray, List.set_cons_zero, List.set_cons_succ]
            refine wpAnyH_done (by kernel_rfl) ?_ _
            all_goals
              obtain ⟨k0, k1, k2, -⟩ := slot3 (HXD.out v)
              go_wp2_with fail
              go_roundw
              case rel => exact ⟨i + 1, by omega, by go_num, HD, hid (HXD.out v), hid (HWD.out v)⟩
              case measure => simp [intOf]; omega
        · have hi1I : ¬ (i : Int) + 1 < (n : Int) := by omega
          have HD := hid ((HSD.out v).done fun j hj => by rw [← HDG.out]; exact base_row1 HN.out (.inr hi1) hj)
          go_wp2_with fail
          refine wp_region_held_drew (S := (fun Y => Y.cell? ⟨g, i, none⟩ = some (.slice (some ⟨r, 0, none⟩) n n) ∧ Y.cell? ⟨q, 0, none⟩ = some (.int .i64 kd))) (by kernel_rfl) (by exact HS.out) (fun hHeld => ?_)
          refine wpAnyH_take (i := 0) (oi := { dst := some 27, op := Op.move (Operand.tmp 6), type := _, pos := _, after := _, guard := none }) (v := ?_) rfl (by kernel_rfl) (by kernel_rfl) (by kernel_rfl) (fun _ _ _ h => h) (Or.inl ⟨by rfl, ?_⟩) (by assumption) ?_
          rotate_left
          · intro w hSw; (try dsimp only at hSw); go_simp; try with_reducible rfl
          try simp only [Act.put, List.setIfInBounds_toArray, List.set_cons_zero, List.set_cons_succ]
          refine wpAnyH_take (i := 1) (oi := { dst := some 28, op := Op.move (Operand.tmp 7), type := _, pos := _, after := _, guard := none }) (v := ?_) rfl (by kernel_rfl) (by kernel_rfl) (by kernel_rfl) (fun _ _ _ h => h) (Or.inl ⟨by rfl, ?_⟩) (by assumption) ?_
          rotate_left
          · intro w hSw; (try dsimp only at hSw); go_simp; try with_reducible rfl
          try simp only [Act.put, List.setIfInBounds_toArray, List.set_cons_zero, List.set_cons_succ]
          refine wpAnyH_take (i := 2) (oi := { dst := some 29, op := Op.indexAddr 78 (Operand.tmp 27) (Operand.tmp 28), type := _, pos := _, after := _, guard := none }) (v := ?_) rfl (by kernel_rfl) (by kernel_rfl) (by kernel_rfl) (fun _ _ _ h => h) (Or.inl ⟨by rfl, ?_⟩) (by assumption) ?_
          rotate_left
          · intro w hSw; (try dsimp only at hSw); go_simp; try with_reducible rfl
          try simp only [Act.put, List.setIfInBounds_toArray, List.set_cons_zero, List.set_cons_succ]
          refine wpAnyH_take (i := 3) (oi := { dst := some 30, op := Op.load 28 (Operand.tmp 29), type := _, pos := _, after := _, guard := none }) (v := ?_) rfl (by kernel_rfl) (by kernel_rfl) (by kernel_rfl) (fun _ _ _ h => h) (Or.inl ⟨by rfl, ?_⟩) (by assumption) ?_
          rotate_left
          · intro w hSw; (try dsimp only at hSw); go_simp; try with_reducible rfl
          try simp only [Act.put, List.setIfInBounds_toArray, List.set_cons_zero, List.set_cons_succ]
          refine wpAnyH_take (i := 4) (oi := { dst := some 31, op := Op.move (Operand.tmp 7), type := _, pos := _, after := _, guard := none }) (v := ?_) rfl (by kernel_rfl) (by kernel_rfl) (by kernel_rfl) (fun _ _ _ h => h) (Or.inl ⟨by rfl, ?_⟩) (by assumption) ?_
          rotate_left
          · intro w hSw; (try dsimp only at hSw); go_simp; try with_reducible rfl
          try simp only [Act.put, List.setIfInBounds_toArray, List.set_cons_zero, List.set_cons_succ]
          refine wpAnyH_take (i := 5) (oi := { dst := some 32, op := Op.fieldAddr 51 (Operand.tmp 2) 0, type := _, pos := _, after := _, guard := none }) (v := ?_) rfl (by kernel_rfl) (by kernel_rfl) (by kernel_rfl) (fun _ _ _ h => h) (Or.inl ⟨by rfl, ?_⟩) (by assumption) ?_
          rotate_left
          · intro w hSw; (try dsimp only at hSw); go_simp; try with_reducible rfl
          try simp only [Act.put, List.setIfInBounds_toArray, List.set_cons_zero, List.set_cons_succ]
          refine wpAnyH_take (i := 6) (oi := { dst := some 33, op := Op.load 3 (Operand.tmp 32), type := _, pos := _, after := _, guard := none }) (v := ?_) rfl (by kernel_rfl) (by kernel_rfl) (by kernel_rfl) (fun _ _ _ h => h) (Or.inl ⟨by rfl, ?_⟩) (by assumption) ?_
          rotate_left
          · intro w hSw; (try dsimp only at hSw); go_simp; try with_reducible rfl
          try simp only [Act.put, List.setIfInBounds_toArray, List.set_cons_zero, List.set_cons_succ]
          refine wpAnyH_take (i := 7) (oi := { dst := some 34, op := Op.binOp BinOp.eql 3 (Operand.tmp 33) (Operand.const (Value.int IntKind.i64 4)) 3, type := _, pos := _, after := _, guard := none }) (v := ?_) rfl (by kernel_rfl) (by kernel_rfl) (by kernel_rfl) (fun _ _ _ h => h) (Or.inl ⟨by rfl, ?_⟩) (by assumption) ?_
          rotate_left
          · intro w hSw; (try dsimp only at hSw); go_simp; try with_reducible rfl
          try simp only [Act.put, List.setIfInBounds_toArray, List.set_cons_zero, List.set_cons_succ]
          refine wpAnyH_take (i := 8) (oi := { dst := some 35, op := Op.move (Operand.tmp 34), type := _, pos := _, after := _, guard := none }) (v := ?_) rfl (by kernel_rfl) (by kernel_rfl) (by kernel_rfl) (fun _ _ _ h => h) (Or.inl ⟨by rfl, ?_⟩) (by assumption) ?_
          rotate_left
          · intro w hSw; (try dsimp only at hSw); go_simp; try with_reducible rfl
          try simp only [Act.put, List.setIfInBounds_toArray, List.set_cons_zero, List.set_cons_succ]
          refine wpAnyH_take (i := 9) (oi := { dst := some 36, op := Op.fieldAddr 51 (Operand.tmp 2) 0, type := _, pos := _, after := _, guard := some (8, false) }) (v := ?_) rfl (by kernel_rfl) (by kernel_rfl) (by kernel_rfl) (fun _ _ _ h => h) (Or.inl ⟨by rfl, ?_⟩) (by assumption) ?_
          rotate_left
          · intro w hSw; (try dsimp only at hSw); go_simp; try with_reducible rfl
          try simp only [Act.put, List.setIfInBounds_toArray, List.set_cons_zero, List.set_cons_succ]
          refine wpAnyH_take (i := 10) (oi := { dst := some 37, op := Op.load 3 (Operand.tmp 36), type := _, pos := _, after := _, guard := some (8, false) }) (v := ?_) rfl (by kernel_rfl) (by kernel_rfl) (by kernel_rfl) (fun _ _ _ h => h) (Or.inl ⟨by rfl, ?_⟩) (by assumption) ?_
          rotate_left
          · intro w hSw; (try dsimp only at hSw); go_simp; try with_reducible rfl
          try simp only [Act.put, List.setIfInBounds_toArray, List.set_cons_zero, List.set_cons_succ]
          refine wpAnyH_take (i := 11) (oi := { dst := some 38, op := Op.binOp BinOp.eql 3 (Operand.tmp 37) (Operand.const (Value.int IntKind.i64 6)) 3, type := _, pos := _, after := _, guard := some (8, false) }) (v := ?_) rfl (by kernel_rfl) (by kernel_rfl) (by kernel_rfl) (fun _ _ _ h => h) (Or.inl ⟨by rfl, ?_⟩) (by assumption) ?_
          rotate_left
          · intro w hSw; (try dsimp only at hSw); go_simp; try with_reducible rfl
          try simp only [Act.put, List.setIfInBounds_toArray, List.set_cons_zero, List.set_cons_succ]
          refine wpAnyH_take (i := 12) (oi := { dst := some 39, op := Op.pick (Operand.tmp 35) (Operand.const (Value.bool true)) (Operand.tmp 38), type := _, pos := _, after := _, guard := none }) (v := ?_) rfl (by kernel_rfl) (by kernel_rfl) (by kernel_rfl) (fun _ _ _ h => h) (Or.inl ⟨by rfl, ?_⟩) (by assumption) ?_
          rotate_left
          · intro w hSw; (try dsimp only at hSw); go_simp; try with_reducible rfl
          try simp only [Act.put, List.setIfInBounds_toArray, List.set_cons_zero, List.set_cons_succ]
          refine wpAnyH_take (i := 13) (oi := { dst := some 40, op := Op.move (Operand.tmp 39), type := _, pos := _, after := _, guard := none }) (v := ?_) rfl (by kernel_rfl) (by kernel_rfl) (by kernel_rfl) (fun _ _ _ h => h) (Or.inl ⟨by rfl, ?_⟩) (by assumption) ?_
          rotate_left
          · intro w hSw; (try dsimp only at hSw); go_simp; try with_reducible rfl
          try simp only [Act.put, List.setIfInBounds_toArray, List.set_cons_zero, List.set_cons_succ]
          refine wpAnyH_take (i := 14) (oi := { dst := some 41, op := Op.fieldAddr 51 (Operand.tmp 2) 0, type := _, pos := _, after := _, guard := some (13, false) }) (v := ?_) rfl (by kernel_rfl) (by kernel_rfl) (by kernel_rfl) (fun _ _ _ h => h) (Or.inl ⟨by rfl, ?_⟩) (by assumption) ?_
          rotate_left
          · intro w hSw; (try dsimp only at hSw); go_simp; try with_reducible rfl
          try simp only [Act.put, List.setIfInBounds_toArray, List.set_cons_zero, List.set_cons_succ]
          refine wpAnyH_take (i := 15) (oi := { dst := some 42, op := Op.load 3 (Operand.tmp 41), type := _, pos := _, after := _, guard := some (13, false) }) (v := ?_) rfl (by kernel_rfl) (by kernel_rfl) (by kernel_rfl) (fun _ _ _ h => h) (Or.inl ⟨by rfl, ?_⟩) (by assumption) ?_
          rotate_left
          · intro w hSw; (try dsimp only at hSw); go_simp; try with_reducible rfl
          try simp only [Act.put, List.setIfInBounds_toArray, List.set_cons_zero, List.set_cons_succ]
          refine wpAnyH_take (i := 16) (oi := { dst := some 43, op := Op.binOp BinOp.eql 3 (Operand.tmp 42) (Operand.const (Value.int IntKind.i64 8)) 3, type := _, pos := _, after := _, guard := some (13, false) }) (v := ?_) rfl (by kernel_rfl) (by kernel_rfl) (by kernel_rfl) (fun _ _ _ h => h) (Or.inl ⟨by rfl, ?_⟩) (by assumption) ?_
          rotate_left
          · intro w hSw; (try dsimp only at hSw); go_simp; try with_reducible rfl
          try simp only [Act.put, List.setIfInBounds_toArray, List.set_cons_zero, List.set_cons_succ]
          refine wpAnyH_take (i := 17) (oi := { dst := some 44, op := Op.pick (Operand.tmp 40) (Operand.const (Value.bool true)) (Operand.tmp 43), type := _, pos := _, after := _, guard := none }) (v := ?_) rfl (by kernel_rfl) (by kernel_rfl) (by kernel_rfl) (fun _ _ _ h => h) (Or.inl ⟨by rfl, ?_⟩) (by assumption) ?_
          rotate_left
          · intro w hSw; (try dsimp only at hSw); go_simp; try with_reducible rfl
          try simp only [Act.put, List.setIfInBounds_toArray, List.set_cons_zero, List.set_cons_succ]
          refine wpAnyH_take (i := 18) (oi := { dst := some 45, op := Op.move (Operand.tmp 44), type := _, pos := _, after := _, guard := none }) (v := ?_) rfl (by kernel_rfl) (by kernel_rfl) (by kernel_rfl) (fun _ _ _ h => h) (Or.inl ⟨by rfl, ?_⟩) (by assumption) ?_
          rotate_left
          · intro w hSw; (try dsimp only at hSw); go_simp; try with_reducible rfl
          try simp only [Act.put, List.setIfInBounds_toArray, List.set_cons_zero, List.set_cons_succ]
          refine wpAnyH_take (i := 19) (oi := { dst := some 46, op := Op.fieldAddr 51 (Operand.tmp 2) 0, type := _, pos := _, after := _, guard := some (18, false) }) (v := ?_) rfl (by kernel_rfl) (by kernel_rfl) (by kernel_rfl) (fun _ _ _ h => h) (Or.inl ⟨by rfl, ?_⟩) (by assumption) ?_
          rotate_left
          · intro w hSw; (try dsimp only at hSw); go_simp; try with_reducible rfl
          try simp only [Act.put, List.setIfInBounds_toArray, List.set_cons_zero, List.set_cons_succ]
          refine wpAnyH_take (i := 20) (oi := { dst := some 47, op := Op.load 3 (Operand.tmp 46), type := _, pos := _, after := _, guard := some (18, false) }) (v := ?_) rfl (by kernel_rfl) (by kernel_rfl) (by kernel_rfl) (fun _ _ _ h => h) (Or.inl ⟨by rfl, ?_⟩) (by assumption) ?_
          rotate_left
          · intro w hSw; (try dsimp only at hSw); go_simp; try with_reducible rfl
          try simp only [Act.put, List.setIfInBounds_toArray, List.set_cons_zero, List.set_cons_succ]
          refine wpAnyH_take (i := 21) (oi := { dst := some 48, op := Op.binOp BinOp.eql 3 (Operand.tmp 47) (Operand.const (Value.int IntKind.i64 9)) 3, type := _, pos := _, after := _, guard := some (18, false) }) (v := ?_) rfl (by kernel_rfl) (by kernel_rfl) (by kernel_rfl) (fun _ _ _ h => h) (Or.inl ⟨by rfl, ?_⟩) (by assumption) ?_
          rotate_left
          · intro w hSw; (try dsimp only at hSw); go_simp; try with_reducible rfl
          try simp only [Act.put, List.setIfInBounds_toArray, List.set_cons_zero, List.set_cons_succ]
          refine wpAnyH_take (i := 22) (oi := { dst := some 49, op := Op.pick (Operand.tmp 45) (Operand.const (Value.bool true)) (Operand.tmp 48), type := _, pos := _, after := _, guard := none }) (v := ?_) rfl (by kernel_rfl) (by kernel_rfl) (by kernel_rfl) (fun _ _ _ h => h) (Or.inl ⟨by rfl, ?_⟩) (by assumption) ?_
          rotate_left
          · intro w hSw; (try dsimp only at hSw); go_simp; try with_reducible rfl
          try simp only [Act.put, List.setIfInBounds_toArray, List.set_cons_zero, List.set_cons_succ]
          refine wpAnyH_take (i := 23) (oi := { dst := some 50, op := Op.indexAddr 28 (Operand.tmp 30) (Operand.tmp 31), type := _, pos := _, after := _, guard := none }) (v := ?_) rfl (by kernel_rfl) (by kernel_rfl) (by kernel_rfl) (fun _ _ _ h => h) (Or.inl ⟨by rfl, ?_⟩) (by assumption) ?_
          rotate_left
          · intro w hSw; (try dsimp only at hSw); go_simp; try with_reducible rfl
          try simp only [Act.put, List.setIfInBounds_toArray, List.set_cons_zero, List.set_cons_succ]
          refine wpAnyH_ready (rs := [24]) (by kernel_rfl) (by simp) ?_
          refine AllReadyH.cons (o := { dst := none, op := Op.store 4 (Operand.tmp 50) (Operand.tmp 49), type := _, pos := _, after := _, guard := none }) rfl (fun K hK => ?_) AllReadyH.nil
          go_simp
          refine hK.out _ _ (by exact HSN.out) (fun hHeld => ?_)
          clear hK K
          try simp only [Act.put, List.setIfInBounds_toArray, List.set_cons_zero, List.set_cons_succ]
          refine wpAnyH_done (by kernel_rfl) ?_ _
          all_goals
            obtain ⟨k0, k1, k2, -⟩ := slot3 (HXD.out v)
            go_wp2_with fail
            go_roundw
            case rel => exact ⟨i + 1, by omega, by go_num, HD, hid (HXD.out v), hid (HWD.out v)⟩
            case measure => simp [intOf]; omega
      · obtain rfl : n = i := by omega
        have HT := hid HO.out.tab
        clear hmb
        obtain ⟨k0, k1, k2, -⟩ := slot3 HX.out
        go_wp2_with fail
        go_loopw [6, 8, 9, 10, 11] (fun s6 s8 _ _ _ wx => ∃ p : Nat, p ≤ l.length ∧ s8 = .int .i64 p ∧ Hid (IsTab wx n s6 ((l.take p).foldl (fun out k => stepF kd n out (leadsF d k marks)) (baseF kd cl marks))) ∧ Hid (wx.heap[q]? = some (.cells #[.int .i64 kd, .int .i64 cl, .slice A l.length c] 51 (0, 0))) ∧ Hid (Below q w wx)) (fun _ s8 _ _ _ _ => l.length - (intOf s8).toNat)
        case atStart => exact ⟨0, by omega, rfl, hid (by rw [List.take_zero]; exact HT.out), HX, HW⟩
        case round =>
          clear k0 k1 k2
          obtain ⟨p, hp, rfl, HF, HX2, HW2⟩ := hrel
          have hle := HLE.out
          obtain ⟨k0, k1, k2, -⟩ := slot3 HX2.out
          by_cases hp1 : p < l.length
          · obtain ⟨k, hk⟩ : ∃ k, l[p]? = some k := ⟨l[p], List.getElem?_eq_getElem hp1⟩
            have HK := hid hk
            obtain ⟨b, o, v0, v1, v2, hA, -, hb, c0, c1, c2, hR⟩ := HKw.out.at hk
            subst hA
            obtain ⟨kk, kc, kA, kn, kp, rfl, rfl, rfl⟩ := hR.cells
            have hbw : Below w.heap.size w wr := by rw [← HQ.out]; exact HW2.out
            have c0' := (cell_same (hbw.block b hb)).trans c0
            have c1' := (cell_same (hbw.block b hb)).trans c1
            have c2' := (cell_same (hbw.block b hb)).trans c2
            have HR := hid (hR.below hbw)
            have HM := hid (show IsNums .i64 wr Any (.slice M m cm) marks by rw [HMN.out]; exact HMw.out.below hbw)
            clear hk c0 c1 c2 hR hbw hb
            go_wp2_with fail
            refine (IH.out _ k _ marks _ HR.out HM.out HML.out).mono ?_
            rintro e wk ⟨tv, rfl, htab, hbk⟩
            have HTk := hid (show IsTab wk n tv (leadsF d k marks) by rw [HN.out]; exact htab)
            have HFk := hid (HF.out.below hbk)
            have HQr := hid (Array.getElem?_eq_some_iff.1 HX2.out).1
            have HXk := hid ((hbk.block q HQr.out).trans HX2.out)
            have HWk := hid (HW2.out.trans (hbk.mono (Nat.le_of_lt HQr.out)))
            have HQK := hid (Array.getElem?_eq_some_iff.1 HXk.out).1
            have HSN := hid (show (l.take (p + 1)).foldl (fun out k => stepF kd n out (leadsF d k marks)) (baseF kd cl marks) = stepF kd n ((l.take p).foldl (fun out k => stepF kd n out (leadsF d k marks)) (baseF kd cl marks)) (leadsF d k marks) by rw [List.take_add_one, HK.out, Option.toList_some, List.foldl_append]; rfl)
            clear htab hbk k0 k1 k2 c0' c1' c2'
            obtain ⟨k0, k1, k2, -⟩ := slot3 HXk.out
            by_cases h4 : kd = 4
            · have b4 := ieq_true h4
              have H4 := hid h4
              clear h4
              go_wp2_with fail
              refine (times_any n _ _ _ _ _ HFk.out HTk.out hn1001).mono ?_
              rintro e w5 ⟨v5, rfl, ht5, hb5⟩
              have HNW := hid (show IsTab w5 n v5 ((l.take (p + 1)).foldl (fun out k => stepF kd n out (leadsF d k marks)) (baseF kd cl marks)) by rw [HSN.out]; unfold stepF; rw [if_pos H4.out]; exact ht5)
              have HNX := hid ((hid (hb5.block q HQK.out)).out.trans HXk.out)
              have HNB := hid (HWk.out.trans (hb5.mono (Nat.le_of_lt HQK.out)))
              go_wp2_with fail
              go_roundw
              case rel => exact ⟨p + 1, by omega, by go_num, HNW, HNX, HNB⟩
              case measure => simp [intOf]; omega
            have b4 := ieq_false h4
            by_cases h67 : kd = 6 ∨ kd = 7
            · have H67 := hid h67
              by_cases h6 : kd = 6
              · have b6 := ieq_true h6
                clear h6 h67
                go_wp2_with fail
                go_loopw [10, 11] (fun s10 s11 wy => ∃ r : Nat, r ≤ n ∧ s11 = .int .i64 r ∧ Hid (IsTab wy n s10 (powF n (leadsF d k marks) r)) ∧ Hid (Below wk.heap.size wk wy)) (fun _ s11 _ => n - (intOf s11).toNat)
                case atStart => exact ⟨0, by omega, rfl, HTk, hid (Below.refl _ _)⟩
                case round =>
                  obtain ⟨r, hr, rfl, HP, HY⟩ := hrel
                  by_cases hr1 : r < n
                  · have HTy := hid (HTk.out.below HY.out)
                    go_wp2_with fail
                    refine (times_any n _ _ _ _ _ HP.out HTy.out hn1001).mono ?_
                    rintro e w5 ⟨v5, rfl, ht5, hb5⟩
                    have HP5 := hid (HP.out.below hb5)
                    have HT5 := hid ht5
                    have HB5 := hid (HY.out.trans (hb5.mono HY.out.size))
                    clear ht5 hb5
                    go_wp2_with fail
                    refine (either_any n _ _ _ _ _ HP5.out HT5.out hn1001).mono ?_
                    rintro e w6 ⟨v6, rfl, ht6, hb6⟩
                    have HP6 := hid (show IsTab w6 n v6 (powF n (leadsF d k marks) (r + 1)) from ht6)
                    have HB6 := hid (HB5.out.trans (hb6.mono HB5.out.size))
                    clear ht6 hb6
                    go_wp2_with fail
                    go_roundw
                    case rel => exact ⟨r + 1, by omega, by go_num, HP6, HB6⟩
                    case measure => simp [intOf]; omega
                  · obtain rfl : n = r := by omega
                    have HFy := hid (HFk.out.below HY.out)
                    go_wp2_with fail
                    refine (either_any n _ _ _ _ _ HFy.out HP.out hn1001).mono ?_
                    rintro e w5 ⟨v5, rfl, ht5, hb5⟩
                    have HBY := hid (HY.out.trans (hb5.mono HY.out.size))
                    have HNW := hid (show IsTab w5 n v5 ((l.take (p + 1)).foldl (fun out k => stepF kd n out (leadsF d k marks)) (baseF kd cl marks)) by rw [HSN.out]; unfold stepF; rw [if_neg h4, if_pos H67.out]; exact ht5)
                    have HNX := hid ((hid (HBY.out.block q HQK.out)).out.trans HXk.out)
                    have HNB := hid (HWk.out.trans (HBY.out.mono (Nat.le_of_lt HQK.out)))
                    go_wp2_with fail
                    go_roundw
                    case rel => exact ⟨p + 1, by omega, by go_num, HNW, HNX, HNB⟩
                    case measure => simp [intOf]; omega
              · have b6 := ieq_false h6
                have b7 := ieq_true (show kd = 7 by omega)
                clear h6 h67
                go_wp2_with fail
                go_loopw [10, 11] (fun s10 s11 wy => ∃ r : Nat, r ≤ n ∧ s11 = .int .i64 r ∧ Hid (IsTab wy n s10 (powF n (leadsF d k marks) r)) ∧ Hid (Below wk.heap.size wk wy)) (fun _ s11 _ => n - (intOf s11).toNat)
                case atStart => exact ⟨0, by omega, rfl, HTk, hid (Below.refl _ _)⟩
                case round =>
                  obtain ⟨r, hr, rfl, HP, HY⟩ := hrel
                  by_cases hr1 : r < n
                  · have HTy := hid (HTk.out.below HY.out)
                    go_wp2_with fail
                    refine (times_any n _ _ _ _ _ HP.out HTy.out hn1001).mono ?_
                    rintro e w5 ⟨v5, rfl, ht5, hb5⟩
                    have HP5 := hid (HP.out.below hb5)
                    have HT5 := hid ht5
                    have HB5 := hid (HY.out.trans (hb5.mono HY.out.size))
                    clear ht5 hb5
                    go_wp2_with fail
                    refine (either_any n _ _ _ _ _ HP5.out HT5.out hn1001).mono ?_
                    rintro e w6 ⟨v6, rfl, ht6, hb6⟩
                    have HP6 := hid (show IsTab w6 n v6 (powF n (leadsF d k marks) (r + 1)) from ht6)
                    have HB6 := hid (HB5.out.trans (hb6.mono HB5.out.size))
                    clear ht6 hb6
                    go_wp2_with fail
                    go_roundw
                    case rel => exact ⟨r + 1, by omega, by go_num, HP6, HB6⟩
                    case measure => simp [intOf]; omega
                  · obtain rfl : n = r := by omega
                    have HFy := hid (HFk.out.below HY.out)
                    go_wp2_with fail
                    refine (either_any n _ _ _ _ _ HFy.out HP.out hn1001).mono ?_
                    rintro e w5 ⟨v5, rfl, ht5, hb5⟩
                    have HBY := hid (HY.out.trans (hb5.mono HY.out.size))
                    have HNW := hid (show IsTab w5 n v5 ((l.take (p + 1)).foldl (fun out k => stepF kd n out (leadsF d k marks)) (baseF kd cl marks)) by rw [HSN.out]; unfold stepF; rw [if_neg h4, if_pos H67.out]; exact ht5)
                    have HNX := hid ((hid (HBY.out.block q HQK.out)).out.trans HXk.out)
                    have HNB := hid (HWk.out.trans (HBY.out.mono (Nat.le_of_lt HQK.out)))
                    go_wp2_with fail
                    go_roundw
                    case rel => exact ⟨p + 1, by omega, by go_num, HNW, HNX, HNB⟩
                    case measure => simp [intOf]; omega
            · have b6 := ieq_false (a := kd) (b := 6) (by omega)
              have b7 := ieq_false (a := kd) (b := 7) (by omega)
              go_wp2_with fail
              refine (either_any n _ _ _ _ _ HFk.out HTk.out hn1001).mono ?_
              rintro e w5 ⟨v5, rfl, ht5, hb5⟩
              have HNW := hid (show IsTab w5 n v5 ((l.take (p + 1)).foldl (fun out k => stepF kd n out (leadsF d k marks)) (baseF kd cl marks)) by rw [HSN.out]; unfold stepF; rw [if_neg h4, if_neg h67]; exact ht5)
              have HNX := hid ((hid (hb5.block q HQK.out)).out.trans HXk.out)
              have HNB := hid (HWk.out.trans (hb5.mono (Nat.le_of_lt HQK.out)))
              go_wp2_with fail
              go_roundw
              case rel => exact ⟨p + 1, by omega, by go_num, HNW, HNX, HNB⟩
              case measure => simp [intOf]; omega
          · have HEND := hid (show IsTab wr n u6 (leadsF (d + 1) t marks) by
              rw [HRES.out]; have h := HF.out; rw [List.take_of_length_le (by omega)] at h; exact h)
            go_wp2_with fail
            go_ret
            exact ⟨_, rfl, HEND.out, by rw [← HQ.out]; exact HW2.out⟩
end Go.Proofs.Ytjcdcmeclnihbaa
