/- Which places are hidden: the program's hidden, the document's Hidden. Condition: at most a thousand places. -/
import Derived.Test.YtjcdcmeclnihbaaCl
import Derived.Test.YtjcdcmeclnihbaaRu
import Derived.Test.YtjcdcmeclnihbaaEl
import Derived.Deep.RegionHeld3
namespace Go.Proofs.Ytjcdcmeclnihbaa
open Go.RowKit
set_option linter.unusedSimpArgs false
/-- Whether a place of classes is hidden. -/
def hidAt (ig kp l : List Int) : Nat → Bool
  | 0 => false
  | k + 1 => inL ig (nth l (k + 1)) && (hidAt ig kp l k || !inL kp (nth l k))
def hidTo (ig kp l : List Int) (n k : Nat) : List Bool := (List.range k).map (hidAt ig kp l) ++ noB (n - k)
def hidL (ig kp l : List Int) : List Bool := (List.range l.length).map (hidAt ig kp l)
theorem hidTo_len {ig kp l : List Int} {n k : Nat} (hk : k ≤ n) : (hidTo ig kp l n k).length = n := by simp [hidTo, noB]; omega
theorem hidTo_nth {ig kp l : List Int} {n k j : Nat} (hj : j < k) : nthB (hidTo ig kp l n k) j = hidAt ig kp l j := by
  unfold hidTo nthB
  rw [List.getElem?_append_left (by simp; exact hj)]
  simp [hj]
theorem hidTo_step {ig kp l : List Int} {n k : Nat} {v : Bool} (hk : k < n) (hv : v = hidAt ig kp l k) : hidTo ig kp l n (k + 1) = (hidTo ig kp l n k).set k v := by
  unfold hidTo
  rw [List.set_append_right _ _ (by simp)]
  simp only [List.length_map, List.length_range, Nat.sub_self]
  unfold noB
  rw [show n - k = (n - (k + 1)) + 1 by omega, List.replicate_succ, List.set_cons_zero, List.range_succ, List.map_append, List.append_assoc, hv]
  rfl
theorem cell_set_other {Y : World} {g i b j : Nat} {v : Value} (h : b ≠ g ∨ j ≠ i) : (Y.setCell ⟨g, i, none⟩ v).cell? ⟨b, j, none⟩ = Y.cell? ⟨b, j, none⟩ := by
  rcases h with h | h
  · exact cell_same (heap_setCell_other _ _ _ _ h)
  · exact World.cell?_setCell_other (w := Y) (a := ⟨g, i, none⟩) (b := ⟨b, j, none⟩) (v := v) (by intro e; cases e; exact h rfl)

set_option maxRecDepth 100000 in
set_option maxHeartbeats 8000000 in
theorem hidden_any (d : Nat) (v lv : Value) (t : Tx d) (ids : List Int) (w : World) (h : IsTx w Any d v t) (hl : IsNums .i64 w Any lv ids) (hn : ids.length ≤ 1000) :
    Calls Try.prog 39 #[v, lv] w fun e w' => ∃ v', e = .returned v' ∧ IsBools w' (fun b => w.heap.size ≤ b) v' (hidL t.ig t.kp ids) ∧ Below w.heap.size w w' := by
  obtain ⟨I, ic, K, kc, A, c, rfl, hI, hK, lI, lK, lA, -⟩ := h.open
  clear h lI lK lA
  obtain ⟨M, cm, rfl⟩ := hl.form
  have HMw := hid hl
  have HI := hid hI
  have HK := hid hK
  obtain ⟨n, hnn⟩ : ∃ n, n = ids.length := ⟨_, rfl⟩
  have HNN := hid hnn
  rw [← hnn] at hn ⊢
  clear hI hK hl hnn
  have hmk := run_make_bools .i64 .i64 n (by omega)
  obtain ⟨q, hq⟩ : ∃ q, q = w.heap.size := ⟨_, rfl⟩
  have HQ := hid hq
  obtain ⟨W, hW0⟩ : ∃ W, W = (w.alloc (.cells #[.slice I t.ig.length ic, .slice K t.kp.length kc, .slice A t.rs.length c] 33)).alloc (.cells (Array.replicate n (Value.bool false)) 4) := ⟨_, rfl⟩
  have HWW := hid (alloc2 hW0)
  rw [← hq] at HWW
  have HG0 := hid (show BoolBlk W (q + 1) (noB n) by unfold BoolBlk noB; rw [rep_bools]; exact HWW.out.2.1)
  have HWw := hid (show Below w.heap.size w W by rw [← HQ.out]; exact HWW.out.2.2.2)
  obtain ⟨l, hll⟩ : ∃ l, l = ids := ⟨_, rfl⟩
  have HLL := hid hll
  rw [← hll]
  have HLn := hid (show l.length = n by rw [hll, HNN.out])
  have HLnth := hid (show ∀ j, j < n → nth l j = nth ids j from fun j hj => by rw [hll])
  clear hll
  go_enter Try.func39, Try.ntmps39
  go_wp2_with fail
  rw [← hW0]
  rw [← hq]
  clear hW0 hmk hq
  go_loopw [6, 12] (fun _ s12 wr => ∃ k : Nat, k ≤ n ∧ s12 = .int .i64 k ∧ Hid (BoolBlk wr (q + 1) (hidTo t.ig t.kp l n k)) ∧ Hid (wr.heap[q]? = some (.cells #[.slice I t.ig.length ic, .slice K t.kp.length kc, .slice A t.rs.length c] 33 (0, 0))) ∧ Hid (Below q w wr)) (fun _ s12 _ => n - (intOf s12).toNat)
  case atStart => exact ⟨0, by omega, rfl, hid (by simpa [hidTo] using HG0.out), hid HWW.out.1, hid HWW.out.2.2.2⟩
  case round =>
    obtain ⟨k, hk, rfl, HG, HX, HW⟩ := hrel
    have HWr := hid (show Below w.heap.size w wr by rw [← HQ.out]; exact HW.out)
    obtain ⟨f0, f1, f2, -⟩ := slot3 HX.out
    by_cases hlt : k < n
    · obtain ⟨b, o, cm', hem, -, hbm, hcm⟩ := HMw.out.at (j := k) (by rw [← HNN.out]; exact hlt)
      rw [← HNN.out] at hem
      obtain ⟨rfl, rfl⟩ : M = some ⟨b, o, none⟩ ∧ cm = cm' := by simpa using hem
      replace hcm := (cell_same (HWr.out.block b hbm)).trans hcm
      have hku : k < (hidTo t.ig t.kp l n k).length := by rw [hidTo_len (by omega)]; exact hlt
      have hcg := HG.out.cell hku
      have hfg := HG.out.frozen k
      obtain ⟨y0, hy0⟩ : ∃ y, y = nthB (hidTo t.ig t.kp l n k) k := ⟨_, rfl⟩
      rw [← hy0] at hcg
      have HGl := hid HG.out.lt
      have HBne := hid (show b ≠ q + 1 ∧ b ≠ q by rw [HQ.out]; omega)
      have HCI0 := hid (fun (Y : World) (hY : ∀ g, True → g < wr.heap.size → Y.heap[g]? = wr.heap[g]?) (z : Int) => contains_any Any _ t.ig z Y ((HI.out.below HWr.out).keep (fun g _ hlt => hY g trivial hlt)))
      have HCK0 := hid (fun (Y : World) (hY : ∀ g, True → g < wr.heap.size → Y.heap[g]? = wr.heap[g]?) (z : Int) => contains_any Any _ t.kp z Y ((HK.out.below HWr.out).keep (fun g _ hlt => hY g trivial hlt)))
      obtain ⟨z, hz⟩ : ∃ z, z = nth ids k := ⟨_, rfl⟩
      rw [← hz] at hcm
      have HZ := hid (show nth l k = z by rw [HLnth.out k hlt, hz])
      have HCI := hid (fun Y hY => HCI0.out Y hY z)
      clear hem hku hy0 hz HCI0
      cases k with
      | zero =>
        have HN := hid (show BoolBlk (wr.drew.setCell ⟨q + 1, 0, none⟩ (.bool false)) (q + 1) (hidTo t.ig t.kp l n (0 + 1)) by rw [hidTo_step (v := false) hlt (rfl)]; exact BoolBlk.set (w := wr.drew) HG.out _ _)
        have HX2 := hid (show (wr.drew.setCell ⟨q + 1, 0, none⟩ (.bool false)).heap[q]? = _ from (heap_setCell_other _ _ _ _ (by simp)).trans HX.out)
        have HW2 := hid (show Below q w (wr.drew.setCell ⟨q + 1, 0, none⟩ (.bool false)) from HW.out.drew.setCell (p := ⟨q + 1, 0, none⟩) (by show q ≤ q + 1; omega) _)
        have HS := hid (And.intro f0 f1)
        have HSN := hid (show (wr.drew.setCell ⟨q + 1, 0, none⟩ (.bool false)).cell? ⟨q, 0, none⟩ = some (.slice I t.ig.length ic) ∧ (wr.drew.setCell ⟨q + 1, 0, none⟩ (.bool false)).cell? ⟨q, 1, none⟩ = some (.slice K t.kp.length kc) from
          ⟨(cell_set_other (.inl (by omega))).trans f0, (cell_set_other (.inl (by omega))).trans f1⟩)
        go_wp2_with fail
        refine wp_region_held_drew (S := (fun Y => Y.cell? ⟨q, 0, none⟩ = some (.slice I t.ig.length ic) ∧ Y.cell? ⟨q, 1, none⟩ = some (.slice K t.kp.length kc))) (by kernel_rfl) (by exact HS.out) (fun hHeld => ?_)
        refine wpAnyH_take (i := 0) (oi := { dst := some 15, op := Op.move (Operand.tmp 5), type := _, pos := _, after := _, guard := none }) (v := ?_) rfl (by kernel_rfl) (by kernel_rfl) (by kernel_rfl) (fun _ _ _ h => h) (Or.inl ⟨by rfl, ?_⟩) (by assumption) ?_
        rotate_left
        · intro w hSw; (try dsimp only at hSw); go_simp; try with_reducible rfl
        try simp only [Act.put, List.setIfInBounds_toArray, List.set_cons_zero, List.set_cons_succ]
        refine wpAnyH_take (i := 1) (oi := { dst := some 16, op := Op.move (Operand.tmp 6), type := _, pos := _, after := _, guard := none }) (v := ?_) rfl (by kernel_rfl) (by kernel_rfl) (by kernel_rfl) (fun _ _ _ h => h) (Or.inl ⟨by rfl, ?_⟩) (by assumption) ?_
        rotate_left
        · intro w hSw; (try dsimp only at hSw); go_simp; try with_reducible rfl
        try simp only [Act.put, List.setIfInBounds_toArray, List.set_cons_zero, List.set_cons_succ]
        refine wpAnyH_take (i := 2) (oi := { dst := some 17, op := Op.move (Operand.tmp 6), type := _, pos := _, after := _, guard := none }) (v := ?_) rfl (by kernel_rfl) (by kernel_rfl) (by kernel_rfl) (fun _ _ _ h => h) (Or.inl ⟨by rfl, ?_⟩) (by assumption) ?_
        rotate_left
        · intro w hSw; (try dsimp only at hSw); go_simp; try with_reducible rfl
        try simp only [Act.put, List.setIfInBounds_toArray, List.set_cons_zero, List.set_cons_succ]
        refine wpAnyH_take (i := 3) (oi := { dst := some 18, op := Op.binOp BinOp.gtr 3 (Operand.tmp 17) (Operand.const (Value.int IntKind.i64 0)) 3, type := _, pos := _, after := _, guard := none }) (v := ?_) rfl (by kernel_rfl) (by kernel_rfl) (by kernel_rfl) (fun _ _ _ h => h) (Or.inl ⟨by rfl, ?_⟩) (by assumption) ?_
        rotate_left
        · intro w hSw; (try dsimp only at hSw); go_simp; try with_reducible rfl
        try simp only [Act.put, List.setIfInBounds_toArray, List.set_cons_zero, List.set_cons_succ]
        refine wpAnyH_take (i := 4) (oi := { dst := some 19, op := Op.move (Operand.tmp 18), type := _, pos := _, after := _, guard := none }) (v := ?_) rfl (by kernel_rfl) (by kernel_rfl) (by kernel_rfl) (fun _ _ _ h => h) (Or.inl ⟨by rfl, ?_⟩) (by assumption) ?_
        rotate_left
        · intro w hSw; (try dsimp only at hSw); go_simp; try with_reducible rfl
        try simp only [Act.put, List.setIfInBounds_toArray, List.set_cons_zero, List.set_cons_succ]
        refine wpAnyH_take (i := 5) (oi := { dst := some 20, op := Op.fieldAddr 33 (Operand.tmp 2) 0, type := _, pos := _, after := _, guard := some (4, true) }) (v := undef) rfl (by kernel_rfl) (by kernel_rfl) (by kernel_rfl) (fun _ _ _ h => h) (Or.inr ⟨by rfl, rfl⟩) (by assumption) ?_
        try simp only [Act.put, List.setIfInBounds_toArray, List.set_cons_zero, List.set_cons_succ]
        refine wpAnyH_take (i := 6) (oi := { dst := some 21, op := Op.load 22 (Operand.tmp 20), type := _, pos := _, after := _, guard := some (4, true) }) (v := undef) rfl (by kernel_rfl) (by kernel_rfl) (by kernel_rfl) (fun _ _ _ h => h) (Or.inr ⟨by rfl, rfl⟩) (by assumption) ?_
        try simp only [Act.put, List.setIfInBounds_toArray, List.set_cons_zero, List.set_cons_succ]
        refine wpAnyH_take (i := 7) (oi := { dst := some 22, op := Op.move (Operand.tmp 1), type := _, pos := _, after := _, guard := some (4, true) }) (v := undef) rfl (by kernel_rfl) (by kernel_rfl) (by kernel_rfl) (fun _ _ _ h => h) (Or.inr ⟨by rfl, rfl⟩) (by assumption) ?_
        try simp only [Act.put, List.setIfInBounds_toArray, List.set_cons_zero, List.set_cons_succ]
        refine wpAnyH_take (i := 8) (oi := { dst := some 23, op := Op.move (Operand.tmp 6), type := _, pos := _, after := _, guard := some (4, true) }) (v := undef) rfl (by kernel_rfl) (by kernel_rfl) (by kernel_rfl) (fun _ _ _ h => h) (Or.inr ⟨by rfl, rfl⟩) (by assumption) ?_
        try simp only [Act.put, List.setIfInBounds_toArray, List.set_cons_zero, List.set_cons_succ]
        refine wpAnyH_take (i := 9) (oi := { dst := some 24, op := Op.indexAddr 22 (Operand.tmp 22) (Operand.tmp 23), type := _, pos := _, after := _, guard := some (4, true) }) (v := undef) rfl (by kernel_rfl) (by kernel_rfl) (by kernel_rfl) (fun _ _ _ h => h) (Or.inr ⟨by rfl, rfl⟩) (by assumption) ?_
        try simp only [Act.put, List.setIfInBounds_toArray, List.set_cons_zero, List.set_cons_succ]
        refine wpAnyH_take (i := 10) (oi := { dst := some 25, op := Op.load 3 (Operand.tmp 24), type := _, pos := _, after := _, guard := some (4, true) }) (v := undef) rfl (by kernel_rfl) (by kernel_rfl) (by kernel_rfl) (fun _ _ _ h => h) (Or.inr ⟨by rfl, rfl⟩) (by assumption) ?_
        try simp only [Act.put, List.setIfInBounds_toArray, List.set_cons_zero, List.set_cons_succ]
        refine wpAnyH_take (i := 11) (oi := { dst := some 26, op := Op.call { callee := Callee.value (Operand.func 61), args := #[Operand.tmp 21, Operand.tmp 25], argTypes := #[22, 3] }, type := _, pos := _, after := _, guard := some (4, true) }) (v := undef) rfl (by kernel_rfl) (by kernel_rfl) (by kernel_rfl) (fun _ _ _ h => h) (Or.inr ⟨by rfl, rfl⟩) (by assumption) ?_
        try simp only [Act.put, List.setIfInBounds_toArray, List.set_cons_zero, List.set_cons_succ]
        refine wpAnyH_take (i := 12) (oi := { dst := some 27, op := Op.pick (Operand.tmp 19) (Operand.tmp 26) (Operand.const (Value.bool false)), type := _, pos := _, after := _, guard := none }) (v := ?_) rfl (by kernel_rfl) (by kernel_rfl) (by kernel_rfl) (fun _ _ _ h => h) (Or.inl ⟨by rfl, ?_⟩) (by assumption) ?_
        rotate_left
        · intro w hSw; (try dsimp only at hSw); go_simp; try with_reducible rfl
        try simp only [Act.put, List.setIfInBounds_toArray, List.set_cons_zero, List.set_cons_succ]
        refine wpAnyH_take (i := 13) (oi := { dst := some 28, op := Op.move (Operand.tmp 27), type := _, pos := _, after := _, guard := none }) (v := ?_) rfl (by kernel_rfl) (by kernel_rfl) (by kernel_rfl) (fun _ _ _ h => h) (Or.inl ⟨by rfl, ?_⟩) (by assumption) ?_
        rotate_left
        · intro w hSw; (try dsimp only at hSw); go_simp; try with_reducible rfl
        try simp only [Act.put, List.setIfInBounds_toArray, List.set_cons_zero, List.set_cons_succ]
        refine wpAnyH_take (i := 14) (oi := { dst := some 29, op := Op.move (Operand.tmp 5), type := _, pos := _, after := _, guard := some (13, true) }) (v := undef) rfl (by kernel_rfl) (by kernel_rfl) (by kernel_rfl) (fun _ _ _ h => h) (Or.inr ⟨by rfl, rfl⟩) (by assumption) ?_
        try simp only [Act.put, List.setIfInBounds_toArray, List.set_cons_zero, List.set_cons_succ]
        refine wpAnyH_take (i := 15) (oi := { dst := some 30, op := Op.move (Operand.tmp 6), type := _, pos := _, after := _, guard := some (13, true) }) (v := undef) rfl (by kernel_rfl) (by kernel_rfl) (by kernel_rfl) (fun _ _ _ h => h) (Or.inr ⟨by rfl, rfl⟩) (by assumption) ?_
        try simp only [Act.put, List.setIfInBounds_toArray, List.set_cons_zero, List.set_cons_succ]
        refine wpAnyH_take (i := 16) (oi := { dst := some 31, op := Op.binOp BinOp.sub 3 (Operand.tmp 30) (Operand.const (Value.int IntKind.i64 1)) 3, type := _, pos := _, after := _, guard := some (13, true) }) (v := undef) rfl (by kernel_rfl) (by kernel_rfl) (by kernel_rfl) (fun _ _ _ h => h) (Or.inr ⟨by rfl, rfl⟩) (by assumption) ?_
        try simp only [Act.put, List.setIfInBounds_toArray, List.set_cons_zero, List.set_cons_succ]
        refine wpAnyH_take (i := 17) (oi := { dst := some 32, op := Op.indexAddr 28 (Operand.tmp 29) (Operand.tmp 31), type := _, pos := _, after := _, guard := some (13, true) }) (v := undef) rfl (by kernel_rfl) (by kernel_rfl) (by kernel_rfl) (fun _ _ _ h => h) (Or.inr ⟨by rfl, rfl⟩) (by assumption) ?_
        try simp only [Act.put, List.setIfInBounds_toArray, List.set_cons_zero, List.set_cons_succ]
        refine wpAnyH_take (i := 18) (oi := { dst := some 33, op := Op.load 4 (Operand.tmp 32), type := _, pos := _, after := _, guard := some (13, true) }) (v := undef) rfl (by kernel_rfl) (by kernel_rfl) (by kernel_rfl) (fun _ _ _ h => h) (Or.inr ⟨by rfl, rfl⟩) (by assumption) ?_
        try simp only [Act.put, List.setIfInBounds_toArray, List.set_cons_zero, List.set_cons_succ]
        refine wpAnyH_take (i := 19) (oi := { dst := some 34, op := Op.move (Operand.tmp 33), type := _, pos := _, after := _, guard := some (13, true) }) (v := undef) rfl (by kernel_rfl) (by kernel_rfl) (by kernel_rfl) (fun _ _ _ h => h) (Or.inr ⟨by rfl, rfl⟩) (by assumption) ?_
        try simp only [Act.put, List.setIfInBounds_toArray, List.set_cons_zero, List.set_cons_succ]
        refine wpAnyH_take (i := 20) (oi := { dst := some 35, op := Op.fieldAddr 33 (Operand.tmp 2) 1, type := _, pos := _, after := _, guard := some (19, false) }) (v := undef) rfl (by kernel_rfl) (by kernel_rfl) (by kernel_rfl) (fun _ _ _ h => h) (Or.inr ⟨by rfl, rfl⟩) (by assumption) ?_
        try simp only [Act.put, List.setIfInBounds_toArray, List.set_cons_zero, List.set_cons_succ]
        refine wpAnyH_take (i := 21) (oi := { dst := some 36, op := Op.load 22 (Operand.tmp 35), type := _, pos := _, after := _, guard := some (19, false) }) (v := undef) rfl (by kernel_rfl) (by kernel_rfl) (by kernel_rfl) (fun _ _ _ h => h) (Or.inr ⟨by rfl, rfl⟩) (by assumption) ?_
        try simp only [Act.put, List.setIfInBounds_toArray, List.set_cons_zero, List.set_cons_succ]
        refine wpAnyH_take (i := 22) (oi := { dst := some 37, op := Op.move (Operand.tmp 1), type := _, pos := _, after := _, guard := some (19, false) }) (v := undef) rfl (by kernel_rfl) (by kernel_rfl) (by kernel_rfl) (fun _ _ _ h => h) (Or.inr ⟨by rfl, rfl⟩) (by assumption) ?_
        try simp only [Act.put, List.setIfInBounds_toArray, List.set_cons_zero, List.set_cons_succ]
        refine wpAnyH_take (i := 23) (oi := { dst := some 38, op := Op.move (Operand.tmp 6), type := _, pos := _, after := _, guard := some (19, false) }) (v := undef) rfl (by kernel_rfl) (by kernel_rfl) (by kernel_rfl) (fun _ _ _ h => h) (Or.inr ⟨by rfl, rfl⟩) (by assumption) ?_
        try simp only [Act.put, List.setIfInBounds_toArray, List.set_cons_zero, List.set_cons_succ]
        refine wpAnyH_take (i := 24) (oi := { dst := some 39, op := Op.binOp BinOp.sub 3 (Operand.tmp 38) (Operand.const (Value.int IntKind.i64 1)) 3, type := _, pos := _, after := _, guard := some (19, false) }) (v := undef) rfl (by kernel_rfl) (by kernel_rfl) (by kernel_rfl) (fun _ _ _ h => h) (Or.inr ⟨by rfl, rfl⟩) (by assumption) ?_
        try simp only [Act.put, List.setIfInBounds_toArray, List.set_cons_zero, List.set_cons_succ]
        refine wpAnyH_take (i := 25) (oi := { dst := some 40, op := Op.indexAddr 22 (Operand.tmp 37) (Operand.tmp 39), type := _, pos := _, after := _, guard := some (19, false) }) (v := undef) rfl (by kernel_rfl) (by kernel_rfl) (by kernel_rfl) (fun _ _ _ h => h) (Or.inr ⟨by rfl, rfl⟩) (by assumption) ?_
        try simp only [Act.put, List.setIfInBounds_toArray, List.set_cons_zero, List.set_cons_succ]
        refine wpAnyH_take (i := 26) (oi := { dst := some 41, op := Op.load 3 (Operand.tmp 40), type := _, pos := _, after := _, guard := some (19, false) }) (v := undef) rfl (by kernel_rfl) (by kernel_rfl) (by kernel_rfl) (fun _ _ _ h => h) (Or.inr ⟨by rfl, rfl⟩) (by assumption) ?_
        try simp only [Act.put, List.setIfInBounds_toArray, List.set_cons_zero, List.set_cons_succ]
        refine wpAnyH_take (i := 27) (oi := { dst := some 42, op := Op.call { callee := Callee.value (Operand.func 61), args := #[Operand.tmp 36, Operand.tmp 41], argTypes := #[22, 3] }, type := _, pos := _, after := _, guard := some (19, false) }) (v := undef) rfl (by kernel_rfl) (by kernel_rfl) (by kernel_rfl) (fun _ _ _ h => h) (Or.inr ⟨by rfl, rfl⟩) (by assumption) ?_
        try simp only [Act.put, List.setIfInBounds_toArray, List.set_cons_zero, List.set_cons_succ]
        refine wpAnyH_take (i := 28) (oi := { dst := some 43, op := Op.unOp UnOp.not 4 (Operand.tmp 42), type := _, pos := _, after := _, guard := some (19, false) }) (v := undef) rfl (by kernel_rfl) (by kernel_rfl) (by kernel_rfl) (fun _ _ _ h => h) (Or.inr ⟨by rfl, rfl⟩) (by assumption) ?_
        try simp only [Act.put, List.setIfInBounds_toArray, List.set_cons_zero, List.set_cons_succ]
        refine wpAnyH_take (i := 29) (oi := { dst := some 44, op := Op.pick (Operand.tmp 34) (Operand.const (Value.bool true)) (Operand.tmp 43), type := _, pos := _, after := _, guard := some (13, true) }) (v := undef) rfl (by kernel_rfl) (by kernel_rfl) (by kernel_rfl) (fun _ _ _ h => h) (Or.inr ⟨by rfl, rfl⟩) (by assumption) ?_
        try simp only [Act.put, List.setIfInBounds_toArray, List.set_cons_zero, List.set_cons_succ]
        refine wpAnyH_take (i := 30) (oi := { dst := some 45, op := Op.pick (Operand.tmp 28) (Operand.tmp 44) (Operand.const (Value.bool false)), type := _, pos := _, after := _, guard := none }) (v := ?_) rfl (by kernel_rfl) (by kernel_rfl) (by kernel_rfl) (fun _ _ _ h => h) (Or.inl ⟨by rfl, ?_⟩) (by assumption) ?_
        rotate_left
        · intro w hSw; (try dsimp only at hSw); go_simp; try with_reducible rfl
        try simp only [Act.put, List.setIfInBounds_toArray, List.set_cons_zero, List.set_cons_succ]
        refine wpAnyH_take (i := 31) (oi := { dst := some 46, op := Op.indexAddr 28 (Operand.tmp 15) (Operand.tmp 16), type := _, pos := _, after := _, guard := none }) (v := ?_) rfl (by kernel_rfl) (by kernel_rfl) (by kernel_rfl) (fun _ _ _ h => h) (Or.inl ⟨by rfl, ?_⟩) (by assumption) ?_
        rotate_left
        · intro w hSw; (try dsimp only at hSw); go_simp; try with_reducible rfl
        try simp only [Act.put, List.setIfInBounds_toArray, List.set_cons_zero, List.set_cons_succ]
        refine wpAnyH_ready (rs := [32]) (by kernel_rfl) (by simp) ?_
        refine AllReadyH.cons (o := { dst := none, op := Op.store 4 (Operand.tmp 46) (Operand.tmp 45), type := _, pos := _, after := _, guard := none }) rfl (fun K hK => ?_) AllReadyH.nil
        go_simp
        refine hK.out _ _ (by exact HSN.out) (fun hHeld => ?_)
        clear hK K
        try simp only [Act.put, List.setIfInBounds_toArray, List.set_cons_zero, List.set_cons_succ]
        refine wpAnyH_done (by kernel_rfl) ?_ _
        all_goals
          go_wp2_with fail
          go_roundw
          case rel => exact ⟨1, by omega, by go_num, HN, HX2, HW2⟩
          case measure => simp [intOf]; omega
      | succ j =>
        have hwj : IntKind.i64.wrap (j : Int) = (j : Int) := by rw [IntKind.wrap_i64]; omega
        have hj2 : j < n := by omega
        have hj0 : (0 : Int) ≤ (j : Int) + 1 := by omega
        have hj1 : (j : Int) + 1 < (n : Int) := by omega
        obtain ⟨b', o', cm'', hem', -, -, hcy⟩ := HMw.out.at (j := j) (by rw [← HNN.out]; omega)
        rw [← HNN.out] at hem'
        obtain ⟨⟨rfl, rfl⟩, -⟩ : (b = b' ∧ o = o') ∧ cm = cm'' := by simpa using hem'
        replace hcy := (cell_same (HWr.out.block b hbm)).trans hcy
        have hcp := HG.out.cell (j := j) (by rw [hidTo_len (by omega)]; omega)
        rw [hidTo_nth (by omega)] at hcp
        obtain ⟨y, hy⟩ : ∃ y, y = nth ids j := ⟨_, rfl⟩
        rw [← hy] at hcy
        have HY := hid (show nth l j = y by rw [HLnth.out j (by omega), hy])
        have HCK := hid (fun Y hY => HCK0.out Y hY y)
        have HV := hid (show hidAt t.ig t.kp l (j + 1) = (inL t.ig z && (hidAt t.ig t.kp l j || !inL t.kp y)) by rw [← HZ.out, ← HY.out]; rfl)
        obtain ⟨pv, hpv⟩ : ∃ pv, pv = hidAt t.ig t.kp l j := ⟨_, rfl⟩
        rw [← hpv] at hcp HV
        clear hem' hy hpv HCK0
        cases hi : inL t.ig z with
        | false =>
          have HN := hid (show BoolBlk (wr.drew.setCell ⟨q + 1, (j + 1), none⟩ (.bool false)) (q + 1) (hidTo t.ig t.kp l n ((j + 1) + 1)) by rw [hidTo_step (v := false) hlt (by rw [HV.out, hi]; rfl)]; exact BoolBlk.set (w := wr.drew) HG.out _ _)
          have HX2 := hid (show (wr.drew.setCell ⟨q + 1, (j + 1), none⟩ (.bool false)).heap[q]? = _ from (heap_setCell_other _ _ _ _ (by simp)).trans HX.out)
          have HW2 := hid (show Below q w (wr.drew.setCell ⟨q + 1, (j + 1), none⟩ (.bool false)) from HW.out.drew.setCell (p := ⟨q + 1, (j + 1), none⟩) (by show q ≤ q + 1; omega) _)
          have HS := hid (And.intro f0 (And.intro f1 (And.intro hcm (And.intro hcy hcp))))
          have HSN := hid (show (wr.drew.setCell ⟨q + 1, (j + 1), none⟩ (.bool false)).cell? ⟨q, 0, none⟩ = some (.slice I t.ig.length ic) ∧ (wr.drew.setCell ⟨q + 1, (j + 1), none⟩ (.bool false)).cell? ⟨q, 1, none⟩ = some (.slice K t.kp.length kc) ∧ (wr.drew.setCell ⟨q + 1, (j + 1), none⟩ (.bool false)).cell? ⟨b, o + (j + 1), none⟩ = some (.int .i64 z) ∧
              (wr.drew.setCell ⟨q + 1, (j + 1), none⟩ (.bool false)).cell? ⟨b, o + j, none⟩ = some (.int .i64 y) ∧ (wr.drew.setCell ⟨q + 1, (j + 1), none⟩ (.bool false)).cell? ⟨q + 1, j, none⟩ = some (.bool pv) from
            ⟨(cell_set_other (.inl (by omega))).trans f0, (cell_set_other (.inl (by omega))).trans f1, (cell_set_other (.inl HBne.out.1)).trans hcm, (cell_set_other (.inl HBne.out.1)).trans hcy, (cell_set_other (.inr (by omega))).trans hcp⟩)
          rw [hi] at HCI
          clear hi
          go_wp2_with fail
          refine wp_region_held_drew (S := (fun Y => Y.cell? ⟨q, 0, none⟩ = some (.slice I t.ig.length ic) ∧ Y.cell? ⟨q, 1, none⟩ = some (.slice K t.kp.length kc) ∧ Y.cell? ⟨b, o + (j + 1), none⟩ = some (.int .i64 z) ∧ Y.cell? ⟨b, o + j, none⟩ = some (.int .i64 y) ∧ Y.cell? ⟨q + 1, j, none⟩ = some (.bool pv))) (by kernel_rfl) (by exact HS.out) (fun hHeld => ?_)
          refine wpAnyH_take (i := 0) (oi := { dst := some 15, op := Op.move (Operand.tmp 5), type := _, pos := _, after := _, guard := none }) (v := ?_) rfl (by kernel_rfl) (by kernel_rfl) (by kernel_rfl) (fun _ _ _ h => h) (Or.inl ⟨by rfl, ?_⟩) (by assumption) ?_
          rotate_left
          · intro w hSw; (try dsimp only at hSw); go_simp; try with_reducible rfl
          try simp only [Act.put, List.setIfInBounds_toArray, List.set_cons_zero, List.set_cons_succ]
          refine wpAnyH_take (i := 1) (oi := { dst := some 16, op := Op.move (Operand.tmp 6), type := _, pos := _, after := _, guard := none }) (v := ?_) rfl (by kernel_rfl) (by kernel_rfl) (by kernel_rfl) (fun _ _ _ h => h) (Or.inl ⟨by rfl, ?_⟩) (by assumption) ?_
          rotate_left
          · intro w hSw; (try dsimp only at hSw); go_simp; try with_reducible rfl
          try simp only [Act.put, List.setIfInBounds_toArray, List.set_cons_zero, List.set_cons_succ]
          refine wpAnyH_take (i := 2) (oi := { dst := some 17, op := Op.move (Operand.tmp 6), type := _, pos := _, after := _, guard := none }) (v := ?_) rfl (by kernel_rfl) (by kernel_rfl) (by kernel_rfl) (fun _ _ _ h => h) (Or.inl ⟨by rfl, ?_⟩) (by assumption) ?_
          rotate_left
          · intro w hSw; (try dsimp only at hSw); go_simp; try with_reducible rfl
          try simp only [Act.put, List.setIfInBounds_toArray, List.set_cons_zero, List.set_cons_succ]
          refine wpAnyH_take (i := 3) (oi := { dst := some 18, op := Op.binOp BinOp.gtr 3 (Operand.tmp 17) (Operand.const (Value.int IntKind.i64 0)) 3, type := _, pos := _, after := _, guard := none }) (v := ?_) rfl (by kernel_rfl) (by kernel_rfl) (by kernel_rfl) (fun _ _ _ h => h) (Or.inl ⟨by rfl, ?_⟩) (by assumption) ?_
          rotate_left
          · intro w hSw; (try dsimp only at hSw); go_simp; try with_reducible rfl
          try simp only [Act.put, List.setIfInBounds_toArray, List.set_cons_zero, List.set_cons_succ]
          refine wpAnyH_take (i := 4) (oi := { dst := some 19, op := Op.move (Operand.tmp 18), type := _, pos := _, after := _, guard := none }) (v := ?_) rfl (by kernel_rfl) (by kernel_rfl) (by kernel_rfl) (fun _ _ _ h => h) (Or.inl ⟨by rfl, ?_⟩) (by assumption) ?_
          rotate_left
          · intro w hSw; (try dsimp only at hSw); go_simp; try with_reducible rfl
          try simp only [Act.put, List.setIfInBounds_toArray, List.set_cons_zero, List.set_cons_succ]
          refine wpAnyH_take (i := 5) (oi := { dst := some 20, op := Op.fieldAddr 33 (Operand.tmp 2) 0, type := _, pos := _, after := _, guard := some (4, true) }) (v := ?_) rfl (by kernel_rfl) (by kernel_rfl) (by kernel_rfl) (fun _ _ _ h => h) (Or.inl ⟨by rfl, ?_⟩) (by assumption) ?_
          rotate_left
          · intro w hSw; (try dsimp only at hSw); go_simp; try with_reducible rfl
          try simp only [Act.put, List.setIfInBounds_toArray, List.set_cons_zero, List.set_cons_succ]
          refine wpAnyH_take (i := 6) (oi := { dst := some 21, op := Op.load 22 (Operand.tmp 20), type := _, pos := _, after := _, guard := some (4, true) }) (v := ?_) rfl (by kernel_rfl) (by kernel_rfl) (by kernel_rfl) (fun _ _ _ h => h) (Or.inl ⟨by rfl, ?_⟩) (by assumption) ?_
          rotate_left
          · intro w hSw; (try dsimp only at hSw); go_simp; try with_reducible rfl
          try simp only [Act.put, List.setIfInBounds_toArray, List.set_cons_zero, List.set_cons_succ]
          refine wpAnyH_take (i := 7) (oi := { dst := some 22, op := Op.move (Operand.tmp 1), type := _, pos := _, after := _, guard := some (4, true) }) (v := ?_) rfl (by kernel_rfl) (by kernel_rfl) (by kernel_rfl) (fun _ _ _ h => h) (Or.inl ⟨by rfl, ?_⟩) (by assumption) ?_
          rotate_left
          · intro w hSw; (try dsimp only at hSw); go_simp; try with_reducible rfl
          try simp only [Act.put, List.setIfInBounds_toArray, List.set_cons_zero, List.set_cons_succ]
          refine wpAnyH_take (i := 8) (oi := { dst := some 23, op := Op.move (Operand.tmp 6), type := _, pos := _, after := _, guard := some (4, true) }) (v := ?_) rfl (by kernel_rfl) (by kernel_rfl) (by kernel_rfl) (fun _ _ _ h => h) (Or.inl ⟨by rfl, ?_⟩) (by assumption) ?_
          rotate_left
          · intro w hSw; (try dsimp only at hSw); go_simp; try with_reducible rfl
          try simp only [Act.put, List.setIfInBounds_toArray, List.set_cons_zero, List.set_cons_succ]
          refine wpAnyH_take (i := 9) (oi := { dst := some 24, op := Op.indexAddr 22 (Operand.tmp 22) (Operand.tmp 23), type := _, pos := _, after := _, guard := some (4, true) }) (v := ?_) rfl (by kernel_rfl) (by kernel_rfl) (by kernel_rfl) (fun _ _ _ h => h) (Or.inl ⟨by rfl, ?_⟩) (by assumption) ?_
          rotate_left
          · intro w hSw; (try dsimp only at hSw); go_simp; try with_reducible rfl
          try simp only [Act.put, List.setIfInBounds_toArray, List.set_cons_zero, List.set_cons_succ]
          refine wpAnyH_take (i := 10) (oi := { dst := some 25, op := Op.load 3 (Operand.tmp 24), type := _, pos := _, after := _, guard := some (4, true) }) (v := ?_) rfl (by kernel_rfl) (by kernel_rfl) (by kernel_rfl) (fun _ _ _ h => h) (Or.inl ⟨by rfl, ?_⟩) (by assumption) ?_
          rotate_left
          · intro w hSw; (try dsimp only at hSw); go_simp; try with_reducible rfl
          try simp only [Act.put, List.setIfInBounds_toArray, List.set_cons_zero, List.set_cons_succ]
          refine wpAnyH_ready (rs := [11]) (by kernel_rfl) (by simp) ?_
          refine AllReadyH.cons (o := { dst := some 26, op := Op.call { callee := Callee.value (Operand.func 61), args := #[Operand.tmp 21, Operand.tmp 25], argTypes := #[22, 3] }, type := _, pos := _, after := _, guard := some (4, true) }) rfl (fun K hK => ?_) AllReadyH.nil
          go_simp
          refine (HCI.out wr.drew (fun _ _ _ => rfl)).mono ?_; rintro e w1 ⟨rfl, rfl⟩; go_wp2_with fail
          refine hK.out _ _ (by exact HS.out) (fun hHeld => ?_)
          clear hK K
          try simp only [Act.put, List.setIfInBounds_toArray, List.set_cons_zero, List.set_cons_succ]
          refine wpAnyH_take (i := 12) (oi := { dst := some 27, op := Op.pick (Operand.tmp 19) (Operand.tmp 26) (Operand.const (Value.bool false)), type := _, pos := _, after := _, guard := none }) (v := ?_) rfl (by kernel_rfl) (by kernel_rfl) (by kernel_rfl) (fun _ _ _ h => h) (Or.inl ⟨by rfl, ?_⟩) (by assumption) ?_
          rotate_left
          · intro w hSw; (try dsimp only at hSw); go_simp; try with_reducible rfl
          try simp only [Act.put, List.setIfInBounds_toArray, List.set_cons_zero, List.set_cons_succ]
          refine wpAnyH_take (i := 13) (oi := { dst := some 28, op := Op.move (Operand.tmp 27), type := _, pos := _, after := _, guard := none }) (v := ?_) rfl (by kernel_rfl) (by kernel_rfl) (by kernel_rfl) (fun _ _ _ h => h) (Or.inl ⟨by rfl, ?_⟩) (by assumption) ?_
          rotate_left
          · intro w hSw; (try dsimp only at hSw); go_simp; try with_reducible rfl
          try simp only [Act.put, List.setIfInBounds_toArray, List.set_cons_zero, List.set_cons_succ]
          refine wpAnyH_take (i := 14) (oi := { dst := some 29, op := Op.move (Operand.tmp 5), type := _, pos := _, after := _, guard := some (13, true) }) (v := undef) rfl (by kernel_rfl) (by kernel_rfl) (by kernel_rfl) (fun _ _ _ h => h) (Or.inr ⟨by rfl, rfl⟩) (by assumption) ?_
          try simp only [Act.put, List.setIfInBounds_toArray, List.set_cons_zero, List.set_cons_succ]
          refine wpAnyH_take (i := 15) (oi := { dst := some 30, op := Op.move (Operand.tmp 6), type := _, pos := _, after := _, guard := some (13, true) }) (v := undef) rfl (by kernel_rfl) (by kernel_rfl) (by kernel_rfl) (fun _ _ _ h => h) (Or.inr ⟨by rfl, rfl⟩) (by assumption) ?_
          try simp only [Act.put, List.setIfInBounds_toArray, List.set_cons_zero, List.set_cons_succ]
          refine wpAnyH_take (i := 16) (oi := { dst := some 31, op := Op.binOp BinOp.sub 3 (Operand.tmp 30) (Operand.const (Value.int IntKind.i64 1)) 3, type := _, pos := _, after := _, guard := some (13, true) }) (v := undef) rfl (by kernel_rfl) (by kernel_rfl) (by kernel_rfl) (fun _ _ _ h => h) (Or.inr ⟨by rfl, rfl⟩) (by assumption) ?_
          try simp only [Act.put, List.setIfInBounds_toArray, List.set_cons_zero, List.set_cons_succ]
          refine wpAnyH_take (i := 17) (oi := { dst := some 32, op := Op.indexAddr 28 (Operand.tmp 29) (Operand.tmp 31), type := _, pos := _, after := _, guard := some (13, true) }) (v := undef) rfl (by kernel_rfl) (by kernel_rfl) (by kernel_rfl) (fun _ _ _ h => h) (Or.inr ⟨by rfl, rfl⟩) (by assumption) ?_
          try simp only [Act.put, List.setIfInBounds_toArray, List.set_cons_zero, List.set_cons_succ]
          refine wpAnyH_take (i := 18) (oi := { dst := some 33, op := Op.load 4 (Operand.tmp 32), type := _, pos := _, after := _, guard := some (13, true) }) (v := undef) rfl (by kernel_rfl) (by kernel_rfl) (by kernel_rfl) (fun _ _ _ h => h) (Or.inr ⟨by rfl, rfl⟩) (by assumption) ?_
          try simp only [Act.put, List.setIfInBounds_toArray, List.set_cons_zero, List.set_cons_succ]
          refine wpAnyH_take (i := 19) (oi := { dst := some 34, op := Op.move (Operand.tmp 33), type := _, pos := _, after := _, guard := some (13, true) }) (v := undef) rfl (by kernel_rfl) (by kernel_rfl) (by kernel_rfl) (fun _ _ _ h => h) (Or.inr ⟨by rfl, rfl⟩) (by assumption) ?_
          try simp only [Act.put, List.setIfInBounds_toArray, List.set_cons_zero, List.set_cons_succ]
          refine wpAnyH_take (i := 20) (oi := { dst := some 35, op := Op.fieldAddr 33 (Operand.tmp 2) 1, type := _, pos := _, after := _, guard := some (19, false) }) (v := undef) rfl (by kernel_rfl) (by kernel_rfl) (by kernel_rfl) (fun _ _ _ h => h) (Or.inr ⟨by rfl, rfl⟩) (by assumption) ?_
          try simp only [Act.put, List.setIfInBounds_toArray, List.set_cons_zero, List.set_cons_succ]
          refine wpAnyH_take (i := 21) (oi := { dst := some 36, op := Op.load 22 (Operand.tmp 35), type := _, pos := _, after := _, guard := some (19, false) }) (v := undef) rfl (by kernel_rfl) (by kernel_rfl) (by kernel_rfl) (fun _ _ _ h => h) (Or.inr ⟨by rfl, rfl⟩) (by assumption) ?_
          try simp only [Act.put, List.setIfInBounds_toArray, List.set_cons_zero, List.set_cons_succ]
          refine wpAnyH_take (i := 22) (oi := { dst := some 37, op := Op.move (Operand.tmp 1), type := _, pos := _, after := _, guard := some (19, false) }) (v := undef) rfl (by kernel_rfl) (by kernel_rfl) (by kernel_rfl) (fun _ _ _ h => h) (Or.inr ⟨by rfl, rfl⟩) (by assumption) ?_
          try simp only [Act.put, List.setIfInBounds_toArray, List.set_cons_zero, List.set_cons_succ]
          refine wpAnyH_take (i := 23) (oi := { dst := some 38, op := Op.move (Operand.tmp 6), type := _, pos := _, after := _, guard := some (19, false) }) (v := undef) rfl (by kernel_rfl) (by kernel_rfl) (by kernel_rfl) (fun _ _ _ h => h) (Or.inr ⟨by rfl, rfl⟩) (by assumption) ?_
          try simp only [Act.put, List.setIfInBounds_toArray, List.set_cons_zero, List.set_cons_succ]
          refine wpAnyH_take (i := 24) (oi := { dst := some 39, op := Op.binOp BinOp.sub 3 (Operand.tmp 38) (Operand.const (Value.int IntKind.i64 1)) 3, type := _, pos := _, after := _, guard := some (19, false) }) (v := undef) rfl (by kernel_rfl) (by kernel_rfl) (by kernel_rfl) (fun _ _ _ h => h) (Or.inr ⟨by rfl, rfl⟩) (by assumption) ?_
          try simp only [Act.put, List.setIfInBounds_toArray, List.set_cons_zero, List.set_cons_succ]
          refine wpAnyH_take (i := 25) (oi := { dst := some 40, op := Op.indexAddr 22 (Operand.tmp 37) (Operand.tmp 39), type := _, pos := _, after := _, guard := some (19, false) }) (v := undef) rfl (by kernel_rfl) (by kernel_rfl) (by kernel_rfl) (fun _ _ _ h => h) (Or.inr ⟨by rfl, rfl⟩) (by assumption) ?_
          try simp only [Act.put, List.setIfInBounds_toArray, List.set_cons_zero, List.set_cons_succ]
          refine wpAnyH_take (i := 26) (oi := { dst := some 41, op := Op.load 3 (Operand.tmp 40), type := _, pos := _, after := _, guard := some (19, false) }) (v := undef) rfl (by kernel_rfl) (by kernel_rfl) (by kernel_rfl) (fun _ _ _ h => h) (Or.inr ⟨by rfl, rfl⟩) (by assumption) ?_
          try simp only [Act.put, List.setIfInBounds_toArray, List.set_cons_zero, List.set_cons_succ]
          refine wpAnyH_take (i := 27) (oi := { dst := some 42, op := Op.call { callee := Callee.value (Operand.func 61), args := #[Operand.tmp 36, Operand.tmp 41], argTypes := #[22, 3] }, type := _, pos := _, after := _, guard := some (19, false) }) (v := undef) rfl (by kernel_rfl) (by kernel_rfl) (by kernel_rfl) (fun _ _ _ h => h) (Or.inr ⟨by rfl, rfl⟩) (by assumption) ?_
          try simp only [Act.put, List.setIfInBounds_toArray, List.set_cons_zero, List.set_cons_succ]
          refine wpAnyH_take (i := 28) (oi := { dst := some 43, op := Op.unOp UnOp.not 4 (Operand.tmp 42), type := _, pos := _, after := _, guard := some (19, false) }) (v := undef) rfl (by kernel_rfl) (by kernel_rfl) (by kernel_rfl) (fun _ _ _ h => h) (Or.inr ⟨by rfl, rfl⟩) (by assumption) ?_
          try simp only [Act.put, List.setIfInBounds_toArray, List.set_cons_zero, List.set_cons_succ]
          refine wpAnyH_take (i := 29) (oi := { dst := some 44, op := Op.pick (Operand.tmp 34) (Operand.const (Value.bool true)) (Operand.tmp 43), type := _, pos := _, after := _, guard := some (13, true) }) (v := undef) rfl (by kernel_rfl) (by kernel_rfl) (by kernel_rfl) (fun _ _ _ h => h) (Or.inr ⟨by rfl, rfl⟩) (by assumption) ?_
          try simp only [Act.put, List.setIfInBounds_toArray, List.set_cons_zero, List.set_cons_succ]
          refine wpAnyH_take (i := 30) (oi := { dst := some 45, op := Op.pick (Operand.tmp 28) (Operand.tmp 44) (Operand.const (Value.bool false)), type := _, pos := _, after := _, guard := none }) (v := ?_) rfl (by kernel_rfl) (by kernel_rfl) (by kernel_rfl) (fun _ _ _ h => h) (Or.inl ⟨by rfl, ?_⟩) (by assumption) ?_
          rotate_left
          · intro w hSw; (try dsimp only at hSw); go_simp; try with_reducible rfl
          try simp only [Act.put, List.setIfInBounds_toArray, List.set_cons_zero, List.set_cons_succ]
          refine wpAnyH_take (i := 31) (oi := { dst := some 46, op := Op.indexAddr 28 (Operand.tmp 15) (Operand.tmp 16), type := _, pos := _, after := _, guard := none }) (v := ?_) rfl (by kernel_rfl) (by kernel_rfl) (by kernel_rfl) (fun _ _ _ h => h) (Or.inl ⟨by rfl, ?_⟩) (by assumption) ?_
          rotate_left
          · intro w hSw; (try dsimp only at hSw); go_simp; try with_reducible rfl
          try simp only [Act.put, List.setIfInBounds_toArray, List.set_cons_zero, List.set_cons_succ]
          refine wpAnyH_ready (rs := [32]) (by kernel_rfl) (by simp) ?_
          refine AllReadyH.cons (o := { dst := none, op := Op.store 4 (Operand.tmp 46) (Operand.tmp 45), type := _, pos := _, after := _, guard := none }) rfl (fun K hK => ?_) AllReadyH.nil
          go_simp
          refine hK.out _ _ (by exact HSN.out) (fun hHeld => ?_)
          clear hK K
          try simp only [Act.put, List.setIfInBounds_toArray, List.set_cons_zero, List.set_cons_succ]
          refine wpAnyH_done (by kernel_rfl) ?_ _
          all_goals
            go_wp2_with fail
            go_roundw
            case rel => exact ⟨j + 1 + 1, by omega, by go_num, HN, HX2, HW2⟩
            case measure => simp [intOf]; omega
        | true =>
          rw [hi] at HCI HV
          clear hi
          cases pv with
          | true =>
            have HN := hid (show BoolBlk (wr.drew.setCell ⟨q + 1, (j + 1), none⟩ (.bool true)) (q + 1) (hidTo t.ig t.kp l n ((j + 1) + 1)) by rw [hidTo_step (v := true) hlt (by rw [HV.out]; rfl)]; exact BoolBlk.set (w := wr.drew) HG.out _ _)
            have HX2 := hid (show (wr.drew.setCell ⟨q + 1, (j + 1), none⟩ (.bool true)).heap[q]? = _ from (heap_setCell_other _ _ _ _ (by simp)).trans HX.out)
            have HW2 := hid (show Below q w (wr.drew.setCell ⟨q + 1, (j + 1), none⟩ (.bool true)) from HW.out.drew.setCell (p := ⟨q + 1, (j + 1), none⟩) (by show q ≤ q + 1; omega) _)
            have HS := hid (And.intro f0 (And.intro f1 (And.intro hcm (And.intro hcy hcp))))
            have HSN := hid (show (wr.drew.setCell ⟨q + 1, (j + 1), none⟩ (.bool true)).cell? ⟨q, 0, none⟩ = some (.slice I t.ig.length ic) ∧ (wr.drew.setCell ⟨q + 1, (j + 1), none⟩ (.bool true)).cell? ⟨q, 1, none⟩ = some (.slice K t.kp.length kc) ∧ (wr.drew.setCell ⟨q + 1, (j + 1), none⟩ (.bool true)).cell? ⟨b, o + (j + 1), none⟩ = some (.int .i64 z) ∧
                (wr.drew.setCell ⟨q + 1, (j + 1), none⟩ (.bool true)).cell? ⟨b, o + j, none⟩ = some (.int .i64 y) ∧ (wr.drew.setCell ⟨q + 1, (j + 1), none⟩ (.bool true)).cell? ⟨q + 1, j, none⟩ = some (.bool true) from
              ⟨(cell_set_other (.inl (by omega))).trans f0, (cell_set_other (.inl (by omega))).trans f1, (cell_set_other (.inl HBne.out.1)).trans hcm, (cell_set_other (.inl HBne.out.1)).trans hcy, (cell_set_other (.inr (by omega))).trans hcp⟩)
            go_wp2_with fail
            refine wp_region_held_drew (S := (fun Y => Y.cell? ⟨q, 0, none⟩ = some (.slice I t.ig.length ic) ∧ Y.cell? ⟨q, 1, none⟩ = some (.slice K t.kp.length kc) ∧ Y.cell? ⟨b, o + (j + 1), none⟩ = some (.int .i64 z) ∧ Y.cell? ⟨b, o + j, none⟩ = some (.int .i64 y) ∧ Y.cell? ⟨q + 1, j, none⟩ = some (.bool true))) (by kernel_rfl) (by exact HS.out) (fun hHeld => ?_)
            refine wpAnyH_take (i := 0) (oi := { dst := some 15, op := Op.move (Operand.tmp 5), type := _, pos := _, after := _, guard := none }) (v := ?_) rfl (by kernel_rfl) (by kernel_rfl) (by kernel_rfl) (fun _ _ _ h => h) (Or.inl ⟨by rfl, ?_⟩) (by assumption) ?_
            rotate_left
            · intro w hSw; (try dsimp only at hSw); go_simp; try with_reducible rfl
            try simp only [Act.put, List.setIfInBounds_toArray, List.set_cons_zero, List.set_cons_succ]
            refine wpAnyH_take (i := 1) (oi := { dst := some 16, op := Op.move (Operand.tmp 6), type := _, pos := _, after := _, guard := none }) (v := ?_) rfl (by kernel_rfl) (by kernel_rfl) (by kernel_rfl) (fun _ _ _ h => h) (Or.inl ⟨by rfl, ?_⟩) (by assumption) ?_
            rotate_left
            · intro w hSw; (try dsimp only at hSw); go_simp; try with_reducible rfl
            try simp only [Act.put, List.setIfInBounds_toArray, List.set_cons_zero, List.set_cons_succ]
            refine wpAnyH_take (i := 2) (oi := { dst := some 17, op := Op.move (Operand.tmp 6), type := _, pos := _, after := _, guard := none }) (v := ?_) rfl (by kernel_rfl) (by kernel_rfl) (by kernel_rfl) (fun _ _ _ h => h) (Or.inl ⟨by rfl, ?_⟩) (by assumption) ?_
            rotate_left
            · intro w hSw; (try dsimp only at hSw); go_simp; try with_reducible rfl
            try simp only [Act.put, List.setIfInBounds_toArray, List.set_cons_zero, List.set_cons_succ]
            refine wpAnyH_take (i := 3) (oi := { dst := some 18, op := Op.binOp BinOp.gtr 3 (Operand.tmp 17) (Operand.const (Value.int IntKind.i64 0)) 3, type := _, pos := _, after := _, guard := none }) (v := ?_) rfl (by kernel_rfl) (by kernel_rfl) (by kernel_rfl) (fun _ _ _ h => h) (Or.inl ⟨by rfl, ?_⟩) (by assumption) ?_
            rotate_left
            · intro w hSw; (try dsimp only at hSw); go_simp; try with_reducible rfl
            try simp only [Act.put, List.setIfInBounds_toArray, List.set_cons_zero, List.set_cons_succ]
            refine wpAnyH_take (i := 4) (oi := { dst := some 19, op := Op.move (Operand.tmp 18), type := _, pos := _, after := _, guard := none }) (v := ?_) rfl (by kernel_rfl) (by kernel_rfl) (by kernel_rfl) (fun _ _ _ h => h) (Or.inl ⟨by rfl, ?_⟩) (by assumption) ?_
            rotate_left
            · intro w hSw; (try dsimp only at hSw); go_simp; try with_reducible rfl
            try simp only [Act.put, List.setIfInBounds_toArray, List.set_cons_zero, List.set_cons_succ]
            refine wpAnyH_take (i := 5) (oi := { dst := some 20, op := Op.fieldAddr 33 (Operand.tmp 2) 0, type := _, pos := _, after := _, guard := some (4, true) }) (v := ?_) rfl (by kernel_rfl) (by kernel_rfl) (by kernel_rfl) (fun _ _ _ h => h) (Or.inl ⟨by rfl, ?_⟩) (by assumption) ?_
            rotate_left
            · intro w hSw; (try dsimp only at hSw); go_simp; try with_reducible rfl
            try simp only [Act.put, List.setIfInBounds_toArray, List.set_cons_zero, List.set_cons_succ]
            refine wpAnyH_take (i := 6) (oi := { dst := some 21, op := Op.load 22 (Operand.tmp 20), type := _, pos := _, after := _, guard := some (4, true) }) (v := ?_) rfl (by kernel_rfl) (by kernel_rfl) (by kernel_rfl) (fun _ _ _ h => h) (Or.inl ⟨by rfl, ?_⟩) (by assumption) ?_
            rotate_left
            · intro w hSw; (try dsimp only at hSw); go_simp; try with_reducible rfl
            try simp only [Act.put, List.setIfInBounds_toArray, List.set_cons_zero, List.set_cons_succ]
            refine wpAnyH_take (i := 7) (oi := { dst := some 22, op := Op.move (Operand.tmp 1), type := _, pos := _, after := _, guard := some (4, true) }) (v := ?_) rfl (by kernel_rfl) (by kernel_rfl) (by kernel_rfl) (fun _ _ _ h => h) (Or.inl ⟨by rfl, ?_⟩) (by assumption) ?_
            rotate_left
            · intro w hSw; (try dsimp only at hSw); go_simp; try with_reducible rfl
            try simp only [Act.put, List.setIfInBounds_toArray, List.set_cons_zero, List.set_cons_succ]
            refine wpAnyH_take (i := 8) (oi := { dst := some 23, op := Op.move (Operand.tmp 6), type := _, pos := _, after := _, guard := some (4, true) }) (v := ?_) rfl (by kernel_rfl) (by kernel_rfl) (by kernel_rfl) (fun _ _ _ h => h) (Or.inl ⟨by rfl, ?_⟩) (by assumption) ?_
            rotate_left
            · intro w hSw; (try dsimp only at hSw); go_simp; try with_reducible rfl
            try simp only [Act.put, List.setIfInBounds_toArray, List.set_cons_zero, List.set_cons_succ]
            refine wpAnyH_take (i := 9) (oi := { dst := some 24, op := Op.indexAddr 22 (Operand.tmp 22) (Operand.tmp 23), type := _, pos := _, after := _, guard := some (4, true) }) (v := ?_) rfl (by kernel_rfl) (by kernel_rfl) (by kernel_rfl) (fun _ _ _ h => h) (Or.inl ⟨by rfl, ?_⟩) (by assumption) ?_
            rotate_left
            · intro w hSw; (try dsimp only at hSw); go_simp; try with_reducible rfl
            try simp only [Act.put, List.setIfInBounds_toArray, List.set_cons_zero, List.set_cons_succ]
            refine wpAnyH_take (i := 10) (oi := { dst := some 25, op := Op.load 3 (Operand.tmp 24), type := _, pos := _, after := _, guard := some (4, true) }) (v := ?_) rfl (by kernel_rfl) (by kernel_rfl) (by kernel_rfl) (fun _ _ _ h => h) (Or.inl ⟨by rfl, ?_⟩) (by assumption) ?_
            rotate_left
            · intro w hSw; (try dsimp only at hSw); go_simp; try with_reducible rfl
            try simp only [Act.put, List.setIfInBounds_toArray, List.set_cons_zero, List.set_cons_succ]
            refine wpAnyH_ready (rs := [11]) (by kernel_rfl) (by simp) ?_
            refine AllReadyH.cons (o := { dst := some 26, op := Op.call { callee := Callee.value (Operand.func 61), args := #[Operand.tmp 21, Operand.tmp 25], argTypes := #[22, 3] }, type := _, pos := _, after := _, guard := some (4, true) }) rfl (fun K hK => ?_) AllReadyH.nil
            go_simp
            refine (HCI.out wr.drew (fun _ _ _ => rfl)).mono ?_; rintro e w1 ⟨rfl, rfl⟩; go_wp2_with fail
            refine hK.out _ _ (by exact HS.out) (fun hHeld => ?_)
            clear hK K
            try simp only [Act.put, List.setIfInBounds_toArray, List.set_cons_zero, List.set_cons_succ]
            refine wpAnyH_take (i := 12) (oi := { dst := some 27, op := Op.pick (Operand.tmp 19) (Operand.tmp 26) (Operand.const (Value.bool false)), type := _, pos := _, after := _, guard := none }) (v := ?_) rfl (by kernel_rfl) (by kernel_rfl) (by kernel_rfl) (fun _ _ _ h => h) (Or.inl ⟨by rfl, ?_⟩) (by assumption) ?_
            rotate_left
            · intro w hSw; (try dsimp only at hSw); go_simp; try with_reducible rfl
            try simp only [Act.put, List.setIfInBounds_toArray, List.set_cons_zero, List.set_cons_succ]
            refine wpAnyH_take (i := 13) (oi := { dst := some 28, op := Op.move (Operand.tmp 27), type := _, pos := _, after := _, guard := none }) (v := ?_) rfl (by kernel_rfl) (by kernel_rfl) (by kernel_rfl) (fun _ _ _ h => h) (Or.inl ⟨by rfl, ?_⟩) (by assumption) ?_
            rotate_left
            · intro w hSw; (try dsimp only at hSw); go_simp; try with_reducible rfl
            try simp only [Act.put, List.setIfInBounds_toArray, List.set_cons_zero, List.set_cons_succ]
            refine wpAnyH_take (i := 14) (oi := { dst := some 29, op := Op.move (Operand.tmp 5), type := _, pos := _, after := _, guard := some (13, true) }) (v := ?_) rfl (by kernel_rfl) (by kernel_rfl) (by kernel_rfl) (fun _ _ _ h => h) (Or.inl ⟨by rfl, ?_⟩) (by assumption) ?_
            rotate_left
            · intro w hSw; (try dsimp only at hSw); go_simp; try with_reducible rfl
            try simp only [Act.put, List.setIfInBounds_toArray, List.set_cons_zero, List.set_cons_succ]
            refine wpAnyH_take (i := 15) (oi := { dst := some 30, op := Op.move (Operand.tmp 6), type := _, pos := _, after := _, guard := some (13, true) }) (v := ?_) rfl (by kernel_rfl) (by kernel_rfl) (by kernel_rfl) (fun _ _ _ h => h) (Or.inl ⟨by rfl, ?_⟩) (by assumption) ?_
            rotate_left
            · intro w hSw; (try dsimp only at hSw); go_simp; try with_reducible rfl
            try simp only [Act.put, List.setIfInBounds_toArray, List.set_cons_zero, List.set_cons_succ]
            refine wpAnyH_take (i := 16) (oi := { dst := some 31, op := Op.binOp BinOp.sub 3 (Operand.tmp 30) (Operand.const (Value.int IntKind.i64 1)) 3, type := _, pos := _, after := _, guard := some (13, true) }) (v := ?_) rfl (by kernel_rfl) (by kernel_rfl) (by kernel_rfl) (fun _ _ _ h => h) (Or.inl ⟨by rfl, ?_⟩) (by assumption) ?_
            rotate_left
            · intro w hSw; (try dsimp only at hSw); go_simp; try with_reducible rfl
            try simp only [Act.put, List.setIfInBounds_toArray, List.set_cons_zero, List.set_cons_succ]
            refine wpAnyH_take (i := 17) (oi := { dst := some 32, op := Op.indexAddr 28 (Operand.tmp 29) (Operand.tmp 31), type := _, pos := _, after := _, guard := some (13, true) }) (v := ?_) rfl (by kernel_rfl) (by kernel_rfl) (by kernel_rfl) (fun _ _ _ h => h) (Or.inl ⟨by rfl, ?_⟩) (by assumption) ?_
            rotate_left
            · intro w hSw; (try dsimp only at hSw); go_simp; try with_reducible rfl
            try simp only [Act.put, List.setIfInBounds_toArray, List.set_cons_zero, List.set_cons_succ]
            refine wpAnyH_take (i := 18) (oi := { dst := some 33, op := Op.load 4 (Operand.tmp 32), type := _, pos := _, after := _, guard := some (13, true) }) (v := ?_) rfl (by kernel_rfl) (by kernel_rfl) (by kernel_rfl) (fun _ _ _ h => h) (Or.inl ⟨by rfl, ?_⟩) (by assumption) ?_
            rotate_left
            · intro w hSw; (try dsimp only at hSw); go_simp; try with_reducible rfl
            try simp only [Act.put, List.setIfInBounds_toArray, List.set_cons_zero, List.set_cons_succ]
            refine wpAnyH_take (i := 19) (oi := { dst := some 34, op := Op.move (Operand.tmp 33), type := _, pos := _, after := _, guard := some (13, true) }) (v := ?_) rfl (by kernel_rfl) (by kernel_rfl) (by kernel_rfl) (fun _ _ _ h => h) (Or.inl ⟨by rfl, ?_⟩) (by assumption) ?_
            rotate_left
            · intro w hSw; (try dsimp only at hSw); go_simp; try with_reducible rfl
            try simp only [Act.put, List.setIfInBounds_toArray, List.set_cons_zero, List.set_cons_succ]
            refine wpAnyH_take (i := 20) (oi := { dst := some 35, op := Op.fieldAddr 33 (Operand.tmp 2) 1, type := _, pos := _, after := _, guard := some (19, false) }) (v := undef) rfl (by kernel_rfl) (by kernel_rfl) (by kernel_rfl) (fun _ _ _ h => h) (Or.inr ⟨by rfl, rfl⟩) (by assumption) ?_
            try simp only [Act.put, List.setIfInBounds_toArray, List.set_cons_zero, List.set_cons_succ]
            refine wpAnyH_take (i := 21) (oi := { dst := some 36, op := Op.load 22 (Operand.tmp 35), type := _, pos := _, after := _, guard := some (19, false) }) (v := undef) rfl (by kernel_rfl) (by kernel_rfl) (by kernel_rfl) (fun _ _ _ h => h) (Or.inr ⟨by rfl, rfl⟩) (by assumption) ?_
            try simp only [Act.put, List.setIfInBounds_toArray, List.set_cons_zero, List.set_cons_succ]
            refine wpAnyH_take (i := 22) (oi := { dst := some 37, op := Op.move (Operand.tmp 1), type := _, pos := _, after := _, guard := some (19, false) }) (v := undef) rfl (by kernel_rfl) (by kernel_rfl) (by kernel_rfl) (fun _ _ _ h => h) (Or.inr ⟨by rfl, rfl⟩) (by assumption) ?_
            try simp only [Act.put, List.setIfInBounds_toArray, List.set_cons_zero, List.set_cons_succ]
            refine wpAnyH_take (i := 23) (oi := { dst := some 38, op := Op.move (Operand.tmp 6), type := _, pos := _, after := _, guard := some (19, false) }) (v := undef) rfl (by kernel_rfl) (by kernel_rfl) (by kernel_rfl) (fun _ _ _ h => h) (Or.inr ⟨by rfl, rfl⟩) (by assumption) ?_
            try simp only [Act.put, List.setIfInBounds_toArray, List.set_cons_zero, List.set_cons_succ]
            refine wpAnyH_take (i := 24) (oi := { dst := some 39, op := Op.binOp BinOp.sub 3 (Operand.tmp 38) (Operand.const (Value.int IntKind.i64 1)) 3, type := _, pos := _, after := _, guard := some (19, false) }) (v := undef) rfl (by kernel_rfl) (by kernel_rfl) (by kernel_rfl) (fun _ _ _ h => h) (Or.inr ⟨by rfl, rfl⟩) (by assumption) ?_
            try simp only [Act.put, List.setIfInBounds_toArray, List.set_cons_zero, List.set_cons_succ]
            refine wpAnyH_take (i := 25) (oi := { dst := some 40, op := Op.indexAddr 22 (Operand.tmp 37) (Operand.tmp 39), type := _, pos := _, after := _, guard := some (19, false) }) (v := undef) rfl (by kernel_rfl) (by kernel_rfl) (by kernel_rfl) (fun _ _ _ h => h) (Or.inr ⟨by rfl, rfl⟩) (by assumption) ?_
            try simp only [Act.put, List.setIfInBounds_toArray, List.set_cons_zero, List.set_cons_succ]
            refine wpAnyH_take (i := 26) (oi := { dst := some 41, op := Op.load 3 (Operand.tmp 40), type := _, pos := _, after := _, guard := some (19, false) }) (v := undef) rfl (by kernel_rfl) (by kernel_rfl) (by kernel_rfl) (fun _ _ _ h => h) (Or.inr ⟨by rfl, rfl⟩) (by assumption) ?_
            try simp only [Act.put, List.setIfInBounds_toArray, List.set_cons_zero, List.set_cons_succ]
            refine wpAnyH_take (i := 27) (oi := { dst := some 42, op := Op.call { callee := Callee.value (Operand.func 61), args := #[Operand.tmp 36, Operand.tmp 41], argTypes := #[22, 3] }, type := _, pos := _, after := _, guard := some (19, false) }) (v := undef) rfl (by kernel_rfl) (by kernel_rfl) (by kernel_rfl) (fun _ _ _ h => h) (Or.inr ⟨by rfl, rfl⟩) (by assumption) ?_
            try simp only [Act.put, List.setIfInBounds_toArray, List.set_cons_zero, List.set_cons_succ]
            refine wpAnyH_take (i := 28) (oi := { dst := some 43, op := Op.unOp UnOp.not 4 (Operand.tmp 42), type := _, pos := _, after := _, guard := some (19, false) }) (v := undef) rfl (by kernel_rfl) (by kernel_rfl) (by kernel_rfl) (fun _ _ _ h => h) (Or.inr ⟨by rfl, rfl⟩) (by assumption) ?_
            try simp only [Act.put, List.setIfInBounds_toArray, List.set_cons_zero, List.set_cons_succ]
            refine wpAnyH_take (i := 29) (oi := { dst := some 44, op := Op.pick (Operand.tmp 34) (Operand.const (Value.bool true)) (Operand.tmp 43), type := _, pos := _, after := _, guard := some (13, true) }) (v := ?_) rfl (by kernel_rfl) (by kernel_rfl) (by kernel_rfl) (fun _ _ _ h => h) (Or.inl ⟨by rfl, ?_⟩) (by assumption) ?_
            rotate_left
            · intro w hSw; (try dsimp only at hSw); go_simp; try with_reducible rfl
            try simp only [Act.put, List.setIfInBounds_toArray, List.set_cons_zero, List.set_cons_succ]
            refine wpAnyH_take (i := 30) (oi := { dst := some 45, op := Op.pick (Operand.tmp 28) (Operand.tmp 44) (Operand.const (Value.bool false)), type := _, pos := _, after := _, guard := none }) (v := ?_) rfl (by kernel_rfl) (by kernel_rfl) (by kernel_rfl) (fun _ _ _ h => h) (Or.inl ⟨by rfl, ?_⟩) (by assumption) ?_
            rotate_left
            · intro w hSw; (try dsimp only at hSw); go_simp; try with_reducible rfl
            try simp only [Act.put, List.setIfInBounds_toArray, List.set_cons_zero, List.set_cons_succ]
            refine wpAnyH_take (i := 31) (oi := { dst := some 46, op := Op.indexAddr 28 (Operand.tmp 15) (Operand.tmp 16), type := _, pos := _, after := _, guard := none }) (v := ?_) rfl (by kernel_rfl) (by kernel_rfl) (by kernel_rfl) (fun _ _ _ h => h) (Or.inl ⟨by rfl, ?_⟩) (by assumption) ?_
            rotate_left
            · intro w hSw; (try dsimp only at hSw); go_simp; try with_reducible rfl
            try simp only [Act.put, List.setIfInBounds_toArray, List.set_cons_zero, List.set_cons_succ]
            refine wpAnyH_ready (rs := [32]) (by kernel_rfl) (by simp) ?_
            refine AllReadyH.cons (o := { dst := none, op := Op.store 4 (Operand.tmp 46) (Operand.tmp 45), type := _, pos := _, after := _, guard := none }) rfl (fun K hK => ?_) AllReadyH.nil
            go_simp
            refine hK.out _ _ (by exact HSN.out) (fun hHeld => ?_)
            clear hK K
            try simp only [Act.put, List.setIfInBounds_toArray, List.set_cons_zero, List.set_cons_succ]
            refine wpAnyH_done (by kernel_rfl) ?_ _
            all_goals
              go_wp2_with fail
              go_roundw
              case rel => exact ⟨j + 1 + 1, by omega, by go_num, HN, HX2, HW2⟩
              case measure => simp [intOf]; omega
          | false =>
            obtain ⟨r, hr⟩ : ∃ r, r = inL t.kp y := ⟨_, rfl⟩
            rw [← hr] at HCK HV
            clear hr
            have HN := hid (show BoolBlk (wr.drew.setCell ⟨q + 1, (j + 1), none⟩ (.bool (!r))) (q + 1) (hidTo t.ig t.kp l n ((j + 1) + 1)) by rw [hidTo_step (v := (!r)) hlt (by rw [HV.out]; rfl)]; exact BoolBlk.set (w := wr.drew) HG.out _ _)
            have HX2 := hid (show (wr.drew.setCell ⟨q + 1, (j + 1), none⟩ (.bool (!r))).heap[q]? = _ from (heap_setCell_other _ _ _ _ (by simp)).trans HX.out)
            have HW2 := hid (show Below q w (wr.drew.setCell ⟨q + 1, (j + 1), none⟩ (.bool (!r))) from HW.out.drew.setCell (p := ⟨q + 1, (j + 1), none⟩) (by show q ≤ q + 1; omega) _)
            have HS := hid (And.intro f0 (And.intro f1 (And.intro hcm (And.intro hcy hcp))))
            have HSN := hid (show (wr.drew.setCell ⟨q + 1, (j + 1), none⟩ (.bool (!r))).cell? ⟨q, 0, none⟩ = some (.slice I t.ig.length ic) ∧ (wr.drew.setCell ⟨q + 1, (j + 1), none⟩ (.bool (!r))).cell? ⟨q, 1, none⟩ = some (.slice K t.kp.length kc) ∧ (wr.drew.setCell ⟨q + 1, (j + 1), none⟩ (.bool (!r))).cell? ⟨b, o + (j + 1), none⟩ = some (.int .i64 z) ∧
                (wr.drew.setCell ⟨q + 1, (j + 1), none⟩ (.bool (!r))).cell? ⟨b, o + j, none⟩ = some (.int .i64 y) ∧ (wr.drew.setCell ⟨q + 1, (j + 1), none⟩ (.bool (!r))).cell? ⟨q + 1, j, none⟩ = some (.bool false) from
              ⟨(cell_set_other (.inl (by omega))).trans f0, (cell_set_other (.inl (by omega))).trans f1, (cell_set_other (.inl HBne.out.1)).trans hcm, (cell_set_other (.inl HBne.out.1)).trans hcy, (cell_set_other (.inr (by omega))).trans hcp⟩)
            go_wp2_with fail
            refine wp_region_held_drew (S := (fun Y => Y.cell? ⟨q, 0, none⟩ = some (.slice I t.ig.length ic) ∧ Y.cell? ⟨q, 1, none⟩ = some (.slice K t.kp.length kc) ∧ Y.cell? ⟨b, o + (j + 1), none⟩ = some (.int .i64 z) ∧ Y.cell? ⟨b, o + j, none⟩ = some (.int .i64 y) ∧ Y.cell? ⟨q + 1, j, none⟩ = some (.bool false))) (by kernel_rfl) (by exact HS.out) (fun hHeld => ?_)
            refine wpAnyH_take (i := 0) (oi := { dst := some 15, op := Op.move (Operand.tmp 5), type := _, pos := _, after := _, guard := none }) (v := ?_) rfl (by kernel_rfl) (by kernel_rfl) (by kernel_rfl) (fun _ _ _ h => h) (Or.inl ⟨by rfl, ?_⟩) (by assumption) ?_
            rotate_left
            · intro w hSw; (try dsimp only at hSw); go_simp; try with_reducible rfl
            try simp only [Act.put, List.setIfInBounds_toArray, List.set_cons_zero, List.set_cons_succ]
            refine wpAnyH_take (i := 1) (oi := { dst := some 16, op := Op.move (Operand.tmp 6), type := _, pos := _, after := _, guard := none }) (v := ?_) rfl (by kernel_rfl) (by kernel_rfl) (by kernel_rfl) (fun _ _ _ h => h) (Or.inl ⟨by rfl, ?_⟩) (by assumption) ?_
            rotate_left
            · intro w hSw; (try dsimp only at hSw); go_simp; try with_reducible rfl
            try simp only [Act.put, List.setIfInBounds_toArray, List.set_cons_zero, List.set_cons_succ]
            refine wpAnyH_take (i := 2) (oi := { dst := some 17, op := Op.move (Operand.tmp 6), type := _, pos := _, after := _, guard := none }) (v := ?_) rfl (by kernel_rfl) (by kernel_rfl) (by kernel_rfl) (fun _ _ _ h => h) (Or.inl ⟨by rfl, ?_⟩) (by assumption) ?_
            rotate_left
            · intro w hSw; (try dsimp only at hSw); go_simp; try with_reducible rfl
            try simp only [Act.put, List.setIfInBounds_toArray, List.set_cons_zero, List.set_cons_succ]
            refine wpAnyH_take (i := 3) (oi := { dst := some 18, op := Op.binOp BinOp.gtr 3 (Operand.tmp 17) (Operand.const (Value.int IntKind.i64 0)) 3, type := _, pos := _, after := _, guard := none }) (v := ?_) rfl (by kernel_rfl) (by kernel_rfl) (by kernel_rfl) (fun _ _ _ h => h) (Or.inl ⟨by rfl, ?_⟩) (by assumption) ?_
            rotate_left
            · intro w hSw; (try dsimp only at hSw); go_simp; try with_reducible rfl
            try simp only [Act.put, List.setIfInBounds_toArray, List.set_cons_zero, List.set_cons_succ]
            refine wpAnyH_take (i := 4) (oi := { dst := some 19, op := Op.move (Operand.tmp 18), type := _, pos := _, after := _, guard := none }) (v := ?_) rfl (by kernel_rfl) (by kernel_rfl) (by kernel_rfl) (fun _ _ _ h => h) (Or.inl ⟨by rfl, ?_⟩) (by assumption) ?_
            rotate_left
            · intro w hSw; (try dsimp only at hSw); go_simp; try with_reducible rfl
            try simp only [Act.put, List.setIfInBounds_toArray, List.set_cons_zero, List.set_cons_succ]
            refine wpAnyH_take (i := 5) (oi := { dst := some 20, op := Op.fieldAddr 33 (Operand.tmp 2) 0, type := _, pos := _, after := _, guard := some (4, true) }) (v := ?_) rfl (by kernel_rfl) (by kernel_rfl) (by kernel_rfl) (fun _ _ _ h => h) (Or.inl ⟨by rfl, ?_⟩) (by assumption) ?_
            rotate_left
            · intro w hSw; (try dsimp only at hSw); go_simp; try with_reducible rfl
            try simp only [Act.put, List.setIfInBounds_toArray, List.set_cons_zero, List.set_cons_succ]
            refine wpAnyH_take (i := 6) (oi := { dst := some 21, op := Op.load 22 (Operand.tmp 20), type := _, pos := _, after := _, guard := some (4, true) }) (v := ?_) rfl (by kernel_rfl) (by kernel_rfl) (by kernel_rfl) (fun _ _ _ h => h) (Or.inl ⟨by rfl, ?_⟩) (by assumption) ?_
            rotate_left
            · intro w hSw; (try dsimp only at hSw); go_simp; try with_reducible rfl
            try simp only [Act.put, List.setIfInBounds_toArray, List.set_cons_zero, List.set_cons_succ]
            refine wpAnyH_take (i := 7) (oi := { dst := some 22, op := Op.move (Operand.tmp 1), type := _, pos := _, after := _, guard := some (4, true) }) (v := ?_) rfl (by kernel_rfl) (by kernel_rfl) (by kernel_rfl) (fun _ _ _ h => h) (Or.inl ⟨by rfl, ?_⟩) (by assumption) ?_
            rotate_left
            · intro w hSw; (try dsimp only at hSw); go_simp; try with_reducible rfl
            try simp only [Act.put, List.setIfInBounds_toArray, List.set_cons_zero, List.set_cons_succ]
            refine wpAnyH_take (i := 8) (oi := { dst := some 23, op := Op.move (Operand.tmp 6), type := _, pos := _, after := _, guard := some (4, true) }) (v := ?_) rfl (by kernel_rfl) (by kernel_rfl) (by kernel_rfl) (fun _ _ _ h => h) (Or.inl ⟨by rfl, ?_⟩) (by assumption) ?_
            rotate_left
            · intro w hSw; (try dsimp only at hSw); go_simp; try with_reducible rfl
            try simp only [Act.put, List.setIfInBounds_toArray, List.set_cons_zero, List.set_cons_succ]
            refine wpAnyH_take (i := 9) (oi := { dst := some 24, op := Op.indexAddr 22 (Operand.tmp 22) (Operand.tmp 23), type := _, pos := _, after := _, guard := some (4, true) }) (v := ?_) rfl (by kernel_rfl) (by kernel_rfl) (by kernel_rfl) (fun _ _ _ h => h) (Or.inl ⟨by rfl, ?_⟩) (by assumption) ?_
            rotate_left
            · intro w hSw; (try dsimp only at hSw); go_simp; try with_reducible rfl
            try simp only [Act.put, List.setIfInBounds_toArray, List.set_cons_zero, List.set_cons_succ]
            refine wpAnyH_take (i := 10) (oi := { dst := some 25, op := Op.load 3 (Operand.tmp 24), type := _, pos := _, after := _, guard := some (4, true) }) (v := ?_) rfl (by kernel_rfl) (by kernel_rfl) (by kernel_rfl) (fun _ _ _ h => h) (Or.inl ⟨by rfl, ?_⟩) (by assumption) ?_
            rotate_left
            · intro w hSw; (try dsimp only at hSw); go_simp; try with_reducible rfl
            try simp only [Act.put, List.setIfInBounds_toArray, List.set_cons_zero, List.set_cons_succ]
            refine wpAnyH_ready (rs := [11]) (by kernel_rfl) (by simp) ?_
            refine AllReadyH.cons (o := { dst := some 26, op := Op.call { callee := Callee.value (Operand.func 61), args := #[Operand.tmp 21, Operand.tmp 25], argTypes := #[22, 3] }, type := _, pos := _, after := _, guard := some (4, true) }) rfl (fun K hK => ?_) AllReadyH.nil
            go_simp
            refine (HCI.out wr.drew (fun _ _ _ => rfl)).mono ?_; rintro e w1 ⟨rfl, rfl⟩; go_wp2_with fail
            refine hK.out _ _ (by exact HS.out) (fun hHeld => ?_)
            clear hK K
            try simp only [Act.put, List.setIfInBounds_toArray, List.set_cons_zero, List.set_cons_succ]
            refine wpAnyH_take (i := 12) (oi := { dst := some 27, op := Op.pick (Operand.tmp 19) (Operand.tmp 26) (Operand.const (Value.bool false)), type := _, pos := _, after := _, guard := none }) (v := ?_) rfl (by kernel_rfl) (by kernel_rfl) (by kernel_rfl) (fun _ _ _ h => h) (Or.inl ⟨by rfl, ?_⟩) (by assumption) ?_
            rotate_left
            · intro w hSw; (try dsimp only at hSw); go_simp; try with_reducible rfl
            try simp only [Act.put, List.setIfInBounds_toArray, List.set_cons_zero, List.set_cons_succ]
            refine wpAnyH_take (i := 13) (oi := { dst := some 28, op := Op.move (Operand.tmp 27), type := _, pos := _, after := _, guard := none }) (v := ?_) rfl (by kernel_rfl) (by kernel_rfl) (by kernel_rfl) (fun _ _ _ h => h) (Or.inl ⟨by rfl, ?_⟩) (by assumption) ?_
            rotate_left
            · intro w hSw; (try dsimp only at hSw); go_simp; try with_reducible rfl
            try simp only [Act.put, List.setIfInBounds_toArray, List.set_cons_zero, List.set_cons_succ]
            refine wpAnyH_take (i := 14) (oi := { dst := some 29, op := Op.move (Operand.tmp 5), type := _, pos := _, after := _, guard := some (13, true) }) (v := ?_) rfl (by kernel_rfl) (by kernel_rfl) (by kernel_rfl) (fun _ _ _ h => h) (Or.inl ⟨by rfl, ?_⟩) (by assumption) ?_
            rotate_left
            · intro w hSw; (try dsimp only at hSw); go_simp; try with_reducible rfl
            try simp only [Act.put, List.setIfInBounds_toArray, List.set_cons_zero, List.set_cons_succ]
            refine wpAnyH_take (i := 15) (oi := { dst := some 30, op := Op.move (Operand.tmp 6), type := _, pos := _, after := _, guard := some (13, true) }) (v := ?_) rfl (by kernel_rfl) (by kernel_rfl) (by kernel_rfl) (fun _ _ _ h => h) (Or.inl ⟨by rfl, ?_⟩) (by assumption) ?_
            rotate_left
            · intro w hSw; (try dsimp only at hSw); go_simp; try with_reducible rfl
            try simp only [Act.put, List.setIfInBounds_toArray, List.set_cons_zero, List.set_cons_succ]
            refine wpAnyH_take (i := 16) (oi := { dst := some 31, op := Op.binOp BinOp.sub 3 (Operand.tmp 30) (Operand.const (Value.int IntKind.i64 1)) 3, type := _, pos := _, after := _, guard := some (13, true) }) (v := ?_) rfl (by kernel_rfl) (by kernel_rfl) (by kernel_rfl) (fun _ _ _ h => h) (Or.inl ⟨by rfl, ?_⟩) (by assumption) ?_
            rotate_left
            · intro w hSw; (try dsimp only at hSw); go_simp; try with_reducible rfl
            try simp only [Act.put, List.setIfInBounds_toArray, List.set_cons_zero, List.set_cons_succ]
            refine wpAnyH_take (i := 17) (oi := { dst := some 32, op := Op.indexAddr 28 (Operand.tmp 29) (Operand.tmp 31), type := _, pos := _, after := _, guard := some (13, true) }) (v := ?_) rfl (by kernel_rfl) (by kernel_rfl) (by kernel_rfl) (fun _ _ _ h => h) (Or.inl ⟨by rfl, ?_⟩) (by assumption) ?_
            rotate_left
            · intro w hSw; (try dsimp only at hSw); go_simp; try with_reducible rfl
            try simp only [Act.put, List.setIfInBounds_toArray, List.set_cons_zero, List.set_cons_succ]
            refine wpAnyH_take (i := 18) (oi := { dst := some 33, op := Op.load 4 (Operand.tmp 32), type := _, pos := _, after := _, guard := some (13, true) }) (v := ?_) rfl (by kernel_rfl) (by kernel_rfl) (by kernel_rfl) (fun _ _ _ h => h) (Or.inl ⟨by rfl, ?_⟩) (by assumption) ?_
            rotate_left
            · intro w hSw; (try dsimp only at hSw); go_simp; try with_reducible rfl
            try simp only [Act.put, List.setIfInBounds_toArray, List.set_cons_zero, List.set_cons_succ]
            refine wpAnyH_take (i := 19) (oi := { dst := some 34, op := Op.move (Operand.tmp 33), type := _, pos := _, after := _, guard := some (13, true) }) (v := ?_) rfl (by kernel_rfl) (by kernel_rfl) (by kernel_rfl) (fun _ _ _ h => h) (Or.inl ⟨by rfl, ?_⟩) (by assumption) ?_
            rotate_left
            · intro w hSw; (try dsimp only at hSw); go_simp; try with_reducible rfl
            try simp only [Act.put, List.setIfInBounds_toArray, List.set_cons_zero, List.set_cons_succ]
            refine wpAnyH_take (i := 20) (oi := { dst := some 35, op := Op.fieldAddr 33 (Operand.tmp 2) 1, type := _, pos := _, after := _, guard := some (19, false) }) (v := ?_) rfl (by kernel_rfl) (by kernel_rfl) (by kernel_rfl) (fun _ _ _ h => h) (Or.inl ⟨by rfl, ?_⟩) (by assumption) ?_
            rotate_left
            · intro w hSw; (try dsimp only at hSw); go_simp; try with_reducible rfl
            try simp only [Act.put, List.setIfInBounds_toArray, List.set_cons_zero, List.set_cons_succ]
            refine wpAnyH_take (i := 21) (oi := { dst := some 36, op := Op.load 22 (Operand.tmp 35), type := _, pos := _, after := _, guard := some (19, false) }) (v := ?_) rfl (by kernel_rfl) (by kernel_rfl) (by kernel_rfl) (fun _ _ _ h => h) (Or.inl ⟨by rfl, ?_⟩) (by assumption) ?_
            rotate_left
            · intro w hSw; (try dsimp only at hSw); go_simp; try with_reducible rfl
            try simp only [Act.put, List.setIfInBounds_toArray, List.set_cons_zero, List.set_cons_succ]
            refine wpAnyH_take (i := 22) (oi := { dst := some 37, op := Op.move (Operand.tmp 1), type := _, pos := _, after := _, guard := some (19, false) }) (v := ?_) rfl (by kernel_rfl) (by kernel_rfl) (by kernel_rfl) (fun _ _ _ h => h) (Or.inl ⟨by rfl, ?_⟩) (by assumption) ?_
            rotate_left
            · intro w hSw; (try dsimp only at hSw); go_simp; try with_reducible rfl
            try simp only [Act.put, List.setIfInBounds_toArray, List.set_cons_zero, List.set_cons_succ]
            refine wpAnyH_take (i := 23) (oi := { dst := some 38, op := Op.move (Operand.tmp 6), type := _, pos := _, after := _, guard := some (19, false) }) (v := ?_) rfl (by kernel_rfl) (by kernel_rfl) (by kernel_rfl) (fun _ _ _ h => h) (Or.inl ⟨by rfl, ?_⟩) (by assumption) ?_
            rotate_left
            · intro w hSw; (try dsimp only at hSw); go_simp; try with_reducible rfl
            try simp only [Act.put, List.setIfInBounds_toArray, List.set_cons_zero, List.set_cons_succ]
            refine wpAnyH_take (i := 24) (oi := { dst := some 39, op := Op.binOp BinOp.sub 3 (Operand.tmp 38) (Operand.const (Value.int IntKind.i64 1)) 3, type := _, pos := _, after := _, guard := some (19, false) }) (v := ?_) rfl (by kernel_rfl) (by kernel_rfl) (by kernel_rfl) (fun _ _ _ h => h) (Or.inl ⟨by rfl, ?_⟩) (by assumption) ?_
            rotate_left
            · intro w hSw; (try dsimp only at hSw); go_simp; try with_reducible rfl
            try simp only [Act.put, List.setIfInBounds_toArray, List.set_cons_zero, List.set_cons_succ]
            refine wpAnyH_take (i := 25) (oi := { dst := some 40, op := Op.indexAddr 22 (Operand.tmp 37) (Operand.tmp 39), type := _, pos := _, after := _, guard := some (19, false) }) (v := ?_) rfl (by kernel_rfl) (by kernel_rfl) (by kernel_rfl) (fun _ _ _ h => h) (Or.inl ⟨by rfl, ?_⟩) (by assumption) ?_
            rotate_left
            · intro w hSw; (try dsimp only at hSw); go_simp; try with_reducible rfl
            try simp only [Act.put, List.setIfInBounds_toArray, List.set_cons_zero, List.set_cons_succ]
            refine wpAnyH_take (i := 26) (oi := { dst := some 41, op := Op.load 3 (Operand.tmp 40), type := _, pos := _, after := _, guard := some (19, false) }) (v := ?_) rfl (by kernel_rfl) (by kernel_rfl) (by kernel_rfl) (fun _ _ _ h => h) (Or.inl ⟨by rfl, ?_⟩) (by assumption) ?_
            rotate_left
            · intro w hSw; (try dsimp only at hSw); go_simp; try with_reducible rfl
            try simp only [Act.put, List.setIfInBounds_toArray, List.set_cons_zero, List.set_cons_succ]
            refine wpAnyH_ready (rs := [27]) (by kernel_rfl) (by simp) ?_
            refine AllReadyH.cons (o := { dst := some 42, op := Op.call { callee := Callee.value (Operand.func 61), args := #[Operand.tmp 36, Operand.tmp 41], argTypes := #[22, 3] }, type := _, pos := _, after := _, guard := some (19, false) }) rfl (fun K hK => ?_) AllReadyH.nil
            go_simp
            refine (HCK.out wr.drew (fun _ _ _ => rfl)).mono ?_; rintro e w1 ⟨rfl, rfl⟩; go_wp2_with fail
            refine hK.out _ _ (by exact HS.out) (fun hHeld => ?_)
            clear hK K
            try simp only [Act.put, List.setIfInBounds_toArray, List.set_cons_zero, List.set_cons_succ]
            refine wpAnyH_take (i := 28) (oi := { dst := some 43, op := Op.unOp UnOp.not 4 (Operand.tmp 42), type := _, pos := _, after := _, guard := some (19, false) }) (v := ?_) rfl (by kernel_rfl) (by kernel_rfl) (by kernel_rfl) (fun _ _ _ h => h) (Or.inl ⟨by rfl, ?_⟩) (by assumption) ?_
            rotate_left
            · intro w hSw; (try dsimp only at hSw); go_simp; try with_reducible rfl
            try simp only [Act.put, List.setIfInBounds_toArray, List.set_cons_zero, List.set_cons_succ]
            refine wpAnyH_take (i := 29) (oi := { dst := some 44, op := Op.pick (Operand.tmp 34) (Operand.const (Value.bool true)) (Operand.tmp 43), type := _, pos := _, after := _, guard := some (13, true) }) (v := ?_) rfl (by kernel_rfl) (by kernel_rfl) (by kernel_rfl) (fun _ _ _ h => h) (Or.inl ⟨by rfl, ?_⟩) (by assumption) ?_
            rotate_left
            · intro w hSw; (try dsimp only at hSw); go_simp; try with_reducible rfl
            try simp only [Act.put, List.setIfInBounds_toArray, List.set_cons_zero, List.set_cons_succ]
            refine wpAnyH_take (i := 30) (oi := { dst := some 45, op := Op.pick (Operand.tmp 28) (Operand.tmp 44) (Operand.const (Value.bool false)), type := _, pos := _, after := _, guard := none }) (v := ?_) rfl (by kernel_rfl) (by kernel_rfl) (by kernel_rfl) (fun _ _ _ h => h) (Or.inl ⟨by rfl, ?_⟩) (by assumption) ?_
            rotate_left
            · intro w hSw; (try dsimp only at hSw); go_simp; try with_reducible rfl
            try simp only [Act.put, List.setIfInBounds_toArray, List.set_cons_zero, List.set_cons_succ]
            refine wpAnyH_take (i := 31) (oi := { dst := some 46, op := Op.indexAddr 28 (Operand.tmp 15) (Operand.tmp 16), type := _, pos := _, after := _, guard := none }) (v := ?_) rfl (by kernel_rfl) (by kernel_rfl) (by kernel_rfl) (fun _ _ _ h => h) (Or.inl ⟨by rfl, ?_⟩) (by assumption) ?_
            rotate_left
            · intro w hSw; (try dsimp only at hSw); go_simp; try with_reducible rfl
            try simp only [Act.put, List.setIfInBounds_toArray, List.set_cons_zero, List.set_cons_succ]
            refine wpAnyH_ready (rs := [32]) (by kernel_rfl) (by simp) ?_
            refine AllReadyH.cons (o := { dst := none, op := Op.store 4 (Operand.tmp 46) (Operand.tmp 45), type := _, pos := _, after := _, guard := none }) rfl (fun K hK => ?_) AllReadyH.nil
            go_simp
            refine hK.out _ _ (by exact HSN.out) (fun hHeld => ?_)
            clear hK K
            try simp only [Act.put, List.setIfInBounds_toArray, List.set_cons_zero, List.set_cons_succ]
            refine wpAnyH_done (by kernel_rfl) ?_ _
            all_goals
              go_wp2_with fail
              go_roundw
              case rel => exact ⟨j + 1 + 1, by omega, by go_num, HN, HX2, HW2⟩
              case measure => simp [intOf]; omega
    · have hkn : k = n := by omega
      have HE := hid (show BoolBlk wr (q + 1) (hidL t.ig t.kp l) by
        have h := HG.out
        subst hkn
        unfold hidTo at h
        rw [Nat.sub_self] at h
        unfold hidL
        rw [HLn.out]
        simpa [noB] using h)
      have hlen : (hidL t.ig t.kp l).length = n := by simp [hidL, HLn.out]
      clear hkn
      go_wp2_with fail
      go_ret
      have hb := HE.out.bools (by rw [hlen]; omega)
      rw [hlen] at hb
      exact ⟨_, rfl, hb.mono (fun b' hb' _ => by rw [hb', ← HQ.out]; omega), HWr.out⟩
set_option maxRecDepth 100000 in
set_option maxHeartbeats 8000000 in
theorem rhidden_any (d : Nat) (v lv : Value) (t : Tx d) (ids : List Int) (w : World) (h : IsTx w Any d v t) (hl : IsNums .i64 w Any lv ids) (hn : ids.length ≤ 1000) :
    Calls Try.prog 19 #[v, lv] w fun e w' => ∃ v', e = .returned v' ∧ IsBools w' (fun b => w.heap.size ≤ b) v' (hidL t.ig t.kp (ids.map classOf)) ∧ Below w.heap.size w w' := by
  obtain ⟨I, ic, K, kc, A, c, rfl, hI, hK, lI, lK, lA, -⟩ := h.open
  clear h lI lK lA
  obtain ⟨M, cm, rfl⟩ := hl.form
  have HMw := hid hl
  have HI := hid hI
  have HK := hid hK
  obtain ⟨n, hnn⟩ : ∃ n, n = ids.length := ⟨_, rfl⟩
  have HNN := hid hnn
  rw [← hnn] at hn ⊢
  clear hI hK hl hnn
  have hmk := run_make_bools .i64 .i64 n (by omega)
  obtain ⟨q, hq⟩ : ∃ q, q = w.heap.size := ⟨_, rfl⟩
  have HQ := hid hq
  obtain ⟨W, hW0⟩ : ∃ W, W = (w.alloc (.cells #[.slice I t.ig.length ic, .slice K t.kp.length kc, .slice A t.rs.length c] 25)).alloc (.cells (Array.replicate n (Value.bool false)) 4) := ⟨_, rfl⟩
  have HWW := hid (alloc2 hW0)
  rw [← hq] at HWW
  have HG0 := hid (show BoolBlk W (q + 1) (noB n) by unfold BoolBlk noB; rw [rep_bools]; exact HWW.out.2.1)
  have HWw := hid (show Below w.heap.size w W by rw [← HQ.out]; exact HWW.out.2.2.2)
  obtain ⟨l, hll⟩ : ∃ l, l = (ids.map classOf) := ⟨_, rfl⟩
  have HLL := hid hll
  rw [← hll]
  have HLn := hid (show l.length = n by rw [hll, HNN.out]; simp)
  have HLnth := hid (show ∀ j, j < n → nth l j = classOf (nth ids j) from fun j hj => by rw [hll]; unfold nth; rw [List.getElem?_map, List.getElem?_eq_getElem (by rw [← HNN.out]; exact hj)]; rfl)
  clear hll
  go_enter Try.func19, Try.ntmps19
  go_wp2_with fail
  rw [← hW0]
  rw [← hq]
  clear hW0 hmk hq
  have HN0 := hid (show hidTo t.ig t.kp l n (min 1 n) = noB n by
    unfold hidTo noB
    cases n with
    | zero => rfl
    | succ m => simp [List.range_succ, hidAt, Nat.min_eq_left (show 1 ≤ m + 1 by omega)]; rw [← List.replicate_succ])
  go_loopw [6] (fun s6 wr => ∃ k : Nat, 1 ≤ k ∧ (k ≤ n ∨ k = 1) ∧ s6 = .int .i64 k ∧ Hid (BoolBlk wr (q + 1) (hidTo t.ig t.kp l n (min k n))) ∧ Hid (wr.heap[q]? = some (.cells #[.slice I t.ig.length ic, .slice K t.kp.length kc, .slice A t.rs.length c] 25 (0, 0))) ∧ Hid (Below q w wr)) (fun s6 _ => n - (intOf s6).toNat)
  case atStart => exact ⟨1, by omega, .inr rfl, rfl, hid (by rw [HN0.out]; exact HG0.out), hid HWW.out.1, hid HWW.out.2.2.2⟩
  case round =>
    obtain ⟨k, hk1, hk, rfl, HG, HX, HW⟩ := hrel
    have HWr := hid (show Below w.heap.size w wr by rw [← HQ.out]; exact HW.out)
    obtain ⟨f0, f1, f2, -⟩ := slot3 HX.out
    by_cases hlt : k < n
    · obtain ⟨b, o, cm', hem, -, hbm, hcm⟩ := HMw.out.at (j := k) (by rw [← HNN.out]; exact hlt)
      rw [← HNN.out] at hem
      obtain ⟨rfl, rfl⟩ : M = some ⟨b, o, none⟩ ∧ cm = cm' := by simpa using hem
      replace hcm := (cell_same (HWr.out.block b hbm)).trans hcm
      have hku : k < (hidTo t.ig t.kp l n k).length := by rw [hidTo_len (by omega)]; exact hlt
      have hmin : min k n = k := by omega
      rw [hmin] at HG
      have hcg := HG.out.cell hku
      have hfg := HG.out.frozen k
      obtain ⟨y0, hy0⟩ : ∃ y, y = nthB (hidTo t.ig t.kp l n k) k := ⟨_, rfl⟩
      rw [← hy0] at hcg
      have HGl := hid HG.out.lt
      have HBne := hid (show b ≠ q + 1 ∧ b ≠ q by rw [HQ.out]; omega)
      have HCI0 := hid (fun (Y : World) (hY : ∀ g, True → g < wr.heap.size → Y.heap[g]? = wr.heap[g]?) (z : Int) => in_any Any _ t.ig z Y ((HI.out.below HWr.out).keep (fun g _ hlt => hY g trivial hlt)))
      have HCK0 := hid (fun (Y : World) (hY : ∀ g, True → g < wr.heap.size → Y.heap[g]? = wr.heap[g]?) (z : Int) => in_any Any _ t.kp z Y ((HK.out.below HWr.out).keep (fun g _ hlt => hY g trivial hlt)))
      obtain ⟨z, hz⟩ : ∃ z, z = nth ids k := ⟨_, rfl⟩
      rw [← hz] at hcm
      have HZ := hid (show nth l k = classOf z by rw [HLnth.out k hlt, hz])
      have HCI := hid (fun Y hY => HCI0.out Y hY (classOf z))
      clear hem hku hy0 hz HCI0
      cases k with
      | zero =>
        omega
      | succ j =>
        have hwj : IntKind.i64.wrap (j : Int) = (j : Int) := by rw [IntKind.wrap_i64]; omega
        have hj2 : j < n := by omega
        have hj0 : (0 : Int) ≤ (j : Int) + 1 := by omega
        have hj1 : (j : Int) + 1 < (n : Int) := by omega
        obtain ⟨b', o', cm'', hem', -, -, hcy⟩ := HMw.out.at (j := j) (by rw [← HNN.out]; omega)
        rw [← HNN.out] at hem'
        obtain ⟨⟨rfl, rfl⟩, -⟩ : (b = b' ∧ o = o') ∧ cm = cm'' := by simpa using hem'
        replace hcy := (cell_same (HWr.out.block b hbm)).trans hcy
        have hcp := HG.out.cell (j := j) (by rw [hidTo_len (by omega)]; omega)
        rw [hidTo_nth (by omega)] at hcp
        obtain ⟨y, hy⟩ : ∃ y, y = nth ids j := ⟨_, rfl⟩
        rw [← hy] at hcy
        have HY := hid (show nth l j = classOf y by rw [HLnth.out j (by omega), hy])
        have HCK := hid (fun Y hY => HCK0.out Y hY (classOf y))
        have HV := hid (show hidAt t.ig t.kp l (j + 1) = (inL t.ig (classOf z) && (hidAt t.ig t.kp l j || !inL t.kp (classOf y))) by rw [← HZ.out, ← HY.out]; rfl)
        obtain ⟨pv, hpv⟩ : ∃ pv, pv = hidAt t.ig t.kp l j := ⟨_, rfl⟩
        rw [← hpv] at hcp HV
        clear hem' hy hpv HCK0
        cases hi : inL t.ig (classOf z) with
        | false =>
          have HN := hid (show BoolBlk (wr.drew.setCell ⟨q + 1, (j + 1), none⟩ (.bool false)) (q + 1) (hidTo t.ig t.kp l n ((j + 1) + 1)) by rw [hidTo_step (v := false) hlt (by rw [HV.out, hi]; rfl)]; exact BoolBlk.set (w := wr.drew) HG.out _ _)
          have HX2 := hid (show (wr.drew.setCell ⟨q + 1, (j + 1), none⟩ (.bool false)).heap[q]? = _ from (heap_setCell_other _ _ _ _ (by simp)).trans HX.out)
          have HW2 := hid (show Below q w (wr.drew.setCell ⟨q + 1, (j + 1), none⟩ (.bool false)) from HW.out.drew.setCell (p := ⟨q + 1, (j + 1), none⟩) (by show q ≤ q + 1; omega) _)
          have HS := hid (And.intro f0 (And.intro f1 (And.intro hcm (And.intro hcy hcp))))
          have HSN := hid (show (wr.drew.setCell ⟨q + 1, (j + 1), none⟩ (.bool false)).cell? ⟨q, 0, none⟩ = some (.slice I t.ig.length ic) ∧ (wr.drew.setCell ⟨q + 1, (j + 1), none⟩ (.bool false)).cell? ⟨q, 1, none⟩ = some (.slice K t.kp.length kc) ∧ (wr.drew.setCell ⟨q + 1, (j + 1), none⟩ (.bool false)).cell? ⟨b, o + (j + 1), none⟩ = some (.int .i64 z) ∧
              (wr.drew.setCell ⟨q + 1, (j + 1), none⟩ (.bool false)).cell? ⟨b, o + j, none⟩ = some (.int .i64 y) ∧ (wr.drew.setCell ⟨q + 1, (j + 1), none⟩ (.bool false)).cell? ⟨q + 1, j, none⟩ = some (.bool pv) from
            ⟨(cell_set_other (.inl (by omega))).trans f0, (cell_set_other (.inl (by omega))).trans f1, (cell_set_other (.inl HBne.out.1)).trans hcm, (cell_set_other (.inl HBne.out.1)).trans hcy, (cell_set_other (.inr (by omega))).trans hcp⟩)
          rw [hi] at HCI
          clear hi
          go_wp2_with fail
          refine wp_region_held_drew (S := (fun Y => Y.cell? ⟨q, 0, none⟩ = some (.slice I t.ig.length ic) ∧ Y.cell? ⟨q, 1, none⟩ = some (.slice K t.kp.length kc) ∧ Y.cell? ⟨b, o + (j + 1), none⟩ = some (.int .i64 z) ∧ Y.cell? ⟨b, o + j, none⟩ = some (.int .i64 y) ∧ Y.cell? ⟨q + 1, j, none⟩ = some (.bool pv))) (by kernel_rfl) (by exact HS.out) (fun hHeld => ?_)
          refine wpAnyH_take (i := 0) (oi := { dst := some 16, op := Op.move (Operand.tmp 5), type := _, pos := _, after := _, guard := none }) (v := ?_) rfl (by kernel_rfl) (by kernel_rfl) (by kernel_rfl) (fun _ _ _ h => h) (Or.inl ⟨by rfl, ?_⟩) (by assumption) ?_
          rotate_left
          · intro w hSw; (try dsimp only at hSw); go_simp; try with_reducible rfl
          try simp only [Act.put, List.setIfInBounds_toArray, List.set_cons_zero, List.set_cons_succ]
          refine wpAnyH_take (i := 1) (oi := { dst := some 17, op := Op.move (Operand.tmp 6), type := _, pos := _, after := _, guard := none }) (v := ?_) rfl (by kernel_rfl) (by kernel_rfl) (by kernel_rfl) (fun _ _ _ h => h) (Or.inl ⟨by rfl, ?_⟩) (by assumption) ?_
          rotate_left
          · intro w hSw; (try dsimp only at hSw); go_simp; try with_reducible rfl
          try simp only [Act.put, List.setIfInBounds_toArray, List.set_cons_zero, List.set_cons_succ]
          refine wpAnyH_take (i := 2) (oi := { dst := some 18, op := Op.fieldAddr 25 (Operand.tmp 2) 0, type := _, pos := _, after := _, guard := none }) (v := ?_) rfl (by kernel_rfl) (by kernel_rfl) (by kernel_rfl) (fun _ _ _ h => h) (Or.inl ⟨by rfl, ?_⟩) (by assumption) ?_
          rotate_left
          · intro w hSw; (try dsimp only at hSw); go_simp; try with_reducible rfl
          try simp only [Act.put, List.setIfInBounds_toArray, List.set_cons_zero, List.set_cons_succ]
          refine wpAnyH_take (i := 3) (oi := { dst := some 19, op := Op.load 22 (Operand.tmp 18), type := _, pos := _, after := _, guard := none }) (v := ?_) rfl (by kernel_rfl) (by kernel_rfl) (by kernel_rfl) (fun _ _ _ h => h) (Or.inl ⟨by rfl, ?_⟩) (by assumption) ?_
          rotate_left
          · intro w hSw; (try dsimp only at hSw); go_simp; try with_reducible rfl
          try simp only [Act.put, List.setIfInBounds_toArray, List.set_cons_zero, List.set_cons_succ]
          refine wpAnyH_take (i := 4) (oi := { dst := some 20, op := Op.move (Operand.tmp 1), type := _, pos := _, after := _, guard := none }) (v := ?_) rfl (by kernel_rfl) (by kernel_rfl) (by kernel_rfl) (fun _ _ _ h => h) (Or.inl ⟨by rfl, ?_⟩) (by assumption) ?_
          rotate_left
          · intro w hSw; (try dsimp only at hSw); go_simp; try with_reducible rfl
          try simp only [Act.put, List.setIfInBounds_toArray, List.set_cons_zero, List.set_cons_succ]
          refine wpAnyH_take (i := 5) (oi := { dst := some 21, op := Op.move (Operand.tmp 6), type := _, pos := _, after := _, guard := none }) (v := ?_) rfl (by kernel_rfl) (by kernel_rfl) (by kernel_rfl) (fun _ _ _ h => h) (Or.inl ⟨by rfl, ?_⟩) (by assumption) ?_
          rotate_left
          · intro w hSw; (try dsimp only at hSw); go_simp; try with_reducible rfl
          try simp only [Act.put, List.setIfInBounds_toArray, List.set_cons_zero, List.set_cons_succ]
          refine wpAnyH_take (i := 6) (oi := { dst := some 22, op := Op.indexAddr 22 (Operand.tmp 20) (Operand.tmp 21), type := _, pos := _, after := _, guard := none }) (v := ?_) rfl (by kernel_rfl) (by kernel_rfl) (by kernel_rfl) (fun _ _ _ h => h) (Or.inl ⟨by rfl, ?_⟩) (by assumption) ?_
          rotate_left
          · intro w hSw; (try dsimp only at hSw); go_simp; try with_reducible rfl
          try simp only [Act.put, List.setIfInBounds_toArray, List.set_cons_zero, List.set_cons_succ]
          refine wpAnyH_take (i := 7) (oi := { dst := some 23, op := Op.load 3 (Operand.tmp 22), type := _, pos := _, after := _, guard := none }) (v := ?_) rfl (by kernel_rfl) (by kernel_rfl) (by kernel_rfl) (fun _ _ _ h => h) (Or.inl ⟨by rfl, ?_⟩) (by assumption) ?_
          rotate_left
          · intro w hSw; (try dsimp only at hSw); go_simp; try with_reducible rfl
          try simp only [Act.put, List.setIfInBounds_toArray, List.set_cons_zero, List.set_cons_succ]
          refine wpAnyH_ready (rs := [8]) (by kernel_rfl) (by simp) ?_
          refine AllReadyH.cons (o := { dst := some 24, op := Op.call { callee := Callee.value (Operand.func 43), args := #[Operand.tmp 23], argTypes := #[3] }, type := _, pos := _, after := _, guard := none }) rfl (fun K hK => ?_) AllReadyH.nil
          go_simp
          refine (class_any z _).mono ?_; rintro e w1 ⟨rfl, rfl⟩; go_wp2_with fail
          refine hK.out _ _ (by exact HS.out) (fun hHeld => ?_)
          clear hK K
          try simp only [Act.put, List.setIfInBounds_toArray, List.set_cons_zero, List.set_cons_succ]
          refine wpAnyH_ready (rs := [9]) (by kernel_rfl) (by simp) ?_
          refine AllReadyH.cons (o := { dst := some 25, op := Op.call { callee := Callee.value (Operand.func 42), args := #[Operand.tmp 19, Operand.tmp 24], argTypes := #[22, 3] }, type := _, pos := _, after := _, guard := none }) rfl (fun K hK => ?_) AllReadyH.nil
          go_simp
          refine (HCI.out wr.drew (fun _ _ _ => rfl)).mono ?_; rintro e w1 ⟨rfl, rfl⟩; go_wp2_with fail
          refine hK.out _ _ (by exact HS.out) (fun hHeld => ?_)
          clear hK K
          try simp only [Act.put, List.setIfInBounds_toArray, List.set_cons_zero, List.set_cons_succ]
          refine wpAnyH_take (i := 10) (oi := { dst := some 26, op := Op.move (Operand.tmp 25), type := _, pos := _, after := _, guard := none }) (v := ?_) rfl (by kernel_rfl) (by kernel_rfl) (by kernel_rfl) (fun _ _ _ h => h) (Or.inl ⟨by rfl, ?_⟩) (by assumption) ?_
          rotate_left
          · intro w hSw; (try dsimp only at hSw); go_simp; try with_reducible rfl
          try simp only [Act.put, List.setIfInBounds_toArray, List.set_cons_zero, List.set_cons_succ]
          refine wpAnyH_take (i := 11) (oi := { dst := some 27, op := Op.move (Operand.tmp 5), type := _, pos := _, after := _, guard := some (10, true) }) (v := undef) rfl (by kernel_rfl) (by kernel_rfl) (by kernel_rfl) (fun _ _ _ h => h) (Or.inr ⟨by rfl, rfl⟩) (by assumption) ?_
          try simp only [Act.put, List.setIfInBounds_toArray, List.set_cons_zero, List.set_cons_succ]
          refine wpAnyH_take (i := 12) (oi := { dst := some 28, op := Op.move (Operand.tmp 6), type := _, pos := _, after := _, guard := some (10, true) }) (v := undef) rfl (by kernel_rfl) (by kernel_rfl) (by kernel_rfl) (fun _ _ _ h => h) (Or.inr ⟨by rfl, rfl⟩) (by assumption) ?_
          try simp only [Act.put, List.setIfInBounds_toArray, List.set_cons_zero, List.set_cons_succ]
          refine wpAnyH_take (i := 13) (oi := { dst := some 29, op := Op.binOp BinOp.sub 3 (Operand.tmp 28) (Operand.const (Value.int IntKind.i64 1)) 3, type := _, pos := _, after := _, guard := some (10, true) }) (v := undef) rfl (by kernel_rfl) (by kernel_rfl) (by kernel_rfl) (fun _ _ _ h => h) (Or.inr ⟨by rfl, rfl⟩) (by assumption) ?_
          try simp only [Act.put, List.setIfInBounds_toArray, List.set_cons_zero, List.set_cons_succ]
          refine wpAnyH_take (i := 14) (oi := { dst := some 30, op := Op.indexAddr 28 (Operand.tmp 27) (Operand.tmp 29), type := _, pos := _, after := _, guard := some (10, true) }) (v := undef) rfl (by kernel_rfl) (by kernel_rfl) (by kernel_rfl) (fun _ _ _ h => h) (Or.inr ⟨by rfl, rfl⟩) (by assumption) ?_
          try simp only [Act.put, List.setIfInBounds_toArray, List.set_cons_zero, List.set_cons_succ]
          refine wpAnyH_take (i := 15) (oi := { dst := some 31, op := Op.load 4 (Operand.tmp 30), type := _, pos := _, after := _, guard := some (10, true) }) (v := undef) rfl (by kernel_rfl) (by kernel_rfl) (by kernel_rfl) (fun _ _ _ h => h) (Or.inr ⟨by rfl, rfl⟩) (by assumption) ?_
          try simp only [Act.put, List.setIfInBounds_toArray, List.set_cons_zero, List.set_cons_succ]
          refine wpAnyH_take (i := 16) (oi := { dst := some 32, op := Op.move (Operand.tmp 31), type := _, pos := _, after := _, guard := some (10, true) }) (v := undef) rfl (by kernel_rfl) (by kernel_rfl) (by kernel_rfl) (fun _ _ _ h => h) (Or.inr ⟨by rfl, rfl⟩) (by assumption) ?_
          try simp only [Act.put, List.setIfInBounds_toArray, List.set_cons_zero, List.set_cons_succ]
          refine wpAnyH_take (i := 17) (oi := { dst := some 33, op := Op.fieldAddr 25 (Operand.tmp 2) 1, type := _, pos := _, after := _, guard := some (16, false) }) (v := undef) rfl (by kernel_rfl) (by kernel_rfl) (by kernel_rfl) (fun _ _ _ h => h) (Or.inr ⟨by rfl, rfl⟩) (by assumption) ?_
          try simp only [Act.put, List.setIfInBounds_toArray, List.set_cons_zero, List.set_cons_succ]
          refine wpAnyH_take (i := 18) (oi := { dst := some 34, op := Op.load 22 (Operand.tmp 33), type := _, pos := _, after := _, guard := some (16, false) }) (v := undef) rfl (by kernel_rfl) (by kernel_rfl) (by kernel_rfl) (fun _ _ _ h => h) (Or.inr ⟨by rfl, rfl⟩) (by assumption) ?_
          try simp only [Act.put, List.setIfInBounds_toArray, List.set_cons_zero, List.set_cons_succ]
          refine wpAnyH_take (i := 19) (oi := { dst := some 35, op := Op.move (Operand.tmp 1), type := _, pos := _, after := _, guard := some (16, false) }) (v := undef) rfl (by kernel_rfl) (by kernel_rfl) (by kernel_rfl) (fun _ _ _ h => h) (Or.inr ⟨by rfl, rfl⟩) (by assumption) ?_
          try simp only [Act.put, List.setIfInBounds_toArray, List.set_cons_zero, List.set_cons_succ]
          refine wpAnyH_take (i := 20) (oi := { dst := some 36, op := Op.move (Operand.tmp 6), type := _, pos := _, after := _, guard := some (16, false) }) (v := undef) rfl (by kernel_rfl) (by kernel_rfl) (by kernel_rfl) (fun _ _ _ h => h) (Or.inr ⟨by rfl, rfl⟩) (by assumption) ?_
          try simp only [Act.put, List.setIfInBounds_toArray, List.set_cons_zero, List.set_cons_succ]
          refine wpAnyH_take (i := 21) (oi := { dst := some 37, op := Op.binOp BinOp.sub 3 (Operand.tmp 36) (Operand.const (Value.int IntKind.i64 1)) 3, type := _, pos := _, after := _, guard := some (16, false) }) (v := undef) rfl (by kernel_rfl) (by kernel_rfl) (by kernel_rfl) (fun _ _ _ h => h) (Or.inr ⟨by rfl, rfl⟩) (by assumption) ?_
          try simp only [Act.put, List.setIfInBounds_toArray, List.set_cons_zero, List.set_cons_succ]
          refine wpAnyH_take (i := 22) (oi := { dst := some 38, op := Op.indexAddr 22 (Operand.tmp 35) (Operand.tmp 37), type := _, pos := _, after := _, guard := some (16, false) }) (v := undef) rfl (by kernel_rfl) (by kernel_rfl) (by kernel_rfl) (fun _ _ _ h => h) (Or.inr ⟨by rfl, rfl⟩) (by assumption) ?_
          try simp only [Act.put, List.setIfInBounds_toArray, List.set_cons_zero, List.set_cons_succ]
          refine wpAnyH_take (i := 23) (oi := { dst := some 39, op := Op.load 3 (Operand.tmp 38), type := _, pos := _, after := _, guard := some (16, false) }) (v := undef) rfl (by kernel_rfl) (by kernel_rfl) (by kernel_rfl) (fun _ _ _ h => h) (Or.inr ⟨by rfl, rfl⟩) (by assumption) ?_
          try simp only [Act.put, List.setIfInBounds_toArray, List.set_cons_zero, List.set_cons_succ]
          refine wpAnyH_take (i := 24) (oi := { dst := some 40, op := Op.call { callee := Callee.value (Operand.func 43), args := #[Operand.tmp 39], argTypes := #[3] }, type := _, pos := _, after := _, guard := some (16, false) }) (v := undef) rfl (by kernel_rfl) (by kernel_rfl) (by kernel_rfl) (fun _ _ _ h => h) (Or.inr ⟨by rfl, rfl⟩) (by assumption) ?_
          try simp only [Act.put, List.setIfInBounds_toArray, List.set_cons_zero, List.set_cons_succ]
          refine wpAnyH_take (i := 25) (oi := { dst := some 41, op := Op.call { callee := Callee.value (Operand.func 42), args := #[Operand.tmp 34, Operand.tmp 40], argTypes := #[22, 3] }, type := _, pos := _, after := _, guard := some (16, false) }) (v := undef) rfl (by kernel_rfl) (by kernel_rfl) (by kernel_rfl) (fun _ _ _ h => h) (Or.inr ⟨by rfl, rfl⟩) (by assumption) ?_
          try simp only [Act.put, List.setIfInBounds_toArray, List.set_cons_zero, List.set_cons_succ]
          refine wpAnyH_take (i := 26) (oi := { dst := some 42, op := Op.unOp UnOp.not 4 (Operand.tmp 41), type := _, pos := _, after := _, guard := some (16, false) }) (v := undef) rfl (by kernel_rfl) (by kernel_rfl) (by kernel_rfl) (fun _ _ _ h => h) (Or.inr ⟨by rfl, rfl⟩) (by assumption) ?_
          try simp only [Act.put, List.setIfInBounds_toArray, List.set_cons_zero, List.set_cons_succ]
          refine wpAnyH_take (i := 27) (oi := { dst := some 43, op := Op.pick (Operand.tmp 32) (Operand.const (Value.bool true)) (Operand.tmp 42), type := _, pos := _, after := _, guard := some (10, true) }) (v := undef) rfl (by kernel_rfl) (by kernel_rfl) (by kernel_rfl) (fun _ _ _ h => h) (Or.inr ⟨by rfl, rfl⟩) (by assumption) ?_
          try simp only [Act.put, List.setIfInBounds_toArray, List.set_cons_zero, List.set_cons_succ]
          refine wpAnyH_take (i := 28) (oi := { dst := some 44, op := Op.pick (Operand.tmp 26) (Operand.tmp 43) (Operand.const (Value.bool false)), type := _, pos := _, after := _, guard := none }) (v := ?_) rfl (by kernel_rfl) (by kernel_rfl) (by kernel_rfl) (fun _ _ _ h => h) (Or.inl ⟨by rfl, ?_⟩) (by assumption) ?_
          rotate_left
          · intro w hSw; (try dsimp only at hSw); go_simp; try with_reducible rfl
          try simp only [Act.put, List.setIfInBounds_toArray, List.set_cons_zero, List.set_cons_succ]
          refine wpAnyH_take (i := 29) (oi := { dst := some 45, op := Op.indexAddr 28 (Operand.tmp 16) (Operand.tmp 17), type := _, pos := _, after := _, guard := none }) (v := ?_) rfl (by kernel_rfl) (by kernel_rfl) (by kernel_rfl) (fun _ _ _ h => h) (Or.inl ⟨by rfl, ?_⟩) (by assumption) ?_
          rotate_left
          · intro w hSw; (try dsimp only at hSw); go_simp; try with_reducible rfl
          try simp only [Act.put, List.setIfInBounds_toArray, List.set_cons_zero, List.set_cons_succ]
          refine wpAnyH_ready (rs := [30]) (by kernel_rfl) (by simp) ?_
          refine AllReadyH.cons (o := { dst := none, op := Op.store 4 (Operand.tmp 45) (Operand.tmp 44), type := _, pos := _, after := _, guard := none }) rfl (fun K hK => ?_) AllReadyH.nil
          go_simp
          refine hK.out _ _ (by exact HSN.out) (fun hHeld => ?_)
          clear hK K
          try simp only [Act.put, List.setIfInBounds_toArray, List.set_cons_zero, List.set_cons_succ]
          refine wpAnyH_done (by kernel_rfl) ?_ _
          all_goals
            go_wp2_with fail
            go_roundw
            case rel => exact ⟨j + 1 + 1, by omega, .inl (by omega), by go_num, by rw [show min (j + 1 + 1) n = j + 1 + 1 by omega]; exact HN, HX2, HW2⟩
            case measure => simp [intOf]; omega
        | true =>
          rw [hi] at HCI HV
          clear hi
          cases pv with
          | true =>
            have HN := hid (show BoolBlk (wr.drew.setCell ⟨q + 1, (j + 1), none⟩ (.bool true)) (q + 1) (hidTo t.ig t.kp l n ((j + 1) + 1)) by rw [hidTo_step (v := true) hlt (by rw [HV.out]; rfl)]; exact BoolBlk.set (w := wr.drew) HG.out _ _)
            have HX2 := hid (show (wr.drew.setCell ⟨q + 1, (j + 1), none⟩ (.bool true)).heap[q]? = _ from (heap_setCell_other _ _ _ _ (by simp)).trans HX.out)
            have HW2 := hid (show Below q w (wr.drew.setCell ⟨q + 1, (j + 1), none⟩ (.bool true)) from HW.out.drew.setCell (p := ⟨q + 1, (j + 1), none⟩) (by show q ≤ q + 1; omega) _)
            have HS := hid (And.intro f0 (And.intro f1 (And.intro hcm (And.intro hcy hcp))))
            have HSN := hid (show (wr.drew.setCell ⟨q + 1, (j + 1), none⟩ (.bool true)).cell? ⟨q, 0, none⟩ = some (.slice I t.ig.length ic) ∧ (wr.drew.setCell ⟨q + 1, (j + 1), none⟩ (.bool true)).cell? ⟨q, 1, none⟩ = some (.slice K t.kp.length kc) ∧ (wr.drew.setCell ⟨q + 1, (j + 1), none⟩ (.bool true)).cell? ⟨b, o + (j + 1), none⟩ = some (.int .i64 z) ∧
                (wr.drew.setCell ⟨q + 1, (j + 1), none⟩ (.bool true)).cell? ⟨b, o + j, none⟩ = some (.int .i64 y) ∧ (wr.drew.setCell ⟨q + 1, (j + 1), none⟩ (.bool true)).cell? ⟨q + 1, j, none⟩ = some (.bool true) from
              ⟨(cell_set_other (.inl (by omega))).trans f0, (cell_set_other (.inl (by omega))).trans f1, (cell_set_other (.inl HBne.out.1)).trans hcm, (cell_set_other (.inl HBne.out.1)).trans hcy, (cell_set_other (.inr (by omega))).trans hcp⟩)
            go_wp2_with fail
            refine wp_region_held_drew (S := (fun Y => Y.cell? ⟨q, 0, none⟩ = some (.slice I t.ig.length ic) ∧ Y.cell? ⟨q, 1, none⟩ = some (.slice K t.kp.length kc) ∧ Y.cell? ⟨b, o + (j + 1), none⟩ = some (.int .i64 z) ∧ Y.cell? ⟨b, o + j, none⟩ = some (.int .i64 y) ∧ Y.cell? ⟨q + 1, j, none⟩ = some (.bool true))) (by kernel_rfl) (by exact HS.out) (fun hHeld => ?_)
            refine wpAnyH_take (i := 0) (oi := { dst := some 16, op := Op.move (Operand.tmp 5), type := _, pos := _, after := _, guard := none }) (v := ?_) rfl (by kernel_rfl) (by kernel_rfl) (by kernel_rfl) (fun _ _ _ h => h) (Or.inl ⟨by rfl, ?_⟩) (by assumption) ?_
            rotate_left
            · intro w hSw; (try dsimp only at hSw); go_simp; try with_reducible rfl
            try simp only [Act.put, List.setIfInBounds_toArray, List.set_cons_zero, List.set_cons_succ]
            refine wpAnyH_take (i := 1) (oi := { dst := some 17, op := Op.move (Operand.tmp 6), type := _, pos := _, after := _, guard := none }) (v := ?_) rfl (by kernel_rfl) (by kernel_rfl) (by kernel_rfl) (fun _ _ _ h => h) (Or.inl ⟨by rfl, ?_⟩) (by assumption) ?_
            rotate_left
            · intro w hSw; (try dsimp only at hSw); go_simp; try with_reducible rfl
            try simp only [Act.put, List.setIfInBounds_toArray, List.set_cons_zero, List.set_cons_succ]
            refine wpAnyH_take (i := 2) (oi := { dst := some 18, op := Op.fieldAddr 25 (Operand.tmp 2) 0, type := _, pos := _, after := _, guard := none }) (v := ?_) rfl (by kernel_rfl) (by kernel_rfl) (by kernel_rfl) (fun _ _ _ h => h) (Or.inl ⟨by rfl, ?_⟩) (by assumption) ?_
            rotate_left
            · intro w hSw; (try dsimp only at hSw); go_simp; try with_reducible rfl
            try simp only [Act.put, List.setIfInBounds_toArray, List.set_cons_zero, List.set_cons_succ]
            refine wpAnyH_take (i := 3) (oi := { dst := some 19, op := Op.load 22 (Operand.tmp 18), type := _, pos := _, after := _, guard := none }) (v := ?_) rfl (by kernel_rfl) (by kernel_rfl) (by kernel_rfl) (fun _ _ _ h => h) (Or.inl ⟨by rfl, ?_⟩) (by assumption) ?_
            rotate_left
            · intro w hSw; (try dsimp only at hSw); go_simp; try with_reducible rfl
            try simp only [Act.put, List.setIfInBounds_toArray, List.set_cons_zero, List.set_cons_succ]
            refine wpAnyH_take (i := 4) (oi := { dst := some 20, op := Op.move (Operand.tmp 1), type := _, pos := _, after := _, guard := none }) (v := ?_) rfl (by kernel_rfl) (by kernel_rfl) (by kernel_rfl) (fun _ _ _ h => h) (Or.inl ⟨by rfl, ?_⟩) (by assumption) ?_
            rotate_left
            · intro w hSw; (try dsimp only at hSw); go_simp; try with_reducible rfl
            try simp only [Act.put, List.setIfInBounds_toArray, List.set_cons_zero, List.set_cons_succ]
            refine wpAnyH_take (i := 5) (oi := { dst := some 21, op := Op.move (Operand.tmp 6), type := _, pos := _, after := _, guard := none }) (v := ?_) rfl (by kernel_rfl) (by kernel_rfl) (by kernel_rfl) (fun _ _ _ h => h) (Or.inl ⟨by rfl, ?_⟩) (by assumption) ?_
            rotate_left
            · intro w hSw; (try dsimp only at hSw); go_simp; try with_reducible rfl
            try simp only [Act.put, List.setIfInBounds_toArray, List.set_cons_zero, List.set_cons_succ]
            refine wpAnyH_take (i := 6) (oi := { dst := some 22, op := Op.indexAddr 22 (Operand.tmp 20) (Operand.tmp 21), type := _, pos := _, after := _, guard := none }) (v := ?_) rfl (by kernel_rfl) (by kernel_rfl) (by kernel_rfl) (fun _ _ _ h => h) (Or.inl ⟨by rfl, ?_⟩) (by assumption) ?_
            rotate_left
            · intro w hSw; (try dsimp only at hSw); go_simp; try with_reducible rfl
            try simp only [Act.put, List.setIfInBounds_toArray, List.set_cons_zero, List.set_cons_succ]
            refine wpAnyH_take (i := 7) (oi := { dst := some 23, op := Op.load 3 (Operand.tmp 22), type := _, pos := _, after := _, guard := none }) (v := ?_) rfl (by kernel_rfl) (by kernel_rfl) (by kernel_rfl) (fun _ _ _ h => h) (Or.inl ⟨by rfl, ?_⟩) (by assumption) ?_
            rotate_left
            · intro w hSw; (try dsimp only at hSw); go_simp; try with_reducible rfl
            try simp only [Act.put, List.setIfInBounds_toArray, List.set_cons_zero, List.set_cons_succ]
            refine wpAnyH_ready (rs := [8]) (by kernel_rfl) (by simp) ?_
            refine AllReadyH.cons (o := { dst := some 24, op := Op.call { callee := Callee.value (Operand.func 43), args := #[Operand.tmp 23], argTypes := #[3] }, type := _, pos := _, after := _, guard := none }) rfl (fun K hK => ?_) AllReadyH.nil
            go_simp
            refine (class_any z _).mono ?_; rintro e w1 ⟨rfl, rfl⟩; go_wp2_with fail
            refine hK.out _ _ (by exact HS.out) (fun hHeld => ?_)
            clear hK K
            try simp only [Act.put, List.setIfInBounds_toArray, List.set_cons_zero, List.set_cons_succ]
            refine wpAnyH_ready (rs := [9]) (by kernel_rfl) (by simp) ?_
            refine AllReadyH.cons (o := { dst := some 25, op := Op.call { callee := Callee.value (Operand.func 42), args := #[Operand.tmp 19, Operand.tmp 24], argTypes := #[22, 3] }, type := _, pos := _, after := _, guard := none }) rfl (fun K hK => ?_) AllReadyH.nil
            go_simp
            refine (HCI.out wr.drew (fun _ _ _ => rfl)).mono ?_; rintro e w1 ⟨rfl, rfl⟩; go_wp2_with fail
            refine hK.out _ _ (by exact HS.out) (fun hHeld => ?_)
            clear hK K
            try simp only [Act.put, List.setIfInBounds_toArray, List.set_cons_zero, List.set_cons_succ]
            refine wpAnyH_take (i := 10) (oi := { dst := some 26, op := Op.move (Operand.tmp 25), type := _, pos := _, after := _, guard := none }) (v := ?_) rfl (by kernel_rfl) (by kernel_rfl) (by kernel_rfl) (fun _ _ _ h => h) (Or.inl ⟨by rfl, ?_⟩) (by assumption) ?_
            rotate_left
            · intro w hSw; (try dsimp only at hSw); go_simp; try with_reducible rfl
            try simp only [Act.put, List.setIfInBounds_toArray, List.set_cons_zero, List.set_cons_succ]
            refine wpAnyH_take (i := 11) (oi := { dst := some 27, op := Op.move (Operand.tmp 5), type := _, pos := _, after := _, guard := some (10, true) }) (v := ?_) rfl (by kernel_rfl) (by kernel_rfl) (by kernel_rfl) (fun _ _ _ h => h) (Or.inl ⟨by rfl, ?_⟩) (by assumption) ?_
            rotate_left
            · intro w hSw; (try dsimp only at hSw); go_simp; try with_reducible rfl
            try simp only [Act.put, List.setIfInBounds_toArray, List.set_cons_zero, List.set_cons_succ]
            refine wpAnyH_take (i := 12) (oi := { dst := some 28, op := Op.move (Operand.tmp 6), type := _, pos := _, after := _, guard := some (10, true) }) (v := ?_) rfl (by kernel_rfl) (by kernel_rfl) (by kernel_rfl) (fun _ _ _ h => h) (Or.inl ⟨by rfl, ?_⟩) (by assumption) ?_
            rotate_left
            · intro w hSw; (try dsimp only at hSw); go_simp; try with_reducible rfl
            try simp only [Act.put, List.setIfInBounds_toArray, List.set_cons_zero, List.set_cons_succ]
            refine wpAnyH_take (i := 13) (oi := { dst := some 29, op := Op.binOp BinOp.sub 3 (Operand.tmp 28) (Operand.const (Value.int IntKind.i64 1)) 3, type := _, pos := _, after := _, guard := some (10, true) }) (v := ?_) rfl (by kernel_rfl) (by kernel_rfl) (by kernel_rfl) (fun _ _ _ h => h) (Or.inl ⟨by rfl, ?_⟩) (by assumption) ?_
            rotate_left
            · intro w hSw; (try dsimp only at hSw); go_simp; try with_reducible rfl
            try simp only [Act.put, List.setIfInBounds_toArray, List.set_cons_zero, List.set_cons_succ]
            refine wpAnyH_take (i := 14) (oi := { dst := some 30, op := Op.indexAddr 28 (Operand.tmp 27) (Operand.tmp 29), type := _, pos := _, after := _, guard := some (10, true) }) (v := ?_) rfl (by kernel_rfl) (by kernel_rfl) (by kernel_rfl) (fun _ _ _ h => h) (Or.inl ⟨by rfl, ?_⟩) (by assumption) ?_
            rotate_left
            · intro w hSw; (try dsimp only at hSw); go_simp; try with_reducible rfl
            try simp only [Act.put, List.setIfInBounds_toArray, List.set_cons_zero, List.set_cons_succ]
            refine wpAnyH_take (i := 15) (oi := { dst := some 31, op := Op.load 4 (Operand.tmp 30), type := _, pos := _, after := _, guard := some (10, true) }) (v := ?_) rfl (by kernel_rfl) (by kernel_rfl) (by kernel_rfl) (fun _ _ _ h => h) (Or.inl ⟨by rfl, ?_⟩) (by assumption) ?_
            rotate_left
            · intro w hSw; (try dsimp only at hSw); go_simp; try with_reducible rfl
            try simp only [Act.put, List.setIfInBounds_toArray, List.set_cons_zero, List.set_cons_succ]
            refine wpAnyH_take (i := 16) (oi := { dst := some 32, op := Op.move (Operand.tmp 31), type := _, pos := _, after := _, guard := some (10, true) }) (v := ?_) rfl (by kernel_rfl) (by kernel_rfl) (by kernel_rfl) (fun _ _ _ h => h) (Or.inl ⟨by rfl, ?_⟩) (by assumption) ?_
            rotate_left
            · intro w hSw; (try dsimp only at hSw); go_simp; try with_reducible rfl
            try simp only [Act.put, List.setIfInBounds_toArray, List.set_cons_zero, List.set_cons_succ]
            refine wpAnyH_take (i := 17) (oi := { dst := some 33, op := Op.fieldAddr 25 (Operand.tmp 2) 1, type := _, pos := _, after := _, guard := some (16, false) }) (v := undef) rfl (by kernel_rfl) (by kernel_rfl) (by kernel_rfl) (fun _ _ _ h => h) (Or.inr ⟨by rfl, rfl⟩) (by assumption) ?_
            try simp only [Act.put, List.setIfInBounds_toArray, List.set_cons_zero, List.set_cons_succ]
            refine wpAnyH_take (i := 18) (oi := { dst := some 34, op := Op.load 22 (Operand.tmp 33), type := _, pos := _, after := _, guard := some (16, false) }) (v := undef) rfl (by kernel_rfl) (by kernel_rfl) (by kernel_rfl) (fun _ _ _ h => h) (Or.inr ⟨by rfl, rfl⟩) (by assumption) ?_
            try simp only [Act.put, List.setIfInBounds_toArray, List.set_cons_zero, List.set_cons_succ]
            refine wpAnyH_take (i := 19) (oi := { dst := some 35, op := Op.move (Operand.tmp 1), type := _, pos := _, after := _, guard := some (16, false) }) (v := undef) rfl (by kernel_rfl) (by kernel_rfl) (by kernel_rfl) (fun _ _ _ h => h) (Or.inr ⟨by rfl, rfl⟩) (by assumption) ?_
            try simp only [Act.put, List.setIfInBounds_toArray, List.set_cons_zero, List.set_cons_succ]
            refine wpAnyH_take (i := 20) (oi := { dst := some 36, op := Op.move (Operand.tmp 6), type := _, pos := _, after := _, guard := some (16, false) }) (v := undef) rfl (by kernel_rfl) (by kernel_rfl) (by kernel_rfl) (fun _ _ _ h => h) (Or.inr ⟨by rfl, rfl⟩) (by assumption) ?_
            try simp only [Act.put, List.setIfInBounds_toArray, List.set_cons_zero, List.set_cons_succ]
            refine wpAnyH_take (i := 21) (oi := { dst := some 37, op := Op.binOp BinOp.sub 3 (Operand.tmp 36) (Operand.const (Value.int IntKind.i64 1)) 3, type := _, pos := _, after := _, guard := some (16, false) }) (v := undef) rfl (by kernel_rfl) (by kernel_rfl) (by kernel_rfl) (fun _ _ _ h => h) (Or.inr ⟨by rfl, rfl⟩) (by assumption) ?_
            try simp only [Act.put, List.setIfInBounds_toArray, List.set_cons_zero, List.set_cons_succ]
            refine wpAnyH_take (i := 22) (oi := { dst := some 38, op := Op.indexAddr 22 (Operand.tmp 35) (Operand.tmp 37), type := _, pos := _, after := _, guard := some (16, false) }) (v := undef) rfl (by kernel_rfl) (by kernel_rfl) (by kernel_rfl) (fun _ _ _ h => h) (Or.inr ⟨by rfl, rfl⟩) (by assumption) ?_
            try simp only [Act.put, List.setIfInBounds_toArray, List.set_cons_zero, List.set_cons_succ]
            refine wpAnyH_take (i := 23) (oi := { dst := some 39, op := Op.load 3 (Operand.tmp 38), type := _, pos := _, after := _, guard := some (16, false) }) (v := undef) rfl (by kernel_rfl) (by kernel_rfl) (by kernel_rfl) (fun _ _ _ h => h) (Or.inr ⟨by rfl, rfl⟩) (by assumption) ?_
            try simp only [Act.put, List.setIfInBounds_toArray, List.set_cons_zero, List.set_cons_succ]
            refine wpAnyH_take (i := 24) (oi := { dst := some 40, op := Op.call { callee := Callee.value (Operand.func 43), args := #[Operand.tmp 39], argTypes := #[3] }, type := _, pos := _, after := _, guard := some (16, false) }) (v := undef) rfl (by kernel_rfl) (by kernel_rfl) (by kernel_rfl) (fun _ _ _ h => h) (Or.inr ⟨by rfl, rfl⟩) (by assumption) ?_
            try simp only [Act.put, List.setIfInBounds_toArray, List.set_cons_zero, List.set_cons_succ]
            refine wpAnyH_take (i := 25) (oi := { dst := some 41, op := Op.call { callee := Callee.value (Operand.func 42), args := #[Operand.tmp 34, Operand.tmp 40], argTypes := #[22, 3] }, type := _, pos := _, after := _, guard := some (16, false) }) (v := undef) rfl (by kernel_rfl) (by kernel_rfl) (by kernel_rfl) (fun _ _ _ h => h) (Or.inr ⟨by rfl, rfl⟩) (by assumption) ?_
            try simp only [Act.put, List.setIfInBounds_toArray, List.set_cons_zero, List.set_cons_succ]
            refine wpAnyH_take (i := 26) (oi := { dst := some 42, op := Op.unOp UnOp.not 4 (Operand.tmp 41), type := _, pos := _, after := _, guard := some (16, false) }) (v := undef) rfl (by kernel_rfl) (by kernel_rfl) (by kernel_rfl) (fun _ _ _ h => h) (Or.inr ⟨by rfl, rfl⟩) (by assumption) ?_
            try simp only [Act.put, List.setIfInBounds_toArray, List.set_cons_zero, List.set_cons_succ]
            refine wpAnyH_take (i := 27) (oi := { dst := some 43, op := Op.pick (Operand.tmp 32) (Operand.const (Value.bool true)) (Operand.tmp 42), type := _, pos := _, after := _, guard := some (10, true) }) (v := ?_) rfl (by kernel_rfl) (by kernel_rfl) (by kernel_rfl) (fun _ _ _ h => h) (Or.inl ⟨by rfl, ?_⟩) (by assumption) ?_
            rotate_left
            · intro w hSw; (try dsimp only at hSw); go_simp; try with_reducible rfl
            try simp only [Act.put, List.setIfInBounds_toArray, List.set_cons_zero, List.set_cons_succ]
            refine wpAnyH_take (i := 28) (oi := { dst := some 44, op := Op.pick (Operand.tmp 26) (Operand.tmp 43) (Operand.const (Value.bool false)), type := _, pos := _, after := _, guard := none }) (v := ?_) rfl (by kernel_rfl) (by kernel_rfl) (by kernel_rfl) (fun _ _ _ h => h) (Or.inl ⟨by rfl, ?_⟩) (by assumption) ?_
            rotate_left
            · intro w hSw; (try dsimp only at hSw); go_simp; try with_reducible rfl
            try simp only [Act.put, List.setIfInBounds_toArray, List.set_cons_zero, List.set_cons_succ]
            refine wpAnyH_take (i := 29) (oi := { dst := some 45, op := Op.indexAddr 28 (Operand.tmp 16) (Operand.tmp 17), type := _, pos := _, after := _, guard := none }) (v := ?_) rfl (by kernel_rfl) (by kernel_rfl) (by kernel_rfl) (fun _ _ _ h => h) (Or.inl ⟨by rfl, ?_⟩) (by assumption) ?_
            rotate_left
            · intro w hSw; (try dsimp only at hSw); go_simp; try with_reducible rfl
            try simp only [Act.put, List.setIfInBounds_toArray, List.set_cons_zero, List.set_cons_succ]
            refine wpAnyH_ready (rs := [30]) (by kernel_rfl) (by simp) ?_
            refine AllReadyH.cons (o := { dst := none, op := Op.store 4 (Operand.tmp 45) (Operand.tmp 44), type := _, pos := _, after := _, guard := none }) rfl (fun K hK => ?_) AllReadyH.nil
            go_simp
            refine hK.out _ _ (by exact HSN.out) (fun hHeld => ?_)
            clear hK K
            try simp only [Act.put, List.setIfInBounds_toArray, List.set_cons_zero, List.set_cons_succ]
            refine wpAnyH_done (by kernel_rfl) ?_ _
            all_goals
              go_wp2_with fail
              go_roundw
              case rel => exact ⟨j + 1 + 1, by omega, .inl (by omega), by go_num, by rw [show min (j + 1 + 1) n = j + 1 + 1 by omega]; exact HN, HX2, HW2⟩
              case measure => simp [intOf]; omega
          | false =>
            obtain ⟨r, hr⟩ : ∃ r, r = inL t.kp (classOf y) := ⟨_, rfl⟩
            rw [← hr] at HCK HV
            clear hr
            have HN := hid (show BoolBlk (wr.drew.setCell ⟨q + 1, (j + 1), none⟩ (.bool (!r))) (q + 1) (hidTo t.ig t.kp l n ((j + 1) + 1)) by rw [hidTo_step (v := (!r)) hlt (by rw [HV.out]; rfl)]; exact BoolBlk.set (w := wr.drew) HG.out _ _)
            have HX2 := hid (show (wr.drew.setCell ⟨q + 1, (j + 1), none⟩ (.bool (!r))).heap[q]? = _ from (heap_setCell_other _ _ _ _ (by simp)).trans HX.out)
            have HW2 := hid (show Below q w (wr.drew.setCell ⟨q + 1, (j + 1), none⟩ (.bool (!r))) from HW.out.drew.setCell (p := ⟨q + 1, (j + 1), none⟩) (by show q ≤ q + 1; omega) _)
            have HS := hid (And.intro f0 (And.intro f1 (And.intro hcm (And.intro hcy hcp))))
            have HSN := hid (show (wr.drew.setCell ⟨q + 1, (j + 1), none⟩ (.bool (!r))).cell? ⟨q, 0, none⟩ = some (.slice I t.ig.length ic) ∧ (wr.drew.setCell ⟨q + 1, (j + 1), none⟩ (.bool (!r))).cell? ⟨q, 1, none⟩ = some (.slice K t.kp.length kc) ∧ (wr.drew.setCell ⟨q + 1, (j + 1), none⟩ (.bool (!r))).cell? ⟨b, o + (j + 1), none⟩ = some (.int .i64 z) ∧
                (wr.drew.setCell ⟨q + 1, (j + 1), none⟩ (.bool (!r))).cell? ⟨b, o + j, none⟩ = some (.int .i64 y) ∧ (wr.drew.setCell ⟨q + 1, (j + 1), none⟩ (.bool (!r))).cell? ⟨q + 1, j, none⟩ = some (.bool false) from
              ⟨(cell_set_other (.inl (by omega))).trans f0, (cell_set_other (.inl (by omega))).trans f1, (cell_set_other (.inl HBne.out.1)).trans hcm, (cell_set_other (.inl HBne.out.1)).trans hcy, (cell_set_other (.inr (by omega))).trans hcp⟩)
            go_wp2_with fail
            refine wp_region_held_drew (S := (fun Y => Y.cell? ⟨q, 0, none⟩ = some (.slice I t.ig.length ic) ∧ Y.cell? ⟨q, 1, none⟩ = some (.slice K t.kp.length kc) ∧ Y.cell? ⟨b, o + (j + 1), none⟩ = some (.int .i64 z) ∧ Y.cell? ⟨b, o + j, none⟩ = some (.int .i64 y) ∧ Y.cell? ⟨q + 1, j, none⟩ = some (.bool false))) (by kernel_rfl) (by exact HS.out) (fun hHeld => ?_)
            refine wpAnyH_take (i := 0) (oi := { dst := some 16, op := Op.move (Operand.tmp 5), type := _, pos := _, after := _, guard := none }) (v := ?_) rfl (by kernel_rfl) (by kernel_rfl) (by kernel_rfl) (fun _ _ _ h => h) (Or.inl ⟨by rfl, ?_⟩) (by assumption) ?_
            rotate_left
            · intro w hSw; (try dsimp only at hSw); go_simp; try with_reducible rfl
            try simp only [Act.put, List.setIfInBounds_toArray, List.set_cons_zero, List.set_cons_succ]
            refine wpAnyH_take (i := 1) (oi := { dst := some 17, op := Op.move (Operand.tmp 6), type := _, pos := _, after := _, guard := none }) (v := ?_) rfl (by kernel_rfl) (by kernel_rfl) (by kernel_rfl) (fun _ _ _ h => h) (Or.inl ⟨by rfl, ?_⟩) (by assumption) ?_
            rotate_left
            · intro w hSw; (try dsimp only at hSw); go_simp; try with_reducible rfl
            try simp only [Act.put, List.setIfInBounds_toArray, List.set_cons_zero, List.set_cons_succ]
            refine wpAnyH_take (i := 2) (oi := { dst := some 18, op := Op.fieldAddr 25 (Operand.tmp 2) 0, type := _, pos := _, after := _, guard := none }) (v := ?_) rfl (by kernel_rfl) (by kernel_rfl) (by kernel_rfl) (fun _ _ _ h => h) (Or.inl ⟨by rfl, ?_⟩) (by assumption) ?_
            rotate_left
            · intro w hSw; (try dsimp only at hSw); go_simp; try with_reducible rfl
            try simp only [Act.put, List.setIfInBounds_toArray, List.set_cons_zero, List.set_cons_succ]
            refine wpAnyH_take (i := 3) (oi := { dst := some 19, op := Op.load 22 (Operand.tmp 18), type := _, pos := _, after := _, guard := none }) (v := ?_) rfl (by kernel_rfl) (by kernel_rfl) (by kernel_rfl) (fun _ _ _ h => h) (Or.inl ⟨by rfl, ?_⟩) (by assumption) ?_
            rotate_left
            · intro w hSw; (try dsimp only at hSw); go_simp; try with_reducible rfl
            try simp only [Act.put, List.setIfInBounds_toArray, List.set_cons_zero, List.set_cons_succ]
            refine wpAnyH_take (i := 4) (oi := { dst := some 20, op := Op.move (Operand.tmp 1), type := _, pos := _, after := _, guard := none }) (v := ?_) rfl (by kernel_rfl) (by kernel_rfl) (by kernel_rfl) (fun _ _ _ h => h) (Or.inl ⟨by rfl, ?_⟩) (by assumption) ?_
            rotate_left
            · intro w hSw; (try dsimp only at hSw); go_simp; try with_reducible rfl
            try simp only [Act.put, List.setIfInBounds_toArray, List.set_cons_zero, List.set_cons_succ]
            refine wpAnyH_take (i := 5) (oi := { dst := some 21, op := Op.move (Operand.tmp 6), type := _, pos := _, after := _, guard := none }) (v := ?_) rfl (by kernel_rfl) (by kernel_rfl) (by kernel_rfl) (fun _ _ _ h => h) (Or.inl ⟨by rfl, ?_⟩) (by assumption) ?_
            rotate_left
            · intro w hSw; (try dsimp only at hSw); go_simp; try with_reducible rfl
            try simp only [Act.put, List.setIfInBounds_toArray, List.set_cons_zero, List.set_cons_succ]
            refine wpAnyH_take (i := 6) (oi := { dst := some 22, op := Op.indexAddr 22 (Operand.tmp 20) (Operand.tmp 21), type := _, pos := _, after := _, guard := none }) (v := ?_) rfl (by kernel_rfl) (by kernel_rfl) (by kernel_rfl) (fun _ _ _ h => h) (Or.inl ⟨by rfl, ?_⟩) (by assumption) ?_
            rotate_left
            · intro w hSw; (try dsimp only at hSw); go_simp; try with_reducible rfl
            try simp only [Act.put, List.setIfInBounds_toArray, List.set_cons_zero, List.set_cons_succ]
            refine wpAnyH_take (i := 7) (oi := { dst := some 23, op := Op.load 3 (Operand.tmp 22), type := _, pos := _, after := _, guard := none }) (v := ?_) rfl (by kernel_rfl) (by kernel_rfl) (by kernel_rfl) (fun _ _ _ h => h) (Or.inl ⟨by rfl, ?_⟩) (by assumption) ?_
            rotate_left
            · intro w hSw; (try dsimp only at hSw); go_simp; try with_reducible rfl
            try simp only [Act.put, List.setIfInBounds_toArray, List.set_cons_zero, List.set_cons_succ]
            refine wpAnyH_ready (rs := [8]) (by kernel_rfl) (by simp) ?_
            refine AllReadyH.cons (o := { dst := some 24, op := Op.call { callee := Callee.value (Operand.func 43), args := #[Operand.tmp 23], argTypes := #[3] }, type := _, pos := _, after := _, guard := none }) rfl (fun K hK => ?_) AllReadyH.nil
            go_simp
            refine (class_any z _).mono ?_; rintro e w1 ⟨rfl, rfl⟩; go_wp2_with fail
            refine hK.out _ _ (by exact HS.out) (fun hHeld => ?_)
            clear hK K
            try simp only [Act.put, List.setIfInBounds_toArray, List.set_cons_zero, List.set_cons_succ]
            refine wpAnyH_ready (rs := [9]) (by kernel_rfl) (by simp) ?_
            refine AllReadyH.cons (o := { dst := some 25, op := Op.call { callee := Callee.value (Operand.func 42), args := #[Operand.tmp 19, Operand.tmp 24], argTypes := #[22, 3] }, type := _, pos := _, after := _, guard := none }) rfl (fun K hK => ?_) AllReadyH.nil
            go_simp
            refine (HCI.out wr.drew (fun _ _ _ => rfl)).mono ?_; rintro e w1 ⟨rfl, rfl⟩; go_wp2_with fail
            refine hK.out _ _ (by exact HS.out) (fun hHeld => ?_)
            clear hK K
            try simp only [Act.put, List.setIfInBounds_toArray, List.set_cons_zero, List.set_cons_succ]
            refine wpAnyH_take (i := 10) (oi := { dst := some 26, op := Op.move (Operand.tmp 25), type := _, pos := _, after := _, guard := none }) (v := ?_) rfl (by kernel_rfl) (by kernel_rfl) (by kernel_rfl) (fun _ _ _ h => h) (Or.inl ⟨by rfl, ?_⟩) (by assumption) ?_
            rotate_left
            · intro w hSw; (try dsimp only at hSw); go_simp; try with_reducible rfl
            try simp only [Act.put, List.setIfInBounds_toArray, List.set_cons_zero, List.set_cons_succ]
            refine wpAnyH_take (i := 11) (oi := { dst := some 27, op := Op.move (Operand.tmp 5), type := _, pos := _, after := _, guard := some (10, true) }) (v := ?_) rfl (by kernel_rfl) (by kernel_rfl) (by kernel_rfl) (fun _ _ _ h => h) (Or.inl ⟨by rfl, ?_⟩) (by assumption) ?_
            rotate_left
            · intro w hSw; (try dsimp only at hSw); go_simp; try with_reducible rfl
            try simp only [Act.put, List.setIfInBounds_toArray, List.set_cons_zero, List.set_cons_succ]
            refine wpAnyH_take (i := 12) (oi := { dst := some 28, op := Op.move (Operand.tmp 6), type := _, pos := _, after := _, guard := some (10, true) }) (v := ?_) rfl (by kernel_rfl) (by kernel_rfl) (by kernel_rfl) (fun _ _ _ h => h) (Or.inl ⟨by rfl, ?_⟩) (by assumption) ?_
            rotate_left
            · intro w hSw; (try dsimp only at hSw); go_simp; try with_reducible rfl
            try simp only [Act.put, List.setIfInBounds_toArray, List.set_cons_zero, List.set_cons_succ]
            refine wpAnyH_take (i := 13) (oi := { dst := some 29, op := Op.binOp BinOp.sub 3 (Operand.tmp 28) (Operand.const (Value.int IntKind.i64 1)) 3, type := _, pos := _, after := _, guard := some (10, true) }) (v := ?_) rfl (by kernel_rfl) (by kernel_rfl) (by kernel_rfl) (fun _ _ _ h => h) (Or.inl ⟨by rfl, ?_⟩) (by assumption) ?_
            rotate_left
            · intro w hSw; (try dsimp only at hSw); go_simp; try with_reducible rfl
            try simp only [Act.put, List.setIfInBounds_toArray, List.set_cons_zero, List.set_cons_succ]
            refine wpAnyH_take (i := 14) (oi := { dst := some 30, op := Op.indexAddr 28 (Operand.tmp 27) (Operand.tmp 29), type := _, pos := _, after := _, guard := some (10, true) }) (v := ?_) rfl (by kernel_rfl) (by kernel_rfl) (by kernel_rfl) (fun _ _ _ h => h) (Or.inl ⟨by rfl, ?_⟩) (by assumption) ?_
            rotate_left
            · intro w hSw; (try dsimp only at hSw); go_simp; try with_reducible rfl
            try simp only [Act.put, List.setIfInBounds_toArray, List.set_cons_zero, List.set_cons_succ]
            refine wpAnyH_take (i := 15) (oi := { dst := some 31, op := Op.load 4 (Operand.tmp 30), type := _, pos := _, after := _, guard := some (10, true) }) (v := ?_) rfl (by kernel_rfl) (by kernel_rfl) (by kernel_rfl) (fun _ _ _ h => h) (Or.inl ⟨by rfl, ?_⟩) (by assumption) ?_
            rotate_left
            · intro w hSw; (try dsimp only at hSw); go_simp; try with_reducible rfl
            try simp only [Act.put, List.setIfInBounds_toArray, List.set_cons_zero, List.set_cons_succ]
            refine wpAnyH_take (i := 16) (oi := { dst := some 32, op := Op.move (Operand.tmp 31), type := _, pos := _, after := _, guard := some (10, true) }) (v := ?_) rfl (by kernel_rfl) (by kernel_rfl) (by kernel_rfl) (fun _ _ _ h => h) (Or.inl ⟨by rfl, ?_⟩) (by assumption) ?_
            rotate_left
            · intro w hSw; (try dsimp only at hSw); go_simp; try with_reducible rfl
            try simp only [Act.put, List.setIfInBounds_toArray, List.set_cons_zero, List.set_cons_succ]
            refine wpAnyH_take (i := 17) (oi := { dst := some 33, op := Op.fieldAddr 25 (Operand.tmp 2) 1, type := _, pos := _, after := _, guard := some (16, false) }) (v := ?_) rfl (by kernel_rfl) (by kernel_rfl) (by kernel_rfl) (fun _ _ _ h => h) (Or.inl ⟨by rfl, ?_⟩) (by assumption) ?_
            rotate_left
            · intro w hSw; (try dsimp only at hSw); go_simp; try with_reducible rfl
            try simp only [Act.put, List.setIfInBounds_toArray, List.set_cons_zero, List.set_cons_succ]
            refine wpAnyH_take (i := 18) (oi := { dst := some 34, op := Op.load 22 (Operand.tmp 33), type := _, pos := _, after := _, guard := some (16, false) }) (v := ?_) rfl (by kernel_rfl) (by kernel_rfl) (by kernel_rfl) (fun _ _ _ h => h) (Or.inl ⟨by rfl, ?_⟩) (by assumption) ?_
            rotate_left
            · intro w hSw; (try dsimp only at hSw); go_simp; try with_reducible rfl
            try simp only [Act.put, List.setIfInBounds_toArray, List.set_cons_zero, List.set_cons_succ]
            refine wpAnyH_take (i := 19) (oi := { dst := some 35, op := Op.move (Operand.tmp 1), type := _, pos := _, after := _, guard := some (16, false) }) (v := ?_) rfl (by kernel_rfl) (by kernel_rfl) (by kernel_rfl) (fun _ _ _ h => h) (Or.inl ⟨by rfl, ?_⟩) (by assumption) ?_
            rotate_left
            · intro w hSw; (try dsimp only at hSw); go_simp; try with_reducible rfl
            try simp only [Act.put, List.setIfInBounds_toArray, List.set_cons_zero, List.set_cons_succ]
            refine wpAnyH_take (i := 20) (oi := { dst := some 36, op := Op.move (Operand.tmp 6), type := _, pos := _, after := _, guard := some (16, false) }) (v := ?_) rfl (by kernel_rfl) (by kernel_rfl) (by kernel_rfl) (fun _ _ _ h => h) (Or.inl ⟨by rfl, ?_⟩) (by assumption) ?_
            rotate_left
            · intro w hSw; (try dsimp only at hSw); go_simp; try with_reducible rfl
            try simp only [Act.put, List.setIfInBounds_toArray, List.set_cons_zero, List.set_cons_succ]
            refine wpAnyH_take (i := 21) (oi := { dst := some 37, op := Op.binOp BinOp.sub 3 (Operand.tmp 36) (Operand.const (Value.int IntKind.i64 1)) 3, type := _, pos := _, after := _, guard := some (16, false) }) (v := ?_) rfl (by kernel_rfl) (by kernel_rfl) (by kernel_rfl) (fun _ _ _ h => h) (Or.inl ⟨by rfl, ?_⟩) (by assumption) ?_
            rotate_left
            · intro w hSw; (try dsimp only at hSw); go_simp; try with_reducible rfl
            try simp only [Act.put, List.setIfInBounds_toArray, List.set_cons_zero, List.set_cons_succ]
            refine wpAnyH_take (i := 22) (oi := { dst := some 38, op := Op.indexAddr 22 (Operand.tmp 35) (Operand.tmp 37), type := _, pos := _, after := _, guard := some (16, false) }) (v := ?_) rfl (by kernel_rfl) (by kernel_rfl) (by kernel_rfl) (fun _ _ _ h => h) (Or.inl ⟨by rfl, ?_⟩) (by assumption) ?_
            rotate_left
            · intro w hSw; (try dsimp only at hSw); go_simp; try with_reducible rfl
            try simp only [Act.put, List.setIfInBounds_toArray, List.set_cons_zero, List.set_cons_succ]
            refine wpAnyH_take (i := 23) (oi := { dst := some 39, op := Op.load 3 (Operand.tmp 38), type := _, pos := _, after := _, guard := some (16, false) }) (v := ?_) rfl (by kernel_rfl) (by kernel_rfl) (by kernel_rfl) (fun _ _ _ h => h) (Or.inl ⟨by rfl, ?_⟩) (by assumption) ?_
            rotate_left
            · intro w hSw; (try dsimp only at hSw); go_simp; try with_reducible rfl
            try simp only [Act.put, List.setIfInBounds_toArray, List.set_cons_zero, List.set_cons_succ]
            refine wpAnyH_ready (rs := [24]) (by kernel_rfl) (by simp) ?_
            refine AllReadyH.cons (o := { dst := some 40, op := Op.call { callee := Callee.value (Operand.func 43), args := #[Operand.tmp 39], argTypes := #[3] }, type := _, pos := _, after := _, guard := some (16, false) }) rfl (fun K hK => ?_) AllReadyH.nil
            go_simp
            refine (class_any y _).mono ?_; rintro e w1 ⟨rfl, rfl⟩; go_wp2_with fail
            refine hK.out _ _ (by exact HS.out) (fun hHeld => ?_)
            clear hK K
            try simp only [Act.put, List.setIfInBounds_toArray, List.set_cons_zero, List.set_cons_succ]
            refine wpAnyH_ready (rs := [25]) (by kernel_rfl) (by simp) ?_
            refine AllReadyH.cons (o := { dst := some 41, op := Op.call { callee := Callee.value (Operand.func 42), args := #[Operand.tmp 34, Operand.tmp 40], argTypes := #[22, 3] }, type := _, pos := _, after := _, guard := some (16, false) }) rfl (fun K hK => ?_) AllReadyH.nil
            go_simp
            refine (HCK.out wr.drew (fun _ _ _ => rfl)).mono ?_; rintro e w1 ⟨rfl, rfl⟩; go_wp2_with fail
            refine hK.out _ _ (by exact HS.out) (fun hHeld => ?_)
            clear hK K
            try simp only [Act.put, List.setIfInBounds_toArray, List.set_cons_zero, List.set_cons_succ]
            refine wpAnyH_take (i := 26) (oi := { dst := some 42, op := Op.unOp UnOp.not 4 (Operand.tmp 41), type := _, pos := _, after := _, guard := some (16, false) }) (v := ?_) rfl (by kernel_rfl) (by kernel_rfl) (by kernel_rfl) (fun _ _ _ h => h) (Or.inl ⟨by rfl, ?_⟩) (by assumption) ?_
            rotate_left
            · intro w hSw; (try dsimp only at hSw); go_simp; try with_reducible rfl
            try simp only [Act.put, List.setIfInBounds_toArray, List.set_cons_zero, List.set_cons_succ]
            refine wpAnyH_take (i := 27) (oi := { dst := some 43, op := Op.pick (Operand.tmp 32) (Operand.const (Value.bool true)) (Operand.tmp 42), type := _, pos := _, after := _, guard := some (10, true) }) (v := ?_) rfl (by kernel_rfl) (by kernel_rfl) (by kernel_rfl) (fun _ _ _ h => h) (Or.inl ⟨by rfl, ?_⟩) (by assumption) ?_
            rotate_left
            · intro w hSw; (try dsimp only at hSw); go_simp; try with_reducible rfl
            try simp only [Act.put, List.setIfInBounds_toArray, List.set_cons_zero, List.set_cons_succ]
            refine wpAnyH_take (i := 28) (oi := { dst := some 44, op := Op.pick (Operand.tmp 26) (Operand.tmp 43) (Operand.const (Value.bool false)), type := _, pos := _, after := _, guard := none }) (v := ?_) rfl (by kernel_rfl) (by kernel_rfl) (by kernel_rfl) (fun _ _ _ h => h) (Or.inl ⟨by rfl, ?_⟩) (by assumption) ?_
            rotate_left
            · intro w hSw; (try dsimp only at hSw); go_simp; try with_reducible rfl
            try simp only [Act.put, List.setIfInBounds_toArray, List.set_cons_zero, List.set_cons_succ]
            refine wpAnyH_take (i := 29) (oi := { dst := some 45, op := Op.indexAddr 28 (Operand.tmp 16) (Operand.tmp 17), type := _, pos := _, after := _, guard := none }) (v := ?_) rfl (by kernel_rfl) (by kernel_rfl) (by kernel_rfl) (fun _ _ _ h => h) (Or.inl ⟨by rfl, ?_⟩) (by assumption) ?_
            rotate_left
            · intro w hSw; (try dsimp only at hSw); go_simp; try with_reducible rfl
            try simp only [Act.put, List.setIfInBounds_toArray, List.set_cons_zero, List.set_cons_succ]
            refine wpAnyH_ready (rs := [30]) (by kernel_rfl) (by simp) ?_
            refine AllReadyH.cons (o := { dst := none, op := Op.store 4 (Operand.tmp 45) (Operand.tmp 44), type := _, pos := _, after := _, guard := none }) rfl (fun K hK => ?_) AllReadyH.nil
            go_simp
            refine hK.out _ _ (by exact HSN.out) (fun hHeld => ?_)
            clear hK K
            try simp only [Act.put, List.setIfInBounds_toArray, List.set_cons_zero, List.set_cons_succ]
            refine wpAnyH_done (by kernel_rfl) ?_ _
            all_goals
              go_wp2_with fail
              go_roundw
              case rel => exact ⟨j + 1 + 1, by omega, .inl (by omega), by go_num, by rw [show min (j + 1 + 1) n = j + 1 + 1 by omega]; exact HN, HX2, HW2⟩
              case measure => simp [intOf]; omega
    · have hkn : min k n = n := by omega
      have HE := hid (show BoolBlk wr (q + 1) (hidL t.ig t.kp l) by
        have h := HG.out
        rw [hkn] at h
        unfold hidTo at h
        rw [Nat.sub_self] at h
        unfold hidL
        rw [HLn.out]
        simpa [noB] using h)
      have hlen : (hidL t.ig t.kp l).length = n := by simp [hidL, HLn.out]
      clear hkn
      go_wp2_with fail
      go_ret
      have hb := HE.out.bools (by rw [hlen]; omega)
      rw [hlen] at hb
      exact ⟨_, rfl, hb.mono (fun b' hb' _ => by rw [hb', ← HQ.out]; omega), HWr.out⟩
end Go.Proofs.Ytjcdcmeclnihbaa
