/- A block split in two: the walk. Conditions: at most a thousand states. -/
import Derived.Test.YtmdkmobcglnmgaaSq
namespace Go.Proofs.Ytmdkmobcglnmgaa
open Go.RowKit
set_option linter.unusedSimpArgs false

theorem Kept.any {x : Sx} {w w' : World} (h : Kept x none w w') (r : Option Nat) : Kept x r w w' := ⟨h.1, fun g h0 h1 h2 h3 h4 _ => h.2 g h0 h1 h2 h3 h4 (by simp)⟩
theorem one_cell {w : World} {p : Nat} {v : Value} {t : TypeId} (h : w.heap[p]? = some (.cells #[v] t (0, 0))) : w.cell? ⟨p, 0, none⟩ = some v ∧ w.frozen? ⟨p, 0, none⟩ = false := ⟨by rw [cell_of_row _ _ _ _ _ _ h]; rfl, frozen_of_row _ _ _ _ _ h⟩
set_option maxRecDepth 100000 in
set_option maxHeartbeats 8000000 in
theorem split_any (x : Sx) (hx : x.ok) (fv : Value) (many : Int) (blk : List Int) (st : List (Int × GV)) (td : List ((Int × Int) × Unit)) (b : Int) (vo : Value) (ol : List Int) (hm0 : 0 ≤ many ∧ many ≤ 1000) (hb : 0 ≤ b ∧ b < many) (hblk : blk.length = x.n) (hn1 : x.n ≤ 1000)
    (hol : ∀ z ∈ ol, ∃ s : Nat, z = s ∧ s < blk.length) (hoL : ol.length ≤ 1000000) (hL : ∀ z ∈ lst st b, ∃ s : Nat, z = s ∧ s < blk.length) (hLl : (lst st b).length ≤ 1000) (hLn : lst st b ≠ []) (w : World) (h : SpM x w fv many blk st td)
    (hown : OwnI w x.B vo ol) (hap : ∀ p ∈ st, p.1 ≠ many → Aprt p.2.1 vo) (hvb : vo.ownBlock ≠ some x.bb) (hB : x.B ≤ w.heap.size) :
    Calls Try.prog 69 #[.pointer (some ⟨x.sb, 0, none⟩), .int .i64 b, vo] w (SplitAns x w fv many blk st td b vo ol) := by
  obtain ⟨oA, oc, rfl, _⟩ := own_arr hown
  obtain ⟨vo, hvo⟩ : ∃ vo, vo = Value.slice oA ol.length oc := ⟨_, rfl⟩
  have HVO := hid hvo
  rw [← hvo] at hown hap hvb
  have HX := hid hx
  have HAP := hid hap
  have HVB := hid hvb
  have HOL := hid hol
  have HLL := hid hL
  have HLN := hid hLn
  have HBL := hid hblk
  have HKN := hid (show i64ok many from ⟨by omega, by omega⟩)
  have HKB := hid (show i64ok b from ⟨by omega, by omega⟩)
  obtain ⟨p3, hp3⟩ : ∃ p3, p3 = w.heap.size := ⟨_, rfl⟩
  obtain ⟨p6, hp6⟩ : ∃ p6, p6 = w.heap.size + 1 := ⟨_, rfl⟩
  have hlts : x.sb < p3 ∧ x.bb < p3 ∧ x.bs < p3 ∧ x.bt < p3 := by rw [hp3]; exact ⟨h.1.lt, h.2.1.lt, h.2.2.1.lt, h.2.2.2.2.2.lt⟩
  obtain ⟨L1, L2, L3, L4⟩ := hlts
  have L5 : p3 < p6 := by omega
  have HOO := hid (show ∀ Y, Kept x none w Y → OwnI Y x.B vo ol from fun Y hY => own_keep hown fun g hg => hY.2 g (hown.lt g hg).2
    (fun e => h.1.ne_row hown (by rw [hg, e])) (fun e => hvb (by rw [hg, e])) (fun e => own_map_ne hown h.2.2.1 (by rw [hg, e])) (fun e => own_map_ne hown h.2.2.2.2.2 (by rw [hg, e])) (by simp))
  have HLV := hid (show ∀ g, vo.ownBlock = some g → g < w.heap.size from fun g hg => (hown.lt g hg).2)
  have HRL := hid (show ∀ g, (rowV st b).ownBlock = some g → g < w.heap.size from fun g hg => ((h.2.2.2.1.row b).lt g hg).2)
  -- the two boxes
  have HW0 := hid (show SpM x ((w.alloc (.cells #[.pointer (some ⟨x.sb, 0, none⟩)] 96)).alloc (.cells #[.int .i64 many] 3)) fv many blk st td from
    (h.below ((Below.refl _ _).alloc (Nat.le_refl _) _)).below ((Below.refl _ _).alloc (Nat.le_refl _) _))
  have HC0 := hid (show ((w.alloc (.cells #[.pointer (some ⟨x.sb, 0, none⟩)] 96)).alloc (.cells #[.int .i64 many] 3)).heap[p3]? = some (.cells #[.pointer (some ⟨x.sb, 0, none⟩)] 96 (0, 0)) ∧
      ((w.alloc (.cells #[.pointer (some ⟨x.sb, 0, none⟩)] 96)).alloc (.cells #[.int .i64 many] 3)).heap[p6]? = some (.cells #[.int .i64 many] 3 (0, 0)) by
    refine ⟨(heap_alloc_old _ _ (by rw [hp3]; simp)).trans (by rw [hp3]; exact heap_alloc_new _ _), ?_⟩
    have h2 := heap_alloc_new (w.alloc (.cells #[.pointer (some ⟨x.sb, 0, none⟩)] 96)) (.cells #[.int .i64 many] 3)
    rw [show (w.alloc (.cells #[.pointer (some ⟨x.sb, 0, none⟩)] 96)).heap.size = p6 by rw [hp6]; simp] at h2
    exact h2)
  have HK0 := hid (show Kept x none w ((w.alloc (.cells #[.pointer (some ⟨x.sb, 0, none⟩)] 96)).alloc (.cells #[.int .i64 many] 3)) from
    (Kept.grown (World.grownBy_alloc _ _ none) (.inl rfl)).trans (Kept.grown (World.grownBy_alloc _ _ none) (.inl rfl)))
  have HB0 := hid (show Below x.B w ((w.alloc (.cells #[.pointer (some ⟨x.sb, 0, none⟩)] 96)).alloc (.cells #[.int .i64 many] 3)) from ((Below.refl _ _).alloc hB _).alloc (by simp; omega) _)
  have H1 := hid (h.below ((Below.refl _ _).alloc (Nat.le_refl _) (.cells #[.pointer (some ⟨x.sb, 0, none⟩)] 96)))
  have q6 := H1.out.1.cells.2.2.2.2.2.2
  have r6 := HW0.out.1.cells.2.2.2.2.2.2
  have f6 := HW0.out.1.frozen 6
  obtain ⟨a3, _⟩ := one_cell HC0.out.1
  obtain ⟨a6, _⟩ := one_cell HC0.out.2
  have HWS := hid (And.intro hp3 hp6)
  have e3 : (w.alloc (.cells #[.pointer (some ⟨x.sb, 0, none⟩)] 96)).cell? ⟨p3, 0, none⟩ = some (.pointer (some ⟨x.sb, 0, none⟩)) := (one_cell (show (w.alloc (.cells #[.pointer (some ⟨x.sb, 0, none⟩)] 96)).heap[p3]? = _ by rw [hp3]; exact heap_alloc_new _ _)).1
  rw [hp3] at e3 a3
  clear h hx hol hL hLn hblk hap hvb hown hp3 hp6 hvo
  go_enter Try.func69, Try.ntmps69
  go_wp2_with fail
  rw [← HWS.out.2, ← HWS.out.1]
  have HP0 := hid (HW0.out.setMany (many + 1))
  have hgs : ((w.alloc (.cells #[.pointer (some ⟨x.sb, 0, none⟩)] 96)).alloc (.cells #[.int .i64 many] 3)).grownBy (((w.alloc (.cells #[.pointer (some ⟨x.sb, 0, none⟩)] 96)).alloc (.cells #[.int .i64 many] 3)).setCell ⟨x.sb, 6, none⟩ (.int .i64 (many + 1))) (some x.sb) := grown_setCell (World.grownBy.refl _ _) 6 _
  have HK1 := hid (HK0.out.trans (Kept.grown (r := none) hgs (.inr (.inl rfl))))
  have HB1 := hid (HB0.out.setCell (p := ⟨x.sb, 6, none⟩) HX.out.1 (.int .i64 (many + 1)))
  have HC1 := hid (And.intro ((hgs.block p3 (Array.getElem?_eq_some_iff.1 HC0.out.1).1 (fun e => by injection e with e; omega)).trans HC0.out.1) ((hgs.block p6 (Array.getElem?_eq_some_iff.1 HC0.out.2).1 (fun e => by injection e with e; omega)).trans HC0.out.2))
  clear hgs q6 r6 f6 a3 a6 e3 H1 HW0 HC0 HK0 HB0
  go_loopw [24] (fun s24 wr => ∃ k : Nat, k ≤ ol.length ∧ s24 = .int .i64 k ∧ Hid (SpM x wr fv (many + 1) (cut blk many (ol.take k)) st td) ∧ Hid (wr.heap[p3]? = some (.cells #[.pointer (some ⟨x.sb, 0, none⟩)] 96 (0, 0)) ∧ wr.heap[p6]? = some (.cells #[.int .i64 many] 3 (0, 0))) ∧
      Hid (Kept x none w wr) ∧ Hid (Below x.B w wr)) (fun s24 _ => ol.length - (intOf s24).toNat)
  case atStart => exact ⟨0, by omega, rfl, HP0, HC1, HK1, HB1⟩
  case round =>
    obtain ⟨k, hk, rfl, HP, HC, HKP, HB⟩ := hrel
    clear HP0 HC1 HK1 HB1
    obtain ⟨g3, _⟩ := one_cell HC.out.1
    obtain ⟨g6, _⟩ := one_cell HC.out.2
    by_cases hlt : k < ol.length
    · have HOr := hid (show OwnI wr x.B (.slice oA ol.length oc) ol by rw [← HVO.out]; exact HOO.out wr HKP.out)
      obtain ⟨ob, oc', hov, _, _, hck⟩ := own_num HOr.out hlt
      obtain ⟨rfl, _, rfl⟩ : oA = some ⟨ob, 0, none⟩ ∧ True ∧ oc = oc' := by simpa using hov
      obtain ⟨s, hs, hsl⟩ := HOL.out (nth ol k) (nth_mem hlt)
      rw [hs] at hck
      have HCUT := hid (show cut blk many (ol.take (k + 1)) = (cut blk many (ol.take k)).set s many by rw [take_nth hlt, cut_snoc, hs]; rfl)
      have hsn : s < x.n := by rw [← HBL.out]; exact hsl
      have c3 := HP.out.1.cells.2.2.2.1
      have hbs : wr.cell? ⟨x.bb, s, none⟩ = some (.int .i64 (nth (cut blk many (ol.take k)) s)) := HP.out.2.1.cell (by rw [cut_len]; exact hsl)
      have hfs : wr.frozen? ⟨x.bb, s, none⟩ = false := HP.out.2.1.frozen s
      have hgb : wr.grownBy (wr.setCell ⟨x.bb, s, none⟩ (.int .i64 many)) (some x.bb) := grown_setCell (World.grownBy.refl _ _) s _
      have HP4 := hid (show SpM x (wr.setCell ⟨x.bb, s, none⟩ (.int .i64 many)) fv (many + 1) (cut blk many (ol.take (k + 1))) st td by rw [HCUT.out]; exact HP.out.setBlk s many)
      have HC4 := hid (And.intro ((hgb.block p3 (Array.getElem?_eq_some_iff.1 HC.out.1).1 (fun e => by injection e with e; omega)).trans HC.out.1) ((hgb.block p6 (Array.getElem?_eq_some_iff.1 HC.out.2).1 (fun e => by injection e with e; omega)).trans HC.out.2))
      have HK4 := hid (HKP.out.trans (Kept.grown (r := none) hgb (.inr (.inr (.inl rfl)))))
      have HB4 := hid (HB.out.setCell (p := ⟨x.bb, s, none⟩) HX.out.2.1 (.int .i64 many))
      have HSC := hid (show (wr.setCell ⟨x.bb, s, none⟩ (.int .i64 many)).cell? ⟨p3, 0, none⟩ = some (.pointer (some ⟨x.sb, 0, none⟩)) ∧ (wr.setCell ⟨x.bb, s, none⟩ (.int .i64 many)).cell? ⟨p6, 0, none⟩ = some (.int .i64 many) ∧
        (wr.setCell ⟨x.bb, s, none⟩ (.int .i64 many)).cell? ⟨x.sb, 3, none⟩ = some (.slice (some ⟨x.bb, 0, none⟩) x.n x.n) from ⟨(one_cell HC4.out.1).1, (one_cell HC4.out.2).1, HP4.out.1.cells.2.2.2.1⟩)
      clear hov hs hgb
      go_wp2_with fail
      refine wp_region_held_drew (S := (fun Y => Y.cell? ⟨p3, 0, none⟩ = some (.pointer (some ⟨x.sb, 0, none⟩)) ∧ Y.cell? ⟨p6, 0, none⟩ = some (.int .i64 many) ∧ Y.cell? ⟨x.sb, 3, none⟩ = some (.slice (some ⟨x.bb, 0, none⟩) x.n x.n))) (by kernel_rfl) (by exact ⟨g3, g6, c3⟩) (fun hHeld => ?_)
      refine wpAnyH_take (i := 0) (oi := { dst := some 28, op := Op.load 96 (Operand.tmp 3), type := _, pos := _, after := _, guard := none }) (v := ?_) rfl (by kernel_rfl) (by kernel_rfl) (by kernel_rfl) (fun _ _ _ h => h) (Or.inl ⟨by rfl, ?_⟩) (by assumption) ?_
      rotate_left
      · intro w hSw; (try dsimp only at hSw); go_simp; try with_reducible rfl
      try simp only [Act.put, List.setIfInBounds_toArray, List.set_cons_zero, List.set_cons_succ]
      refine wpAnyH_take (i := 1) (oi := { dst := some 29, op := Op.nilCheck (Operand.tmp 28), type := _, pos := _, after := _, guard := none }) (v := ?_) rfl (by kernel_rfl) (by kernel_rfl) (by kernel_rfl) (fun _ _ _ h => h) (Or.inl ⟨by rfl, ?_⟩) (by assumption) ?_
      rotate_left
      · intro w hSw; (try dsimp only at hSw); go_simp; try with_reducible rfl
      try simp only [Act.put, List.setIfInBounds_toArray, List.set_cons_zero, List.set_cons_succ]
      refine wpAnyH_take (i := 2) (oi := { dst := some 30, op := Op.fieldAddr 101 (Operand.tmp 29) 2, type := _, pos := _, after := _, guard := none }) (v := ?_) rfl (by kernel_rfl) (by kernel_rfl) (by kernel_rfl) (fun _ _ _ h => h) (Or.inl ⟨by rfl, ?_⟩) (by assumption) ?_
      rotate_left
      · intro w hSw; (try dsimp only at hSw); go_simp; try with_reducible rfl
      try simp only [Act.put, List.setIfInBounds_toArray, List.set_cons_zero, List.set_cons_succ]
      refine wpAnyH_take (i := 3) (oi := { dst := some 31, op := Op.load 32 (Operand.tmp 30), type := _, pos := _, after := _, guard := none }) (v := ?_) rfl (by kernel_rfl) (by kernel_rfl) (by kernel_rfl) (fun _ _ _ h => h) (Or.inl ⟨by rfl, ?_⟩) (by assumption) ?_
      rotate_left
      · intro w hSw; (try dsimp only at hSw); go_simp; try with_reducible rfl
      try simp only [Act.put, List.setIfInBounds_toArray, List.set_cons_zero, List.set_cons_succ]
      refine wpAnyH_take (i := 4) (oi := { dst := some 32, op := Op.move (Operand.tmp 8), type := _, pos := _, after := _, guard := none }) (v := ?_) rfl (by kernel_rfl) (by kernel_rfl) (by kernel_rfl) (fun _ _ _ h => h) (Or.inl ⟨by rfl, ?_⟩) (by assumption) ?_
      rotate_left
      · intro w hSw; (try dsimp only at hSw); go_simp; try with_reducible rfl
      try simp only [Act.put, List.setIfInBounds_toArray, List.set_cons_zero, List.set_cons_succ]
      refine wpAnyH_take (i := 5) (oi := { dst := some 33, op := Op.load 3 (Operand.tmp 6), type := _, pos := _, after := _, guard := none }) (v := ?_) rfl (by kernel_rfl) (by kernel_rfl) (by kernel_rfl) (fun _ _ _ h => h) (Or.inl ⟨by rfl, ?_⟩) (by assumption) ?_
      rotate_left
      · intro w hSw; (try dsimp only at hSw); go_simp; try with_reducible rfl
      try simp only [Act.put, List.setIfInBounds_toArray, List.set_cons_zero, List.set_cons_succ]
      refine wpAnyH_take (i := 6) (oi := { dst := some 34, op := Op.indexAddr 32 (Operand.tmp 31) (Operand.tmp 32), type := _, pos := _, after := _, guard := none }) (v := ?_) rfl (by kernel_rfl) (by kernel_rfl) (by kernel_rfl) (fun _ _ _ h => h) (Or.inl ⟨by rfl, ?_⟩) (by assumption) ?_
      rotate_left
      · intro w hSw; (try dsimp only at hSw); go_simp; try with_reducible rfl
      try simp only [Act.put, List.setIfInBounds_toArray, List.set_cons_zero, List.set_cons_succ]
      refine wpAnyH_ready (rs := [7]) (by kernel_rfl) (by simp) ?_
      refine AllReadyH.cons (o := { dst := none, op := Op.store 3 (Operand.tmp 34) (Operand.tmp 33), type := _, pos := _, after := _, guard := none }) rfl (fun K hK => ?_) AllReadyH.nil
      go_simp
      refine hK.out _ _ (by exact HSC.out) (fun hHeld => ?_)
      clear hK K
      try simp only [Act.put, List.setIfInBounds_toArray, List.set_cons_zero, List.set_cons_succ]
      refine wpAnyH_done (by kernel_rfl) ?_ _
      all_goals
        go_wp2_with fail
        go_roundw
        case rel => exact ⟨k + 1, by omega, by go_num, hid (by exact HP4.out), hid (by exact HC4.out), hid (by exact HK4.out), hid (by first | exact HB4.out | exact Below.drew HB4.out)⟩
        case measure => simp [intOf]; omega
    · obtain rfl : k = ol.length := by omega
      rw [List.take_length] at HP
      obtain rfl := HVO.out
      have c4 := HP.out.1.cells.2.2.2.2.1
      have HNO := hid (show mget st many = none ∨ True from .inr trivial)
      go_wp2_with fail
      refine wp_region_held_drew (S := (fun Y => Y.cell? ⟨p3, 0, none⟩ = some (.pointer (some ⟨x.sb, 0, none⟩)) ∧ Y.cell? ⟨p6, 0, none⟩ = some (.int .i64 many) ∧ Y.cell? ⟨x.sb, 4, none⟩ = some (.map (some x.bs)))) (by kernel_rfl) (by exact ⟨g3, g6, c4⟩) (fun hHeld => ?_)
      refine wpAnyH_take (i := 0) (oi := { dst := some 36, op := Op.load 96 (Operand.tmp 3), type := _, pos := _, after := _, guard := none }) (v := ?_) rfl (by kernel_rfl) (by kernel_rfl) (by kernel_rfl) (fun _ _ _ h => h) (Or.inl ⟨by rfl, ?_⟩) (by assumption) ?_
      rotate_left
      · intro w hSw; (try dsimp only at hSw); go_simp; try with_reducible rfl
      try simp only [Act.put, List.setIfInBounds_toArray, List.set_cons_zero, List.set_cons_succ]
      refine wpAnyH_take (i := 1) (oi := { dst := some 37, op := Op.nilCheck (Operand.tmp 36), type := _, pos := _, after := _, guard := none }) (v := ?_) rfl (by kernel_rfl) (by kernel_rfl) (by kernel_rfl) (fun _ _ _ h => h) (Or.inl ⟨by rfl, ?_⟩) (by assumption) ?_
      rotate_left
      · intro w hSw; (try dsimp only at hSw); go_simp; try with_reducible rfl
      try simp only [Act.put, List.setIfInBounds_toArray, List.set_cons_zero, List.set_cons_succ]
      refine wpAnyH_take (i := 2) (oi := { dst := some 38, op := Op.fieldAddr 101 (Operand.tmp 37) 3, type := _, pos := _, after := _, guard := none }) (v := ?_) rfl (by kernel_rfl) (by kernel_rfl) (by kernel_rfl) (fun _ _ _ h => h) (Or.inl ⟨by rfl, ?_⟩) (by assumption) ?_
      rotate_left
      · intro w hSw; (try dsimp only at hSw); go_simp; try with_reducible rfl
      try simp only [Act.put, List.setIfInBounds_toArray, List.set_cons_zero, List.set_cons_succ]
      refine wpAnyH_take (i := 3) (oi := { dst := some 39, op := Op.load 97 (Operand.tmp 38), type := _, pos := _, after := _, guard := none }) (v := ?_) rfl (by kernel_rfl) (by kernel_rfl) (by kernel_rfl) (fun _ _ _ h => h) (Or.inl ⟨by rfl, ?_⟩) (by assumption) ?_
      rotate_left
      · intro w hSw; (try dsimp only at hSw); go_simp; try with_reducible rfl
      try simp only [Act.put, List.setIfInBounds_toArray, List.set_cons_zero, List.set_cons_succ]
      refine wpAnyH_take (i := 4) (oi := { dst := some 40, op := Op.load 3 (Operand.tmp 6), type := _, pos := _, after := _, guard := none }) (v := ?_) rfl (by kernel_rfl) (by kernel_rfl) (by kernel_rfl) (fun _ _ _ h => h) (Or.inl ⟨by rfl, ?_⟩) (by assumption) ?_
      rotate_left
      · intro w hSw; (try dsimp only at hSw); go_simp; try with_reducible rfl
      try simp only [Act.put, List.setIfInBounds_toArray, List.set_cons_zero, List.set_cons_succ]
      refine wpAnyH_take (i := 5) (oi := { dst := some 41, op := Op.move (Operand.tmp 2), type := _, pos := _, after := _, guard := none }) (v := ?_) rfl (by kernel_rfl) (by kernel_rfl) (by kernel_rfl) (fun _ _ _ h => h) (Or.inl ⟨by rfl, ?_⟩) (by assumption) ?_
      rotate_left
      · intro w hSw; (try dsimp only at hSw); go_simp; try with_reducible rfl
      try simp only [Act.put, List.setIfInBounds_toArray, List.set_cons_zero, List.set_cons_succ]
      refine wpAnyH_ready (rs := [6]) (by kernel_rfl) (by simp) ?_
      refine AllReadyH.cons (o := { dst := none, op := Op.mapUpdate 97 (Operand.tmp 39) (Operand.tmp 40) (Operand.tmp 41), type := _, pos := _, after := _, guard := none }) rfl (fun K hK => ?_) AllReadyH.nil
      rw [if_pos (by rfl)]
      refine wp_mupd intKey (.tmp 39) (.tmp 40) (.tmp 41) 97 rfl Try.underlying97 (show GMap wr.drew x.bs st from HP.out.2.2.1) many HKN.out (.slice oA ol.length oc, ol) (.slice oA ol.length oc) rfl rfl rfl rfl ?_
      intro w4 hm4 hg4
      have HP4 := hid (SpM.add HX.out (show SpM x wr.drew fv (many + 1) (cut blk many ol) st td from HP.out) (HOO.out wr.drew (show Kept x none w wr.drew from HKP.out)) HAP.out HVB.out hm4 hg4)
      have HK4 := hid (Kept.trans (show Kept x none w wr.drew from HKP.out) (Kept.grown hg4 (.inr (.inr (.inr (.inl rfl))))))
      have HC4 := hid (show w4.heap[p3]? = some (.cells #[.pointer (some ⟨x.sb, 0, none⟩)] 96 (0, 0)) ∧ w4.heap[p6]? = some (.cells #[.int .i64 many] 3 (0, 0)) from ⟨(hg4.block p3 (Array.getElem?_eq_some_iff.1 HC.out.1).1 (fun e => by injection e with e; omega)).trans HC.out.1, (hg4.block p6 (Array.getElem?_eq_some_iff.1 HC.out.2).1 (fun e => by injection e with e; omega)).trans HC.out.2⟩)
      have HB4 := hid ((show Below x.B w wr.drew from Below.drew HB.out).grown hg4 (Nat.le_trans hB HB.out.size) (fun k hk => by cases hk; exact HX.out.2.2.1))
      refine hK.out _ _ (by exact ⟨(one_cell HC4.out.1).1, (one_cell HC4.out.2).1, HP4.out.1.cells.2.2.2.2.1⟩) (fun hHeld => ?_)
      clear hK K
      try simp only [Act.put, List.setIfInBounds_toArray, List.set_cons_zero, List.set_cons_succ]
      refine wpAnyH_done (by kernel_rfl) ?_ _
      all_goals
        clear hm4 hg4 HP HC HKP HB g3 g6 c4
        go_wp2_with fail
        have hbm : many ≠ b := by omega
        obtain ⟨st1, hst1⟩ : ∃ st1, st1 = mset st many (.slice oA ol.length oc, ol) := ⟨_, rfl⟩
        have HST1 := hid hst1
        obtain ⟨L, hLe⟩ : ∃ L, L = lst st b := ⟨_, rfl⟩
        have HLE := hid hLe
        have HP5 := hid (show SpM x w4 fv (many + 1) (cut blk many ol) st1 td by rw [hst1]; exact HP4.out)
        have hl1 : lst st1 b = L := by rw [hst1, lst_mset, if_neg hbm, hLe]
        have hv1 : rowV st1 b = rowV st b := by rw [hst1, rowV_mset, if_neg hbm]
        have hrow : OwnI w4 x.B (rowV st1 b) L := by rw [← hl1]; exact HP5.out.2.2.2.1.row b
        rw [← hLe] at hLl
        obtain ⟨g, cap, cur, hvg, hgB, hgh, hnc, hcm, hcs, htk⟩ : ∃ g cap cur, rowV st1 b = .slice (some ⟨g, 0, none⟩) L.length cap ∧ x.B ≤ g ∧ w4.heap[g]? = some (.cells cur 3 (0, 0)) ∧ L.length ≤ cap ∧ cap ≤ maxLen ∧ cur.size = cap ∧ cur.toList.take L.length = L.map (.int .i64) := by
          rcases hrow.2 with ⟨_, h0⟩ | ⟨g, cap, cur, a, b', c, d, e, f, i⟩
          · exact absurd (List.length_eq_zero_iff.1 h0) (by rw [hLe]; exact HLN.out)
          · exact ⟨g, cap, cur, a, b', c, d, e, by omega, by rw [Nat.mul_one] at i; exact i⟩
        have hrg : g < w.heap.size := HRL.out g (by rw [← hv1, hvg]; rfl)
        obtain ⟨z3, z6⟩ := HWS.out
        have hgp3 : g ≠ p3 := by omega
        have hgp6 : g ≠ p6 := by omega
        have hgsb : g ≠ x.sb := fun e => HP5.out.1.ne_row hrow (by rw [hvg, e]; rfl)
        have hgbb : g ≠ x.bb := fun e => by
          unfold rowV at hvg
          cases hq : mget st1 b with
          | none => rw [hq] at hvg; cases hvg
          | some y => rw [hq] at hvg; exact HP5.out.2.2.2.2.1 _ (mget_mem hq) (by rw [show (b, y).2.1 = Value.slice (some ⟨g, 0, none⟩) L.length cap from hvg, e]; rfl)
        have hgbs : g ≠ x.bs := fun e => own_map_ne hrow HP5.out.2.2.1 (by rw [hvg, e]; rfl)
        have HRV := hid hvg
        have HV1 := hid hv1
        have HL1 := hid hl1
        have HGB := hid (show w4.drew.heap[g]? = some (.cells cur 3 (0, 0)) from hgh)
        have HCS := hid hcs
        have HTK := hid htk
        have HROW4 := hid hrow
        have HLC := hid (show ∀ z ∈ L, ∃ t : Nat, z = t ∧ t < (cut blk many ol).length by rw [cut_len, hLe]; exact HLL.out)
        have HCA := hid (show ClAt x (cut blk many ol) many p3 p6 w4.drew from ⟨(one_cell HC4.out.1).1, (one_cell HC4.out.2).1, HP5.out.1.cells.2.2.2.1, HP5.out.2.1⟩)
        obtain ⟨kp, hkp⟩ : ∃ kp, kp = L.filter fun z => !inB (cut blk many ol) many z := ⟨_, rfl⟩
        have HKPE := hid hkp
        have g3 := (one_cell HC4.out.1).1
        have c4 := HP5.out.1.cells.2.2.2.2.1
        clear hst1 hLe hl1 hv1 hrow hvg hgh hcs htk z3 z6 hkp HP4
        refine wp_region_held_drew (S := (fun Y => Y.cell? ⟨p3, 0, none⟩ = some (.pointer (some ⟨x.sb, 0, none⟩)) ∧ Y.cell? ⟨x.sb, 4, none⟩ = some (.map (some x.bs)))) (by kernel_rfl) (by exact ⟨g3, c4⟩) (fun hHeld => ?_)
        refine wpAnyH_take (i := 0) (oi := { dst := some 42, op := Op.load 96 (Operand.tmp 3), type := _, pos := _, after := _, guard := none }) (v := ?_) rfl (by kernel_rfl) (by kernel_rfl) (by kernel_rfl) (fun _ _ _ h => h) (Or.inl ⟨by rfl, ?_⟩) (by assumption) ?_
        rotate_left
        · intro w hSw; (try dsimp only at hSw); go_simp; try with_reducible rfl
        try simp only [Act.put, List.setIfInBounds_toArray, List.set_cons_zero, List.set_cons_succ]
        refine wpAnyH_take (i := 1) (oi := { dst := some 43, op := Op.nilCheck (Operand.tmp 42), type := _, pos := _, after := _, guard := none }) (v := ?_) rfl (by kernel_rfl) (by kernel_rfl) (by kernel_rfl) (fun _ _ _ h => h) (Or.inl ⟨by rfl, ?_⟩) (by assumption) ?_
        rotate_left
        · intro w hSw; (try dsimp only at hSw); go_simp; try with_reducible rfl
        try simp only [Act.put, List.setIfInBounds_toArray, List.set_cons_zero, List.set_cons_succ]
        refine wpAnyH_take (i := 2) (oi := { dst := some 44, op := Op.fieldAddr 101 (Operand.tmp 43) 3, type := _, pos := _, after := _, guard := none }) (v := ?_) rfl (by kernel_rfl) (by kernel_rfl) (by kernel_rfl) (fun _ _ _ h => h) (Or.inl ⟨by rfl, ?_⟩) (by assumption) ?_
        rotate_left
        · intro w hSw; (try dsimp only at hSw); go_simp; try with_reducible rfl
        try simp only [Act.put, List.setIfInBounds_toArray, List.set_cons_zero, List.set_cons_succ]
        refine wpAnyH_take (i := 3) (oi := { dst := some 45, op := Op.load 97 (Operand.tmp 44), type := _, pos := _, after := _, guard := none }) (v := ?_) rfl (by kernel_rfl) (by kernel_rfl) (by kernel_rfl) (fun _ _ _ h => h) (Or.inl ⟨by rfl, ?_⟩) (by assumption) ?_
        rotate_left
        · intro w hSw; (try dsimp only at hSw); go_simp; try with_reducible rfl
        try simp only [Act.put, List.setIfInBounds_toArray, List.set_cons_zero, List.set_cons_succ]
        refine wpAnyH_take (i := 4) (oi := { dst := some 46, op := Op.move (Operand.tmp 1), type := _, pos := _, after := _, guard := none }) (v := ?_) rfl (by kernel_rfl) (by kernel_rfl) (by kernel_rfl) (fun _ _ _ h => h) (Or.inl ⟨by rfl, ?_⟩) (by assumption) ?_
        rotate_left
        · intro w hSw; (try dsimp only at hSw); go_simp; try with_reducible rfl
        try simp only [Act.put, List.setIfInBounds_toArray, List.set_cons_zero, List.set_cons_succ]
        refine wpAnyH_take (i := 5) (oi := { dst := some 47, op := Op.load 96 (Operand.tmp 3), type := _, pos := _, after := _, guard := none }) (v := ?_) rfl (by kernel_rfl) (by kernel_rfl) (by kernel_rfl) (fun _ _ _ h => h) (Or.inl ⟨by rfl, ?_⟩) (by assumption) ?_
        rotate_left
        · intro w hSw; (try dsimp only at hSw); go_simp; try with_reducible rfl
        try simp only [Act.put, List.setIfInBounds_toArray, List.set_cons_zero, List.set_cons_succ]
        refine wpAnyH_take (i := 6) (oi := { dst := some 48, op := Op.nilCheck (Operand.tmp 47), type := _, pos := _, after := _, guard := none }) (v := ?_) rfl (by kernel_rfl) (by kernel_rfl) (by kernel_rfl) (fun _ _ _ h => h) (Or.inl ⟨by rfl, ?_⟩) (by assumption) ?_
        rotate_left
        · intro w hSw; (try dsimp only at hSw); go_simp; try with_reducible rfl
        try simp only [Act.put, List.setIfInBounds_toArray, List.set_cons_zero, List.set_cons_succ]
        refine wpAnyH_take (i := 7) (oi := { dst := some 49, op := Op.fieldAddr 101 (Operand.tmp 48) 3, type := _, pos := _, after := _, guard := none }) (v := ?_) rfl (by kernel_rfl) (by kernel_rfl) (by kernel_rfl) (fun _ _ _ h => h) (Or.inl ⟨by rfl, ?_⟩) (by assumption) ?_
        rotate_left
        · intro w hSw; (try dsimp only at hSw); go_simp; try with_reducible rfl
        try simp only [Act.put, List.setIfInBounds_toArray, List.set_cons_zero, List.set_cons_succ]
        refine wpAnyH_take (i := 8) (oi := { dst := some 50, op := Op.load 97 (Operand.tmp 49), type := _, pos := _, after := _, guard := none }) (v := ?_) rfl (by kernel_rfl) (by kernel_rfl) (by kernel_rfl) (fun _ _ _ h => h) (Or.inl ⟨by rfl, ?_⟩) (by assumption) ?_
        rotate_left
        · intro w hSw; (try dsimp only at hSw); go_simp; try with_reducible rfl
        try simp only [Act.put, List.setIfInBounds_toArray, List.set_cons_zero, List.set_cons_succ]
        refine wpAnyH_take (i := 9) (oi := { dst := some 51, op := Op.move (Operand.tmp 1), type := _, pos := _, after := _, guard := none }) (v := ?_) rfl (by kernel_rfl) (by kernel_rfl) (by kernel_rfl) (fun _ _ _ h => h) (Or.inl ⟨by rfl, ?_⟩) (by assumption) ?_
        rotate_left
        · intro w hSw; (try dsimp only at hSw); go_simp; try with_reducible rfl
        try simp only [Act.put, List.setIfInBounds_toArray, List.set_cons_zero, List.set_cons_succ]
        refine wpAnyH_take (i := 11) (oi := { dst := some 53, op := Op.makeFunc (Fn.func 74) #[] #[Operand.tmp 3, Operand.tmp 6], type := _, pos := _, after := _, guard := none }) (v := ?_) rfl (by kernel_rfl) (by kernel_rfl) (by kernel_rfl) (fun _ _ _ h => h) (Or.inl ⟨by rfl, ?_⟩) (by assumption) ?_
        rotate_left
        · intro w hSw; (try dsimp only at hSw); go_simp; try with_reducible rfl
        try simp only [Act.put, List.setIfInBounds_toArray, List.set_cons_zero, List.set_cons_succ]
        refine wpAnyH_ready (rs := [10]) (by kernel_rfl) (by simp) ?_
        refine AllReadyH.cons (o := { dst := some 52, op := Op.lookup 97 (Operand.tmp 50) (Operand.tmp 51) false, type := _, pos := _, after := _, guard := none }) rfl (fun K hK => ?_) AllReadyH.nil
        rw [if_pos (by rfl)]
        refine wp_look_row (.tmp 50) (.tmp 51) rfl (show GMap w4.drew x.bs st1 from HP5.out.2.2.1) b HKB.out rfl rfl ?_
        rw [HRV.out]
        refine hK.out _ _ (by exact ⟨g3, c4⟩) (fun hHeld => ?_)
        clear hK K
        try simp only [Act.put, List.setIfInBounds_toArray, List.set_cons_zero, List.set_cons_succ]
        refine wpAnyH_ready (rs := [12]) (by kernel_rfl) (by simp) ?_
        refine AllReadyH.cons (o := { dst := some 54, op := Op.call { callee := Callee.value (Operand.func 73), args := #[Operand.tmp 52, Operand.tmp 53], argTypes := #[32, 86] }, type := _, pos := _, after := _, guard := none }) rfl (fun K hK => ?_) AllReadyH.nil
        go_simp
        refine (deleteI_any x (cut blk many ol) many p3 p6 g cap x.B cur L HLC.out hLl (by rw [cut_len]; exact HBL.out) hn1 w4.drew HCA.out hgB HGB.out hnc hcm HCS.out HTK.out hgp3 hgp6 hgsb hgbb).mono ?_
        rw [← HKPE.out]
        rintro e w5 ⟨rfl, hown5, hg5⟩
        have HH5 := hid (show SHead x w5 fv (many + 1) from HP5.out.1.keep (hg5.block x.sb HP5.out.1.lt (fun e => by injection e with e; exact hgsb e.symm)))
        have HM5 := hid (show GMap w5 x.bs st1 from MapIs.grown (w := w4.drew) HP5.out.2.2.1 hg5 (fun e => by injection e with e; exact hgbs e.symm))
        have HC5 := hid (show w5.heap[p3]? = some (.cells #[.pointer (some ⟨x.sb, 0, none⟩)] 96 (0, 0)) ∧ w5.heap[p6]? = some (.cells #[.int .i64 many] 3 (0, 0)) from ⟨(hg5.block p3 (Array.getElem?_eq_some_iff.1 HC4.out.1).1 (fun e => by injection e with e; exact hgp3 e.symm)).trans HC4.out.1, (hg5.block p6 (Array.getElem?_eq_some_iff.1 HC4.out.2).1 (fun e => by injection e with e; exact hgp6 e.symm)).trans HC4.out.2⟩)
        go_wp2_with fail
        refine hK.out _ _ (by exact ⟨(one_cell HC5.out.1).1, HH5.out.cells.2.2.2.2.1⟩) (fun hHeld => ?_)
        clear hK K
        try simp only [Act.put, List.setIfInBounds_toArray, List.set_cons_zero, List.set_cons_succ]
        refine wpAnyH_ready (rs := [13]) (by kernel_rfl) (by simp) ?_
        refine AllReadyH.cons (o := { dst := none, op := Op.mapUpdate 97 (Operand.tmp 45) (Operand.tmp 46) (Operand.tmp 54), type := _, pos := _, after := _, guard := none }) rfl (fun K hK => ?_) AllReadyH.nil
        rw [if_pos (by rfl)]
        refine wp_mupd intKey (.tmp 45) (.tmp 46) (.tmp 54) 97 rfl Try.underlying97 HM5.out b HKB.out (.slice (some ⟨g, 0, none⟩) kp.length cap, kp) (.slice (some ⟨g, 0, none⟩) kp.length cap) rfl rfl rfl rfl ?_
        intro w6 hm6 hg6
        refine hK.out _ _ (by exact ⟨(one_cell ((hg6.block p3 (Array.getElem?_eq_some_iff.1 HC5.out.1).1 (fun e => by injection e with e; omega)).trans HC5.out.1)).1, (HH5.out.keep (hg6.block x.sb HH5.out.lt (fun e => HH5.out.ne_map HM5.out (by injection e)))).cells.2.2.2.2.1⟩) (fun hHeld => ?_)
        clear hK K
        try simp only [Act.put, List.setIfInBounds_toArray, List.set_cons_zero, List.set_cons_succ]
        refine wpAnyH_done (by kernel_rfl) ?_ _
        have hgr : w4.drew.grownBy w5 (rowV st1 b).ownBlock := by rw [HRV.out]; exact hg5
        have HP6 := hid (show SpM x w6 fv (many + 1) (cut blk many ol) (mset st1 b (.slice (some ⟨g, 0, none⟩) kp.length cap, kp)) td from
          SpM.row HX.out (show SpM x w4.drew fv (many + 1) (cut blk many ol) st1 td from HP5.out) hgr hown5 (.inl (by rw [HRV.out]; rfl)) hm6 hg6 HM5.out)
        have HC6 := hid (show w6.heap[p3]? = some (.cells #[.pointer (some ⟨x.sb, 0, none⟩)] 96 (0, 0)) ∧ w6.heap[p6]? = some (.cells #[.int .i64 many] 3 (0, 0)) from
          ⟨(hg6.block p3 (Array.getElem?_eq_some_iff.1 HC5.out.1).1 (fun e => by injection e with e; omega)).trans HC5.out.1, (hg6.block p6 (Array.getElem?_eq_some_iff.1 HC5.out.2).1 (fun e => by injection e with e; omega)).trans HC5.out.2⟩)
        have HK6 := hid (show Kept x (rowV st b).ownBlock w w6 from
          ((show Kept x (rowV st b).ownBlock w w4.drew from HK4.out.any _).trans (Kept.grown hgr (.inr (.inr (.inr (.inr (.inr (by rw [HV1.out]))))))) ).trans (Kept.grown hg6 (.inr (.inr (.inr (.inl rfl))))))
        have HB6 := hid (show Below x.B w w6 from ((Below.drew HB4.out).grown hg5 (Nat.le_trans hB HB4.out.size) (fun k hk => by cases hk; exact hgB)).grown hg6 (Nat.le_trans hB (Nat.le_trans HB4.out.size hg5.size)) (fun k hk => by cases hk; exact HX.out.2.2.1))
        obtain ⟨ST2, hST2⟩ : ∃ ST2, ST2 = mset st1 b (.slice (some ⟨g, 0, none⟩) kp.length cap, kp) := ⟨_, rfl⟩
        have HST2 := hid hST2
        have HRV2 := hid (show rowV ST2 b = .slice (some ⟨g, 0, none⟩) kp.length cap by rw [hST2, rowV_mset, if_pos rfl])
        rw [← hST2] at HP6
        have hkl : kp.length ≤ 1000 := by
          have := List.length_filter_le (fun z => !inB (cut blk many ol) many z) L
          rw [← HKPE.out] at this
          omega
        have hGE := hid (show (rowV st b).ownBlock = some g by rw [← HV1.out, HRV.out]; rfl)
        clear hm6 hg6 hown5 hg5 hgr hST2 HM5 HH5 HC5 HP5 HC4 HK4 HB4 HROW4 HGB HCA g3 c4 HTK HCS
        go_wp2_with fail
        go_loopw [55] (fun s55 wr => ∃ (j : Nat) (td' : List ((Int × Int) × Unit)), j ≤ 37 ∧ s55 = .int .i64 j ∧ Hid (SpM x wr fv (many + 1) (cut blk many ol) ST2 td') ∧ Hid (TdPart td td' b many j) ∧ Hid (wr.heap[p3]? = some (.cells #[.pointer (some ⟨x.sb, 0, none⟩)] 96 (0, 0)) ∧ wr.heap[p6]? = some (.cells #[.int .i64 many] 3 (0, 0))) ∧
          Hid (Kept x (rowV st b).ownBlock w wr) ∧ Hid (Below x.B w wr)) (fun s55 _ => 37 - (intOf s55).toNat)
        case atStart => exact ⟨0, td, by omega, rfl, HP6, hid (TdPart.start _ _ _), HC6, HK6, HB6⟩
        case round =>
          obtain ⟨j, td', hj, rfl, HPj, HTj, HCj, HKj, HBj⟩ := hrel
          clear HP6 HC6 HK6 HB6
          by_cases hltj : j < 37
          · obtain ⟨g3, _⟩ := one_cell HCj.out.1
            obtain ⟨g6, _⟩ := one_cell HCj.out.2
            obtain ⟨c0, c1, c2, c3, c4, c5, c6⟩ := HPj.out.1.cells
            have HKJ := hid (show i64ok (j : Int) from ⟨by omega, by omega⟩)
            by_cases hkl2 : kp.length < ol.length
            · cases hq : mget td' (b, (j : Int)) with
              | some uu =>
                have HQ := hid (show mget td' (b, (j : Int)) = some () from hq)
                clear hq
                go_wp2_with (first
                  | (at_lookup; refine wpList_look_row rfl (.tmp 62) (.tmp 63) rfl HPj.out.2.2.1 b HKB.out rfl rfl ?_; rw [HRV2.out])
                  | (at_lookup; refine wpList_mlookup_some false pairKey rfl (.tmp 73) (.tmp 76) 98 rfl Try.underlying98 _ (zero4 _) HPj.out.2.2.2.2.2 (b, (j : Int)) ⟨HKB.out, HKJ.out⟩ rfl rfl () HQ.out ?_; intro u hu; rw [hu])
                  | (at_mapUpdate; refine wpList_mupdate pairKey rfl (.tmp 82) (.tmp 85) (.const (.bool true)) 98 rfl Try.underlying98 HPj.out.2.2.2.2.2 (many, (j : Int)) ⟨HKN.out, HKJ.out⟩ () _ rfl rfl rfl rfl ?_; intro w7 hm7 hg7))
                have HP7 := hid (HPj.out.todo HX.out hm7 hg7)
                have HT7 := hid (HTj.out.step (c := many) (by omega) (by first | exact .inl rfl | exact .inr rfl) (fun _ => rfl))
                have HC7 := hid (And.intro ((hg7.block p3 (Array.getElem?_eq_some_iff.1 HCj.out.1).1 (fun e => by injection e with e; omega)).trans HCj.out.1) ((hg7.block p6 (Array.getElem?_eq_some_iff.1 HCj.out.2).1 (fun e => by injection e with e; omega)).trans HCj.out.2))
                have HK7 := hid (HKj.out.trans (Kept.grown (r := (rowV st b).ownBlock) hg7 (.inr (.inr (.inr (.inr (.inl rfl)))))))
                have HB7 := hid (HBj.out.grown hg7 (Nat.le_trans hB HBj.out.size) (fun k hk => by cases hk; exact HX.out.2.2.2.1))
                go_roundw
                case rel => exact ⟨j + 1, _, by omega, by go_num, HP7, HT7, HC7, HK7, HB7⟩
                case measure => simp [intOf]; omega
              | none =>
                have HQ := hid hq
                clear hq
                go_wp2_with (first
                  | (at_lookup; refine wpList_look_row rfl (.tmp 62) (.tmp 63) rfl HPj.out.2.2.1 b HKB.out rfl rfl ?_; rw [HRV2.out])
                  | (at_lookup; refine wpList_mlookup_none false pairKey rfl (.tmp 73) (.tmp 76) 98 rfl Try.underlying98 _ (zero4 _) HPj.out.2.2.2.2.2 (b, (j : Int)) ⟨HKB.out, HKJ.out⟩ rfl rfl HQ.out ?_)
                  | (at_mapUpdate; refine wpList_mupdate pairKey rfl (.tmp 82) (.tmp 85) (.const (.bool true)) 98 rfl Try.underlying98 HPj.out.2.2.2.2.2 (b, (j : Int)) ⟨HKB.out, HKJ.out⟩ () _ rfl rfl rfl rfl ?_; intro w7 hm7 hg7))
                have HP7 := hid (HPj.out.todo HX.out hm7 hg7)
                have HT7 := hid (HTj.out.step (c := b) (by omega) (by first | exact .inl rfl | exact .inr rfl) (fun h => by rw [HQ.out] at h; cases h))
                have HC7 := hid (And.intro ((hg7.block p3 (Array.getElem?_eq_some_iff.1 HCj.out.1).1 (fun e => by injection e with e; omega)).trans HCj.out.1) ((hg7.block p6 (Array.getElem?_eq_some_iff.1 HCj.out.2).1 (fun e => by injection e with e; omega)).trans HCj.out.2))
                have HK7 := hid (HKj.out.trans (Kept.grown (r := (rowV st b).ownBlock) hg7 (.inr (.inr (.inr (.inr (.inl rfl)))))))
                have HB7 := hid (HBj.out.grown hg7 (Nat.le_trans hB HBj.out.size) (fun k hk => by cases hk; exact HX.out.2.2.2.1))
                go_roundw
                case rel => exact ⟨j + 1, _, by omega, by go_num, HP7, HT7, HC7, HK7, HB7⟩
                case measure => simp [intOf]; omega
            · cases hq : mget td' (b, (j : Int)) with
              | some uu =>
                have HQ := hid (show mget td' (b, (j : Int)) = some () from hq)
                clear hq
                go_wp2_with (first
                  | (at_lookup; refine wpList_look_row rfl (.tmp 62) (.tmp 63) rfl HPj.out.2.2.1 b HKB.out rfl rfl ?_; rw [HRV2.out])
                  | (at_lookup; refine wpList_mlookup_some false pairKey rfl (.tmp 73) (.tmp 76) 98 rfl Try.underlying98 _ (zero4 _) HPj.out.2.2.2.2.2 (b, (j : Int)) ⟨HKB.out, HKJ.out⟩ rfl rfl () HQ.out ?_; intro u hu; rw [hu])
                  | (at_mapUpdate; refine wpList_mupdate pairKey rfl (.tmp 82) (.tmp 85) (.const (.bool true)) 98 rfl Try.underlying98 HPj.out.2.2.2.2.2 (many, (j : Int)) ⟨HKN.out, HKJ.out⟩ () _ rfl rfl rfl rfl ?_; intro w7 hm7 hg7))
                have HP7 := hid (HPj.out.todo HX.out hm7 hg7)
                have HT7 := hid (HTj.out.step (c := many) (by omega) (by first | exact .inl rfl | exact .inr rfl) (fun _ => rfl))
                have HC7 := hid (And.intro ((hg7.block p3 (Array.getElem?_eq_some_iff.1 HCj.out.1).1 (fun e => by injection e with e; omega)).trans HCj.out.1) ((hg7.block p6 (Array.getElem?_eq_some_iff.1 HCj.out.2).1 (fun e => by injection e with e; omega)).trans HCj.out.2))
                have HK7 := hid (HKj.out.trans (Kept.grown (r := (rowV st b).ownBlock) hg7 (.inr (.inr (.inr (.inr (.inl rfl)))))))
                have HB7 := hid (HBj.out.grown hg7 (Nat.le_trans hB HBj.out.size) (fun k hk => by cases hk; exact HX.out.2.2.2.1))
                go_roundw
                case rel => exact ⟨j + 1, _, by omega, by go_num, HP7, HT7, HC7, HK7, HB7⟩
                case measure => simp [intOf]; omega
              | none =>
                have HQ := hid hq
                clear hq
                go_wp2_with (first
                  | (at_lookup; refine wpList_look_row rfl (.tmp 62) (.tmp 63) rfl HPj.out.2.2.1 b HKB.out rfl rfl ?_; rw [HRV2.out])
                  | (at_lookup; refine wpList_mlookup_none false pairKey rfl (.tmp 73) (.tmp 76) 98 rfl Try.underlying98 _ (zero4 _) HPj.out.2.2.2.2.2 (b, (j : Int)) ⟨HKB.out, HKJ.out⟩ rfl rfl HQ.out ?_)
                  | (at_mapUpdate; refine wpList_mupdate pairKey rfl (.tmp 82) (.tmp 85) (.const (.bool true)) 98 rfl Try.underlying98 HPj.out.2.2.2.2.2 (many, (j : Int)) ⟨HKN.out, HKJ.out⟩ () _ rfl rfl rfl rfl ?_; intro w7 hm7 hg7))
                have HP7 := hid (HPj.out.todo HX.out hm7 hg7)
                have HT7 := hid (HTj.out.step (c := many) (by omega) (by first | exact .inl rfl | exact .inr rfl) (fun _ => rfl))
                have HC7 := hid (And.intro ((hg7.block p3 (Array.getElem?_eq_some_iff.1 HCj.out.1).1 (fun e => by injection e with e; omega)).trans HCj.out.1) ((hg7.block p6 (Array.getElem?_eq_some_iff.1 HCj.out.2).1 (fun e => by injection e with e; omega)).trans HCj.out.2))
                have HK7 := hid (HKj.out.trans (Kept.grown (r := (rowV st b).ownBlock) hg7 (.inr (.inr (.inr (.inr (.inl rfl)))))))
                have HB7 := hid (HBj.out.grown hg7 (Nat.le_trans hB HBj.out.size) (fun k hk => by cases hk; exact HX.out.2.2.2.1))
                go_roundw
                case rel => exact ⟨j + 1, _, by omega, by go_num, HP7, HT7, HC7, HK7, HB7⟩
                case measure => simp [intOf]; omega
          · obtain rfl : j = 37 := by omega
            have HFIN := hid (show SplitAns x w fv many blk st td b (.slice oA ol.length oc) ol (.returned (.tuple #[])) wr from
              ⟨rfl, HBj.out, HKj.out, .slice (some ⟨g, 0, none⟩) kp.length cap, td', by rw [hGE.out]; rfl, HTj.out, by
                have h := HPj.out
                rw [HST2.out, HST1.out, HKPE.out, HLE.out] at h
                rw [HKPE.out, HLE.out]
                exact h⟩)
            go_wp2_with fail
            go_end0
            exact HFIN.out
end Go.Proofs.Ytmdkmobcglnmgaa
