/- The statement NestPlays walked. Condition: the table of blanks as it is laid. -/
import Derived.Test.YtfdfeblcchbcnaaDoorTrD
import Derived.Test.YtfdfeblcchbcnaaDoorBk
namespace Go.Proofs.YtfdfeblcchbcnaaDoor
open Go.RowKit

/-- Take beside the document's state, which lies in the next block. -/
def TookC (g : Nat) (w0 : World) (s : NS) (kind : Int) (v : Nat) (single : Bool) (e : Ending) (w' : World) : Prop :=
  e = .returned (.tuple #[.bool (takeF s kind v), .bool (takeC s kind v)]) ∧ IsNest w' g (takeS s kind v single) ∧ Below w0.heap.size w0 w' ∧ IsN30 w' (g + 1) s
theorem take_two (g : Nat) (w0 : World) (s : NS) (kind : Int) (name : ByteArray) (single : Bool) (w : World) (hg : w0.heap.size ≤ g) (hb : Below w0.heap.size w0 w) (hs : IsNest w g s) (ho : okN s) (hm : IsN30 w (g + 1) s) (hz : name.size ≤ 60) (ht : Tab w0) :
    Calls Tryd.prog 16 #[.pointer (some ⟨g, 0, none⟩), tokV kind 0 0 name 0 single] w (TookC g w0 s kind (valOf name.data.toList) single) := by
  refine (take_any g s _ kind 0 0 name 0 single w hs ho rfl (by omega) (tab_below ht hb)).mono fun e w' ⟨h1, h2, h3⟩ => ?_
  exact ⟨h1, h2, hb.grown h3 hb.size (fun k hk => by cases hk; exact hg), (h3.block _ hm.lt (by simp)).trans hm⟩
theorem rtake_kind (s s' : NS) (v : Nat) (name : ByteArray) (kind : Int) (en sg F C : Bool) (w : World) (ho : okN s) (hn : valOf name.data.toList = v) (hk : kind = kindOf en) (h1 : s' = takeS s kind v sg) (h2 : F = takeF s kind v) (h3 : C = takeC s kind v) :
    Calls Tryd.prog 17 #[stV s, .bool en, .bool sg, .string name] w fun e w' => e = .returned (.tuple #[stV s', .bool F, .bool C]) ∧ Below w.heap.size w w' := by
  subst h1 h2 h3 hk
  exact rtake_any s v name en sg w ho hn
theorem tag_keep {w0 w4 : World} {b o k : Nat} {t : T3} (h : Below w0.heap.size w0 w4) (hb : b < w0.heap.size) (h0 : TagIn w0 b o k t) : TagIn w4 b o k t :=
  tag_grown hb (Below.refl _ _) h h0
theorem tag_put3 {w : World} {b o k g : Nat} {t : T3} (s' : NS) (hb : b ≠ g) (h : TagIn w b o k t) :
    TagIn (((w.setCell ⟨g, 0, none⟩ (.int .i64 s'.h)).setCell ⟨g, 1, none⟩ (.int .i64 s'.p)).setCell ⟨g, 2, none⟩ (.int .i64 s'.n)) b o k t := by
  have e : ∀ x : Nat, (((w.setCell ⟨g, 0, none⟩ (.int .i64 s'.h)).setCell ⟨g, 1, none⟩ (.int .i64 s'.p)).setCell ⟨g, 2, none⟩ (.int .i64 s'.n)).cell? ⟨b, x, none⟩ = w.cell? ⟨b, x, none⟩ := fun x => by
    apply World.cell?_of_block
    exact (heap_setCell_other _ ⟨g, 2, none⟩ b _ hb).trans ((heap_setCell_other _ ⟨g, 1, none⟩ b _ hb).trans (heap_setCell_other _ ⟨g, 0, none⟩ b _ hb))
  exact ⟨(e _).trans h.1, (e _).trans h.2.1, (e _).trans h.2.2⟩
theorem put3_other {g k : Nat} (h : k ≠ g) (w : World) (s' : NS) :
    (((w.setCell ⟨g, 0, none⟩ (.int .i64 s'.h)).setCell ⟨g, 1, none⟩ (.int .i64 s'.p)).setCell ⟨g, 2, none⟩ (.int .i64 s'.n)).heap[k]? = w.heap[k]? :=
  (heap_setCell_other _ ⟨g, 2, none⟩ k _ h).trans ((heap_setCell_other _ ⟨g, 1, none⟩ k _ h).trans (heap_setCell_other _ ⟨g, 0, none⟩ k _ h))
theorem put3 {w : World} {g : Nat} {s : NS} (h : IsN30 w g s) (s' : NS) :
    (w.cell? ⟨g, 0, none⟩ = some (.int .i64 s.h) ∧ w.frozen? ⟨g, 0, none⟩ = false) ∧
    ((w.setCell ⟨g, 0, none⟩ (.int .i64 s'.h)).cell? ⟨g, 1, none⟩ = some (.int .i64 s.p) ∧ (w.setCell ⟨g, 0, none⟩ (.int .i64 s'.h)).frozen? ⟨g, 1, none⟩ = false) ∧
    (((w.setCell ⟨g, 0, none⟩ (.int .i64 s'.h)).setCell ⟨g, 1, none⟩ (.int .i64 s'.p)).cell? ⟨g, 2, none⟩ = some (.int .i64 s.n) ∧ ((w.setCell ⟨g, 0, none⟩ (.int .i64 s'.h)).setCell ⟨g, 1, none⟩ (.int .i64 s'.p)).frozen? ⟨g, 2, none⟩ = false) ∧
    IsN30 (((w.setCell ⟨g, 0, none⟩ (.int .i64 s'.h)).setCell ⟨g, 1, none⟩ (.int .i64 s'.p)).setCell ⟨g, 2, none⟩ (.int .i64 s'.n)) g s' := by
  have R1 : IsN30 (w.setCell ⟨g, 0, none⟩ (.int .i64 s'.h)) g ⟨s'.h, s.p, s.n⟩ := heap_setCell_same _ g 0 _ 30 _ h
  have R2 : IsN30 ((w.setCell ⟨g, 0, none⟩ (.int .i64 s'.h)).setCell ⟨g, 1, none⟩ (.int .i64 s'.p)) g ⟨s'.h, s'.p, s.n⟩ := heap_setCell_same _ g 1 _ 30 _ R1
  exact ⟨⟨h.cells.1, frozen_of_row _ _ _ _ _ h⟩, ⟨R1.cells.2.1, frozen_of_row _ _ _ _ _ R1⟩, ⟨R2.cells.2.2, frozen_of_row _ _ _ _ _ R2⟩, heap_setCell_same _ g 2 _ 30 _ R2⟩
set_option maxRecDepth 100000 in
set_option maxHeartbeats 4000000 in
theorem plays_walk (A : Option Addr) (cl : Nat) (l : List T3) (w : World) (hl : TagsAt w A l) (hlm : l.length ≤ 9223372036854775807) (ht : Tab w) :
    Calls Tryd.prog 5 #[.slice A l.length cl] w fun e w' => e = .returned (.bool true) ∧ Below w.heap.size w w' := by
  have HT := hid ht
  have HL := hid hl
  clear ht hl
  by_cases h1 : 60 < l.length
  · go_enter Tryd.func5, Tryd.ntmps5
    go_wp2_with fail
    refine (nawake_any _ HT.out).mono ?_
    rintro e w1 ⟨rfl, hb1⟩
    go_wp2_with fail
    go_ret
    exact ⟨rfl, hb1⟩
  have hl60 : l.length ≤ 60 := by omega
  clear hlm
  go_enter Tryd.func5, Tryd.ntmps5
  go_wp2_with fail
  refine (nawake_any _ HT.out).mono ?_
  rintro e w1 ⟨rfl, hb1⟩
  have HB1 := hid hb1
  clear hb1
  go_wp2_with fail
  refine (new_any _).mono ?_
  rintro e w3 ⟨rfl, hw3⟩
  obtain ⟨g, hg⟩ : ∃ g, g = w1.heap.size := ⟨_, rfl⟩
  rw [← hg]
  have hwg : w.heap.size ≤ g := by rw [hg]; exact HB1.out.size
  have hg3 : g + 1 = w3.heap.size := by rw [← hw3, hg]; simp
  have HN3 := hid (show IsNest (w3.alloc (.cells #[.int .i64 0, .int .i64 0, .int .i64 0] 30)) g ⟨0, 0, 0⟩ from (heap_alloc_old _ _ (by omega)).trans (by rw [← hw3, hg]; exact heap_alloc_new _ _))
  have HM3 := hid (show IsN30 (w3.alloc (.cells #[.int .i64 0, .int .i64 0, .int .i64 0] 30)) (g + 1) ⟨0, 0, 0⟩ by rw [hg3]; exact heap_alloc_new _ _)
  have HB3 := hid (show Below w.heap.size w (w3.alloc (.cells #[.int .i64 0, .int .i64 0, .int .i64 0] 30)) from
    Below.alloc (by rw [← hw3]; exact HB1.out.alloc HB1.out.size _) (by omega) _)
  clear hw3 HB1 h1
  have hg3' := hid hg3
  clear hg hg3
  go_wp2_with fail
  rw [← hg3'.out]
  go_loopw [5] (fun s5 wr => ∃ (k : Nat) (s : NS), k ≤ l.length ∧ s5 = .int .i64 k ∧ Hid (IsNest wr g s ∧ okN s ∧ IsN30 wr (g + 1) s) ∧ Hid (Below w.heap.size w wr)) (fun s5 _ => l.length - (intOf s5).toNat)
  case atStart => exact ⟨0, ⟨0, 0, 0⟩, by omega, rfl, hid ⟨HN3.out, ok0, HM3.out⟩, HB3⟩
  case round =>
    obtain ⟨k, s, hk, rfl, HN, HB⟩ := hrel
    clear HN3 HB3 HM3
    by_cases hlt : k < l.length
    · obtain ⟨b, o, t, rfl, hbs, htk, ⟨c0, c1, c2⟩, hsz⟩ := HL.out.at HB.out hlt
      clear htk
      by_cases hz : 60 < t.name.size
      · go_wp2_with fail
        go_ret
        exact ⟨rfl, HB.out⟩
      · have hzn := hid (show t.name.size ≤ 60 by omega)
        have H0 := hid (show TagIn wr b o k t from ⟨c0, c1, c2⟩)
        go_wp2_with fail
        go_region_held3 (fun Y => Y.cell? ⟨b, o + k * 3, none⟩ = some (.int .i64 t.kind) ∧ Y.cell? ⟨b, o + k * 3 + 1, none⟩ = some (.string t.name) ∧ Y.cell? ⟨b, o + k * 3 + 2, none⟩ = some (.bool t.single))
          (first | exact tag_grown hbs HB.out hn4.2.1 H0.out | exact H0.out)
          (first | (go_at_call 16; refine (take_two g w s t.kind t.name t.single _ hwg (by first | exact HB.out | exact Below.drew HB.out) (by exact HN.out.1) HN.out.2.1 (by exact HN.out.2.2) hzn.out HT.out).mono ?_; rintro e w4 ⟨rfl, hn4⟩))
        all_goals
          have HN4 := hid hn4
          have HC4 := hid (tag_grown hbs HB.out hn4.2.1 H0.out)
          obtain ⟨k0, k1, k2⟩ := HC4.out
          clear hn4 c0 c1 c2 H0
          by_cases hk23 : t.kind = 2 ∨ t.kind = 3
          · have HQ : ∃ en : Bool, t.kind = kindOf en ∧ (t.kind == 3) = en ∧ (t.kind == 2) = !en := by
              rcases hk23 with h | h
              · exact ⟨false, h, ieq_false (by omega), ieq_true h⟩
              · exact ⟨true, h, ieq_true h, ieq_false (by omega)⟩
            clear hk23
            obtain ⟨en, hke, q3, q2⟩ := HQ
            have HKE := hid hke
            clear hke
            obtain ⟨s', hs'⟩ : ∃ s', s' = takeS s t.kind (valOf t.name.data.toList) t.single := ⟨_, rfl⟩
            obtain ⟨F, hF⟩ : ∃ F, F = takeF s t.kind (valOf t.name.data.toList) := ⟨_, rfl⟩
            obtain ⟨C, hC⟩ : ∃ C, C = takeC s t.kind (valOf t.name.data.toList) := ⟨_, rfl⟩
            rw [← hs'] at HN4
            rw [← hF, ← hC]
            have HS' := hid hs'
            have HF := hid hF
            have HC := hid hC
            clear hs' hF hC
            have hwm : w.heap.size ≤ g + 1 := by omega
            obtain ⟨m0, m1, m2⟩ := HN4.out.2.2.cells
            cases en
            all_goals
              go_wp2_with fail
              go_cut [8, 9] from 19 to 117 (fun s8 s9 wc => s8 = .bool F ∧ s9 = .bool C ∧ Hid (IsNest wc g s' ∧ IsN30 wc (g + 1) s') ∧ Hid (Below w.heap.size w wc))
              case first =>
                refine wp_region_held_drew (S := fun Y => Y.cell? ⟨b, o + k * 3, none⟩ = some (.int .i64 t.kind) ∧ Y.cell? ⟨b, o + k * 3 + 1, none⟩ = some (.string t.name) ∧ Y.cell? ⟨b, o + k * 3 + 2, none⟩ = some (.bool t.single)) (by kernel_rfl) (by exact HC4.out) (fun hHeld => ?_)
                refine wpAnyH_take (i := 1) (oi := { dst := some 69, op := Op.move (Operand.tmp 0), type := _, pos := _, after := _, guard := none }) (v := ?_) rfl (by kernel_rfl) (by kernel_rfl) (by kernel_rfl) (fun _ _ _ h => h) (Or.inl ⟨by rfl, ?_⟩) (by assumption) ?_
                rotate_left
                · intro w hSw; (try dsimp only at hSw); go_simp; try with_reducible rfl
                try simp only [Act.put, List.setIfInBounds_toArray, List.set_cons_zero, List.set_cons_succ]
                refine wpAnyH_take (i := 2) (oi := { dst := some 70, op := Op.move (Operand.tmp 5), type := _, pos := _, after := _, guard := none }) (v := ?_) rfl (by kernel_rfl) (by kernel_rfl) (by kernel_rfl) (fun _ _ _ h => h) (Or.inl ⟨by rfl, ?_⟩) (by assumption) ?_
                rotate_left
                · intro w hSw; (try dsimp only at hSw); go_simp; try with_reducible rfl
                try simp only [Act.put, List.setIfInBounds_toArray, List.set_cons_zero, List.set_cons_succ]
                refine wpAnyH_take (i := 3) (oi := { dst := some 71, op := Op.indexAddr 26 (Operand.tmp 69) (Operand.tmp 70), type := _, pos := _, after := _, guard := none }) (v := ?_) rfl (by kernel_rfl) (by kernel_rfl) (by kernel_rfl) (fun _ _ _ h => h) (Or.inl ⟨by rfl, ?_⟩) (by assumption) ?_
                rotate_left
                · intro w hSw; (try dsimp only at hSw); go_simp; try with_reducible rfl
                try simp only [Act.put, List.setIfInBounds_toArray, List.set_cons_zero, List.set_cons_succ]
                refine wpAnyH_take (i := 4) (oi := { dst := some 72, op := Op.fieldAddr 32 (Operand.tmp 71) 0, type := _, pos := _, after := _, guard := none }) (v := ?_) rfl (by kernel_rfl) (by kernel_rfl) (by kernel_rfl) (fun _ _ _ h => h) (Or.inl ⟨by rfl, ?_⟩) (by assumption) ?_
                rotate_left
                · intro w hSw; (try dsimp only at hSw); go_simp; try with_reducible rfl
                try simp only [Act.put, List.setIfInBounds_toArray, List.set_cons_zero, List.set_cons_succ]
                refine wpAnyH_take (i := 5) (oi := { dst := some 73, op := Op.load 3 (Operand.tmp 72), type := _, pos := _, after := _, guard := none }) (v := ?_) rfl (by kernel_rfl) (by kernel_rfl) (by kernel_rfl) (fun _ _ _ h => h) (Or.inl ⟨by rfl, ?_⟩) (by assumption) ?_
                rotate_left
                · intro w hSw; (try dsimp only at hSw); go_simp; try with_reducible rfl
                try simp only [Act.put, List.setIfInBounds_toArray, List.set_cons_zero, List.set_cons_succ]
                refine wpAnyH_take (i := 6) (oi := { dst := some 74, op := Op.binOp BinOp.eql 3 (Operand.tmp 73) (Operand.const (Value.int IntKind.i64 3)) 3, type := _, pos := _, after := _, guard := none }) (v := ?_) rfl (by kernel_rfl) (by kernel_rfl) (by kernel_rfl) (fun _ _ _ h => h) (Or.inl ⟨by rfl, ?_⟩) (by assumption) ?_
                rotate_left
                · intro w hSw; (try dsimp only at hSw); go_simp; try with_reducible rfl
                try simp only [Act.put, List.setIfInBounds_toArray, List.set_cons_zero, List.set_cons_succ]
                refine wpAnyH_take (i := 7) (oi := { dst := some 75, op := Op.move (Operand.tmp 0), type := _, pos := _, after := _, guard := none }) (v := ?_) rfl (by kernel_rfl) (by kernel_rfl) (by kernel_rfl) (fun _ _ _ h => h) (Or.inl ⟨by rfl, ?_⟩) (by assumption) ?_
                rotate_left
                · intro w hSw; (try dsimp only at hSw); go_simp; try with_reducible rfl
                try simp only [Act.put, List.setIfInBounds_toArray, List.set_cons_zero, List.set_cons_succ]
                refine wpAnyH_take (i := 8) (oi := { dst := some 76, op := Op.move (Operand.tmp 5), type := _, pos := _, after := _, guard := none }) (v := ?_) rfl (by kernel_rfl) (by kernel_rfl) (by kernel_rfl) (fun _ _ _ h => h) (Or.inl ⟨by rfl, ?_⟩) (by assumption) ?_
                rotate_left
                · intro w hSw; (try dsimp only at hSw); go_simp; try with_reducible rfl
                try simp only [Act.put, List.setIfInBounds_toArray, List.set_cons_zero, List.set_cons_succ]
                refine wpAnyH_take (i := 9) (oi := { dst := some 77, op := Op.indexAddr 26 (Operand.tmp 75) (Operand.tmp 76), type := _, pos := _, after := _, guard := none }) (v := ?_) rfl (by kernel_rfl) (by kernel_rfl) (by kernel_rfl) (fun _ _ _ h => h) (Or.inl ⟨by rfl, ?_⟩) (by assumption) ?_
                rotate_left
                · intro w hSw; (try dsimp only at hSw); go_simp; try with_reducible rfl
                try simp only [Act.put, List.setIfInBounds_toArray, List.set_cons_zero, List.set_cons_succ]
                refine wpAnyH_take (i := 10) (oi := { dst := some 78, op := Op.fieldAddr 32 (Operand.tmp 77) 2, type := _, pos := _, after := _, guard := none }) (v := ?_) rfl (by kernel_rfl) (by kernel_rfl) (by kernel_rfl) (fun _ _ _ h => h) (Or.inl ⟨by rfl, ?_⟩) (by assumption) ?_
                rotate_left
                · intro w hSw; (try dsimp only at hSw); go_simp; try with_reducible rfl
                try simp only [Act.put, List.setIfInBounds_toArray, List.set_cons_zero, List.set_cons_succ]
                refine wpAnyH_take (i := 11) (oi := { dst := some 79, op := Op.load 4 (Operand.tmp 78), type := _, pos := _, after := _, guard := none }) (v := ?_) rfl (by kernel_rfl) (by kernel_rfl) (by kernel_rfl) (fun _ _ _ h => h) (Or.inl ⟨by rfl, ?_⟩) (by assumption) ?_
                rotate_left
                · intro w hSw; (try dsimp only at hSw); go_simp; try with_reducible rfl
                try simp only [Act.put, List.setIfInBounds_toArray, List.set_cons_zero, List.set_cons_succ]
                refine wpAnyH_take (i := 12) (oi := { dst := some 80, op := Op.move (Operand.tmp 0), type := _, pos := _, after := _, guard := none }) (v := ?_) rfl (by kernel_rfl) (by kernel_rfl) (by kernel_rfl) (fun _ _ _ h => h) (Or.inl ⟨by rfl, ?_⟩) (by assumption) ?_
                rotate_left
                · intro w hSw; (try dsimp only at hSw); go_simp; try with_reducible rfl
                try simp only [Act.put, List.setIfInBounds_toArray, List.set_cons_zero, List.set_cons_succ]
                refine wpAnyH_take (i := 13) (oi := { dst := some 81, op := Op.move (Operand.tmp 5), type := _, pos := _, after := _, guard := none }) (v := ?_) rfl (by kernel_rfl) (by kernel_rfl) (by kernel_rfl) (fun _ _ _ h => h) (Or.inl ⟨by rfl, ?_⟩) (by assumption) ?_
                rotate_left
                · intro w hSw; (try dsimp only at hSw); go_simp; try with_reducible rfl
                try simp only [Act.put, List.setIfInBounds_toArray, List.set_cons_zero, List.set_cons_succ]
                refine wpAnyH_take (i := 14) (oi := { dst := some 82, op := Op.indexAddr 26 (Operand.tmp 80) (Operand.tmp 81), type := _, pos := _, after := _, guard := none }) (v := ?_) rfl (by kernel_rfl) (by kernel_rfl) (by kernel_rfl) (fun _ _ _ h => h) (Or.inl ⟨by rfl, ?_⟩) (by assumption) ?_
                rotate_left
                · intro w hSw; (try dsimp only at hSw); go_simp; try with_reducible rfl
                try simp only [Act.put, List.setIfInBounds_toArray, List.set_cons_zero, List.set_cons_succ]
                refine wpAnyH_take (i := 15) (oi := { dst := some 83, op := Op.fieldAddr 32 (Operand.tmp 82) 1, type := _, pos := _, after := _, guard := none }) (v := ?_) rfl (by kernel_rfl) (by kernel_rfl) (by kernel_rfl) (fun _ _ _ h => h) (Or.inl ⟨by rfl, ?_⟩) (by assumption) ?_
                rotate_left
                · intro w hSw; (try dsimp only at hSw); go_simp; try with_reducible rfl
                try simp only [Act.put, List.setIfInBounds_toArray, List.set_cons_zero, List.set_cons_succ]
                refine wpAnyH_take (i := 16) (oi := { dst := some 84, op := Op.load 9 (Operand.tmp 83), type := _, pos := _, after := _, guard := none }) (v := ?_) rfl (by kernel_rfl) (by kernel_rfl) (by kernel_rfl) (fun _ _ _ h => h) (Or.inl ⟨by rfl, ?_⟩) (by assumption) ?_
                rotate_left
                · intro w hSw; (try dsimp only at hSw); go_simp; try with_reducible rfl
                try simp only [Act.put, List.setIfInBounds_toArray, List.set_cons_zero, List.set_cons_succ]
                refine wpAnyH_ready (rs := [0]) (by kernel_rfl) (by simp) ?_
                refine AllReadyH.cons (o := { dst := some 68, op := Op.load 30 (Operand.tmp 4), type := _, pos := _, after := _, guard := none }) rfl (fun K hK => ?_) AllReadyH.nil
                go_simp
                refine hK.out _ _ (by exact HC4.out) (fun hHeld => ?_)
                clear hK K
                try simp only [Act.put, List.setIfInBounds_toArray, List.set_cons_zero, List.set_cons_succ]
                refine wpAnyH_ready (rs := [17]) (by kernel_rfl) (by simp) ?_
                refine AllReadyH.cons (o := { dst := some 85, op := Op.call { callee := Callee.value (Operand.func 17), args := #[Operand.tmp 68, Operand.tmp 74, Operand.tmp 79, Operand.tmp 84], argTypes := #[30, 4, 4, 9] }, type := _, pos := _, after := _, guard := none }) rfl (fun K hK => ?_) AllReadyH.nil
                go_simp
                refine (rtake_kind s s' _ t.name t.kind _ t.single F C _ HN.out.2.1 rfl HKE.out HS'.out HF.out HC.out).mono ?_; rintro e w5 ⟨rfl, hb5⟩; obtain ⟨⟨p0, f0⟩, ⟨p1, f1⟩, ⟨p2, f2⟩, hR⟩ := put3 (keep30 (by exact HN4.out.2.2) hb5) s'; have HR := hid hR; have HB5 := hid hb5; have HC5 := hid (tag_keep hb5 (by exact Nat.lt_of_lt_of_le hbs HN4.out.2.1.size) (by exact HC4.out)); have HC6 := hid (tag_put3 (g := g + 1) s' (by omega) HC5.out); clear hR hb5
                go_wp2_with fail
                refine hK.out _ _ (by exact HC5.out) (fun hHeld => ?_)
                clear hK K
                try simp only [Act.put, List.setIfInBounds_toArray, List.set_cons_zero, List.set_cons_succ]
                refine wpAnyH_take (i := 18) (oi := { dst := some 67, op := Op.move (Operand.tmp 85), type := _, pos := _, after := _, guard := none }) (v := ?_) rfl (by kernel_rfl) (by kernel_rfl) (by kernel_rfl) (fun _ _ _ h => h) (Or.inl ⟨by rfl, ?_⟩) (by assumption) ?_
                rotate_left
                · intro w hSw; (try dsimp only at hSw); go_simp; try with_reducible rfl
                try simp only [Act.put, List.setIfInBounds_toArray, List.set_cons_zero, List.set_cons_succ]
                refine wpAnyH_take (i := 19) (oi := { dst := some 86, op := Op.extract (Operand.tmp 67) 0, type := _, pos := _, after := _, guard := none }) (v := ?_) rfl (by kernel_rfl) (by kernel_rfl) (by kernel_rfl) (fun _ _ _ h => h) (Or.inl ⟨by rfl, ?_⟩) (by assumption) ?_
                rotate_left
                · intro w hSw; (try dsimp only at hSw); go_simp; try with_reducible rfl
                try simp only [Act.put, List.setIfInBounds_toArray, List.set_cons_zero, List.set_cons_succ]
                refine wpAnyH_take (i := 20) (oi := { dst := some 87, op := Op.extract (Operand.tmp 67) 1, type := _, pos := _, after := _, guard := none }) (v := ?_) rfl (by kernel_rfl) (by kernel_rfl) (by kernel_rfl) (fun _ _ _ h => h) (Or.inl ⟨by rfl, ?_⟩) (by assumption) ?_
                rotate_left
                · intro w hSw; (try dsimp only at hSw); go_simp; try with_reducible rfl
                try simp only [Act.put, List.setIfInBounds_toArray, List.set_cons_zero, List.set_cons_succ]
                refine wpAnyH_take (i := 21) (oi := { dst := some 88, op := Op.extract (Operand.tmp 67) 2, type := _, pos := _, after := _, guard := none }) (v := ?_) rfl (by kernel_rfl) (by kernel_rfl) (by kernel_rfl) (fun _ _ _ h => h) (Or.inl ⟨by rfl, ?_⟩) (by assumption) ?_
                rotate_left
                · intro w hSw; (try dsimp only at hSw); go_simp; try with_reducible rfl
                try simp only [Act.put, List.setIfInBounds_toArray, List.set_cons_zero, List.set_cons_succ]
                refine wpAnyH_ready (rs := [22]) (by kernel_rfl) (by simp) ?_
                refine AllReadyH.cons (o := { dst := none, op := Op.store 30 (Operand.tmp 4) (Operand.tmp 86), type := _, pos := _, after := _, guard := none }) rfl (fun K hK => ?_) AllReadyH.nil
                go_simp
                refine hK.out _ _ (by exact HC6.out) (fun hHeld => ?_)
                clear hK K
                try simp only [Act.put, List.setIfInBounds_toArray, List.set_cons_zero, List.set_cons_succ]
                refine wpAnyH_take (i := 23) (oi := { dst := some 8, op := Op.assign (Operand.tmp 87), type := _, pos := _, after := _, guard := none }) (v := ?_) rfl (by kernel_rfl) (by kernel_rfl) (by kernel_rfl) (fun _ _ _ h => h) (Or.inl ⟨by rfl, ?_⟩) (by assumption) ?_
                rotate_left
                · intro w hSw; (try dsimp only at hSw); go_simp; try with_reducible rfl
                try simp only [Act.put, List.setIfInBounds_toArray, List.set_cons_zero, List.set_cons_succ]
                refine wpAnyH_take (i := 24) (oi := { dst := some 9, op := Op.assign (Operand.tmp 88), type := _, pos := _, after := _, guard := none }) (v := ?_) rfl (by kernel_rfl) (by kernel_rfl) (by kernel_rfl) (fun _ _ _ h => h) (Or.inl ⟨by rfl, ?_⟩) (by assumption) ?_
                rotate_left
                · intro w hSw; (try dsimp only at hSw); go_simp; try with_reducible rfl
                try simp only [Act.put, List.setIfInBounds_toArray, List.set_cons_zero, List.set_cons_succ]
                refine wpAnyH_done (by kernel_rfl) ?_ _
                all_goals
                  go_wp2_with fail
                  go_meet
                  exact ⟨rfl, rfl, hid ⟨(put3_other (by omega) _ s').trans ((HB5.out.block g (by exact HN4.out.1.cells.2.2.2)).trans HN4.out.1), HR.out⟩,
                      hid (Below.setCell (Below.setCell (Below.setCell (HN4.out.2.1.drew.trans (Below.mono HB5.out HN4.out.2.1.size)) hwm _) hwm _) hwm _)⟩
              case rest =>
                obtain ⟨rfl, rfl, HN6, HB6⟩ := hcut
                clear m0 m1 m2 k0 k1 k2 q2 q3 HKE HF HC HC4
                have HO' := hid (show okN s' by rw [HS'.out]; exact takeS_ok _ _ _ HN.out.2.1)
                have HR := hid HN6.out.2
                have HS6 := hid HN6.out.1
                clear HS' HN6
                obtain ⟨m0, m1, m2⟩ := HR.out.cells
                have r0 := ine_false (rfl : s'.h = s'.h)
                have r1 := ine_false (rfl : s'.p = s'.p)
                have r2 := ine_false (rfl : s'.n = s'.n)
                go_wp2_with fail
                go_region_held3 (fun Y => Y.cell? ⟨g + 1, 0, none⟩ = some (.int .i64 s'.h) ∧ Y.cell? ⟨g + 1, 1, none⟩ = some (.int .i64 s'.p) ∧ Y.cell? ⟨g + 1, 2, none⟩ = some (.int .i64 s'.n))
                  (exact IsN30.cells HR.out)
                  (first
                    | (go_at_call 18; refine (hidden_any g s' _ (by exact HS6.out)).mono ?_; rintro e w7 ⟨rfl, rfl⟩)
                    | (go_at_call 19; refine (pre_any g s' _ (by exact HS6.out)).mono ?_; rintro e w7 ⟨rfl, rfl⟩)
                    | (go_at_call 20; refine (nobreak_any g s' _ (by exact HS6.out)).mono ?_; rintro e w7 ⟨rfl, rfl⟩))
                all_goals
                  go_wp2_with fail
                  go_roundw
                  case rel => exact ⟨k + 1, s', by omega, by go_num, hid ⟨HS6.out, HO'.out, HR.out⟩, hid (by first | exact HB6.out | exact Below.drew HB6.out)⟩
                  case measure => simp [intOf]; omega
          · have hk2 : t.kind ≠ 2 := fun h => hk23 (Or.inl h)
            have hk3 : t.kind ≠ 3 := fun h => hk23 (Or.inr h)
            clear hk23
            have q2 := ieq_false hk2
            have q3 := ieq_false hk3
            have HS5 := hid (show IsNest w4 g s by have h := HN4.out.1; simpa [takeS, hk2, hk3] using h)
            have HM5 := hid HN4.out.2.2
            have HB5 := hid HN4.out.2.1
            rw [show takeF s t.kind (valOf t.name.data.toList) = false by simp [takeF, hk2, hk3], show takeC s t.kind (valOf t.name.data.toList) = false by simp [takeC, hk2]]
            have m0 := HM5.out.cells
            obtain ⟨m0, m1, m2⟩ := m0
            have r0 := ine_false (rfl : s.h = s.h)
            have r1 := ine_false (rfl : s.p = s.p)
            have r2 := ine_false (rfl : s.n = s.n)
            clear hk2 hk3
            go_wp2_with fail
            go_region_held3 (fun Y => Y.cell? ⟨g + 1, 0, none⟩ = some (.int .i64 s.h) ∧ Y.cell? ⟨g + 1, 1, none⟩ = some (.int .i64 s.p) ∧ Y.cell? ⟨g + 1, 2, none⟩ = some (.int .i64 s.n))
              (exact IsN30.cells HM5.out)
              (first
                | (go_at_call 18; refine (hidden_any g s _ (by exact HS5.out)).mono ?_; rintro e w5 ⟨rfl, rfl⟩)
                | (go_at_call 19; refine (pre_any g s _ (by exact HS5.out)).mono ?_; rintro e w5 ⟨rfl, rfl⟩)
                | (go_at_call 20; refine (nobreak_any g s _ (by exact HS5.out)).mono ?_; rintro e w5 ⟨rfl, rfl⟩))
            all_goals
              go_wp2_with fail
              go_roundw
              case rel => exact ⟨k + 1, s, by omega, by go_num, hid ⟨HS5.out, HN.out.2.1, HM5.out⟩, hid (by first | exact HB5.out | exact Below.drew HB5.out)⟩
              case measure => simp [intOf]; omega
    · obtain rfl : k = l.length := by omega
      go_wp2_with fail
      go_ret
      exact ⟨rfl, HB.out⟩
end Go.Proofs.YtfdfeblcchbcnaaDoor
