/- A nest takes a token: what Take returns, and makes of the counts. Conditions: counts within what they may be; a name of at most 100 bytes; the table of blanks as it is laid. -/
import Derived.Test.YtfdfeblcchbcnaaDoorNt
namespace Go.Proofs.YtfdfeblcchbcnaaDoor
open Go.RowKit

def takeS (s : NS) (kind : Int) (v : Nat) (single : Bool) : NS := if kind = 2 then startS s v single else if kind = 3 then endS s v else s
def takeF (s : NS) (kind : Int) (v : Nat) : Bool := if kind = 2 then s.h == 0 && bitB v 33 else if kind = 3 then s.h == 0 && (bitB v 1 && !bitB v 2) else false
def takeC (s : NS) (kind : Int) (v : Nat) : Bool := if kind = 2 then s.h == 0 && bitB v 64 else false
theorem takeS_ok {s : NS} (kind : Int) (v : Nat) (single : Bool) (h : okN s) : okN (takeS s kind v single) := by
  unfold takeS startS endS
  split
  · split
    · exact h
    · exact addS_ok _ _ h
  · split
    · split
      · exact h
      · exact addS_ok _ _ h
    · exact h
def TakeAns (g : Nat) (w : World) (s : NS) (kind : Int) (v : Nat) (single : Bool) (e : Ending) (w' : World) : Prop :=
  e = .returned (.tuple #[.bool (takeF s kind v), .bool (takeC s kind v)]) ∧ IsNest w' g (takeS s kind v single) ∧ w.grownBy w' (some g)
def BoxAt (w : World) (p : Nat) (kind fr to' : Int) (name : ByteArray) (r : Int) (single : Bool) : Prop := w.heap[p]? = some (.cells #[.int .i64 kind, .int .i64 fr, .int .i64 to', .string name, .int .i32 r, .bool single] 36 (0, 0))
theorem BoxAt.cells {w : World} {p : Nat} {kind fr to' : Int} {name : ByteArray} {r : Int} {single : Bool} (h : BoxAt w p kind fr to' name r single) :
    w.cell? ⟨p, 0, none⟩ = some (.int .i64 kind) ∧ w.cell? ⟨p, 1, none⟩ = some (.int .i64 fr) ∧ w.cell? ⟨p, 2, none⟩ = some (.int .i64 to') ∧ w.cell? ⟨p, 3, none⟩ = some (.string name) ∧ w.cell? ⟨p, 4, none⟩ = some (.int .i32 r) ∧ w.cell? ⟨p, 5, none⟩ = some (.bool single) :=
  ⟨by rw [cell_of_row _ _ _ _ _ _ h]; rfl, by rw [cell_of_row _ _ _ _ _ _ h]; rfl, by rw [cell_of_row _ _ _ _ _ _ h]; rfl, by rw [cell_of_row _ _ _ _ _ _ h]; rfl, by rw [cell_of_row _ _ _ _ _ _ h]; rfl, by rw [cell_of_row _ _ _ _ _ _ h]; rfl⟩

set_option maxRecDepth 100000 in
set_option maxHeartbeats 2000000 in
theorem take_any (g : Nat) (s : NS) (v : Nat) (kind fr to' : Int) (name : ByteArray) (r : Int) (single : Bool) (w : World) (hs : IsNest w g s) (ho : okN s) (hn : valOf name.data.toList = v) (hz : name.size ≤ 100) (ht : Tab w) :
    Calls Tryd.prog 16 #[.pointer (some ⟨g, 0, none⟩), tokV kind fr to' name r single] w (TakeAns g w s kind v single) := by
  have hv : v < 128 := by rw [← hn]; exact seven_lt _
  obtain ⟨W, hW⟩ : ∃ W, W = w.alloc (.cells #[.int .i64 kind, .int .i64 fr, .int .i64 to', .string name, .int .i32 r, .bool single] 36) := ⟨_, rfl⟩
  have hg := hs.cells.2.2.2
  have hbW : Below w.heap.size w W := by rw [hW]; exact (Below.refl _ _).alloc (Nat.le_refl _) _
  have hgW : w.grownBy W (some g) := by rw [hW]; exact World.grownBy_alloc w _ _
  have hbox : BoxAt W w.heap.size kind fr to' name r single := by show W.heap[_]? = _; rw [hW]; exact heap_alloc_new _ _
  obtain ⟨c0, c1, c2, c3, c4, c5⟩ := hbox.cells
  have HSW := hid (hs.below hbW)
  have HT := hid (tab_below ht hbW)
  have HO := hid ho
  have HN := hid hn
  have HBX := hid hbox
  have hWz : w.heap.size < W.heap.size := (Array.getElem?_eq_some_iff.1 hbox).1
  have hpg : w.heap.size ≠ g := by omega
  clear hs ho hn ht hbox hbW
  by_cases k2 : kind = 2
  · have hk := ieq_true k2
    have fin := hid (show ∀ (w' : World) (w2 : World), W.grownBy w2 (some g) → StartAns g w2 s v single (.returned (.tuple #[.bool (s.h == 0 && bitB v 33), .bool (s.h == 0 && bitB v 64)])) w' → TakeAns g w s kind v single (.returned (.tuple #[.bool (s.h == 0 && bitB v 33), .bool (s.h == 0 && bitB v 64)])) w' from fun w' w2 h2 ⟨_, h4, h5⟩ =>
      ⟨by unfold takeF takeC; rw [if_pos k2, if_pos k2], by unfold takeS; rw [if_pos k2]; exact h4, grown_then hgW (grown_then h2 h5)⟩)
    clear k2
    subst hW
    go_enter Tryd.func16, Tryd.ntmps16
    go_wp2_with fail
    obtain ⟨W, hW⟩ : ∃ W, W = w.alloc (.cells #[.int .i64 kind, .int .i64 fr, .int .i64 to', .string name, .int .i32 r, .bool single] 36) := ⟨_, rfl⟩
    rw [← hW] at HSW HT HBX hWz c0 c1 c2 c3 c4 c5 hgW ⊢
    have fin2 := fin.out
    rw [← hW] at fin2
    have fin := hid fin2
    clear hW fin2
    go_region_held3 (fun Y => Y.cell? ⟨w.heap.size, 0, none⟩ = some (.int .i64 kind) ∧ Y.cell? ⟨w.heap.size, 1, none⟩ = some (.int .i64 fr) ∧ Y.cell? ⟨w.heap.size, 2, none⟩ = some (.int .i64 to') ∧ Y.cell? ⟨w.heap.size, 3, none⟩ = some (.string name) ∧ Y.cell? ⟨w.heap.size, 4, none⟩ = some (.int .i32 r) ∧ Y.cell? ⟨w.heap.size, 5, none⟩ = some (.bool single)) (first | exact BoxAt.cells (name := name) hx2 | exact BoxAt.cells (name := name) hx1 | exact BoxAt.cells (name := name) HBX.out)
      (first
        | (go_at_call 11; refine (of_val name v HN.out hz _ (by first | exact HT.out | exact tab_below HT.out ((Below.refl _ _).drew))).mono ?_; rintro e w1 ⟨rfl, hb1⟩; have hB1 : Below W.heap.size W w1 := (by first | exact hb1 | exact ((Below.refl _ _).drew).trans hb1); have hx1 : BoxAt w1 w.heap.size kind fr to' name r single := (hB1.block _ hWz).trans HBX.out; have hn1 := hid (HSW.out.below hB1); have hg1 : W.grownBy w1 (some g) := ⟨hB1.os, hB1.tape, hB1.output, hB1.size, fun i hi _ => hB1.block i hi⟩)
        | (go_at_call 24; refine (start_any g s v kind fr to' name r single _ hn1.out HO.out hv).mono ?_; rintro e w2 hst; have he := hst.1; subst he; have hx2 : BoxAt w2 w.heap.size kind fr to' name r single := (hst.2.2.block _ (Array.getElem?_eq_some_iff.1 hx1).1 (by simpa using hpg)).trans hx1))
    all_goals
      go_wp2_with fail
      go_ret2
      exact fin.out _ _ hg1 hst
  · by_cases k3 : kind = 3
    · have hk := ieq_false k2
      have hk3 := ieq_true k3
      have fin := hid (show ∀ (w' : World) (w2 : World), W.grownBy w2 (some g) → EndAns g w2 s v (.returned (.bool (s.h == 0 && (bitB v 1 && !bitB v 2)))) w' → TakeAns g w s kind v single (.returned (.tuple #[.bool (s.h == 0 && (bitB v 1 && !bitB v 2)), .bool false])) w' from fun w' w2 h2 ⟨_, h4, h5⟩ =>
        ⟨by unfold takeF takeC; rw [if_neg k2, if_pos k3, if_neg k2], by unfold takeS; rw [if_neg k2, if_pos k3]; exact h4, grown_then hgW (grown_then h2 h5)⟩)
      clear k2 k3
      subst hW
      go_enter Tryd.func16, Tryd.ntmps16
      go_wp2_with (first
        | (go_at_call 11; refine (of_val name v HN.out hz _ HT.out).mono ?_; rintro e w1 ⟨rfl, hB1⟩; have hn1 := hid (HSW.out.below hB1); have hg1 := grown_of_below hB1 (some g))
        | (go_at_call 25; refine (end_any g s v _ hn1.out HO.out hv).mono ?_; rintro e w2 hst; have he := hst.1; subst he))
      go_ret2
      exact fin.out _ _ hg1 hst
    · have hk := ieq_false k2
      have hk3 := ieq_false k3
      have fin := hid (show ∀ (w' : World), IsNest w' g s → w.grownBy w' (some g) → TakeAns g w s kind v single (.returned (.tuple #[.bool false, .bool false])) w' from fun w' h1 h5 =>
        ⟨by unfold takeF takeC; rw [if_neg k2, if_neg k3, if_neg k2], by unfold takeS; rw [if_neg k2, if_neg k3]; exact h1, h5⟩)
      clear k2 k3
      subst hW
      go_enter Tryd.func16, Tryd.ntmps16
      go_wp2
      go_ret2
      exact fin.out _ HSW.out hgW
theorem take_nil (kind fr to' : Int) (name : ByteArray) (r : Int) (single : Bool) (w : World) :
    Calls Tryd.prog 16 #[.pointer none, tokV kind fr to' name r single] w fun e w' => e = .returned (.tuple #[.bool false, .bool false]) ∧ Below w.heap.size w w' := by
  go_enter Tryd.func16, Tryd.ntmps16
  go_wp2
  go_ret2
  exact ⟨rfl, (Below.refl _ _).alloc (Nat.le_refl _) _⟩
end Go.Proofs.YtfdfeblcchbcnaaDoor
