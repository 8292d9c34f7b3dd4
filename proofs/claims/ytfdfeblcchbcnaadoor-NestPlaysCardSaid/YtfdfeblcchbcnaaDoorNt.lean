/- A nest: what New, the counts, start, end and Take return, and make of the counts. Conditions: counts within what they may be; a name of at most 100 bytes; the table of blanks as it is laid. -/
import Derived.Test.YtfdfeblcchbcnaaDoorNe
namespace Go.Proofs.YtfdfeblcchbcnaaDoor
open Go.RowKit

theorem IsNest.cells {w : World} {g : Nat} {s : NS} (h : IsNest w g s) : w.cell? ⟨g, 0, none⟩ = some (.int .i64 s.h) ∧ w.cell? ⟨g, 1, none⟩ = some (.int .i64 s.p) ∧ w.cell? ⟨g, 2, none⟩ = some (.int .i64 s.n) ∧ g < w.heap.size :=
  ⟨by rw [cell_of_row _ _ _ _ _ _ h]; rfl, by rw [cell_of_row _ _ _ _ _ _ h]; rfl, by rw [cell_of_row _ _ _ _ _ _ h]; rfl, (Array.getElem?_eq_some_iff.1 h).1⟩
theorem IsNest.keep {w w' : World} {g : Nat} {s : NS} (h : IsNest w g s) (hb : w'.heap[g]? = w.heap[g]?) : IsNest w' g s := hb.trans h
theorem IsNest.below {w w' : World} {g : Nat} {s : NS} (h : IsNest w g s) (hb : Below w.heap.size w w') : IsNest w' g s := h.keep (hb.block g h.cells.2.2.2)

set_option maxHeartbeats 400000 in
theorem new_any (w : World) : Calls Tryd.prog 15 #[] w fun e w' => e = .returned (.pointer (some ⟨w.heap.size, 0, none⟩)) ∧ w.alloc (.cells #[.int .i64 0, .int .i64 0, .int .i64 0] 56) = w' := by
  go_enter Tryd.func15, Tryd.ntmps15
  go_wp2
  go_ret
  exact ⟨rfl, rfl⟩
set_option maxHeartbeats 400000 in
theorem count0 (g : Nat) (s : NS) (w : World) (h : IsNest w g s) : Calls Tryd.prog 27 #[.pointer (some ⟨g, 0, none⟩), .int .i64 0] w fun e w' => e = .returned (.int .i64 s.h) ∧ w = w' := by
  obtain ⟨c0, c1, c2, _⟩ := h.cells
  go_enter Tryd.func27, Tryd.ntmps27
  go_wp2
  go_ret
  exact ⟨rfl, rfl⟩
set_option maxHeartbeats 400000 in
theorem count1 (g : Nat) (s : NS) (w : World) (h : IsNest w g s) : Calls Tryd.prog 27 #[.pointer (some ⟨g, 0, none⟩), .int .i64 1] w fun e w' => e = .returned (.int .i64 s.p) ∧ w = w' := by
  obtain ⟨c0, c1, c2, _⟩ := h.cells
  go_enter Tryd.func27, Tryd.ntmps27
  go_wp2
  go_ret
  exact ⟨rfl, rfl⟩
set_option maxHeartbeats 400000 in
theorem count2 (g : Nat) (s : NS) (w : World) (h : IsNest w g s) : Calls Tryd.prog 27 #[.pointer (some ⟨g, 0, none⟩), .int .i64 2] w fun e w' => e = .returned (.int .i64 s.n) ∧ w = w' := by
  obtain ⟨c0, c1, c2, _⟩ := h.cells
  go_enter Tryd.func27, Tryd.ntmps27
  go_wp2
  go_ret
  exact ⟨rfl, rfl⟩
set_option maxHeartbeats 400000 in
theorem count_nil (i : Int) (w : World) : Calls Tryd.prog 27 #[.pointer none, .int .i64 i] w fun e w' => e = .returned (.int .i64 0) ∧ w = w' := by
  go_enter Tryd.func27, Tryd.ntmps27
  go_wp2
  go_ret
  exact ⟨rfl, rfl⟩
set_option maxHeartbeats 400000 in
theorem hidden_any (g : Nat) (s : NS) (w : World) (h : IsNest w g s) : Calls Tryd.prog 18 #[.pointer (some ⟨g, 0, none⟩)] w fun e w' => e = .returned (.int .i64 s.h) ∧ w = w' := by
  go_enter Tryd.func18, Tryd.ntmps18
  go_wp2_with (go_at_call 27; refine (count0 g s w h).mono ?_; rintro e w' ⟨rfl, rfl⟩)
  go_ret
  exact ⟨rfl, rfl⟩
set_option maxHeartbeats 400000 in
theorem pre_any (g : Nat) (s : NS) (w : World) (h : IsNest w g s) : Calls Tryd.prog 19 #[.pointer (some ⟨g, 0, none⟩)] w fun e w' => e = .returned (.int .i64 s.p) ∧ w = w' := by
  go_enter Tryd.func19, Tryd.ntmps19
  go_wp2_with (go_at_call 27; refine (count1 g s w h).mono ?_; rintro e w' ⟨rfl, rfl⟩)
  go_ret
  exact ⟨rfl, rfl⟩
set_option maxHeartbeats 400000 in
theorem nobreak_any (g : Nat) (s : NS) (w : World) (h : IsNest w g s) : Calls Tryd.prog 20 #[.pointer (some ⟨g, 0, none⟩)] w fun e w' => e = .returned (.int .i64 s.n) ∧ w = w' := by
  go_enter Tryd.func20, Tryd.ntmps20
  go_wp2_with (go_at_call 27; refine (count2 g s w h).mono ?_; rintro e w' ⟨rfl, rfl⟩)
  go_ret
  exact ⟨rfl, rfl⟩
set_option maxHeartbeats 400000 in
theorem hidden_nil (w : World) : Calls Tryd.prog 18 #[.pointer none] w fun e w' => e = .returned (.int .i64 0) ∧ w = w' := by
  go_enter Tryd.func18, Tryd.ntmps18
  go_wp2_with (go_at_call 27; refine (count_nil 0 w).mono ?_; rintro e w' ⟨rfl, rfl⟩)
  go_ret
  exact ⟨rfl, rfl⟩
set_option maxHeartbeats 400000 in
theorem pre_nil (w : World) : Calls Tryd.prog 19 #[.pointer none] w fun e w' => e = .returned (.int .i64 0) ∧ w = w' := by
  go_enter Tryd.func19, Tryd.ntmps19
  go_wp2_with (go_at_call 27; refine (count_nil 1 w).mono ?_; rintro e w' ⟨rfl, rfl⟩)
  go_ret
  exact ⟨rfl, rfl⟩
set_option maxHeartbeats 400000 in
theorem nobreak_nil (w : World) : Calls Tryd.prog 20 #[.pointer none] w fun e w' => e = .returned (.int .i64 0) ∧ w = w' := by
  go_enter Tryd.func20, Tryd.ntmps20
  go_wp2_with (go_at_call 27; refine (count_nil 2 w).mono ?_; rintro e w' ⟨rfl, rfl⟩)
  go_ret
  exact ⟨rfl, rfl⟩

/-- A token's value. -/
abbrev tokV (kind fr to' : Int) (name : ByteArray) (r : Int) (single : Bool) : Value := .agg #[.int .i64 kind, .int .i64 fr, .int .i64 to', .string name, .int .i32 r, .bool single]
def startS (s : NS) (v : Nat) (single : Bool) : NS := if single || bitB v 2 then s else addS s v 1
def endS (s : NS) (v : Nat) : NS := if bitB v 2 then s else addS s v (-1)
def StartAns (g : Nat) (w : World) (s : NS) (v : Nat) (single : Bool) (e : Ending) (w' : World) : Prop :=
  e = .returned (.tuple #[.bool (s.h == 0 && bitB v 33), .bool (s.h == 0 && bitB v 64)]) ∧ IsNest w' g (startS s v single) ∧ w.grownBy w' (some g)
def EndAns (g : Nat) (w : World) (s : NS) (v : Nat) (e : Ending) (w' : World) : Prop :=
  e = .returned (.bool (s.h == 0 && (bitB v 1 && !bitB v 2))) ∧ IsNest w' g (endS s v) ∧ w.grownBy w' (some g)
theorem grown_then {a b c : World} {r : Option Nat} (h : a.grownBy b r) (k : b.grownBy c r) : a.grownBy c r := grown_trans h k

set_option maxRecDepth 100000 in
set_option maxHeartbeats 2000000 in
theorem start_any (g : Nat) (s : NS) (v : Nat) (kind fr to' : Int) (name : ByteArray) (r : Int) (single : Bool) (w : World) (hs : IsNest w g s) (ho : okN s) (hv : v < 128) :
    Calls Tryd.prog 24 #[.pointer (some ⟨g, 0, none⟩), tokV kind fr to' name r single, .int .i64 v] w (StartAns g w s v single) := by
  obtain ⟨W, hW⟩ : ∃ W, W = w.alloc (.cells #[.int .i64 kind, .int .i64 fr, .int .i64 to', .string name, .int .i32 r, .bool single] 36) := ⟨_, rfl⟩
  have hg := hs.cells.2.2.2
  have hsW : IsNest W g s := by rw [hW]; exact (heap_alloc_old _ _ hg).trans hs
  have hgW : w.grownBy W (some g) := by rw [hW]; exact World.grownBy_alloc w _ _
  have c5 : W.cell? ⟨w.heap.size, 5, none⟩ = some (.bool single) := by
    have hb : W.heap[w.heap.size]? = some (.cells #[.int .i64 kind, .int .i64 fr, .int .i64 to', .string name, .int .i32 r, .bool single] 36 (0, 0)) := by rw [hW]; exact heap_alloc_new _ _
    rw [cell_of_row _ _ _ _ _ _ hb]; rfl
  obtain ⟨c0, c1, c2, hgl⟩ := hsW.cells
  have h33 : (bits .and .i64 (v : Int) 33 != 0) = bitB v 33 := bit_test v 33 hv (by decide)
  have h64 : (bits .and .i64 (v : Int) 64 != 0) = bitB v 64 := bit_test v 64 hv (by decide)
  have h2n : (bits .and .i64 (v : Int) 2 == 0) = !bitB v 2 := by
    have h := bit_test v 2 hv (by decide)
    have h' : (bits .and .i64 (v : Int) 2 != 0) = bitB v 2 := h
    rw [← h']
    simp [bne]
  have HSW := hid hsW
  have HO := hid ho
  clear hs hsW ho
  obtain ⟨al, hal⟩ : ∃ al : Bool, (s.h == 0) = al := ⟨_, rfl⟩
  have HAL := hid hal
  obtain ⟨b33, hb33⟩ : ∃ b : Bool, bitB v 33 = b := ⟨_, rfl⟩
  obtain ⟨b64, hb64⟩ : ∃ b : Bool, bitB v 64 = b := ⟨_, rfl⟩
  rw [hb33] at h33
  rw [hb64] at h64
  have HB33 := hid hb33
  have HB64 := hid hb64
  have fin : ∀ (w' : World) (s' : NS), IsNest w' g s' → startS s v single = s' → w.grownBy w' (some g) → StartAns g w s v single (.returned (.tuple #[.bool (al && b33), .bool (al && b64)])) w' := fun w' s' h1 h2 h3 => ⟨by rw [HAL.out, HB33.out, HB64.out], by rw [h2]; exact h1, h3⟩
  have FIN := hid fin
  clear fin hb33 hb64
  cases hb2 : bitB v 2 <;> cases single <;> cases al
  all_goals
    rw [hb2] at h2n
    have HB2 := hid hb2
    clear hb2
    subst hW
    go_enter Tryd.func24, Tryd.ntmps24
    go_wp2_with (go_at_call 31; refine (add_any g s v 1 _ HSW.out HO.out hv (by omega)).mono ?_; rintro e w2 ⟨rfl, hn2, hg2⟩)
    go_ret2
    first
      | exact FIN.out _ _ HSW.out (by simp [startS, HB2.out]) hgW
      | exact FIN.out _ _ hn2 (by simp [startS, HB2.out]) (grown_then hgW hg2)

set_option maxRecDepth 100000 in
set_option maxHeartbeats 2000000 in
theorem end_any (g : Nat) (s : NS) (v : Nat) (w : World) (hs : IsNest w g s) (ho : okN s) (hv : v < 128) :
    Calls Tryd.prog 25 #[.pointer (some ⟨g, 0, none⟩), .int .i64 v] w (EndAns g w s v) := by
  obtain ⟨c0, c1, c2, hgl⟩ := hs.cells
  have h1 : (bits .and .i64 (v : Int) 1 != 0) = bitB v 1 := bit_test v 1 hv (by decide)
  have h2 : (bits .and .i64 (v : Int) 2 != 0) = bitB v 2 := bit_test v 2 hv (by decide)
  have HS := hid hs
  have HO := hid ho
  clear hs ho
  obtain ⟨al, hal⟩ : ∃ al : Bool, (s.h == 0) = al := ⟨_, rfl⟩
  have HAL := hid hal
  obtain ⟨b1, hb1⟩ : ∃ b : Bool, bitB v 1 = b := ⟨_, rfl⟩
  rw [hb1] at h1
  have HB1 := hid hb1
  clear hb1
  cases hb2 : bitB v 2 with
  | true =>
    have fin := hid (show ∀ (w' : World), IsNest w' g s → w.grownBy w' (some g) → EndAns g w s v (.returned (.bool false)) w' from fun w' k1 k3 => ⟨by rw [hb2]; simp, by unfold endS; rw [if_pos hb2]; exact k1, k3⟩)
    rw [hb2] at h2
    clear hb2
    go_enter Tryd.func25, Tryd.ntmps25
    go_wp2
    go_ret
    exact fin.out _ HS.out (World.grownBy.refl _ _)
  | false =>
    have fin := hid (show ∀ (w' : World), IsNest w' g (addS s v (-1)) → w.grownBy w' (some g) → EndAns g w s v (.returned (.bool (al && b1))) w' from fun w' k1 k3 => ⟨by rw [hb2, HAL.out, HB1.out]; simp, by unfold endS; rw [if_neg (by rw [hb2]; simp)]; exact k1, k3⟩)
    rw [hb2] at h2
    clear hb2
    cases al
    all_goals
      go_enter Tryd.func25, Tryd.ntmps25
      go_wp2_with (go_at_call 31; refine (add_any g s v (-1) _ HS.out HO.out hv (by omega)).mono ?_; rintro e w2 ⟨rfl, hn2, hg2⟩)
      go_ret
      exact fin.out _ hn2 hg2
end Go.Proofs.YtfdfeblcchbcnaaDoor
