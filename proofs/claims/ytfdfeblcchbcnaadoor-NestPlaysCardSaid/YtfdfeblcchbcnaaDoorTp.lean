/- The document's nest takes a tag (ref22): turn and Take. Conditions: counts within what they may be. -/
import Derived.Test.YtfdfeblcchbcnaaDoorTk
import Derived.Test.YtfdfeblcchbcnaaDoorRo
import Derived.IntWalk
namespace Go.Proofs.YtfdfeblcchbcnaaDoor
open Go.RowKit

set_option maxHeartbeats 1000000 in
theorem turn_any (c : Int) (is : Bool) (by' : Int) (hc : 0 ≤ c ∧ c ≤ 255) (hb : -1 ≤ by' ∧ by' ≤ 1) (w : World) :
    Calls Tryd.prog 26 #[.int .i64 c, .bool is, .int .i64 by'] w fun e w' => e = .returned (.int .i64 (turnI c is by')) ∧ w = w' := by
  obtain ⟨c1, c2⟩ := hc
  cases is with
  | false =>
    go_enter Tryd.func26, Tryd.ntmps26
    go_wp2
    go_ret
    exact ⟨rfl, rfl⟩
  | true =>
    have h : by' = -1 ∨ by' = 0 ∨ by' = 1 := by omega
    clear hb
    rcases h with rfl | rfl | rfl
    · by_cases h0 : 0 < c
      · go_enter Tryd.func26, Tryd.ntmps26
        go_wp2
        go_ret
        exact ⟨ret_int (by simp [turnI, turnV]; omega), rfl⟩
      · go_enter Tryd.func26, Tryd.ntmps26
        go_wp2
        go_ret
        exact ⟨ret_int (by simp [turnI, turnV]; omega), rfl⟩
    · go_enter Tryd.func26, Tryd.ntmps26
      go_wp2
      go_ret
      exact ⟨ret_int (by simp [turnI, turnV]; omega), rfl⟩
    · by_cases h0 : c < 255
      · go_enter Tryd.func26, Tryd.ntmps26
        go_wp2
        go_ret
        exact ⟨ret_int (by simp [turnI, turnV]; omega), rfl⟩
      · go_enter Tryd.func26, Tryd.ntmps26
        go_wp2
        go_ret
        exact ⟨ret_int (by simp [turnI, turnV]; omega), rfl⟩

theorem rem_bits : ∀ v : Nat, v < 128 → (((v : Int) % 2 == 1) = bitB v 1 ∧ ((v : Int) / 2 % 2 == 1) = bitB v 2 ∧ ((v : Int) / 4 % 2 == 1) = bitB v 4 ∧ ((v : Int) / 8 % 2 == 1) = bitB v 8 ∧ ((v : Int) / 16 % 2 == 1) = bitB v 16 ∧ ((v : Int) / 32 % 2 == 1) = bitB v 32 ∧ ((v : Int) / 64 % 2 == 1) = bitB v 64 ∧ bitB v 33 = (bitB v 1 || bitB v 32)) := by decide +kernel
/-- The document's state: three ints. -/
abbrev stV (s : NS) : Value := .agg #[.int .i64 s.h, .int .i64 s.p, .int .i64 s.n]
def IsN30 (w : World) (g : Nat) (s : NS) : Prop := w.heap[g]? = some (.cells #[.int .i64 s.h, .int .i64 s.p, .int .i64 s.n] 30 (0, 0))
def kindOf (e : Bool) : Int := if e then 3 else 2
def RTakeAns (w : World) (s : NS) (v : Nat) (e' single : Bool) (e : Ending) (w' : World) : Prop :=
  e = .returned (.tuple #[stV (takeS s (kindOf e') v single), .bool (takeF s (kindOf e') v), .bool (takeC s (kindOf e') v)]) ∧ Below w.heap.size w w'
theorem IsN30.cells {w : World} {g : Nat} {s : NS} (h : IsN30 w g s) : w.cell? ⟨g, 0, none⟩ = some (.int .i64 s.h) ∧ w.cell? ⟨g, 1, none⟩ = some (.int .i64 s.p) ∧ w.cell? ⟨g, 2, none⟩ = some (.int .i64 s.n) :=
  ⟨by rw [cell_of_row _ _ _ _ _ _ h]; rfl, by rw [cell_of_row _ _ _ _ _ _ h]; rfl, by rw [cell_of_row _ _ _ _ _ _ h]; rfl⟩
theorem keep30 {w w' : World} {g : Nat} {s : NS} (h : IsN30 w g s) (hb : Below w.heap.size w w') : IsN30 w' g s := (hb.block _ (Array.getElem?_eq_some_iff.1 h).1).trans h
theorem IsN30.lt {w : World} {g : Nat} {s : NS} (h : IsN30 w g s) : g < w.heap.size := (Array.getElem?_eq_some_iff.1 h).1
/-- What Take answers, by its bits. -/
def ByOf (b2 en sg : Bool) : Int := if b2 || (sg && !en) then 0 else if en then -1 else 1
theorem turnI_zero {c : Int} (on : Bool) (h : 0 ≤ c ∧ c ≤ 255) : turnI c on 0 = c := by
  unfold turnI turnV
  split <;> omega
theorem turnI_off (c by' : Int) : turnI c false by' = c := rfl
theorem rt_ans {h p n : Int} {v : Nat} {b1 b2 b4 b8 b16 b32 b64 al : Bool} (en sg : Bool) (H : bitB v 1 = b1 ∧ bitB v 2 = b2 ∧ bitB v 4 = b4 ∧ bitB v 8 = b8 ∧ bitB v 16 = b16 ∧ bitB v 33 = (b1 || b32) ∧ bitB v 64 = b64 ∧ (h == 0) = al) (ho : okN ⟨h, p, n⟩) :
    takeS ⟨h, p, n⟩ (kindOf en) v sg = ⟨turnI h b4 (ByOf b2 en sg), if al then turnI p b8 (ByOf b2 en sg) else p, if al then turnI n b16 (ByOf b2 en sg) else n⟩ ∧
    takeF ⟨h, p, n⟩ (kindOf en) v = (if en then al && (b1 && !b2) else al && (b1 || b32)) ∧ takeC ⟨h, p, n⟩ (kindOf en) v = (if en then false else al && b64) := by
  obtain ⟨q1, q2, q4, q8, q16, q33, q64, qal⟩ := H
  have z1 := fun on => turnI_zero on ho.1
  have z2 := fun on => turnI_zero on ho.2.1
  have z3 := fun on => turnI_zero on ho.2.2
  simp only [] at z1 z2 z3
  cases al <;> cases en <;> cases sg <;> cases b2 <;> simp only [takeS, takeF, takeC, kindOf, ByOf, startS, endS, addS, addK, q1, q2, q4, q8, q16, q33, q64, qal] <;> simp [z1, z2, z3, turnI_off]
end Go.Proofs.YtfdfeblcchbcnaaDoor
