/- Whether an expression's nodes fit: what the program's fits returns. Conditions: none. -/
import Derived.Test.YtjcdcmeclnihbaaEs
namespace Go.Proofs.Ytjcdcmeclnihbaa
open Go.RowKit

/-- Where the first one stands, counted from k on; below 0: there is none. -/
def idx {T : Type} (p : T → Bool) : Nat → List T → Int
  | _, [] => -1
  | k, x :: r => if p x = true then (k : Int) else idx p (k + 1) r
theorem idx_pos {T : Type} (p : T → Bool) (l : List T) : ∀ k : Nat, (0 : Int) ≤ idx p k l ↔ l.any p = true := by
  induction l with
  | nil => intro k; simp [idx]
  | cons x r ih =>
    intro k
    by_cases h : p x = true
    · simp [idx, h]
    · simp [idx, h, ih (k + 1)]
theorem idx_any {T : Type} (p : T → Bool) (l : List T) (k : Nat) : decide ((0 : Int) ≤ idx p k l) = l.any p := by
  have h := idx_pos p l k
  cases e : l.any p with
  | true => simpa using h.2 e
  | false => rw [e] at h; simpa using h

def least (k : Int) : Int := if k = 4 ∨ k = 5 then 2 else if k = 6 ∨ k = 7 ∨ k = 8 then 1 else 0
def most (k : Int) : Int := if k = 4 ∨ k = 5 then 2000 else if k = 6 ∨ k = 7 ∨ k = 8 then 1 else 0
/-- Whether a node may be, by itself or within another one. -/
def fitB (within : Bool) (k c n : Int) : Bool := decide (0 ≤ k ∧ k ≤ 9) && !(decide (k = 9) && within) && decide (least k ≤ n ∧ n ≤ most k) && (if k = 0 ∨ k = 2 then decide (0 ≤ c ∧ c < 36) else decide (c = 0))
def fitsT : (d : Nat) → Bool → Tr d → Bool
  | 0, _, _ => false
  | d + 1, within, t => fitB within (Tr.kind t) (Tr.cls t) (Tr.kids t).length && (Tr.kids t).all (fun x => fitsT d true x)

set_option maxRecDepth 100000 in
theorem many_any (k : Int) (w : World) : Calls Try.prog 89 #[.int .i64 k] w fun e w' => e = .returned (.tuple #[.int .i64 (least k), .int .i64 (most k)]) ∧ w' = w := by
  by_cases h4 : k = 4
  · subst h4
    go_enter Try.func89, Try.ntmps89
    go_wp2
    go_ret2
    exact ⟨rfl, rfl⟩
  by_cases h5 : k = 5
  · subst h5
    go_enter Try.func89, Try.ntmps89
    go_wp2
    go_ret2
    exact ⟨rfl, rfl⟩
  by_cases h6 : k = 6
  · subst h6
    go_enter Try.func89, Try.ntmps89
    go_wp2
    go_ret2
    exact ⟨rfl, rfl⟩
  by_cases h7 : k = 7
  · subst h7
    go_enter Try.func89, Try.ntmps89
    go_wp2
    go_ret2
    exact ⟨rfl, rfl⟩
  by_cases h8 : k = 8
  · subst h8
    go_enter Try.func89, Try.ntmps89
    go_wp2
    go_ret2
    exact ⟨rfl, rfl⟩
  have e1 : least k = 0 := by unfold least; rw [if_neg (by omega), if_neg (by omega)]
  have e2 : most k = 0 := by unfold most; rw [if_neg (by omega), if_neg (by omega)]
  rw [e1, e2]
  have b4 := ieq_false h4
  have b5 := ieq_false h5
  have b6 := ieq_false h6
  have b7 := ieq_false h7
  have b8 := ieq_false h8
  clear h4 h5 h6 h7 h8 e1 e2
  go_enter Try.func89, Try.ntmps89
  go_wp2
  go_ret2
  exact ⟨rfl, rfl⟩

/-- What fits answers of trees less than d deep. -/
def FitsIH (S : Nat → Prop) (d : Nat) : Prop := ∀ (v : Value) (t : Tr d) (on : Bool) (w : World), IsTr w S d v t → Calls Try.prog 72 #[v, .bool on] w fun e w' => e = .returned (.bool (fitsT d on t)) ∧ Below w.heap.size w w'
set_option maxRecDepth 100000 in
theorem fits1_any (S : Nat → Prop) (d : Nat) (IH : Hid (FitsIH S d)) (v : Value) (t : Tr d) (w : World) (h : IsTr w S d v t) : Calls Try.prog 91 #[v] w fun e w' => e = .returned (.bool (!fitsT d true t)) ∧ Below w.heap.size w w' := by
  cases d with
  | zero => exact t.elim
  | succ d =>
    obtain ⟨A, c, rfl, hle, -⟩ := h.open
    obtain ⟨W, hW0⟩ : ∃ W, W = w.alloc (.cells #[.int .i64 (Tr.kind t), .int .i64 (Tr.cls t), .slice A (Tr.kids t).length c] 45) := ⟨_, rfl⟩
    have HB := hid (show Below w.heap.size w W by rw [hW0]; exact (Below.refl _ _).alloc (Nat.le_refl _) _)
    have HT := hid (h.below HB.out)
    clear h
    go_enter Try.func91, Try.ntmps91
    go_wp2_with fail
    rw [← hW0]
    refine (IH.out _ _ _ _ HT.out).mono ?_
    rintro e w1 ⟨rfl, hb1⟩
    go_wp2_with fail
    go_ret
    exact ⟨rfl, HB.out.trans (hb1.mono HB.out.size)⟩
end Go.Proofs.Ytjcdcmeclnihbaa
