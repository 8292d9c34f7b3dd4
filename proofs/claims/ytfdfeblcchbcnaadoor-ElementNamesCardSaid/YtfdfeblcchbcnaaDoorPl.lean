/- Plain: what a name is, bit by bit, as lists of names are gone through in whatever order. No program here. Conditions: none. -/
import Derived.WalkKit
namespace Go.Proofs.YtfdfeblcchbcnaaDoor

/-- What stands of seven bits, each of which is there or not. -/
def or7 (c1 c2 c3 c4 c5 c6 c7 : Bool) : Nat :=
  (if c1 then 1 else 0) ||| (if c2 then 2 else 0) ||| (if c3 then 4 else 0) ||| (if c4 then 8 else 0) ||| (if c5 then 16 else 0) ||| (if c6 then 32 else 0) ||| (if c7 then 64 else 0)
theorem or7_lt : ∀ c1 c2 c3 c4 c5 c6 c7 : Bool, or7 c1 c2 c3 c4 c5 c6 c7 < 128 := by decide +kernel
theorem or7_1 : ∀ c1 c2 c3 c4 c5 c6 c7 : Bool, or7 c1 c2 c3 c4 c5 c6 c7 ||| 1 = or7 true c2 c3 c4 c5 c6 c7 := by decide +kernel
theorem or7_2 : ∀ c1 c2 c3 c4 c5 c6 c7 : Bool, or7 c1 c2 c3 c4 c5 c6 c7 ||| 2 = or7 c1 true c3 c4 c5 c6 c7 := by decide +kernel
theorem or7_3 : ∀ c1 c2 c3 c4 c5 c6 c7 : Bool, or7 c1 c2 c3 c4 c5 c6 c7 ||| 4 = or7 c1 c2 true c4 c5 c6 c7 := by decide +kernel
theorem or7_4 : ∀ c1 c2 c3 c4 c5 c6 c7 : Bool, or7 c1 c2 c3 c4 c5 c6 c7 ||| 8 = or7 c1 c2 c3 true c5 c6 c7 := by decide +kernel
theorem or7_5 : ∀ c1 c2 c3 c4 c5 c6 c7 : Bool, or7 c1 c2 c3 c4 c5 c6 c7 ||| 16 = or7 c1 c2 c3 c4 true c6 c7 := by decide +kernel
theorem or7_6 : ∀ c1 c2 c3 c4 c5 c6 c7 : Bool, or7 c1 c2 c3 c4 c5 c6 c7 ||| 32 = or7 c1 c2 c3 c4 c5 true c7 := by decide +kernel
theorem or7_7 : ∀ c1 c2 c3 c4 c5 c6 c7 : Bool, or7 c1 c2 c3 c4 c5 c6 c7 ||| 64 = or7 c1 c2 c3 c4 c5 c6 true := by decide +kernel

/-- Which of seven. -/
def seven (f : Nat → Bool) : Nat := or7 (f 1) (f 2) (f 4) (f 8) (f 16) (f 32) (f 64)
/-- One of the seven bits. -/
def isBit (b : Nat) : Bool := b == 1 || b == 2 || b == 4 || b == 8 || b == 16 || b == 32 || b == 64
theorem seven_lt (f : Nat → Bool) : seven f < 128 := or7_lt _ _ _ _ _ _ _
theorem isBit_cases {b : Nat} (h : isBit b = true) : b = 1 ∨ b = 2 ∨ b = 4 ∨ b = 8 ∨ b = 16 ∨ b = 32 ∨ b = 64 := by
  unfold isBit at h
  simp only [Bool.or_eq_true, beq_iff_eq] at h
  omega
/-- One bit more. -/
theorem seven_or (f : Nat → Bool) {b : Nat} (h : isBit b = true) : seven f ||| b = seven fun x => f x || x == b := by
  rcases isBit_cases h with rfl | rfl | rfl | rfl | rfl | rfl | rfl
  · simp only [seven, or7_1]; simp
  · simp only [seven, or7_2]; simp
  · simp only [seven, or7_3]; simp
  · simp only [seven, or7_4]; simp
  · simp only [seven, or7_5]; simp
  · simp only [seven, or7_6]; simp
  · simp only [seven, or7_7]; simp
theorem seven_congr {f g : Nat → Bool} (h : ∀ b, isBit b = true → f b = g b) : seven f = seven g := by
  unfold seven
  rw [h 1 rfl, h 2 rfl, h 4 rfl, h 8 rfl, h 16 rfl, h 32 rfl, h 64 rfl]
theorem bit_le {b : Nat} (h : isBit b = true) : 1 ≤ b ∧ b ≤ 64 := by
  rcases isBit_cases h with rfl | rfl | rfl | rfl | rfl | rfl | rfl <;> decide
end Go.Proofs.YtfdfeblcchbcnaaDoor
