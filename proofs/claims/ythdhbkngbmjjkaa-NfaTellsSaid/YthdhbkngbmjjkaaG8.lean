/- Behind any marks the automaton of right expressions tells just those that match all of them, or, if it searches, some last ones. Plain. No conditions. -/
import Derived.Test.YthdhbkngbmjjkaaG7
namespace Go.Proofs.Ythdhbkngbmjjkaa
set_option linter.unusedVariables false
/-- The set behind marks. -/
def runB (search : Bool) (s : Bs) (ms : List Int) : List Int := ms.foldl (fun X m => stepB search s m X) [0]
theorem run_snoc (search : Bool) (s : Bs) (ms : List Int) (m : Int) : runB search s (ms ++ [m]) = stepB search s m (runB search s ms) := by unfold runB; rw [List.foldl_append]; rfl
def tkOf (s : Bs) (q : Nat) (m : Int) : Prop := takesAt s m (q : Int) = true
section
variable {d : Nat} {l : List (Tr d)}
theorem Fine.leafsAt (h : Fine l) : LeafsAt (tkOf (builtB l)) 0 (l.flatMap fun t => leafL d t) := fun x kd cl hx m => by
  unfold tkOf
  rw [takesAt_leafs, built_leafs h.fits]
  unfold takesK
  rw [show (((0 + x + 1 : Nat) : Int) - 1).toNat = x by omega, hx]
  exact Iff.rfl
theorem Fine.run (h : Fine l) {search : Bool} {ms : List Int} : ∀ j, j ≤ ms.length → ((0 : Int) ∈ runB search (builtB l) (ms.take j) ↔ j = 0 ∨ search = true) ∧
    ∀ q : Nat, 0 < q → ((q : Int) ∈ runB search (builtB l) (ms.take j) ↔ ∃ i, (i = 0 ∨ search = true) ∧ Pth (tkOf (builtB l)) ms (allG l 0) i q j)
  | 0, _ => ⟨by simp [runB], fun q hq => ⟨fun h1 => by simp [runB] at h1; omega, fun ⟨i, _, hp⟩ => by cases hp⟩⟩
  | j + 1, hj => by
    obtain ⟨i0, i1⟩ := h.run (search := search) (ms := ms) j (by omega)
    have hm : ms[j]? = some ms[j] := List.getElem?_eq_getElem hj
    have e : ms.take (j + 1) = ms.take j ++ [ms[j]] := by rw [List.take_add_one, hm]; rfl
    rw [e, run_snoc]
    refine ⟨?_, fun q hq => ?_⟩
    · rw [h.step]
      constructor
      · rintro (h1 | h1)
        · exact .inr h1.1
        · omega
      · rintro (h1 | h1)
        · omega
        · exact .inl ⟨h1, rfl⟩
    · rw [h.step, Int.toNat_natCast]
      constructor
      · rintro (h1 | ⟨_, h1, ⟨h2, h3⟩ | ⟨p, hp, h2, h3⟩⟩)
        · omega
        · exact ⟨j, i0.1 h2, .fst h3 hm h1⟩
        · obtain ⟨i, hi, hp'⟩ := (i1 p hp).1 h2
          exact ⟨i, hi, .nxt hp' h3 hm h1⟩
      · rintro ⟨i, hi, hp⟩
        cases hp with
        | fst h1 h2 h3 =>
          rw [hm] at h2
          injection h2 with h2
          exact .inr ⟨by omega, by rw [h2]; exact h3, .inl ⟨i0.2 hi, h1⟩⟩
        | nxt h0 h1 h2 h3 =>
          rw [hm] at h2
          injection h2 with h2
          rename_i p _
          have hw := h0.within (allG_within l 0)
          exact .inr ⟨by omega, by rw [h2]; exact h3, .inr ⟨p, by omega, (i1 p (by omega)).2 ⟨i, hi, h0⟩, h1⟩⟩
theorem ends_acc {tk : Nat → Int → Prop} {ms : List Int} {i n : Nat} : ∀ (l : List (Tr d)) (o a k : Nat), (∀ t ∈ l, fitsT d false t = true) → LeafsAt tk o (l.flatMap fun t => leafL d t) →
    (((endE l a k ∧ i = n) ∨ ∃ p, Pth tk ms (allG l o) i p n ∧ endL l o a p k) ↔ a ≤ k ∧ ∃ t, l[k - a]? = some t ∧ Lead d t ms i n)
  | [], o, a, k, _, _ => ⟨fun h => by rcases h with ⟨h, _⟩ | ⟨p, _, h⟩ <;> exact h.elim, fun ⟨_, t, ht, _⟩ => by simp at ht⟩
  | t :: r, o, a, k, hf, hL => by
    rw [List.flatMap_cons] at hL
    have hr := hL.right
    rw [leafL_len] at hr
    have ih := ends_acc (tk := tk) (ms := ms) (i := i) (n := n) r (o + leavesT d t) (a + 1) k (fun x hx => hf x (List.mem_cons_of_mem _ hx)) hr
    have hacc := acc_lead (ms := ms) d false t (hf t List.mem_cons_self) tk o i n hL.left
    have wa := glk_within d t o
    have wb := allG_within r (o + leavesT d t)
    have hg : allG (t :: r) o = gAlt (glk d t o) (allG r (o + leavesT d t)) := rfl
    have key : ((endE (t :: r) a k ∧ i = n) ∨ ∃ p, Pth tk ms (allG (t :: r) o) i p n ∧ endL (t :: r) o a p k) ↔ (k = a ∧ Acc tk ms (glk d t o) i n) ∨ ((endE r (a + 1) k ∧ i = n) ∨ ∃ p, Pth tk ms (allG r (o + leavesT d t)) i p n ∧ endL r (o + leavesT d t) (a + 1) p k) := by
      rw [hg]
      constructor
      · rintro (⟨⟨h1, h2⟩ | h1, h3⟩ | ⟨p, hp, h1⟩)
        · exact .inl ⟨h1, .inl ⟨(glk_emp t o).2 h2, h3⟩⟩
        · exact .inr (.inl ⟨h1, h3⟩)
        · rcases (pth_alt wa wb).1 hp with hp | hp
          · have := hp.within wa
            rcases h1 with ⟨h1, h2⟩ | h1
            · exact .inl ⟨h1, .inr ⟨p, hp, h2⟩⟩
            · have := endL_range _ _ _ _ _ h1
              omega
          · have := hp.within wb
            rcases h1 with ⟨h1, h2⟩ | h1
            · have := wa.2.1 _ h2
              omega
            · exact .inr (.inr ⟨p, hp, h1⟩)
      · rintro (⟨h1, ⟨h2, h3⟩ | ⟨p, hp, h2⟩⟩ | ⟨h1, h3⟩ | ⟨p, hp, h1⟩)
        · exact .inl ⟨.inl ⟨h1, (glk_emp t o).1 h2⟩, h3⟩
        · exact .inr ⟨p, (pth_alt wa wb).2 (.inl hp), .inl ⟨h1, h2⟩⟩
        · exact .inl ⟨.inr h1, h3⟩
        · exact .inr ⟨p, (pth_alt wa wb).2 (.inr hp), .inr h1⟩
    rw [key, hacc, ih]
    constructor
    · rintro (⟨rfl, h⟩ | ⟨h1, x, hx, h⟩)
      · exact ⟨Nat.le_refl _, t, by simp, h⟩
      · exact ⟨by omega, x, by rw [show k - a = (k - (a + 1)) + 1 by omega]; exact hx, h⟩
    · rintro ⟨h1, x, hx, h⟩
      by_cases e : k = a
      · subst e
        rw [Nat.sub_self] at hx
        injection hx with hx
        rw [← hx] at h
        exact .inl ⟨rfl, h⟩
      · exact .inr ⟨by omega, x, by rw [show k - a = (k - (a + 1)) + 1 by omega] at hx; exact hx, h⟩
/-- WHAT IS TOLD behind marks. -/
theorem Fine.told (h : Fine l) {search : Bool} {ms : List Int} {k : Nat} : (tellsB (builtB l) (runB search (builtB l) ms)).testBit k = true ↔ ∃ t, l[k]? = some t ∧ ∃ i, (i = 0 ∨ search = true) ∧ i ≤ ms.length ∧ Lead d t ms i ms.length := by
  obtain ⟨r0, r1⟩ := h.run (search := search) (ms := ms) ms.length (Nat.le_refl _)
  rw [List.take_length] at r0 r1
  have he := fun i => ends_acc (tk := tkOf (builtB l)) (ms := ms) (i := i) (n := ms.length) l 0 0 k h.fits h.leafsAt
  rw [h.tells]
  constructor
  · rintro (⟨h1, h2⟩ | ⟨p, hp, h1, h2⟩)
    · obtain ⟨_, t, ht, hl⟩ := (he ms.length).1 (.inl ⟨h2, rfl⟩)
      exact ⟨t, ht, ms.length, r0.1 h1, Nat.le_refl _, hl⟩
    · obtain ⟨i, hi, hp'⟩ := (r1 p hp).1 h1
      obtain ⟨_, t, ht, hl⟩ := (he i).1 (.inr ⟨p, hp', h2⟩)
      exact ⟨t, ht, i, hi, Lead.le _ _ _ _ _ hl, hl⟩
  · rintro ⟨t, ht, i, hi, _, hl⟩
    rcases (he i).2 ⟨Nat.zero_le _, t, ht, hl⟩ with ⟨h1, rfl⟩ | ⟨p, hp, h2⟩
    · exact .inl ⟨r0.2 hi, h1⟩
    · have hp0 := (hp.within (allG_within l 0)).1
      exact .inr ⟨p, hp0, (r1 p hp0).2 ⟨i, hi, hp⟩, h2⟩
end
/-- Numbers, one bit for each of so many. -/
def wantB (P : Nat → Bool) : Nat → Nat
  | 0 => 0
  | k + 1 => if P k then wantB P k ||| 1 <<< k else wantB P k
theorem want_test (P : Nat → Bool) : ∀ (n j : Nat), (wantB P n).testBit j = true ↔ j < n ∧ P j = true
  | 0, j => by simp [wantB]
  | n + 1, j => by
    have ih := want_test P n j
    simp only [wantB]
    split
    · rename_i hp
      rw [Nat.testBit_or, Bool.or_eq_true, ih, Nat.one_shiftLeft, Nat.testBit_two_pow, decide_eq_true_eq]
      constructor
      · rintro (h | rfl)
        · exact ⟨by omega, h.2⟩
        · exact ⟨by omega, hp⟩
      · rintro ⟨h1, h2⟩
        by_cases e : n = j
        · exact .inr e
        · exact .inl ⟨by omega, h2⟩
    · rename_i hp
      rw [ih]
      constructor
      · rintro ⟨h1, h2⟩; exact ⟨by omega, h2⟩
      · rintro ⟨h1, h2⟩
        by_cases e : n = j
        · subst e; exact absurd h2 hp
        · exact ⟨by omega, h2⟩
theorem want_lt (P : Nat → Bool) (n : Nat) : wantB P n < 2 ^ n := Nat.lt_pow_two_of_testBit _ fun j hj => by
  rw [Bool.eq_false_iff]
  intro h
  have := ((want_test P n j).1 h).1
  omega
theorem want_is {P : Nat → Bool} {n x : Nat} (h : ∀ j, x.testBit j = true ↔ j < n ∧ P j = true) : x = wantB P n := Nat.eq_of_testBit_eq fun j => by
  rw [Bool.eq_iff_iff, h, want_test]
end Go.Proofs.Ythdhbkngbmjjkaa
