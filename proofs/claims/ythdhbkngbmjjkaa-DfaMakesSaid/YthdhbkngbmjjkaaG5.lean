/- One step of the automaton of right expressions, and what it tells, by the expressions alone. Plain. No conditions. -/
import Derived.Test.YthdhbkngbmjjkaaG1
import Derived.Test.YthdhbkngbmjjkaaNx
namespace Go.Proofs.Ythdhbkngbmjjkaa
set_option linter.unusedVariables false
/-- All places of a list of expressions, side by side. -/
def allG {d : Nat} (l : List (Tr d)) (o : Nat) : GS := altG (fun t o => glk d t o) (fun t => leavesT d t) l o
def endE {d : Nat} : List (Tr d) → Nat → Nat → Prop
  | [], _, _ => False
  | t :: r, i, j => (j = i ∧ (glk d t 0).emp) ∨ endE r (i + 1) j
def endL {d : Nat} : List (Tr d) → Nat → Nat → Nat → Nat → Prop
  | [], _, _, _, _ => False
  | t :: r, o, i, p, j => (j = i ∧ (glk d t o).lst p) ∨ endL r (o + leavesT d t) (i + 1) p j
theorem glk_emp {d : Nat} (t : Tr d) (o : Nat) : (glk d t o).emp ↔ (glk d t 0).emp := by
  have h := glk_shift d t 0 o
  rw [Nat.zero_add] at h
  rw [h]
  exact Iff.rfl
theorem into_leaf {d : Nat} : ∀ (l : List (Tr d)) (o i q : Nat), 0 < q → (AllInto l o i (q : Int) ↔ (allG l o).fst q)
  | [], _, _, _, _ => Iff.rfl
  | t :: r, o, i, q, hq => by
    show Into _ _ _ ∨ _ ↔ (glk d t o).fst q ∨ (allG r (o + leavesT d t)).fst q
    rw [into_leaf r _ _ q hq]
    refine or_congr ⟨fun h => ?_, fun h => .inl ⟨q, h, rfl⟩⟩ Iff.rfl
    rcases h with ⟨y, h, e⟩ | ⟨_, h⟩
    · rw [show q = y by omega]; exact h
    · omega
theorem after_leaf {d : Nat} : ∀ (l : List (Tr d)) (o i p q : Nat), 0 < q → (AllAfter l o i p (q : Int) ↔ (allG l o).prs p q)
  | [], _, _, _, _, _ => Iff.rfl
  | t :: r, o, i, p, q, hq => by
    show After _ _ _ _ ∨ _ ↔ (glk d t o).prs p q ∨ (allG r (o + leavesT d t)).prs p q
    rw [after_leaf r _ _ p q hq]
    refine or_congr ⟨fun h => ?_, fun h => .inl ⟨q, h, rfl⟩⟩ Iff.rfl
    rcases h with ⟨y, h, e⟩ | ⟨_, h⟩
    · rw [show q = y by omega]; exact h
    · omega
theorem into_end {d : Nat} : ∀ (l : List (Tr d)) (o i j : Nat), (AllInto l o i (-((j + 1 : Nat) : Int)) ↔ endE l i j)
  | [], _, _, _ => Iff.rfl
  | t :: r, o, i, j => by
    show Into _ _ _ ∨ _ ↔ (j = i ∧ (glk d t 0).emp) ∨ endE r (i + 1) j
    rw [into_end r]
    refine or_congr ⟨fun h => ?_, fun h => .inr ⟨(glk_emp t o).2 h.2, by rw [h.1]⟩⟩ Iff.rfl
    rcases h with ⟨y, h, e⟩ | ⟨h, e⟩
    · omega
    · exact ⟨by omega, (glk_emp t o).1 h⟩
theorem after_end {d : Nat} : ∀ (l : List (Tr d)) (o i p j : Nat), (AllAfter l o i p (-((j + 1 : Nat) : Int)) ↔ endL l o i p j)
  | [], _, _, _, _ => Iff.rfl
  | t :: r, o, i, p, j => by
    show After _ _ _ _ ∨ _ ↔ (j = i ∧ (glk d t o).lst p) ∨ endL r (o + leavesT d t) (i + 1) p j
    rw [after_end r]
    refine or_congr ⟨fun h => ?_, fun h => .inr ⟨h.2, by rw [h.1]⟩⟩ Iff.rfl
    rcases h with ⟨y, h, e⟩ | ⟨h, e⟩
    · omega
    · exact ⟨by omega, h⟩
theorem allG_within {d : Nat} (l : List (Tr d)) (o : Nat) : (allG l o).within o (sumL (fun t => leavesT d t) l) := altG_within (fun t o => glk_within d t o) l o
theorem endL_range {d : Nat} : ∀ (l : List (Tr d)) (o i p j : Nat), endL l o i p j → o < p ∧ p ≤ o + sumL (fun t => leavesT d t) l
  | [], _, _, _, _, h => h.elim
  | t :: r, o, i, p, j, h => by
    simp only [sumL]
    rcases h with ⟨_, h⟩ | h
    · have := (glk_within d t o).2.1 p h
      omega
    · have := endL_range r _ _ _ _ h
      omega
theorem endE_range {d : Nat} : ∀ (l : List (Tr d)) (i j : Nat), endE l i j → i ≤ j ∧ j < i + l.length
  | [], _, _, h => h.elim
  | t :: r, i, j, h => by
    rcases h with ⟨h, _⟩ | h
    · simp only [List.length_cons]; omega
    · have := endE_range r _ _ h
      simp only [List.length_cons]; omega
theorem endL_index {d : Nat} : ∀ (l : List (Tr d)) (o i p j : Nat), endL l o i p j → i ≤ j ∧ j < i + l.length
  | [], _, _, _, _, h => h.elim
  | t :: r, o, i, p, j, h => by
    rcases h with ⟨h, _⟩ | h
    · simp only [List.length_cons]; omega
    · have := endL_index r _ _ _ _ h
      simp only [List.length_cons]; omega
/-- Right expressions, few enough, and their automaton. -/
structure Fine {d : Nat} (l : List (Tr d)) : Prop where
  cnt : cntE d l ≤ 160
  right : rightE d l = true
  few : l.length ≤ 40
section
variable {d : Nat} {l : List (Tr d)}
theorem Fine.fits (h : Fine l) : ∀ t ∈ l, fitsT d false t = true := fun t ht => List.all_eq_true.1 h.right t ht
theorem Fine.good (h : Fine l) : Good (builtB l) := (built_good h.cnt h.right h.few).1
theorem Fine.len (h : Fine l) : (builtB l).lfs.length = sumL (fun t => leavesT d t) l := (built_good h.cnt h.right h.few).2
theorem Fine.kns (h : Fine l) : 0 < (builtB l).kns.length := (buildL_keeps l 0 1 startB startB_ok.1 startB_ok.2.1 startB_ok.2.2 (by simp [startB]) (by have := h.few; omega) (rights_all h.cnt h.right)).2.2.2.1
theorem Fine.place (h : Fine l) {p : Nat} (hp : p ≤ (builtB l).lfs.length) : placeK (builtB l) p < (builtB l).kns.length := by
  by_cases e : p = 0
  · unfold placeK; rw [if_pos e]; exact h.kns
  · exact place_lt h.good.1 (by omega) hp
theorem Fine.next (h : Fine l) (z : Int) (q : Int) : q ∈ nextOf (builtB l) z ↔ 1 ≤ q ∧ ((z = 0 ∧ (allG l 0).fst q.toNat) ∨ (0 < z ∧ (allG l 0).prs z.toNat q.toNat)) := by
  have hy := built_yields h.fits
  unfold nextOf
  by_cases hz : 0 ≤ z ∧ z ≤ (builtB l).lfs.length
  · rw [if_pos hz, lvs_mem h.good.1 (h.place (by omega))]
    refine and_congr_right fun hq => ?_
    obtain ⟨q, rfl⟩ : ∃ n : Nat, q = n := ⟨q.toNat, by omega⟩
    rw [Int.toNat_natCast]
    by_cases h0 : z = 0
    · subst h0
      have e : placeK (builtB l) (0 : Int).toNat = 0 := rfl
      rw [e, hy.1, into_leaf l 0 0 q (by omega)]
      exact ⟨fun h => .inl ⟨rfl, h⟩, fun h => by rcases h with h | h; exact h.2; omega⟩
    · have hl := h.len
      rw [hy.2 z.toNat (by omega) (by omega), after_leaf l 0 0 _ q (by omega)]
      exact ⟨fun h => .inr ⟨by omega, h⟩, fun h => by rcases h with h | h; omega; exact h.2⟩
  · rw [if_neg hz]
    refine ⟨fun h => by simp at h, ?_⟩
    rintro ⟨h1, h2 | h2⟩
    · omega
    · have h3 := ((allG_within l 0).2.2 _ _ h2.2).1
      have := h.len
      omega
theorem Fine.tell (h : Fine l) (z : Int) (j : Nat) : (tellOf (builtB l) z).testBit j = true ↔ (z = 0 ∧ endE l 0 j) ∨ (0 < z ∧ endL l 0 0 z.toNat j) := by
  have hy := built_yields h.fits
  unfold tellOf
  by_cases hz : 0 ≤ z ∧ z ≤ (builtB l).lfs.length
  · rw [if_pos hz, bitsOf_test h.good.1 (h.place (by omega))]
    by_cases h0 : z = 0
    · subst h0
      have e : placeK (builtB l) (0 : Int).toNat = 0 := rfl
      rw [e, hy.1, into_end l 0 0 j]
      exact ⟨fun h => .inl ⟨rfl, h⟩, fun h => by rcases h with h | h; exact h.2; omega⟩
    · have hl := h.len
      rw [hy.2 z.toNat (by omega) (by omega), after_end l 0 0 _ j]
      exact ⟨fun h => .inr ⟨by omega, h⟩, fun h => by rcases h with h | h; omega; exact h.2⟩
  · rw [if_neg hz]
    refine ⟨fun h => by simp at h, ?_⟩
    rintro (h2 | h2)
    · omega
    · have h3 := endL_range l 0 0 _ _ h2.2
      have := h.len
      omega
/-- ONE STEP, by the expressions. -/
theorem Fine.step (h : Fine l) {search : Bool} {m : Int} {X : List Int} {q : Int} : q ∈ stepB search (builtB l) m X ↔ (search = true ∧ q = 0) ∨ (1 ≤ q ∧ takesAt (builtB l) m q = true ∧ (((0 : Int) ∈ X ∧ (allG l 0).fst q.toNat) ∨ ∃ p : Nat, 0 < p ∧ (p : Int) ∈ X ∧ (allG l 0).prs p q.toNat)) := by
  show q ∈ setB _ ↔ _
  rw [setB_mem]
  unfold rawB
  rw [List.mem_append, List.mem_flatMap]
  refine or_congr (by cases search <;> simp) ⟨?_, ?_⟩
  · rintro ⟨z, hz, hq⟩
    obtain ⟨h1, h2⟩ := List.mem_filter.1 hq
    obtain ⟨h3, h4⟩ := (h.next z q).1 h1
    refine ⟨h3, h2, ?_⟩
    rcases h4 with ⟨rfl, h4⟩ | ⟨h4, h5⟩
    · exact .inl ⟨hz, h4⟩
    · exact .inr ⟨z.toNat, by omega, by rw [Int.toNat_of_nonneg (by omega)]; exact hz, h5⟩
  · rintro ⟨h1, h2, ⟨h3, h4⟩ | ⟨p, h3, h4, h5⟩⟩
    · exact ⟨0, h3, List.mem_filter.2 ⟨(h.next 0 q).2 ⟨h1, .inl ⟨rfl, h4⟩⟩, h2⟩⟩
    · exact ⟨p, h4, List.mem_filter.2 ⟨(h.next p q).2 ⟨h1, .inr ⟨by omega, h5⟩⟩, h2⟩⟩
theorem tells_test {s : Bs} {j : Nat} : ∀ {X : List Int}, (tellsB s X).testBit j = true ↔ ∃ z ∈ X, (tellOf s z).testBit j = true := by
  have h : ∀ (X : List Int) (b : Nat), (X.foldl (fun b z => b ||| tellOf s z) b).testBit j = true ↔ b.testBit j = true ∨ ∃ z ∈ X, (tellOf s z).testBit j = true := by
    intro X
    induction X with
    | nil => intro b; simp
    | cons z r ih =>
      intro b
      rw [List.foldl_cons, ih, Nat.testBit_or, Bool.or_eq_true]
      simp only [List.mem_cons, exists_eq_or_imp, or_assoc]
  intro X
  unfold tellsB
  rw [h]
  simp
/-- WHAT A SET TELLS, by the expressions. -/
theorem Fine.tells (h : Fine l) {X : List Int} {j : Nat} : (tellsB (builtB l) X).testBit j = true ↔ ((0 : Int) ∈ X ∧ endE l 0 j) ∨ ∃ p : Nat, 0 < p ∧ (p : Int) ∈ X ∧ endL l 0 0 p j := by
  rw [tells_test]
  constructor
  · rintro ⟨z, hz, h1⟩
    rcases (h.tell z j).1 h1 with ⟨rfl, h2⟩ | ⟨h2, h3⟩
    · exact .inl ⟨hz, h2⟩
    · exact .inr ⟨z.toNat, by omega, by rw [Int.toNat_of_nonneg (by omega)]; exact hz, h3⟩
  · rintro (⟨h1, h2⟩ | ⟨p, h1, h2, h3⟩)
    · exact ⟨0, h1, (h.tell 0 j).2 (.inl ⟨rfl, h2⟩)⟩
    · exact ⟨p, h2, (h.tell p j).2 (.inr ⟨by omega, h3⟩)⟩
end
end Go.Proofs.Ythdhbkngbmjjkaa
