/- Right ranges are one by what is in them; the runs of a set. Plain. No conditions. -/
import Derived.Test.YtehchnagjdmdgaaPl
namespace Go.Proofs.Ytehchnagjdmdgaa
/-- Right ranges, from a number on. -/
def UpR : Int → List Rng → Prop
  | _, [] => True
  | m, x :: l => m ≤ x.1 ∧ x.1 ≤ x.2 ∧ UpR (x.2 + 2) l
theorem inS_cons (x : Rng) (l : List Rng) (r : Int) : inS (x :: l) r = ((decide (x.1 ≤ r) && decide (r ≤ x.2)) || inS l r) := rfl
theorem inS_append (a b : List Rng) (r : Int) : inS (a ++ b) r = (inS a r || inS b r) := by simp [inS, List.any_append]
theorem UpR.mono : ∀ {l : List Rng} {m m' : Int}, UpR m l → m' ≤ m → UpR m' l
  | [], _, _, _, _ => trivial
  | _ :: _, _, _, ⟨h1, h2, h3⟩, h => ⟨by omega, h2, h3⟩
theorem UpR.lo : ∀ {l : List Rng} {m r : Int}, UpR m l → inS l r = true → m ≤ r
  | [], _, _, _, h => by cases h
  | x :: l, m, r, ⟨h1, h2, h3⟩, h => by
    rw [inS_cons, Bool.or_eq_true] at h
    rcases h with h | h
    · simp only [Bool.and_eq_true, decide_eq_true_eq] at h; omega
    · have := UpR.lo h3 h; omega
theorem UpR.off {l : List Rng} {m r : Int} (h : UpR m l) (hr : r < m) : inS l r = false := by
  cases e : inS l r with
  | false => rfl
  | true => have := h.lo e; omega
theorem UpR.ext : ∀ {a b : List Rng} {m m' : Int}, UpR m a → UpR m' b → (∀ r, inS a r = inS b r) → a = b
  | [], [], _, _, _, _, _ => rfl
  | [], y :: b, _, _, _, ⟨_, h2, _⟩, h => by
    have := h y.1
    rw [inS_cons, decide_eq_true (Int.le_refl _), decide_eq_true h2] at this
    cases this
  | x :: a, [], _, _, ⟨_, h2, _⟩, _, h => by
    have := h x.1
    rw [inS_cons, decide_eq_true (Int.le_refl _), decide_eq_true h2] at this
    cases this
  | x :: a, y :: b, m, m', ⟨h1, h2, h3⟩, ⟨g1, g2, g3⟩, h => by
    have hx : ∀ r, inS (x :: a) r = true ↔ (x.1 ≤ r ∧ r ≤ x.2) ∨ inS a r = true := fun r => by rw [inS_cons]; simp
    have hy : ∀ r, inS (y :: b) r = true ↔ (y.1 ≤ r ∧ r ≤ y.2) ∨ inS b r = true := fun r => by rw [inS_cons]; simp
    have hh : ∀ r, ((x.1 ≤ r ∧ r ≤ x.2) ∨ inS a r = true) ↔ ((y.1 ≤ r ∧ r ≤ y.2) ∨ inS b r = true) := fun r => by rw [← hx, ← hy, h]
    have la : ∀ r, inS a r = true → x.2 + 2 ≤ r := fun r => h3.lo
    have lb : ∀ r, inS b r = true → y.2 + 2 ≤ r := fun r => g3.lo
    have e1 : x.1 = y.1 := by
      have p1 := (hh x.1).1 (.inl ⟨Int.le_refl _, h2⟩)
      have p2 := (hh y.1).2 (.inl ⟨Int.le_refl _, g2⟩)
      rcases p1 with p1 | p1 <;> rcases p2 with p2 | p2
      · omega
      · have := la _ p2; omega
      · have := lb _ p1; omega
      · have := la _ p2; have := lb _ p1; omega
    have e2 : x.2 = y.2 := by
      rcases Int.lt_trichotomy x.2 y.2 with e | e | e
      · have p := (hh (x.2 + 1)).2 (.inl ⟨by omega, by omega⟩)
        rcases p with p | p
        · omega
        · have := la _ p; omega
      · exact e
      · have p := (hh (y.2 + 1)).1 (.inl ⟨by omega, by omega⟩)
        rcases p with p | p
        · omega
        · have := lb _ p; omega
    have e3 : a = b := UpR.ext h3 g3 fun r => by
      by_cases hr : r ≤ x.2 + 1
      · rw [h3.off (by omega), g3.off (by omega)]
      · have p := hh r
        cases ea : inS a r <;> cases eb : inS b r
        · rfl
        · exfalso
          rcases p.2 (.inr eb) with p | p
          · omega
          · rw [ea] at p; cases p
        · exfalso
          rcases p.1 (.inr ea) with p | p
          · omega
          · rw [eb] at p; cases p
        · rfl
    rw [e3]
    congr 1
    exact Prod.ext e1 e2
/-- The last range's end; below all: there is none. -/
def endR (m : Int) : List Rng → Int
  | [] => m
  | x :: l => endR (x.2 + 2) l
theorem UpR.snoc : ∀ {l : List Rng} {m : Int} {y : Rng}, UpR m l → endR m l ≤ y.1 → y.1 ≤ y.2 → UpR m (l ++ [y])
  | [], _, _, _, h1, h2 => ⟨h1, h2, trivial⟩
  | _ :: _, _, _, ⟨h1, h2, h3⟩, g1, g2 => ⟨h1, h2, UpR.snoc h3 g1 g2⟩
theorem endR_snoc : ∀ (l : List Rng) (m : Int) (y : Rng), endR m (l ++ [y]) = y.2 + 2
  | [], _, _ => rfl
  | x :: l, _, y => endR_snoc l (x.2 + 2) y
theorem UpR.init : ∀ {l : List Rng} {m : Int} {y : Rng}, UpR m (l ++ [y]) → UpR m l ∧ endR m l ≤ y.1 ∧ y.1 ≤ y.2
  | [], _, _, ⟨h1, h2, _⟩ => ⟨trivial, h1, h2⟩
  | _ :: l, _, _, ⟨h1, h2, h3⟩ => by
    obtain ⟨a, b, c⟩ := UpR.init (l := l) h3
    exact ⟨⟨h1, h2, a⟩, b, c⟩
/-- The runs of a set's numbers below k. -/
def runStep (P : Int → Bool) (k : Nat) (l : List Rng) : List Rng :=
  if P k then
    match l.getLast? with
    | some x => if x.2 = (k : Int) - 1 then l.dropLast ++ [(x.1, (k : Int))] else l ++ [((k : Int), (k : Int))]
    | none => [((k : Int), (k : Int))]
  else l
def runsTo (P : Int → Bool) : Nat → List Rng
  | 0 => []
  | k + 1 => runStep P k (runsTo P k)
theorem runs_is (P : Int → Bool) : ∀ k : Nat, UpR 0 (runsTo P k) ∧ (∀ r, inS (runsTo P k) r = (decide (0 ≤ r) && decide (r < k) && P r)) ∧ endR 0 (runsTo P k) ≤ (k : Int) + 1
  | 0 => ⟨trivial, fun r => by
      show false = _
      by_cases h : 0 ≤ r
      · rw [decide_eq_false (show ¬ r < ((0 : Nat) : Int) by omega)]; simp
      · rw [decide_eq_false h]; simp, by simp [runsTo, endR]⟩
  | k + 1 => by
    obtain ⟨h1, h2, h3⟩ := runs_is P k
    show UpR 0 (runStep P k (runsTo P k)) ∧ (∀ r, inS (runStep P k (runsTo P k)) r = _) ∧ endR 0 (runStep P k (runsTo P k)) ≤ _
    obtain ⟨l, hl⟩ : ∃ l, l = runsTo P k := ⟨_, rfl⟩
    rw [← hl] at h1 h2 h3 ⊢
    clear hl
    have hsplit : ∀ r, (decide (0 ≤ r) && decide (r < ((k + 1 : Nat) : Int)) && P r) = ((decide (0 ≤ r) && decide (r < (k : Int)) && P r) || (decide (r = (k : Int)) && P k)) := fun r => by
      by_cases e : r = (k : Int)
      · subst e
        rw [decide_eq_true (show (0 : Int) ≤ (k : Int) by omega), decide_eq_true (show (k : Int) < ((k + 1 : Nat) : Int) by omega), decide_eq_false (show ¬ (k : Int) < (k : Int) by omega), decide_eq_true (rfl : (k : Int) = k)]
        simp
      · rw [decide_eq_false e, show decide (r < ((k + 1 : Nat) : Int)) = decide (r < (k : Int)) from decide_eq_decide.2 (by omega)]
        simp
    unfold runStep
    cases hp : P k with
    | false =>
      simp only [Bool.false_eq_true, if_false]
      exact ⟨h1, fun r => by rw [h2, hsplit, hp]; simp, by omega⟩
    | true =>
      simp only [if_true]
      rcases List.eq_nil_or_concat l with rfl | ⟨i, x, rfl⟩
      · simp only [List.getLast?_nil]
        refine ⟨⟨by show (0 : Int) ≤ k; omega, Int.le_refl _, trivial⟩, fun r => ?_, by simp [endR]; omega⟩
        rw [hsplit, ← h2, hp, inS_cons]
        show _ = (false || _)
        by_cases e : r = (k : Int)
        · subst e; simp [inS]
        · rw [decide_eq_false e, show (decide ((k : Int) ≤ r) && decide (r ≤ (k : Int))) = false by
            rw [Bool.and_eq_false_iff, decide_eq_false_iff_not, decide_eq_false_iff_not]; omega]
          simp [inS]
      · rw [List.concat_eq_append] at h1 h2 h3 ⊢
        rw [List.getLast?_append]
        simp only [List.getLast?_singleton, Option.some_or]
        obtain ⟨a, b, c⟩ := h1.init
        rw [endR_snoc] at h3
        by_cases e : x.2 = (k : Int) - 1
        · rw [if_pos e, List.dropLast_concat]
          refine ⟨a.snoc b (by show x.1 ≤ (k : Int); omega), fun r => ?_, by rw [endR_snoc]; show (k : Int) + 2 ≤ _; omega⟩
          rw [hsplit, ← h2, hp, inS_append, inS_append, inS_cons, inS_cons]
          cases inS i r
          · show ((decide (x.1 ≤ r) && decide (r ≤ (k : Int))) || false) = (((decide (x.1 ≤ r) && decide (r ≤ x.2)) || false) || (decide (r = (k : Int)) && true))
            rw [Bool.or_false, Bool.or_false, Bool.and_true]
            by_cases q : r = (k : Int)
            · subst q; rw [decide_eq_true (show x.1 ≤ (k : Int) by omega)]; simp
            · rw [decide_eq_false q, Bool.or_false, show decide (r ≤ (k : Int)) = decide (r ≤ x.2) from decide_eq_decide.2 (by omega)]
          · rfl
        · rw [if_neg e]
          refine ⟨h1.snoc (by rw [endR_snoc]; show x.2 + 2 ≤ (k : Int); omega) (Int.le_refl _), fun r => ?_, by rw [endR_snoc]; show (k : Int) + 2 ≤ _; omega⟩
          rw [hsplit, ← h2, hp, inS_append]
          congr 1
          rw [inS_cons]
          show ((decide ((k : Int) ≤ r) && decide (r ≤ (k : Int))) || false) = (decide (r = (k : Int)) && true)
          rw [Bool.or_false, Bool.and_true]
          by_cases q : r = (k : Int)
          · subst q; simp
          · rw [decide_eq_false q, Bool.and_eq_false_iff, decide_eq_false_iff_not, decide_eq_false_iff_not]; omega
end Go.Proofs.Ytehchnagjdmdgaa
