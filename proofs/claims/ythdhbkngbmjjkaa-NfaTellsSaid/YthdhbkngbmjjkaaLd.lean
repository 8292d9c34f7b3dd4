/- From which place of marks a node leads to which, said as a relation. Plain. No conditions. -/
import Derived.Test.YthdhbkngbmjjkaaG6
namespace Go.Proofs.Ythdhbkngbmjjkaa
def takesT (kd cl m : Int) : Bool := if kd = 0 then m == cl else if kd = 1 then decide (0 ≤ m) && decide (m < 36) else if kd = 2 then decide (0 ≤ m) && decide (m < 36) && (m != cl) else kd == 3 && m == 36
/-- So many steps, and one more. -/
def Pw (R : Nat → Nat → Prop) : Nat → Nat → Nat → Prop
  | 0, i, j => R i j
  | s + 1, i, j => ∃ m, Pw R s i m ∧ R m j
def Plus (R : Nat → Nat → Prop) (i j : Nat) : Prop := ∃ s, Pw R s i j
/-- One behind the other. -/
def Chain {T : Type} (R : T → Nat → Nat → Prop) : List T → Nat → Nat → Prop
  | [], i, j => i = j
  | k :: l, i, j => ∃ m, R k i m ∧ Chain R l m j
def leadK (kd cl : Int) {T : Type} (l : List T) (R : T → Nat → Nat → Prop) (marks : List Int) (i j : Nat) : Prop :=
  if kd = 4 then Chain R l i j
  else if kd = 5 then ∃ k, k ∈ l ∧ R k i j
  else if kd = 6 then i = j ∨ ∃ k, l.head? = some k ∧ Plus (R k) i j
  else if kd = 7 then ∃ k, l.head? = some k ∧ Plus (R k) i j
  else if kd = 8 then i = j ∨ ∃ k, l.head? = some k ∧ R k i j
  else if kd = 9 then i = j
  else j = i + 1 ∧ ∃ m, marks[i]? = some m ∧ takesT kd cl m = true
def Lead : (d : Nat) → Tr d → List Int → Nat → Nat → Prop
  | 0, _, _, _, _ => False
  | d + 1, t, marks, i, j => leadK (Tr.kind t) (Tr.cls t) (Tr.kids t) (fun k i j => Lead d k marks i j) marks i j
theorem Pw.le {R : Nat → Nat → Prop} (h : ∀ i j, R i j → i ≤ j) : ∀ s i j, Pw R s i j → i ≤ j := by
  intro s
  induction s with
  | zero => exact h
  | succ s ih =>
    rintro i j ⟨m, h1, h2⟩
    exact Nat.le_trans (ih _ _ h1) (h _ _ h2)
theorem Pw.short {R : Nat → Nat → Prop} (h : ∀ i j, R i j → i ≤ j) : ∀ s i j, Pw R s i j → ∃ s', s' ≤ j - i ∧ Pw R s' i j := by
  intro s
  induction s with
  | zero => intro i j hr; exact ⟨0, Nat.zero_le _, hr⟩
  | succ s ih =>
    rintro i j ⟨m, h1, h2⟩
    obtain ⟨s', hs, hp⟩ := ih i m h1
    have hm := h _ _ h2
    have hi := Pw.le h _ _ _ h1
    by_cases e : m = j
    · subst e; exact ⟨s', hs, hp⟩
    · exact ⟨s' + 1, by omega, m, hp, h2⟩
theorem Pw.front {R : Nat → Nat → Prop} : ∀ s i m j, R i m → Pw R s m j → Pw R (s + 1) i j := by
  intro s
  induction s with
  | zero => intro i m j h1 h2; exact ⟨m, h1, h2⟩
  | succ s ih =>
    rintro i m j h1 ⟨x, h2, h3⟩
    exact ⟨x, ih _ _ _ h1 h2, h3⟩
theorem Plus.front {R : Nat → Nat → Prop} {i m j : Nat} (h1 : R i m) (h2 : m = j ∨ Plus R m j) : Plus R i j := by
  rcases h2 with rfl | ⟨s, h2⟩
  · exact ⟨0, h1⟩
  · exact ⟨s + 1, Pw.front _ _ _ _ h1 h2⟩
theorem Plus.split {R : Nat → Nat → Prop} {i j : Nat} (h : Plus R i j) : ∃ m, R i m ∧ (m = j ∨ Plus R m j) := by
  obtain ⟨s, h⟩ := h
  induction s generalizing j with
  | zero => exact ⟨j, h, .inl rfl⟩
  | succ s ih =>
    obtain ⟨x, h1, h2⟩ := h
    obtain ⟨m, h3, h4⟩ := ih h1
    refine ⟨m, h3, .inr ?_⟩
    rcases h4 with rfl | ⟨s', h4⟩
    · exact ⟨0, h2⟩
    · exact ⟨s' + 1, x, h4, h2⟩
theorem Chain.le {T : Type} {R : T → Nat → Nat → Prop} (h : ∀ k i j, R k i j → i ≤ j) : ∀ (l : List T) i j, Chain R l i j → i ≤ j := by
  intro l
  induction l with
  | nil => rintro i j rfl; exact Nat.le_refl _
  | cons k l ih =>
    rintro i j ⟨m, h1, h2⟩
    exact Nat.le_trans (h _ _ _ h1) (ih _ _ h2)
theorem Lead.le : ∀ (d : Nat) (t : Tr d) (marks : List Int) (i j : Nat), Lead d t marks i j → i ≤ j := by
  intro d
  induction d with
  | zero => intro t; exact t.elim
  | succ d ih =>
    intro t marks i j h
    simp only [Lead, leadK] at h
    have hR : ∀ (k : Tr d) i j, Lead d k marks i j → i ≤ j := fun k i j h => ih k marks i j h
    split at h
    · exact Chain.le hR _ _ _ h
    split at h
    · obtain ⟨k, _, h⟩ := h; exact hR _ _ _ h
    split at h
    · rcases h with rfl | ⟨k, _, s, h⟩
      · exact Nat.le_refl _
      · exact Pw.le (hR k) _ _ _ h
    split at h
    · obtain ⟨k, _, s, h⟩ := h; exact Pw.le (hR k) _ _ _ h
    split at h
    · rcases h with rfl | ⟨k, _, h⟩
      · exact Nat.le_refl _
      · exact hR _ _ _ h
    split at h
    · omega
    · omega
theorem Pw.bd {R : Nat → Nat → Prop} {n : Nat} (h : ∀ i j, i ≤ n → R i j → j ≤ n) : ∀ s i j, i ≤ n → Pw R s i j → j ≤ n := by
  intro s
  induction s with
  | zero => exact h
  | succ s ih =>
    rintro i j hi ⟨m, h1, h2⟩
    exact h _ _ (ih _ _ hi h1) h2
theorem Lead.bd : ∀ (d : Nat) (t : Tr d) (marks : List Int) (i j : Nat), i ≤ marks.length → Lead d t marks i j → j ≤ marks.length := by
  intro d
  induction d with
  | zero => intro t; exact t.elim
  | succ d ih =>
    intro t marks i j hi h
    simp only [Lead, leadK] at h
    have hR : ∀ (k : Tr d) i j, i ≤ marks.length → Lead d k marks i j → j ≤ marks.length := fun k i j hi h => ih k marks i j hi h
    have hC : ∀ (l : List (Tr d)) i j, i ≤ marks.length → Chain (fun k i j => Lead d k marks i j) l i j → j ≤ marks.length := by
      intro l
      induction l with
      | nil => rintro i j hi rfl; exact hi
      | cons k l ihl =>
        rintro i j hi ⟨m, h1, h2⟩
        exact ihl _ _ (hR _ _ _ hi h1) h2
    split at h
    · exact hC _ _ _ hi h
    split at h
    · obtain ⟨k, _, h⟩ := h; exact hR _ _ _ hi h
    split at h
    · rcases h with rfl | ⟨k, _, s, h⟩
      · exact hi
      · exact Pw.bd (hR k) _ _ _ hi h
    split at h
    · obtain ⟨k, _, s, h⟩ := h; exact Pw.bd (hR k) _ _ _ hi h
    split at h
    · rcases h with rfl | ⟨k, _, h⟩
      · exact hi
      · exact hR _ _ _ hi h
    split at h
    · omega
    · obtain ⟨rfl, m, hm, _⟩ := h
      have := (List.getElem?_eq_some_iff.1 hm).1
      omega
end Go.Proofs.Ythdhbkngbmjjkaa
