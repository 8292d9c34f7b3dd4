/- Where something may change: rising points; the document's list of ranges between them. Plain. No conditions. -/
import Derived.Test.YtehchnagjdmdgaaRl
namespace Go.Proofs.Ytehchnagjdmdgaa
/-- A number put into rising ones, if it isn't there. -/
def insB : List Int → Int → List Int
  | [], r => [r]
  | x :: xs, r => if x < r then x :: insB xs r else if x = r then x :: xs else r :: x :: xs
theorem mem_insB : ∀ {l : List Int} {r x : Int}, x ∈ insB l r ↔ x = r ∨ x ∈ l
  | [], r, x => by simp [insB]
  | a :: l, r, x => by
    unfold insB
    split
    · rw [List.mem_cons, mem_insB, List.mem_cons]
      constructor
      · rintro (h | h | h)
        · exact .inr (.inl h)
        · exact .inl h
        · exact .inr (.inr h)
      · rintro (h | h | h)
        · exact .inr (.inl h)
        · exact .inl h
        · exact .inr (.inr h)
    · split
      · rename_i h
        subst h
        rw [List.mem_cons]
        exact ⟨.inr, fun h => h.elim .inl id⟩
      · rw [List.mem_cons]
theorem up_insB : ∀ {l : List Int} {r : Int}, l.Pairwise (· < ·) → (insB l r).Pairwise (· < ·)
  | [], r, _ => by simp [insB]
  | a :: l, r, h => by
    obtain ⟨h1, h2⟩ := List.pairwise_cons.1 h
    unfold insB
    split
    · rename_i hlt
      refine List.pairwise_cons.2 ⟨fun y hy => ?_, up_insB h2⟩
      rcases mem_insB.1 hy with hy | hy
      · omega
      · exact h1 y hy
    · split
      · exact h
      · rename_i h3 h4
        refine List.pairwise_cons.2 ⟨fun y hy => ?_, h⟩
        rcases List.mem_cons.1 hy with hy | hy
        · omega
        · have := h1 y hy; omega
/-- By the place where it belongs. -/
theorem insB_at : ∀ {l : List Int} {r : Int} (k : Nat), k ≤ l.length → (∀ j, j < k → nth l j < r) → (k < l.length → r ≤ nth l k) → insB l r = if k < l.length ∧ nth l k = r then l else l.take k ++ [r] ++ l.drop k
  | [], r, k, hk, _, _ => by
    have : k = 0 := by simpa using hk
    subst this; simp [insB]
  | a :: l, r, 0, _, _, h => by
    have h0 : r ≤ a := h (by simp)
    unfold insB
    rw [if_neg (by omega)]
    by_cases e : a = r
    · rw [if_pos e, if_pos ⟨by simp, e⟩]
    · rw [if_neg e, if_neg (fun h => e h.2)]; rfl
  | a :: l, r, k + 1, hk, h1, h2 => by
    have h0 : a < r := h1 0 (by omega)
    have hn : ∀ j, nth (a :: l) (j + 1) = nth l j := fun j => by simp [nth]
    have ih := insB_at (l := l) (r := r) k (by simpa using hk) (fun j hj => by rw [← hn]; exact h1 (j + 1) (by omega)) (fun hk' => by rw [← hn]; exact h2 (by simpa using hk'))
    unfold insB
    rw [if_pos h0, ih, hn]
    by_cases e : k < l.length ∧ nth l k = r
    · rw [if_pos e, if_pos ⟨by simpa using e.1, e.2⟩]
    · rw [if_neg e, if_neg (fun h => e ⟨by simpa using h.1, h.2⟩)]; simp
theorem insB_len {l : List Int} {r : Int} : (insB l r).length ≤ l.length + 1 := by
  induction l with
  | nil => simp [insB]
  | cons a l ih =>
    unfold insB
    split
    · simp; omega
    · split
      · simp
      · simp
/-- Rising points of ranges: 0, each beginning, what is behind each end, and 1114112. -/
structure Pts (at' : List Int) (l : List Rng) : Prop where
  up : at'.Pairwise (· < ·)
  mem : ∀ x, x ∈ at' ↔ (x = 0 ∨ x = 1114112) ∨ ∃ y ∈ l, x = y.1 ∨ x = y.2 + 1
def okR (x : Rng) : Prop := 0 ≤ x.1 ∧ x.1 ≤ x.2 ∧ x.2 ≤ 1114111
def insR (o : List Int) (x : Rng) : List Int := insB (insB o x.1) (x.2 + 1)
theorem foldl_snoc {α β : Type} (f : β → α → β) (b : β) (l : List α) (x : α) : (l ++ [x]).foldl f b = f (l.foldl f b) x := by simp
theorem ins_fold : ∀ (l : List Rng) (o : List Int), o.Pairwise (· < ·) → ((l.foldl insR o).Pairwise (· < ·) ∧ ∀ x, x ∈ l.foldl insR o ↔ x ∈ o ∨ ∃ y ∈ l, x = y.1 ∨ x = y.2 + 1)
  | [], o, h => ⟨h, fun x => by simp⟩
  | y :: l, o, h => by
    obtain ⟨h1, h2⟩ := ins_fold l (insR o y) (up_insB (up_insB h))
    refine ⟨h1, fun x => ?_⟩
    show x ∈ l.foldl insR (insR o y) ↔ _
    rw [h2]
    unfold insR
    rw [mem_insB, mem_insB]
    constructor
    · rintro ((h | h | h) | ⟨z, hz, h⟩)
      · exact .inr ⟨y, by simp, .inr h⟩
      · exact .inr ⟨y, by simp, .inl h⟩
      · exact .inl h
      · exact .inr ⟨z, by simp [hz], h⟩
    · rintro (h | ⟨z, hz, h⟩)
      · exact .inl (.inr (.inr h))
      · rcases List.mem_cons.1 hz with rfl | hz
        · rcases h with h | h
          · exact .inl (.inr (.inl h))
          · exact .inl (.inl h)
        · exact .inr ⟨z, hz, h⟩
/-- The one way of finding them, and the other one. -/
def pts2 (l : List Rng) : List Int := insB (l.foldl insR [0]) 1114112
def pts3 (l : List Rng) : List Int := l.foldl insR [0, 1114112]
theorem pts2_is (l : List Rng) : Pts (pts2 l) l := by
  obtain ⟨h1, h2⟩ := ins_fold l [0] (by simp)
  refine ⟨up_insB h1, fun x => ?_⟩
  unfold pts2
  rw [mem_insB, h2, List.mem_singleton]
  constructor
  · rintro (h | h | h)
    · exact .inl (.inr h)
    · exact .inl (.inl h)
    · exact .inr h
  · rintro ((h | h) | h)
    · exact .inr (.inl h)
    · exact .inl h
    · exact .inr (.inr h)
theorem pts3_is (l : List Rng) : Pts (pts3 l) l := by
  obtain ⟨h1, h2⟩ := ins_fold l [0, 1114112] (by simp)
  refine ⟨h1, fun x => ?_⟩
  unfold pts3
  rw [h2]
  simp only [List.mem_cons, List.not_mem_nil, or_false]
theorem ins_fold_len (l : List Rng) (o : List Int) : (l.foldl insR o).length ≤ o.length + 2 * l.length := by
  induction l generalizing o with
  | nil => simp
  | cons y l ih =>
    have h1 := ih (insR o y)
    have h2 : (insR o y).length ≤ o.length + 2 := by
      unfold insR
      have := @insB_len (insB o y.1) (y.2 + 1)
      have := @insB_len o y.1
      omega
    simp only [List.foldl_cons, List.length_cons]
    omega
section
variable {at' : List Int} {l : List Rng}
theorem Pts.rng (h : Pts at' l) (hl : ∀ x ∈ l, okR x) : ∀ x ∈ at', 0 ≤ x ∧ x ≤ 1114112 := fun x hx => by
  rcases (h.mem x).1 hx with (h1 | h1) | ⟨y, hy, h1 | h1⟩
  · omega
  · omega
  · have := hl y hy; unfold okR at this; omega
  · have := hl y hy; unfold okR at this; omega
theorem up_nth {l : List Int} (h : l.Pairwise (· < ·)) {i j : Nat} (hij : i < j) (hj : j < l.length) : nth l i < nth l j := by
  have := List.pairwise_iff_getElem.1 h i j (by omega) hj hij
  simpa [nth, List.getElem?_eq_getElem hj, List.getElem?_eq_getElem (show i < l.length by omega)] using this
theorem nth_of_mem {l : List Int} {x : Int} (h : x ∈ l) : ∃ j, j < l.length ∧ nth l j = x := by
  obtain ⟨j, hj, e⟩ := List.mem_iff_getElem.1 h
  exact ⟨j, hj, by simp [nth, List.getElem?_eq_getElem hj, e]⟩
theorem Pts.two (h : Pts at' l) : 2 ≤ at'.length := by
  obtain ⟨i, hi, e1⟩ := nth_of_mem ((h.mem 0).2 (.inl (.inl rfl)))
  obtain ⟨j, hj, e2⟩ := nth_of_mem ((h.mem 1114112).2 (.inl (.inr rfl)))
  have : i ≠ j := fun e => by subst e; omega
  omega
theorem Pts.first (h : Pts at' l) (hl : ∀ x ∈ l, okR x) : nth at' 0 = 0 := by
  obtain ⟨i, hi, e1⟩ := nth_of_mem ((h.mem 0).2 (.inl (.inl rfl)))
  have h2 := h.rng hl _ (nth_mem (show 0 < at'.length by omega))
  by_cases e : i = 0
  · subst e; exact e1
  · have := up_nth h.up (show 0 < i by omega) hi
    omega
theorem Pts.last (h : Pts at' l) (hl : ∀ x ∈ l, okR x) : nth at' (at'.length - 1) = 1114112 := by
  have h2 := h.two
  obtain ⟨i, hi, e1⟩ := nth_of_mem ((h.mem 1114112).2 (.inl (.inr rfl)))
  have h3 := h.rng hl _ (nth_mem (show at'.length - 1 < at'.length by omega))
  by_cases e : i = at'.length - 1
  · rw [← e]; exact e1
  · have := up_nth h.up (show i < at'.length - 1 by omega) (by omega)
    omega
/-- Between two points that follow one another no point lies. -/
theorem Pts.none (h : Pts at' l) {i : Nat} (hi : i + 1 < at'.length) {x : Int} (h1 : nth at' i < x) (h2 : x < nth at' (i + 1)) : x ∉ at' := fun hx => by
  obtain ⟨j, hj, e⟩ := nth_of_mem hx
  rcases Nat.lt_trichotomy j i with h3 | h3 | h3
  · have := up_nth h.up h3 (by omega); omega
  · subst h3; omega
  · rcases Nat.lt_or_ge (i + 1) j with h4 | h4
    · have := up_nth h.up h4 hj; omega
    · have : j = i + 1 := by omega
      subst this; omega
/-- So there nothing changes. -/
theorem Pts.same (h : Pts at' l) {i : Nat} (hi : i + 1 < at'.length) {r : Int} (h1 : nth at' i ≤ r) (h2 : r < nth at' (i + 1)) {m : List Rng} (hm : ∀ x ∈ m, x ∈ l) : inS m r = inS m (nth at' i) := by
  refine Bool.eq_iff_iff.2 ?_
  unfold inS
  rw [List.any_eq_true, List.any_eq_true]
  have key : ∀ x ∈ m, (x.1 ≤ r ∧ r ≤ x.2) ↔ (x.1 ≤ nth at' i ∧ nth at' i ≤ x.2) := fun x hx => by
    have ha : ¬ (nth at' i < x.1 ∧ x.1 < nth at' (i + 1)) := fun hh => h.none hi hh.1 hh.2 ((h.mem _).2 (.inr ⟨x, hm x hx, .inl rfl⟩))
    have hb : ¬ (nth at' i < x.2 + 1 ∧ x.2 + 1 < nth at' (i + 1)) := fun hh => h.none hi hh.1 hh.2 ((h.mem _).2 (.inr ⟨x, hm x hx, .inr rfl⟩))
    omega
  constructor
  · rintro ⟨x, hx, h3⟩
    refine ⟨x, hx, ?_⟩
    simp only [Bool.and_eq_true, decide_eq_true_eq] at h3 ⊢
    exact (key x hx).1 h3
  · rintro ⟨x, hx, h3⟩
    refine ⟨x, hx, ?_⟩
    simp only [Bool.and_eq_true, decide_eq_true_eq] at h3 ⊢
    exact (key x hx).2 h3
/-- Each number lies between two of them. -/
theorem Pts.cut (h : Pts at' l) (hl : ∀ x ∈ l, okR x) {r : Int} (h0 : 0 ≤ r) : ∀ n, n + 1 < at'.length → r < nth at' (n + 1) → ∃ i, i ≤ n ∧ nth at' i ≤ r ∧ r < nth at' (i + 1)
  | 0, _, h2 => ⟨0, Nat.le_refl _, by rw [h.first hl]; exact h0, h2⟩
  | n + 1, hn, h2 => by
    by_cases e : nth at' (n + 1) ≤ r
    · exact ⟨n + 1, Nat.le_refl _, e, h2⟩
    · obtain ⟨i, h3, h4⟩ := h.cut hl h0 n (by omega) (by omega)
      exact ⟨i, by omega, h4⟩
end
/-- The ranges between the first points that are wanted, put together. -/
def gatStep (at' : List Int) (i : Nat) (want : Bool) (out : List Rng) : List Rng :=
  if want then
    match out.getLast? with
    | some x => if x.2 + 1 = nth at' i then out.dropLast ++ [(x.1, nth at' (i + 1) - 1)] else out ++ [(nth at' i, nth at' (i + 1) - 1)]
    | none => [(nth at' i, nth at' (i + 1) - 1)]
  else out
def gatTo (at' : List Int) (P : Int → Bool) : Nat → List Rng
  | 0 => []
  | i + 1 => gatStep at' i (P (nth at' i)) (gatTo at' P i)
theorem gat_is {at' : List Int} (hup : at'.Pairwise (· < ·)) (h0 : nth at' 0 = 0) (P : Int → Bool) : ∀ k : Nat, k < at'.length → (∀ i, i < k → ∀ r, nth at' i ≤ r → r < nth at' (i + 1) → P r = P (nth at' i)) →
    UpR 0 (gatTo at' P k) ∧ (∀ r, inS (gatTo at' P k) r = (decide (0 ≤ r) && decide (r < nth at' k) && P r)) ∧ endR 0 (gatTo at' P k) ≤ nth at' k + 1
  | 0, _, _ => ⟨trivial, fun r => by
      show false = _
      rw [h0]
      by_cases h : 0 ≤ r
      · rw [decide_eq_false (show ¬ r < 0 by omega)]; simp
      · rw [decide_eq_false h]; simp, by rw [h0]; simp [gatTo, endR]⟩
  | k + 1, hk, hP => by
    obtain ⟨h1, h2, h3⟩ := gat_is hup h0 P k (by omega) fun i hi => hP i (by omega)
    have hPk := hP k (by omega)
    have hlt : nth at' k < nth at' (k + 1) := up_nth hup (by omega) hk
    have hge : 0 ≤ nth at' k := by
      by_cases e : k = 0
      · subst e; omega
      · have := up_nth hup (show 0 < k by omega) (by omega); omega
    show UpR 0 (gatStep at' k (P (nth at' k)) (gatTo at' P k)) ∧ (∀ r, inS (gatStep at' k (P (nth at' k)) (gatTo at' P k)) r = _) ∧ endR 0 (gatStep at' k (P (nth at' k)) (gatTo at' P k)) ≤ _
    obtain ⟨l, hl⟩ : ∃ l, l = gatTo at' P k := ⟨_, rfl⟩
    obtain ⟨a, ha⟩ : ∃ a, a = nth at' k := ⟨_, rfl⟩
    obtain ⟨b, hb⟩ : ∃ b, b = nth at' (k + 1) := ⟨_, rfl⟩
    unfold gatStep
    rw [← hl] at h1 h2 h3 ⊢
    rw [← ha] at hlt hge hPk h2 h3 ⊢
    rw [← hb] at hlt hPk ⊢
    clear hl ha hb hP
    have hsplit : ∀ r, (decide (0 ≤ r) && decide (r < b) && P r) = ((decide (0 ≤ r) && decide (r < a) && P r) || (decide (a ≤ r) && decide (r < b) && P a)) := fun r => by
      by_cases e : a ≤ r
      · by_cases e2 : r < b
        · rw [hPk r e e2, decide_eq_true (show 0 ≤ r by omega), decide_eq_true e2, decide_eq_false (show ¬ r < a by omega), decide_eq_true e]; simp
        · rw [decide_eq_false e2, decide_eq_false (show ¬ r < a by omega)]; simp
      · rw [decide_eq_false e, decide_eq_true (show r < a by omega), decide_eq_true (show r < b by omega)]; simp
    cases hp : P a with
    | false =>
      simp only [Bool.false_eq_true, if_false]
      exact ⟨h1, fun r => by rw [h2, hsplit, hp]; simp, by omega⟩
    | true =>
      simp only [if_true]
      rcases List.eq_nil_or_concat l with rfl | ⟨i, x, rfl⟩
      · simp only [List.getLast?_nil]
        refine ⟨⟨hge, by show a ≤ b - 1; omega, trivial⟩, fun r => ?_, by simp [endR]; omega⟩
        rw [hsplit, ← h2, hp, inS_cons]
        show _ = (false || _)
        simp only [inS, List.any_nil, Bool.or_false, Bool.false_or, Bool.and_true]
        rw [show decide (r ≤ b - 1) = decide (r < b) from decide_eq_decide.2 (by omega)]
      · rw [List.concat_eq_append] at h1 h2 h3 ⊢
        rw [List.getLast?_append]
        simp only [List.getLast?_singleton, Option.some_or]
        obtain ⟨p, q, c⟩ := h1.init
        rw [endR_snoc] at h3
        by_cases e : x.2 + 1 = a
        · rw [if_pos e, List.dropLast_concat]
          refine ⟨p.snoc q (by show x.1 ≤ b - 1; omega), fun r => ?_, by rw [endR_snoc]; show b - 1 + 2 ≤ _; omega⟩
          rw [hsplit, ← h2, hp, inS_append, inS_append, inS_cons, inS_cons]
          cases inS i r
          · show ((decide (x.1 ≤ r) && decide (r ≤ b - 1)) || false) = (((decide (x.1 ≤ r) && decide (r ≤ x.2)) || false) || (decide (a ≤ r) && decide (r < b) && true))
            rw [Bool.or_false, Bool.or_false, Bool.and_true]
            refine Bool.eq_iff_iff.2 ?_
            simp only [Bool.and_eq_true, Bool.or_eq_true, decide_eq_true_eq]
            omega
          · rfl
        · rw [if_neg e]
          refine ⟨h1.snoc (by rw [endR_snoc]; show x.2 + 2 ≤ a; omega) (by show a ≤ b - 1; omega), fun r => ?_, by rw [endR_snoc]; show b - 1 + 2 ≤ _; omega⟩
          rw [hsplit, ← h2, hp, inS_append]
          congr 1
          rw [inS_cons]
          simp only [inS, List.any_nil, Bool.or_false, Bool.and_true]
          rw [show decide (r ≤ b - 1) = decide (r < b) from decide_eq_decide.2 (by omega)]
theorem gat_len (at' : List Int) (P : Int → Bool) : ∀ k, (gatTo at' P k).length ≤ k
  | 0 => Nat.le_refl _
  | k + 1 => by
    have := gat_len at' P k
    show (gatStep at' k _ (gatTo at' P k)).length ≤ _
    unfold gatStep
    split
    · split
      · split
        · rename_i x hx _
          rw [List.length_append, List.length_dropLast]
          have : (gatTo at' P k) ≠ [] := fun e => by rw [e] at hx; simp at hx
          have := List.length_pos_iff.2 this
          simp; omega
        · simp; omega
      · simp
    · omega
end Go.Proofs.Ytehchnagjdmdgaa
