/- The document's table of which places lead to which, as a function; it is the relation; a way depends on the marks that it passes alone; the longest list bounds it. Condition: nodes that fit. -/
import Derived.Test.YtjcdcmeclnihbaaLd
namespace Go.Proofs.Ytjcdcmeclnihbaa
def baseF (kd cl : Int) (marks : List Int) (i j : Nat) : Bool :=
  if i = j then (kd == 4 || kd == 6 || kd == 8 || kd == 9) else decide (j = i + 1) && decide (kd < 4) && (match marks[i]? with
    | some m => takesT kd cl m
    | none => false)
def timesF (n : Nat) (a b : Nat → Nat → Bool) (i j : Nat) : Bool := (List.range n).any fun k => a i k && b k j
def eitherF (a b : Nat → Nat → Bool) (i j : Nat) : Bool := a i j || b i j
def powF (n : Nat) (t : Nat → Nat → Bool) : Nat → Nat → Nat → Bool
  | 0 => t
  | r + 1 => eitherF (powF n t r) (timesF n (powF n t r) t)
def stepF (kd : Int) (n : Nat) (out t : Nat → Nat → Bool) : Nat → Nat → Bool :=
  if kd = 4 then timesF n out t else if kd = 6 ∨ kd = 7 then eitherF out (powF n t n) else eitherF out t
def leadsF : (d : Nat) → Tr d → List Int → Nat → Nat → Bool
  | 0, _, _ => fun _ _ => false
  | d + 1, t, marks => (Tr.kids t).foldl (fun out k => stepF (Tr.kind t) (marks.length + 1) out (leadsF d k marks)) (baseF (Tr.kind t) (Tr.cls t) marks)
/-- The function is the relation, up to so many places. -/
def Tells (n : Nat) (f : Nat → Nat → Bool) (R : Nat → Nat → Prop) : Prop := ∀ i j, i < n → j < n → (f i j = true ↔ R i j)
theorem tells_times {n : Nat} {a b : Nat → Nat → Bool} {R Q : Nat → Nat → Prop} (ha : Tells n a R) (hb : Tells n b Q) (hR : ∀ i j, i < n → R i j → j < n) : Tells n (timesF n a b) (fun i j => ∃ m, R i m ∧ Q m j) := fun i j hi hj => by
  simp only [timesF, List.any_eq_true, List.mem_range, Bool.and_eq_true]
  constructor
  · rintro ⟨k, hk, h1, h2⟩
    exact ⟨k, (ha i k hi hk).1 h1, (hb k j hk hj).1 h2⟩
  · rintro ⟨k, h1, h2⟩
    have hk := hR i k hi h1
    exact ⟨k, hk, (ha i k hi hk).2 h1, (hb k j hk hj).2 h2⟩
theorem tells_either {n : Nat} {a b : Nat → Nat → Bool} {R Q : Nat → Nat → Prop} (ha : Tells n a R) (hb : Tells n b Q) : Tells n (eitherF a b) (fun i j => R i j ∨ Q i j) := fun i j hi hj => by
  simp only [eitherF, Bool.or_eq_true]
  rw [ha i j hi hj, hb i j hi hj]
theorem tells_pow {n : Nat} {t : Nat → Nat → Bool} {R : Nat → Nat → Prop} (ht : Tells n t R) (hR : ∀ i j, i < n → R i j → j < n) : ∀ r, Tells n (powF n t r) (fun i j => ∃ s, s ≤ r ∧ Pw R s i j) := by
  intro r
  induction r with
  | zero =>
    intro i j hi hj
    rw [show powF n t 0 = t from rfl, ht i j hi hj]
    constructor
    · exact fun h => ⟨0, Nat.le_refl _, h⟩
    · rintro ⟨s, hs, h⟩
      have e : s = 0 := by omega
      subst e
      exact h
  | succ r ih =>
    intro i j hi hj
    have hb : ∀ i j, i < n → (∃ s, s ≤ r ∧ Pw R s i j) → j < n := fun i j hi ⟨s, _, h⟩ => by
      have := Pw.bd (R := R) (n := n - 1) (fun i j hi h => by have := hR i j (by omega) h; omega) s i j (by omega) h
      omega
    rw [show powF n t (r + 1) = eitherF (powF n t r) (timesF n (powF n t r) t) from rfl, tells_either ih (tells_times ih ht hb) i j hi hj]
    constructor
    · rintro (⟨s, hs, h⟩ | ⟨m, ⟨s, hs, h⟩, hr⟩)
      · exact ⟨s, by omega, h⟩
      · exact ⟨s + 1, by omega, m, h, hr⟩
    · rintro ⟨s, hs, h⟩
      by_cases e : s ≤ r
      · exact .inl ⟨s, e, h⟩
      · obtain rfl : s = r + 1 := by omega
        obtain ⟨m, h1, h2⟩ := h
        exact .inr ⟨m, ⟨r, Nat.le_refl _, h1⟩, h2⟩
theorem tells_plus {n : Nat} {t : Nat → Nat → Bool} {R : Nat → Nat → Prop} (ht : Tells n t R) (hR : ∀ i j, i < n → R i j → j < n) (hle : ∀ i j, R i j → i ≤ j) : Tells n (powF n t n) (Plus R) := fun i j hi hj => by
  rw [tells_pow ht hR n i j hi hj]
  constructor
  · rintro ⟨s, _, h⟩; exact ⟨s, h⟩
  · rintro ⟨s, h⟩
    obtain ⟨s', hs, h'⟩ := Pw.short hle s i j h
    exact ⟨s', by omega, h'⟩
theorem base_eq (kd cl : Int) (marks : List Int) (hk : kd = 4 ∨ kd = 6 ∨ kd = 8 ∨ kd = 9) (n : Nat) : Tells n (baseF kd cl marks) (fun i j => i = j) := fun i j _ _ => by
  unfold baseF
  by_cases e : i = j
  · rw [if_pos e]
    refine ⟨fun _ => e, fun _ => ?_⟩
    rcases hk with rfl | rfl | rfl | rfl <;> rfl
  · rw [if_neg e, decide_eq_false (p := kd < 4) (by omega)]
    simp [e]
theorem base_no (kd cl : Int) (marks : List Int) (hk : kd = 5 ∨ kd = 7) (n : Nat) : Tells n (baseF kd cl marks) (fun _ _ => False) := fun i j _ _ => by
  unfold baseF
  by_cases e : i = j
  · rw [if_pos e]
    rcases hk with rfl | rfl <;> simp
  · rw [if_neg e, decide_eq_false (p := kd < 4) (by omega)]
    simp
theorem leads_is : ∀ (d : Nat) (t : Tr d) (on : Bool) (marks : List Int), fitsT d on t = true → Tells (marks.length + 1) (leadsF d t marks) (Lead d t marks) := by
  intro d
  induction d with
  | zero => intro t; exact t.elim
  | succ d ih =>
    intro t on marks hfit
    have hk1 := fitsT_kind hfit
    have hk2 := fun x hx => fitsT_kid hfit (x := x) hx
    have hnil := fitsT_nil hfit
    obtain ⟨n, hn⟩ : ∃ n, n = marks.length + 1 := ⟨_, rfl⟩
    have hbd : ∀ (k : Tr d) i j, i < n → Lead d k marks i j → j < n := fun k i j hi h => by have := Lead.bd d k marks i j (by omega) h; omega
    have hT : ∀ k, fitsT d true k = true → Tells n (leadsF d k marks) (Lead d k marks) := fun k hk => by rw [hn]; exact ih k true marks hk
    have hL : ∀ i j, Lead (d + 1) t marks i j ↔ leadK (Tr.kind t) (Tr.cls t) (Tr.kids t) (fun k i j => Lead d k marks i j) marks i j := fun _ _ => Iff.rfl
    have hgoal : ∀ (Q : Nat → Nat → Prop), (∀ i j, Lead (d + 1) t marks i j ↔ Q i j) → Tells n (leadsF (d + 1) t marks) Q → Tells n (leadsF (d + 1) t marks) (Lead (d + 1) t marks) := fun Q hQ h i j hi hj => by rw [h i j hi hj, hQ]
    rw [← hn]
    by_cases h4 : Tr.kind t = 4
    · refine hgoal (Chain (fun k i j => Lead d k marks i j) (Tr.kids t)) (fun i j => by rw [hL]; unfold leadK; rw [if_pos h4]) ?_
      simp only [leadsF]
      rw [← hn]
      have key : ∀ (l : List (Tr d)), (∀ x ∈ l, fitsT d true x = true) → ∀ (o : Nat → Nat → Bool) (R : Nat → Nat → Prop), Tells n o R → (∀ i j, i < n → R i j → j < n) → Tells n (l.foldl (fun out k => stepF (Tr.kind t) n out (leadsF d k marks)) o) (fun i j => ∃ m, R i m ∧ Chain (fun k i j => Lead d k marks i j) l m j) := by
        intro l
        induction l with
        | nil => exact fun _ o R ho _ i j hi hj => by rw [List.foldl_nil, ho i j hi hj]; exact ⟨fun h => ⟨j, h, rfl⟩, fun ⟨m, h, e⟩ => by cases e; exact h⟩
        | cons k l ihl =>
          intro hfl o R ho hR i j hi hj
          have hst : stepF (Tr.kind t) n o (leadsF d k marks) = timesF n o (leadsF d k marks) := by unfold stepF; rw [if_pos h4]
          rw [List.foldl_cons, hst, ihl (fun y hy => hfl y (List.mem_cons_of_mem _ hy)) _ _ (tells_times ho (hT k (hfl k List.mem_cons_self)) hR) (fun i j hi ⟨m, h1, h2⟩ => hbd k m j (hR i m hi h1) h2) i j hi hj]
          constructor
          · rintro ⟨m, ⟨x, h1, h2⟩, h3⟩; exact ⟨x, h1, m, h2, h3⟩
          · rintro ⟨x, h1, m, h2, h3⟩; exact ⟨m, ⟨x, h1, h2⟩, h3⟩
      intro i j hi hj
      rw [key _ hk2 _ _ (base_eq _ _ marks (.inl h4) n) (fun i j hi e => by omega) i j hi hj]
      exact ⟨fun ⟨m, e, h⟩ => by cases e; exact h, fun h => ⟨i, rfl, h⟩⟩
    have hone : Tr.kind t = 6 ∨ Tr.kind t = 7 ∨ Tr.kind t = 8 → ∃ k, Tr.kids t = [k] := fun h => by
      have h1 := hk1.2.2
      unfold least most at h1
      rw [if_neg (by omega), if_pos h, if_neg (by omega)] at h1
      match hkk : Tr.kids t with
      | [k] => exact ⟨k, rfl⟩
      | [] => rw [hkk] at h1; simp at h1
      | a :: b :: r => rw [hkk] at h1; simp at h1; omega
    by_cases h5 : Tr.kind t = 5
    · refine hgoal (fun i j => ∃ k, k ∈ Tr.kids t ∧ Lead d k marks i j) (fun i j => by rw [hL]; unfold leadK; rw [if_neg h4, if_pos h5]) ?_
      simp only [leadsF]
      rw [← hn]
      have key : ∀ (l : List (Tr d)), (∀ x ∈ l, fitsT d true x = true) → ∀ (o : Nat → Nat → Bool) (R : Nat → Nat → Prop), Tells n o R → Tells n (l.foldl (fun out k => stepF (Tr.kind t) n out (leadsF d k marks)) o) (fun i j => R i j ∨ ∃ k, k ∈ l ∧ Lead d k marks i j) := by
        intro l
        induction l with
        | nil => exact fun _ o R ho i j hi hj => by rw [List.foldl_nil, ho i j hi hj]; simp
        | cons k l ihl =>
          intro hfl o R ho i j hi hj
          have hst : stepF (Tr.kind t) n o (leadsF d k marks) = eitherF o (leadsF d k marks) := by unfold stepF; rw [if_neg h4, if_neg (by omega)]
          rw [List.foldl_cons, hst, ihl (fun y hy => hfl y (List.mem_cons_of_mem _ hy)) _ _ (tells_either ho (hT k (hfl k List.mem_cons_self))) i j hi hj]
          constructor
          · rintro ((h | h) | ⟨x, hx, h⟩)
            · exact .inl h
            · exact .inr ⟨k, List.mem_cons_self, h⟩
            · exact .inr ⟨x, List.mem_cons_of_mem _ hx, h⟩
          · rintro (h | ⟨x, hx, h⟩)
            · exact .inl (.inl h)
            · rcases List.mem_cons.1 hx with rfl | hx
              · exact .inl (.inr h)
              · exact .inr ⟨x, hx, h⟩
      intro i j hi hj
      rw [key _ hk2 _ _ (base_no _ _ marks (.inl h5) n) i j hi hj]
      simp
    by_cases h6 : Tr.kind t = 6
    · obtain ⟨k, hk⟩ := hone (by omega)
      refine hgoal (fun i j => i = j ∨ Plus (Lead d k marks) i j) (fun i j => by rw [hL]; unfold leadK; rw [if_neg h4, if_neg h5, if_pos h6, hk]; simp) ?_
      simp only [leadsF]
      rw [← hn, hk, List.foldl_cons, List.foldl_nil]
      have hst : stepF (Tr.kind t) n (baseF (Tr.kind t) (Tr.cls t) marks) (leadsF d k marks) = eitherF (baseF (Tr.kind t) (Tr.cls t) marks) (powF n (leadsF d k marks) n) := by unfold stepF; rw [if_neg h4, if_pos (.inl h6)]
      rw [hst]
      exact tells_either (base_eq _ _ marks (.inr (.inl h6)) n) (tells_plus (hT k (hk2 k (by rw [hk]; exact List.mem_cons_self))) (hbd k) (fun i j h => Lead.le d k marks i j h))
    by_cases h7 : Tr.kind t = 7
    · obtain ⟨k, hk⟩ := hone (by omega)
      refine hgoal (fun i j => False ∨ Plus (Lead d k marks) i j) (fun i j => by rw [hL]; unfold leadK; rw [if_neg h4, if_neg h5, if_neg h6, if_pos h7, hk]; simp) ?_
      simp only [leadsF]
      rw [← hn, hk, List.foldl_cons, List.foldl_nil]
      have hst : stepF (Tr.kind t) n (baseF (Tr.kind t) (Tr.cls t) marks) (leadsF d k marks) = eitherF (baseF (Tr.kind t) (Tr.cls t) marks) (powF n (leadsF d k marks) n) := by unfold stepF; rw [if_neg h4, if_pos (.inr h7)]
      rw [hst]
      exact tells_either (base_no _ _ marks (.inr h7) n) (tells_plus (hT k (hk2 k (by rw [hk]; exact List.mem_cons_self))) (hbd k) (fun i j h => Lead.le d k marks i j h))
    by_cases h8 : Tr.kind t = 8
    · obtain ⟨k, hk⟩ := hone (by omega)
      refine hgoal (fun i j => i = j ∨ Lead d k marks i j) (fun i j => by rw [hL]; unfold leadK; rw [if_neg h4, if_neg h5, if_neg h6, if_neg h7, if_pos h8, hk]; simp) ?_
      simp only [leadsF]
      rw [← hn, hk, List.foldl_cons, List.foldl_nil]
      have hst : stepF (Tr.kind t) n (baseF (Tr.kind t) (Tr.cls t) marks) (leadsF d k marks) = eitherF (baseF (Tr.kind t) (Tr.cls t) marks) (leadsF d k marks) := by unfold stepF; rw [if_neg h4, if_neg (by omega)]
      rw [hst]
      exact tells_either (base_eq _ _ marks (.inr (.inr (.inl h8))) n) (hT k (hk2 k (by rw [hk]; exact List.mem_cons_self)))
    have hkn : Tr.kids t = [] := hnil (by omega)
    by_cases h9 : Tr.kind t = 9
    · refine hgoal (fun i j => i = j) (fun i j => by rw [hL]; unfold leadK; rw [if_neg h4, if_neg h5, if_neg h6, if_neg h7, if_neg h8, if_pos h9]) ?_
      simp only [leadsF]
      rw [hkn, List.foldl_nil]
      exact base_eq _ _ marks (.inr (.inr (.inr h9))) n
    refine hgoal (fun i j => j = i + 1 ∧ ∃ m, marks[i]? = some m ∧ takesT (Tr.kind t) (Tr.cls t) m = true) (fun i j => by rw [hL]; unfold leadK; rw [if_neg h4, if_neg h5, if_neg h6, if_neg h7, if_neg h8, if_neg h9]) ?_
    simp only [leadsF]
    rw [hkn, List.foldl_nil]
    intro i j _ _
    unfold baseF
    by_cases e : i = j
    · rw [if_pos e, ieq_false h4, ieq_false h6, ieq_false h8, ieq_false h9]
      simp; omega
    · rw [if_neg e, decide_eq_true (p := Tr.kind t < 4) (by omega)]
      cases hm : marks[i]? with
      | none => simp [hm]
      | some m => simp [hm]
/-- A way depends on the marks that it passes alone. -/
theorem Lead.local (k : Nat) : ∀ (d : Nat) (t : Tr d) (marks marks' : List Int) (i j : Nat), (∀ p, i ≤ p → p < j → marks[p]? = marks'[p + k]?) → (Lead d t marks i j ↔ Lead d t marks' (i + k) (j + k)) := by
  intro d
  induction d with
  | zero => intro t; exact t.elim
  | succ d ih =>
    intro t marks marks' i j h
    have hle := fun (x : Tr d) (i j : Nat) => Lead.le d x marks i j
    have hle' := fun (x : Tr d) (i j : Nat) => Lead.le d x marks' i j
    have hC : ∀ (l : List (Tr d)) i, (∀ p, i ≤ p → p < j → marks[p]? = marks'[p + k]?) → (Chain (fun x i j => Lead d x marks i j) l i j ↔ Chain (fun x i j => Lead d x marks' i j) l (i + k) (j + k)) := by
      intro l
      induction l with
      | nil => intro i _; simp only [Chain]; omega
      | cons x l ihl =>
        intro i h
        constructor
        · rintro ⟨m, h1, h2⟩
          have e1 := hle x i m h1
          have e2 := Chain.le hle l m j h2
          exact ⟨m + k, (ih x marks marks' i m (fun p hp hp2 => h p hp (by omega))).1 h1, (ihl m (fun p hp hp2 => h p (by omega) hp2)).1 h2⟩
        · rintro ⟨m', h1, h2⟩
          have e1 := hle' x _ _ h1
          have e2 := Chain.le hle' l _ _ h2
          obtain ⟨m, rfl⟩ : ∃ m, m' = m + k := ⟨m' - k, by omega⟩
          exact ⟨m, (ih x marks marks' i m (fun p hp hp2 => h p hp (by omega))).2 h1, (ihl m (fun p hp hp2 => h p (by omega) hp2)).2 h2⟩
    have hP : ∀ (x : Tr d) s j, (∀ p, i ≤ p → p < j → marks[p]? = marks'[p + k]?) → (Pw (Lead d x marks) s i j ↔ Pw (Lead d x marks') s (i + k) (j + k)) := by
      intro x s
      induction s with
      | zero => intro j h; exact ih x marks marks' i j h
      | succ s ihs =>
        intro j h
        constructor
        · rintro ⟨m, h1, h2⟩
          have e1 := Pw.le (fun i j => Lead.le d x marks i j) _ _ _ h1
          have e2 := hle x m j h2
          exact ⟨m + k, (ihs m (fun p hp hp2 => h p hp (by omega))).1 h1, (ih x marks marks' m j (fun p hp hp2 => h p (by omega) hp2)).1 h2⟩
        · rintro ⟨m', h1, h2⟩
          have e1 := Pw.le (fun i j => Lead.le d x marks' i j) _ _ _ h1
          have e2 := hle' x _ _ h2
          obtain ⟨m, rfl⟩ : ∃ m, m' = m + k := ⟨m' - k, by omega⟩
          exact ⟨m, (ihs m (fun p hp hp2 => h p hp (by omega))).2 h1, (ih x marks marks' m j (fun p hp hp2 => h p (by omega) hp2)).2 h2⟩
    have hPl : ∀ (x : Tr d), Plus (Lead d x marks) i j ↔ Plus (Lead d x marks') (i + k) (j + k) := fun x => exists_congr fun s => hP x s j h
    have hR : ∀ (x : Tr d), Lead d x marks i j ↔ Lead d x marks' (i + k) (j + k) := fun x => ih x marks marks' i j h
    simp only [Lead, leadK]
    split
    · exact hC _ i h
    split
    · exact exists_congr fun x => and_congr_right fun _ => hR x
    split
    · exact or_congr (by omega) (exists_congr fun x => and_congr_right fun _ => hPl x)
    split
    · exact exists_congr fun x => and_congr_right fun _ => hPl x
    split
    · exact or_congr (by omega) (exists_congr fun x => and_congr_right fun _ => hR x)
    split
    · omega
    · constructor
      · rintro ⟨rfl, m, hm, ht⟩
        exact ⟨by omega, m, by rw [← h i (Nat.le_refl _) (by omega)]; exact hm, ht⟩
      · rintro ⟨e, m, hm, ht⟩
        exact ⟨by omega, m, by rw [h i (Nat.le_refl _) (by omega)]; exact hm, ht⟩
theorem longL_seq {T : Type} {f : T → Int} (l : List T) : ∀ z : Int, 0 ≤ z → 0 ≤ longL f true z l → (∀ x ∈ l, 0 ≤ f x) ∧ longL f true z l = z + (l.map f).sum := by
  induction l with
  | nil => intro z hz _; exact ⟨fun x hx => (by cases hx), by simp [longL]⟩
  | cons k l ih =>
    intro z hz h
    simp only [longL] at h ⊢
    split at h
    · omega
    · rename_i hk
      rw [if_neg hk]
      simp only [if_true] at h ⊢
      obtain ⟨h1, h2⟩ := ih (z + f k) (by omega) h
      refine ⟨fun x hx => ?_, ?_⟩
      · rcases List.mem_cons.1 hx with rfl | hx
        · omega
        · exact h1 x hx
      · rw [h2]; simp; omega
theorem longL_max {T : Type} {f : T → Int} (l : List T) : ∀ z : Int, 0 ≤ z → 0 ≤ longL f false z l → z ≤ longL f false z l ∧ ∀ x ∈ l, 0 ≤ f x ∧ f x ≤ longL f false z l := by
  induction l with
  | nil => intro z hz _; exact ⟨by simp [longL], fun x hx => (by cases hx)⟩
  | cons k l ih =>
    intro z hz h
    simp only [longL] at h ⊢
    split at h
    · omega
    · rename_i hk
      rw [if_neg hk]
      simp only [Bool.false_eq_true, if_false] at h ⊢
      obtain ⟨h1, h2⟩ := ih (max z (f k)) (by omega) h
      refine ⟨by omega, fun x hx => ?_⟩
      rcases List.mem_cons.1 hx with rfl | hx
      · omega
      · exact h2 x hx
/-- The longest list bounds a way. -/
theorem lead_long : ∀ (d : Nat) (t : Tr d) (on : Bool) (marks : List Int) (i j : Nat), fitsT d on t = true → 0 ≤ longT d t → Lead d t marks i j → (j : Int) ≤ i + longT d t := by
  intro d
  induction d with
  | zero => intro t; exact t.elim
  | succ d ih =>
    intro t on marks i j hfit hlong h
    have hk2 := fun x hx => fitsT_kid hfit (x := x) hx
    have hk1 := fitsT_kind hfit
    have hnil := fitsT_nil hfit
    simp only [longT] at hlong ⊢
    simp only [Lead, leadK] at h
    by_cases h67 : Tr.kind t = 6 ∨ Tr.kind t = 7
    · rw [if_pos h67] at hlong; omega
    rw [if_neg h67] at hlong ⊢
    by_cases hlt : Tr.kind t < 4
    · rw [if_pos hlt]
      rw [if_neg (by omega), if_neg (by omega), if_neg (by omega), if_neg (by omega), if_neg (by omega), if_neg (by omega)] at h
      omega
    rw [if_neg hlt] at hlong ⊢
    by_cases h4 : Tr.kind t = 4
    · rw [if_pos h4] at h
      rw [decide_eq_true h4] at hlong ⊢
      obtain ⟨h1, h2⟩ := longL_seq (f := fun k => longT d k) (Tr.kids t) 0 (by omega) hlong
      rw [h2]
      have key : ∀ (l : List (Tr d)), (∀ x ∈ l, fitsT d true x = true ∧ 0 ≤ longT d x) → ∀ i, Chain (fun k i j => Lead d k marks i j) l i j → (j : Int) ≤ i + (l.map (fun k => longT d k)).sum := by
        intro l
        induction l with
        | nil => rintro _ i rfl; simp
        | cons x l ihl =>
          rintro hx i ⟨m, h1, h2⟩
          have e1 := ih x true marks i m (hx x List.mem_cons_self).1 (hx x List.mem_cons_self).2 h1
          have e2 := ihl (fun y hy => hx y (List.mem_cons_of_mem _ hy)) m h2
          simp only [List.map_cons, List.sum_cons]
          omega
      have := key (Tr.kids t) (fun x hx => ⟨hk2 x hx, h1 x hx⟩) i h
      omega
    rw [if_neg h4] at h
    rw [decide_eq_false h4] at hlong ⊢
    obtain ⟨h1, h2⟩ := longL_max (f := fun k => longT d k) (Tr.kids t) 0 (by omega) hlong
    by_cases h5 : Tr.kind t = 5
    · rw [if_pos h5] at h
      obtain ⟨x, hx, h⟩ := h
      have := ih x true marks i j (hk2 x hx) (h2 x hx).1 h
      have := (h2 x hx).2
      omega
    rw [if_neg h5, if_neg (by omega), if_neg (by omega)] at h
    by_cases h8 : Tr.kind t = 8
    · rw [if_pos h8] at h
      rcases h with rfl | ⟨x, hx, h⟩
      · omega
      · have hx' : x ∈ Tr.kids t := List.mem_of_head? hx
        have := ih x true marks i j (hk2 x hx') (h2 x hx').1 h
        have := (h2 x hx').2
        omega
    rw [if_neg h8] at h
    by_cases h9 : Tr.kind t = 9
    · rw [if_pos h9] at h
      omega
    · omega
end Go.Proofs.Ytjcdcmeclnihbaa
