/- From which place of marks a node leads to which, said as a relation; what ends computes is its image. Condition: nodes that fit. -/
import Derived.Test.YtjcdcmeclnihbaaEn
namespace Go.Proofs.Ytjcdcmeclnihbaa
/-- So many steps, and one more. -/
def Pw (R : Nat → Nat → Prop) : Nat → Nat → Nat → Prop
  | 0, i, j => R i j
  | s + 1, i, j => ∃ m, Pw R s i m ∧ R m j
def Plus (R : Nat → Nat → Prop) (i j : Nat) : Prop := ∃ s, Pw R s i j
/-- One behind the other. -/
def Chain {T : Type} (R : T → Nat → Nat → Prop) : List T → Nat → Nat → Prop
  | [], i, j => i = j
  | k :: l, i, j => ∃ m, R k i m ∧ Chain R l m j
def leadK (kd cl : Int) {T : Type} (l : List T) (R : T → Nat → Nat → Prop) (marks : List Int) (i j : Nat) : Prop :=
  if kd = 4 then Chain R l i j
  else if kd = 5 then ∃ k, k ∈ l ∧ R k i j
  else if kd = 6 then i = j ∨ ∃ k, l.head? = some k ∧ Plus (R k) i j
  else if kd = 7 then ∃ k, l.head? = some k ∧ Plus (R k) i j
  else if kd = 8 then i = j ∨ ∃ k, l.head? = some k ∧ R k i j
  else if kd = 9 then i = j
  else j = i + 1 ∧ ∃ m, marks[i]? = some m ∧ takesT kd cl m = true
def Lead : (d : Nat) → Tr d → List Int → Nat → Nat → Prop
  | 0, _, _, _, _ => False
  | d + 1, t, marks, i, j => leadK (Tr.kind t) (Tr.cls t) (Tr.kids t) (fun k i j => Lead d k marks i j) marks i j
theorem Pw.le {R : Nat → Nat → Prop} (h : ∀ i j, R i j → i ≤ j) : ∀ s i j, Pw R s i j → i ≤ j := by
  intro s
  induction s with
  | zero => exact h
  | succ s ih =>
    rintro i j ⟨m, h1, h2⟩
    exact Nat.le_trans (ih _ _ h1) (h _ _ h2)
theorem Pw.short {R : Nat → Nat → Prop} (h : ∀ i j, R i j → i ≤ j) : ∀ s i j, Pw R s i j → ∃ s', s' ≤ j - i ∧ Pw R s' i j := by
  intro s
  induction s with
  | zero => intro i j hr; exact ⟨0, Nat.zero_le _, hr⟩
  | succ s ih =>
    rintro i j ⟨m, h1, h2⟩
    obtain ⟨s', hs, hp⟩ := ih i m h1
    have hm := h _ _ h2
    have hi := Pw.le h _ _ _ h1
    by_cases e : m = j
    · subst e; exact ⟨s', hs, hp⟩
    · exact ⟨s' + 1, by omega, m, hp, h2⟩
theorem Pw.front {R : Nat → Nat → Prop} : ∀ s i m j, R i m → Pw R s m j → Pw R (s + 1) i j := by
  intro s
  induction s with
  | zero => intro i m j h1 h2; exact ⟨m, h1, h2⟩
  | succ s ih =>
    rintro i m j h1 ⟨x, h2, h3⟩
    exact ⟨x, ih _ _ _ h1 h2, h3⟩
theorem Plus.front {R : Nat → Nat → Prop} {i m j : Nat} (h1 : R i m) (h2 : m = j ∨ Plus R m j) : Plus R i j := by
  rcases h2 with rfl | ⟨s, h2⟩
  · exact ⟨0, h1⟩
  · exact ⟨s + 1, Pw.front _ _ _ _ h1 h2⟩
theorem Plus.split {R : Nat → Nat → Prop} {i j : Nat} (h : Plus R i j) : ∃ m, R i m ∧ (m = j ∨ Plus R m j) := by
  obtain ⟨s, h⟩ := h
  induction s generalizing j with
  | zero => exact ⟨j, h, .inl rfl⟩
  | succ s ih =>
    obtain ⟨x, h1, h2⟩ := h
    obtain ⟨m, h3, h4⟩ := ih h1
    refine ⟨m, h3, .inr ?_⟩
    rcases h4 with rfl | ⟨s', h4⟩
    · exact ⟨0, h2⟩
    · exact ⟨s' + 1, x, h4, h2⟩
theorem Chain.le {T : Type} {R : T → Nat → Nat → Prop} (h : ∀ k i j, R k i j → i ≤ j) : ∀ (l : List T) i j, Chain R l i j → i ≤ j := by
  intro l
  induction l with
  | nil => rintro i j rfl; exact Nat.le_refl _
  | cons k l ih =>
    rintro i j ⟨m, h1, h2⟩
    exact Nat.le_trans (h _ _ _ h1) (ih _ _ h2)
theorem Lead.le : ∀ (d : Nat) (t : Tr d) (marks : List Int) (i j : Nat), Lead d t marks i j → i ≤ j := by
  intro d
  induction d with
  | zero => intro t; exact t.elim
  | succ d ih =>
    intro t marks i j h
    simp only [Lead, leadK] at h
    have hR : ∀ (k : Tr d) i j, Lead d k marks i j → i ≤ j := fun k i j h => ih k marks i j h
    split at h
    · exact Chain.le hR _ _ _ h
    split at h
    · obtain ⟨k, _, h⟩ := h; exact hR _ _ _ h
    split at h
    · rcases h with rfl | ⟨k, _, s, h⟩
      · exact Nat.le_refl _
      · exact Pw.le (hR k) _ _ _ h
    split at h
    · obtain ⟨k, _, s, h⟩ := h; exact Pw.le (hR k) _ _ _ h
    split at h
    · rcases h with rfl | ⟨k, _, h⟩
      · exact Nat.le_refl _
      · exact hR _ _ _ h
    split at h
    · omega
    · omega
theorem Pw.bd {R : Nat → Nat → Prop} {n : Nat} (h : ∀ i j, i ≤ n → R i j → j ≤ n) : ∀ s i j, i ≤ n → Pw R s i j → j ≤ n := by
  intro s
  induction s with
  | zero => exact h
  | succ s ih =>
    rintro i j hi ⟨m, h1, h2⟩
    exact h _ _ (ih _ _ hi h1) h2
theorem Lead.bd : ∀ (d : Nat) (t : Tr d) (marks : List Int) (i j : Nat), i ≤ marks.length → Lead d t marks i j → j ≤ marks.length := by
  intro d
  induction d with
  | zero => intro t; exact t.elim
  | succ d ih =>
    intro t marks i j hi h
    simp only [Lead, leadK] at h
    have hR : ∀ (k : Tr d) i j, i ≤ marks.length → Lead d k marks i j → j ≤ marks.length := fun k i j hi h => ih k marks i j hi h
    have hC : ∀ (l : List (Tr d)) i j, i ≤ marks.length → Chain (fun k i j => Lead d k marks i j) l i j → j ≤ marks.length := by
      intro l
      induction l with
      | nil => rintro i j hi rfl; exact hi
      | cons k l ihl =>
        rintro i j hi ⟨m, h1, h2⟩
        exact ihl _ _ (hR _ _ _ hi h1) h2
    split at h
    · exact hC _ _ _ hi h
    split at h
    · obtain ⟨k, _, h⟩ := h; exact hR _ _ _ hi h
    split at h
    · rcases h with rfl | ⟨k, _, s, h⟩
      · exact hi
      · exact Pw.bd (hR k) _ _ _ hi h
    split at h
    · obtain ⟨k, _, s, h⟩ := h; exact Pw.bd (hR k) _ _ _ hi h
    split at h
    · rcases h with rfl | ⟨k, _, h⟩
      · exact hi
      · exact hR _ _ _ hi h
    split at h
    · omega
    · obtain ⟨rfl, m, hm, _⟩ := h
      have := (List.getElem?_eq_some_iff.1 hm).1
      omega
/-- A list of places as a set. -/
def Im (R : Nat → Nat → Prop) (x : List Bool) (j : Nat) : Prop := ∃ i, nthB x i = true ∧ R i j
theorem nthB_lt {x : List Bool} {i : Nat} (h : nthB x i = true) : i < x.length := by
  unfold nthB at h
  cases e : x[i]? with
  | none => rw [e] at h; cases h
  | some b => exact (List.getElem?_eq_some_iff.1 e).1
theorem nthB_uni' {a b : List Bool} {j : Nat} (h : b.length = a.length) : nthB (uni a b) j = true ↔ nthB a j = true ∨ nthB b j = true := by
  by_cases hj : j < a.length
  · rw [nthB_uni h hj]; simp
  · refine ⟨fun h' => ?_, fun h' => ?_⟩
    · have := nthB_lt h'
      rw [uni_len h] at this
      exact absurd this hj
    · rcases h' with h' | h'
      · exact absurd (nthB_lt h') hj
      · have := nthB_lt h'; omega
theorem more_no {a b : List Bool} (h : moreB a b = false) {j : Nat} (hj : nthB b j = true) : nthB a j = true := by
  simp only [moreB, moreFrom, List.any_eq_false, List.mem_range, Bool.and_eq_true, Bool.not_eq_true', not_and] at h
  cases e : nthB a j with
  | true => rfl
  | false => exact absurd e (h j (nthB_lt hj) hj)
/-- What loopP comes to. -/
theorem loopP_is {f : List Bool → List Bool} {R : Nat → Nat → Prop} {n : Nat} (hf : ∀ x, x.length = n → (f x).length = n ∧ ∀ j, nthB (f x) j = true ↔ Im R x j) :
    ∀ (k : Nat) (o nx : List Bool), o.length = n → nx.length = n → falses o < k → (∀ p q, nthB o p = true → R p q → nthB o q = true ∨ nthB nx q = true) →
      ∀ j, nthB (loopP f k o nx) j = true ↔ (nthB o j = true ∨ nthB nx j = true ∨ Im (Plus R) nx j) := by
  intro k
  induction k with
  | zero => intro o nx _ _ h; omega
  | succ k ih =>
    intro o nx ho hn hk hc j
    simp only [loopP]
    cases hm : moreB o nx with
    | true =>
      rw [if_pos rfl]
      have hu := uni_len (a := o) (b := nx) (by omega)
      rw [ih (uni o nx) (f nx) (by omega) (hf nx hn).1 (by have := falses_uni (by omega) hm; omega) (fun p q hp hr => by
        rcases (nthB_uni' (by omega)).1 hp with hp | hp
        · exact .inl ((nthB_uni' (by omega)).2 (hc p q hp hr))
        · exact .inr (((hf nx hn).2 q).2 ⟨p, hp, hr⟩)) j]
      rw [nthB_uni' (by omega), (hf nx hn).2 j]
      refine ⟨?_, ?_⟩
      · rintro ((h | h) | ⟨i, hi, hr⟩ | ⟨i, hi, hr⟩)
        · exact .inl h
        · exact .inr (.inl h)
        · exact .inr (.inr ⟨i, hi, 0, hr⟩)
        · obtain ⟨p, hp, hpi⟩ := ((hf nx hn).2 i).1 hi
          exact .inr (.inr ⟨p, hp, Plus.front hpi (.inr hr)⟩)
      · rintro (h | h | ⟨i, hi, hr⟩)
        · exact .inl (.inl h)
        · exact .inl (.inr h)
        · obtain ⟨m, h1, h2⟩ := Plus.split hr
          rcases h2 with rfl | h2
          · exact .inr (.inl ⟨i, hi, h1⟩)
          · exact .inr (.inr ⟨m, ((hf nx hn).2 m).2 ⟨i, hi, h1⟩, h2⟩)
    | false =>
      rw [if_neg (by simp)]
      refine ⟨.inl, ?_⟩
      rintro (h | h | ⟨i, hi, s, hr⟩)
      · exact h
      · exact more_no hm h
      · have key : ∀ s i j, nthB o i = true → Pw R s i j → nthB o j = true := by
          intro s
          induction s with
          | zero =>
            intro i j hi hr
            rcases hc i j hi hr with h | h
            · exact h
            · exact more_no hm h
          | succ s ihs =>
            rintro i j hi ⟨x, h1, h2⟩
            rcases hc x j (ihs i x hi h1) h2 with h | h
            · exact h
            · exact more_no hm h
        exact key s i j (more_no hm hi) hr
theorem nthB_no {n j : Nat} : nthB (noB n) j = false := by
  unfold nthB noB
  rw [List.getElem?_replicate]
  split <;> rfl
theorem ends_is : ∀ (d : Nat) (t : Tr d) (on : Bool) (marks : List Int) (frm : List Bool), fitsT d on t = true → frm.length = marks.length + 1 →
    ∀ j, nthB (endsT d t marks frm) j = true ↔ Im (Lead d t marks) frm j := by
  intro d
  induction d with
  | zero => intro t; exact t.elim
  | succ d ih =>
    intro t on marks frm hfit hl j
    have hk1 := fitsT_kind hfit
    have hk2 := fun x hx => fitsT_kid hfit (x := x) hx
    have hlen := fun (k : Tr d) (x : List Bool) (hx : x.length = marks.length + 1) => endsT_len d k marks x hx
    have hno : (noB frm.length).length = marks.length + 1 := by simp [noB, hl]
    simp only [endsT, endsK]
    have hL : ∀ i j, Lead (d + 1) t marks i j ↔ leadK (Tr.kind t) (Tr.cls t) (Tr.kids t) (fun k i j => Lead d k marks i j) marks i j := fun _ _ => Iff.rfl
    have hIm : ∀ (Q : Nat → Nat → Prop), (∀ i j, Lead (d + 1) t marks i j ↔ Q i j) → (Im (Lead (d + 1) t marks) frm j ↔ Im Q frm j) := fun Q hQ => by
      unfold Im; exact exists_congr fun i => and_congr_right fun _ => hQ i j
    by_cases h4 : Tr.kind t = 4
    · rw [if_pos h4, hIm (Chain (fun k i j => Lead d k marks i j) (Tr.kids t)) (fun i j => by rw [hL]; unfold leadK; rw [if_pos h4])]
      have key : ∀ (l : List (Tr d)), (∀ x ∈ l, fitsT d true x = true) → ∀ x : List Bool, x.length = marks.length + 1 → (nthB (l.foldl (fun x k => endsT d k marks x) x) j = true ↔ Im (Chain (fun k i j => Lead d k marks i j) l) x j) := by
        intro l
        induction l with
        | nil =>
          intro _ x _
          exact ⟨fun h => ⟨j, h, rfl⟩, fun ⟨i, h, e⟩ => by cases e; exact h⟩
        | cons k l ihl =>
          intro hfl x hx
          rw [List.foldl_cons, ihl (fun y hy => hfl y (List.mem_cons_of_mem _ hy)) _ (hlen k x hx)]
          constructor
          · rintro ⟨m, hm, hc⟩
            obtain ⟨i, hi, hr⟩ := (ih k true marks x (hfl k List.mem_cons_self) hx m).1 hm
            exact ⟨i, hi, m, hr, hc⟩
          · rintro ⟨i, hi, m, hr, hc⟩
            exact ⟨m, (ih k true marks x (hfl k List.mem_cons_self) hx m).2 ⟨i, hi, hr⟩, hc⟩
      exact key _ hk2 frm hl
    rw [if_neg h4]
    by_cases h5 : Tr.kind t = 5
    · rw [if_pos h5, hIm (fun i j => ∃ k, k ∈ Tr.kids t ∧ Lead d k marks i j) (fun i j => by rw [hL]; unfold leadK; rw [if_neg h4, if_pos h5])]
      have key : ∀ (l : List (Tr d)), (∀ x ∈ l, fitsT d true x = true) → ∀ o : List Bool, o.length = marks.length + 1 → (nthB (l.foldl (fun o k => uni o (endsT d k marks frm)) o) j = true ↔ nthB o j = true ∨ Im (fun i j => ∃ k, k ∈ l ∧ Lead d k marks i j) frm j) := by
        intro l
        induction l with
        | nil =>
          intro _ o _
          exact ⟨.inl, fun h => h.elim id fun ⟨i, _, k, hk, _⟩ => by cases hk⟩
        | cons k l ihl =>
          intro hfl o ho
          have hlk := hlen k frm hl
          rw [List.foldl_cons, ihl (fun y hy => hfl y (List.mem_cons_of_mem _ hy)) _ (by rw [uni_len (by omega)]; exact ho), nthB_uni' (by omega), ih k true marks frm (hfl k List.mem_cons_self) hl j]
          constructor
          · rintro ((h | ⟨i, hi, hr⟩) | ⟨i, hi, x, hx, hr⟩)
            · exact .inl h
            · exact .inr ⟨i, hi, k, List.mem_cons_self, hr⟩
            · exact .inr ⟨i, hi, x, List.mem_cons_of_mem _ hx, hr⟩
          · rintro (h | ⟨i, hi, x, hx, hr⟩)
            · exact .inl (.inl h)
            · rcases List.mem_cons.1 hx with rfl | hx
              · exact .inl (.inr ⟨i, hi, hr⟩)
              · exact .inr ⟨i, hi, x, hx, hr⟩
      rw [key _ hk2 _ hno, nthB_no]
      simp
    rw [if_neg h5]
    have hone : Tr.kind t = 6 ∨ Tr.kind t = 7 ∨ Tr.kind t = 8 → ∃ k, Tr.kids t = [k] := fun h => by
      have h1 := hk1.2.2
      unfold least most at h1
      rw [if_neg (by omega), if_pos h, if_neg (by omega)] at h1
      match hkk : Tr.kids t with
      | [k] => exact ⟨k, rfl⟩
      | [] => rw [hkk] at h1; simp at h1
      | a :: b :: r => rw [hkk] at h1; simp at h1; omega
    by_cases h67 : Tr.kind t = 6 ∨ Tr.kind t = 7
    · rw [if_pos h67]
      obtain ⟨k, hk⟩ := hone (by omega)
      rw [hk]
      simp only []
      have hfk := hk2 k (by rw [hk]; exact List.mem_cons_self)
      have hfx : ∀ x : List Bool, x.length = marks.length + 1 → (endsT d k marks x).length = marks.length + 1 ∧ ∀ j, nthB (endsT d k marks x) j = true ↔ Im (Lead d k marks) x j := fun x hx => ⟨hlen k x hx, fun j => ih k true marks x hfk hx j⟩
      have hn1 := hlen k frm hl
      rcases h67 with h6 | h7
      · rw [if_pos h6, hIm (fun i j => i = j ∨ Plus (Lead d k marks) i j) (fun i j => by
          rw [hL]; unfold leadK; rw [if_neg h4, if_neg h5, if_pos h6, hk]; simp)]
        have hu := uni_len (a := noB frm.length) (b := frm) (by omega)
        have hun : ∀ p, nthB (uni (noB frm.length) frm) p = true ↔ nthB frm p = true := fun p => by rw [nthB_uni' (by omega), nthB_no]; simp
        rw [loopP_is hfx _ _ _ (by omega) hn1 (by have := falses_le (uni (noB frm.length) frm); omega) (fun p q hp hr => .inr (((hfx frm hl).2 q).2 ⟨p, (hun p).1 hp, hr⟩)), hun, (hfx frm hl).2 j]
        constructor
        · rintro (h | ⟨i, hi, hr⟩ | ⟨i, hi, hr⟩)
          · exact ⟨j, h, .inl rfl⟩
          · exact ⟨i, hi, .inr ⟨0, hr⟩⟩
          · obtain ⟨p, hp, hpi⟩ := ((hfx frm hl).2 i).1 hi
            exact ⟨p, hp, .inr (Plus.front hpi (.inr hr))⟩
        · rintro ⟨i, hi, rfl | hr⟩
          · exact .inl hi
          · obtain ⟨m, h1, h2⟩ := Plus.split hr
            rcases h2 with rfl | h2
            · exact .inr (.inl ⟨i, hi, h1⟩)
            · exact .inr (.inr ⟨m, ((hfx frm hl).2 m).2 ⟨i, hi, h1⟩, h2⟩)
      · rw [if_neg (by omega), hIm (fun i j => Plus (Lead d k marks) i j) (fun i j => by
          rw [hL]; unfold leadK; rw [if_neg h4, if_neg h5, if_neg (by omega), if_pos h7, hk]; simp)]
        rw [loopP_is hfx _ _ _ hno hn1 (by have := falses_le (noB frm.length); omega) (fun p q hp hr => by rw [nthB_no] at hp; cases hp), nthB_no, (hfx frm hl).2 j]
        constructor
        · rintro (h | ⟨i, hi, hr⟩ | ⟨i, hi, hr⟩)
          · cases h
          · exact ⟨i, hi, 0, hr⟩
          · obtain ⟨p, hp, hpi⟩ := ((hfx frm hl).2 i).1 hi
            exact ⟨p, hp, Plus.front hpi (.inr hr)⟩
        · rintro ⟨i, hi, hr⟩
          obtain ⟨m, h1, h2⟩ := Plus.split hr
          rcases h2 with rfl | h2
          · exact .inr (.inl ⟨i, hi, h1⟩)
          · exact .inr (.inr ⟨m, ((hfx frm hl).2 m).2 ⟨i, hi, h1⟩, h2⟩)
    rw [if_neg h67]
    by_cases h8 : Tr.kind t = 8
    · rw [if_pos h8]
      obtain ⟨k, hk⟩ := hone (by omega)
      rw [hk]
      simp only []
      have hfk := hk2 k (by rw [hk]; exact List.mem_cons_self)
      have hlk := hlen k frm hl
      have hu := uni_len (a := noB frm.length) (b := frm) (by omega)
      rw [hIm (fun i j => i = j ∨ Lead d k marks i j) (fun i j => by
        rw [hL]; unfold leadK; rw [if_neg h4, if_neg h5, if_neg (by omega), if_neg (by omega), if_pos h8, hk]; simp)]
      rw [nthB_uni' (by omega), nthB_uni' (by omega), nthB_no, ih k true marks frm hfk hl j]
      constructor
      · rintro ((h | h) | ⟨i, hi, hr⟩)
        · cases h
        · exact ⟨j, h, .inl rfl⟩
        · exact ⟨i, hi, .inr hr⟩
      · rintro ⟨i, hi, rfl | hr⟩
        · exact .inl (.inr hi)
        · exact .inr ⟨i, hi, hr⟩
    rw [if_neg h8]
    by_cases h9 : Tr.kind t = 9
    · rw [if_pos h9, hIm (fun i j => i = j) (fun i j => by
        rw [hL]; unfold leadK; rw [if_neg h4, if_neg h5, if_neg (by omega), if_neg (by omega), if_neg h8, if_pos h9])]
      exact ⟨fun h => ⟨j, h, rfl⟩, fun ⟨i, h, e⟩ => by cases e; exact h⟩
    rw [if_neg h9, hIm (fun i j => j = i + 1 ∧ ∃ m, marks[i]? = some m ∧ takesT (Tr.kind t) (Tr.cls t) m = true) (fun i j => by
      rw [hL]; unfold leadK; rw [if_neg h4, if_neg h5, if_neg (by omega), if_neg (by omega), if_neg h8, if_neg h9])]
    cases j with
    | zero =>
      refine ⟨fun h => ?_, fun ⟨i, _, h, _⟩ => by omega⟩
      simp [stepL, nthB] at h
    | succ k =>
      have hst : nthB (stepL (Tr.kind t) (Tr.cls t) marks frm) (k + 1) = true ↔ ∃ m, marks[k]? = some m ∧ nthB frm k = true ∧ takesT (Tr.kind t) (Tr.cls t) m = true := by
        unfold stepL nthB
        rw [List.getElem?_cons_succ, List.getElem?_zipWith]
        cases hm : marks[k]? with
        | none => simp
        | some m =>
          have hlt := (List.getElem?_eq_some_iff.1 hm).1
          rw [List.getElem?_eq_getElem (show k < frm.length by omega)]
          simp
      rw [hst]
      constructor
      · rintro ⟨m, h1, h2, h3⟩
        exact ⟨k, h2, rfl, m, h1, h3⟩
      · rintro ⟨i, hi, e, m, h1, h3⟩
        obtain rfl : k = i := by omega
        exact ⟨m, h1, hi, h3⟩
end Go.Proofs.Ytjcdcmeclnihbaa
