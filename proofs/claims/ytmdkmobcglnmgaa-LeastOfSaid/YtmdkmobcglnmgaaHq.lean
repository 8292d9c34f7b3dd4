/- States split into blocks of alike ones, plain: the beginning, a round, the end. Conditions: none. -/
import Derived.Test.YtmdkmobcglnmgaaHp
namespace Go.Proofs.Ytmdkmobcglnmgaa
open Go.RowKit

/-- What numbering leaves. -/
structure NumI {K : Type} [DecidableEq K] (ks : List K) (g : List (K × Int) × List Int) : Prop where
  once : Once g.1
  len : g.2.length = ks.length
  bd : ∀ k n, mget g.1 k = some n → 0 ≤ n ∧ n < g.1.length
  inj : ∀ k k' n, mget g.1 k = some n → mget g.1 k' = some n → k = k'
  at_ : ∀ i k, ks[i]? = some k → mget g.1 k = some (nth g.2 i)
  onto : ∀ n : Int, 0 ≤ n → n < g.1.length → ∃ i, i < ks.length ∧ nth g.2 i = n
theorem numI {K : Type} [DecidableEq K] : ∀ ks : List K, NumI ks (numGo ks) := by
  have key : ∀ (n : Nat) (ks : List K), ks.length = n → NumI ks (numGo ks) := by
    intro n
    induction n with
    | zero =>
      intro ks h
      obtain rfl : ks = [] := List.length_eq_zero_iff.1 h
      exact ⟨List.Pairwise.nil, rfl, (fun k n h => by cases h), (fun k k' n h => by cases h), (fun i k h => by simp at h), fun n h1 h2 => by simp [numGo] at h2; omega⟩
    | succ n ih =>
      intro ks h
      obtain ⟨ks', k, rfl⟩ : ∃ ks' k, ks = ks' ++ [k] := by
        rcases List.eq_nil_or_concat ks with rfl | ⟨a, b, rfl⟩
        · simp at h
        · exact ⟨a, b, by simp⟩
      have I := ih ks' (by simpa using h)
      rw [numGo_snoc]
      obtain ⟨g, hg⟩ : ∃ g, g = numGo ks' := ⟨_, rfl⟩
      rw [← hg] at I ⊢
      unfold numStep
      cases hm : mget g.1 k with
      | some v =>
        simp only
        refine ⟨I.once, by simp [I.len], I.bd, I.inj, fun i k' hi => ?_, fun n h1 h2 => ?_⟩
        · by_cases hl : i < ks'.length
          · rw [List.getElem?_append_left hl] at hi
            rw [nth_left (by rw [I.len]; exact hl)]
            exact I.at_ i k' hi
          · have he : i = ks'.length := by have := (List.getElem?_eq_some_iff.1 hi).1; simp at this; omega
            subst he
            rw [List.getElem?_append_right (Nat.le_refl _)] at hi
            simp at hi
            subst hi
            rw [← I.len, nth_last]
            exact hm
        · obtain ⟨i, h3, h4⟩ := I.onto n h1 h2
          exact ⟨i, by simp; omega, by rw [nth_left (by rw [I.len]; exact h3)]; exact h4⟩
      | none =>
        simp only
        have hnew := mset_new (g.1.length : Int) (mget_none_iff.1 hm)
        have hlen : (mset g.1 k (g.1.length : Int)).length = g.1.length + 1 := by rw [hnew]; simp
        refine ⟨once_mset I.once _ _, by simp [I.len], fun k' n hk => ?_, fun k1 k2 n h1 h2 => ?_, fun i k' hi => ?_, fun n h1 h2 => ?_⟩
        · rw [hlen]
          rw [mget_mset] at hk
          split at hk
          · cases hk; omega
          · have := I.bd k' n hk; omega
        · rw [mget_mset] at h1 h2
          split at h1 <;> split at h2
          · rename_i e1 e2; rw [← e1, ← e2]
          · cases h1; have := I.bd k2 _ h2; omega
          · cases h2; have := I.bd k1 _ h1; omega
          · exact I.inj k1 k2 n h1 h2
        · by_cases hl : i < ks'.length
          · rw [List.getElem?_append_left hl] at hi
            rw [nth_left (by rw [I.len]; exact hl), mget_mset]
            have h3 := I.at_ i k' hi
            split
            · rename_i e; subst e; rw [hm] at h3; cases h3
            · exact h3
          · have he : i = ks'.length := by have := (List.getElem?_eq_some_iff.1 hi).1; simp at this; omega
            subst he
            rw [List.getElem?_append_right (Nat.le_refl _)] at hi
            simp at hi
            subst hi
            rw [← I.len, nth_last, mget_mset, if_pos rfl]
        · rw [hlen] at h2
          by_cases e : n = g.1.length
          · exact ⟨ks'.length, by simp, by rw [← I.len, nth_last]; exact e.symm⟩
          · obtain ⟨i, h3, h4⟩ := I.onto n h1 (by omega)
            exact ⟨i, by simp; omega, by rw [nth_left (by rw [I.len]; exact h3)]; exact h4⟩
  intro ks
  exact key ks.length ks rfl
theorem nth_at {l : List Int} {i : Nat} (h : i < l.length) : l[i]? = some (nth l i) := by
  rw [List.getElem?_eq_getElem h, nth_some (List.getElem?_eq_getElem h)]
theorem numbered_iff {ts : List Int} {p q : Nat} (hp : p < ts.length) (hq : q < ts.length) : nth (numbered ts) p = nth (numbered ts) q ↔ nth ts p = nth ts q := by
  have I := numI ts
  have h1 := I.at_ p _ (nth_at hp)
  have h2 := I.at_ q _ (nth_at hq)
  constructor
  · intro e
    rw [show nth (numGo ts).2 p = nth (numGo ts).2 q from e] at h1
    exact I.inj _ _ _ h1 h2
  · intro e
    rw [e] at h1
    have := h1.symm.trans h2
    injection this
/-- The beginning. -/
theorem hi_start {rs : List (List Int)} {ts : List Int} {n : Nat} {st : List (Int × GV)} {td : TD} (hr : RT rs n) (ht : ts.length = n) (ho : Once st) (hs : StIs st (numbered ts)) (hd : TdUp td ((numGo ts).1.length : Int) 0) :
    HI rs ts n (numbered ts) st td ((numGo ts).1.length : Int) ∧ Stab rs n (numbered ts) td (fun _ => False) 0 := by
  have I := numI ts
  have hrng : ∀ p, p < n → 0 ≤ nth (numbered ts) p ∧ nth (numbered ts) p < ((numGo ts).1.length : Int) := fun p hp => I.bd _ _ (I.at_ p _ (nth_at (by omega)))
  refine ⟨⟨by rw [numbered, I.len]; exact ht, hrng, fun b h0 h1 => ?_, fun p hp => ?_, fun p hp => ?_, fun p q hp hq ha => ?_, fun p q hp hq e => ?_, by omega⟩, fun p q hp hq _ m hm _ => ?_⟩
  · rw [hs.1 b]
    refine ⟨fun z => ?_, pos_nodup _ _, fun he => ?_⟩
    · rw [mem_pos]
      constructor
      · rintro ⟨i, h2, h3, rfl⟩
        exact ⟨i, by rw [numbered, I.len] at h2; omega, rfl, h3⟩
      · rintro ⟨i, h2, rfl, h3⟩
        exact ⟨i, by rw [numbered, I.len]; omega, h3, rfl⟩
    · obtain ⟨i, h2, h3⟩ := I.onto b h0 h1
      have : (i : Int) ∈ pos (numbered ts) b := mem_pos.2 ⟨i, by rw [numbered, I.len]; exact h2, h3, rfl⟩
      rw [he] at this
      cases this
  · have h2 := hs.2 p hp
    have h3 : lst st p.1 = p.2.2 := by unfold lst; rw [mget_of_mem ho (k := p.1) (v := p.2) hp]; rfl
    rw [hs.1 p.1] at h3
    obtain ⟨z, hz⟩ := List.exists_mem_of_ne_nil _ (h3 ▸ h2 : pos (numbered ts) p.1 ≠ [])
    obtain ⟨i, h4, h5, _⟩ := mem_pos.1 hz
    rw [numbered, I.len] at h4
    rw [← h5]
    exact hrng i (by omega)
  · have := (hd p).1 hp
    omega
  · exact (numbered_iff (by omega) (by omega)).2 ha.tell
  · exact (numbered_iff (by omega) (by omega)).1 e
  · have := hrng _ (hr.at hp hm).1
    exact .inl ((hd _).2 ⟨show (0 : Int) ≤ (m : Int) by omega, show (m : Int) < 37 by omega, this.1, .inl this.2⟩)
end Go.Proofs.Ytmdkmobcglnmgaa
