/- States split into blocks of alike ones: plain. No program here. Conditions: none. -/
import Derived.Test.YtmdkmobcglnmgaaSw
namespace Go.Proofs.Ytmdkmobcglnmgaa
open Go.RowKit

theorem nodup_len {α : Type} [DecidableEq α] : ∀ {l k : List α}, l.Nodup → (∀ x ∈ l, x ∈ k) → l.length ≤ k.length
  | [], _, _, _ => Nat.zero_le _
  | a :: l, k, hn, hs => by
    obtain ⟨h1, h2⟩ := List.nodup_cons.1 hn
    have ha : a ∈ k := hs a List.mem_cons_self
    have := nodup_len (k := k.erase a) h2 fun x hx => (List.mem_erase_of_ne (fun e : x = a => h1 (by rw [← e]; exact hx))).2 (hs x (List.mem_cons_of_mem _ hx))
    rw [List.length_erase_of_mem ha] at this
    have hp : 0 < k.length := List.length_pos_of_mem ha
    simp only [List.length_cons]
    omega
def stp (rs : List (List Int)) (p m : Nat) : Nat := (nth (row rs p) m).toNat
def goW (rs : List (List Int)) (p : Nat) : List Nat → Nat
  | [] => p
  | m :: w => goW rs (stp rs p m) w
/-- The same is told behind any marks. -/
def Alk (rs : List (List Int)) (ts : List Int) (p q : Nat) : Prop := ∀ w : List Nat, (∀ m ∈ w, m < 37) → nth ts (goW rs p w) = nth ts (goW rs q w)
theorem Alk.refl (rs : List (List Int)) (ts : List Int) (p : Nat) : Alk rs ts p p := fun _ _ => rfl
theorem Alk.symm {rs : List (List Int)} {ts : List Int} {p q : Nat} (h : Alk rs ts p q) : Alk rs ts q p := fun w hw => (h w hw).symm
theorem Alk.trans {rs : List (List Int)} {ts : List Int} {p q r : Nat} (h : Alk rs ts p q) (k : Alk rs ts q r) : Alk rs ts p r := fun w hw => (h w hw).trans (k w hw)
theorem Alk.tell {rs : List (List Int)} {ts : List Int} {p q : Nat} (h : Alk rs ts p q) : nth ts p = nth ts q := h [] (fun _ h => by cases h)
theorem Alk.step {rs : List (List Int)} {ts : List Int} {p q : Nat} (h : Alk rs ts p q) {m : Nat} (hm : m < 37) : Alk rs ts (stp rs p m) (stp rs q m) := fun w hw =>
  h (m :: w) fun k hk => by
    rcases List.mem_cons.1 hk with rfl | hk
    · exact hm
    · exact hw k hk
/-- A table whose rows lead to its states. -/
def RT (rs : List (List Int)) (n : Nat) : Prop := rs.length = n ∧ ∀ p, p < n → (row rs p).length = 37 ∧ ∀ m, m < 37 → 0 ≤ nth (row rs p) m ∧ nth (row rs p) m < n
theorem RT.at {rs : List (List Int)} {n p m : Nat} (h : RT rs n) (hp : p < n) (hm : m < 37) : stp rs p m < n ∧ nth (row rs p) m = (stp rs p m : Nat) := by
  obtain ⟨h1, h2⟩ := (h.2 p hp).2 m hm
  have : nth (row rs p) m = (stp rs p m : Nat) := by unfold stp; omega
  exact ⟨by omega, this⟩
/-- Blocks that tell, and lead, alike: alike states. -/
theorem stable_alk {rs : List (List Int)} {ts blk : List Int} {n : Nat} (hr : RT rs n) (ht : ∀ p q, p < n → q < n → nth blk p = nth blk q → nth ts p = nth ts q)
    (hs : ∀ p q, p < n → q < n → nth blk p = nth blk q → ∀ m, m < 37 → nth blk (stp rs p m) = nth blk (stp rs q m)) : ∀ (w : List Nat) (p q : Nat), p < n → q < n → nth blk p = nth blk q → (∀ m ∈ w, m < 37) → nth ts (goW rs p w) = nth ts (goW rs q w) := by
  intro w
  induction w with
  | nil => intro p q hp hq h _; exact ht p q hp hq h
  | cons m w ih =>
    intro p q hp hq h hw
    have hm := hw m List.mem_cons_self
    exact ih _ _ (hr.at hp hm).1 (hr.at hq hm).1 (hs p q hp hq h m hm) fun k hk => hw k (List.mem_cons_of_mem _ hk)

abbrev TD := List ((Int × Int) × Unit)
structure HI (rs : List (List Int)) (ts : List Int) (n : Nat) (blk : List Int) (st : List (Int × GV)) (td : TD) (many : Int) : Prop where
  len : blk.length = n
  rng : ∀ p, p < n → 0 ≤ nth blk p ∧ nth blk p < many
  stI : ∀ b, 0 ≤ b → b < many → (∀ z, z ∈ lst st b ↔ ∃ p : Nat, p < n ∧ z = p ∧ nth blk p = b) ∧ (lst st b).Nodup ∧ lst st b ≠ []
  stK : ∀ p ∈ st, 0 ≤ p.1 ∧ p.1 < many
  tdK : ∀ p, mget td p = some () → 0 ≤ p.1 ∧ p.1 < many ∧ 0 ≤ p.2 ∧ p.2 < 37
  coarse : ∀ p q, p < n → q < n → Alk rs ts p q → nth blk p = nth blk q
  tells : ∀ p q, p < n → q < n → nth blk p = nth blk q → nth ts p = nth ts q
  pos : 0 ≤ many
def Stab (rs : List (List Int)) (n : Nat) (blk : List Int) (td : TD) (T : Nat → Prop) (m0 : Int) : Prop :=
  ∀ p q, p < n → q < n → nth blk p = nth blk q → ∀ m : Nat, m < 37 → nth blk (stp rs p m) ≠ nth blk (stp rs q m) →
    mget td (nth blk (stp rs p m), (m : Int)) = some () ∨ mget td (nth blk (stp rs q m), (m : Int)) = some () ∨ ((m : Int) = m0 ∧ ¬(T (stp rs p m) ↔ T (stp rs q m)))
theorem mget_mdel_ne {K V : Type} [DecidableEq K] {m : List (K × V)} (ho : Once m) {k k' : K} (h : k ≠ k') : mget (mdel m k) k' = mget m k' := by rw [mget_mdel ho, if_neg h]
/-- One is taken. -/
theorem Stab.take {rs : List (List Int)} {n : Nat} {blk : List Int} {td : TD} {b0 m0 : Int} (ho : Once td) (h : Stab rs n blk td (fun _ => False) 0) : Stab rs n blk (mdel td (b0, m0)) (fun s => nth blk s = b0) m0 := by
  intro p q hp hq hb m hm hne
  rcases h p q hp hq hb m hm hne with h1 | h1 | ⟨_, h1⟩
  · by_cases e : (b0, m0) = (nth blk (stp rs p m), (m : Int))
    · injection e with e1 e2
      refine .inr (.inr ⟨e2.symm, fun h2 => ?_⟩)
      have := h2.1 e1.symm
      exact hne (e1.symm.trans this.symm)
    · exact .inl (by rw [mget_mdel_ne ho e]; exact h1)
  · by_cases e : (b0, m0) = (nth blk (stp rs q m), (m : Int))
    · injection e with e1 e2
      refine .inr (.inr ⟨e2.symm, fun h2 => ?_⟩)
      have := h2.2 e1.symm
      exact hne (this.trans e1)
    · exact .inr (.inl (by rw [mget_mdel_ne ho e]; exact h1))
  · exact absurd Iff.rfl h1
theorem mget_mdel_some {K : Type} [DecidableEq K] {m : List (K × Unit)} (ho : Once m) {k k' : K} (h : mget (mdel m k) k' = some ()) : mget m k' = some () := by
  rw [mget_mdel ho] at h
  split at h
  · cases h
  · exact h
theorem HI.take {rs : List (List Int)} {ts : List Int} {n : Nat} {blk : List Int} {st : List (Int × GV)} {td : TD} {many : Int} (h : HI rs ts n blk st td many) (ho : Once td) (k : Int × Int) : HI rs ts n blk st (mdel td k) many :=
  { h with tdK := fun p hp => h.tdK p (mget_mdel_some ho hp) }

section split
variable {rs : List (List Int)} {ts : List Int} {n : Nat} {blk : List Int} {st : List (Int × GV)} {td td' : TD} {many c : Int} {ol : List Int}
/-- What is taken out of block c. -/
structure OutOf (rs : List (List Int)) (ts : List Int) (n : Nat) (blk : List Int) (c : Int) (ol : List Int) : Prop where
  sub : ∀ z ∈ ol, ∃ s : Nat, z = s ∧ s < n ∧ nth blk s = c
  nd : ol.Nodup
  alk : ∀ p q, p < n → q < n → Alk rs ts p q → ((p : Int) ∈ ol ↔ (q : Int) ∈ ol)
theorem cut_at (hl : blk.length = n) (ho : OutOf rs ts n blk c ol) {t : Nat} (ht : t < n) : nth (cut blk many ol) t = if (t : Int) ∈ ol then many else nth blk t :=
  cut_nth (by omega) fun z hz => by obtain ⟨s, h1, h2, _⟩ := ho.sub z hz; exact ⟨s, h1, by omega⟩
theorem OutOf.mem_c (ho : OutOf rs ts n blk c ol) {t : Nat} (h : (t : Int) ∈ ol) : nth blk t = c := by
  obtain ⟨s, h1, _, h3⟩ := ho.sub _ h
  rw [show t = s by omega]
  exact h3
/-- Who is in one block behind the split was in one before. -/
theorem same_before (h : HI rs ts n blk st td many) (ho : OutOf rs ts n blk c ol) {p q : Nat} (hp : p < n) (hq : q < n) (e : nth (cut blk many ol) p = nth (cut blk many ol) q) : nth blk p = nth blk q ∧ ((p : Int) ∈ ol ↔ (q : Int) ∈ ol) := by
  rw [cut_at h.len ho hp, cut_at h.len ho hq] at e
  have b1 := (h.rng p hp).2
  have b2 := (h.rng q hq).2
  split at e <;> split at e
  · rename_i a b
    exact ⟨by rw [ho.mem_c a, ho.mem_c b], by simp [a, b]⟩
  · omega
  · omega
  · rename_i a b
    exact ⟨e, by simp [a, b]⟩
theorem Stab.split {T : Nat → Prop} {m0 : Int} (h : HI rs ts n blk st td many) (hr : RT rs n) (ho : OutOf rs ts n blk c ol) (ht : TdPart td td' c many 37) (hs : Stab rs n blk td T m0) : Stab rs n (cut blk many ol) td' T m0 := by
  obtain ⟨t1, t2, _⟩ := ht
  intro p q hp hq hb m hm hne
  have sp := (hr.at hp hm).1
  have sq := (hr.at hq hm).1
  obtain ⟨hb0, _⟩ := same_before h ho hp hq hb
  obtain ⟨t2a, t2b⟩ := t2 m (by omega) (by omega)
  have up : ∀ s, s < n → mget td (nth blk s, (m : Int)) = some () → mget td' (nth (cut blk many ol) s, (m : Int)) = some () := fun s hs' hx => by
    rw [cut_at h.len ho hs']
    split
    · rename_i a
      rw [ho.mem_c a] at hx
      exact t2a hx
    · exact t1 _ hx
  by_cases e : nth blk (stp rs p m) = nth blk (stp rs q m)
  · rw [cut_at h.len ho sp, cut_at h.len ho sq] at hne ⊢
    split at hne <;> split at hne
    · exact absurd rfl hne
    · rename_i a b
      rw [if_pos a, if_neg b]
      rw [← e, ho.mem_c a]
      rcases t2b with h' | h'
      · exact .inr (.inl h')
      · exact .inl h'
    · rename_i a b
      rw [if_neg a, if_pos b]
      rw [e, ho.mem_c b]
      rcases t2b with h' | h'
      · exact .inl h'
      · exact .inr (.inl h')
    · exact absurd e hne
  · rcases hs p q hp hq hb0 m hm e with h1 | h1 | h1
    · exact .inl (up _ sp h1)
    · exact .inr (.inl (up _ sq h1))
    · exact .inr (.inr h1)
theorem HI.split (h : HI rs ts n blk st td many) (ho : OutOf rs ts n blk c ol) (hc : 0 ≤ c ∧ c < many) (hne : ol ≠ []) (hlt : ol.length < (lst st c).length) (ht : TdPart td td' c many 37) (v1 v2 : Value) :
    HI rs ts n (cut blk many ol) (mset (mset st many (v1, ol)) c (v2, (lst st c).filter fun z => !inB (cut blk many ol) many z)) td' (many + 1) := by
  have hp0 := h.pos
  have hkept : ∀ z, z ∈ ((lst st c).filter fun z => !inB (cut blk many ol) many z) ↔ z ∈ lst st c ∧ z ∉ ol := by
    intro z
    rw [List.mem_filter]
    refine and_congr_right fun hz => ?_
    obtain ⟨p, hp, rfl, hpb⟩ := ((h.stI c hc.1 hc.2).1 z).1 hz
    unfold inB
    rw [Int.toNat_natCast, cut_at h.len ho hp]
    split
    · rename_i a; simp [a]
    · rename_i a
      have : nth blk p ≠ many := by omega
      simp [a, this]
  refine ⟨by rw [cut_len]; exact h.len, fun p hp => ?_, fun b hb0 hb1 => ?_, fun p hp => ?_, fun p hp => ?_, fun p q hp hq ha => ?_, fun p q hp hq e => ?_, by omega⟩
  · rw [cut_at h.len ho hp]
    have := h.rng p hp
    split <;> omega
  · rw [lst_mset, lst_mset]
    by_cases e : c = b
    · subst e
      rw [if_pos rfl]
      obtain ⟨a1, a2, a3⟩ := h.stI c hc.1 hc.2
      refine ⟨fun z => ?_, a2.filter _, fun he => ?_⟩
      · rw [hkept z, a1 z]
        constructor
        · rintro ⟨⟨p, hp, rfl, hpb⟩, hz⟩
          exact ⟨p, hp, rfl, by rw [cut_at h.len ho hp, if_neg hz]; exact hpb⟩
        · rintro ⟨p, hp, rfl, hpb⟩
          rw [cut_at h.len ho hp] at hpb
          split at hpb
          · omega
          · rename_i hz; exact ⟨⟨p, hp, rfl, hpb⟩, hz⟩
      · have : (lst st c).length ≤ ol.length := nodup_len a2 fun z hz => by
          apply Classical.byContradiction
          intro hz2
          have h3 := (hkept z).2 ⟨hz, hz2⟩
          rw [show (lst st c).filter (fun z => !inB (cut blk many ol) many z) = [] from he] at h3
          cases h3
        omega
    · rw [if_neg e]
      by_cases e2 : many = b
      · subst e2
        rw [if_pos rfl]
        refine ⟨fun z => ?_, ho.nd, hne⟩
        constructor
        · intro hz
          obtain ⟨s, hs, hsn, _⟩ := ho.sub z hz
          refine ⟨s, hsn, hs, ?_⟩
          rw [cut_at h.len ho hsn, if_pos (by rw [← hs]; exact hz)]
        · rintro ⟨p, hp, rfl, hpb⟩
          rw [cut_at h.len ho hp] at hpb
          split at hpb
          · rename_i hz; exact hz
          · have := (h.rng p hp).2; omega
      · rw [if_neg e2]
        obtain ⟨a1, a2, a3⟩ := h.stI b hb0 (by omega)
        refine ⟨fun z => ?_, a2, a3⟩
        rw [a1 z]
        constructor
        · rintro ⟨p, hp, rfl, hpb⟩
          refine ⟨p, hp, rfl, ?_⟩
          rw [cut_at h.len ho hp, if_neg (fun hz => e (by rw [← ho.mem_c hz]; exact hpb))]
          exact hpb
        · rintro ⟨p, hp, rfl, hpb⟩
          rw [cut_at h.len ho hp] at hpb
          split at hpb
          · omega
          · exact ⟨p, hp, rfl, hpb⟩
  · rcases mem_mset hp with rfl | hp
    · exact ⟨hc.1, by simp only; omega⟩
    · rcases mem_mset hp with rfl | hp
      · exact ⟨by simp only; omega, by simp only; omega⟩
      · have := h.stK p hp; omega
  · rcases ht.2.2 p hp with h1 | ⟨h1, h2, h3⟩
    · have := h.tdK p h1; omega
    · rcases h1 with h1 | h1 <;> omega
  · rw [cut_at h.len ho hp, cut_at h.len ho hq, h.coarse p q hp hq ha]
    by_cases hm : (p : Int) ∈ ol
    · rw [if_pos hm, if_pos ((ho.alk p q hp hq ha).1 hm)]
    · rw [if_neg hm, if_neg (fun h' => hm ((ho.alk p q hp hq ha).2 h'))]
  · exact h.tells p q hp hq (same_before h ho hp hq e).1
end split
end Go.Proofs.Ytmdkmobcglnmgaa
namespace Go.Proofs.Ytmdkmobcglnmgaa
open Go.RowKit

/-- What numbering leaves. -/
structure NumI {K : Type} [DecidableEq K] (ks : List K) (g : List (K × Int) × List Int) : Prop where
  once : Once g.1
  len : g.2.length = ks.length
  bd : ∀ k n, mget g.1 k = some n → 0 ≤ n ∧ n < g.1.length
  inj : ∀ k k' n, mget g.1 k = some n → mget g.1 k' = some n → k = k'
  at_ : ∀ i k, ks[i]? = some k → mget g.1 k = some (nth g.2 i)
  onto : ∀ n : Int, 0 ≤ n → n < g.1.length → ∃ i, i < ks.length ∧ nth g.2 i = n
theorem numI {K : Type} [DecidableEq K] : ∀ ks : List K, NumI ks (numGo ks) := by
  have key : ∀ (n : Nat) (ks : List K), ks.length = n → NumI ks (numGo ks) := by
    intro n
    induction n with
    | zero =>
      intro ks h
      obtain rfl : ks = [] := List.length_eq_zero_iff.1 h
      exact ⟨List.Pairwise.nil, rfl, (fun k n h => by cases h), (fun k k' n h => by cases h), (fun i k h => by simp at h), fun n h1 h2 => by simp [numGo] at h2; omega⟩
    | succ n ih =>
      intro ks h
      obtain ⟨ks', k, rfl⟩ : ∃ ks' k, ks = ks' ++ [k] := by
        rcases List.eq_nil_or_concat ks with rfl | ⟨a, b, rfl⟩
        · simp at h
        · exact ⟨a, b, by simp⟩
      have I := ih ks' (by simpa using h)
      rw [numGo_snoc]
      obtain ⟨g, hg⟩ : ∃ g, g = numGo ks' := ⟨_, rfl⟩
      rw [← hg] at I ⊢
      unfold numStep
      cases hm : mget g.1 k with
      | some v =>
        simp only
        refine ⟨I.once, by simp [I.len], I.bd, I.inj, fun i k' hi => ?_, fun n h1 h2 => ?_⟩
        · by_cases hl : i < ks'.length
          · rw [List.getElem?_append_left hl] at hi
            rw [nth_left (by rw [I.len]; exact hl)]
            exact I.at_ i k' hi
          · have he : i = ks'.length := by have := (List.getElem?_eq_some_iff.1 hi).1; simp at this; omega
            subst he
            rw [List.getElem?_append_right (Nat.le_refl _)] at hi
            simp at hi
            subst hi
            rw [← I.len, nth_last]
            exact hm
        · obtain ⟨i, h3, h4⟩ := I.onto n h1 h2
          exact ⟨i, by simp; omega, by rw [nth_left (by rw [I.len]; exact h3)]; exact h4⟩
      | none =>
        simp only
        have hnew := mset_new (g.1.length : Int) (mget_none_iff.1 hm)
        have hlen : (mset g.1 k (g.1.length : Int)).length = g.1.length + 1 := by rw [hnew]; simp
        refine ⟨once_mset I.once _ _, by simp [I.len], fun k' n hk => ?_, fun k1 k2 n h1 h2 => ?_, fun i k' hi => ?_, fun n h1 h2 => ?_⟩
        · rw [hlen]
          rw [mget_mset] at hk
          split at hk
          · cases hk; omega
          · have := I.bd k' n hk; omega
        · rw [mget_mset] at h1 h2
          split at h1 <;> split at h2
          · rename_i e1 e2; rw [← e1, ← e2]
          · cases h1; have := I.bd k2 _ h2; omega
          · cases h2; have := I.bd k1 _ h1; omega
          · exact I.inj k1 k2 n h1 h2
        · by_cases hl : i < ks'.length
          · rw [List.getElem?_append_left hl] at hi
            rw [nth_left (by rw [I.len]; exact hl), mget_mset]
            have h3 := I.at_ i k' hi
            split
            · rename_i e; subst e; rw [hm] at h3; cases h3
            · exact h3
          · have he : i = ks'.length := by have := (List.getElem?_eq_some_iff.1 hi).1; simp at this; omega
            subst he
            rw [List.getElem?_append_right (Nat.le_refl _)] at hi
            simp at hi
            subst hi
            rw [← I.len, nth_last, mget_mset, if_pos rfl]
        · rw [hlen] at h2
          by_cases e : n = g.1.length
          · exact ⟨ks'.length, by simp, by rw [← I.len, nth_last]; exact e.symm⟩
          · obtain ⟨i, h3, h4⟩ := I.onto n h1 (by omega)
            exact ⟨i, by simp; omega, by rw [nth_left (by rw [I.len]; exact h3)]; exact h4⟩
  intro ks
  exact key ks.length ks rfl
theorem nth_at {l : List Int} {i : Nat} (h : i < l.length) : l[i]? = some (nth l i) := by
  rw [List.getElem?_eq_getElem h, nth_some (List.getElem?_eq_getElem h)]
theorem numbered_iff {ts : List Int} {p q : Nat} (hp : p < ts.length) (hq : q < ts.length) : nth (numbered ts) p = nth (numbered ts) q ↔ nth ts p = nth ts q := by
  have I := numI ts
  have h1 := I.at_ p _ (nth_at hp)
  have h2 := I.at_ q _ (nth_at hq)
  constructor
  · intro e
    rw [show nth (numGo ts).2 p = nth (numGo ts).2 q from e] at h1
    exact I.inj _ _ _ h1 h2
  · intro e
    rw [e] at h1
    have := h1.symm.trans h2
    injection this
/-- The beginning. -/
theorem hi_start {rs : List (List Int)} {ts : List Int} {n : Nat} {st : List (Int × GV)} {td : TD} (hr : RT rs n) (ht : ts.length = n) (ho : Once st) (hs : StIs st (numbered ts)) (hd : TdUp td ((numGo ts).1.length : Int) 0) :
    HI rs ts n (numbered ts) st td ((numGo ts).1.length : Int) ∧ Stab rs n (numbered ts) td (fun _ => False) 0 := by
  have I := numI ts
  have hrng : ∀ p, p < n → 0 ≤ nth (numbered ts) p ∧ nth (numbered ts) p < ((numGo ts).1.length : Int) := fun p hp => I.bd _ _ (I.at_ p _ (nth_at (by omega)))
  refine ⟨⟨by rw [numbered, I.len]; exact ht, hrng, fun b h0 h1 => ?_, fun p hp => ?_, fun p hp => ?_, fun p q hp hq ha => ?_, fun p q hp hq e => ?_, by omega⟩, fun p q hp hq _ m hm _ => ?_⟩
  · rw [hs.1 b]
    refine ⟨fun z => ?_, pos_nodup _ _, fun he => ?_⟩
    · rw [mem_pos]
      constructor
      · rintro ⟨i, h2, h3, rfl⟩
        exact ⟨i, by rw [numbered, I.len] at h2; omega, rfl, h3⟩
      · rintro ⟨i, h2, rfl, h3⟩
        exact ⟨i, by rw [numbered, I.len]; omega, h3, rfl⟩
    · obtain ⟨i, h2, h3⟩ := I.onto b h0 h1
      have : (i : Int) ∈ pos (numbered ts) b := mem_pos.2 ⟨i, by rw [numbered, I.len]; exact h2, h3, rfl⟩
      rw [he] at this
      cases this
  · have h2 := hs.2 p hp
    have h3 : lst st p.1 = p.2.2 := by unfold lst; rw [mget_of_mem ho (k := p.1) (v := p.2) hp]; rfl
    rw [hs.1 p.1] at h3
    obtain ⟨z, hz⟩ := List.exists_mem_of_ne_nil _ (h3 ▸ h2 : pos (numbered ts) p.1 ≠ [])
    obtain ⟨i, h4, h5, _⟩ := mem_pos.1 hz
    rw [numbered, I.len] at h4
    rw [← h5]
    exact hrng i (by omega)
  · have := (hd p).1 hp
    omega
  · exact (numbered_iff (by omega) (by omega)).2 ha.tell
  · exact (numbered_iff (by omega) (by omega)).1 e
  · have := hrng _ (hr.at hp hm).1
    exact .inl ((hd _).2 ⟨show (0 : Int) ≤ (m : Int) by omega, show (m : Int) < 37 by omega, this.1, .inl this.2⟩)
end Go.Proofs.Ytmdkmobcglnmgaa
namespace Go.Proofs.Ytmdkmobcglnmgaa
open Go.RowKit

/-- Who leads into the block that is taken. -/
abbrev LeadsTo (rs : List (List Int)) (blk0 : List Int) (b0 : Int) (m0 : Nat) (p : Nat) : Prop := nth blk0 (stp rs p m0) = b0
/-- The comers, by their blocks. -/
def ComeIs (rs : List (List Int)) (n : Nat) (blk0 : List Int) (b0 : Int) (m0 : Nat) (ml : List (Int × GV)) : Prop :=
  Once ml ∧ (∀ c, (∀ z, z ∈ lst ml c ↔ ∃ p : Nat, p < n ∧ z = p ∧ nth blk0 p = c ∧ LeadsTo rs blk0 b0 m0 p) ∧ (lst ml c).Nodup) ∧ ∀ p ∈ ml, p.2.2 ≠ []
theorem mem_comers {rs : List (List Int)} {m n : Nat} (hr : RT rs n) (hm : m < 37) {L : List Int} {z : Int} : z ∈ comers rs m L ↔ ∃ p : Nat, p < n ∧ z = p ∧ ((stp rs p m : Nat) : Int) ∈ L := by
  unfold comers
  rw [List.mem_flatMap]
  constructor
  · rintro ⟨t, ht, hz⟩
    obtain ⟨i, h1, h2, rfl⟩ := mem_pos.1 hz
    rw [col_len, hr.1] at h1
    rw [nth_col (by rw [hr.1]; exact h1), (hr.at h1 hm).2] at h2
    exact ⟨i, h1, rfl, by rw [h2]; exact ht⟩
  · rintro ⟨p, hp, rfl, h⟩
    refine ⟨_, h, mem_pos.2 ⟨p, by rw [col_len, hr.1]; exact hp, ?_, rfl⟩⟩
    rw [nth_col (by rw [hr.1]; exact hp), (hr.at hp hm).2]
theorem comers_nodup (rs : List (List Int)) (m : Nat) : ∀ {L : List Int}, L.Nodup → (comers rs m L).Nodup := by
  intro L
  induction L with
  | nil => intro _; exact List.Pairwise.nil
  | cons t L ih =>
    intro h
    obtain ⟨h1, h2⟩ := List.nodup_cons.1 h
    have e : comers rs m (t :: L) = pos (col rs m) t ++ comers rs m L := by simp [comers]
    rw [e, List.nodup_append]
    refine ⟨pos_nodup _ _, ih h2, fun a ha b hb e => ?_⟩
    subst e
    obtain ⟨i, _, i2, rfl⟩ := mem_pos.1 ha
    unfold comers at hb
    obtain ⟨t', ht', hz⟩ := List.mem_flatMap.1 hb
    obtain ⟨j, _, j2, j3⟩ := mem_pos.1 hz
    have : i = j := by omega
    subst this
    rw [i2] at j2
    exact h1 (by rw [j2]; exact ht')
theorem come_is {rs : List (List Int)} {ts blk : List Int} {st : List (Int × GV)} {td : TD} {many : Int} {n : Nat} {ml : List (Int × GV)} {b0 : Int} {m0 : Nat} (hr : RT rs n) (hm : m0 < 37) (h : HI rs ts n blk st td many) (hb : 0 ≤ b0 ∧ b0 < many) (ho : Once ml) (hl : LdIs ml blk (comers rs m0 (lst st b0))) :
    ComeIs rs n blk b0 m0 ml := by
  obtain ⟨a1, a2, _⟩ := h.stI b0 hb.1 hb.2
  refine ⟨ho, fun c => ⟨fun z => ?_, ?_⟩, hl.2⟩
  · rw [hl.1 c, List.mem_filter, mem_comers hr hm]
    constructor
    · rintro ⟨⟨p, hp, rfl, hs⟩, hc⟩
      obtain ⟨s, _, h2, h3⟩ := (a1 _).1 hs
      refine ⟨p, hp, rfl, by simpa using hc, ?_⟩
      show nth blk (stp rs p m0) = b0
      rw [show stp rs p m0 = s by omega]
      exact h3
    · rintro ⟨p, hp, rfl, hc, hs⟩
      exact ⟨⟨p, hp, rfl, (a1 _).2 ⟨stp rs p m0, (hr.at hp hm).1, rfl, hs⟩⟩, by simpa using hc⟩
  · rw [hl.1 c]
    exact (comers_nodup rs m0 a2).filter _

/-- A round goes on: the comers of some blocks are still to be looked at. -/
structure HR (rs : List (List Int)) (ts : List Int) (n : Nat) (blk0 : List Int) (b0 : Int) (m0 : Nat) (left : Int → Bool) (blk : List Int) (st : List (Int × GV)) (td : TD) (many : Int) : Prop where
  hi : HI rs ts n blk st td many
  stab : Stab rs n blk td (fun s => nth blk0 s = b0) m0
  ref : ∀ p q, p < n → q < n → nth blk p = nth blk q → nth blk0 p = nth blk0 q
  fix : ∀ p, p < n → left (nth blk0 p) = true → nth blk p = nth blk0 p
  done : ∀ p q, p < n → q < n → nth blk p = nth blk q → left (nth blk0 p) = false → (LeadsTo rs blk0 b0 m0 p ↔ LeadsTo rs blk0 b0 m0 q)
section
variable {rs : List (List Int)} {ts blk0 blk : List Int} {st : List (Int × GV)} {td td' : TD} {many b0 : Int} {n m0 : Nat} {left : Int → Bool} {ml : List (Int × GV)}
theorem HR.start (h : HI rs ts n blk st td many) (ho : Once td) (hs : Stab rs n blk td (fun _ => False) 0) : HR rs ts n blk b0 m0 (fun _ => true) blk st (mdel td (b0, (m0 : Int))) many :=
  ⟨h.take ho _, hs.take ho, fun _ _ _ _ e => e, fun _ _ _ => rfl, fun _ _ _ _ _ e => by cases e⟩
/-- What the block holds that is looked at. -/
theorem HR.block (h : HR rs ts n blk0 b0 m0 left blk st td many) (hc : ComeIs rs n blk0 b0 m0 ml) {c : Int} {y : GV} (hm : (c, y) ∈ ml) (hl : left c = true) :
    0 ≤ c ∧ c < many ∧ lst ml c = y.2 ∧ (∀ p, p < n → (nth blk p = c ↔ nth blk0 p = c)) := by
  obtain ⟨ho, hin, hne⟩ := hc
  have e : lst ml c = y.2 := by unfold lst; rw [mget_of_mem ho hm]; rfl
  obtain ⟨z, hz⟩ := List.exists_mem_of_ne_nil _ (hne _ hm)
  have hz' : z ∈ lst ml c := by rw [e]; exact hz
  obtain ⟨p0, h1, _, h3, _⟩ := ((hin c).1 z).1 hz'
  have h4 := h.fix p0 h1 (by rw [h3]; exact hl)
  rw [h3] at h4
  have h5 := h.hi.rng p0 h1
  rw [h4] at h5
  refine ⟨h5.1, h5.2, e, fun p hp => ⟨fun h6 => ?_, fun h6 => ?_⟩⟩
  · exact (h.ref p p0 hp h1 (by rw [h6, h4])).trans h3
  · rw [h.fix p hp (by rw [h6]; exact hl)]; exact h6
theorem HR.out (h : HR rs ts n blk0 b0 m0 left blk st td many) (hr : RT rs n) (hm0 : m0 < 37) (h0 : ∀ p q, p < n → q < n → Alk rs ts p q → nth blk0 p = nth blk0 q) (hc : ComeIs rs n blk0 b0 m0 ml) {c : Int} {y : GV} (hm : (c, y) ∈ ml) (hl : left c = true) : OutOf rs ts n blk c y.2 := by
  obtain ⟨_, _, e, hb⟩ := h.block hc hm hl
  obtain ⟨ho, hin, hne⟩ := hc
  have hin' := (hin c).1
  rw [e] at hin'
  refine ⟨fun z hz => ?_, by rw [← e]; exact (hin c).2, fun p q hp hq ha => ?_⟩
  · obtain ⟨p, h1, h2, h3, _⟩ := (hin' z).1 hz
    exact ⟨p, h2, h1, (hb p h1).2 h3⟩
  · have k : ∀ p q, p < n → q < n → Alk rs ts p q → (p : Int) ∈ y.2 → (q : Int) ∈ y.2 := fun p q hp hq ha hx => by
      obtain ⟨p', h1, h2, h3, h4⟩ := (hin' _).1 hx
      have : p = p' := by omega
      subst this
      exact (hin' _).2 ⟨q, hq, rfl, (h0 p q hp hq ha).symm.trans h3, by
        have := h0 _ _ (hr.at hp hm0).1 (hr.at hq hm0).1 (ha.step hm0)
        show nth blk0 (stp rs q m0) = b0
        rw [← this]; exact h4⟩
    exact ⟨k p q hp hq ha, k q p hq hp ha.symm⟩
/-- A block is split. -/
theorem HR.split (h : HR rs ts n blk0 b0 m0 left blk st td many) (hr : RT rs n) (hm0 : m0 < 37) (h0 : ∀ p q, p < n → q < n → Alk rs ts p q → nth blk0 p = nth blk0 q) (hc : ComeIs rs n blk0 b0 m0 ml) {c : Int} {y : GV} (hm : (c, y) ∈ ml) (hl : left c = true)
    (hlt : y.2.length < (lst st c).length) (ht : TdPart td td' c many 37) (v1 v2 : Value) :
    HR rs ts n blk0 b0 m0 (fun z => left z && !decide (z = c)) (cut blk many y.2) (mset (mset st many (v1, y.2)) c (v2, (lst st c).filter fun z => !inB (cut blk many y.2) many z)) td' (many + 1) := by
  obtain ⟨c1, c2, e, hb⟩ := h.block hc hm hl
  have hout := h.out hr hm0 h0 hc hm hl
  have hin' := ((hc.2.1) c).1
  rw [e] at hin'
  refine ⟨h.hi.split hout ⟨c1, c2⟩ (hc.2.2 _ hm) hlt ht v1 v2, h.stab.split h.hi hr hout ht, fun p q hp hq e2 => h.ref p q hp hq (same_before h.hi hout hp hq e2).1, fun p hp hl2 => ?_, fun p q hp hq e2 hl2 => ?_⟩
  · simp only [Bool.and_eq_true, Bool.not_eq_true', decide_eq_false_iff_not] at hl2
    have h3 := h.fix p hp hl2.1
    rw [cut_at h.hi.len hout hp, if_neg (fun hx => hl2.2 (by rw [← h3]; exact hout.mem_c hx))]
    exact h3
  · obtain ⟨e3, e4⟩ := same_before h.hi hout hp hq e2
    by_cases hlp : left (nth blk0 p) = true
    · rw [hlp, Bool.true_and, Bool.not_eq_false', decide_eq_true_eq] at hl2
      have hq0 : nth blk0 q = c := (h.ref p q hp hq e3).symm.trans hl2
      have k : ∀ s, s < n → nth blk0 s = c → ((s : Int) ∈ y.2 ↔ LeadsTo rs blk0 b0 m0 s) := fun s hs hsc => by
        rw [hin' s]
        constructor
        · rintro ⟨s', _, h2, _, h4⟩
          rw [show s = s' by omega]; exact h4
        · intro h4; exact ⟨s, hs, rfl, hsc, h4⟩
      rw [← k p hp hl2, ← k q hq hq0]
      exact e4
    · exact h.done p q hp hq e3 (by simpa using hlp)
/-- All of a block lead there: it stays. -/
theorem HR.skip (h : HR rs ts n blk0 b0 m0 left blk st td many) (hc : ComeIs rs n blk0 b0 m0 ml) {c : Int} {y : GV} (hm : (c, y) ∈ ml) (hl : left c = true) (hge : ¬ y.2.length < (lst st c).length) :
    HR rs ts n blk0 b0 m0 (fun z => left z && !decide (z = c)) blk st td many := by
  obtain ⟨c1, c2, e, hb⟩ := h.block hc hm hl
  have hin' := ((hc.2.1) c).1
  have hnd := ((hc.2.1) c).2
  rw [e] at hin' hnd
  obtain ⟨a1, a2, _⟩ := h.hi.stI c c1 c2
  have hall : ∀ s, s < n → nth blk0 s = c → LeadsTo rs blk0 b0 m0 s := fun s hs hsc => by
    have hz : (s : Int) ∈ lst st c := (a1 _).2 ⟨s, hs, rfl, (hb s hs).2 hsc⟩
    apply Classical.byContradiction
    intro hn
    have hny : (s : Int) ∉ y.2 := fun hx => by
      obtain ⟨s', _, h2, _, h4⟩ := (hin' _).1 hx
      exact hn (by rw [show s = s' by omega]; exact h4)
    have := nodup_len (l := (s : Int) :: y.2) (k := lst st c) (List.nodup_cons.2 ⟨hny, hnd⟩) fun z hz2 => by
      rcases List.mem_cons.1 hz2 with rfl | hz2
      · exact hz
      · obtain ⟨s', h1, rfl, h3, _⟩ := (hin' _).1 hz2
        exact (a1 _).2 ⟨s', h1, rfl, (hb s' h1).2 h3⟩
    simp only [List.length_cons] at this
    omega
  refine ⟨h.hi, h.stab, h.ref, fun p hp hl2 => ?_, fun p q hp hq e2 hl2 => ?_⟩
  · simp only [Bool.and_eq_true] at hl2
    exact h.fix p hp hl2.1
  · by_cases hlp : left (nth blk0 p) = true
    · rw [hlp, Bool.true_and, Bool.not_eq_false', decide_eq_true_eq] at hl2
      have hq0 : nth blk0 q = c := (h.ref p q hp hq e2).symm.trans hl2
      exact ⟨fun _ => hall q hq hq0, fun _ => hall p hp hl2⟩
    · exact h.done p q hp hq e2 (by simpa using hlp)
/-- The round ends. -/
theorem HR.fin (h : HR rs ts n blk0 b0 m0 left blk st td many) (hc : ComeIs rs n blk0 b0 m0 ml) (hl : ∀ p ∈ ml, left p.1 = false) : Stab rs n blk td (fun _ => False) 0 := by
  intro p q hp hq e m hm hne
  rcases h.stab p q hp hq e m hm hne with h1 | h1 | ⟨h1, h2⟩
  · exact .inl h1
  · exact .inr (.inl h1)
  · exfalso
    have hmm : m = m0 := by omega
    subst hmm
    apply h2
    by_cases hlp : left (nth blk0 p) = true
    · have k : ∀ s, s < n → nth blk0 s = nth blk0 p → ¬ LeadsTo rs blk0 b0 m s := fun s hs hsc hx => by
        have hz : (s : Int) ∈ lst ml (nth blk0 p) := ((hc.2.1 _).1 _).2 ⟨s, hs, rfl, hsc, hx⟩
        unfold lst at hz
        cases hg : mget ml (nth blk0 p) with
        | none => rw [hg] at hz; cases hz
        | some y =>
          have := hl _ (mget_mem hg)
          rw [hlp] at this
          cases this
      exact ⟨fun hx => absurd hx (k p hp rfl), fun hx => absurd hx (k q hq (h.ref p q hp hq e).symm)⟩
    · exact h.done p q hp hq e (by simpa using hlp)
end
/-- Nothing is left to do. -/
theorem hi_end {rs : List (List Int)} {ts blk : List Int} {st : List (Int × GV)} {many : Int} {n : Nat} (hr : RT rs n) (h : HI rs ts n blk st [] many) (hs : Stab rs n blk [] (fun _ => False) 0) {p q : Nat} (hp : p < n) (hq : q < n) : nth blk p = nth blk q ↔ Alk rs ts p q := by
  refine ⟨fun e w hw => stable_alk hr h.tells (fun p q hp hq e m hm => ?_) w p q hp hq e hw, h.coarse p q hp hq⟩
  apply Classical.byContradiction
  intro hne
  rcases hs p q hp hq e m hm hne with h1 | h1 | ⟨_, h1⟩
  · cases h1
  · cases h1
  · exact h1 Iff.rfl
/-- No more blocks than states; no more to do than marks a block. -/
theorem hi_many {rs : List (List Int)} {ts blk : List Int} {st : List (Int × GV)} {td : TD} {many : Int} {n : Nat} (h : HI rs ts n blk st td many) : many ≤ n := by
  obtain ⟨M, hM⟩ : ∃ M : Nat, many = M := ⟨many.toNat, by have := h.pos; omega⟩
  have h1 : ((List.range M).map fun (b : Nat) => (lst st (b : Int)).headD 0).Nodup := by
    unfold List.Nodup
    rw [List.pairwise_map, List.pairwise_iff_getElem]
    intro i j hi hj hij e
    simp only [List.length_range] at hi hj
    simp only [List.getElem_range] at e
    obtain ⟨a1, _, a3⟩ := h.stI i (by omega) (by omega)
    obtain ⟨b1, _, b3⟩ := h.stI j (by omega) (by omega)
    have m1 : (lst st (i : Int)).headD 0 ∈ lst st (i : Int) := by
      cases hl : lst st (i : Int) with
      | nil => exact absurd hl a3
      | cons z l => simp
    have m2 : (lst st (j : Int)).headD 0 ∈ lst st (j : Int) := by
      cases hl : lst st (j : Int) with
      | nil => exact absurd hl b3
      | cons z l => simp
    obtain ⟨p, _, p2, p3⟩ := (a1 _).1 m1
    obtain ⟨q, _, q2, q3⟩ := (b1 _).1 m2
    rw [e, q2] at p2
    have : p = q := by omega
    subst this
    omega
  have h2 := nodup_len h1 (k := (List.range n).map fun (i : Nat) => (i : Int)) fun z hz => by
    obtain ⟨b, hb, rfl⟩ := List.mem_map.1 hz
    obtain ⟨a1, _, a3⟩ := h.stI b (by omega) (by have := List.mem_range.1 hb; omega)
    have m1 : (lst st (b : Int)).headD 0 ∈ lst st (b : Int) := by
      cases hl : lst st (b : Int) with
      | nil => exact absurd hl a3
      | cons z l => simp
    obtain ⟨p, p1, p2, _⟩ := (a1 _).1 m1
    exact List.mem_map.2 ⟨p, List.mem_range.2 p1, p2.symm⟩
  simp only [List.length_map, List.length_range] at h2
  omega
theorem len_flat {α : Type} (f : Nat → List α) (k : Nat) (hk : ∀ b, (f b).length = k) : ∀ M : Nat, ((List.range M).flatMap f).length = M * k := by
  intro M
  induction M with
  | zero => simp
  | succ M ih => rw [List.range_succ, List.flatMap_append, List.length_append, ih, Nat.succ_mul]; simp [hk]
theorem hi_todo {rs : List (List Int)} {ts blk : List Int} {st : List (Int × GV)} {td : TD} {many : Int} {n : Nat} (h : HI rs ts n blk st td many) (ho : Once td) : td.length ≤ n * 37 := by
  have hm := hi_many h
  have h1 : (td.map fun p => p.1).Nodup := by
    unfold List.Nodup
    rw [List.pairwise_map]
    exact ho
  have h2 := nodup_len h1 (k := (List.range n).flatMap fun (b : Nat) => (List.range 37).map fun (m : Nat) => ((b : Int), (m : Int))) fun z hz => by
    obtain ⟨p, hp, rfl⟩ := List.mem_map.1 hz
    obtain ⟨a1, a2, a3, a4⟩ := h.tdK p.1 (mget_of_mem ho (k := p.1) (v := p.2) hp)
    refine List.mem_flatMap.2 ⟨p.1.1.toNat, List.mem_range.2 (by omega), List.mem_map.2 ⟨p.1.2.toNat, List.mem_range.2 (by omega), ?_⟩⟩
    apply Prod.ext
    · simp only; omega
    · simp only; omega
  rw [List.length_map, len_flat _ 37 (fun b => by simp)] at h2
  exact h2
end Go.Proofs.Ytmdkmobcglnmgaa
