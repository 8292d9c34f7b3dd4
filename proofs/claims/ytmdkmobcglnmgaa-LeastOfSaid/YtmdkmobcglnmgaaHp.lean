/- States split into blocks of alike ones: plain. No program here. Conditions: none. -/
import Derived.Test.YtmdkmobcglnmgaaSw
namespace Go.Proofs.Ytmdkmobcglnmgaa
open Go.RowKit

theorem nodup_len {α : Type} [DecidableEq α] : ∀ {l k : List α}, l.Nodup → (∀ x ∈ l, x ∈ k) → l.length ≤ k.length
  | [], _, _, _ => Nat.zero_le _
  | a :: l, k, hn, hs => by
    obtain ⟨h1, h2⟩ := List.nodup_cons.1 hn
    have ha : a ∈ k := hs a List.mem_cons_self
    have := nodup_len (k := k.erase a) h2 fun x hx => (List.mem_erase_of_ne (fun e : x = a => h1 (by rw [← e]; exact hx))).2 (hs x (List.mem_cons_of_mem _ hx))
    rw [List.length_erase_of_mem ha] at this
    have hp : 0 < k.length := List.length_pos_of_mem ha
    simp only [List.length_cons]
    omega
def stp (rs : List (List Int)) (p m : Nat) : Nat := (nth (row rs p) m).toNat
def goW (rs : List (List Int)) (p : Nat) : List Nat → Nat
  | [] => p
  | m :: w => goW rs (stp rs p m) w
/-- The same is told behind any marks. -/
def Alk (rs : List (List Int)) (ts : List Int) (p q : Nat) : Prop := ∀ w : List Nat, (∀ m ∈ w, m < 37) → nth ts (goW rs p w) = nth ts (goW rs q w)
theorem Alk.refl (rs : List (List Int)) (ts : List Int) (p : Nat) : Alk rs ts p p := fun _ _ => rfl
theorem Alk.symm {rs : List (List Int)} {ts : List Int} {p q : Nat} (h : Alk rs ts p q) : Alk rs ts q p := fun w hw => (h w hw).symm
theorem Alk.trans {rs : List (List Int)} {ts : List Int} {p q r : Nat} (h : Alk rs ts p q) (k : Alk rs ts q r) : Alk rs ts p r := fun w hw => (h w hw).trans (k w hw)
theorem Alk.tell {rs : List (List Int)} {ts : List Int} {p q : Nat} (h : Alk rs ts p q) : nth ts p = nth ts q := h [] (fun _ h => by cases h)
theorem Alk.step {rs : List (List Int)} {ts : List Int} {p q : Nat} (h : Alk rs ts p q) {m : Nat} (hm : m < 37) : Alk rs ts (stp rs p m) (stp rs q m) := fun w hw =>
  h (m :: w) fun k hk => by
    rcases List.mem_cons.1 hk with rfl | hk
    · exact hm
    · exact hw k hk
/-- A table whose rows lead to its states. -/
def RT (rs : List (List Int)) (n : Nat) : Prop := rs.length = n ∧ ∀ p, p < n → (row rs p).length = 37 ∧ ∀ m, m < 37 → 0 ≤ nth (row rs p) m ∧ nth (row rs p) m < n
theorem RT.at {rs : List (List Int)} {n p m : Nat} (h : RT rs n) (hp : p < n) (hm : m < 37) : stp rs p m < n ∧ nth (row rs p) m = (stp rs p m : Nat) := by
  obtain ⟨h1, h2⟩ := (h.2 p hp).2 m hm
  have : nth (row rs p) m = (stp rs p m : Nat) := by unfold stp; omega
  exact ⟨by omega, this⟩
/-- Blocks that tell, and lead, alike: alike states. -/
theorem stable_alk {rs : List (List Int)} {ts blk : List Int} {n : Nat} (hr : RT rs n) (ht : ∀ p q, p < n → q < n → nth blk p = nth blk q → nth ts p = nth ts q)
    (hs : ∀ p q, p < n → q < n → nth blk p = nth blk q → ∀ m, m < 37 → nth blk (stp rs p m) = nth blk (stp rs q m)) : ∀ (w : List Nat) (p q : Nat), p < n → q < n → nth blk p = nth blk q → (∀ m ∈ w, m < 37) → nth ts (goW rs p w) = nth ts (goW rs q w) := by
  intro w
  induction w with
  | nil => intro p q hp hq h _; exact ht p q hp hq h
  | cons m w ih =>
    intro p q hp hq h hw
    have hm := hw m List.mem_cons_self
    exact ih _ _ (hr.at hp hm).1 (hr.at hq hm).1 (hs p q hp hq h m hm) fun k hk => hw k (List.mem_cons_of_mem _ hk)

abbrev TD := List ((Int × Int) × Unit)
structure HI (rs : List (List Int)) (ts : List Int) (n : Nat) (blk : List Int) (st : List (Int × GV)) (td : TD) (many : Int) : Prop where
  len : blk.length = n
  rng : ∀ p, p < n → 0 ≤ nth blk p ∧ nth blk p < many
  stI : ∀ b, 0 ≤ b → b < many → (∀ z, z ∈ lst st b ↔ ∃ p : Nat, p < n ∧ z = p ∧ nth blk p = b) ∧ (lst st b).Nodup ∧ lst st b ≠ []
  stK : ∀ p ∈ st, 0 ≤ p.1 ∧ p.1 < many
  tdK : ∀ p, mget td p = some () → 0 ≤ p.1 ∧ p.1 < many ∧ 0 ≤ p.2 ∧ p.2 < 37
  coarse : ∀ p q, p < n → q < n → Alk rs ts p q → nth blk p = nth blk q
  tells : ∀ p q, p < n → q < n → nth blk p = nth blk q → nth ts p = nth ts q
  pos : 0 ≤ many
def Stab (rs : List (List Int)) (n : Nat) (blk : List Int) (td : TD) (T : Nat → Prop) (m0 : Int) : Prop :=
  ∀ p q, p < n → q < n → nth blk p = nth blk q → ∀ m : Nat, m < 37 → nth blk (stp rs p m) ≠ nth blk (stp rs q m) →
    mget td (nth blk (stp rs p m), (m : Int)) = some () ∨ mget td (nth blk (stp rs q m), (m : Int)) = some () ∨ ((m : Int) = m0 ∧ ¬(T (stp rs p m) ↔ T (stp rs q m)))
theorem mget_mdel_ne {K V : Type} [DecidableEq K] {m : List (K × V)} (ho : Once m) {k k' : K} (h : k ≠ k') : mget (mdel m k) k' = mget m k' := by rw [mget_mdel ho, if_neg h]
/-- One is taken. -/
theorem Stab.take {rs : List (List Int)} {n : Nat} {blk : List Int} {td : TD} {b0 m0 : Int} (ho : Once td) (h : Stab rs n blk td (fun _ => False) 0) : Stab rs n blk (mdel td (b0, m0)) (fun s => nth blk s = b0) m0 := by
  intro p q hp hq hb m hm hne
  rcases h p q hp hq hb m hm hne with h1 | h1 | ⟨_, h1⟩
  · by_cases e : (b0, m0) = (nth blk (stp rs p m), (m : Int))
    · injection e with e1 e2
      refine .inr (.inr ⟨e2.symm, fun h2 => ?_⟩)
      have := h2.1 e1.symm
      exact hne (e1.symm.trans this.symm)
    · exact .inl (by rw [mget_mdel_ne ho e]; exact h1)
  · by_cases e : (b0, m0) = (nth blk (stp rs q m), (m : Int))
    · injection e with e1 e2
      refine .inr (.inr ⟨e2.symm, fun h2 => ?_⟩)
      have := h2.2 e1.symm
      exact hne (this.trans e1)
    · exact .inr (.inl (by rw [mget_mdel_ne ho e]; exact h1))
  · exact absurd Iff.rfl h1
theorem mget_mdel_some {K : Type} [DecidableEq K] {m : List (K × Unit)} (ho : Once m) {k k' : K} (h : mget (mdel m k) k' = some ()) : mget m k' = some () := by
  rw [mget_mdel ho] at h
  split at h
  · cases h
  · exact h
theorem HI.take {rs : List (List Int)} {ts : List Int} {n : Nat} {blk : List Int} {st : List (Int × GV)} {td : TD} {many : Int} (h : HI rs ts n blk st td many) (ho : Once td) (k : Int × Int) : HI rs ts n blk st (mdel td k) many :=
  { h with tdK := fun p hp => h.tdK p (mget_mdel_some ho hp) }

section split
variable {rs : List (List Int)} {ts : List Int} {n : Nat} {blk : List Int} {st : List (Int × GV)} {td td' : TD} {many c : Int} {ol : List Int}
/-- What is taken out of block c. -/
structure OutOf (rs : List (List Int)) (ts : List Int) (n : Nat) (blk : List Int) (c : Int) (ol : List Int) : Prop where
  sub : ∀ z ∈ ol, ∃ s : Nat, z = s ∧ s < n ∧ nth blk s = c
  nd : ol.Nodup
  alk : ∀ p q, p < n → q < n → Alk rs ts p q → ((p : Int) ∈ ol ↔ (q : Int) ∈ ol)
theorem cut_at (hl : blk.length = n) (ho : OutOf rs ts n blk c ol) {t : Nat} (ht : t < n) : nth (cut blk many ol) t = if (t : Int) ∈ ol then many else nth blk t :=
  cut_nth (by omega) fun z hz => by obtain ⟨s, h1, h2, _⟩ := ho.sub z hz; exact ⟨s, h1, by omega⟩
theorem OutOf.mem_c (ho : OutOf rs ts n blk c ol) {t : Nat} (h : (t : Int) ∈ ol) : nth blk t = c := by
  obtain ⟨s, h1, _, h3⟩ := ho.sub _ h
  rw [show t = s by omega]
  exact h3
/-- Who is in one block behind the split was in one before. -/
theorem same_before (h : HI rs ts n blk st td many) (ho : OutOf rs ts n blk c ol) {p q : Nat} (hp : p < n) (hq : q < n) (e : nth (cut blk many ol) p = nth (cut blk many ol) q) : nth blk p = nth blk q ∧ ((p : Int) ∈ ol ↔ (q : Int) ∈ ol) := by
  rw [cut_at h.len ho hp, cut_at h.len ho hq] at e
  have b1 := (h.rng p hp).2
  have b2 := (h.rng q hq).2
  split at e <;> split at e
  · rename_i a b
    exact ⟨by rw [ho.mem_c a, ho.mem_c b], by simp [a, b]⟩
  · omega
  · omega
  · rename_i a b
    exact ⟨e, by simp [a, b]⟩
theorem Stab.split {T : Nat → Prop} {m0 : Int} (h : HI rs ts n blk st td many) (hr : RT rs n) (ho : OutOf rs ts n blk c ol) (ht : TdPart td td' c many 37) (hs : Stab rs n blk td T m0) : Stab rs n (cut blk many ol) td' T m0 := by
  obtain ⟨t1, t2, _⟩ := ht
  intro p q hp hq hb m hm hne
  have sp := (hr.at hp hm).1
  have sq := (hr.at hq hm).1
  obtain ⟨hb0, _⟩ := same_before h ho hp hq hb
  obtain ⟨t2a, t2b⟩ := t2 m (by omega) (by omega)
  have up : ∀ s, s < n → mget td (nth blk s, (m : Int)) = some () → mget td' (nth (cut blk many ol) s, (m : Int)) = some () := fun s hs' hx => by
    rw [cut_at h.len ho hs']
    split
    · rename_i a
      rw [ho.mem_c a] at hx
      exact t2a hx
    · exact t1 _ hx
  by_cases e : nth blk (stp rs p m) = nth blk (stp rs q m)
  · rw [cut_at h.len ho sp, cut_at h.len ho sq] at hne ⊢
    split at hne <;> split at hne
    · exact absurd rfl hne
    · rename_i a b
      rw [if_pos a, if_neg b]
      rw [← e, ho.mem_c a]
      rcases t2b with h' | h'
      · exact .inr (.inl h')
      · exact .inl h'
    · rename_i a b
      rw [if_neg a, if_pos b]
      rw [e, ho.mem_c b]
      rcases t2b with h' | h'
      · exact .inl h'
      · exact .inr (.inl h')
    · exact absurd e hne
  · rcases hs p q hp hq hb0 m hm e with h1 | h1 | h1
    · exact .inl (up _ sp h1)
    · exact .inr (.inl (up _ sq h1))
    · exact .inr (.inr h1)
theorem HI.split (h : HI rs ts n blk st td many) (ho : OutOf rs ts n blk c ol) (hc : 0 ≤ c ∧ c < many) (hne : ol ≠ []) (hlt : ol.length < (lst st c).length) (ht : TdPart td td' c many 37) (v1 v2 : Value) :
    HI rs ts n (cut blk many ol) (mset (mset st many (v1, ol)) c (v2, (lst st c).filter fun z => !inB (cut blk many ol) many z)) td' (many + 1) := by
  have hp0 := h.pos
  have hkept : ∀ z, z ∈ ((lst st c).filter fun z => !inB (cut blk many ol) many z) ↔ z ∈ lst st c ∧ z ∉ ol := by
    intro z
    rw [List.mem_filter]
    refine and_congr_right fun hz => ?_
    obtain ⟨p, hp, rfl, hpb⟩ := ((h.stI c hc.1 hc.2).1 z).1 hz
    unfold inB
    rw [Int.toNat_natCast, cut_at h.len ho hp]
    split
    · rename_i a; simp [a]
    · rename_i a
      have : nth blk p ≠ many := by omega
      simp [a, this]
  refine ⟨by rw [cut_len]; exact h.len, fun p hp => ?_, fun b hb0 hb1 => ?_, fun p hp => ?_, fun p hp => ?_, fun p q hp hq ha => ?_, fun p q hp hq e => ?_, by omega⟩
  · rw [cut_at h.len ho hp]
    have := h.rng p hp
    split <;> omega
  · rw [lst_mset, lst_mset]
    by_cases e : c = b
    · subst e
      rw [if_pos rfl]
      obtain ⟨a1, a2, a3⟩ := h.stI c hc.1 hc.2
      refine ⟨fun z => ?_, a2.filter _, fun he => ?_⟩
      · rw [hkept z, a1 z]
        constructor
        · rintro ⟨⟨p, hp, rfl, hpb⟩, hz⟩
          exact ⟨p, hp, rfl, by rw [cut_at h.len ho hp, if_neg hz]; exact hpb⟩
        · rintro ⟨p, hp, rfl, hpb⟩
          rw [cut_at h.len ho hp] at hpb
          split at hpb
          · omega
          · rename_i hz; exact ⟨⟨p, hp, rfl, hpb⟩, hz⟩
      · have : (lst st c).length ≤ ol.length := nodup_len a2 fun z hz => by
          apply Classical.byContradiction
          intro hz2
          have h3 := (hkept z).2 ⟨hz, hz2⟩
          rw [show (lst st c).filter (fun z => !inB (cut blk many ol) many z) = [] from he] at h3
          cases h3
        omega
    · rw [if_neg e]
      by_cases e2 : many = b
      · subst e2
        rw [if_pos rfl]
        refine ⟨fun z => ?_, ho.nd, hne⟩
        constructor
        · intro hz
          obtain ⟨s, hs, hsn, _⟩ := ho.sub z hz
          refine ⟨s, hsn, hs, ?_⟩
          rw [cut_at h.len ho hsn, if_pos (by rw [← hs]; exact hz)]
        · rintro ⟨p, hp, rfl, hpb⟩
          rw [cut_at h.len ho hp] at hpb
          split at hpb
          · rename_i hz; exact hz
          · have := (h.rng p hp).2; omega
      · rw [if_neg e2]
        obtain ⟨a1, a2, a3⟩ := h.stI b hb0 (by omega)
        refine ⟨fun z => ?_, a2, a3⟩
        rw [a1 z]
        constructor
        · rintro ⟨p, hp, rfl, hpb⟩
          refine ⟨p, hp, rfl, ?_⟩
          rw [cut_at h.len ho hp, if_neg (fun hz => e (by rw [← ho.mem_c hz]; exact hpb))]
          exact hpb
        · rintro ⟨p, hp, rfl, hpb⟩
          rw [cut_at h.len ho hp] at hpb
          split at hpb
          · omega
          · exact ⟨p, hp, rfl, hpb⟩
  · rcases mem_mset hp with rfl | hp
    · exact ⟨hc.1, by simp only; omega⟩
    · rcases mem_mset hp with rfl | hp
      · exact ⟨by simp only; omega, by simp only; omega⟩
      · have := h.stK p hp; omega
  · rcases ht.2.2 p hp with h1 | ⟨h1, h2, h3⟩
    · have := h.tdK p h1; omega
    · rcases h1 with h1 | h1 <;> omega
  · rw [cut_at h.len ho hp, cut_at h.len ho hq, h.coarse p q hp hq ha]
    by_cases hm : (p : Int) ∈ ol
    · rw [if_pos hm, if_pos ((ho.alk p q hp hq ha).1 hm)]
    · rw [if_neg hm, if_neg (fun h' => hm ((ho.alk p q hp hq ha).2 h'))]
  · exact h.tells p q hp hq (same_before h ho hp hq e).1
end split
end Go.Proofs.Ytmdkmobcglnmgaa
