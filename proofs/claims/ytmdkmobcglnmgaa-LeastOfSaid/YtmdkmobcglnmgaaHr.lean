/- States split into blocks of alike ones, plain: one round, the end. Conditions: none. -/
import Derived.Test.YtmdkmobcglnmgaaHq
namespace Go.Proofs.Ytmdkmobcglnmgaa
open Go.RowKit

/-- Who leads into the block that is taken. -/
abbrev LeadsTo (rs : List (List Int)) (blk0 : List Int) (b0 : Int) (m0 : Nat) (p : Nat) : Prop := nth blk0 (stp rs p m0) = b0
/-- The comers, by their blocks. -/
def ComeIs (rs : List (List Int)) (n : Nat) (blk0 : List Int) (b0 : Int) (m0 : Nat) (ml : List (Int × GV)) : Prop :=
  Once ml ∧ (∀ c, (∀ z, z ∈ lst ml c ↔ ∃ p : Nat, p < n ∧ z = p ∧ nth blk0 p = c ∧ LeadsTo rs blk0 b0 m0 p) ∧ (lst ml c).Nodup) ∧ ∀ p ∈ ml, p.2.2 ≠ []
theorem mem_comers {rs : List (List Int)} {m n : Nat} (hr : RT rs n) (hm : m < 37) {L : List Int} {z : Int} : z ∈ comers rs m L ↔ ∃ p : Nat, p < n ∧ z = p ∧ ((stp rs p m : Nat) : Int) ∈ L := by
  unfold comers
  rw [List.mem_flatMap]
  constructor
  · rintro ⟨t, ht, hz⟩
    obtain ⟨i, h1, h2, rfl⟩ := mem_pos.1 hz
    rw [col_len, hr.1] at h1
    rw [nth_col (by rw [hr.1]; exact h1), (hr.at h1 hm).2] at h2
    exact ⟨i, h1, rfl, by rw [h2]; exact ht⟩
  · rintro ⟨p, hp, rfl, h⟩
    refine ⟨_, h, mem_pos.2 ⟨p, by rw [col_len, hr.1]; exact hp, ?_, rfl⟩⟩
    rw [nth_col (by rw [hr.1]; exact hp), (hr.at hp hm).2]
theorem comers_nodup (rs : List (List Int)) (m : Nat) : ∀ {L : List Int}, L.Nodup → (comers rs m L).Nodup := by
  intro L
  induction L with
  | nil => intro _; exact List.Pairwise.nil
  | cons t L ih =>
    intro h
    obtain ⟨h1, h2⟩ := List.nodup_cons.1 h
    have e : comers rs m (t :: L) = pos (col rs m) t ++ comers rs m L := by simp [comers]
    rw [e, List.nodup_append]
    refine ⟨pos_nodup _ _, ih h2, fun a ha b hb e => ?_⟩
    subst e
    obtain ⟨i, _, i2, rfl⟩ := mem_pos.1 ha
    unfold comers at hb
    obtain ⟨t', ht', hz⟩ := List.mem_flatMap.1 hb
    obtain ⟨j, _, j2, j3⟩ := mem_pos.1 hz
    have : i = j := by omega
    subst this
    rw [i2] at j2
    exact h1 (by rw [j2]; exact ht')
theorem come_is {rs : List (List Int)} {ts blk : List Int} {st : List (Int × GV)} {td : TD} {many : Int} {n : Nat} {ml : List (Int × GV)} {b0 : Int} {m0 : Nat} (hr : RT rs n) (hm : m0 < 37) (h : HI rs ts n blk st td many) (hb : 0 ≤ b0 ∧ b0 < many) (ho : Once ml) (hl : LdIs ml blk (comers rs m0 (lst st b0))) :
    ComeIs rs n blk b0 m0 ml := by
  obtain ⟨a1, a2, _⟩ := h.stI b0 hb.1 hb.2
  refine ⟨ho, fun c => ⟨fun z => ?_, ?_⟩, hl.2⟩
  · rw [hl.1 c, List.mem_filter, mem_comers hr hm]
    constructor
    · rintro ⟨⟨p, hp, rfl, hs⟩, hc⟩
      obtain ⟨s, _, h2, h3⟩ := (a1 _).1 hs
      refine ⟨p, hp, rfl, by simpa using hc, ?_⟩
      show nth blk (stp rs p m0) = b0
      rw [show stp rs p m0 = s by omega]
      exact h3
    · rintro ⟨p, hp, rfl, hc, hs⟩
      exact ⟨⟨p, hp, rfl, (a1 _).2 ⟨stp rs p m0, (hr.at hp hm).1, rfl, hs⟩⟩, by simpa using hc⟩
  · rw [hl.1 c]
    exact (comers_nodup rs m0 a2).filter _

/-- A round goes on: the comers of some blocks are still to be looked at. -/
structure HR (rs : List (List Int)) (ts : List Int) (n : Nat) (blk0 : List Int) (b0 : Int) (m0 : Nat) (left : Int → Bool) (blk : List Int) (st : List (Int × GV)) (td : TD) (many : Int) : Prop where
  hi : HI rs ts n blk st td many
  stab : Stab rs n blk td (fun s => nth blk0 s = b0) m0
  ref : ∀ p q, p < n → q < n → nth blk p = nth blk q → nth blk0 p = nth blk0 q
  fix : ∀ p, p < n → left (nth blk0 p) = true → nth blk p = nth blk0 p
  done : ∀ p q, p < n → q < n → nth blk p = nth blk q → left (nth blk0 p) = false → (LeadsTo rs blk0 b0 m0 p ↔ LeadsTo rs blk0 b0 m0 q)
section
variable {rs : List (List Int)} {ts blk0 blk : List Int} {st : List (Int × GV)} {td td' : TD} {many b0 : Int} {n m0 : Nat} {left : Int → Bool} {ml : List (Int × GV)}
theorem HR.start (h : HI rs ts n blk st td many) (ho : Once td) (hs : Stab rs n blk td (fun _ => False) 0) : HR rs ts n blk b0 m0 (fun _ => true) blk st (mdel td (b0, (m0 : Int))) many :=
  ⟨h.take ho _, hs.take ho, fun _ _ _ _ e => e, fun _ _ _ => rfl, fun _ _ _ _ _ e => by cases e⟩
/-- What the block holds that is looked at. -/
theorem HR.block (h : HR rs ts n blk0 b0 m0 left blk st td many) (hc : ComeIs rs n blk0 b0 m0 ml) {c : Int} {y : GV} (hm : (c, y) ∈ ml) (hl : left c = true) :
    0 ≤ c ∧ c < many ∧ lst ml c = y.2 ∧ (∀ p, p < n → (nth blk p = c ↔ nth blk0 p = c)) := by
  obtain ⟨ho, hin, hne⟩ := hc
  have e : lst ml c = y.2 := by unfold lst; rw [mget_of_mem ho hm]; rfl
  obtain ⟨z, hz⟩ := List.exists_mem_of_ne_nil _ (hne _ hm)
  have hz' : z ∈ lst ml c := by rw [e]; exact hz
  obtain ⟨p0, h1, _, h3, _⟩ := ((hin c).1 z).1 hz'
  have h4 := h.fix p0 h1 (by rw [h3]; exact hl)
  rw [h3] at h4
  have h5 := h.hi.rng p0 h1
  rw [h4] at h5
  refine ⟨h5.1, h5.2, e, fun p hp => ⟨fun h6 => ?_, fun h6 => ?_⟩⟩
  · exact (h.ref p p0 hp h1 (by rw [h6, h4])).trans h3
  · rw [h.fix p hp (by rw [h6]; exact hl)]; exact h6
theorem HR.out (h : HR rs ts n blk0 b0 m0 left blk st td many) (hr : RT rs n) (hm0 : m0 < 37) (h0 : ∀ p q, p < n → q < n → Alk rs ts p q → nth blk0 p = nth blk0 q) (hc : ComeIs rs n blk0 b0 m0 ml) {c : Int} {y : GV} (hm : (c, y) ∈ ml) (hl : left c = true) : OutOf rs ts n blk c y.2 := by
  obtain ⟨_, _, e, hb⟩ := h.block hc hm hl
  obtain ⟨ho, hin, hne⟩ := hc
  have hin' := (hin c).1
  rw [e] at hin'
  refine ⟨fun z hz => ?_, by rw [← e]; exact (hin c).2, fun p q hp hq ha => ?_⟩
  · obtain ⟨p, h1, h2, h3, _⟩ := (hin' z).1 hz
    exact ⟨p, h2, h1, (hb p h1).2 h3⟩
  · have k : ∀ p q, p < n → q < n → Alk rs ts p q → (p : Int) ∈ y.2 → (q : Int) ∈ y.2 := fun p q hp hq ha hx => by
      obtain ⟨p', h1, h2, h3, h4⟩ := (hin' _).1 hx
      have : p = p' := by omega
      subst this
      exact (hin' _).2 ⟨q, hq, rfl, (h0 p q hp hq ha).symm.trans h3, by
        have := h0 _ _ (hr.at hp hm0).1 (hr.at hq hm0).1 (ha.step hm0)
        show nth blk0 (stp rs q m0) = b0
        rw [← this]; exact h4⟩
    exact ⟨k p q hp hq ha, k q p hq hp ha.symm⟩
/-- A block is split. -/
theorem HR.split (h : HR rs ts n blk0 b0 m0 left blk st td many) (hr : RT rs n) (hm0 : m0 < 37) (h0 : ∀ p q, p < n → q < n → Alk rs ts p q → nth blk0 p = nth blk0 q) (hc : ComeIs rs n blk0 b0 m0 ml) {c : Int} {y : GV} (hm : (c, y) ∈ ml) (hl : left c = true)
    (hlt : y.2.length < (lst st c).length) (ht : TdPart td td' c many 37) (v1 v2 : Value) :
    HR rs ts n blk0 b0 m0 (fun z => left z && !decide (z = c)) (cut blk many y.2) (mset (mset st many (v1, y.2)) c (v2, (lst st c).filter fun z => !inB (cut blk many y.2) many z)) td' (many + 1) := by
  obtain ⟨c1, c2, e, hb⟩ := h.block hc hm hl
  have hout := h.out hr hm0 h0 hc hm hl
  have hin' := ((hc.2.1) c).1
  rw [e] at hin'
  refine ⟨h.hi.split hout ⟨c1, c2⟩ (hc.2.2 _ hm) hlt ht v1 v2, h.stab.split h.hi hr hout ht, fun p q hp hq e2 => h.ref p q hp hq (same_before h.hi hout hp hq e2).1, fun p hp hl2 => ?_, fun p q hp hq e2 hl2 => ?_⟩
  · simp only [Bool.and_eq_true, Bool.not_eq_true', decide_eq_false_iff_not] at hl2
    have h3 := h.fix p hp hl2.1
    rw [cut_at h.hi.len hout hp, if_neg (fun hx => hl2.2 (by rw [← h3]; exact hout.mem_c hx))]
    exact h3
  · obtain ⟨e3, e4⟩ := same_before h.hi hout hp hq e2
    by_cases hlp : left (nth blk0 p) = true
    · rw [hlp, Bool.true_and, Bool.not_eq_false', decide_eq_true_eq] at hl2
      have hq0 : nth blk0 q = c := (h.ref p q hp hq e3).symm.trans hl2
      have k : ∀ s, s < n → nth blk0 s = c → ((s : Int) ∈ y.2 ↔ LeadsTo rs blk0 b0 m0 s) := fun s hs hsc => by
        rw [hin' s]
        constructor
        · rintro ⟨s', _, h2, _, h4⟩
          rw [show s = s' by omega]; exact h4
        · intro h4; exact ⟨s, hs, rfl, hsc, h4⟩
      rw [← k p hp hl2, ← k q hq hq0]
      exact e4
    · exact h.done p q hp hq e3 (by simpa using hlp)
/-- All of a block lead there: it stays. -/
theorem HR.skip (h : HR rs ts n blk0 b0 m0 left blk st td many) (hc : ComeIs rs n blk0 b0 m0 ml) {c : Int} {y : GV} (hm : (c, y) ∈ ml) (hl : left c = true) (hge : ¬ y.2.length < (lst st c).length) :
    HR rs ts n blk0 b0 m0 (fun z => left z && !decide (z = c)) blk st td many := by
  obtain ⟨c1, c2, e, hb⟩ := h.block hc hm hl
  have hin' := ((hc.2.1) c).1
  have hnd := ((hc.2.1) c).2
  rw [e] at hin' hnd
  obtain ⟨a1, a2, _⟩ := h.hi.stI c c1 c2
  have hall : ∀ s, s < n → nth blk0 s = c → LeadsTo rs blk0 b0 m0 s := fun s hs hsc => by
    have hz : (s : Int) ∈ lst st c := (a1 _).2 ⟨s, hs, rfl, (hb s hs).2 hsc⟩
    apply Classical.byContradiction
    intro hn
    have hny : (s : Int) ∉ y.2 := fun hx => by
      obtain ⟨s', _, h2, _, h4⟩ := (hin' _).1 hx
      exact hn (by rw [show s = s' by omega]; exact h4)
    have := nodup_len (l := (s : Int) :: y.2) (k := lst st c) (List.nodup_cons.2 ⟨hny, hnd⟩) fun z hz2 => by
      rcases List.mem_cons.1 hz2 with rfl | hz2
      · exact hz
      · obtain ⟨s', h1, rfl, h3, _⟩ := (hin' _).1 hz2
        exact (a1 _).2 ⟨s', h1, rfl, (hb s' h1).2 h3⟩
    simp only [List.length_cons] at this
    omega
  refine ⟨h.hi, h.stab, h.ref, fun p hp hl2 => ?_, fun p q hp hq e2 hl2 => ?_⟩
  · simp only [Bool.and_eq_true] at hl2
    exact h.fix p hp hl2.1
  · by_cases hlp : left (nth blk0 p) = true
    · rw [hlp, Bool.true_and, Bool.not_eq_false', decide_eq_true_eq] at hl2
      have hq0 : nth blk0 q = c := (h.ref p q hp hq e2).symm.trans hl2
      exact ⟨fun _ => hall q hq hq0, fun _ => hall p hp hl2⟩
    · exact h.done p q hp hq e2 (by simpa using hlp)
/-- The round ends. -/
theorem HR.fin (h : HR rs ts n blk0 b0 m0 left blk st td many) (hc : ComeIs rs n blk0 b0 m0 ml) (hl : ∀ p ∈ ml, left p.1 = false) : Stab rs n blk td (fun _ => False) 0 := by
  intro p q hp hq e m hm hne
  rcases h.stab p q hp hq e m hm hne with h1 | h1 | ⟨h1, h2⟩
  · exact .inl h1
  · exact .inr (.inl h1)
  · exfalso
    have hmm : m = m0 := by omega
    subst hmm
    apply h2
    by_cases hlp : left (nth blk0 p) = true
    · have k : ∀ s, s < n → nth blk0 s = nth blk0 p → ¬ LeadsTo rs blk0 b0 m s := fun s hs hsc hx => by
        have hz : (s : Int) ∈ lst ml (nth blk0 p) := ((hc.2.1 _).1 _).2 ⟨s, hs, rfl, hsc, hx⟩
        unfold lst at hz
        cases hg : mget ml (nth blk0 p) with
        | none => rw [hg] at hz; cases hz
        | some y =>
          have := hl _ (mget_mem hg)
          rw [hlp] at this
          cases this
      exact ⟨fun hx => absurd hx (k p hp rfl), fun hx => absurd hx (k q hq (h.ref p q hp hq e).symm)⟩
    · exact h.done p q hp hq e (by simpa using hlp)
end
/-- Nothing is left to do. -/
theorem hi_end {rs : List (List Int)} {ts blk : List Int} {st : List (Int × GV)} {many : Int} {n : Nat} (hr : RT rs n) (h : HI rs ts n blk st [] many) (hs : Stab rs n blk [] (fun _ => False) 0) {p q : Nat} (hp : p < n) (hq : q < n) : nth blk p = nth blk q ↔ Alk rs ts p q := by
  refine ⟨fun e w hw => stable_alk hr h.tells (fun p q hp hq e m hm => ?_) w p q hp hq e hw, h.coarse p q hp hq⟩
  apply Classical.byContradiction
  intro hne
  rcases hs p q hp hq e m hm hne with h1 | h1 | ⟨_, h1⟩
  · cases h1
  · cases h1
  · exact h1 Iff.rfl
/-- No more blocks than states; no more to do than marks a block. -/
theorem hi_many {rs : List (List Int)} {ts blk : List Int} {st : List (Int × GV)} {td : TD} {many : Int} {n : Nat} (h : HI rs ts n blk st td many) : many ≤ n := by
  obtain ⟨M, hM⟩ : ∃ M : Nat, many = M := ⟨many.toNat, by have := h.pos; omega⟩
  have h1 : ((List.range M).map fun (b : Nat) => (lst st (b : Int)).headD 0).Nodup := by
    unfold List.Nodup
    rw [List.pairwise_map, List.pairwise_iff_getElem]
    intro i j hi hj hij e
    simp only [List.length_range] at hi hj
    simp only [List.getElem_range] at e
    obtain ⟨a1, _, a3⟩ := h.stI i (by omega) (by omega)
    obtain ⟨b1, _, b3⟩ := h.stI j (by omega) (by omega)
    have m1 : (lst st (i : Int)).headD 0 ∈ lst st (i : Int) := by
      cases hl : lst st (i : Int) with
      | nil => exact absurd hl a3
      | cons z l => simp
    have m2 : (lst st (j : Int)).headD 0 ∈ lst st (j : Int) := by
      cases hl : lst st (j : Int) with
      | nil => exact absurd hl b3
      | cons z l => simp
    obtain ⟨p, _, p2, p3⟩ := (a1 _).1 m1
    obtain ⟨q, _, q2, q3⟩ := (b1 _).1 m2
    rw [e, q2] at p2
    have : p = q := by omega
    subst this
    omega
  have h2 := nodup_len h1 (k := (List.range n).map fun (i : Nat) => (i : Int)) fun z hz => by
    obtain ⟨b, hb, rfl⟩ := List.mem_map.1 hz
    obtain ⟨a1, _, a3⟩ := h.stI b (by omega) (by have := List.mem_range.1 hb; omega)
    have m1 : (lst st (b : Int)).headD 0 ∈ lst st (b : Int) := by
      cases hl : lst st (b : Int) with
      | nil => exact absurd hl a3
      | cons z l => simp
    obtain ⟨p, p1, p2, _⟩ := (a1 _).1 m1
    exact List.mem_map.2 ⟨p, List.mem_range.2 p1, p2.symm⟩
  simp only [List.length_map, List.length_range] at h2
  omega
theorem len_flat {α : Type} (f : Nat → List α) (k : Nat) (hk : ∀ b, (f b).length = k) : ∀ M : Nat, ((List.range M).flatMap f).length = M * k := by
  intro M
  induction M with
  | zero => simp
  | succ M ih => rw [List.range_succ, List.flatMap_append, List.length_append, ih, Nat.succ_mul]; simp [hk]
theorem hi_todo {rs : List (List Int)} {ts blk : List Int} {st : List (Int × GV)} {td : TD} {many : Int} {n : Nat} (h : HI rs ts n blk st td many) (ho : Once td) : td.length ≤ n * 37 := by
  have hm := hi_many h
  have h1 : (td.map fun p => p.1).Nodup := by
    unfold List.Nodup
    rw [List.pairwise_map]
    exact ho
  have h2 := nodup_len h1 (k := (List.range n).flatMap fun (b : Nat) => (List.range 37).map fun (m : Nat) => ((b : Int), (m : Int))) fun z hz => by
    obtain ⟨p, hp, rfl⟩ := List.mem_map.1 hz
    obtain ⟨a1, a2, a3, a4⟩ := h.tdK p.1 (mget_of_mem ho (k := p.1) (v := p.2) hp)
    refine List.mem_flatMap.2 ⟨p.1.1.toNat, List.mem_range.2 (by omega), List.mem_map.2 ⟨p.1.2.toNat, List.mem_range.2 (by omega), ?_⟩⟩
    apply Prod.ext
    · simp only; omega
    · simp only; omega
  rw [List.length_map, len_flat _ 37 (fun b => by simp)] at h2
  exact h2
end Go.Proofs.Ytmdkmobcglnmgaa
