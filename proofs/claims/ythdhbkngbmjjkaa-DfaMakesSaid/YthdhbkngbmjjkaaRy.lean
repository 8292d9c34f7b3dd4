/- The document's Step and Tells are the automaton's. Plain. Conditions: right expressions. -/
import Derived.Test.YthdhbkngbmjjkaaRp
import Derived.Test.YthdhbkngbmjjkaaRv
namespace Go.Proofs.Ythdhbkngbmjjkaa
open Go.RowKit
theorem leaf_kind : ∀ (d : Nat) (wi : Bool) (t : Tr d), fitsT d wi t = true → ∀ x ∈ leafL d t, 0 ≤ x.1 ∧ x.1 ≤ 3
  | 0, _, t, _ => t.elim
  | d + 1, wi, t, h => by
    obtain ⟨h1, h2, h3⟩ := fit_kids h
    intro x hx
    simp only [leafL] at hx
    split at hx
    · rename_i hk
      rw [List.mem_singleton.1 hx]
      have hn := h1.1 (List.eq_nil_of_length_eq_zero hk.1)
      simp only [fitsT, Bool.and_eq_true, fitB, decide_eq_true_eq] at h
      have := h.1.1.1.1
      show 0 ≤ Tr.kind t ∧ Tr.kind t ≤ 3
      have h9 := hk.2
      omega
    · obtain ⟨k, hk, hxk⟩ := List.mem_flatMap.1 hx
      exact leaf_kind d true k (h3 k hk) x hxk
theorem take_snoc' {T : Type} {l : List T} {i : Nat} {t : T} (h : l[i]? = some t) : l.take (i + 1) = l.take i ++ [t] := by
  obtain ⟨hi, e⟩ := List.getElem?_eq_some_iff.1 h
  rw [List.take_succ_eq_append_getElem hi, e]
theorem allG_one {d : Nat} (t : Tr d) (o : Nat) : allG [t] o = glk d t o := gAlt_nil _
theorem flat_len {d : Nat} : ∀ l : List (Tr d), (l.flatMap fun t => leafL d t).length = sumL (fun t => leavesT d t) l
  | [] => rfl
  | t :: r => by rw [List.flatMap_cons, List.length_append, flat_len r, leafL_len]; rfl
/-- What Make has noted so far is what the places say. -/
structure MIs {d : Nat} (l : List (Tr d)) (m : Mk8) : Prop where
  lv : m.s.lv = l.flatMap fun t => leafL d t
  of : m.s.of.length = m.s.lv.length
  fst : LikeF m.fst (allG l 0).fst
  lst : LikeF m.lst (allG l 0).lst
  prs : LikeP m.s.prs (allG l 0).prs
  emp : ∀ j, m.emp.testBit j = true ↔ endE l 0 j
  ends : ∀ p j, endL l 0 0 p j ↔ (allG l 0).lst p ∧ nth m.s.of (p - 1) = (j : Int)
  ofs : ∀ z ∈ m.s.of, 0 ≤ z ∧ z < l.length
theorem makeI_is {d : Nat} {l : List (Tr d)} (hf : ∀ t ∈ l, fitsT d false t = true) : ∀ i, i ≤ l.length → MIs (l.take i) (makeI l i)
  | 0, _ => by
    refine ⟨rfl, rfl, ⟨fun q => ⟨(fun h => by cases h), fun h => h.elim⟩, fun z hz => by cases hz⟩, ⟨fun q => ⟨(fun h => by cases h), fun h => h.elim⟩, fun z hz => by cases hz⟩, ⟨fun p q => ⟨(fun h => by cases h), fun h => h.elim⟩, fun z hz => by cases hz⟩, fun j => ?_, fun p j => ?_, fun z hz => by cases hz⟩
    · simp [makeI, endE]
    · simp [endL, allG, altG, gNil]
  | i + 1, hi => by
    have ht : l[i]? = some l[i] := List.getElem?_eq_getElem (by omega)
    have ih := makeI_is hf i (by omega)
    obtain ⟨t, e⟩ : ∃ t, t = l[i] := ⟨_, rfl⟩
    rw [← e] at ht
    have htm : t ∈ l := List.mem_of_getElem? ht
    obtain ⟨hp, hn⟩ := look_noted d false t (i : Int) (makeI l i).s (hf t htm)
    obtain ⟨r, hr⟩ : ∃ r, r = lookP d t (i : Int) (makeI l i).s := ⟨_, rfl⟩
    rw [makeI_succ ht, take_snoc' ht]
    rw [← hr] at hp hn ⊢
    obtain ⟨m, hm⟩ : ∃ m, m = makeI l i := ⟨_, rfl⟩
    rw [← hm] at ih hp hn ⊢
    have hlen : m.s.lv.length = sumL (fun t => leavesT d t) (l.take i) := by rw [ih.lv, flat_len]
    have hil : (l.take i).length = i := by rw [List.length_take]; omega
    have hG : allG (l.take i ++ [t]) 0 = gAlt (allG (l.take i) 0) (glk d t m.s.lv.length) := by rw [allG_app, allG_one, Nat.zero_add, hlen]
    have w1 := allG_within (l.take i) 0
    have w2 := glk_within d t m.s.lv.length
    rw [← hlen] at w1
    obtain ⟨ps, hps, lps⟩ := hn.prs
    refine ⟨?_, ?_, ?_, ?_, ?_, fun j => ?_, fun p j => ?_, fun z hz => ?_⟩
    · show r.2.lv = _
      rw [hn.lv, ih.lv, List.flatMap_append]; simp
    · show r.2.of.length = r.2.lv.length
      rw [hn.of, hn.lv, List.length_append, List.length_append, List.length_replicate, ih.of]
    · rw [hG]; exact ih.fst.app hp.fst
    · rw [hG]; exact ih.lst.app hp.lst
    · rw [hG]
      show LikeP r.2.prs _
      rw [hps]; exact ih.prs.app lps
    · show (if r.1.emp = true then m.emp ||| 1 <<< i else m.emp).testBit j = true ↔ _
      rw [endE_app, Nat.zero_add, hil]
      have he : endE [t] i j ↔ j = i ∧ r.1.emp = true := by
        show ((j = i ∧ (glk d t 0).emp) ∨ False) ↔ _
        rw [or_false, hp.emp, glk_emp t m.s.lv.length]
      rw [he, ← ih.emp]
      split
      · rename_i h
        rw [Nat.testBit_or, Bool.or_eq_true, Nat.one_shiftLeft, Nat.testBit_two_pow, decide_eq_true_eq]
        exact or_congr Iff.rfl ⟨fun h1 => ⟨h1.symm, h⟩, fun h1 => h1.1.symm⟩
      · rename_i h
        simp [h]
    · show endL _ 0 0 p j ↔ _ ∧ nth r.2.of (p - 1) = (j : Int)
      rw [endL_app, Nat.zero_add, Nat.zero_add, hil, ← hlen, hG, hn.of]
      have he : endL [t] m.s.lv.length i p j ↔ j = i ∧ (glk d t m.s.lv.length).lst p := by
        show ((j = i ∧ _) ∨ False) ↔ _
        rw [or_false]
      rw [he, ih.ends]
      have hnl : ∀ (p : Nat), 0 < p → p ≤ m.s.lv.length → nth (m.s.of ++ List.replicate (leafL d t).length (i : Int)) (p - 1) = nth m.s.of (p - 1) := fun p h1 h2 => by
        unfold nth
        rw [List.getElem?_append_left (by rw [ih.of]; omega)]
      have hnr : ∀ (p : Nat), m.s.lv.length < p → p ≤ m.s.lv.length + leavesT d t → nth (m.s.of ++ List.replicate (leafL d t).length (i : Int)) (p - 1) = (i : Int) := fun p h1 h2 => by
        unfold nth
        rw [List.getElem?_append_right (by rw [ih.of]; omega), List.getElem?_replicate, if_pos (by rw [leafL_len, ih.of]; omega)]
        rfl
      constructor
      · rintro (⟨h1, h2⟩ | ⟨h1, h2⟩)
        · have := w1.2.1 p h1
          exact ⟨.inl h1, by rw [hnl p (by omega) (by omega)]; exact h2⟩
        · have := w2.2.1 p h2
          exact ⟨.inr h2, by rw [hnr p (by omega) (by omega), h1]⟩
      · rintro ⟨h1 | h1, h2⟩
        · have := w1.2.1 p h1
          rw [hnl p (by omega) (by omega)] at h2
          exact .inl ⟨h1, h2⟩
        · have := w2.2.1 p h1
          rw [hnr p (by omega) (by omega)] at h2
          exact .inr ⟨by omega, h1⟩
    · show 0 ≤ z ∧ z < _
      have hz' : z ∈ r.2.of := hz
      rw [hn.of] at hz'
      rw [List.length_append, hil, List.length_singleton]
      rcases List.mem_append.1 hz' with hz' | hz'
      · have := ih.ofs z hz'
        rw [hil] at this
        omega
      · have := (List.mem_replicate.1 hz').2
        omega
theorem stepR_mem {search : Bool} {s : Rs} {F X : List Int} {m q : Int} : ∀ k, q ∈ stepR search s F X m k ↔ (search = true ∧ q = 0) ∨ ∃ j : Nat, j < k ∧ q = ((j + 1 : Nat) : Int) ∧ mayI s F X ((j + 1 : Nat) : Int) s.prs.length = true ∧ takesB (s.lv[j]?.getD (0, 0)).1 (s.lv[j]?.getD (0, 0)).2 m = true
  | 0 => by
    simp only [stepR]
    cases search <;> simp
  | k + 1 => by
    simp only [stepR]
    split
    · rename_i h
      rw [Bool.and_eq_true] at h
      rw [List.mem_append, stepR_mem k, List.mem_singleton]
      constructor
      · rintro ((h1 | ⟨j, h1, h2⟩) | h1)
        · exact .inl h1
        · exact .inr ⟨j, by omega, h2⟩
        · exact .inr ⟨k, by omega, h1, h.1, h.2⟩
      · rintro (h1 | ⟨j, h1, h2, h3⟩)
        · exact .inl (.inl h1)
        · by_cases e : j = k
          · subst e; exact .inr h2
          · exact .inl (.inr ⟨j, by omega, h2, h3⟩)
    · rename_i h
      rw [Bool.and_eq_true] at h
      rw [stepR_mem k]
      constructor
      · rintro (h1 | ⟨j, h1, h2⟩)
        · exact .inl h1
        · exact .inr ⟨j, by omega, h2⟩
      · rintro (h1 | ⟨j, h1, h2, h3⟩)
        · exact .inl h1
        · by_cases e : j = k
          · subst e; exact absurd h3 h
          · exact .inr ⟨j, by omega, h2, h3⟩
theorem stepR_lt {search : Bool} {s : Rs} {F X : List Int} {m : Int} : ∀ k, (stepR search s F X m k).Pairwise (· < ·)
  | 0 => by simp only [stepR]; split <;> simp
  | k + 1 => by
    simp only [stepR]
    split
    · rw [List.pairwise_append]
      refine ⟨stepR_lt k, by simp, fun a ha b hb => ?_⟩
      rw [List.mem_singleton.1 hb]
      rcases (stepR_mem k).1 ha with h | ⟨j, h1, h2, _⟩
      · omega
      · omega
    · exact stepR_lt k
section
variable {d : Nat} {l : List (Tr d)}
theorem Fine.make (h : Fine l) : MIs l (makeI l l.length) := by
  have := makeI_is h.fits l.length (Nat.le_refl _)
  rwa [List.take_length] at this
/-- The document's step is the automaton's. -/
theorem Fine.stepR (h : Fine l) {search : Bool} {m : Int} {X : List Int} : stepR search (makeI l l.length).s (makeI l l.length).fst X m (makeI l l.length).s.lv.length = stepB search (builtB l) m X := by
  have hm := h.make
  obtain ⟨M, hM⟩ : ∃ M, M = makeI l l.length := ⟨_, rfl⟩
  rw [← hM] at hm ⊢
  have hlen : M.s.lv.length = sumL (fun t => leavesT d t) l := by rw [hm.lv, flat_len]
  have w := allG_within l 0
  rw [← hlen] at w
  refine up_ext (stepR_lt _) (setB_lt _) fun q => ?_
  rw [stepR_mem, h.step]
  refine or_congr Iff.rfl ?_
  have hmay : ∀ j : Nat, mayI M.s M.fst X (j : Int) M.s.prs.length = true ↔ ((0 : Int) ∈ X ∧ (allG l 0).fst j) ∨ ∃ p : Nat, 0 < p ∧ (p : Int) ∈ X ∧ (allG l 0).prs p j := fun j => by
    unfold mayI
    rw [Bool.or_eq_true, Bool.and_eq_true, decide_eq_true_eq, decide_eq_true_eq, hm.fst.1, List.take_length, List.any_eq_true]
    refine or_congr Iff.rfl ⟨?_, ?_⟩
    · rintro ⟨z, hz, h1⟩
      rw [Bool.and_eq_true, decide_eq_true_eq, decide_eq_true_eq] at h1
      obtain ⟨p, q', rfl⟩ := hm.prs.2 z hz
      have hpq := (hm.prs.1 p q').1 hz
      have := w.2.2 p q' hpq
      have e : q' = j := by have := h1.1; omega
      exact ⟨p, by omega, h1.2, e ▸ hpq⟩
    · rintro ⟨p, _, h1, h2⟩
      exact ⟨((p : Int), (j : Int)), (hm.prs.1 p j).2 h2, by simp [h1]⟩
  have htk : ∀ j : Nat, takesAt (builtB l) m ((j + 1 : Nat) : Int) = takesB (M.s.lv[j]?.getD (0, 0)).1 (M.s.lv[j]?.getD (0, 0)).2 m := fun j => by
    rw [takesAt_leafs, built_leafs h.fits, ← hm.lv]
    unfold takesK
    rw [show (((j + 1 : Nat) : Int) - 1).toNat = j by omega]
  constructor
  · rintro ⟨j, h1, rfl, h2, h3⟩
    refine ⟨by omega, by rw [htk]; exact h3, ?_⟩
    rw [Int.toNat_natCast]
    exact (hmay (j + 1)).1 h2
  · rintro ⟨h1, h2, h3⟩
    obtain ⟨j, rfl⟩ : ∃ j : Nat, q = ((j + 1 : Nat) : Int) := ⟨(q - 1).toNat, by omega⟩
    rw [Int.toNat_natCast] at h3
    refine ⟨j, ?_, rfl, (hmay (j + 1)).2 h3, by rw [← htk]; exact h2⟩
    rcases h3 with h3 | ⟨p, _, _, h3⟩
    · have := w.1 _ h3.2; omega
    · have := w.2.2 _ _ h3; omega
theorem tellR_test {e : Nat} {s : Rs} {L X : List Int} {j : Nat} : ∀ k, (tellR e s L X k).testBit j = true ↔ ((0 : Int) ∈ X ∧ e.testBit j = true) ∨ ∃ i, i < k ∧ nth X i ∈ L ∧ (nth s.of (nth X i - 1).toNat).toNat = j
  | 0 => by
    simp only [tellR]
    by_cases h : (0 : Int) ∈ X <;> simp [h]
  | k + 1 => by
    simp only [tellR]
    split
    · rename_i h
      rw [Nat.testBit_or, Bool.or_eq_true, tellR_test k, Nat.one_shiftLeft, Nat.testBit_two_pow, decide_eq_true_eq]
      constructor
      · rintro ((h1 | ⟨i, h1, h2⟩) | h1)
        · exact .inl h1
        · exact .inr ⟨i, by omega, h2⟩
        · exact .inr ⟨k, by omega, h, h1⟩
      · rintro (h1 | ⟨i, h1, h2, h3⟩)
        · exact .inl (.inl h1)
        · by_cases e : i = k
          · subst e; exact .inr h3
          · exact .inl (.inr ⟨i, by omega, h2, h3⟩)
    · rename_i h
      rw [tellR_test k]
      constructor
      · rintro (h1 | ⟨i, h1, h2⟩)
        · exact .inl h1
        · exact .inr ⟨i, by omega, h2⟩
      · rintro (h1 | ⟨i, h1, h2, h3⟩)
        · exact .inl h1
        · by_cases e : i = k
          · subst e; exact absurd h2 h
          · exact .inr ⟨i, by omega, h2, h3⟩
/-- What the document tells of a set is what the automaton tells. -/
theorem Fine.tellR (h : Fine l) {X : List Int} : tellR (makeI l l.length).emp (makeI l l.length).s (makeI l l.length).lst X X.length = tellsB (builtB l) X := by
  have hm := h.make
  obtain ⟨M, hM⟩ : ∃ M, M = makeI l l.length := ⟨_, rfl⟩
  rw [← hM] at hm ⊢
  have w := allG_within l 0
  refine Nat.eq_of_testBit_eq fun j => ?_
  rw [Bool.eq_iff_iff, tellR_test, h.tells, hm.emp]
  refine or_congr Iff.rfl ⟨?_, ?_⟩
  · rintro ⟨i, h1, h2, h3⟩
    obtain ⟨p, hp⟩ := hm.lst.2 _ h2
    rw [hp] at h2 h3
    have hl := (hm.lst.1 p).1 h2
    have hw := w.2.1 p hl
    rw [show ((p : Int) - 1).toNat = p - 1 by omega] at h3
    have hlen : M.s.lv.length = sumL (fun t => leavesT d t) l := by rw [hm.lv, flat_len]
    have ho := hm.ofs _ (nth_mem (zs := M.s.of) (k := p - 1) (by rw [hm.of, hlen]; omega))
    exact ⟨p, by omega, hp ▸ nth_mem h1, (hm.ends p j).2 ⟨hl, by omega⟩⟩
  · rintro ⟨p, h1, h2, h3⟩
    obtain ⟨hl, ho⟩ := (hm.ends p j).1 h3
    obtain ⟨i, hi⟩ := List.getElem?_of_mem h2
    have hi' := (List.getElem?_eq_some_iff.1 hi).1
    refine ⟨i, hi', by rw [nth_some hi]; exact (hm.lst.1 p).2 hl, ?_⟩
    rw [nth_some hi, show ((p : Int) - 1).toNat = p - 1 by omega, ho]
    rfl
end
end Go.Proofs.Ythdhbkngbmjjkaa
