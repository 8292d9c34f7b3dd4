/- What an expression matches, by its places: just what the relation of its definition says. Plain. No conditions. -/
import Derived.Test.YthdhbkngbmjjkaaLd
namespace Go.Proofs.Ythdhbkngbmjjkaa
set_option linter.unusedVariables false
section
variable (tk : Nat → Int → Prop) (ms : List Int)
/-- One stands at a place behind so many marks, having begun behind so many. -/
inductive Pth (g : GS) (i : Nat) : Nat → Nat → Prop
  | fst {q : Nat} {m : Int} : g.fst q → ms[i]? = some m → tk q m → Pth g i q (i + 1)
  | nxt {p q j : Nat} {m : Int} : Pth g i p j → g.prs p q → ms[j]? = some m → tk q m → Pth g i q (j + 1)
def Acc (g : GS) (i j : Nat) : Prop := (g.emp ∧ i = j) ∨ ∃ p, Pth tk ms g i p j ∧ g.lst p
end
section
variable {tk : Nat → Int → Prop} {ms : List Int} {a b g h : GS} {i j o m n : Nat}
theorem Pth.within (hg : g.within o n) {p : Nat} (hp : Pth tk ms g i p j) : o < p ∧ p ≤ o + n := by
  cases hp with
  | fst h1 _ _ => exact hg.1 _ h1
  | nxt _ h2 _ _ => exact (hg.2.2 _ _ h2).2
theorem Pth.mono (h1 : ∀ q, g.fst q → h.fst q) (h2 : ∀ p q, g.prs p q → h.prs p q) {p : Nat} (hp : Pth tk ms g i p j) : Pth tk ms h i p j := by
  induction hp with
  | fst h3 h4 h5 => exact .fst (h1 _ h3) h4 h5
  | nxt _ h3 h4 h5 ih => exact .nxt ih (h2 _ _ h3) h4 h5
theorem acc_one : Acc tk ms gOne i j ↔ i = j := by
  constructor
  · rintro (⟨_, h⟩ | ⟨p, _, h⟩)
    · exact h
    · exact h.elim
  · exact fun h => .inl ⟨trivial, h⟩
theorem acc_nil : ¬ Acc tk ms gNil i j := by
  rintro (⟨h, _⟩ | ⟨p, _, h⟩) <;> exact h.elim
theorem acc_leaf {k : Nat} : Acc tk ms (gLeaf k) i j ↔ j = i + 1 ∧ ∃ m, ms[i]? = some m ∧ tk k m := by
  constructor
  · rintro (⟨h, _⟩ | ⟨p, hp, h⟩)
    · exact h.elim
    · cases hp with
      | fst h1 h2 h3 =>
        obtain rfl : p = k := h1
        exact ⟨rfl, _, h2, h3⟩
      | nxt _ h2 _ _ => exact h2.elim
  · rintro ⟨rfl, m, h1, h2⟩
    exact .inr ⟨k, .fst rfl h1 h2, rfl⟩
theorem pth_alt (ha : a.within o m) (hb : b.within (o + m) n) {p : Nat} : Pth tk ms (gAlt a b) i p j ↔ Pth tk ms a i p j ∨ Pth tk ms b i p j := by
  constructor
  · intro hp
    induction hp with
    | fst h1 h2 h3 =>
      rcases h1 with h1 | h1
      · exact .inl (.fst h1 h2 h3)
      · exact .inr (.fst h1 h2 h3)
    | nxt _ h1 h2 h3 ih =>
      rcases h1 with h1 | h1
      · rcases ih with ih | ih
        · exact .inl (.nxt ih h1 h2 h3)
        · have := ih.within hb
          have := (ha.2.2 _ _ h1).1
          omega
      · rcases ih with ih | ih
        · have := ih.within ha
          have := (hb.2.2 _ _ h1).1
          omega
        · exact .inr (.nxt ih h1 h2 h3)
  · rintro (hp | hp)
    · exact hp.mono (fun q h => Or.inl h) fun p q h => Or.inl h
    · exact hp.mono (fun q h => Or.inr h) fun p q h => Or.inr h
theorem acc_alt (ha : a.within o m) (hb : b.within (o + m) n) : Acc tk ms (gAlt a b) i j ↔ Acc tk ms a i j ∨ Acc tk ms b i j := by
  constructor
  · rintro (⟨h | h, e⟩ | ⟨p, hp, h⟩)
    · exact .inl (.inl ⟨h, e⟩)
    · exact .inr (.inl ⟨h, e⟩)
    · rcases (pth_alt ha hb).1 hp with hp | hp
      · rcases h with h | h
        · exact .inl (.inr ⟨p, hp, h⟩)
        · have := hp.within ha
          have := hb.2.1 _ h
          omega
      · rcases h with h | h
        · have := hp.within hb
          have := ha.2.1 _ h
          omega
        · exact .inr (.inr ⟨p, hp, h⟩)
  · rintro ((⟨h, e⟩ | ⟨p, hp, h⟩) | (⟨h, e⟩ | ⟨p, hp, h⟩))
    · exact .inl ⟨.inl h, e⟩
    · exact .inr ⟨p, (pth_alt ha hb).2 (.inl hp), .inl h⟩
    · exact .inl ⟨.inr h, e⟩
    · exact .inr ⟨p, (pth_alt ha hb).2 (.inr hp), .inr h⟩
theorem pth_seq (ha : a.within o m) (hb : b.within (o + m) n) {p : Nat} (hp : Pth tk ms (gSeq a b) i p j) : (p ≤ o + m ∧ Pth tk ms a i p j) ∨ (o + m < p ∧ ∃ k, Acc tk ms a i k ∧ Pth tk ms b k p j) := by
  induction hp with
  | fst h1 h2 h3 =>
    rcases h1 with h1 | ⟨h0, h1⟩
    · exact .inl ⟨(ha.1 _ h1).2, .fst h1 h2 h3⟩
    · exact .inr ⟨(hb.1 _ h1).1, i, .inl ⟨h0, rfl⟩, .fst h1 h2 h3⟩
  | nxt _ h1 h2 h3 ih =>
    rcases h1 with h1 | h1 | ⟨h1, h1'⟩
    · have h4 := ha.2.2 _ _ h1
      rcases ih with ⟨_, ih⟩ | ⟨_, _⟩
      · exact .inl ⟨h4.2.2, .nxt ih h1 h2 h3⟩
      · omega
    · have h4 := hb.2.2 _ _ h1
      rcases ih with ⟨_, ih⟩ | ⟨_, k, ih1, ih2⟩
      · omega
      · exact .inr ⟨h4.2.1, k, ih1, .nxt ih2 h1 h2 h3⟩
    · have h4 := ha.2.1 _ h1
      rcases ih with ⟨_, ih⟩ | ⟨_, _⟩
      · exact .inr ⟨(hb.1 _ h1').1, _, .inr ⟨_, ih, h1⟩, .fst h1' h2 h3⟩
      · omega
theorem seq_pth {k : Nat} {p : Nat} (hp : Pth tk ms b k p j) (hk : Acc tk ms a i k) : Pth tk ms (gSeq a b) i p j := by
  induction hp with
  | fst h1 h2 h3 =>
    rcases hk with ⟨h0, rfl⟩ | ⟨q, hq, h0⟩
    · exact .fst (.inr ⟨h0, h1⟩) h2 h3
    · exact .nxt (hq.mono (fun q h => Or.inl h) fun p q h => Or.inl h) (.inr (.inr ⟨h0, h1⟩)) h2 h3
  | nxt _ h1 h2 h3 ih => exact .nxt ih (.inr (.inl h1)) h2 h3
theorem acc_seq (ha : a.within o m) (hb : b.within (o + m) n) : Acc tk ms (gSeq a b) i j ↔ ∃ k, Acc tk ms a i k ∧ Acc tk ms b k j := by
  constructor
  · rintro (⟨⟨h1, h2⟩, rfl⟩ | ⟨p, hp, h⟩)
    · exact ⟨i, .inl ⟨h1, rfl⟩, .inl ⟨h2, rfl⟩⟩
    · rcases pth_seq ha hb hp with ⟨h1, h2⟩ | ⟨h1, k, h2, h3⟩
      · rcases h with ⟨h3, h4⟩ | h3
        · exact ⟨j, .inr ⟨p, h2, h4⟩, .inl ⟨h3, rfl⟩⟩
        · have := hb.2.1 _ h3
          omega
      · rcases h with ⟨_, h4⟩ | h4
        · have := ha.2.1 _ h4
          omega
        · exact ⟨k, h2, .inr ⟨p, h3, h4⟩⟩
  · rintro ⟨k, h1, ⟨h2, rfl⟩ | ⟨p, h2, h3⟩⟩
    · rcases h1 with ⟨h3, rfl⟩ | ⟨p, h3, h4⟩
      · exact .inl ⟨⟨h3, h2⟩, rfl⟩
      · exact .inr ⟨p, h3.mono (fun q h => Or.inl h) fun p q h => Or.inl h, .inl ⟨h2, h4⟩⟩
    · exact .inr ⟨p, seq_pth h2 h1, .inr h3⟩
theorem Plus.back {R : Nat → Nat → Prop} {i m j : Nat} (h1 : m = i ∨ Plus R i m) (h2 : R m j) : Plus R i j := by
  rcases h1 with rfl | ⟨s, h1⟩
  · exact ⟨0, h2⟩
  · exact ⟨s + 1, m, h1, h2⟩
theorem pth_oft {kd : Int} {p : Nat} (hp : Pth tk ms (gOft kd a) i p j) : ∃ k, (k = i ∨ ((kd = 6 ∨ kd = 7) ∧ Plus (Acc tk ms a) i k)) ∧ Pth tk ms a k p j := by
  induction hp with
  | fst h1 h2 h3 => exact ⟨i, .inl rfl, .fst h1 h2 h3⟩
  | nxt _ h1 h2 h3 ih =>
    obtain ⟨k, hk, ih⟩ := ih
    rcases h1 with h1 | ⟨h0, h1, h1'⟩
    · exact ⟨k, hk, .nxt ih h1 h2 h3⟩
    · refine ⟨_, .inr ⟨h0, ?_⟩, .fst h1' h2 h3⟩
      exact Plus.back (hk.imp id fun h => h.2) (.inr ⟨_, ih, h1⟩)
theorem oft_pth {kd : Int} (hkd : kd = 6 ∨ kd = 7) {k p : Nat} (hp : Pth tk ms a k p j) (hk : Acc tk ms (gOft kd a) i k) : Pth tk ms (gOft kd a) i p j := by
  induction hp with
  | fst h1 h2 h3 =>
    rcases hk with ⟨_, rfl⟩ | ⟨q, hq, h0⟩
    · exact .fst h1 h2 h3
    · exact .nxt hq (.inr ⟨hkd, h0, h1⟩) h2 h3
  | nxt _ h1 h2 h3 ih => exact .nxt ih (.inl h1) h2 h3
theorem acc_up {kd : Int} (h : Acc tk ms a i j) : Acc tk ms (gOft kd a) i j := by
  rcases h with ⟨h, e⟩ | ⟨p, hp, h⟩
  · exact .inl ⟨.inl h, e⟩
  · exact .inr ⟨p, hp.mono (g := a) (h := gOft kd a) (fun q h => h) (fun p q h => Or.inl h), h⟩
theorem acc_more {kd : Int} (hkd : kd = 6 ∨ kd = 7) {k : Nat} (hk : Acc tk ms (gOft kd a) i k) (h : Acc tk ms a k j) : Acc tk ms (gOft kd a) i j := by
  rcases h with ⟨h, rfl⟩ | ⟨p, hp, h⟩
  · exact hk
  · exact .inr ⟨p, oft_pth hkd hp hk, h⟩
theorem acc_plus {kd : Int} (hkd : kd = 6 ∨ kd = 7) : ∀ (s j : Nat), Pw (Acc tk ms a) s i j → Acc tk ms (gOft kd a) i j
  | 0, j, h => acc_up h
  | s + 1, j, ⟨m, h1, h2⟩ => acc_more hkd (acc_plus hkd s m h1) h2
theorem acc_oft {kd : Int} (hkd : kd = 6 ∨ kd = 7 ∨ kd = 8) : Acc tk ms (gOft kd a) i j ↔ (kd ≠ 7 ∧ i = j) ∨ (kd ≠ 8 ∧ Plus (Acc tk ms a) i j) ∨ (kd = 8 ∧ Acc tk ms a i j) := by
  constructor
  · rintro (⟨h | h, e⟩ | ⟨p, hp, h⟩)
    · by_cases h8 : kd = 8
      · exact .inr (.inr ⟨h8, .inl ⟨h, e⟩⟩)
      · exact .inr (.inl ⟨h8, 0, .inl ⟨h, e⟩⟩)
    · exact .inl ⟨by omega, e⟩
    · obtain ⟨k, hk, hp'⟩ := pth_oft hp
      by_cases h8 : kd = 8
      · rcases hk with rfl | ⟨hk, _⟩
        · exact .inr (.inr ⟨h8, .inr ⟨p, hp', h⟩⟩)
        · omega
      · exact .inr (.inl ⟨h8, Plus.back (hk.imp id fun h => h.2) (.inr ⟨p, hp', h⟩)⟩)
  · rintro (⟨h7, e⟩ | ⟨h8, s, h⟩ | ⟨_, h⟩)
    · exact .inl ⟨.inr (by omega), e⟩
    · exact acc_plus (by omega) s j h
    · exact acc_up h
/-- The leaves of a list lie, from a number on, where the places say. -/
def LeafsAt (tk : Nat → Int → Prop) (o : Nat) (L : List (Int × Int)) : Prop := ∀ (x : Nat) (kd cl : Int), L[x]? = some (kd, cl) → ∀ m, tk (o + x + 1) m ↔ takesB kd cl m = true
theorem LeafsAt.left {L1 L2 : List (Int × Int)} (h : LeafsAt tk o (L1 ++ L2)) : LeafsAt tk o L1 := fun x kd cl hx => h x kd cl (by rw [List.getElem?_append_left (List.getElem?_eq_some_iff.1 hx).1]; exact hx)
theorem LeafsAt.right {L1 L2 : List (Int × Int)} (h : LeafsAt tk o (L1 ++ L2)) : LeafsAt tk (o + L1.length) L2 := fun x kd cl hx m => by
  rw [← h (L1.length + x) kd cl (by rw [List.getElem?_append_right (by omega), Nat.add_sub_cancel_left]; exact hx) m, show o + L1.length + x + 1 = o + (L1.length + x) + 1 by omega]
end
theorem takes_same {kd cl m : Int} (hk : 0 ≤ kd ∧ kd ≤ 3) (hc : kd = 0 → 0 ≤ cl ∧ cl < 36) : takesB kd cl m = takesT kd cl m := by
  unfold takesB takesT
  by_cases h0 : kd = 0
  · rw [if_pos h0, if_pos h0]
    have := hc h0
    by_cases e : m = cl
    · simp [e]; omega
    · simp [e]
  rw [if_neg h0, if_neg h0]
  by_cases h1 : kd = 1
  · rw [if_pos h1, if_pos h1]
    simp
  rw [if_neg h1, if_neg h1]
  by_cases h2 : kd = 2
  · rw [if_pos h2, if_pos h2]
    by_cases e : m = cl <;> simp [e, bne]
  rw [if_neg h2, if_neg h2, show kd = 3 by omega]
  simp
  by_cases e : m = 36 <;> simp [e]
/-- WHAT IS MATCHED by the places is what is matched by definition. -/
theorem acc_lead {ms : List Int} : ∀ (d : Nat) (wi : Bool) (t : Tr d), fitsT d wi t = true → ∀ (tk : Nat → Int → Prop) (o i j : Nat), LeafsAt tk o (leafL d t) → (Acc tk ms (glk d t o) i j ↔ Lead d t ms i j)
  | 0, _, t, _ => t.elim
  | d + 1, wi, t, hf => by
    obtain ⟨h1, h2, h3⟩ := fit_kids hf
    have ih := fun (k : Tr d) (hk : k ∈ Tr.kids t) => acc_lead (ms := ms) d true k (h3 k hk)
    intro tk o i j hL
    simp only [Lead, leadK, glk]
    simp only [leafL] at hL
    by_cases h9 : Tr.kind t = 9
    · rw [if_pos h9, if_neg (by omega), if_neg (by omega), if_neg (by omega), if_neg (by omega), if_neg (by omega), if_pos h9]
      exact acc_one
    rw [if_neg h9]
    by_cases hk : Tr.kids t = []
    · have hn := h1.1 hk
      have hl : (Tr.kids t).length = 0 := by rw [hk]; rfl
      rw [if_pos hl, if_neg (by omega), if_neg (by omega), if_neg (by omega), if_neg (by omega), if_neg (by omega), if_neg h9, acc_leaf]
      rw [if_pos ⟨hl, h9⟩] at hL
      have hb : (0 ≤ Tr.kind t ∧ Tr.kind t ≤ 3) ∧ (Tr.kind t = 0 → 0 ≤ Tr.cls t ∧ Tr.cls t < 36) := by
        simp only [fitsT, fitB, Bool.and_eq_true, decide_eq_true_eq] at hf
        obtain ⟨⟨⟨⟨f1, _⟩, _⟩, f2⟩, _⟩ := hf
        refine ⟨by omega, fun h0 => ?_⟩
        rw [if_pos (.inl h0)] at f2
        simpa using f2
      refine and_congr_right fun _ => exists_congr fun m => and_congr_right fun _ => ?_
      rw [show o + 1 = o + 0 + 1 by omega, hL 0 _ _ rfl m, takes_same hb.1 hb.2]
    have hl : (Tr.kids t).length ≠ 0 := fun e => hk (List.length_eq_zero_iff.1 e)
    rw [if_neg hl]
    rw [if_neg (fun h => hl h.1)] at hL
    have hk4 : Tr.kind t = 4 ∨ Tr.kind t = 5 ∨ Tr.kind t = 6 ∨ Tr.kind t = 7 ∨ Tr.kind t = 8 := Decidable.byContradiction fun hc => hk (h1.2 hc)
    have hseq : ∀ (l : List (Tr d)), (∀ k ∈ l, k ∈ Tr.kids t) → ∀ o i, LeafsAt tk o (l.flatMap fun k => leafL d k) → (Acc tk ms (seqG (fun k o => glk d k o) (fun k => leavesT d k) l o) i j ↔ Chain (fun k i j => Lead d k ms i j) l i j) := by
      intro l
      induction l with
      | nil => intro _ o i _; exact acc_one
      | cons k r ihl =>
        intro hm o i hL
        rw [List.flatMap_cons] at hL
        simp only [seqG, Chain]
        rw [acc_seq (glk_within d k o) (seqG_within (fun k o => glk_within d k o) r (o + leavesT d k))]
        refine exists_congr fun x => and_congr (ih k (hm k List.mem_cons_self) tk o i x hL.left) ?_
        have := hL.right
        rw [leafL_len] at this
        exact ihl (fun y hy => hm y (List.mem_cons_of_mem _ hy)) _ _ this
    have halt : ∀ (l : List (Tr d)), (∀ k ∈ l, k ∈ Tr.kids t) → ∀ o, LeafsAt tk o (l.flatMap fun k => leafL d k) → (Acc tk ms (altG (fun k o => glk d k o) (fun k => leavesT d k) l o) i j ↔ ∃ k, k ∈ l ∧ Lead d k ms i j) := by
      intro l
      induction l with
      | nil => intro _ o _; exact ⟨fun h => (acc_nil h).elim, fun ⟨k, hk, _⟩ => by simp at hk⟩
      | cons k r ihl =>
        intro hm o hL
        rw [List.flatMap_cons] at hL
        simp only [altG]
        have := hL.right
        rw [leafL_len] at this
        rw [acc_alt (glk_within d k o) (altG_within (fun k o => glk_within d k o) r (o + leavesT d k)), ih k (hm k List.mem_cons_self) tk o i j hL.left, ihl (fun y hy => hm y (List.mem_cons_of_mem _ hy)) _ this]
        constructor
        · rintro (h | ⟨y, hy, h⟩)
          · exact ⟨k, List.mem_cons_self, h⟩
          · exact ⟨y, List.mem_cons_of_mem _ hy, h⟩
        · rintro ⟨y, hy, h⟩
          rcases List.mem_cons.1 hy with rfl | hy
          · exact .inl h
          · exact .inr ⟨y, hy, h⟩
    by_cases h4 : Tr.kind t = 4
    · rw [if_pos h4, if_pos h4]
      exact hseq _ (fun k h => h) o i hL
    rw [if_neg h4, if_neg h4]
    by_cases h5 : Tr.kind t = 5
    · rw [if_pos h5]
      have e4 : ∀ a : GS, gOft (Tr.kind t) a = a := fun a => GS.same (by simp only [gOft]; rw [h5]; simp) (by simp [gOft]) (by simp [gOft]) (by simp only [gOft]; rw [h5]; simp)
      rw [e4]
      exact halt _ (fun k h => h) o hL
    rw [if_neg h5]
    have h6 : Tr.kind t = 6 ∨ Tr.kind t = 7 ∨ Tr.kind t = 8 := by omega
    obtain ⟨k, hk1⟩ := List.length_eq_one_iff.1 (h2 h6)
    have hkm : k ∈ Tr.kids t := by rw [hk1]; exact List.mem_cons_self
    rw [hk1] at hL ⊢
    have hL' : LeafsAt tk o (leafL d k) := by simpa using hL
    have e5 : altG (fun k o => glk d k o) (fun k => leavesT d k) [k] o = glk d k o := gAlt_nil _
    rw [e5, acc_oft h6]
    have eR : Acc tk ms (glk d k o) = fun i j => Lead d k ms i j := by
      funext x y
      exact propext (ih k hkm tk o x y hL')
    rw [eR]
    have hh : ∀ Q : Tr d → Prop, (∃ k', [k].head? = some k' ∧ Q k') ↔ Q k := fun Q => ⟨fun ⟨k', e, h⟩ => by injection e with e; rw [e]; exact h, fun h => ⟨k, rfl, h⟩⟩
    by_cases k6 : Tr.kind t = 6
    · rw [if_pos k6, hh (fun k => Plus (fun i j => Lead d k ms i j) i j), k6]
      simp
    rw [if_neg k6]
    by_cases k7 : Tr.kind t = 7
    · rw [if_pos k7, hh (fun k => Plus (fun i j => Lead d k ms i j) i j), k7]
      simp
    have k8 : Tr.kind t = 8 := by omega
    rw [if_neg k7, if_pos k8, hh (fun k => Lead d k ms i j), k8]
    simp
end Go.Proofs.Ythdhbkngbmjjkaa
