/- The places of an expression: which come first, which last, which behind one another. Plain. No conditions. -/
import Derived.Test.YthdhbkngbmjjkaaG1
namespace Go.Proofs.Ythdhbkngbmjjkaa
set_option linter.unusedVariables false
/-- Of a part: whether it matches nothing; its first places, its last ones, and the pairs. -/
structure GS where
  emp : Prop
  fst : Nat → Prop
  lst : Nat → Prop
  prs : Nat → Nat → Prop
theorem GS.same {a b : GS} (h1 : a.emp ↔ b.emp) (h2 : ∀ q, a.fst q ↔ b.fst q) (h3 : ∀ q, a.lst q ↔ b.lst q) (h4 : ∀ p q, a.prs p q ↔ b.prs p q) : a = b := by
  cases a; cases b
  simp only [GS.mk.injEq]
  exact ⟨propext h1, funext fun q => propext (h2 q), funext fun q => propext (h3 q), funext fun p => funext fun q => propext (h4 p q)⟩
def gNil : GS := ⟨False, fun _ => False, fun _ => False, fun _ _ => False⟩
def gOne : GS := ⟨True, fun _ => False, fun _ => False, fun _ _ => False⟩
def gLeaf (k : Nat) : GS := ⟨False, fun q => q = k, fun q => q = k, fun _ _ => False⟩
def gAlt (a b : GS) : GS := ⟨a.emp ∨ b.emp, fun q => a.fst q ∨ b.fst q, fun q => a.lst q ∨ b.lst q, fun p q => a.prs p q ∨ b.prs p q⟩
def gSeq (a b : GS) : GS := ⟨a.emp ∧ b.emp, fun q => a.fst q ∨ (a.emp ∧ b.fst q), fun q => (b.emp ∧ a.lst q) ∨ b.lst q, fun p q => a.prs p q ∨ b.prs p q ∨ (a.lst p ∧ b.fst q)⟩
def gOft (kd : Int) (a : GS) : GS := ⟨a.emp ∨ kd = 6 ∨ kd = 8, a.fst, a.lst, fun p q => a.prs p q ∨ ((kd = 6 ∨ kd = 7) ∧ a.lst p ∧ a.fst q)⟩
theorem gAlt_nil (a : GS) : gAlt a gNil = a := GS.same (by simp [gAlt, gNil]) (by simp [gAlt, gNil]) (by simp [gAlt, gNil]) (by simp [gAlt, gNil])
theorem gSeq_one (a : GS) : gSeq a gOne = a := GS.same (by simp [gSeq, gOne]) (by simp [gSeq, gOne]) (by simp [gSeq, gOne]) (by simp [gSeq, gOne])
theorem nil_gAlt (a : GS) : gAlt gNil a = a := GS.same (by simp [gAlt, gNil]) (by simp [gAlt, gNil]) (by simp [gAlt, gNil]) (by simp [gAlt, gNil])
theorem one_gSeq (a : GS) : gSeq gOne a = a := GS.same (by simp [gSeq, gOne]) (by simp [gSeq, gOne]) (by simp [gSeq, gOne]) (by simp [gSeq, gOne])
theorem gAlt_assoc (a b c : GS) : gAlt (gAlt a b) c = gAlt a (gAlt b c) := GS.same (by simp [gAlt, or_assoc]) (by simp [gAlt, or_assoc]) (by simp [gAlt, or_assoc]) (by simp [gAlt, or_assoc])
theorem gSeq_assoc (a b c : GS) : gSeq (gSeq a b) c = gSeq a (gSeq b c) := GS.same (by simp only [gSeq]; grind) (by simp only [gSeq]; grind) (by simp only [gSeq]; grind) (by simp only [gSeq]; grind)
def altG {T : Type} (g : T → Nat → GS) (n : T → Nat) : List T → Nat → GS
  | [], _ => gNil
  | k :: r, o => gAlt (g k o) (altG g n r (o + n k))
def seqG {T : Type} (g : T → Nat → GS) (n : T → Nat) : List T → Nat → GS
  | [], _ => gOne
  | k :: r, o => gSeq (g k o) (seqG g n r (o + n k))
/-- The places of a tree; so many leaves stand ahead of it. -/
def glk : (d : Nat) → Tr d → Nat → GS
  | 0, t, _ => t.elim
  | d + 1, t, o => if Tr.kind t = 9 then gOne else if (Tr.kids t).length = 0 then gLeaf (o + 1)
    else if Tr.kind t = 4 then seqG (fun k o => glk d k o) (fun k => leavesT d k) (Tr.kids t) o else gOft (Tr.kind t) (altG (fun k o => glk d k o) (fun k => leavesT d k) (Tr.kids t) o)
/-- All places are ones of so many behind so many. -/
def GS.within (g : GS) (o n : Nat) : Prop := (∀ q, g.fst q → o < q ∧ q ≤ o + n) ∧ (∀ q, g.lst q → o < q ∧ q ≤ o + n) ∧ ∀ p q, g.prs p q → (o < p ∧ p ≤ o + n) ∧ o < q ∧ q ≤ o + n
theorem GS.within.alt {a b : GS} {o m n : Nat} (ha : a.within o m) (hb : b.within (o + m) n) : (gAlt a b).within o (m + n) := by
  obtain ⟨a1, a2, a3⟩ := ha
  obtain ⟨b1, b2, b3⟩ := hb
  refine ⟨fun q h => ?_, fun q h => ?_, fun p q h => ?_⟩
  · rcases h with h | h
    · have := a1 q h; omega
    · have := b1 q h; omega
  · rcases h with h | h
    · have := a2 q h; omega
    · have := b2 q h; omega
  · rcases h with h | h
    · have := a3 p q h; omega
    · have := b3 p q h; omega
theorem GS.within.seq {a b : GS} {o m n : Nat} (ha : a.within o m) (hb : b.within (o + m) n) : (gSeq a b).within o (m + n) := by
  obtain ⟨a1, a2, a3⟩ := ha
  obtain ⟨b1, b2, b3⟩ := hb
  refine ⟨fun q h => ?_, fun q h => ?_, fun p q h => ?_⟩
  · rcases h with h | ⟨_, h⟩
    · have := a1 q h; omega
    · have := b1 q h; omega
  · rcases h with ⟨_, h⟩ | h
    · have := a2 q h; omega
    · have := b2 q h; omega
  · rcases h with h | h | ⟨h, h'⟩
    · have := a3 p q h; omega
    · have := b3 p q h; omega
    · have := a2 p h; have := b1 q h'; omega
theorem GS.within.oft {a : GS} {o m : Nat} {kd : Int} (ha : a.within o m) : (gOft kd a).within o m := by
  obtain ⟨a1, a2, a3⟩ := ha
  refine ⟨a1, a2, fun p q h => ?_⟩
  rcases h with h | ⟨_, h, h'⟩
  · exact a3 p q h
  · exact ⟨a2 p h, a1 q h'⟩
theorem altG_within {T : Type} {g : T → Nat → GS} {n : T → Nat} (h : ∀ k o, (g k o).within o (n k)) : ∀ (l : List T) (o : Nat), (altG g n l o).within o (sumL n l)
  | [], o => ⟨fun q h => h.elim, fun q h => h.elim, fun p q h => h.elim⟩
  | k :: r, o => (h k o).alt (altG_within h r (o + n k))
theorem seqG_within {T : Type} {g : T → Nat → GS} {n : T → Nat} (h : ∀ k o, (g k o).within o (n k)) : ∀ (l : List T) (o : Nat), (seqG g n l o).within o (sumL n l)
  | [], o => ⟨fun q h => h.elim, fun q h => h.elim, fun p q h => h.elim⟩
  | k :: r, o => (h k o).seq (seqG_within h r (o + n k))
theorem glk_within : ∀ (d : Nat) (t : Tr d) (o : Nat), (glk d t o).within o (leavesT d t)
  | 0, t, _ => t.elim
  | d + 1, t, o => by
    have ih := glk_within d
    simp only [glk]
    split
    · exact ⟨fun q h => h.elim, fun q h => h.elim, fun p q h => h.elim⟩
    · rename_i h9
      by_cases h0 : (Tr.kids t).length = 0
      · rw [if_pos h0, show leavesT (d + 1) t = 1 from if_pos ⟨h0, h9⟩]
        exact ⟨fun q h => by have : q = o + 1 := h; omega, fun q h => by have : q = o + 1 := h; omega, fun p q h => h.elim⟩
      · rw [if_neg h0, show leavesT (d + 1) t = sumL (fun k => leavesT d k) (Tr.kids t) from if_neg (fun h => h0 h.1)]
        split
        · exact seqG_within (fun k o => ih k o) _ _
        · exact (altG_within (fun k o => ih k o) _ _).oft
/-- The same places, so many further. -/
def gShift (k : Nat) (g : GS) : GS := ⟨g.emp, fun q => ∃ x, q = x + k ∧ g.fst x, fun q => ∃ x, q = x + k ∧ g.lst x, fun p q => ∃ x y, p = x + k ∧ q = y + k ∧ g.prs x y⟩
theorem shift_alt (k : Nat) (a b : GS) : gShift k (gAlt a b) = gAlt (gShift k a) (gShift k b) := GS.same Iff.rfl (by simp only [gShift, gAlt]; grind) (by simp only [gShift, gAlt]; grind) (by simp only [gShift, gAlt]; grind)
theorem shift_seq (k : Nat) (a b : GS) : gShift k (gSeq a b) = gSeq (gShift k a) (gShift k b) := GS.same Iff.rfl (by simp only [gShift, gSeq]; grind) (by simp only [gShift, gSeq]; grind) (by simp only [gShift, gSeq]; grind)
theorem shift_oft (k : Nat) (kd : Int) (a : GS) : gShift k (gOft kd a) = gOft kd (gShift k a) := GS.same Iff.rfl (by simp only [gShift, gOft]; grind) (by simp only [gShift, gOft]; grind) (by simp only [gShift, gOft]; grind)
theorem shift_nil (k : Nat) : gShift k gNil = gNil := GS.same Iff.rfl (by simp [gShift, gNil]) (by simp [gShift, gNil]) (by simp [gShift, gNil])
theorem shift_one (k : Nat) : gShift k gOne = gOne := GS.same Iff.rfl (by simp [gShift, gOne]) (by simp [gShift, gOne]) (by simp [gShift, gOne])
theorem shift_leaf (k q : Nat) : gShift k (gLeaf q) = gLeaf (q + k) := GS.same Iff.rfl (by simp [gShift, gLeaf]) (by simp [gShift, gLeaf]) (by simp [gShift, gLeaf])
theorem altG_shift {T : Type} {g : T → Nat → GS} {n : T → Nat} (h : ∀ t o k, g t (o + k) = gShift k (g t o)) : ∀ (l : List T) (o k : Nat), altG g n l (o + k) = gShift k (altG g n l o)
  | [], o, k => (shift_nil k).symm
  | t :: r, o, k => by
    simp only [altG]
    rw [shift_alt, ← h, ← altG_shift h r, show o + k + n t = o + n t + k by omega]
theorem seqG_shift {T : Type} {g : T → Nat → GS} {n : T → Nat} (h : ∀ t o k, g t (o + k) = gShift k (g t o)) : ∀ (l : List T) (o k : Nat), seqG g n l (o + k) = gShift k (seqG g n l o)
  | [], o, k => (shift_one k).symm
  | t :: r, o, k => by
    simp only [seqG]
    rw [shift_seq, ← h, ← seqG_shift h r, show o + k + n t = o + n t + k by omega]
theorem glk_shift : ∀ (d : Nat) (t : Tr d) (o k : Nat), glk d t (o + k) = gShift k (glk d t o)
  | 0, t, _, _ => t.elim
  | d + 1, t, o, k => by
    have ih := glk_shift d
    simp only [glk]
    split
    · exact (shift_one k).symm
    split
    · rw [shift_leaf, show o + k + 1 = o + 1 + k by omega]
    split
    · exact seqG_shift (fun t o k => ih t o k) _ _ _
    · rw [shift_oft, altG_shift (fun t o k => ih t o k)]
end Go.Proofs.Ythdhbkngbmjjkaa
