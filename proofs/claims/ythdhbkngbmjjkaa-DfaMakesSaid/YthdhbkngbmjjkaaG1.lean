/- To which knots one may go without a mark: the list that reach makes holds just those. No conditions but that each arrow leads to a knot. -/
import Derived.Test.YthdhbkngbmjjkaaTt
namespace Go.Proofs.Ythdhbkngbmjjkaa
/-- One may go from a knot to a knot without a mark. -/
inductive Way (ks : List Kn) : Nat → Nat → Prop
  | refl (a : Nat) : Way ks a a
  | step {a b c : Nat} : Way ks a b → (c : Int) ∈ (kn ks b).free → Way ks a c
theorem Way.trans {ks : List Kn} {a b c : Nat} (h : Way ks a b) (h2 : Way ks b c) : Way ks a c := by
  induction h2 with
  | refl => exact h
  | step _ h3 ih => exact .step ih h3
theorem add1_mem {l : List Int} {z x : Int} : x ∈ add1 l z ↔ x ∈ l ∨ x = z := by
  unfold add1
  split
  · rename_i h
    rw [inL_iff] at h
    constructor
    · exact .inl
    · rintro (h1 | rfl)
      · exact h1
      · exact h
  · simp
theorem addAll_mem : ∀ {fs l : List Int} {x : Int}, x ∈ addAll l fs ↔ x ∈ l ∨ x ∈ fs
  | [], l, x => by simp [addAll]
  | z :: fs, l, x => by
    show x ∈ addAll (add1 l z) fs ↔ _
    rw [addAll_mem (fs := fs), add1_mem, List.mem_cons]
    constructor
    · rintro ((h | h) | h)
      · exact .inl h
      · exact .inr (.inl h)
      · exact .inr (.inr h)
    · rintro (h | h | h)
      · exact .inl (.inl h)
      · exact .inl (.inr h)
      · exact .inr h
theorem addAll_nth : ∀ (fs l : List Int) (i : Nat), i < l.length → nth (addAll l fs) i = nth l i
  | [], _, _, _ => rfl
  | z :: fs, l, i, h => by
    show nth (addAll (add1 l z) fs) i = _
    rw [addAll_nth fs (add1 l z) i (Nat.lt_of_lt_of_le h (add1_len l z)), add1_nth h]
/-- What is made holds only what one may go to. -/
theorem reachF_sound {ks : List Kn} {k : Nat} : ∀ f i l, (∀ z ∈ l, 0 ≤ z ∧ Way ks k z.toNat) → (∀ j, ∀ z ∈ (kn ks j).free, 0 ≤ z) → ∀ z ∈ reachF ks f i l, 0 ≤ z ∧ Way ks k z.toNat
  | 0, _, _, h, _ => h
  | f + 1, i, l, h, hp => by
    simp only [reachF]
    split
    · rename_i hi
      refine reachF_sound f (i + 1) _ (fun z hz => ?_) hp
      rcases addAll_mem.1 hz with hz | hz
      · exact h z hz
      · obtain ⟨h0, h1⟩ := h _ (nth_mem hi)
        have hz0 := hp _ z hz
        refine ⟨hz0, h1.step (c := z.toNat) ?_⟩
        rw [Int.toNat_of_nonneg hz0]
        exact hz
    · exact h
/-- What is made is shut: behind the first so many all arrows are followed. -/
theorem reachF_shut {s : Bs} (ho : s.ok) : ∀ f i l, Rch s.kns.length l → i ≤ l.length → s.kns.length + 1 ≤ f + i → (∀ j, j < i → ∀ z ∈ (kn s.kns (nth l j).toNat).free, z ∈ l) →
    (∀ x ∈ l, x ∈ reachF s.kns f i l) ∧ ∀ x ∈ reachF s.kns f i l, ∀ z ∈ (kn s.kns x.toNat).free, z ∈ reachF s.kns f i l
  | 0, i, l, h, hi, hf, _ => by
    have := h.len
    omega
  | f + 1, i, l, h, hi, hf, hd => by
    simp only [reachF]
    split
    · rename_i hlt
      have h' := Rch.all h (ho.1 (nth l i).toNat)
      obtain ⟨a, b⟩ := reachF_shut ho f (i + 1) (addAll l (kn s.kns (nth l i).toNat).free) h' (by have := addAll_len (kn s.kns (nth l i).toNat).free l; omega) (by omega) (fun j hj z hz => by
        by_cases e : j = i
        · subst e
          rw [addAll_nth _ _ _ hlt] at hz
          exact addAll_mem.2 (.inr hz)
        · rw [addAll_nth _ _ _ (by omega)] at hz
          exact addAll_mem.2 (.inl (hd j (by omega) z hz)))
      exact ⟨fun x hx => a x (addAll_mem.2 (.inl hx)), b⟩
    · rename_i hlt
      obtain rfl : i = l.length := by omega
      refine ⟨fun x hx => hx, fun x hx z hz => ?_⟩
      obtain ⟨j, hj, e⟩ := List.mem_iff_getElem.1 hx
      have : nth l j = x := by rw [nth_get hj, e]
      exact hd j hj z (by rw [this]; exact hz)
theorem reachL_mem {s : Bs} (ho : s.ok) {k : Nat} (hk : k < s.kns.length) (x : Int) : x ∈ reachL s.kns k ↔ ∃ b : Nat, x = (b : Int) ∧ Way s.kns k b := by
  have hr : Rch s.kns.length [(k : Int)] := ⟨by simp, fun z hz => by rw [List.mem_singleton.1 hz]; omega⟩
  constructor
  · intro hx
    obtain ⟨h0, h1⟩ := reachF_sound (k := k) (s.kns.length + 1) 0 [(k : Int)] (fun z hz => by rw [List.mem_singleton.1 hz]; exact ⟨by omega, Way.refl _⟩) (fun j z hz => (ho.1 j z hz).1) x hx
    exact ⟨x.toNat, by omega, h1⟩
  · rintro ⟨b, rfl, hw⟩
    obtain ⟨h1, h2⟩ := reachF_shut ho (s.kns.length + 1) 0 [(k : Int)] hr (by simp) (by omega) (fun j hj => by omega)
    induction hw with
    | refl => exact h1 _ (by simp)
    | step _ hc ih => exact h2 _ ih _ hc
/-- What a knot gives: the leaves that begin there, and (below 0) the expression that ends there. -/
def Gives (s : Bs) (k : Nat) (x : Int) : Prop := x ∈ (kn s.kns k).lv ∨ (0 < (kn s.kns k).fin ∧ x = -(kn s.kns k).fin)
/-- What all the knots give to which one may go. -/
def Yields (s : Bs) (k : Nat) (x : Int) : Prop := ∃ b, Way s.kns k b ∧ Gives s b x
theorem lvs_mem {s : Bs} (ho : s.ok) {k : Nat} (hk : k < s.kns.length) (x : Int) : x ∈ lvsOf s.kns (reachL s.kns k) ↔ 1 ≤ x ∧ Yields s k x := by
  unfold lvsOf
  rw [List.mem_flatMap]
  constructor
  · rintro ⟨z, hz, hx⟩
    obtain ⟨b, rfl, hw⟩ := (reachL_mem ho hk z).1 hz
    have hx' : x ∈ (kn s.kns b).lv := hx
    exact ⟨(ho.2.1 _ _ hx').1, b, hw, .inl hx'⟩
  · rintro ⟨h1, b, hw, hx | ⟨h2, rfl⟩⟩
    · exact ⟨(b : Int), (reachL_mem ho hk _).2 ⟨b, rfl, hw⟩, hx⟩
    · omega
theorem bits_test {ks : List Kn} : ∀ (l : List Int) (b j : Nat), (l.foldl (bit1 ks) b).testBit j = true ↔ b.testBit j = true ∨ ∃ z ∈ l, (kn ks z.toNat).fin = ((j + 1 : Nat) : Int)
  | [], b, j => by simp
  | z :: r, b, j => by
    rw [List.foldl_cons, bits_test r]
    have h : (bit1 ks b z).testBit j = true ↔ b.testBit j = true ∨ (kn ks z.toNat).fin = ((j + 1 : Nat) : Int) := by
      unfold bit1
      split
      · rename_i h0
        rw [Nat.testBit_or, Bool.or_eq_true, Nat.testBit_two_pow]
        simp only [decide_eq_true_eq]
        constructor
        · rintro (h | h)
          · exact .inl h
          · exact .inr (by omega)
        · rintro (h | h)
          · exact .inl h
          · exact .inr (by omega)
      · rename_i h0
        constructor
        · exact .inl
        · rintro (h | h)
          · exact h
          · omega
    rw [h]
    constructor
    · rintro ((h | h) | ⟨y, hy, h⟩)
      · exact .inl h
      · exact .inr ⟨z, List.mem_cons_self, h⟩
      · exact .inr ⟨y, List.mem_cons_of_mem _ hy, h⟩
    · rintro (h | ⟨y, hy, hh⟩)
      · exact .inl (.inl h)
      · rcases List.mem_cons.1 hy with rfl | hy
        · exact .inl (.inr hh)
        · exact .inr ⟨y, hy, hh⟩
theorem bitsOf_test {s : Bs} (ho : s.ok) {k : Nat} (hk : k < s.kns.length) (j : Nat) : (bitsOf s.kns (reachL s.kns k)).testBit j = true ↔ Yields s k (-((j + 1 : Nat) : Int)) := by
  unfold bitsOf
  rw [bits_test]
  constructor
  · rintro (h | ⟨z, hz, h⟩)
    · simp at h
    · obtain ⟨b, rfl, hw⟩ := (reachL_mem ho hk z).1 hz
      rw [Int.toNat_natCast] at h
      exact ⟨b, hw, .inr ⟨by omega, by rw [h]⟩⟩
  · rintro ⟨b, hw, h | ⟨h1, h2⟩⟩
    · have := (ho.2.1 _ _ h).1
      omega
    · exact .inr ⟨(b : Int), (reachL_mem ho hk _).2 ⟨b, rfl, hw⟩, by rw [Int.toNat_natCast]; omega⟩
end Go.Proofs.Ythdhbkngbmjjkaa
namespace Go.Proofs.Ythdhbkngbmjjkaa
set_option linter.unusedVariables false
/-- Of a part: whether it matches nothing; its first places, its last ones, and the pairs. -/
structure GS where
  emp : Prop
  fst : Nat → Prop
  lst : Nat → Prop
  prs : Nat → Nat → Prop
theorem GS.same {a b : GS} (h1 : a.emp ↔ b.emp) (h2 : ∀ q, a.fst q ↔ b.fst q) (h3 : ∀ q, a.lst q ↔ b.lst q) (h4 : ∀ p q, a.prs p q ↔ b.prs p q) : a = b := by
  cases a; cases b
  simp only [GS.mk.injEq]
  exact ⟨propext h1, funext fun q => propext (h2 q), funext fun q => propext (h3 q), funext fun p => funext fun q => propext (h4 p q)⟩
def gNil : GS := ⟨False, fun _ => False, fun _ => False, fun _ _ => False⟩
def gOne : GS := ⟨True, fun _ => False, fun _ => False, fun _ _ => False⟩
def gLeaf (k : Nat) : GS := ⟨False, fun q => q = k, fun q => q = k, fun _ _ => False⟩
def gAlt (a b : GS) : GS := ⟨a.emp ∨ b.emp, fun q => a.fst q ∨ b.fst q, fun q => a.lst q ∨ b.lst q, fun p q => a.prs p q ∨ b.prs p q⟩
def gSeq (a b : GS) : GS := ⟨a.emp ∧ b.emp, fun q => a.fst q ∨ (a.emp ∧ b.fst q), fun q => (b.emp ∧ a.lst q) ∨ b.lst q, fun p q => a.prs p q ∨ b.prs p q ∨ (a.lst p ∧ b.fst q)⟩
def gOft (kd : Int) (a : GS) : GS := ⟨a.emp ∨ kd = 6 ∨ kd = 8, a.fst, a.lst, fun p q => a.prs p q ∨ ((kd = 6 ∨ kd = 7) ∧ a.lst p ∧ a.fst q)⟩
theorem gAlt_nil (a : GS) : gAlt a gNil = a := GS.same (by simp [gAlt, gNil]) (by simp [gAlt, gNil]) (by simp [gAlt, gNil]) (by simp [gAlt, gNil])
theorem gSeq_one (a : GS) : gSeq a gOne = a := GS.same (by simp [gSeq, gOne]) (by simp [gSeq, gOne]) (by simp [gSeq, gOne]) (by simp [gSeq, gOne])
theorem nil_gAlt (a : GS) : gAlt gNil a = a := GS.same (by simp [gAlt, gNil]) (by simp [gAlt, gNil]) (by simp [gAlt, gNil]) (by simp [gAlt, gNil])
theorem one_gSeq (a : GS) : gSeq gOne a = a := GS.same (by simp [gSeq, gOne]) (by simp [gSeq, gOne]) (by simp [gSeq, gOne]) (by simp [gSeq, gOne])
theorem gAlt_assoc (a b c : GS) : gAlt (gAlt a b) c = gAlt a (gAlt b c) := GS.same (by simp [gAlt, or_assoc]) (by simp [gAlt, or_assoc]) (by simp [gAlt, or_assoc]) (by simp [gAlt, or_assoc])
theorem gSeq_assoc (a b c : GS) : gSeq (gSeq a b) c = gSeq a (gSeq b c) := GS.same (by simp only [gSeq]; grind) (by simp only [gSeq]; grind) (by simp only [gSeq]; grind) (by simp only [gSeq]; grind)
def altG {T : Type} (g : T → Nat → GS) (n : T → Nat) : List T → Nat → GS
  | [], _ => gNil
  | k :: r, o => gAlt (g k o) (altG g n r (o + n k))
def seqG {T : Type} (g : T → Nat → GS) (n : T → Nat) : List T → Nat → GS
  | [], _ => gOne
  | k :: r, o => gSeq (g k o) (seqG g n r (o + n k))
/-- The places of a tree; so many leaves stand ahead of it. -/
def glk : (d : Nat) → Tr d → Nat → GS
  | 0, t, _ => t.elim
  | d + 1, t, o => if Tr.kind t = 9 then gOne else if (Tr.kids t).length = 0 then gLeaf (o + 1)
    else if Tr.kind t = 4 then seqG (fun k o => glk d k o) (fun k => leavesT d k) (Tr.kids t) o else gOft (Tr.kind t) (altG (fun k o => glk d k o) (fun k => leavesT d k) (Tr.kids t) o)
/-- All places are ones of so many behind so many. -/
def GS.within (g : GS) (o n : Nat) : Prop := (∀ q, g.fst q → o < q ∧ q ≤ o + n) ∧ (∀ q, g.lst q → o < q ∧ q ≤ o + n) ∧ ∀ p q, g.prs p q → (o < p ∧ p ≤ o + n) ∧ o < q ∧ q ≤ o + n
theorem GS.within.alt {a b : GS} {o m n : Nat} (ha : a.within o m) (hb : b.within (o + m) n) : (gAlt a b).within o (m + n) := by
  obtain ⟨a1, a2, a3⟩ := ha
  obtain ⟨b1, b2, b3⟩ := hb
  refine ⟨fun q h => ?_, fun q h => ?_, fun p q h => ?_⟩
  · rcases h with h | h
    · have := a1 q h; omega
    · have := b1 q h; omega
  · rcases h with h | h
    · have := a2 q h; omega
    · have := b2 q h; omega
  · rcases h with h | h
    · have := a3 p q h; omega
    · have := b3 p q h; omega
theorem GS.within.seq {a b : GS} {o m n : Nat} (ha : a.within o m) (hb : b.within (o + m) n) : (gSeq a b).within o (m + n) := by
  obtain ⟨a1, a2, a3⟩ := ha
  obtain ⟨b1, b2, b3⟩ := hb
  refine ⟨fun q h => ?_, fun q h => ?_, fun p q h => ?_⟩
  · rcases h with h | ⟨_, h⟩
    · have := a1 q h; omega
    · have := b1 q h; omega
  · rcases h with ⟨_, h⟩ | h
    · have := a2 q h; omega
    · have := b2 q h; omega
  · rcases h with h | h | ⟨h, h'⟩
    · have := a3 p q h; omega
    · have := b3 p q h; omega
    · have := a2 p h; have := b1 q h'; omega
theorem GS.within.oft {a : GS} {o m : Nat} {kd : Int} (ha : a.within o m) : (gOft kd a).within o m := by
  obtain ⟨a1, a2, a3⟩ := ha
  refine ⟨a1, a2, fun p q h => ?_⟩
  rcases h with h | ⟨_, h, h'⟩
  · exact a3 p q h
  · exact ⟨a2 p h, a1 q h'⟩
theorem altG_within {T : Type} {g : T → Nat → GS} {n : T → Nat} (h : ∀ k o, (g k o).within o (n k)) : ∀ (l : List T) (o : Nat), (altG g n l o).within o (sumL n l)
  | [], o => ⟨fun q h => h.elim, fun q h => h.elim, fun p q h => h.elim⟩
  | k :: r, o => (h k o).alt (altG_within h r (o + n k))
theorem seqG_within {T : Type} {g : T → Nat → GS} {n : T → Nat} (h : ∀ k o, (g k o).within o (n k)) : ∀ (l : List T) (o : Nat), (seqG g n l o).within o (sumL n l)
  | [], o => ⟨fun q h => h.elim, fun q h => h.elim, fun p q h => h.elim⟩
  | k :: r, o => (h k o).seq (seqG_within h r (o + n k))
theorem glk_within : ∀ (d : Nat) (t : Tr d) (o : Nat), (glk d t o).within o (leavesT d t)
  | 0, t, _ => t.elim
  | d + 1, t, o => by
    have ih := glk_within d
    simp only [glk]
    split
    · exact ⟨fun q h => h.elim, fun q h => h.elim, fun p q h => h.elim⟩
    · rename_i h9
      by_cases h0 : (Tr.kids t).length = 0
      · rw [if_pos h0, show leavesT (d + 1) t = 1 from if_pos ⟨h0, h9⟩]
        exact ⟨fun q h => by have : q = o + 1 := h; omega, fun q h => by have : q = o + 1 := h; omega, fun p q h => h.elim⟩
      · rw [if_neg h0, show leavesT (d + 1) t = sumL (fun k => leavesT d k) (Tr.kids t) from if_neg (fun h => h0 h.1)]
        split
        · exact seqG_within (fun k o => ih k o) _ _
        · exact (altG_within (fun k o => ih k o) _ _).oft
/-- The same places, so many further. -/
def gShift (k : Nat) (g : GS) : GS := ⟨g.emp, fun q => ∃ x, q = x + k ∧ g.fst x, fun q => ∃ x, q = x + k ∧ g.lst x, fun p q => ∃ x y, p = x + k ∧ q = y + k ∧ g.prs x y⟩
theorem shift_alt (k : Nat) (a b : GS) : gShift k (gAlt a b) = gAlt (gShift k a) (gShift k b) := GS.same Iff.rfl (by simp only [gShift, gAlt]; grind) (by simp only [gShift, gAlt]; grind) (by simp only [gShift, gAlt]; grind)
theorem shift_seq (k : Nat) (a b : GS) : gShift k (gSeq a b) = gSeq (gShift k a) (gShift k b) := GS.same Iff.rfl (by simp only [gShift, gSeq]; grind) (by simp only [gShift, gSeq]; grind) (by simp only [gShift, gSeq]; grind)
theorem shift_oft (k : Nat) (kd : Int) (a : GS) : gShift k (gOft kd a) = gOft kd (gShift k a) := GS.same Iff.rfl (by simp only [gShift, gOft]; grind) (by simp only [gShift, gOft]; grind) (by simp only [gShift, gOft]; grind)
theorem shift_nil (k : Nat) : gShift k gNil = gNil := GS.same Iff.rfl (by simp [gShift, gNil]) (by simp [gShift, gNil]) (by simp [gShift, gNil])
theorem shift_one (k : Nat) : gShift k gOne = gOne := GS.same Iff.rfl (by simp [gShift, gOne]) (by simp [gShift, gOne]) (by simp [gShift, gOne])
theorem shift_leaf (k q : Nat) : gShift k (gLeaf q) = gLeaf (q + k) := GS.same Iff.rfl (by simp [gShift, gLeaf]) (by simp [gShift, gLeaf]) (by simp [gShift, gLeaf])
theorem altG_shift {T : Type} {g : T → Nat → GS} {n : T → Nat} (h : ∀ t o k, g t (o + k) = gShift k (g t o)) : ∀ (l : List T) (o k : Nat), altG g n l (o + k) = gShift k (altG g n l o)
  | [], o, k => (shift_nil k).symm
  | t :: r, o, k => by
    simp only [altG]
    rw [shift_alt, ← h, ← altG_shift h r, show o + k + n t = o + n t + k by omega]
theorem seqG_shift {T : Type} {g : T → Nat → GS} {n : T → Nat} (h : ∀ t o k, g t (o + k) = gShift k (g t o)) : ∀ (l : List T) (o k : Nat), seqG g n l (o + k) = gShift k (seqG g n l o)
  | [], o, k => (shift_one k).symm
  | t :: r, o, k => by
    simp only [seqG]
    rw [shift_seq, ← h, ← seqG_shift h r, show o + k + n t = o + n t + k by omega]
theorem glk_shift : ∀ (d : Nat) (t : Tr d) (o k : Nat), glk d t (o + k) = gShift k (glk d t o)
  | 0, t, _, _ => t.elim
  | d + 1, t, o, k => by
    have ih := glk_shift d
    simp only [glk]
    split
    · exact (shift_one k).symm
    split
    · rw [shift_leaf, show o + k + 1 = o + 1 + k by omega]
    split
    · exact seqG_shift (fun t o k => ih t o k) _ _ _
    · rw [shift_oft, altG_shift (fun t o k => ih t o k)]
end Go.Proofs.Ythdhbkngbmjjkaa
namespace Go.Proofs.Ythdhbkngbmjjkaa
set_option linter.unusedVariables false
/-- All that one graph has another one has, too. -/
def Sub (s H : Bs) : Prop := (∀ p, p < s.lfs.length → H.lfs[p]? = s.lfs[p]?) ∧ s.kns.length ≤ H.kns.length ∧
  ∀ k, (∀ z ∈ (kn s.kns k).free, z ∈ (kn H.kns k).free) ∧ (∀ z ∈ (kn s.kns k).lv, z ∈ (kn H.kns k).lv) ∧ (0 < (kn s.kns k).fin → (kn H.kns k).fin = (kn s.kns k).fin)
theorem Sub.refl (s : Bs) : Sub s s := ⟨fun _ _ => rfl, Nat.le_refl _, fun k => ⟨fun _ h => h, fun _ h => h, fun _ => rfl⟩⟩
theorem lfs_len {s H : Bs} (h : ∀ p, p < s.lfs.length → H.lfs[p]? = s.lfs[p]?) : s.lfs.length ≤ H.lfs.length := by
  by_cases e : s.lfs.length = 0
  · omega
  · have h1 := h (s.lfs.length - 1) (by omega)
    rw [List.getElem?_eq_getElem (by omega : s.lfs.length - 1 < s.lfs.length)] at h1
    have := (List.getElem?_eq_some_iff.1 h1).1
    omega
theorem Sub.trans {a b c : Bs} (h : Sub a b) (h2 : Sub b c) : Sub a c := by
  refine ⟨fun p hp => ?_, Nat.le_trans h.2.1 h2.2.1, fun k => ⟨fun z hz => (h2.2.2 k).1 z ((h.2.2 k).1 z hz), fun z hz => (h2.2.2 k).2.1 z ((h.2.2 k).2.1 z hz), fun h0 => ?_⟩⟩
  · have := lfs_len h.1
    rw [h2.1 p (by omega), h.1 p hp]
  · have h1 := (h.2.2 k).2.2 h0
    rw [(h2.2.2 k).2.2 (by omega), h1]
theorem knot_kn (s : Bs) (k : Nat) : kn s.knot.kns k = kn s.kns k := by
  show kn (s.kns ++ [⟨[], [], 0⟩]) k = _
  rw [kn_snoc]
  split
  · rfl
  · rename_i h
    rw [kn_out (by omega)]
    split <;> rfl
theorem arrow_kn {s : Bs} {f : Nat} (t : Nat) (hf : f < s.kns.length) (k : Nat) : kn (s.arrow f t).kns k = if f = k then ⟨(kn s.kns f).free ++ [(t : Int)], (kn s.kns f).lv, (kn s.kns f).fin⟩ else kn s.kns k := kn_set hf
theorem leaf_kn {s : Bs} {f : Nat} (kd cl : Int) (t : Nat) (hf : f < s.kns.length) (k : Nat) : kn (s.leaf kd cl f t).kns k = if f = k then ⟨(kn s.kns f).free, (kn s.kns f).lv ++ [((s.lfs.length + 1 : Nat) : Int)], (kn s.kns f).fin⟩ else kn s.kns k := kn_set hf
theorem Sub.knot (s : Bs) : Sub s s.knot := ⟨fun _ _ => rfl, by rw [knot_len]; omega, fun k => by rw [knot_kn]; exact ⟨fun _ h => h, fun _ h => h, fun _ => rfl⟩⟩
theorem Sub.arrow {s : Bs} {f t : Nat} (hf : f < s.kns.length) : Sub s (s.arrow f t) := ⟨fun _ _ => rfl, by rw [arrow_len]; exact Nat.le_refl _, fun k => by
  rw [arrow_kn t hf]
  split
  · rename_i e
    subst e
    exact ⟨fun z h => List.mem_append.2 (.inl h), fun _ h => h, fun _ => rfl⟩
  · exact ⟨fun _ h => h, fun _ h => h, fun _ => rfl⟩⟩
theorem Sub.leaf {s : Bs} {f t : Nat} {kd cl : Int} (hf : f < s.kns.length) : Sub s (s.leaf kd cl f t) := ⟨fun p hp => by
  show (s.lfs ++ [_])[p]? = _
  rw [List.getElem?_append_left hp], by rw [leaf_len]; exact Nat.le_refl _, fun k => by
  rw [leaf_kn kd cl t hf]
  split
  · rename_i e
    subst e
    exact ⟨fun _ h => h, fun z h => List.mem_append.2 (.inl h), fun _ => rfl⟩
  · exact ⟨fun _ h => h, fun _ h => h, fun _ => rfl⟩⟩
theorem sub_shut (s0 : Bs) : Shut (Sub s0) := ⟨fun s h => h.trans (Sub.knot s), fun s f t h hf _ => h.trans (Sub.arrow hf), fun s k c f t h hf _ => h.trans (Sub.leaf hf)⟩
/-- Where one stands behind a leaf, in a graph above too. -/
theorem Sub.place {s H : Bs} (h : Sub s H) {p : Nat} (h0 : 0 < p) (hp : p ≤ s.lfs.length) : placeK H p = placeK s p := by
  unfold placeK
  rw [if_neg (by omega), if_neg (by omega), h.1 (p - 1) (by omega)]
theorem Sub.way {s H : Bs} (h : Sub s H) {a b : Nat} (hw : Way s.kns a b) : Way H.kns a b := by
  induction hw with
  | refl => exact .refl _
  | step _ hc ih => exact .step ih ((h.2.2 _).1 _ hc)
theorem Yields.via {H : Bs} {a b : Nat} {x : Int} (hw : Way H.kns a b) (h : Yields H b x) : Yields H a x := by
  obtain ⟨c, hc, hg⟩ := h
  exact ⟨c, hw.trans hc, hg⟩
/-- What one may meet first, if behind it stands what K gives; what behind a place. -/
def Into (g : GS) (K : Int → Prop) (x : Int) : Prop := (∃ q : Nat, g.fst q ∧ x = (q : Int)) ∨ (g.emp ∧ K x)
def After (g : GS) (p : Nat) (K : Int → Prop) (x : Int) : Prop := (∃ q : Nat, g.prs p q ∧ x = (q : Int)) ∨ (g.lst p ∧ K x)
theorem into_seq (a b : GS) (K : Int → Prop) (x : Int) : Into (gSeq a b) K x ↔ Into a (Into b K) x := by
  simp only [Into, gSeq]; grind
theorem into_mono {g : GS} {K L : Int → Prop} (h : ∀ x, K x → L x) {x : Int} (hx : Into g K x) : Into g L x := by
  rcases hx with hx | ⟨h1, h2⟩
  · exact .inl hx
  · exact .inr ⟨h1, h x h2⟩
theorem after_mono {g : GS} {p : Nat} {K L : Int → Prop} (h : ∀ x, K x → L x) {x : Int} (hx : After g p K x) : After g p L x := by
  rcases hx with hx | ⟨h1, h2⟩
  · exact .inl hx
  · exact .inr ⟨h1, h x h2⟩
/-- A label of each knot that holds all that it gives, and what each arrow leads to. -/
def Inv (s : Bs) (lab : Nat → Int → Prop) : Prop := ∀ a, (∀ x, Gives s a x → lab a x) ∧ ∀ b : Nat, (b : Int) ∈ (kn s.kns a).free → ∀ x, lab b x → lab a x
theorem Inv.yields {s : Bs} {lab : Nat → Int → Prop} (h : Inv s lab) {a : Nat} {x : Int} (hy : Yields s a x) : lab a x := by
  obtain ⟨b, hw, hg⟩ := hy
  have hb := (h b).1 x hg
  clear hg
  induction hw with
  | refl => exact hb
  | step _ hc ih => exact ih ((h _).2 _ hc x hb)
def upd (lab : Nat → Int → Prop) (k : Nat) (L : Int → Prop) : Nat → Int → Prop := fun j => if j = k then L else lab j
theorem upd_same (lab : Nat → Int → Prop) (k : Nat) (L : Int → Prop) : upd lab k L k = L := if_pos rfl
theorem upd_other {lab : Nat → Int → Prop} {k j : Nat} {L : Int → Prop} (h : j ≠ k) : upd lab k L j = lab j := if_neg h
theorem gives_knot {s : Bs} {k : Nat} {x : Int} : Gives s.knot k x ↔ Gives s k x := by unfold Gives; rw [knot_kn]
theorem gives_out {s : Bs} {k : Nat} (h : s.kns.length ≤ k) (x : Int) : ¬ Gives s k x := by
  unfold Gives
  rw [kn_out h]
  simp
theorem Inv.knot {s : Bs} {lab : Nat → Int → Prop} (h : Inv s lab) (ho : s.ok) (L : Int → Prop) : Inv s.knot (upd lab s.kns.length L) := fun a => by
  by_cases e : a < s.kns.length
  · rw [upd_other (by omega : a ≠ s.kns.length)]
    refine ⟨fun x hx => (h a).1 x (gives_knot.1 hx), fun b hb x hx => ?_⟩
    rw [knot_kn] at hb
    have := ho.1 a _ hb
    rw [upd_other (by omega)] at hx
    exact (h a).2 b hb x hx
  · refine ⟨fun x hx => absurd (gives_knot.1 hx) (gives_out (by omega) x), fun b hb => ?_⟩
    rw [knot_kn, kn_out (by omega)] at hb
    simp at hb
theorem Inv.arrow {s : Bs} {lab : Nat → Int → Prop} (h : Inv s lab) {f t : Nat} (hf : f < s.kns.length) (hl : ∀ x, lab t x → lab f x) : Inv (s.arrow f t) lab := fun a => by
  unfold Gives
  rw [arrow_kn t hf]
  split
  · rename_i e
    subst e
    refine ⟨fun x hx => (h f).1 x hx, fun b hb x hx => ?_⟩
    rcases List.mem_append.1 hb with hb | hb
    · exact (h f).2 b hb x hx
    · have : b = t := by have := List.mem_singleton.1 hb; omega
      subst this
      exact hl x hx
  · exact h a
theorem Inv.leaf {s : Bs} {lab : Nat → Int → Prop} (h : Inv s lab) {f t : Nat} {kd cl : Int} (hf : f < s.kns.length) (hl : lab f ((s.lfs.length + 1 : Nat) : Int)) : Inv (s.leaf kd cl f t) lab := fun a => by
  unfold Gives
  rw [leaf_kn kd cl t hf]
  split
  · rename_i e
    subst e
    refine ⟨fun x hx => ?_, fun b hb x hx => (h f).2 b hb x hx⟩
    rcases hx with hx | hx
    · rcases List.mem_append.1 hx with hx | hx
      · exact (h f).1 x (.inl hx)
      · rw [List.mem_singleton.1 hx]
        exact hl
    · exact (h f).1 x (.inr hx)
  · exact h a
/-- What a way of laying gives: so many leaves, and just these places. -/
structure Lays (f : Nat → Nat → Bs → Bs) (n : Nat) (g : Nat → GS) : Prop where
  win : ∀ o, (g o).within o n
  sub : ∀ frm to s, frm < s.kns.length → to < s.kns.length → Sub s (f frm to s)
  len : ∀ frm to s, frm < s.kns.length → to < s.kns.length → (f frm to s).lfs.length = s.lfs.length + n
  ok : ∀ frm to s, frm < s.kns.length → to < s.kns.length → s.ok → (f frm to s).ok
  compl : ∀ frm to s H, frm < s.kns.length → to < s.kns.length → Sub (f frm to s) H → (∀ x, Into (g s.lfs.length) (Yields H to) x → Yields H frm x) ∧
    ∀ p x, After (g s.lfs.length) p (Yields H to) x → Yields H (placeK H p) x
  sound : ∀ frm to s lab, frm < s.kns.length → to < s.kns.length → s.ok → Inv s lab → (∀ x, Into (g s.lfs.length) (lab to) x → lab frm x) →
    ∃ lab', (∀ k, k < s.kns.length → lab' k = lab k) ∧ Inv (f frm to s) lab' ∧ ∀ p, s.lfs.length < p → p ≤ s.lfs.length + n → ∀ x, lab' (placeK (f frm to s) p) x → After (g s.lfs.length) p (lab to) x
theorem place_lt {s : Bs} (ho : s.ok) {p : Nat} (h0 : 0 < p) (hp : p ≤ s.lfs.length) : placeK s p < s.kns.length := by
  unfold placeK
  rw [if_neg (by omega), List.getElem?_eq_getElem (by omega : p - 1 < s.lfs.length)]
  have := ho.2.2 _ (List.getElem_mem (by omega : p - 1 < s.lfs.length))
  simp only [Option.getD_some]
  omega
theorem lays_seq {T : Type} {f : T → Nat → Nat → Bs → Bs} {n : T → Nat} {g : T → Nat → GS} : ∀ (l : List T), l ≠ [] → (∀ k ∈ l, Lays (f k) (n k) (g k)) → Lays (layS f l) (sumL n l) (seqG g n l)
  | [], h, _ => absurd rfl h
  | [k], _, h => by
    have hk := h k List.mem_cons_self
    have e : seqG g n [k] = g k := by
      funext o
      show gSeq (g k o) gOne = g k o
      exact gSeq_one _
    rw [e, show sumL n [k] = n k from Nat.add_zero _]
    exact hk
  | k :: k2 :: r, _, h => by
    have hk := h k List.mem_cons_self
    have hr := lays_seq (k2 :: r) (by simp) fun x hx => h x (List.mem_cons_of_mem _ hx)
    have e : ∀ frm to s, layS f (k :: k2 :: r) frm to s = layS f (k2 :: r) s.kns.length to (f k frm s.kns.length s.knot) := fun _ _ _ => rfl
    have eg : ∀ o, seqG g n (k :: k2 :: r) o = gSeq (g k o) (seqG g n (k2 :: r) (o + n k)) := fun _ => rfl
    have en : sumL n (k :: k2 :: r) = n k + sumL n (k2 :: r) := rfl
    have K : ∀ frm to (s : Bs), frm < s.kns.length → to < s.kns.length → frm < s.knot.kns.length ∧ s.kns.length < s.knot.kns.length ∧ s.kns.length < (f k frm s.kns.length s.knot).kns.length ∧ to < (f k frm s.kns.length s.knot).kns.length := fun frm to s h1 h2 => by
      have := knot_len s
      have h3 := (hk.sub frm s.kns.length s.knot (by omega) (by omega)).2.1
      exact ⟨by omega, by omega, by omega, by omega⟩
    refine ⟨fun o => (hk.win o).seq (hr.win _), fun frm to s h1 h2 => ?_, fun frm to s h1 h2 => ?_, fun frm to s h1 h2 ho => ?_, fun frm to s H h1 h2 hs => ?_, fun frm to s lab h1 h2 ho hi hl => ?_⟩
    · obtain ⟨a, b, c, d⟩ := K frm to s h1 h2
      rw [e]
      exact ((Sub.knot s).trans (hk.sub _ _ _ a b)).trans (hr.sub _ _ _ c d)
    · obtain ⟨a, b, c, d⟩ := K frm to s h1 h2
      rw [e, hr.len _ _ _ c d, hk.len _ _ _ a b, en]
      show s.lfs.length + _ + _ = _
      omega
    · obtain ⟨a, b, c, d⟩ := K frm to s h1 h2
      rw [e]
      exact hr.ok _ _ _ c d (hk.ok _ _ _ a b ho.knot)
    · obtain ⟨a, b, c, d⟩ := K frm to s h1 h2
      rw [e] at hs
      have hl1 := hk.len _ _ _ a b
      have hl1' : (f k frm s.kns.length s.knot).lfs.length = s.lfs.length + n k := hl1
      obtain ⟨p1, p2⟩ := hk.compl frm s.kns.length s.knot H a b ((hr.sub _ _ _ c d).trans hs)
      obtain ⟨q1, q2⟩ := hr.compl s.kns.length to (f k frm s.kns.length s.knot) H c d hs
      rw [hl1'] at q1 q2
      rw [eg]
      refine ⟨fun x hx => p1 x (into_mono q1 ((into_seq _ _ _ x).1 hx)), fun p x hx => ?_⟩
      rcases hx with ⟨q, hx | hx | ⟨hx, hx2⟩, rfl⟩ | ⟨⟨hx, hx2⟩ | hx, hx3⟩
      · exact p2 p _ (.inl ⟨q, hx, rfl⟩)
      · exact q2 p _ (.inl ⟨q, hx, rfl⟩)
      · exact p2 p _ (.inr ⟨hx, q1 _ (.inl ⟨q, hx2, rfl⟩)⟩)
      · exact p2 p _ (.inr ⟨hx2, q1 _ (.inr ⟨hx, hx3⟩)⟩)
      · exact q2 p _ (.inr ⟨hx, hx3⟩)
    · obtain ⟨a, b, c, d⟩ := K frm to s h1 h2
      have hl1' : (f k frm s.kns.length s.knot).lfs.length = s.lfs.length + n k := hk.len _ _ _ a b
      rw [e, eg, en]
      rw [eg] at hl
      have hto : upd lab s.kns.length (Into (seqG g n (k2 :: r) (s.lfs.length + n k)) (lab to)) to = lab to := upd_other (by omega)
      have hfr : upd lab s.kns.length (Into (seqG g n (k2 :: r) (s.lfs.length + n k)) (lab to)) frm = lab frm := upd_other (by omega)
      obtain ⟨lab1, a1, a2, a3⟩ := hk.sound frm s.kns.length s.knot (upd lab s.kns.length (Into (seqG g n (k2 :: r) (s.lfs.length + n k)) (lab to))) a b ho.knot (hi.knot ho _) (by
        rw [upd_same, hfr]
        exact fun x hx => hl x ((into_seq _ _ _ x).2 hx))
      have hkl := knot_len s
      have b1 : lab1 to = lab to := (a1 to (by omega)).trans hto
      have b2 : lab1 s.kns.length = Into (seqG g n (k2 :: r) (s.lfs.length + n k)) (lab to) := (a1 _ (by omega)).trans (upd_same _ _ _)
      obtain ⟨lab2, c1, c2, c3⟩ := hr.sound s.kns.length to (f k frm s.kns.length s.knot) lab1 c d (hk.ok _ _ _ a b ho.knot) a2 (by rw [hl1', b1, b2]; exact fun x hx => hx)
      rw [hl1', b1] at c3
      rw [upd_same] at a3
      refine ⟨lab2, fun j hj => ?_, c2, fun p hp1 hp2 x hx => ?_⟩
      · rw [c1 j (by have := (hk.sub _ _ _ a b).2.1; omega), a1 j (by omega)]
        exact upd_other (by omega)
      · by_cases hp : p ≤ s.lfs.length + n k
        · rw [(hr.sub _ _ _ c d).place (by omega) (by omega), c1 _ (place_lt (hk.ok _ _ _ a b ho.knot) (by omega) (by omega))] at hx
          rcases a3 p hp1 hp x hx with ⟨q, h3, rfl⟩ | ⟨h3, ⟨q, h4, rfl⟩ | ⟨h4, h5⟩⟩
          · exact .inl ⟨q, .inl h3, rfl⟩
          · exact .inl ⟨q, .inr (.inr ⟨h3, h4⟩), rfl⟩
          · exact .inr ⟨.inl ⟨h4, h3⟩, h5⟩
        · rcases c3 p (by omega) (by omega) x hx with ⟨q, h3, rfl⟩ | ⟨h3, h4⟩
          · exact .inl ⟨q, .inr (.inl h3), rfl⟩
          · exact .inr ⟨.inr h3, h4⟩
theorem lays_alt {T : Type} {f : T → Nat → Nat → Bs → Bs} {n : T → Nat} {g : T → Nat → GS} : ∀ (l : List T), (∀ k ∈ l, Lays (f k) (n k) (g k)) → Lays (fun frm to s => l.foldl (fun s k => f k frm to s) s) (sumL n l) (altG g n l)
  | [], _ => ⟨fun o => ⟨fun _ h => h.elim, fun _ h => h.elim, fun _ _ h => h.elim⟩, fun _ _ s _ _ => Sub.refl s, fun _ _ _ _ _ => rfl, fun _ _ _ _ _ h => h,
      fun _ _ _ _ _ _ _ => ⟨fun x hx => by rcases hx with ⟨_, h, _⟩ | ⟨h, _⟩ <;> exact h.elim, fun p x hx => by rcases hx with ⟨_, h, _⟩ | ⟨h, _⟩ <;> exact h.elim⟩,
      fun _ _ s lab _ _ _ hi _ => ⟨lab, fun _ _ => rfl, hi, fun p h1 h2 => by have : p ≤ s.lfs.length := h2; omega⟩⟩
  | k :: r, h => by
    have hk := h k List.mem_cons_self
    have hr := lays_alt r fun x hx => h x (List.mem_cons_of_mem _ hx)
    have eg : ∀ o, altG g n (k :: r) o = gAlt (g k o) (altG g n r (o + n k)) := fun _ => rfl
    have en : sumL n (k :: r) = n k + sumL n r := rfl
    have K : ∀ frm to (s : Bs), frm < s.kns.length → to < s.kns.length → frm < (f k frm to s).kns.length ∧ to < (f k frm to s).kns.length := fun frm to s h1 h2 => by
      have h3 := (hk.sub frm to s h1 h2).2.1
      exact ⟨by omega, by omega⟩
    refine ⟨fun o => (hk.win o).alt (hr.win _), fun frm to s h1 h2 => ?_, fun frm to s h1 h2 => ?_, fun frm to s h1 h2 ho => ?_, fun frm to s H h1 h2 hs => ?_, fun frm to s lab h1 h2 ho hi hl => ?_⟩
    · obtain ⟨c, d⟩ := K frm to s h1 h2
      exact (hk.sub _ _ _ h1 h2).trans (hr.sub frm to (f k frm to s) c d)
    · obtain ⟨c, d⟩ := K frm to s h1 h2
      have h3 := hr.len frm to (f k frm to s) c d
      rw [hk.len _ _ _ h1 h2] at h3
      show (r.foldl (fun s k => f k frm to s) (f k frm to s)).lfs.length = _
      rw [h3, en]
      omega
    · obtain ⟨c, d⟩ := K frm to s h1 h2
      exact hr.ok frm to (f k frm to s) c d (hk.ok _ _ _ h1 h2 ho)
    · obtain ⟨c, d⟩ := K frm to s h1 h2
      have hs' : Sub (r.foldl (fun s k => f k frm to s) (f k frm to s)) H := hs
      have hl1 := hk.len _ _ _ h1 h2
      obtain ⟨p1, p2⟩ := hk.compl frm to s H h1 h2 ((hr.sub frm to (f k frm to s) c d).trans hs')
      obtain ⟨q1, q2⟩ := hr.compl frm to (f k frm to s) H c d hs'
      rw [hl1] at q1 q2
      rw [eg]
      refine ⟨fun x hx => ?_, fun p x hx => ?_⟩
      · rcases hx with ⟨q, hx | hx, rfl⟩ | ⟨hx | hx, hx2⟩
        · exact p1 _ (.inl ⟨q, hx, rfl⟩)
        · exact q1 _ (.inl ⟨q, hx, rfl⟩)
        · exact p1 _ (.inr ⟨hx, hx2⟩)
        · exact q1 _ (.inr ⟨hx, hx2⟩)
      · rcases hx with ⟨q, hx | hx, rfl⟩ | ⟨hx | hx, hx2⟩
        · exact p2 p _ (.inl ⟨q, hx, rfl⟩)
        · exact q2 p _ (.inl ⟨q, hx, rfl⟩)
        · exact p2 p _ (.inr ⟨hx, hx2⟩)
        · exact q2 p _ (.inr ⟨hx, hx2⟩)
    · obtain ⟨c, d⟩ := K frm to s h1 h2
      have hl1 := hk.len _ _ _ h1 h2
      rw [eg] at hl ⊢
      rw [en]
      obtain ⟨lab1, a1, a2, a3⟩ := hk.sound frm to s lab h1 h2 ho hi fun x hx => hl x (by
        rcases hx with ⟨q, hx, rfl⟩ | ⟨hx, hx2⟩
        · exact .inl ⟨q, .inl hx, rfl⟩
        · exact .inr ⟨.inl hx, hx2⟩)
      obtain ⟨lab2, c1, c2, c3⟩ := hr.sound frm to (f k frm to s) lab1 c d (hk.ok _ _ _ h1 h2 ho) a2 (by
        rw [hl1, a1 to h2, a1 frm h1]
        intro x hx
        refine hl x ?_
        rcases hx with ⟨q, hx, rfl⟩ | ⟨hx, hx2⟩
        · exact .inl ⟨q, .inr hx, rfl⟩
        · exact .inr ⟨.inr hx, hx2⟩)
      rw [hl1, a1 to h2] at c3
      refine ⟨lab2, fun j hj => ?_, c2, fun p hp1 hp2 x hx => ?_⟩
      · rw [c1 j (by have := (hk.sub _ _ _ h1 h2).2.1; omega), a1 j hj]
      · by_cases hp : p ≤ s.lfs.length + n k
        · have hx' : lab2 (placeK (r.foldl (fun s k => f k frm to s) (f k frm to s)) p) x := hx
          rw [(hr.sub frm to (f k frm to s) c d).place (by omega) (by omega), c1 _ (place_lt (hk.ok _ _ _ h1 h2 ho) (by omega) (by omega))] at hx'
          rcases a3 p hp1 hp x hx' with ⟨q, h3, rfl⟩ | ⟨h3, h4⟩
          · exact .inl ⟨q, .inl h3, rfl⟩
          · exact .inr ⟨.inl h3, h4⟩
        · rcases c3 p (by omega) (by omega) x hx with ⟨q, h3, rfl⟩ | ⟨h3, h4⟩
          · exact .inl ⟨q, .inr h3, rfl⟩
          · exact .inr ⟨.inr h3, h4⟩
/-- The last arrows of a part that may stand more than once, or not at all. -/
def backB (kd : Int) (i o : Nat) (s : Bs) : Bs :=
  let s2 := if kd = 7 then s else s.arrow i o
  if kd = 8 then s2 else s2.arrow o i
theorem back_facts {kd : Int} {i o : Nat} {s : Bs} (hi : i < s.kns.length) (ho : o < s.kns.length) : Sub s (backB kd i o s) ∧ (backB kd i o s).lfs = s.lfs ∧ (s.ok → (backB kd i o s).ok) ∧
    (kd ≠ 7 → (o : Int) ∈ (kn (backB kd i o s).kns i).free) ∧ (kd ≠ 8 → (i : Int) ∈ (kn (backB kd i o s).kns o).free) ∧
    ∀ lab, Inv s lab → (kd ≠ 7 → ∀ x, lab o x → lab i x) → (kd ≠ 8 → ∀ x, lab i x → lab o x) → Inv (backB kd i o s) lab := by
  have m1 : ∀ {s : Bs} {f t : Nat}, f < s.kns.length → (t : Int) ∈ (kn (s.arrow f t).kns f).free := fun hf => by
    rw [arrow_kn _ hf, if_pos rfl]
    exact List.mem_append.2 (.inr (List.mem_singleton.2 rfl))
  unfold backB
  by_cases h7 : kd = 7
  · have h8 : ¬ kd = 8 := by omega
    simp only [if_pos h7, if_neg h8]
    exact ⟨Sub.arrow ho, rfl, fun h => h.arrow ho hi, fun h => absurd h7 h, fun _ => m1 ho, fun lab h _ h2 => h.arrow ho (h2 h8)⟩
  · have a1 := arrow_len s i o
    by_cases h8 : kd = 8
    · simp only [if_neg h7, if_pos h8]
      exact ⟨Sub.arrow hi, rfl, fun h => h.arrow hi ho, fun _ => m1 hi, fun h => absurd h8 h, fun lab h h1 _ => h.arrow hi (h1 h7)⟩
    · simp only [if_neg h7, if_neg h8]
      have ho' : o < (s.arrow i o).kns.length := by omega
      have hi' : i < (s.arrow i o).kns.length := by omega
      exact ⟨(Sub.arrow hi).trans (Sub.arrow ho'), rfl, fun h => (h.arrow hi ho).arrow ho' hi', fun _ => ((Sub.arrow (s := s.arrow i o) (t := i) ho').2.2 i).1 _ (m1 hi), fun _ => m1 ho', fun lab h h1 h2 => (h.arrow hi (h1 h7)).arrow ho' (h2 h8)⟩
theorem often_back (kd : Int) (f : Nat → Nat → Bs → Bs) (frm to : Nat) (s : Bs) : oftenB kd f frm to s = backB kd s.kns.length (s.kns.length + 1) (f s.kns.length (s.kns.length + 1) ((s.knot.knot.arrow frm s.kns.length).arrow (s.kns.length + 1) to)) := rfl
theorem lays_often {kd : Int} (hkd : kd = 6 ∨ kd = 7 ∨ kd = 8) {f : Nat → Nat → Bs → Bs} {n : Nat} {g : Nat → GS} (hk : Lays f n g) : Lays (oftenB kd f) n (fun o => gOft kd (g o)) := by
  have P : ∀ frm to (s : Bs), frm < s.kns.length → to < s.kns.length → ∃ p, p = (s.knot.knot.arrow frm s.kns.length).arrow (s.kns.length + 1) to ∧ p.kns.length = s.kns.length + 2 ∧ p.lfs = s.lfs ∧ Sub s p ∧ (s.ok → p.ok) ∧
      (s.kns.length : Int) ∈ (kn p.kns frm).free ∧ (to : Int) ∈ (kn p.kns (s.kns.length + 1)).free ∧
      ∀ lab, Inv s.knot.knot lab → (∀ x, lab s.kns.length x → lab frm x) → (∀ x, lab to x → lab (s.kns.length + 1) x) → Inv p lab := fun frm to s h1 h2 => by
    have k1 := knot_len s
    have k2 := knot_len s.knot
    have k3 := arrow_len s.knot.knot frm s.kns.length
    have hf : frm < s.knot.knot.kns.length := by omega
    have ho : s.kns.length + 1 < (s.knot.knot.arrow frm s.kns.length).kns.length := by omega
    refine ⟨_, rfl, by rw [arrow_len]; omega, rfl, ((Sub.knot s).trans (Sub.knot s.knot)).trans ((Sub.arrow hf).trans (Sub.arrow ho)), fun h => (h.knot.knot.arrow hf (by omega)).arrow ho (by omega), ?_, ?_, fun lab hi a b => (hi.arrow hf a).arrow ho b⟩
    · refine ((Sub.arrow ho).2.2 frm).1 _ ?_
      rw [arrow_kn _ hf, if_pos rfl]
      exact List.mem_append.2 (.inr (List.mem_singleton.2 rfl))
    · rw [arrow_kn _ ho, if_pos rfl]
      exact List.mem_append.2 (.inr (List.mem_singleton.2 rfl))
  refine ⟨fun o => (hk.win o).oft, fun frm to s h1 h2 => ?_, fun frm to s h1 h2 => ?_, fun frm to s h1 h2 ho => ?_, fun frm to s H h1 h2 hs => ?_, fun frm to s lab h1 h2 ho hi hl => ?_⟩
  all_goals
    obtain ⟨p, hp, plen, plfs, psub, pok, pf1, pf2, pinv⟩ := P frm to s h1 h2
    have hin := (hk.sub s.kns.length (s.kns.length + 1) p (by omega) (by omega)).2.1
    obtain ⟨b1, b2, b3, b4, b5, b6⟩ := back_facts (kd := kd) (i := s.kns.length) (o := s.kns.length + 1) (s := f s.kns.length (s.kns.length + 1) p) (by omega) (by omega)
  · rw [often_back, ← hp]
    exact psub.trans ((hk.sub _ _ _ (by omega) (by omega)).trans b1)
  · rw [often_back, ← hp, b2, hk.len _ _ _ (by omega) (by omega), plfs]
  · rw [often_back, ← hp]
    exact b3 (hk.ok _ _ _ (by omega) (by omega) (pok ho))
  · rw [often_back, ← hp] at hs
    obtain ⟨c1, c2⟩ := hk.compl s.kns.length (s.kns.length + 1) p H (by omega) (by omega) (b1.trans hs)
    rw [plfs] at c1 c2
    have hpH : Sub p H := (hk.sub _ _ _ (by omega) (by omega)).trans (b1.trans hs)
    have e1 : ∀ x, Yields H s.kns.length x → Yields H frm x := fun x h => h.via (.step (.refl _) ((hpH.2.2 _).1 _ pf1))
    have e2 : ∀ x, Yields H to x → Yields H (s.kns.length + 1) x := fun x h => h.via (.step (.refl _) ((hpH.2.2 _).1 _ pf2))
    have e3 : kd ≠ 7 → ∀ x, Yields H (s.kns.length + 1) x → Yields H s.kns.length x := fun h7 x h => h.via (.step (.refl _) ((hs.2.2 _).1 _ (b4 h7)))
    have e4 : kd ≠ 8 → ∀ x, Yields H s.kns.length x → Yields H (s.kns.length + 1) x := fun h8 x h => h.via (.step (.refl _) ((hs.2.2 _).1 _ (b5 h8)))
    refine ⟨fun x hx => e1 x ?_, fun q x hx => ?_⟩
    · rcases hx with ⟨q, h, rfl⟩ | ⟨h | h, hx⟩
      · exact c1 _ (.inl ⟨q, h, rfl⟩)
      · exact c1 _ (.inr ⟨h, e2 x hx⟩)
      · exact e3 (by omega) x (e2 x hx)
    · rcases hx with ⟨y, h | ⟨h6, h, h'⟩, rfl⟩ | ⟨h, hx⟩
      · exact c2 q _ (.inl ⟨y, h, rfl⟩)
      · exact c2 q _ (.inr ⟨h, e4 (by omega) _ (c1 _ (.inl ⟨y, h', rfl⟩))⟩)
      · exact c2 q _ (.inr ⟨h, e2 x hx⟩)
  · have k1 := knot_len s
    obtain ⟨Li, hLi⟩ : ∃ Li : Int → Prop, Li = Into (gOft kd (g s.lfs.length)) (lab to) := ⟨_, rfl⟩
    obtain ⟨Lo, hLo⟩ : ∃ Lo : Int → Prop, Lo = fun x => lab to x ∨ (kd ≠ 8 ∧ ∃ q : Nat, (g s.lfs.length).fst q ∧ x = (q : Int)) := ⟨_, rfl⟩
    have u1 : upd (upd lab s.kns.length Li) (s.kns.length + 1) Lo (s.kns.length + 1) = Lo := upd_same _ _ _
    have u2 : upd (upd lab s.kns.length Li) (s.kns.length + 1) Lo s.kns.length = Li := (upd_other (by omega)).trans (upd_same _ _ _)
    have u3 : ∀ j, j < s.kns.length → upd (upd lab s.kns.length Li) (s.kns.length + 1) Lo j = lab j := fun j hj => (upd_other (by omega)).trans (upd_other (by omega))
    have hinv := (hi.knot ho Li).knot ho.knot Lo
    rw [k1] at hinv
    have hp1 := pinv _ hinv (by rw [u2, u3 _ h1, hLi]; exact hl) (by rw [u1, u3 _ h2, hLo]; exact fun x h => .inl h)
    have hfst : ∀ q : Nat, (g s.lfs.length).fst q → Li (q : Int) := fun q h => by rw [hLi]; exact .inl ⟨q, h, rfl⟩
    have hto : (g s.lfs.length).emp ∨ kd ≠ 7 → ∀ x, lab to x → Li x := fun h x hx => by
      rw [hLi]
      refine .inr ⟨?_, hx⟩
      rcases h with h | h
      · exact .inl h
      · exact .inr (by omega)
    obtain ⟨lab1, a1, a2, a3⟩ := hk.sound s.kns.length (s.kns.length + 1) p _ (by omega) (by omega) (pok ho) hp1 (by
      rw [u1, u2, plfs, hLo]
      intro x hx
      rcases hx with ⟨q, h, rfl⟩ | ⟨h, hx | ⟨_, q, h', rfl⟩⟩
      · exact hfst q h
      · exact hto (.inl h) x hx
      · exact hfst q h')
    rw [plfs, u1] at a3
    have v1 : lab1 s.kns.length = Li := (a1 _ (by omega)).trans u2
    have v2 : lab1 (s.kns.length + 1) = Lo := (a1 _ (by omega)).trans u1
    rw [often_back, ← hp]
    refine ⟨lab1, fun j hj => (a1 j (by omega)).trans (u3 j hj), b6 lab1 a2 (fun h7 => ?_) (fun h8 => ?_), fun q hq1 hq2 x hx => ?_⟩
    · rw [v1, v2, hLo]
      intro x hx
      rcases hx with hx | ⟨_, q, h', rfl⟩
      · exact hto (.inr h7) x hx
      · exact hfst q h'
    · rw [v1, v2, hLo, hLi]
      intro x hx
      rcases hx with ⟨q, h, rfl⟩ | ⟨_, hx⟩
      · exact .inr ⟨h8, q, h, rfl⟩
      · exact .inl hx
    · have hlen := hk.len s.kns.length (s.kns.length + 1) p (by omega) (by omega)
      rw [b1.place (by omega) (by rw [hlen, plfs]; omega)] at hx
      rcases a3 q hq1 hq2 x hx with ⟨y, h, rfl⟩ | ⟨h, h'⟩
      · exact .inl ⟨y, .inl h, rfl⟩
      · rw [hLo] at h'
        rcases h' with h' | ⟨h8, y, h', rfl⟩
        · exact .inr ⟨h, h'⟩
        · exact .inl ⟨y, .inr ⟨by omega, h, h'⟩, rfl⟩
theorem lays_arrow : Lays (fun frm to s => s.arrow frm to) 0 (fun _ => gOne) :=
  ⟨fun o => ⟨fun _ h => h.elim, fun _ h => h.elim, fun _ _ h => h.elim⟩, fun _ _ _ h1 _ => Sub.arrow h1, fun _ _ _ _ _ => rfl, fun _ _ _ h1 h2 ho => ho.arrow h1 h2,
    fun frm to s H h1 h2 hs => ⟨fun x hx => by
      rcases hx with ⟨_, h, _⟩ | ⟨_, h⟩
      · exact h.elim
      · refine h.via (.step (.refl _) ((hs.2.2 frm).1 _ ?_))
        rw [arrow_kn to h1, if_pos rfl]
        exact List.mem_append.2 (.inr (List.mem_singleton.2 rfl)), fun p x hx => by rcases hx with ⟨_, h, _⟩ | ⟨h, _⟩ <;> exact h.elim⟩,
    fun frm to s lab h1 h2 ho hi hl => ⟨lab, fun _ _ => rfl, hi.arrow h1 fun x hx => hl x (.inr ⟨trivial, hx⟩), fun p a b => by omega⟩⟩
theorem lays_leaf (kd cl : Int) : Lays (fun frm to s => s.leaf kd cl frm to) 1 (fun o => gLeaf (o + 1)) := by
  have hl : ∀ frm to (s : Bs), (s.leaf kd cl frm to).lfs.length = s.lfs.length + 1 := fun frm to s => by simp [Bs.leaf]
  have hp : ∀ frm to (s : Bs), placeK (s.leaf kd cl frm to) (s.lfs.length + 1) = to := fun frm to s => by
    unfold placeK
    rw [if_neg (by omega), Nat.add_sub_cancel]
    show (((s.lfs ++ [(kd, cl, (to : Int))])[s.lfs.length]?.getD (0, 0, 0)).2.2).toNat = to
    simp
  refine ⟨fun o => ⟨fun q h => by have : q = o + 1 := h; omega, fun q h => by have : q = o + 1 := h; omega, fun _ _ h => h.elim⟩, fun _ _ _ h1 _ => Sub.leaf h1, fun frm to s _ _ => hl frm to s, fun _ _ _ h1 h2 ho => ho.leaf h1 h2,
    fun frm to s H h1 h2 hs => ⟨fun x hx => ?_, fun p x hx => ?_⟩, fun frm to s lab h1 h2 ho hi hl' => ⟨lab, fun _ _ => rfl, hi.leaf h1 (hl' _ (.inl ⟨_, rfl, rfl⟩)), fun p a b x hx => ?_⟩⟩
  · rcases hx with ⟨q, h, rfl⟩ | ⟨h, _⟩
    · obtain rfl : q = s.lfs.length + 1 := h
      refine ⟨frm, .refl _, .inl ((hs.2.2 frm).2.1 _ ?_)⟩
      rw [leaf_kn kd cl to h1, if_pos rfl]
      exact List.mem_append.2 (.inr (List.mem_singleton.2 rfl))
    · exact h.elim
  · rcases hx with ⟨_, h, _⟩ | ⟨h, hx⟩
    · exact h.elim
    · obtain rfl : p = s.lfs.length + 1 := h
      rw [hs.place (by omega) (by rw [hl]; omega), hp]
      exact hx
  · obtain rfl : p = s.lfs.length + 1 := by omega
    rw [hp] at hx
    exact .inr ⟨rfl, hx⟩
end Go.Proofs.Ythdhbkngbmjjkaa
namespace Go.Proofs.Ythdhbkngbmjjkaa
set_option linter.unusedVariables false
theorem lays_tree : ∀ (d : Nat) (wi : Bool) (t : Tr d), fitsT d wi t = true → Lays (fun f o s => layB d t f o s) (leavesT d t) (fun o => glk d t o)
  | 0, _, t, _ => t.elim
  | d + 1, wi, t, h => by
    obtain ⟨h1, h2, h3⟩ := fit_kids h
    have ih := fun (k : Tr d) (hk : k ∈ Tr.kids t) => lays_tree d true k (h3 k hk)
    by_cases h9 : Tr.kind t = 9
    · have e1 : (fun f o s => layB (d + 1) t f o s) = fun frm to s => s.arrow frm to := by
        funext f o s
        simp only [layB]
        rw [if_neg (by omega), if_neg (by omega), if_neg (by omega), if_pos h9]
      have e2 : (fun o => glk (d + 1) t o) = fun _ => gOne := by funext o; exact if_pos h9
      have e3 : leavesT (d + 1) t = 0 := by
        have hk : Tr.kids t = [] := h1.2 (by omega)
        simp only [leavesT]
        rw [if_neg (fun h => h.2 h9), hk]
        rfl
      rw [e1, e2, e3]
      exact lays_arrow
    by_cases hk : Tr.kids t = []
    · have hn := h1.1 hk
      have e1 : (fun f o s => layB (d + 1) t f o s) = fun frm to s => s.leaf (Tr.kind t) (Tr.cls t) frm to := by
        funext f o s
        simp only [layB]
        rw [if_neg (by omega), if_neg (by omega), if_neg (by omega), if_neg h9]
      have hl : (Tr.kids t).length = 0 := by rw [hk]; rfl
      have e2 : (fun o => glk (d + 1) t o) = fun o => gLeaf (o + 1) := by funext o; simp only [glk]; rw [if_neg h9, if_pos hl]
      have e3 : leavesT (d + 1) t = 1 := if_pos ⟨hl, h9⟩
      rw [e1, e2, e3]
      exact lays_leaf _ _
    have hk4 : Tr.kind t = 4 ∨ Tr.kind t = 5 ∨ Tr.kind t = 6 ∨ Tr.kind t = 7 ∨ Tr.kind t = 8 := Decidable.byContradiction fun hc => hk (h1.2 hc)
    have hl : (Tr.kids t).length ≠ 0 := fun e => hk (List.length_eq_zero_iff.1 e)
    have e3 : leavesT (d + 1) t = sumL (fun k => leavesT d k) (Tr.kids t) := if_neg (fun h => hl h.1)
    by_cases h4 : Tr.kind t = 4
    · have e1 : (fun f o s => layB (d + 1) t f o s) = layS (fun k f o s => layB d k f o s) (Tr.kids t) := by
        funext f o s
        simp only [layB]
        rw [if_pos h4]
      have e2 : (fun o => glk (d + 1) t o) = seqG (fun k o => glk d k o) (fun k => leavesT d k) (Tr.kids t) := by funext o; simp only [glk]; rw [if_neg h9, if_neg hl, if_pos h4]
      rw [e1, e2, e3]
      exact lays_seq _ hk ih
    have e2 : (fun o => glk (d + 1) t o) = fun o => gOft (Tr.kind t) (altG (fun k o => glk d k o) (fun k => leavesT d k) (Tr.kids t) o) := by funext o; simp only [glk]; rw [if_neg h9, if_neg hl, if_neg h4]
    by_cases h5 : Tr.kind t = 5
    · have e1 : (fun f o s => layB (d + 1) t f o s) = fun frm to s => (Tr.kids t).foldl (fun s k => layB d k frm to s) s := by
        funext f o s
        simp only [layB]
        rw [if_neg h4, if_pos h5]
      have e4 : ∀ a : GS, gOft (Tr.kind t) a = a := fun a => GS.same (by simp only [gOft]; rw [h5]; simp) (by simp [gOft]) (by simp [gOft]) (by simp only [gOft]; rw [h5]; simp)
      rw [e1, e2, e3]
      simp only [e4]
      exact lays_alt (f := fun k f o s => layB d k f o s) _ ih
    have h6 : Tr.kind t = 6 ∨ Tr.kind t = 7 ∨ Tr.kind t = 8 := by omega
    obtain ⟨k, hk1⟩ := List.length_eq_one_iff.1 (h2 h6)
    have e1 : (fun f o s => layB (d + 1) t f o s) = oftenB (Tr.kind t) (fun f o s => layB d k f o s) := by
      funext f o s
      simp only [layB]
      rw [if_neg h4, if_neg h5, if_pos h6, hk1]
    rw [e1, e2, e3, hk1]
    have e5 : ∀ o, altG (fun k o => glk d k o) (fun k => leavesT d k) [k] o = glk d k o := fun o => gAlt_nil _
    simp only [e5]
    exact lays_often h6 (ih k (by rw [hk1]; exact List.mem_cons_self))
/-- What comes first in a list of expressions; what behind a place; ends are below 0. -/
def AllInto {d : Nat} : List (Tr d) → Nat → Nat → Int → Prop
  | [], _, _, _ => False
  | t :: r, o, i, x => Into (glk d t o) (fun y => y = -((i + 1 : Nat) : Int)) x ∨ AllInto r (o + leavesT d t) (i + 1) x
def AllAfter {d : Nat} : List (Tr d) → Nat → Nat → Nat → Int → Prop
  | [], _, _, _, _ => False
  | t :: r, o, i, p, x => After (glk d t o) p (fun y => y = -((i + 1 : Nat) : Int)) x ∨ AllAfter r (o + leavesT d t) (i + 1) p x
theorem fin_kn {s : Bs} {f : Nat} (e : Int) (hf : f < s.kns.length) (k : Nat) : kn (s.fin f e).kns k = if f = k then ⟨(kn s.kns f).free, (kn s.kns f).lv, e⟩ else kn s.kns k := kn_set hf
/-- The steps ahead of laying an expression. -/
theorem pre_facts {s : Bs} (h0 : 0 < s.kns.length) (e : Int) (he : 0 < e) : ∃ p, p = ((s.knot.fin s.kns.length e).knot).arrow 0 (s.kns.length + 1) ∧ p.kns.length = s.kns.length + 2 ∧ p.lfs = s.lfs ∧ Sub s p ∧ (s.ok → p.ok) ∧
    ((s.kns.length + 1 : Nat) : Int) ∈ (kn p.kns 0).free ∧ (kn p.kns s.kns.length).fin = e ∧
    ∀ lab, s.ok → Inv s lab → ∀ L, (∀ x, L x → lab 0 x) → ∃ lab', (∀ k, k < s.kns.length → lab' k = lab k) ∧ lab' s.kns.length = (fun x => x = -e) ∧ lab' (s.kns.length + 1) = L ∧ Inv p lab' := by
  have k1 := knot_len s
  have k2 := fin_len s.knot s.kns.length e
  have k3 := knot_len (s.knot.fin s.kns.length e)
  have hn : s.kns.length < s.knot.kns.length := by omega
  have h0' : 0 < (s.knot.fin s.kns.length e).knot.kns.length := by omega
  have hsf : Sub s.knot (s.knot.fin s.kns.length e) := ⟨fun _ _ => rfl, by rw [k2]; exact Nat.le_refl _, fun k => by
    rw [fin_kn e hn]
    split
    · rename_i h
      subst h
      rw [knot_kn, kn_out (Nat.le_refl _)]
      exact ⟨fun _ h => h, fun _ h => h, fun h => by simp at h⟩
    · exact ⟨fun _ h => h, fun _ h => h, fun _ => rfl⟩⟩
  refine ⟨_, rfl, by rw [arrow_len]; omega, rfl, ((Sub.knot s).trans hsf).trans ((Sub.knot _).trans (Sub.arrow h0')), fun h => ((h.knot.fin hn).knot).arrow h0' (by omega), ?_, ?_, fun lab ho hi L hL => ?_⟩
  · rw [arrow_kn _ h0', if_pos rfl]
    exact List.mem_append.2 (.inr (List.mem_singleton.2 rfl))
  · rw [arrow_kn _ h0', if_neg (by omega), knot_kn, fin_kn e hn, if_pos rfl]
  · have i1 := hi.knot ho (fun x => x = -e)
    have i2 : Inv (s.knot.fin s.kns.length e) (upd lab s.kns.length (fun x => x = -e)) := fun a => by
      unfold Gives
      rw [fin_kn e hn]
      split
      · rename_i h
        subst h
        refine ⟨fun x hx => ?_, fun b hb x hx => ?_⟩
        · rw [upd_same]
          rcases hx with hx | ⟨_, hx⟩
          · rw [knot_kn, kn_out (Nat.le_refl _)] at hx
            simp at hx
          · exact hx
        · rw [knot_kn, kn_out (Nat.le_refl _)] at hb
          simp at hb
      · exact i1 a
    have i3 := i2.knot (ho.knot.fin hn) L
    have e1 : (s.knot.fin s.kns.length e).kns.length = s.kns.length + 1 := by omega
    rw [e1] at i3
    refine ⟨_, fun k hk => (upd_other (by omega)).trans (upd_other (by omega)), (upd_other (by omega)).trans (upd_same _ _ _), upd_same _ _ _, i3.arrow h0' fun x hx => ?_⟩
    rw [upd_same] at hx
    rw [upd_other (by omega), upd_other (by omega)]
    exact hL x hx
theorem build_sub {d : Nat} : ∀ (l : List (Tr d)) (i : Nat) (s : Bs), 0 < s.kns.length → (∀ t ∈ l, fitsT d false t = true) → Sub s (buildL i l s)
  | [], _, s, _, _ => Sub.refl s
  | t :: r, i, s, h0, hf => by
    obtain ⟨p, hp, plen, plfs, psub, -, -, -, -⟩ := pre_facts h0 ((i + 1 : Nat) : Int) (by omega)
    have hk := lays_tree d false t (hf t List.mem_cons_self)
    have h1 := hk.sub (s.kns.length + 1) s.kns.length p (by omega) (by omega)
    have e : expB i t s = layB d t (s.kns.length + 1) s.kns.length p := by rw [hp]; rfl
    have h2 : 0 < (expB i t s).kns.length := by rw [e]; have := h1.2.1; omega
    have h3 := build_sub r (i + 1) (expB i t s) h2 fun x hx => hf x (List.mem_cons_of_mem _ hx)
    rw [e] at h3
    show Sub s (buildL (i + 1) r (expB i t s))
    rw [e]
    exact (psub.trans h1).trans h3
theorem build_compl {d : Nat} : ∀ (l : List (Tr d)) (i : Nat) (s H : Bs), 0 < s.kns.length → (∀ t ∈ l, fitsT d false t = true) → Sub (buildL i l s) H →
    (∀ x, AllInto l s.lfs.length i x → Yields H 0 x) ∧ ∀ p x, AllAfter l s.lfs.length i p x → Yields H (placeK H p) x
  | [], _, _, _, _, _, _ => ⟨fun _ h => h.elim, fun _ _ h => h.elim⟩
  | t :: r, i, s, H, h0, hf, hs => by
    obtain ⟨p, hp, plen, plfs, psub, -, pf1, pf2, -⟩ := pre_facts h0 ((i + 1 : Nat) : Int) (by omega)
    have hk := lays_tree d false t (hf t List.mem_cons_self)
    have hf' : ∀ x ∈ r, fitsT d false x = true := fun x hx => hf x (List.mem_cons_of_mem _ hx)
    have h1 := hk.sub (s.kns.length + 1) s.kns.length p (by omega) (by omega)
    have e : expB i t s = layB d t (s.kns.length + 1) s.kns.length p := by rw [hp]; rfl
    have hs' : Sub (buildL (i + 1) r (expB i t s)) H := hs
    rw [e] at hs'
    have h2 : 0 < (layB d t (s.kns.length + 1) s.kns.length p).kns.length := by have := h1.2.1; omega
    have h3 := (build_sub r (i + 1) _ h2 hf').trans hs'
    obtain ⟨a1, a2⟩ := hk.compl (s.kns.length + 1) s.kns.length p H (by omega) (by omega) h3
    obtain ⟨b1, b2⟩ := build_compl r (i + 1) _ H h2 hf' hs'
    have hl := hk.len (s.kns.length + 1) s.kns.length p (by omega) (by omega)
    try simp only at hl
    rw [plfs] at hl a1 a2
    rw [hl] at b1 b2
    have hpH : Sub p H := h1.trans h3
    have hY : ∀ x, x = -((i + 1 : Nat) : Int) → Yields H s.kns.length x := fun x hx => ⟨_, .refl _, .inr (by
      have := (hpH.2.2 s.kns.length).2.2 (by rw [pf2]; omega)
      rw [this, pf2]
      exact ⟨by omega, hx⟩)⟩
    refine ⟨fun x hx => ?_, fun q x hx => ?_⟩
    · rcases hx with hx | hx
      · exact (a1 x (into_mono hY hx)).via (.step (.refl _) ((hpH.2.2 _).1 _ pf1))
      · exact b1 x hx
    · rcases hx with hx | hx
      · exact a2 q x (after_mono hY hx)
      · exact b2 q x hx
theorem build_sound {d : Nat} : ∀ (l : List (Tr d)) (i : Nat) (s : Bs) (lab : Nat → Int → Prop), 0 < s.kns.length → (∀ t ∈ l, fitsT d false t = true) → s.ok → Inv s lab → (∀ x, AllInto l s.lfs.length i x → lab 0 x) →
    ∃ lab', (∀ k, k < s.kns.length → lab' k = lab k) ∧ Inv (buildL i l s) lab' ∧ ∀ p, s.lfs.length < p → p ≤ s.lfs.length + sumL (fun t => leavesT d t) l → ∀ x, lab' (placeK (buildL i l s) p) x → AllAfter l s.lfs.length i p x
  | [], _, s, lab, _, _, _, hi, _ => ⟨lab, fun _ _ => rfl, hi, fun p a b => by simp only [sumL] at b; omega⟩
  | t :: r, i, s, lab, h0, hf, ho, hi, hl => by
    obtain ⟨p, hp, plen, plfs, psub, pok, pf1, pf2, pinv⟩ := pre_facts h0 ((i + 1 : Nat) : Int) (by omega)
    have hk := lays_tree d false t (hf t List.mem_cons_self)
    have hf' : ∀ x ∈ r, fitsT d false x = true := fun x hx => hf x (List.mem_cons_of_mem _ hx)
    have h1 := hk.sub (s.kns.length + 1) s.kns.length p (by omega) (by omega)
    have e : expB i t s = layB d t (s.kns.length + 1) s.kns.length p := by rw [hp]; rfl
    have h2 : 0 < (layB d t (s.kns.length + 1) s.kns.length p).kns.length := by have := h1.2.1; omega
    have hlen := hk.len (s.kns.length + 1) s.kns.length p (by omega) (by omega)
    have hok := hk.ok (s.kns.length + 1) s.kns.length p (by omega) (by omega) (pok ho)
    try simp only at hlen hok h1
    rw [plfs] at hlen
    obtain ⟨lab1, a1, a2, a3, a4⟩ := pinv lab ho hi (Into (glk d t s.lfs.length) (fun y => y = -((i + 1 : Nat) : Int))) fun x hx => hl x (.inl hx)
    obtain ⟨lab2, b1, b2, b3⟩ := hk.sound (s.kns.length + 1) s.kns.length p lab1 (by omega) (by omega) (pok ho) a4 (by rw [plfs, a2, a3]; exact fun x h => h)
    rw [plfs, a2] at b3
    try simp only at b2 b3
    obtain ⟨lab3, c1, c2, c3⟩ := build_sound r (i + 1) _ lab2 h2 hf' hok b2 (by
      rw [hlen, b1 0 (by omega), a1 0 h0]
      exact fun x hx => hl x (.inr hx))
    rw [hlen] at c3
    have eb : buildL i (t :: r) s = buildL (i + 1) r (layB d t (s.kns.length + 1) s.kns.length p) := by rw [← e]; rfl
    rw [eb]
    refine ⟨lab3, fun k hk' => ?_, c2, fun q hq1 hq2 x hx => ?_⟩
    · rw [c1 k (by have := h1.2.1; omega), b1 k (by omega), a1 k hk']
    · simp only [sumL] at hq2
      by_cases hq : q ≤ s.lfs.length + leavesT d t
      · rw [(build_sub r (i + 1) _ h2 hf').place (by omega) (by omega), c1 _ (place_lt hok (by omega) (by omega))] at hx
        exact .inl (b3 q hq1 hq x hx)
      · exact .inr (c3 q (by omega) (by omega) x hx)
/-- THE AUTOMATON: what comes of the beginning, and of each place, is what the expressions say. -/
theorem built_yields {d : Nat} {l : List (Tr d)} (hf : ∀ t ∈ l, fitsT d false t = true) :
    (∀ x, Yields (builtB l) 0 x ↔ AllInto l 0 0 x) ∧ ∀ p, 0 < p → p ≤ sumL (fun t => leavesT d t) l → ∀ x, Yields (builtB l) (placeK (builtB l) p) x ↔ AllAfter l 0 0 p x := by
  have h0 : 0 < startB.kns.length := by simp [startB]
  obtain ⟨c1, c2⟩ := build_compl l 0 startB (builtB l) h0 hf (Sub.refl _)
  have hk : ∀ a, kn startB.kns a = ⟨[], [], 0⟩ := fun a => by
    by_cases e : a = 0
    · subst e; rfl
    · exact kn_out (by simp [startB]; omega)
  obtain ⟨lab, a1, a2, a3⟩ := build_sound l 0 startB (fun _ => AllInto l 0 0) h0 hf startB_ok.1 (fun a => by
    unfold Gives
    rw [hk]
    exact ⟨fun x hx => by simp at hx, fun b hb => by simp at hb⟩) (fun x hx => hx)
  refine ⟨fun x => ⟨fun h => ?_, c1 x⟩, fun p hp1 hp2 x => ⟨fun h => ?_, c2 p x⟩⟩
  · have := a2.yields h
    rw [a1 0 h0] at this
    exact this
  · exact a3 p hp1 (by show p ≤ 0 + _; omega) x (a2.yields h)
end Go.Proofs.Ythdhbkngbmjjkaa
