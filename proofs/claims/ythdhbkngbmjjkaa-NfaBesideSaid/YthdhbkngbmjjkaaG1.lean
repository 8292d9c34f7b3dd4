/- To which knots one may go without a mark: the list that reach makes holds just those. No conditions but that each arrow leads to a knot. -/
import Derived.Test.YthdhbkngbmjjkaaTt
namespace Go.Proofs.Ythdhbkngbmjjkaa
/-- One may go from a knot to a knot without a mark. -/
inductive Way (ks : List Kn) : Nat → Nat → Prop
  | refl (a : Nat) : Way ks a a
  | step {a b c : Nat} : Way ks a b → (c : Int) ∈ (kn ks b).free → Way ks a c
theorem Way.trans {ks : List Kn} {a b c : Nat} (h : Way ks a b) (h2 : Way ks b c) : Way ks a c := by
  induction h2 with
  | refl => exact h
  | step _ h3 ih => exact .step ih h3
theorem add1_mem {l : List Int} {z x : Int} : x ∈ add1 l z ↔ x ∈ l ∨ x = z := by
  unfold add1
  split
  · rename_i h
    rw [inL_iff] at h
    constructor
    · exact .inl
    · rintro (h1 | rfl)
      · exact h1
      · exact h
  · simp
theorem addAll_mem : ∀ {fs l : List Int} {x : Int}, x ∈ addAll l fs ↔ x ∈ l ∨ x ∈ fs
  | [], l, x => by simp [addAll]
  | z :: fs, l, x => by
    show x ∈ addAll (add1 l z) fs ↔ _
    rw [addAll_mem (fs := fs), add1_mem, List.mem_cons]
    constructor
    · rintro ((h | h) | h)
      · exact .inl h
      · exact .inr (.inl h)
      · exact .inr (.inr h)
    · rintro (h | h | h)
      · exact .inl (.inl h)
      · exact .inl (.inr h)
      · exact .inr h
theorem addAll_nth : ∀ (fs l : List Int) (i : Nat), i < l.length → nth (addAll l fs) i = nth l i
  | [], _, _, _ => rfl
  | z :: fs, l, i, h => by
    show nth (addAll (add1 l z) fs) i = _
    rw [addAll_nth fs (add1 l z) i (Nat.lt_of_lt_of_le h (add1_len l z)), add1_nth h]
/-- What is made holds only what one may go to. -/
theorem reachF_sound {ks : List Kn} {k : Nat} : ∀ f i l, (∀ z ∈ l, 0 ≤ z ∧ Way ks k z.toNat) → (∀ j, ∀ z ∈ (kn ks j).free, 0 ≤ z) → ∀ z ∈ reachF ks f i l, 0 ≤ z ∧ Way ks k z.toNat
  | 0, _, _, h, _ => h
  | f + 1, i, l, h, hp => by
    simp only [reachF]
    split
    · rename_i hi
      refine reachF_sound f (i + 1) _ (fun z hz => ?_) hp
      rcases addAll_mem.1 hz with hz | hz
      · exact h z hz
      · obtain ⟨h0, h1⟩ := h _ (nth_mem hi)
        have hz0 := hp _ z hz
        refine ⟨hz0, h1.step (c := z.toNat) ?_⟩
        rw [Int.toNat_of_nonneg hz0]
        exact hz
    · exact h
/-- What is made is shut: behind the first so many all arrows are followed. -/
theorem reachF_shut {s : Bs} (ho : s.ok) : ∀ f i l, Rch s.kns.length l → i ≤ l.length → s.kns.length + 1 ≤ f + i → (∀ j, j < i → ∀ z ∈ (kn s.kns (nth l j).toNat).free, z ∈ l) →
    (∀ x ∈ l, x ∈ reachF s.kns f i l) ∧ ∀ x ∈ reachF s.kns f i l, ∀ z ∈ (kn s.kns x.toNat).free, z ∈ reachF s.kns f i l
  | 0, i, l, h, hi, hf, _ => by
    have := h.len
    omega
  | f + 1, i, l, h, hi, hf, hd => by
    simp only [reachF]
    split
    · rename_i hlt
      have h' := Rch.all h (ho.1 (nth l i).toNat)
      obtain ⟨a, b⟩ := reachF_shut ho f (i + 1) (addAll l (kn s.kns (nth l i).toNat).free) h' (by have := addAll_len (kn s.kns (nth l i).toNat).free l; omega) (by omega) (fun j hj z hz => by
        by_cases e : j = i
        · subst e
          rw [addAll_nth _ _ _ hlt] at hz
          exact addAll_mem.2 (.inr hz)
        · rw [addAll_nth _ _ _ (by omega)] at hz
          exact addAll_mem.2 (.inl (hd j (by omega) z hz)))
      exact ⟨fun x hx => a x (addAll_mem.2 (.inl hx)), b⟩
    · rename_i hlt
      obtain rfl : i = l.length := by omega
      refine ⟨fun x hx => hx, fun x hx z hz => ?_⟩
      obtain ⟨j, hj, e⟩ := List.mem_iff_getElem.1 hx
      have : nth l j = x := by rw [nth_get hj, e]
      exact hd j hj z (by rw [this]; exact hz)
theorem reachL_mem {s : Bs} (ho : s.ok) {k : Nat} (hk : k < s.kns.length) (x : Int) : x ∈ reachL s.kns k ↔ ∃ b : Nat, x = (b : Int) ∧ Way s.kns k b := by
  have hr : Rch s.kns.length [(k : Int)] := ⟨by simp, fun z hz => by rw [List.mem_singleton.1 hz]; omega⟩
  constructor
  · intro hx
    obtain ⟨h0, h1⟩ := reachF_sound (k := k) (s.kns.length + 1) 0 [(k : Int)] (fun z hz => by rw [List.mem_singleton.1 hz]; exact ⟨by omega, Way.refl _⟩) (fun j z hz => (ho.1 j z hz).1) x hx
    exact ⟨x.toNat, by omega, h1⟩
  · rintro ⟨b, rfl, hw⟩
    obtain ⟨h1, h2⟩ := reachF_shut ho (s.kns.length + 1) 0 [(k : Int)] hr (by simp) (by omega) (fun j hj => by omega)
    induction hw with
    | refl => exact h1 _ (by simp)
    | step _ hc ih => exact h2 _ ih _ hc
/-- What a knot gives: the leaves that begin there, and (below 0) the expression that ends there. -/
def Gives (s : Bs) (k : Nat) (x : Int) : Prop := x ∈ (kn s.kns k).lv ∨ (0 < (kn s.kns k).fin ∧ x = -(kn s.kns k).fin)
/-- What all the knots give to which one may go. -/
def Yields (s : Bs) (k : Nat) (x : Int) : Prop := ∃ b, Way s.kns k b ∧ Gives s b x
theorem lvs_mem {s : Bs} (ho : s.ok) {k : Nat} (hk : k < s.kns.length) (x : Int) : x ∈ lvsOf s.kns (reachL s.kns k) ↔ 1 ≤ x ∧ Yields s k x := by
  unfold lvsOf
  rw [List.mem_flatMap]
  constructor
  · rintro ⟨z, hz, hx⟩
    obtain ⟨b, rfl, hw⟩ := (reachL_mem ho hk z).1 hz
    have hx' : x ∈ (kn s.kns b).lv := hx
    exact ⟨(ho.2.1 _ _ hx').1, b, hw, .inl hx'⟩
  · rintro ⟨h1, b, hw, hx | ⟨h2, rfl⟩⟩
    · exact ⟨(b : Int), (reachL_mem ho hk _).2 ⟨b, rfl, hw⟩, hx⟩
    · omega
theorem bits_test {ks : List Kn} : ∀ (l : List Int) (b j : Nat), (l.foldl (bit1 ks) b).testBit j = true ↔ b.testBit j = true ∨ ∃ z ∈ l, (kn ks z.toNat).fin = ((j + 1 : Nat) : Int)
  | [], b, j => by simp
  | z :: r, b, j => by
    rw [List.foldl_cons, bits_test r]
    have h : (bit1 ks b z).testBit j = true ↔ b.testBit j = true ∨ (kn ks z.toNat).fin = ((j + 1 : Nat) : Int) := by
      unfold bit1
      split
      · rename_i h0
        rw [Nat.testBit_or, Bool.or_eq_true, Nat.testBit_two_pow]
        simp only [decide_eq_true_eq]
        constructor
        · rintro (h | h)
          · exact .inl h
          · exact .inr (by omega)
        · rintro (h | h)
          · exact .inl h
          · exact .inr (by omega)
      · rename_i h0
        constructor
        · exact .inl
        · rintro (h | h)
          · exact h
          · omega
    rw [h]
    constructor
    · rintro ((h | h) | ⟨y, hy, h⟩)
      · exact .inl h
      · exact .inr ⟨z, List.mem_cons_self, h⟩
      · exact .inr ⟨y, List.mem_cons_of_mem _ hy, h⟩
    · rintro (h | ⟨y, hy, hh⟩)
      · exact .inl (.inl h)
      · rcases List.mem_cons.1 hy with rfl | hy
        · exact .inl (.inr hh)
        · exact .inr ⟨y, hy, hh⟩
theorem bitsOf_test {s : Bs} (ho : s.ok) {k : Nat} (hk : k < s.kns.length) (j : Nat) : (bitsOf s.kns (reachL s.kns k)).testBit j = true ↔ Yields s k (-((j + 1 : Nat) : Int)) := by
  unfold bitsOf
  rw [bits_test]
  constructor
  · rintro (h | ⟨z, hz, h⟩)
    · simp at h
    · obtain ⟨b, rfl, hw⟩ := (reachL_mem ho hk z).1 hz
      rw [Int.toNat_natCast] at h
      exact ⟨b, hw, .inr ⟨by omega, by rw [h]⟩⟩
  · rintro ⟨b, hw, h | ⟨h1, h2⟩⟩
    · have := (ho.2.1 _ _ h).1
      omega
    · exact .inr ⟨(b : Int), (reachL_mem ho hk _).2 ⟨b, rfl, hw⟩, by rw [Int.toNat_natCast]; omega⟩
end Go.Proofs.Ythdhbkngbmjjkaa
