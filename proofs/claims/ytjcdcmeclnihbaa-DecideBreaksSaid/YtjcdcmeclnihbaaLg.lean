/- Whether a rule applies at a place, by the document's tables over one list of marks, is what the program's answer says. Condition: a right rule; a place that isn't hidden. -/
import Derived.Test.YtjcdcmeclnihbaaLf
import Derived.Test.YtjcdcmeclnihbaaBr
namespace Go.Proofs.Ytjcdcmeclnihbaa
/-- All marks: the start, and the classes of places that aren't hidden. -/
def wayOf (l : List Int) (hide : List Bool) : List Int := 36 :: seenTo l hide l.length
/-- Where a place stands among them. -/
def posOf (l : List Int) (hide : List Bool) (i : Nat) : Nat := 1 + (seenTo l hide i).length
def aheadB {d : Nat} (t : Tr d) (way : List Int) (a : Nat) : Bool := (List.range (a + 1)).any fun k => leadsF d t way k a
def behindB {d : Nat} (t : Tr d) (way : List Int) (a : Nat) : Bool := (List.range (way.length + 1)).any fun k => decide (a ≤ k) && leadsF d t way a k
theorem seenTo_take {l : List Int} {hide : List Bool} (i : Nat) : ∀ k, k ≤ i → seenTo (l.take i) hide k = seenTo l hide k := by
  intro k
  induction k with
  | zero => intro _; rfl
  | succ k ih =>
    intro hk
    have hn : nth (l.take i) k = nth l k := by unfold nth; rw [List.getElem?_take, if_pos (by omega)]
    cases hb : nthB hide k with
    | true => rw [seenTo_skip hb, seenTo_skip hb]; exact ih (by omega)
    | false => rw [seenTo_put hb, seenTo_put hb, hn, ih (by omega)]
theorem seenTo_split {l : List Int} {hide : List Bool} (i : Nat) : ∀ k, seenTo l hide (i + k) = seenTo l hide i ++ seenTo (l.drop i) (hide.drop i) k := by
  intro k
  induction k with
  | zero => simp [seenTo]
  | succ k ih =>
    have hn : nth (l.drop i) k = nth l (i + k) := by unfold nth; rw [List.getElem?_drop]
    have hh : nthB (hide.drop i) k = nthB hide (i + k) := by unfold nthB; rw [List.getElem?_drop]
    cases hb : nthB hide (i + k) with
    | true => rw [show i + (k + 1) = (i + k) + 1 by omega, seenTo_skip hb, seenTo_skip (by rw [hh]; exact hb)]; exact ih
    | false => rw [show i + (k + 1) = (i + k) + 1 by omega, seenTo_put hb, seenTo_put (by rw [hh]; exact hb), hn, ih, List.append_assoc]
theorem way_split {l : List Int} {hide : List Bool} {i : Nat} (hi : i ≤ l.length) : wayOf l hide = leftOf l hide i ++ rightOf l hide i := by
  unfold wayOf leftOf rightOf
  rw [seenTo_take i i (Nat.le_refl _), show l.length = i + (l.length - i) by omega, seenTo_split]
  simp
theorem left_len (l : List Int) (hide : List Bool) (i : Nat) : (leftOf l hide i).length = posOf l hide i := by
  unfold leftOf posOf
  rw [seenTo_take i i (Nat.le_refl _), List.length_cons]
  omega
theorem matches_is {d : Nat} {t : Tr d} (hr : rightT d t = true) (marks : List Int) : matchesT t marks = true ↔ Lead d t marks 0 marks.length := by
  unfold matchesT
  rw [hr, Bool.true_and, ends_is d t false marks _ (rightT_cnt hr).2 (by simp [noB])]
  constructor
  · rintro ⟨i, hi, h⟩
    cases i with
    | zero => exact h
    | succ i =>
      exfalso
      have : nthB (noB marks.length) i = true := hi
      rw [nthB_no] at this
      cases this
  · exact fun h => ⟨0, rfl, h⟩
theorem bool_eq {a b : Bool} (h : a = true ↔ b = true) : a = b := by cases a <;> cases b <;> simp_all
theorem applies_is {d : Nat} {r : Rl d} (hr : okR r = true) {l : List Int} {hide : List Bool} {i : Nat} (hi : i ≤ l.length) :
    appliesB r (leftOf l hide i) (rightOf l hide i) = (aheadB r.L (wayOf l hide) (posOf l hide i) && behindB r.R (wayOf l hide) (posOf l hide i)) := by
  simp only [okR, Bool.and_eq_true, beq_iff_eq] at hr
  obtain ⟨⟨hL, hR⟩, hlook⟩ := hr
  have hfL := (rightT_cnt hL).2
  have hfR := (rightT_cnt hR).2
  have hw := way_split (hide := hide) hi
  have hll := left_len l hide i
  obtain ⟨a, ha⟩ : ∃ a, a = posOf l hide i := ⟨_, rfl⟩
  obtain ⟨left, hle⟩ : ∃ x, x = leftOf l hide i := ⟨_, rfl⟩
  obtain ⟨right, hri⟩ : ∃ x, x = rightOf l hide i := ⟨_, rfl⟩
  obtain ⟨way, hwe⟩ : ∃ x, x = wayOf l hide := ⟨_, rfl⟩
  rw [← ha, ← hle] at hll
  rw [← hwe, ← hle, ← hri] at hw
  rw [← ha, ← hle, ← hri, ← hwe]
  have hwl : way.length = a + right.length := by rw [hw, List.length_append, hll]
  have htL := leads_is d r.L false way hfL
  have htR := leads_is d r.R false way hfR
  unfold appliesB
  have e1 : someB left.length (fun k => matchesT r.L (left.drop k)) = aheadB r.L way a := bool_eq (by
    simp only [someB, aheadB, List.any_eq_true, List.mem_range]
    rw [hll]
    refine exists_congr fun k => and_congr_right fun hk => ?_
    rw [matches_is hL, htL k a (by omega) (by omega)]
    have := Lead.local k d r.L (left.drop k) way 0 (left.drop k).length (fun p _ hp => by
      rw [List.length_drop] at hp
      rw [List.getElem?_drop, hw, List.getElem?_append_left (by omega), Nat.add_comm p k])
    rw [this]
    rw [List.length_drop, hll, Nat.zero_add, show a - k + k = a by omega])
  have e2 : someB (min right.length 4) (fun k => matchesT r.R (right.take k)) = behindB r.R way a := bool_eq (by
    simp only [someB, behindB, List.any_eq_true, List.mem_range, Bool.and_eq_true, decide_eq_true_eq]
    have hloc : ∀ k, k ≤ right.length → (Lead d r.R (right.take k) 0 (right.take k).length ↔ Lead d r.R way a (a + k)) := fun k hk => by
      have hlk : (right.take k).length = k := by rw [List.length_take]; omega
      have := Lead.local a d r.R (right.take k) way 0 (right.take k).length (fun p _ hp => by
        rw [hlk] at hp
        rw [List.getElem?_take, if_pos hp, hw, List.getElem?_append_right (by omega), show p + a - left.length = p by omega])
      rw [this, hlk, Nat.zero_add, Nat.add_comm k a]
    constructor
    · rintro ⟨k, hk, h⟩
      rw [matches_is hR, hloc k (by omega)] at h
      exact ⟨a + k, by omega, by omega, (htR a (a + k) (by omega) (by omega)).2 h⟩
    · rintro ⟨k, hk, hak, h⟩
      have h' := (htR a k (by omega) hk).1 h
      have hb : 0 ≤ longT d r.R ∧ longT d r.R ≤ 4 := by
        unfold looksT at hlook
        split at hlook
        · omega
        split at hlook
        · omega
        · omega
      have hlong := lead_long d r.R false way a k hfR hb.1 h'
      obtain ⟨m, rfl⟩ : ∃ m, k = a + m := ⟨k - a, by omega⟩
      exact ⟨m, by omega, (matches_is hR _).2 ((hloc m (by omega)).2 h')⟩)
  rw [e1, e2]
/-- The first rule that applies, by the document. -/
def rAt {d : Nat} (rs : List (Rl d)) (l : List Int) (hide : List Bool) (i : Nat) : Int :=
  if nthB hide i = true then -2 else idx (fun r => aheadB r.L (wayOf l hide) (posOf l hide i) && behindB r.R (wayOf l hide) (posOf l hide i)) 0 rs
theorem idx_congr {T : Type} {p q : T → Bool} (l : List T) : ∀ k, (∀ x ∈ l, p x = q x) → idx p k l = idx q k l := by
  induction l with
  | nil => intro k _; rfl
  | cons x l ih =>
    intro k h
    simp only [idx]
    rw [h x List.mem_cons_self, ih (k + 1) fun y hy => h y (List.mem_cons_of_mem _ hy)]
theorem known_ok {d : Nat} (t : Tx d) : ∀ r ∈ (knownT t).rs, okR r = true := by
  unfold knownT
  split
  · rename_i h
    simp only [txB, Bool.and_eq_true] at h
    exact fun r hr => List.all_eq_true.1 h.2 r hr
  · exact fun r hr => by cases hr
theorem rAt_is {d : Nat} (t : Tx d) {l : List Int} {hide : List Bool} {i : Nat} (hi : i ≤ l.length) (hh : nthB hide i = false) : rAt (knownT t).rs l hide i = atI (knownT t).rs l hide i := by
  unfold rAt atI
  rw [if_neg (by rw [hh]; simp)]
  exact idx_congr _ 0 fun r hr => (applies_is (known_ok t r hr) hi).symm
end Go.Proofs.Ytjcdcmeclnihbaa
