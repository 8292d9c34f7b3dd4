/- A matrix in memory. No conditions. -/
import Derived.Test.YtmdkmobcglnmgaaAp
namespace Go.Proofs.Ytmdkmobcglnmgaa
open Go.RowKit

def MatK (w : World) (mb n k : Nat) (rb : Nat → Nat) (M : Nat → Nat → Int) : Prop :=
  w.heap[mb]? = some (.cells (((List.range k).map fun p => Value.slice (some ⟨rb p, 0, none⟩) n n) ++ List.replicate (n - k) (Value.slice none 0 0)).toArray 32 (0, 0)) ∧
  (∀ p, p < k → IntBlk w (rb p) 3 .i64 ((List.range n).map (M p))) ∧ (∀ p q, p < k → q < k → rb p = rb q → p = q)
def updM (M : Nat → Nat → Int) (p q : Nat) (z : Int) : Nat → Nat → Int := fun p' q' => if p' = p ∧ q' = q then z else M p' q'
theorem updM_at (M : Nat → Nat → Int) (p q : Nat) (z : Int) : updM M p q z p q = z := by simp [updM]
theorem updM_ne {M : Nat → Nat → Int} {p q p' q' : Nat} {z : Int} (h : ¬ (p' = p ∧ q' = q)) : updM M p q z p' q' = M p' q' := by simp [updM, h]
theorem nth_range {n j : Nat} {f : Nat → Int} (h : j < n) : nth ((List.range n).map f) j = f j := by simp [nth, h]
section
variable {w w' : World} {mb n k : Nat} {rb : Nat → Nat} {M : Nat → Nat → Int}
theorem MatK.lt (h : MatK w mb n k rb M) : mb < w.heap.size := (Array.getElem?_eq_some_iff.1 h.1).1
theorem MatK.cell (h : MatK w mb n k rb M) {p : Nat} (hp : p < k) : w.cell? ⟨mb, p, none⟩ = some (.slice (some ⟨rb p, 0, none⟩) n n) := by
  rw [cell_of_row _ _ _ _ _ _ h.1]; simp [List.getElem?_append, hp]
theorem MatK.nil (h : MatK w mb n k rb M) {p : Nat} (hp : k ≤ p) (hn : p < n) : w.cell? ⟨mb, p, none⟩ = some (.slice none 0 0) := by
  rw [cell_of_row _ _ _ _ _ _ h.1]
  simp only [List.getElem?_toArray]
  rw [List.getElem?_append_right (by simpa using hp), List.getElem?_replicate, if_pos (by simp; omega)]
theorem MatK.frozen (h : MatK w mb n k rb M) (p : Nat) : w.frozen? ⟨mb, p, none⟩ = false := frozen_of_row _ _ _ _ _ h.1
theorem MatK.at (h : MatK w mb n k rb M) {p q : Nat} (hp : p < k) (hq : q < n) : w.cell? ⟨rb p, q, none⟩ = some (.int .i64 (M p q)) := by
  have := (h.2.1 p hp).cell (j := q) (by simpa using hq)
  rwa [nth_range hq] at this
theorem MatK.free (h : MatK w mb n k rb M) {p : Nat} (hp : p < k) (q : Nat) : w.frozen? ⟨rb p, q, none⟩ = false := (h.2.1 p hp).frozen q
theorem MatK.ne (h : MatK w mb n k rb M) {p : Nat} (hp : p < k) : rb p ≠ mb := fun e => by
  have h1 := h.2.1 p hp
  unfold IntBlk at h1
  rw [e, h.1] at h1
  injection h1 with h1
  injection h1 with _ h1
  cases h1
theorem MatK.set (h : MatK w mb n k rb M) {p q : Nat} (hp : p < k) (hq : q < n) (z : Int) : MatK (w.setCell ⟨rb p, q, none⟩ (.int .i64 z)) mb n k rb (updM M p q z) := by
  refine ⟨(Below.heap_setCell w _ _ _ (fun e => h.ne hp e.symm)).trans h.1, fun p' hp' => ?_, h.2.2⟩
  by_cases e : p' = p
  · subst e
    have h1 := (h.2.1 p' hp).set q z
    have : ((List.range n).map (M p')).set q z = (List.range n).map (updM M p' q z p') := by
      apply List.ext_getElem?
      intro j
      rw [List.getElem?_set]
      by_cases hj : q = j
      · subst hj; simp [hq, updM]
      · rw [if_neg hj, List.getElem?_map, List.getElem?_map]
        by_cases hjn : j < n
        · simp [hjn, updM_ne (M := M) (z := z) (show ¬ (p' = p' ∧ j = q) by omega)]
        · rw [List.getElem?_eq_none (by simpa using hjn)]; rfl
    rwa [this] at h1
  · have hk := (h.2.1 p' hp').keep (Below.heap_setCell w ⟨rb p, q, none⟩ (.int .i64 z) (rb p') (fun e2 => e (h.2.2 p' p hp' hp e2)))
    have : (List.range n).map (M p') = (List.range n).map (updM M p q z p') := by
      apply List.map_congr_left
      intro j _
      rw [updM_ne (by omega)]
    rwa [this] at hk
theorem MatK.below (h : MatK w mb n k rb M) (hb : Below w.heap.size w w') : MatK w' mb n k rb M := ⟨(hb.block _ h.lt).trans h.1, fun p hp => (h.2.1 p hp).keep (hb.block _ (h.2.1 p hp).lt), h.2.2⟩
theorem MatK.drewN (h : MatK w mb n k rb M) (q : Nat) : MatK (w.drewN q) mb n k rb M := h
theorem MatK.start (w : World) (n : Nat) (rb : Nat → Nat) (M : Nat → Nat → Int) : MatK (w.alloc (.cells (List.replicate n (Value.slice none 0 0)).toArray 32)) w.heap.size n 0 rb M :=
  ⟨by rw [heap_alloc_new]; simp, fun p hp => by omega, fun p q hp => by omega⟩
/-- A row is made, and laid in. -/
theorem MatK.add (h : MatK w mb n k rb M) (hk : k < n) {w1 : World} (hb : Below w.heap.size w w1) {g : Nat} (hg : w.heap.size ≤ g) (hi : IntBlk w1 g 3 .i64 (List.replicate n 0)) :
    MatK (w1.setCell ⟨mb, k, none⟩ (.slice (some ⟨g, 0, none⟩) n n)) mb n (k + 1) (fun p => if p = k then g else rb p) (fun p q => if p = k then 0 else M p q) := by
  have h1 := h.below hb
  have hlt := h.lt
  have hgn : g ≠ mb := by omega
  refine ⟨?_, fun p hp => ?_, fun p q hp hq e => ?_⟩
  · rw [heap_setCell_same w1 mb k _ 32 _ h1.1]
    congr 2
    apply Array.ext'
    rw [Array.toList_setIfInBounds]
    simp only
    rw [List.set_append_right _ _ (by simp), List.range_succ, List.map_append, show n - k = (n - (k + 1)) + 1 by omega, List.replicate_succ, List.append_assoc]
    simp only [List.length_map, List.length_range, Nat.sub_self, List.set_cons_zero, List.map_cons, List.map_nil, List.singleton_append, if_pos]
    congr 1
    apply List.map_congr_left
    intro p hp
    rw [if_neg (by have := List.mem_range.1 hp; omega)]
  · by_cases e : p = k
    · subst e
      simp only [if_pos]
      have : (List.range n).map (fun _ => (0 : Int)) = List.replicate n 0 := by
        apply List.ext_getElem?
        intro j
        by_cases hj : j < n
        · simp [hj]
        · rw [List.getElem?_eq_none (by simpa using hj), List.getElem?_eq_none (by simpa using hj)]
      rw [this]
      exact hi.keep (Below.heap_setCell w1 _ _ _ hgn)
    · simp only [if_neg e]
      exact (h1.2.1 p (by omega)).keep (Below.heap_setCell w1 _ _ _ (h1.ne (by omega)))
  · have lt : ∀ p, p < k → rb p < w.heap.size := fun p hp => (h.2.1 p hp).lt
    dsimp only at e
    by_cases e1 : p = k
    · by_cases e2 : q = k
      · omega
      · rw [if_pos e1, if_neg e2] at e
        have := lt q (by omega); omega
    · by_cases e2 : q = k
      · rw [if_neg e1, if_pos e2] at e
        have := lt p (by omega); omega
      · rw [if_neg e1, if_neg e2] at e
        exact h.2.2 p q (by omega) (by omega) e
end
/-- In the midst of a round. -/
def HalfM (rs : List (List Int)) (ts : List Int) (n r p q : Nat) (M : Nat → Nat → Int) : Prop :=
  ∀ p' q', p' < n → q' < n → ((p' < p ∨ p' = p ∧ q' < q) → APart rs ts (r + 1) p' q' (M p' q')) ∧ (¬ (p' < p ∨ p' = p ∧ q' < q) → APart rs ts r p' q' (M p' q'))
/-- At one pair: its marks up to the m-th are looked at. -/
def PairM (rs : List (List Int)) (ts : List Int) (n r p q m : Nat) (M : Nat → Nat → Int) : Prop :=
  (∀ p' q', p' < n → q' < n → ¬ (p' = p ∧ q' = q) → ((p' < p ∨ p' = p ∧ q' < q) → APart rs ts (r + 1) p' q' (M p' q')) ∧ (¬ (p' < p ∨ p' = p ∧ q' < q) → APart rs ts r p' q' (M p' q'))) ∧
  ((0 ≤ M p q ∧ APart rs ts (r + 1) p q (M p q)) ∨ (M p q = -1 ∧ ¬ dk rs ts r p q ∧ ∀ m', m' < m → ¬ dk rs ts r (stp rs p m') (stp rs q m')))
section
variable {rs : List (List Int)} {ts : List Int} {n r p q m : Nat} {M : Nat → Nat → Int}
theorem HalfM.pair (h : HalfM rs ts n r p q M) (hp : p < n) (hq : q < n) : PairM rs ts n r p q 0 M := by
  refine ⟨fun p' q' h1 h2 _ => h p' q' h1 h2, ?_⟩
  have h1 := (h p q hp hq).2 (by omega)
  rcases h1 with ⟨e, hd⟩ | ⟨k, k1, k2, k3⟩
  · exact .inr ⟨e, hd, fun m' hm => by omega⟩
  · have hk : APart rs ts r p q (M p q) := .inr ⟨k, k1, k2, k3⟩
    exact .inl ⟨by omega, hk.keep (by omega)⟩
theorem PairM.done (h : PairM rs ts n r p q m M) (hm : 0 ≤ M p q ∨ 37 ≤ m) : HalfM rs ts n r p (q + 1) M := fun p' q' h1 h2 => by
  by_cases e : p' = p ∧ q' = q
  · obtain ⟨rfl, rfl⟩ := e
    refine ⟨fun _ => ?_, fun hn => by omega⟩
    rcases h.2 with ⟨_, hk⟩ | ⟨e, hd, hm'⟩
    · exact hk
    · rw [e]; exact APart.none hd fun m' hm2 => hm' m' (by omega)
  · obtain ⟨a, b⟩ := h.1 p' q' h1 h2 e
    exact ⟨fun hx => a (by omega), fun hx => b (by omega)⟩
theorem PairM.look (h : PairM rs ts n r p q m M) (hneg : M p q < 0) {p' q' : Nat} (h1 : p' < n) (h2 : q' < n) : (0 ≤ M p' q' ∧ M p' q' < (r : Int) + 1) ↔ dk rs ts r p' q' := by
  by_cases e : p' = p ∧ q' = q
  · obtain ⟨rfl, rfl⟩ := e
    rcases h.2 with ⟨h0, _⟩ | ⟨e, hd, _⟩
    · omega
    · exact APart.seen (.inl (.inl ⟨e, hd⟩))
  · obtain ⟨a, b⟩ := h.1 p' q' h1 h2 e
    by_cases hx : p' < p ∨ p' = p ∧ q' < q
    · exact APart.seen (.inr (a hx))
    · exact APart.seen (.inl (b hx))
theorem PairM.skip (h : PairM rs ts n r p q m M) (hneg : M p q < 0) (hd : ¬ dk rs ts r (stp rs p m) (stp rs q m)) : PairM rs ts n r p q (m + 1) M := by
  refine ⟨h.1, ?_⟩
  rcases h.2 with ⟨h0, _⟩ | ⟨e, h1, h2⟩
  · omega
  · exact .inr ⟨e, h1, fun m' hm => by
      by_cases e2 : m' = m
      · rw [e2]; exact hd
      · exact h2 m' (by omega)⟩
theorem PairM.hit (h : PairM rs ts n r p q m M) (hneg : M p q < 0) (hm : m < 37) (hd : dk rs ts r (stp rs p m) (stp rs q m)) : PairM rs ts n r p q (m + 1) (updM M p q ((r + 1 : Nat) : Int)) := by
  refine ⟨fun p' q' h1 h2 e => by rw [updM_ne e]; exact h.1 p' q' h1 h2 e, .inl ?_⟩
  rw [updM_at]
  rcases h.2 with ⟨h0, _⟩ | ⟨e, h1, _⟩
  · omega
  · exact ⟨by omega, APart.set h1 hm hd⟩
theorem HalfM.next (h : HalfM rs ts n r p n M) : HalfM rs ts n r (p + 1) 0 M := fun p' q' h1 h2 => ⟨fun hx => (h p' q' h1 h2).1 (by omega), fun hx => (h p' q' h1 h2).2 (by omega)⟩
theorem HalfM.begin (h : ∀ p' q', p' < n → q' < n → APart rs ts r p' q' (M p' q')) : HalfM rs ts n r 0 0 M := fun p' q' h1 h2 => ⟨fun hx => by omega, fun _ => h p' q' h1 h2⟩
theorem HalfM.fin (h : HalfM rs ts n r n 0 M) : ∀ p' q', p' < n → q' < n → APart rs ts (r + 1) p' q' (M p' q') := fun p' q' h1 h2 => (h p' q' h1 h2).1 (by omega)
end
end Go.Proofs.Ytmdkmobcglnmgaa
