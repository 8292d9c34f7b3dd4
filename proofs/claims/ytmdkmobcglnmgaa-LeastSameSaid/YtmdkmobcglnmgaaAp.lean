/- By how many marks states are told apart: plain. No program here. Conditions: none. -/
import Derived.Test.YtmdkmobcglnmgaaLh
namespace Go.Proofs.Ytmdkmobcglnmgaa
open Go.RowKit

/-- Told apart by at most so many marks. -/
def dk (rs : List (List Int)) (ts : List Int) : Nat → Nat → Nat → Prop
  | 0, p, q => nth ts p ≠ nth ts q
  | k + 1, p, q => dk rs ts k p q ∨ ∃ m, m < 37 ∧ dk rs ts k (stp rs p m) (stp rs q m)
section
variable {rs : List (List Int)} {ts : List Int}
theorem dk_mono {k j : Nat} (h : k ≤ j) {p q : Nat} (hd : dk rs ts k p q) : dk rs ts j p q := by
  induction h with
  | refl => exact hd
  | step _ ih => exact .inl ih
theorem dk_irr : ∀ (k p : Nat), ¬ dk rs ts k p p
  | 0, _, h => h rfl
  | k + 1, p, h => by
    rcases h with h | ⟨m, _, h⟩
    · exact dk_irr k p h
    · exact dk_irr k _ h
theorem dk_symm : ∀ {k p q : Nat}, dk rs ts k p q → dk rs ts k q p
  | 0, _, _, h => Ne.symm h
  | k + 1, _, _, h => by
    rcases h with h | ⟨m, hm, h⟩
    · exact .inl (dk_symm h)
    · exact .inr ⟨m, hm, dk_symm h⟩
theorem dk_trans : ∀ {k p r : Nat} (q : Nat), dk rs ts k p r → dk rs ts k p q ∨ dk rs ts k q r
  | 0, p, r, q, h => by
    by_cases e : nth ts p = nth ts q
    · exact .inr fun e2 => h (e.trans e2)
    · exact .inl e
  | k + 1, p, r, q, h => by
    rcases h with h | ⟨m, hm, h⟩
    · rcases dk_trans q h with h | h
      · exact .inl (.inl h)
      · exact .inr (.inl h)
    · rcases dk_trans (stp rs q m) h with h | h
      · exact .inl (.inr ⟨m, hm, h⟩)
      · exact .inr (.inr ⟨m, hm, h⟩)
theorem dk_word : ∀ {k p q : Nat}, dk rs ts k p q ↔ ∃ w : List Nat, (∀ m ∈ w, m < 37) ∧ w.length ≤ k ∧ nth ts (goW rs p w) ≠ nth ts (goW rs q w)
  | 0, p, q => ⟨fun h => ⟨[], (fun m h => by cases h), Nat.le_refl _, h⟩, fun ⟨w, _, h2, h3⟩ => by
      obtain rfl : w = [] := List.eq_nil_of_length_eq_zero (by omega)
      exact h3⟩
  | k + 1, p, q => ⟨fun h => by
      rcases h with h | ⟨m, hm, h⟩
      · obtain ⟨w, h1, h2, h3⟩ := dk_word.1 h
        exact ⟨w, h1, by omega, h3⟩
      · obtain ⟨w, h1, h2, h3⟩ := dk_word.1 h
        refine ⟨m :: w, fun x hx => ?_, by simpa using h2, h3⟩
        rcases List.mem_cons.1 hx with rfl | hx
        · exact hm
        · exact h1 x hx, fun ⟨w, h1, h2, h3⟩ => by
      cases w with
      | nil => exact .inl (dk_word.2 ⟨[], h1, Nat.zero_le _, h3⟩)
      | cons m w => exact .inr ⟨m, h1 m List.mem_cons_self, dk_word.2 ⟨w, fun x hx => h1 x (List.mem_cons_of_mem _ hx), by simpa using h2, h3⟩⟩⟩
theorem alk_dk {p q : Nat} : Alk rs ts p q ↔ ∀ k, ¬ dk rs ts k p q := by
  refine ⟨fun h k hk => ?_, fun h w hw => ?_⟩
  · obtain ⟨w, h1, _, h3⟩ := dk_word.1 hk
    exact h3 (h w h1)
  · by_cases e : nth ts (goW rs p w) = nth ts (goW rs q w)
    · exact e
    · exact absurd (dk_word.2 ⟨w, hw, Nat.le_refl _, e⟩) (h w.length)
theorem dk_stable {n : Nat} (hr : RT rs n) {j : Nat} (hs : ∀ p q, p < n → q < n → dk rs ts (j + 1) p q → dk rs ts j p q) : ∀ (k p q : Nat), p < n → q < n → dk rs ts k p q → dk rs ts j p q
  | 0, _, _, _, _, h => dk_mono (Nat.zero_le _) h
  | k + 1, p, q, hp, hq, h => by
    rcases h with h | ⟨m, hm, h⟩
    · exact dk_stable hr hs k p q hp hq h
    · exact hs p q hp hq (.inr ⟨m, hm, dk_stable hr hs k _ _ (hr.at hp hm).1 (hr.at hq hm).1 h⟩)
theorem dk_grow {n : Nat} (hn : 1 ≤ n) : ∀ k, (∃ j, j ≤ k ∧ ∀ p q, p < n → q < n → dk rs ts (j + 1) p q → dk rs ts j p q) ∨ ∃ l : List Nat, l.length = k + 1 ∧ (∀ x ∈ l, x < n) ∧ l.Pairwise (dk rs ts k)
  | 0 => .inr ⟨[0], rfl, (fun x hx => by rw [List.mem_singleton.1 hx]; exact hn), List.pairwise_singleton _ _⟩
  | k + 1 => by
    rcases dk_grow hn k with ⟨j, h1, h2⟩ | ⟨l, h1, h2, h3⟩
    · exact .inl ⟨j, by omega, h2⟩
    · by_cases hst : ∀ p q, p < n → q < n → dk rs ts (k + 1) p q → dk rs ts k p q
      · exact .inl ⟨k, by omega, hst⟩
      · right
        have : ∃ p q, p < n ∧ q < n ∧ dk rs ts (k + 1) p q ∧ ¬ dk rs ts k p q := by
          refine Classical.byContradiction fun hc => hst fun p q hp hq hd => Classical.byContradiction fun hd2 => hc ⟨p, q, hp, hq, hd, hd2⟩
        obtain ⟨p, q, hp, hq, hd, hnd⟩ := this
        have add : ∀ x, x < n → (∀ y ∈ l, dk rs ts (k + 1) x y) → ∃ l : List Nat, l.length = k + 1 + 1 ∧ (∀ x ∈ l, x < n) ∧ l.Pairwise (dk rs ts (k + 1)) := fun x hx hy => by
          refine ⟨x :: l, by simp [h1], fun z hz => ?_, List.pairwise_cons.2 ⟨hy, h3.imp fun h => .inl h⟩⟩
          rcases List.mem_cons.1 hz with rfl | hz
          · exact hx
          · exact h2 z hz
        by_cases hr : ∃ r ∈ l, ¬ dk rs ts k p r
        · obtain ⟨r, hr1, hr2⟩ := hr
          have others : ∀ x, ¬ dk rs ts k x r → ∀ y ∈ l, y ≠ r → dk rs ts k x y := fun x hx y hy hne => by
            have hry : dk rs ts k r y := by
              obtain ⟨i, hi, rfl⟩ := List.mem_iff_getElem.1 hy
              obtain ⟨j, hj, rfl⟩ := List.mem_iff_getElem.1 hr1
              rcases Nat.lt_trichotomy i j with h | h | h
              · exact dk_symm (List.pairwise_iff_getElem.1 h3 i j hi hj h)
              · subst h; exact absurd rfl hne
              · exact List.pairwise_iff_getElem.1 h3 j i hj hi h
            rcases dk_trans x hry with h | h
            · exact absurd (dk_symm h) hx
            · exact h
          rcases dk_trans r hd with h | h
          · exact add p hp fun y hy => by
              by_cases e : y = r
              · rw [e]; exact h
              · exact .inl (others p hr2 y hy e)
          · have hqr : ¬ dk rs ts k q r := fun h2 => by
              rcases dk_trans p h2 with h3 | h3
              · exact hnd (dk_symm h3)
              · exact hr2 h3
            exact add q hq fun y hy => by
              by_cases e : y = r
              · rw [e]; exact dk_symm h
              · exact .inl (others q hqr y hy e)
        · exact add p hp fun y hy => .inl (Classical.byContradiction fun h => hr ⟨y, hy, h⟩)
/-- Told apart at all: told apart by as many marks as there are states. -/
theorem alk_of_dk {n : Nat} (hr : RT rs n) (hn : 1 ≤ n) {p q : Nat} (hp : p < n) (hq : q < n) (h : ¬ dk rs ts n p q) : Alk rs ts p q := by
  rcases dk_grow (rs := rs) (ts := ts) hn n with ⟨j, h1, h2⟩ | ⟨l, h1, h2, h3⟩
  · exact alk_dk.2 fun k hk => h (dk_mono h1 (dk_stable hr h2 k p q hp hq hk))
  · have hnd : l.Nodup := List.Pairwise.imp (S := fun a b => a ≠ b) (fun {a b} hab e => dk_irr (rs := rs) (ts := ts) n b (by rw [e] at hab; exact hab)) h3
    have := nodup_len hnd (k := List.range n) fun x hx => List.mem_range.2 (h2 x hx)
    simp at this
    omega

/-- What the matrix says of two states behind round r. -/
def APart (rs : List (List Int)) (ts : List Int) (r p q : Nat) (a : Int) : Prop := (a = -1 ∧ ¬ dk rs ts r p q) ∨ ∃ k : Nat, k ≤ r ∧ a = k ∧ dk rs ts k p q ∧ ∀ j, j < k → ¬ dk rs ts j p q
theorem APart.pos {r p q : Nat} {a : Int} (h : APart rs ts r p q a) : 0 ≤ a ↔ dk rs ts r p q := by
  rcases h with ⟨rfl, h⟩ | ⟨k, h1, rfl, h2, _⟩
  · exact ⟨fun h => by omega, fun h' => absurd h' h⟩
  · exact ⟨fun _ => dk_mono h1 h2, fun _ => by omega⟩
theorem APart.seen {r p q : Nat} {a : Int} (h : APart rs ts r p q a ∨ APart rs ts (r + 1) p q a) : (0 ≤ a ∧ a < (r : Int) + 1) ↔ dk rs ts r p q := by
  rcases h with h | h
  · rw [← h.pos]
    refine ⟨fun h => h.1, fun h0 => ⟨h0, ?_⟩⟩
    rcases h with ⟨rfl, _⟩ | ⟨k, h1, rfl, _⟩ <;> omega
  · rcases h with ⟨rfl, h⟩ | ⟨k, h1, rfl, h2, h3⟩
    · exact ⟨fun h => by omega, fun h' => absurd (dk_mono (Nat.le_succ _) h') h⟩
    · refine ⟨fun h => dk_mono (by omega) h2, fun hd => ⟨by omega, ?_⟩⟩
      by_cases e : k = r + 1
      · exact absurd hd (h3 r (by omega))
      · omega
theorem APart.keep {r p q : Nat} {a : Int} (h : APart rs ts r p q a) (h0 : 0 ≤ a) : APart rs ts (r + 1) p q a := by
  rcases h with ⟨rfl, _⟩ | ⟨k, h1, h2, h3⟩
  · omega
  · exact .inr ⟨k, by omega, h2, h3⟩
theorem APart.set {r p q m : Nat} (h : ¬ dk rs ts r p q) (hm : m < 37) (hd : dk rs ts r (stp rs p m) (stp rs q m)) : APart rs ts (r + 1) p q ((r + 1 : Nat) : Int) :=
  .inr ⟨r + 1, Nat.le_refl _, rfl, .inr ⟨m, hm, hd⟩, fun j hj h2 => h (dk_mono (by omega) h2)⟩
theorem APart.none {r p q : Nat} (h : ¬ dk rs ts r p q) (hd : ∀ m, m < 37 → ¬ dk rs ts r (stp rs p m) (stp rs q m)) : APart rs ts (r + 1) p q (-1) :=
  .inl ⟨rfl, fun h2 => by
    rcases h2 with h2 | ⟨m, hm, h2⟩
    · exact h h2
    · exact hd m hm h2⟩
theorem APart.zero {p q : Nat} : (nth ts p = nth ts q → APart rs ts 0 p q (-1)) ∧ (nth ts p ≠ nth ts q → APart rs ts 0 p q 0) :=
  ⟨fun h => .inl ⟨rfl, fun h2 => h2 h⟩, fun h => .inr ⟨0, Nat.le_refl _, rfl, h, fun j hj => by omega⟩⟩
theorem APart.alk {n p q : Nat} {a : Int} (h : APart rs ts n p q a) (hr : RT rs n) (hn : 1 ≤ n) (hp : p < n) (hq : q < n) : a < 0 ↔ Alk rs ts p q := by
  refine ⟨fun h0 => alk_of_dk hr hn hp hq fun hd => ?_, fun h1 => ?_⟩
  · have := h.pos.2 hd; omega
  · by_cases e : 0 ≤ a
    · exact absurd (h.pos.1 e) (alk_dk.1 h1 n)
    · omega
end
end Go.Proofs.Ytmdkmobcglnmgaa
namespace Go.Proofs.Ytmdkmobcglnmgaa
open Go.RowKit

def MatK (w : World) (mb n k : Nat) (rb : Nat → Nat) (M : Nat → Nat → Int) : Prop :=
  w.heap[mb]? = some (.cells (((List.range k).map fun p => Value.slice (some ⟨rb p, 0, none⟩) n n) ++ List.replicate (n - k) (Value.slice none 0 0)).toArray 32 (0, 0)) ∧
  (∀ p, p < k → IntBlk w (rb p) 3 .i64 ((List.range n).map (M p))) ∧ (∀ p q, p < k → q < k → rb p = rb q → p = q)
def updM (M : Nat → Nat → Int) (p q : Nat) (z : Int) : Nat → Nat → Int := fun p' q' => if p' = p ∧ q' = q then z else M p' q'
theorem updM_at (M : Nat → Nat → Int) (p q : Nat) (z : Int) : updM M p q z p q = z := by simp [updM]
theorem updM_ne {M : Nat → Nat → Int} {p q p' q' : Nat} {z : Int} (h : ¬ (p' = p ∧ q' = q)) : updM M p q z p' q' = M p' q' := by simp [updM, h]
theorem nth_range {n j : Nat} {f : Nat → Int} (h : j < n) : nth ((List.range n).map f) j = f j := by simp [nth, h]
section
variable {w w' : World} {mb n k : Nat} {rb : Nat → Nat} {M : Nat → Nat → Int}
theorem MatK.lt (h : MatK w mb n k rb M) : mb < w.heap.size := (Array.getElem?_eq_some_iff.1 h.1).1
theorem MatK.cell (h : MatK w mb n k rb M) {p : Nat} (hp : p < k) : w.cell? ⟨mb, p, none⟩ = some (.slice (some ⟨rb p, 0, none⟩) n n) := by
  rw [cell_of_row _ _ _ _ _ _ h.1]; simp [List.getElem?_append, hp]
theorem MatK.nil (h : MatK w mb n k rb M) {p : Nat} (hp : k ≤ p) (hn : p < n) : w.cell? ⟨mb, p, none⟩ = some (.slice none 0 0) := by
  rw [cell_of_row _ _ _ _ _ _ h.1]
  simp only [List.getElem?_toArray]
  rw [List.getElem?_append_right (by simpa using hp), List.getElem?_replicate, if_pos (by simp; omega)]
theorem MatK.frozen (h : MatK w mb n k rb M) (p : Nat) : w.frozen? ⟨mb, p, none⟩ = false := frozen_of_row _ _ _ _ _ h.1
theorem MatK.at (h : MatK w mb n k rb M) {p q : Nat} (hp : p < k) (hq : q < n) : w.cell? ⟨rb p, q, none⟩ = some (.int .i64 (M p q)) := by
  have := (h.2.1 p hp).cell (j := q) (by simpa using hq)
  rwa [nth_range hq] at this
theorem MatK.free (h : MatK w mb n k rb M) {p : Nat} (hp : p < k) (q : Nat) : w.frozen? ⟨rb p, q, none⟩ = false := (h.2.1 p hp).frozen q
theorem MatK.ne (h : MatK w mb n k rb M) {p : Nat} (hp : p < k) : rb p ≠ mb := fun e => by
  have h1 := h.2.1 p hp
  unfold IntBlk at h1
  rw [e, h.1] at h1
  injection h1 with h1
  injection h1 with _ h1
  cases h1
theorem MatK.set (h : MatK w mb n k rb M) {p q : Nat} (hp : p < k) (hq : q < n) (z : Int) : MatK (w.setCell ⟨rb p, q, none⟩ (.int .i64 z)) mb n k rb (updM M p q z) := by
  refine ⟨(Below.heap_setCell w _ _ _ (fun e => h.ne hp e.symm)).trans h.1, fun p' hp' => ?_, h.2.2⟩
  by_cases e : p' = p
  · subst e
    have h1 := (h.2.1 p' hp).set q z
    have : ((List.range n).map (M p')).set q z = (List.range n).map (updM M p' q z p') := by
      apply List.ext_getElem?
      intro j
      rw [List.getElem?_set]
      by_cases hj : q = j
      · subst hj; simp [hq, updM]
      · rw [if_neg hj, List.getElem?_map, List.getElem?_map]
        by_cases hjn : j < n
        · simp [hjn, updM_ne (M := M) (z := z) (show ¬ (p' = p' ∧ j = q) by omega)]
        · rw [List.getElem?_eq_none (by simpa using hjn)]; rfl
    rwa [this] at h1
  · have hk := (h.2.1 p' hp').keep (Below.heap_setCell w ⟨rb p, q, none⟩ (.int .i64 z) (rb p') (fun e2 => e (h.2.2 p' p hp' hp e2)))
    have : (List.range n).map (M p') = (List.range n).map (updM M p q z p') := by
      apply List.map_congr_left
      intro j _
      rw [updM_ne (by omega)]
    rwa [this] at hk
theorem MatK.below (h : MatK w mb n k rb M) (hb : Below w.heap.size w w') : MatK w' mb n k rb M := ⟨(hb.block _ h.lt).trans h.1, fun p hp => (h.2.1 p hp).keep (hb.block _ (h.2.1 p hp).lt), h.2.2⟩
theorem MatK.drewN (h : MatK w mb n k rb M) (q : Nat) : MatK (w.drewN q) mb n k rb M := h
theorem MatK.start (w : World) (n : Nat) (rb : Nat → Nat) (M : Nat → Nat → Int) : MatK (w.alloc (.cells (List.replicate n (Value.slice none 0 0)).toArray 32)) w.heap.size n 0 rb M :=
  ⟨by rw [heap_alloc_new]; simp, fun p hp => by omega, fun p q hp => by omega⟩
/-- A row is made, and laid in. -/
theorem MatK.add (h : MatK w mb n k rb M) (hk : k < n) {w1 : World} (hb : Below w.heap.size w w1) {g : Nat} (hg : w.heap.size ≤ g) (hi : IntBlk w1 g 3 .i64 (List.replicate n 0)) :
    MatK (w1.setCell ⟨mb, k, none⟩ (.slice (some ⟨g, 0, none⟩) n n)) mb n (k + 1) (fun p => if p = k then g else rb p) (fun p q => if p = k then 0 else M p q) := by
  have h1 := h.below hb
  have hlt := h.lt
  have hgn : g ≠ mb := by omega
  refine ⟨?_, fun p hp => ?_, fun p q hp hq e => ?_⟩
  · rw [heap_setCell_same w1 mb k _ 32 _ h1.1]
    congr 2
    apply Array.ext'
    rw [Array.toList_setIfInBounds]
    simp only
    rw [List.set_append_right _ _ (by simp), List.range_succ, List.map_append, show n - k = (n - (k + 1)) + 1 by omega, List.replicate_succ, List.append_assoc]
    simp only [List.length_map, List.length_range, Nat.sub_self, List.set_cons_zero, List.map_cons, List.map_nil, List.singleton_append, if_pos]
    congr 1
    apply List.map_congr_left
    intro p hp
    rw [if_neg (by have := List.mem_range.1 hp; omega)]
  · by_cases e : p = k
    · subst e
      simp only [if_pos]
      have : (List.range n).map (fun _ => (0 : Int)) = List.replicate n 0 := by
        apply List.ext_getElem?
        intro j
        by_cases hj : j < n
        · simp [hj]
        · rw [List.getElem?_eq_none (by simpa using hj), List.getElem?_eq_none (by simpa using hj)]
      rw [this]
      exact hi.keep (Below.heap_setCell w1 _ _ _ hgn)
    · simp only [if_neg e]
      exact (h1.2.1 p (by omega)).keep (Below.heap_setCell w1 _ _ _ (h1.ne (by omega)))
  · have lt : ∀ p, p < k → rb p < w.heap.size := fun p hp => (h.2.1 p hp).lt
    dsimp only at e
    by_cases e1 : p = k
    · by_cases e2 : q = k
      · omega
      · rw [if_pos e1, if_neg e2] at e
        have := lt q (by omega); omega
    · by_cases e2 : q = k
      · rw [if_neg e1, if_pos e2] at e
        have := lt p (by omega); omega
      · rw [if_neg e1, if_neg e2] at e
        exact h.2.2 p q (by omega) (by omega) e
end
/-- In the midst of a round. -/
def HalfM (rs : List (List Int)) (ts : List Int) (n r p q : Nat) (M : Nat → Nat → Int) : Prop :=
  ∀ p' q', p' < n → q' < n → ((p' < p ∨ p' = p ∧ q' < q) → APart rs ts (r + 1) p' q' (M p' q')) ∧ (¬ (p' < p ∨ p' = p ∧ q' < q) → APart rs ts r p' q' (M p' q'))
/-- At one pair: its marks up to the m-th are looked at. -/
def PairM (rs : List (List Int)) (ts : List Int) (n r p q m : Nat) (M : Nat → Nat → Int) : Prop :=
  (∀ p' q', p' < n → q' < n → ¬ (p' = p ∧ q' = q) → ((p' < p ∨ p' = p ∧ q' < q) → APart rs ts (r + 1) p' q' (M p' q')) ∧ (¬ (p' < p ∨ p' = p ∧ q' < q) → APart rs ts r p' q' (M p' q'))) ∧
  ((0 ≤ M p q ∧ APart rs ts (r + 1) p q (M p q)) ∨ (M p q = -1 ∧ ¬ dk rs ts r p q ∧ ∀ m', m' < m → ¬ dk rs ts r (stp rs p m') (stp rs q m')))
section
variable {rs : List (List Int)} {ts : List Int} {n r p q m : Nat} {M : Nat → Nat → Int}
theorem HalfM.pair (h : HalfM rs ts n r p q M) (hp : p < n) (hq : q < n) : PairM rs ts n r p q 0 M := by
  refine ⟨fun p' q' h1 h2 _ => h p' q' h1 h2, ?_⟩
  have h1 := (h p q hp hq).2 (by omega)
  rcases h1 with ⟨e, hd⟩ | ⟨k, k1, k2, k3⟩
  · exact .inr ⟨e, hd, fun m' hm => by omega⟩
  · have hk : APart rs ts r p q (M p q) := .inr ⟨k, k1, k2, k3⟩
    exact .inl ⟨by omega, hk.keep (by omega)⟩
theorem PairM.done (h : PairM rs ts n r p q m M) (hm : 0 ≤ M p q ∨ 37 ≤ m) : HalfM rs ts n r p (q + 1) M := fun p' q' h1 h2 => by
  by_cases e : p' = p ∧ q' = q
  · obtain ⟨rfl, rfl⟩ := e
    refine ⟨fun _ => ?_, fun hn => by omega⟩
    rcases h.2 with ⟨_, hk⟩ | ⟨e, hd, hm'⟩
    · exact hk
    · rw [e]; exact APart.none hd fun m' hm2 => hm' m' (by omega)
  · obtain ⟨a, b⟩ := h.1 p' q' h1 h2 e
    exact ⟨fun hx => a (by omega), fun hx => b (by omega)⟩
theorem PairM.look (h : PairM rs ts n r p q m M) (hneg : M p q < 0) {p' q' : Nat} (h1 : p' < n) (h2 : q' < n) : (0 ≤ M p' q' ∧ M p' q' < (r : Int) + 1) ↔ dk rs ts r p' q' := by
  by_cases e : p' = p ∧ q' = q
  · obtain ⟨rfl, rfl⟩ := e
    rcases h.2 with ⟨h0, _⟩ | ⟨e, hd, _⟩
    · omega
    · exact APart.seen (.inl (.inl ⟨e, hd⟩))
  · obtain ⟨a, b⟩ := h.1 p' q' h1 h2 e
    by_cases hx : p' < p ∨ p' = p ∧ q' < q
    · exact APart.seen (.inr (a hx))
    · exact APart.seen (.inl (b hx))
theorem PairM.skip (h : PairM rs ts n r p q m M) (hneg : M p q < 0) (hd : ¬ dk rs ts r (stp rs p m) (stp rs q m)) : PairM rs ts n r p q (m + 1) M := by
  refine ⟨h.1, ?_⟩
  rcases h.2 with ⟨h0, _⟩ | ⟨e, h1, h2⟩
  · omega
  · exact .inr ⟨e, h1, fun m' hm => by
      by_cases e2 : m' = m
      · rw [e2]; exact hd
      · exact h2 m' (by omega)⟩
theorem PairM.hit (h : PairM rs ts n r p q m M) (hneg : M p q < 0) (hm : m < 37) (hd : dk rs ts r (stp rs p m) (stp rs q m)) : PairM rs ts n r p q (m + 1) (updM M p q ((r + 1 : Nat) : Int)) := by
  refine ⟨fun p' q' h1 h2 e => by rw [updM_ne e]; exact h.1 p' q' h1 h2 e, .inl ?_⟩
  rw [updM_at]
  rcases h.2 with ⟨h0, _⟩ | ⟨e, h1, _⟩
  · omega
  · exact ⟨by omega, APart.set h1 hm hd⟩
theorem HalfM.next (h : HalfM rs ts n r p n M) : HalfM rs ts n r (p + 1) 0 M := fun p' q' h1 h2 => ⟨fun hx => (h p' q' h1 h2).1 (by omega), fun hx => (h p' q' h1 h2).2 (by omega)⟩
theorem HalfM.begin (h : ∀ p' q', p' < n → q' < n → APart rs ts r p' q' (M p' q')) : HalfM rs ts n r 0 0 M := fun p' q' h1 h2 => ⟨fun hx => by omega, fun _ => h p' q' h1 h2⟩
theorem HalfM.fin (h : HalfM rs ts n r n 0 M) : ∀ p' q', p' < n → q' < n → APart rs ts (r + 1) p' q' (M p' q') := fun p' q' h1 h2 => (h p' q' h1 h2).1 (by omega)
end
end Go.Proofs.Ytmdkmobcglnmgaa
