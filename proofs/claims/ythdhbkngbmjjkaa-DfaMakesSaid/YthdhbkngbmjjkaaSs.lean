/- Sort and Compact of a slice of one's own; what they make of a list. Conditions: less than 2^60 numbers. -/
import Derived.Test.YthdhbkngbmjjkaaSo
import Derived.Test.YthdhbkngbmjjkaaNp
import Derived.Sort.OwnSortedInts
import Derived.Lib.RowBridge
namespace Go.Proofs.Ythdhbkngbmjjkaa
open Go.RowKit
def sortB (zs : List Int) : List Int := zs.mergeSort fun x y => decide (x ≤ y)
theorem sortB_len (zs : List Int) : (sortB zs).length = zs.length := List.length_mergeSort _
theorem own_row {w : World} {B n : Nat} {v : Value} {zs : List Int} (h : w.ownsRow B 3 1 v n (zs.map (.int .i64))) : n = zs.length ∧ ((n = 0 ∧ v = .slice none 0 0) ∨ ∃ g cap cur, v = .slice (some ⟨g, 0, none⟩) n cap ∧ B ≤ g ∧ w.heap[g]? = some (.cells cur 3 (0, 0)) ∧ n ≤ cap ∧ cap ≤ maxLen ∧ cur.size = cap * 1 ∧ cur.toList.take n = zs.map (.int .i64)) := by
  obtain ⟨h1, h2⟩ := h
  rw [List.length_map, Nat.mul_one] at h1
  refine ⟨h1.symm, ?_⟩
  rcases h2 with ⟨a, b⟩ | ⟨g, cap, cur, e, hB, hh, r1, r2, r3, r4⟩
  · exact .inl ⟨b, a⟩
  · exact .inr ⟨g, cap, cur, e, hB, hh, r1, r2, r3, by rw [Nat.mul_one] at r4; exact r4⟩
theorem sort_call {w : World} {B : Nat} {v : Value} {zs : List Int} (h : w.ownsRow B 3 1 v zs.length (zs.map (.int .i64))) (hB : B ≤ w.heap.size) (hl : zs.length ≤ 1152921504606846976) :
    Calls Try.prog 55 #[v] w fun e w' => e = .returned (.tuple #[]) ∧ w'.ownsRow B 3 1 v zs.length ((sortB zs).map (.int .i64)) ∧ Below B w w' := by
  obtain ⟨-, ⟨hn, rfl⟩ | ⟨g, cap, cur, rfl, hBg, hh, r1, r2, r3, r4⟩⟩ := own_row h
  · obtain rfl : zs = [] := List.eq_nil_of_length_eq_zero hn
    refine (Try.slices_Sort_int_none none 0 w).mono ?_
    rintro e w' ⟨rfl, rfl⟩
    rw [show sortB [] = [] from List.eq_nil_of_length_eq_zero (sortB_len [])]
    exact ⟨rfl, World.ownsRow_nil _ _ _ _, Below.refl _ _⟩
  · have hlen := sortB_len zs
    have hH : Go.Sort.Holds (Value.int .i64) w g 0 zs.toArray := fun j hj => by
      have hj' : j < zs.length := by simpa using hj
      have hc := h.cellAt j (by omega)
      rw [Nat.zero_add]
      refine ⟨?_, frozen_of_row _ _ _ _ _ hh⟩
      rw [hc]
      simp [hj']
    refine (Try.slices_Sort_int g 0 cap zs w hH (Array.getElem?_eq_some_iff.1 hh).1 (by omega)).mono ?_
    rintro e w' ⟨rfl, n, os, rfl⟩
    exact ⟨rfl, ownsRow_sortedI hlen hBg hh r1 r2 r3, (Below.refl B w).grown (grownBy_sortedI _) hB fun k hk => by cases hk; exact hBg⟩
theorem compact_call {w : World} {B : Nat} {v : Value} {zs : List Int} (h : w.ownsRow B 3 1 v zs.length (zs.map (.int .i64))) (hB : B ≤ w.heap.size) (hl : zs.length ≤ 1152921504606846976) :
    Calls Try.prog 56 #[v] w fun e w' => ∃ v', e = .returned v' ∧ IsNums .i64 w' (fun b => B ≤ b) v' (Lib.compact zs) ∧ Below B w w' := by
  obtain ⟨-, ⟨hn, rfl⟩ | ⟨g, cap, cur, rfl, hBg, hh, r1, r2, r3, r4⟩⟩ := own_row h
  · obtain rfl : zs = [] := List.eq_nil_of_length_eq_zero hn
    refine (Any.slices_Compact_int_empty Try.laysC20 none 0 w).mono ?_
    rintro e w' ⟨rfl, rfl⟩
    exact ⟨_, rfl, ⟨_, _, rfl, Nat.le_refl _, by decide, Arr.nil⟩, Below.refl _ _⟩
  · have hH : Go.Sort.Holds (Value.int .i64) w g 0 zs.toArray := fun j hj => by
      have hj' : j < zs.length := by simpa using hj
      have hc := h.cellAt j (by omega)
      rw [Nat.zero_add]
      refine ⟨?_, frozen_of_row _ _ _ _ _ hh⟩
      rw [hc]
      simp [hj']
    have hle := Lib.compact_length_le zs
    refine (Try.slices_Compact_int g 0 cap zs w hH (by omega) r1).mono ?_
    rintro e w' ⟨rfl, q, rfl⟩
    have hg : w.grownBy (Go.Sort.putRow (Value.int .i64) (Go.Sort.ahead w q) g 0 (Lib.compact zs ++ List.replicate (zs.length - (Lib.compact zs).length) 0).toArray) (some g) := by
      have := grownBy_sortedI (w := w) (g := g) (n := q) (os := #[]) (Lib.compact zs ++ List.replicate (zs.length - (Lib.compact zs).length) 0).toArray
      rw [Go.Sort.grow_empty] at this
      exact this
    refine ⟨_, rfl, ⟨_, cap, rfl, by omega, r2, fun _ => ⟨g, 0, rfl, hBg, fun k u hk => ?_⟩⟩, (Below.refl B w).grown hg hB fun k hk => by cases hk; exact hBg⟩
    have hk' : k < (Lib.compact zs).length := by have := (List.getElem?_eq_some_iff.1 hk).1; simpa using this
    have hH2 := Go.Sort.holds_putRow (Value.int .i64) (Go.Sort.ahead w q) g 0 zs.toArray (Lib.compact zs ++ List.replicate (zs.length - (Lib.compact zs).length) 0).toArray (Go.Sort.holds_ahead _ w q g 0 _ hH) (by simp; omega)
    rw [(hH2 k (by simp; omega)).1, ← hk]
    simp [hk', List.getElem?_append_left hk']
/-- Sorted, and each once. -/
def setB (zs : List Int) : List Int := Lib.compact (sortB zs)
theorem sortB_sorted (zs : List Int) : (sortB zs).Pairwise (· ≤ ·) := by
  have h := List.pairwise_mergeSort (le := fun (x y : Int) => decide (x ≤ y)) (fun a b c h1 h2 => by simp at *; omega) (fun a b => by simp; omega) zs
  exact h.imp (fun h => by simpa using h)
theorem setB_mem (zs : List Int) (x : Int) : x ∈ setB zs ↔ x ∈ zs := by
  rw [← List.mem_mergeSort (le := fun x y => decide (x ≤ y)) (l := zs)]
  show x ∈ Lib.compact (sortB zs) ↔ x ∈ sortB zs
  generalize sortB zs = l
  unfold Lib.compact Lib.compactUpTo
  simp only [List.mem_map, List.mem_filter, List.mem_range]
  constructor
  · rintro ⟨j, ⟨hj, -⟩, rfl⟩
    simp [hj]
  · intro hx
    obtain ⟨j, hj, e⟩ := List.mem_iff_getElem.1 hx
    induction j with
    | zero => exact ⟨0, ⟨hj, by simp [Lib.keeps]⟩, by simp [hj, e]⟩
    | succ j ih =>
      by_cases h : l[j] = x
      · exact ih (by omega) h
      · refine ⟨j + 1, ⟨hj, Lib.keeps_pos ?_⟩, by simp [hj, e]⟩
        simp [hj, e, show j < l.length by omega]
        exact fun e' => h e'.symm
theorem setB_lt (zs : List Int) : (setB zs).Pairwise (· < ·) := by
  have hs := sortB_sorted zs
  show (Lib.compact (sortB zs)).Pairwise (· < ·)
  generalize sortB zs = l at hs
  unfold Lib.compact Lib.compactUpTo
  rw [List.pairwise_map]
  refine List.Pairwise.imp_of_mem ?_ (List.Pairwise.filter _ List.pairwise_lt_range)
  intro i j hi hj hij
  obtain ⟨-, hk⟩ := List.mem_filter.1 hj
  have hjl := List.mem_range.1 (List.mem_filter.1 hj).1
  have hil := List.mem_range.1 (List.mem_filter.1 hi).1
  have h1 : l[j - 1] ≤ l[j] := List.pairwise_iff_getElem.1 hs (j - 1) j (by omega) hjl (by omega)
  have h2 : l[i] ≤ l[j - 1] := by
    by_cases e : i = j - 1
    · subst e; exact Int.le_refl _
    · exact List.pairwise_iff_getElem.1 hs i (j - 1) hil (by omega) (by omega)
  have h3 : l[j] ≠ l[j - 1] := by
    intro e
    have := Lib.keeps_neg (d := l.toArray) (m := j) (by omega) (by simp [hjl, e, show j - 1 < l.length by omega])
    rw [this] at hk
    cases hk
  simp [hjl, hil]
  omega
/-- What goes up is known by what it holds. -/
theorem up_ext : ∀ {a b : List Int}, a.Pairwise (· < ·) → b.Pairwise (· < ·) → (∀ x, x ∈ a ↔ x ∈ b) → a = b
  | [], [], _, _, _ => rfl
  | [], y :: b, _, _, h => absurd ((h y).2 (List.mem_cons_self ..)) (by simp)
  | x :: a, [], _, _, h => absurd ((h x).1 (List.mem_cons_self ..)) (by simp)
  | x :: a, y :: b, ha, hb, h => by
    obtain ⟨a1, a2⟩ := List.pairwise_cons.1 ha
    obtain ⟨b1, b2⟩ := List.pairwise_cons.1 hb
    have hx := (h x).1 (List.mem_cons_self ..)
    have hy := (h y).2 (List.mem_cons_self ..)
    have e : x = y := by
      rcases List.mem_cons.1 hx with e | e
      · exact e
      · rcases List.mem_cons.1 hy with e' | e'
        · exact e'.symm
        · have := a1 y e'; have := b1 x e; omega
    subst e
    rw [up_ext a2 b2 fun z => ?_]
    constructor
    · intro hz
      have := a1 z hz
      rcases List.mem_cons.1 ((h z).1 (List.mem_cons_of_mem _ hz)) with e | e
      · omega
      · exact e
    · intro hz
      have := b1 z hz
      rcases List.mem_cons.1 ((h z).2 (List.mem_cons_of_mem _ hz)) with e | e
      · omega
      · exact e
end Go.Proofs.Ythdhbkngbmjjkaa
