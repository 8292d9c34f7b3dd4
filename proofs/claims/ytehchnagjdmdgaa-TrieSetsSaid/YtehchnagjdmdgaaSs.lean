/- Sort of a slice of one's own; what they make of a list. Conditions: less than 2^60 numbers. -/
import Derived.Test.YtehchnagjdmdgaaSo
import Derived.Test.YtehchnagjdmdgaaOw
import Derived.Sort.OwnSortedInts
import Derived.Lib.RowBridge
namespace Go.Proofs.Ytehchnagjdmdgaa
open Go.RowKit
def sortB (zs : List Int) : List Int := zs.mergeSort fun x y => decide (x ≤ y)
theorem sortB_len (zs : List Int) : (sortB zs).length = zs.length := List.length_mergeSort _
theorem own_row {w : World} {B n : Nat} {v : Value} {zs : List Int} (h : w.ownsRow B 3 1 v n (zs.map (.int .i64))) : n = zs.length ∧ ((n = 0 ∧ v = .slice none 0 0) ∨ ∃ g cap cur, v = .slice (some ⟨g, 0, none⟩) n cap ∧ B ≤ g ∧ w.heap[g]? = some (.cells cur 3 (0, 0)) ∧ n ≤ cap ∧ cap ≤ maxLen ∧ cur.size = cap * 1 ∧ cur.toList.take n = zs.map (.int .i64)) := by
  obtain ⟨h1, h2⟩ := h
  rw [List.length_map, Nat.mul_one] at h1
  refine ⟨h1.symm, ?_⟩
  rcases h2 with ⟨a, b⟩ | ⟨g, cap, cur, e, hB, hh, r1, r2, r3, r4⟩
  · exact .inl ⟨b, a⟩
  · exact .inr ⟨g, cap, cur, e, hB, hh, r1, r2, r3, by rw [Nat.mul_one] at r4; exact r4⟩
theorem sort_call {w : World} {B : Nat} {v : Value} {zs : List Int} (h : w.ownsRow B 3 1 v zs.length (zs.map (.int .i64))) (hB : B ≤ w.heap.size) (hl : zs.length ≤ 1152921504606846976) :
    Calls Try.prog 35 #[v] w fun e w' => e = .returned (.tuple #[]) ∧ w'.ownsRow B 3 1 v zs.length ((sortB zs).map (.int .i64)) ∧ Below B w w' := by
  obtain ⟨-, ⟨hn, rfl⟩ | ⟨g, cap, cur, rfl, hBg, hh, r1, r2, r3, r4⟩⟩ := own_row h
  · obtain rfl : zs = [] := List.eq_nil_of_length_eq_zero hn
    refine (Try.slices_Sort_int_none none 0 w).mono ?_
    rintro e w' ⟨rfl, rfl⟩
    rw [show sortB [] = [] from List.eq_nil_of_length_eq_zero (sortB_len [])]
    exact ⟨rfl, World.ownsRow_nil _ _ _ _, Below.refl _ _⟩
  · have hlen := sortB_len zs
    have hH : Go.Sort.Holds (Value.int .i64) w g 0 zs.toArray := fun j hj => by
      have hj' : j < zs.length := by simpa using hj
      have hc := h.cellAt j (by omega)
      rw [Nat.zero_add]
      refine ⟨?_, frozen_of_row _ _ _ _ _ hh⟩
      rw [hc]
      simp [hj']
    refine (Try.slices_Sort_int g 0 cap zs w hH (Array.getElem?_eq_some_iff.1 hh).1 (by omega)).mono ?_
    rintro e w' ⟨rfl, n, os, rfl⟩
    exact ⟨rfl, ownsRow_sortedI hlen hBg hh r1 r2 r3, (Below.refl B w).grown (grownBy_sortedI _) hB fun k hk => by cases hk; exact hBg⟩
end Go.Proofs.Ytehchnagjdmdgaa
