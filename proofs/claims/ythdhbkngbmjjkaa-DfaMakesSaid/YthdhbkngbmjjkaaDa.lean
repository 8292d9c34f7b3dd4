/- The tables of no expressions: two states, or one. Plain. No conditions. -/
import Derived.Test.YthdhbkngbmjjkaaG5
import Derived.Test.YthdhbkngbmjjkaaDt
import Derived.Test.YthdhbkngbmjjkaaDw
namespace Go.Proofs.Ythdhbkngbmjjkaa
theorem fine_nil : Fine ([] : List (Tr 0)) := ⟨by simp [cntE, cntL], rfl, by simp⟩
theorem nil_step {m : Int} {X : List Int} (search : Bool) : stepB search (builtB ([] : List (Tr 0))) m X = if search then [0] else [] := by
  have h : ∀ q, q ∈ stepB search (builtB ([] : List (Tr 0))) m X ↔ search = true ∧ q = 0 := fun q => by
    rw [fine_nil.step]
    constructor
    · rintro (h | ⟨_, _, ⟨_, h⟩ | ⟨_, _, _, h⟩⟩)
      · exact h
      · exact h.elim
      · exact h.elim
    · exact .inl
  cases search
  · refine up_ext (setB_lt _) (by simp) fun x => ?_
    have := h x
    simpa using this
  · refine up_ext (setB_lt _) (by simp) fun x => ?_
    have := h x
    simpa using this
end Go.Proofs.Ythdhbkngbmjjkaa
namespace Go.Proofs.Ythdhbkngbmjjkaa
theorem setsTo_const {search : Bool} {s : Bs} {cur t : List Int} {sets : List (List Int)} (h : ∀ m : Int, stepB search s m cur = t) (hn : t ∉ sets) : ∀ j, setsTo search s cur sets (j + 1) = sets ++ [t] ∧ rowTo search s cur sets (j + 1) = List.replicate (j + 1) (sets.length : Int)
  | 0 => by
    have e : addB sets t = sets ++ [t] := if_neg hn
    refine ⟨by simp only [setsTo]; rw [h, e], by simp only [rowTo, setsTo]; rw [h, List.idxOf_eq_length hn]; rfl⟩
  | j + 1 => by
    obtain ⟨a, b⟩ := setsTo_const h hn j
    have e : addB (sets ++ [t]) t = sets ++ [t] := if_pos (by simp)
    have i : (sets ++ [t]).idxOf t = sets.length := by
      rw [List.idxOf_append]
      simp [hn]
    rw [setsTo, rowTo, a, b, h, e, i]
    exact ⟨rfl, List.replicate_succ'.symm⟩
theorem setsTo_in {search : Bool} {s : Bs} {cur t : List Int} {sets : List (List Int)} (h : ∀ m : Int, stepB search s m cur = t) (hn : t ∈ sets) : ∀ j, setsTo search s cur sets j = sets ∧ rowTo search s cur sets j = List.replicate j ((sets.idxOf t : Nat) : Int)
  | 0 => ⟨rfl, rfl⟩
  | j + 1 => by
    obtain ⟨a, b⟩ := setsTo_in h hn j
    have e : addB sets t = sets := if_pos hn
    rw [setsTo, rowTo, a, b, h, e]
    exact ⟨rfl, List.replicate_succ'.symm⟩
end Go.Proofs.Ythdhbkngbmjjkaa
namespace Go.Proofs.Ythdhbkngbmjjkaa
open Go.RowKit
theorem addB_mem {sets : List (List Int)} {t x : List Int} : x ∈ addB sets t ↔ x ∈ sets ∨ x = t := by
  unfold addB
  split
  · rename_i h
    exact ⟨.inl, fun h' => h'.elim id fun e => e ▸ h⟩
  · simp
theorem addB_nodup {sets : List (List Int)} {t : List Int} (h : sets.Nodup) : (addB sets t).Nodup := by
  unfold addB
  split
  · exact h
  · rename_i hn
    rw [List.nodup_append]
    exact ⟨h, by simp, fun a ha b hb => by
      rw [List.mem_singleton.1 hb]
      exact fun e => hn (e ▸ ha)⟩
theorem nodup_idx {sets : List (List Int)} (h : sets.Nodup) {i j : Nat} {r : List Int} (hi : sets[i]? = some r) (hj : sets[j]? = some r) : i = j := by
  obtain ⟨a, e1⟩ := List.getElem?_eq_some_iff.1 hi
  obtain ⟨b, e2⟩ := List.getElem?_eq_some_iff.1 hj
  have hp := List.pairwise_iff_getElem.1 h
  rcases Nat.lt_trichotomy i j with e | e | e
  · exact absurd (e1.trans e2.symm) (hp i j a b e)
  · exact e
  · exact absurd (e2.trans e1.symm) (hp j i b a e)
section
variable {search : Bool} {s : Bs} {cur : List Int} {sets : List (List Int)}
theorem setsTo_nodup (h : sets.Nodup) : ∀ j, (setsTo search s cur sets j).Nodup
  | 0 => h
  | j + 1 => addB_nodup (setsTo_nodup h j)
theorem setsTo_up {j i : Nat} {r : List Int} : ∀ k, (setsTo search s cur sets j)[i]? = some r → (setsTo search s cur sets (j + k))[i]? = some r
  | 0 => fun h => h
  | k + 1 => fun h => addB_get (setsTo_up k h)
/-- What is new comes of the set that is looked at. -/
theorem setsTo_new {i : Nat} {r : List Int} : ∀ j, sets.length ≤ i → (setsTo search s cur sets j)[i]? = some r → ∃ m, m < j ∧ r = stepB search s (m : Int) cur
  | 0 => fun hi h => by
    have := (List.getElem?_eq_some_iff.1 h).1
    simp only [setsTo] at this
    omega
  | j + 1 => fun hi h => by
    simp only [setsTo] at h
    unfold addB at h
    split at h
    · obtain ⟨m, hm, e⟩ := setsTo_new j hi h
      exact ⟨m, by omega, e⟩
    · rw [List.getElem?_append] at h
      split at h
      · obtain ⟨m, hm, e⟩ := setsTo_new j hi h
        exact ⟨m, by omega, e⟩
      · have h2 := List.mem_of_getElem? h
        exact ⟨j, by omega, List.mem_singleton.1 h2⟩
theorem rowTo_at {m : Nat} : ∀ j, m < j → ∃ k : Nat, nth (rowTo search s cur sets j) m = k ∧ (setsTo search s cur sets j)[k]? = some (stepB search s (m : Int) cur)
  | 0 => fun h => by omega
  | j + 1 => fun h => by
    have hl := rowTo_len (search := search) (s := s) (cur := cur) (sets := sets) j
    by_cases e : m = j
    · subst e
      refine ⟨(setsTo search s cur sets m).idxOf (stepB search s (m : Int) cur), ?_, ?_⟩
      · simp only [rowTo, nth]
        rw [List.getElem?_append_right (by omega), hl]
        simp
      · simp only [setsTo]
        unfold addB
        split
        · rename_i hin
          rw [List.getElem?_eq_getElem (List.idxOf_lt_length_of_mem hin), List.getElem_idxOf]
        · rename_i hin
          rw [List.idxOf_eq_length hin, List.getElem?_append_right (Nat.le_refl _)]
          simp
    · obtain ⟨k, h1, h2⟩ := rowTo_at (m := m) j (by omega)
      refine ⟨k, ?_, addB_get h2⟩
      rw [← h1]
      simp only [rowTo, nth]
      rw [List.getElem?_append_left (by omega)]
end
/-- New is done behind n rounds. -/
def Done (search : Bool) (s : Bs) (n : Nat) : Prop := (∀ i, i < n → i < (outB search s i).1.length) ∧ n = (outB search s n).1.length
section
variable {search : Bool} {s : Bs}
theorem out_sets (i : Nat) : (outB search s (i + 1)).1 = setsTo search s ((outB search s i).1[i]?.getD []) (outB search s i).1 37 := by simp only [outB]
theorem out_rows (i : Nat) : (outB search s (i + 1)).2.1 = (outB search s i).2.1 ++ [rowTo search s ((outB search s i).1[i]?.getD []) (outB search s i).1 37] := by simp only [outB]
theorem out_tells (i : Nat) : (outB search s (i + 1)).2.2 = (outB search s i).2.2 ++ [((tellsB s ((outB search s i).1[i]?.getD []) : Nat) : Int)] := by simp only [outB]
theorem out_get {i j : Nat} {r : List Int} : ∀ k, (outB search s i).1[j]? = some r → (outB search s (i + k)).1[j]? = some r
  | 0 => fun h => h
  | k + 1 => fun h => by
    rw [← Nat.add_assoc, out_sets]
    exact setsTo_get (out_get k h) 37
theorem out_le {i j : Nat} (h : i ≤ j) : (outB search s i).1.length ≤ (outB search s j).1.length := by
  obtain ⟨k, rfl⟩ : ∃ k, j = i + k := ⟨j - i, by omega⟩
  induction k with
  | zero => exact Nat.le_refl _
  | succ k ih => exact Nat.le_trans (ih (by omega)) (by rw [← Nat.add_assoc, out_sets]; exact (setsTo_len 37).2)
theorem out_nodup : ∀ i, (outB search s i).1.Nodup
  | 0 => by simp [outB]
  | i + 1 => by
    rw [out_sets]
    exact setsTo_nodup (out_nodup i) 37
theorem out_first (i : Nat) : (outB search s i).1[0]? = some [0] := by
  have h := out_get (search := search) (s := s) (i := 0) i (j := 0) (r := [0]) (by simp [outB])
  rwa [Nat.zero_add] at h
theorem out_row {i n : Nat} (h : i < n) : (outB search s n).2.1[i]? = some (rowTo search s ((outB search s i).1[i]?.getD []) (outB search s i).1 37) ∧ (outB search s n).2.2[i]? = some ((tellsB s ((outB search s i).1[i]?.getD []) : Nat) : Int) := by
  obtain ⟨k, rfl⟩ : ∃ k, n = i + 1 + k := ⟨n - i - 1, by omega⟩
  clear h
  induction k with
  | zero =>
    have hl := outB_len search s i
    refine ⟨?_, ?_⟩
    · rw [Nat.add_zero, out_rows, List.getElem?_append_right (by omega), hl.1]; simp
    · rw [Nat.add_zero, out_tells, List.getElem?_append_right (by omega), hl.2]; simp
  | succ k ih =>
    have hl := outB_len search s (i + 1 + k)
    rw [show i + 1 + (k + 1) = (i + 1 + k) + 1 by omega]
    refine ⟨?_, ?_⟩
    · rw [out_rows, List.getElem?_append_left (by omega)]; exact ih.1
    · rw [out_tells, List.getElem?_append_left (by omega)]; exact ih.2
theorem Done.one {n m : Nat} (h : Done search s n) (h' : Done search s m) : n = m := by
  rcases Nat.lt_trichotomy n m with e | e | e
  · have := h'.1 n e; have := h.2; omega
  · exact e
  · have := h.1 m e; have := h'.2; omega
/-- What a table is, by its sets. -/
structure Tbl (search : Bool) (s : Bs) (sets rows : List (List Int)) (tells : List Int) : Prop where
  len : rows.length = sets.length ∧ tells.length = sets.length
  nod : sets.Nodup
  zero : sets[0]? = some [0]
  rl : ∀ i, i < sets.length → (row rows i).length = 37
  go : ∀ i m, i < sets.length → m < 37 → ∃ k : Nat, nth (row rows i) m = k ∧ k < sets.length ∧ sets[k]? = some (stepB search s (m : Int) (row sets i))
  tell : ∀ i, i < sets.length → nth tells i = ((tellsB s (row sets i) : Nat) : Int)
  new : ∀ k, 0 < k → k < sets.length → ∃ j m, j < k ∧ m < 37 ∧ nth (row rows j) m = (k : Int)
theorem Done.tbl {n : Nat} (h : Done search s n) : Tbl search s (outB search s n).1 (outB search s n).2.1 (outB search s n).2.2 := by
  have hl := outB_len search s n
  have hat : ∀ i, i < n → (outB search s i).1[i]?.getD [] = row (outB search s n).1 i := fun i hi => by
    have h1 := h.1 i hi
    have h2 := out_get (search := search) (s := s) (i := i) (n - i) (some_row h1)
    rw [show i + (n - i) = n by omega] at h2
    rw [row_some h2]
    rfl
  have hrow : ∀ i, i < n → row (outB search s n).2.1 i = rowTo search s (row (outB search s n).1 i) (outB search s i).1 37 := fun i hi => by
    rw [row_some (out_row hi).1, hat i hi]
  have hup : ∀ i, i < n → ∀ {k : Nat} {r : List Int}, (setsTo search s (row (outB search s n).1 i) (outB search s i).1 37)[k]? = some r → (outB search s n).1[k]? = some r := fun i hi k r hk => by
    have h1 : (outB search s (i + 1)).1[k]? = some r := by rw [out_sets, hat i hi]; exact hk
    have h2 := out_get (search := search) (s := s) (i := i + 1) (n - (i + 1)) h1
    rwa [show i + 1 + (n - (i + 1)) = n by omega] at h2
  refine ⟨⟨by rw [hl.1]; exact h.2, by rw [hl.2]; exact h.2⟩, out_nodup n, out_first n, fun i hi => ?_, fun i m hi hm => ?_, fun i hi => ?_, fun k h0 hk => ?_⟩
  · rw [hrow i (by rw [h.2]; exact hi)]; exact rowTo_len 37
  · have hi' : i < n := by rw [h.2]; exact hi
    obtain ⟨k, h1, h2⟩ := rowTo_at (search := search) (s := s) (cur := row (outB search s n).1 i) (sets := (outB search s i).1) 37 hm
    have h3 := hup i hi' h2
    exact ⟨k, by rw [hrow i hi']; exact h1, (List.getElem?_eq_some_iff.1 h3).1, h3⟩
  · have hi' : i < n := by rw [h.2]; exact hi
    rw [nth_some (out_row hi').2, hat i hi']
  · -- in which round does k come?
    have key : ∀ j, j ≤ n → k < (outB search s j).1.length → ∃ i m : Nat, i < j ∧ i < k ∧ m < 37 ∧ (outB search s (i + 1)).1[k]? = some (stepB search s (m : Int) (row (outB search s n).1 i)) := by
      intro j
      induction j with
      | zero => intro _ hk; simp [outB] at hk; omega
      | succ j ih =>
        intro hj hk
        by_cases e : k < (outB search s j).1.length
        · obtain ⟨i, m, a, b⟩ := ih (by omega) e
          exact ⟨i, m, by omega, b⟩
        · have h1 := h.1 j (by omega)
          have h2 := some_row hk
          have h3 := h2
          obtain ⟨r, hr⟩ : ∃ r, r = row (outB search s (j + 1)).1 k := ⟨_, rfl⟩
          rw [← hr] at h2 h3
          rw [out_sets] at h2
          obtain ⟨m, hm, e2⟩ := setsTo_new 37 (by omega) h2
          rw [e2, hat j (by omega)] at h3
          exact ⟨j, m, by omega, by omega, hm, h3⟩
    obtain ⟨i, m, hi, hik, hm, hg⟩ := key n (Nat.le_refl _) hk
    have h2 := out_get (search := search) (s := s) (i := i + 1) (n - (i + 1)) hg
    rw [show i + 1 + (n - (i + 1)) = n by omega] at h2
    obtain ⟨k', h3, h4⟩ := rowTo_at (search := search) (s := s) (cur := row (outB search s n).1 i) (sets := (outB search s i).1) 37 hm
    have h5 := hup i hi h4
    have e := nodup_idx (out_nodup n) h5 h2
    refine ⟨i, m, hik, hm, ?_⟩
    rw [hrow i hi, h3, e]
end
/-- The table of an automaton of which New's rounds end. -/
theorem dnew_done {g : Nat} {search : Bool} {s : Bs} {w : World} {n : Nat} (h : IsNfa w g search s) (hG : Good s) (hd : Done search s n) (hn : n ≤ 1000) : Calls Try.prog 29 #[.pointer (some ⟨g, 0, none⟩)] w fun e w' =>
    ∃ v, e = .returned (.tuple #[v, .int .i64 0]) ∧ IsD w' (fun b => w.heap.size ≤ b) v ⟨(outB search s n).2.1, (outB search s n).2.2⟩ ∧ Below w.heap.size w w' := by
  refine (dnew_any h hG).mono ?_
  rintro e w' ⟨hb, ⟨m, -, h1, h2, v, he, hv⟩ | ⟨m, h1, h2, h3, -⟩⟩
  · obtain rfl : m = n := Done.one ⟨fun i hi => (h1 i hi).1, h2⟩ hd
    exact ⟨v, he, hv, hb⟩
  · exfalso
    have hmn : m < n := by
      rcases Nat.lt_trichotomy m n with e | e | e
      · exact e
      · have := hd.2; subst e; omega
      · have := (h1 n e).1; have := hd.2; omega
    have := out_le (search := search) (s := s) (i := m + 1) (j := n) hmn
    have := hd.2
    omega
end Go.Proofs.Ythdhbkngbmjjkaa
namespace Go.Proofs.Ythdhbkngbmjjkaa
theorem out_false : (outB false (builtB ([] : List (Tr 0))) 1).1 = [[0], []] ∧ (outB false (builtB ([] : List (Tr 0))) 2).1 = [[0], []] ∧ (outB false (builtB ([] : List (Tr 0))) 2).2.1 = [List.replicate 37 1, List.replicate 37 1] := by
  have h : ∀ (cur : List Int) (m : Int), stepB false (builtB ([] : List (Tr 0))) m cur = [] := fun cur m => nil_step false
  obtain ⟨a1, a2⟩ := setsTo_const (cur := [0]) (sets := [[0]]) (h [0]) (by simp) 36
  obtain ⟨b1, b2⟩ := setsTo_in (cur := []) (sets := [[0], []]) (h []) (by simp) 37
  have e0 : (outB false (builtB ([] : List (Tr 0))) 0).1 = [[0]] ∧ (outB false (builtB ([] : List (Tr 0))) 0).2.1 = [] := by simp [outB]
  have e1 : (outB false (builtB ([] : List (Tr 0))) 1).1 = [[0], []] ∧ (outB false (builtB ([] : List (Tr 0))) 1).2.1 = [List.replicate 37 1] := by
    rw [outB]
    rw [e0.1, e0.2]
    rw [show ([[0]] : List (List Int))[0]?.getD [] = [0] from rfl, a1, a2]
    exact ⟨rfl, rfl⟩
  refine ⟨e1.1, ?_, ?_⟩
  · rw [outB, e1.1]
    rw [show ([[0], []] : List (List Int))[1]?.getD [] = [] from rfl, b1]
  · rw [outB, e1.1, e1.2]
    rw [show ([[0], []] : List (List Int))[1]?.getD [] = [] from rfl, b2]
    rfl
theorem done_false : Done false (builtB ([] : List (Tr 0))) 2 := by
  obtain ⟨h1, h2, -⟩ := out_false
  refine ⟨fun i hi => ?_, by rw [h2]; rfl⟩
  rcases Nat.lt_or_ge i 1 with e | e
  · obtain rfl : i = 0 := by omega
    simp [outB]
  · obtain rfl : i = 1 := by omega
    rw [h1]; decide
theorem out_true : (outB true (builtB ([] : List (Tr 0))) 1).1 = [[0]] := by
  have h : ∀ (cur : List Int) (m : Int), stepB true (builtB ([] : List (Tr 0))) m cur = [0] := fun cur m => nil_step true
  obtain ⟨b1, -⟩ := setsTo_in (cur := [0]) (sets := [[0]]) (h [0]) (by simp) 37
  have e0 : (outB true (builtB ([] : List (Tr 0))) 0).1 = [[0]] := by simp [outB]
  rw [outB, e0]
  rw [show ([[0]] : List (List Int))[0]?.getD [] = [0] from rfl, b1]
theorem done_true : Done true (builtB ([] : List (Tr 0))) 1 := by
  refine ⟨fun i hi => ?_, by rw [out_true]; rfl⟩
  obtain rfl : i = 0 := by omega
  simp [outB]
end Go.Proofs.Ythdhbkngbmjjkaa
