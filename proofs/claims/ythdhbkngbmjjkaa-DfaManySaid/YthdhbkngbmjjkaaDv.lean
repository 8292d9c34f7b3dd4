/- Where marks lead in the table of an automaton. Plain. No conditions. -/
import Derived.Test.YthdhbkngbmjjkaaDm
import Derived.Test.YthdhbkngbmjjkaaDa
namespace Go.Proofs.Ythdhbkngbmjjkaa
open Go.RowKit
def runS (search : Bool) (s : Bs) (ms : List Int) : List Int := ms.foldl (fun X m => stepB search s m X) [0]
theorem runS_snoc (search : Bool) (s : Bs) (ms : List Int) (m : Int) : runS search s (ms ++ [m]) = stepB search s m (runS search s ms) := by unfold runS; rw [List.foldl_append]; rfl
theorem runS_ok {s : Bs} (hg : Good s) (search : Bool) (ms : List Int) : (∀ z ∈ runS search s ms, i64ok z) ∧ (runS search s ms).length ≤ 10000 := by
  rcases List.eq_nil_or_concat ms with rfl | ⟨l, m, rfl⟩
  · exact ⟨fun z hz => by have : z = 0 := by simpa [runS] using hz
                          exact i64_small (by omega), by simp [runS]⟩
  · rw [List.concat_eq_append, runS_snoc]
    exact ⟨step_i64 hg, Nat.le_trans (step_10000 hg) (by decide)⟩
section
variable {search : Bool} {s : Bs} {sets rows : List (List Int)} {tells : List Int}
theorem Tbl.run (h : Tbl search s sets rows tells) : ∀ (ms : List Int) (k : Nat), k < sets.length → (∀ m ∈ ms, 0 ≤ m ∧ m < 37) → ∃ k' : Nat, runGo rows k ms = k' ∧ k' < sets.length ∧ sets[k']? = some (ms.foldl (fun X m => stepB search s m X) (row sets k))
  | [], k, hk, _ => ⟨k, rfl, hk, some_row hk⟩
  | m :: ms, k, hk, hm => by
    have h0 := hm m List.mem_cons_self
    obtain ⟨j, h1, h2, h3⟩ := h.go k m.toNat hk (by omega)
    obtain ⟨k', e1, e2, e3⟩ := h.run ms j h2 fun x hx => hm x (List.mem_cons_of_mem _ hx)
    refine ⟨k', ?_, e2, ?_⟩
    · simp only [runGo]
      rw [if_neg (by omega), Int.toNat_natCast, h1]
      exact e1
    · rw [e3, row_some h3, List.foldl_cons]
      rw [show ((m.toNat : Nat) : Int) = m by omega]
theorem Tbl.bad (h : Tbl search s sets rows tells) : ∀ (ms : List Int) (k : Nat), k < sets.length → (∃ m ∈ ms, m < 0 ∨ 36 < m) → runGo rows k ms = -1
  | [], k, _, hm => by obtain ⟨m, h1, _⟩ := hm; cases h1
  | m :: ms, k, hk, hm => by
    simp only [runGo]
    by_cases e : m < 0 ∨ 37 ≤ m
    · rw [if_pos e]
    · rw [if_neg e, Int.toNat_natCast]
      obtain ⟨j, h1, h2, h3⟩ := h.go k m.toNat hk (by omega)
      rw [h1]
      refine h.bad ms j h2 ?_
      obtain ⟨x, hx, hb⟩ := hm
      rcases List.mem_cons.1 hx with rfl | hx
      · omega
      · exact ⟨x, hx, hb⟩
theorem Tbl.right (h : Tbl search s sets rows tells) (hn : sets.length ≤ 1000) : rightB ⟨rows, tells⟩ = true := by
  have h0 := (List.getElem?_eq_some_iff.1 h.zero).1
  have hl := h.len
  unfold rightB
  simp only [Bool.and_eq_true, decide_eq_true_eq, List.all_eq_true]
  refine ⟨⟨⟨by omega, by omega⟩, by omega⟩, fun r hr => ?_⟩
  obtain ⟨i, hi⟩ := List.getElem?_of_mem hr
  have hil := (List.getElem?_eq_some_iff.1 hi).1
  have hrow := row_some hi
  refine ⟨by rw [← hrow]; exact h.rl i (by omega), fun z hz => ?_⟩
  obtain ⟨m, hm⟩ := List.getElem?_of_mem hz
  have hml := (List.getElem?_eq_some_iff.1 hm).1
  have h37 := h.rl i (by omega)
  rw [hrow] at h37
  obtain ⟨k, h1, h2, -⟩ := h.go i m (by omega) (by omega)
  rw [hrow, nth_some hm] at h1
  omega
/-- All states come of the first one. -/
theorem Tbl.reach (h : Tbl search s sets rows tells) {l : List Int} (hl : RM ⟨rows, tells⟩ l l.length 0) : l.length = rows.length := by
  have hR : ∀ n k : Nat, k ≤ n → k < sets.length → Dch ⟨rows, tells⟩ (k : Int) := by
    intro n
    induction n with
    | zero => intro k hk _; rw [show k = 0 by omega]; exact .zero
    | succ n ih =>
      intro k hk hkl
      by_cases e : k = 0
      · rw [e]; exact .zero
      · obtain ⟨j, m, h1, h2, h3⟩ := h.new k (by omega) hkl
        have := Dch.step (d := ⟨rows, tells⟩) (ih j (by omega) (by omega)) (by show j < rows.length; rw [h.len.1]; omega) h2
        rw [← h3]
        exact this
  have h1 := hl.size
  have h2 := nodup_len (l := (List.range rows.length).map fun (t : Nat) => (t : Int)) (k := l) (by
    rw [List.nodup_iff_pairwise_ne, List.pairwise_map]
    exact List.Pairwise.imp (fun {a b} hab => by omega) (List.nodup_iff_pairwise_ne.1 List.nodup_range)) fun z hz => by
    obtain ⟨t, ht, rfl⟩ := List.mem_map.1 hz
    have ht' := List.mem_range.1 ht
    rw [h.len.1] at ht'
    exact (hl.all _).2 (hR t t (Nat.le_refl _) ht')
  simp at h2
  have h1' : l.length ≤ rows.length := h1
  omega
end
theorem state_zero {d : D} (h : rightB d = true) : stateB d 0 = true := by
  have := (right_rows h).2.1
  unfold stateB
  rw [h]
  simp
  omega
end Go.Proofs.Ythdhbkngbmjjkaa
