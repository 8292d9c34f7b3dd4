/- What is known while the least automaton is made, and that who is alike decides it: plain. No conditions. -/
import Derived.Test.YtmdkmobcglnmgaaLr
namespace Go.Proofs.Ytmdkmobcglnmgaa
open Go.RowKit

structure LInv (al : Int → Int → Bool) (n : Nat) (d : D) (i : Nat) : Prop where
  nx : (lIter al d i).2.next.length = i
  tl : (lIter al d i).2.tells.length = i
  le : i ≤ (lIter al d i).1.length
  fi : FIs al n (lIter al d i).1
theorem lStep_le (al : Int → Int → Bool) (s : List Int × List Int) (z : Int) : s.1.length ≤ (lStep al s z).1.length := by
  simp only [lStep]; split <;> simp
theorem lRow_le (al : Int → Int → Bool) (f r : List Int) : f.length ≤ (lRow al f r).1.length := by
  have key : ∀ (r : List Int) (s : List Int × List Int), s.1.length ≤ (r.foldl (lStep al) s).1.length := by
    intro r
    induction r with
    | nil => intro s; exact Nat.le_refl _
    | cons z r ih => intro s; exact Nat.le_trans (lStep_le al s z) (ih _)
  exact key r (f, [])
theorem lStep_nth (al : Int → Int → Bool) (s : List Int × List Int) (z : Int) {i : Nat} (hi : i < s.1.length) : nth (lStep al s z).1 i = nth s.1 i := by
  simp only [lStep]; split
  · rfl
  · simp [nth, List.getElem?_append_left hi]
theorem lRow_nth (al : Int → Int → Bool) (f r : List Int) {i : Nat} (hi : i < f.length) : nth (lRow al f r).1 i = nth f i := by
  have key : ∀ (r : List Int) (s : List Int × List Int), i < s.1.length → nth (r.foldl (lStep al) s).1 i = nth s.1 i := by
    intro r
    induction r with
    | nil => intro s _; rfl
    | cons z r ih => intro s hs; exact (ih _ (Nat.lt_of_lt_of_le hs (lStep_le al s z))).trans (lStep_nth al s z hs)
  exact key r (f, []) hi
theorem LInv.zero (al : Int → Int → Bool) {n : Nat} (d : D) (hn : 1 ≤ n) : LInv al n d 0 :=
  ⟨rfl, rfl, Nat.zero_le _, ⟨fun z hz => ⟨0, by simpa [lIter] using hz, hn⟩, List.pairwise_singleton _ _⟩⟩
theorem LInv.state {al : Int → Int → Bool} {n : Nat} {d : D} {i : Nat} (h : LInv al n d i) (hi : i < (lIter al d i).1.length) : ∃ q : Nat, nth (lIter al d i).1 i = q ∧ q < n := h.fi.at' _ (nth_mem hi)
theorem LInv.next {al : Int → Int → Bool} {n : Nat} {d : D} {i : Nat} (h : LInv al n d i) (hi : i < (lIter al d i).1.length) {q : Nat} (hq : nth (lIter al d i).1 i = q) :
    lIter al d (i + 1) = ((lRow al (lIter al d i).1 (row d.next q)).1, ⟨(lIter al d i).2.next ++ [(lRow al (lIter al d i).1 (row d.next q)).2], (lIter al d i).2.tells ++ [nth d.tells q]⟩) := by
  show lRound al d (lIter al d i) = _
  unfold lRound
  rw [h.nx, some_nth hi, hq]
  rfl
theorem rt_row {rs : List (List Int)} {n : Nat} (hr : RT rs n) {q : Nat} (hq : q < n) : ∀ z ∈ row rs q, ∃ t : Nat, z = t ∧ t < n := fun z hz => by
  obtain ⟨m, hm⟩ := List.getElem?_of_mem hz
  have hlt := (List.getElem?_eq_some_iff.1 hm).1
  obtain ⟨h1, h2⟩ := hr.2 q hq
  have h3 := h2 m (by omega)
  rw [nth_some hm] at h3
  exact ⟨z.toNat, by omega, by omega⟩
theorem LInv.step {al : Int → Int → Bool} {n : Nat} {d : D} {i : Nat} (h : LInv al n d i) (hr : RT d.next n) (hi : i < (lIter al d i).1.length) : LInv al n d (i + 1) := by
  obtain ⟨q, hq, hqn⟩ := h.state hi
  have e := h.next hi hq
  refine ⟨?_, ?_, ?_, ?_⟩
  · rw [e]; simp [h.nx]
  · rw [e]; simp [h.tl]
  · rw [e]; exact Nat.le_trans hi (lRow_le _ _ _)
  · rw [e]; exact h.fi.row (rt_row hr hqn)
theorem LInv.fin {al : Int → Int → Bool} {d : D} {i : Nat} (h : LInv al d.next.length d i) (hi : (lIter al d i).1.length ≤ i) (hrefl : ∀ s : Nat, s < d.next.length → al s s = true) : leastD al d = (lIter al d i).2 ∧ i ≤ d.next.length := by
  have h1 := h.fi.len hrefl
  have h2 := h.le
  refine ⟨?_, by omega⟩
  unfold leastD
  rw [lIter_end (i := i) (by rw [h.nx]; exact hi) _ (by omega)]
theorem linv {al : Int → Int → Bool} {n : Nat} {d : D} (hr : RT d.next n) (hn : 1 ≤ n) : ∀ i, ∃ j, j ≤ i ∧ LInv al n d j ∧ lIter al d i = lIter al d j ∧ (j < i → (lIter al d j).1.length = j)
  | 0 => ⟨0, Nat.le_refl _, LInv.zero al d hn, rfl, fun h => by omega⟩
  | i + 1 => by
    obtain ⟨j, h1, h2, h3, h4⟩ := linv (al := al) hr hn i
    by_cases e : j < i
    · refine ⟨j, by omega, h2, ?_, fun _ => h4 e⟩
      show lRound al d (lIter al d i) = _
      rw [h3, lRound_end (by rw [h2.nx, h4 e]; exact Nat.le_refl _)]
    · obtain rfl : j = i := by omega
      by_cases e2 : j < (lIter al d j).1.length
      · exact ⟨j + 1, Nat.le_refl _, h2.step hr e2, rfl, fun h => by omega⟩
      · have := h2.le
        exact ⟨j, by omega, h2, lRound_end (by rw [h2.nx]; omega), fun _ => by omega⟩
/-- Who is alike, told of states. -/
def AlIs (al : Int → Int → Bool) (d : D) : Prop := ∀ p q : Nat, p < d.next.length → q < d.next.length → (al p q = true ↔ Alk d.next d.tells p q)
theorem fnd_congr {al al' : Int → Int → Bool} {z : Int} : ∀ {f : List Int}, (∀ a ∈ f, al a z = al' a z) → fnd al f z = fnd al' f z
  | [], _ => rfl
  | a :: f, h => by
    have ih := fnd_congr (f := f) fun b hb => h b (List.mem_cons_of_mem _ hb)
    unfold fnd at ih ⊢
    rw [List.findIdx_cons, List.findIdx_cons, ih, h a List.mem_cons_self]
theorem AlIs.eq {al al' : Int → Int → Bool} {d : D} (h : AlIs al d) (h' : AlIs al' d) {a z : Int} (ha : ∃ s : Nat, a = s ∧ s < d.next.length) (hz : ∃ s : Nat, z = s ∧ s < d.next.length) : al a z = al' a z := by
  obtain ⟨p, rfl, hp⟩ := ha
  obtain ⟨q, rfl, hq⟩ := hz
  rw [Bool.eq_iff_iff, h p q hp hq, h' p q hp hq]
theorem lRow_congr {al al' : Int → Int → Bool} {d : D} (h : AlIs al d) (h' : AlIs al' d) : ∀ {r : List Int} (s : List Int × List Int), FIs al d.next.length s.1 → (∀ z ∈ r, ∃ t : Nat, z = t ∧ t < d.next.length) → r.foldl (lStep al) s = r.foldl (lStep al') s
  | [], _, _, _ => rfl
  | z :: r, s, hs, hz => by
    have h1 : lStep al s z = lStep al' s z := by
      unfold lStep
      rw [fnd_congr fun a ha => h.eq h' (hs.at' a ha) (hz z List.mem_cons_self)]
    rw [List.foldl_cons, List.foldl_cons, ← h1]
    exact lRow_congr h h' _ (hs.step (hz z List.mem_cons_self)) fun y hy => hz y (List.mem_cons_of_mem _ hy)
theorem leastD_uniq {al al' : Int → Int → Bool} {d : D} (h : AlIs al d) (h' : AlIs al' d) (hr : RT d.next d.next.length) (hn : 1 ≤ d.next.length) : leastD al d = leastD al' d := by
  have key : ∀ i, lIter al d i = lIter al' d i := by
    intro i
    induction i with
    | zero => rfl
    | succ i ih =>
      show lRound al d (lIter al d i) = lRound al' d (lIter al' d i)
      rw [← ih]
      obtain ⟨j, _, h2, h3, _⟩ := linv (al := al) hr hn i
      unfold lRound
      cases hq : (lIter al d i).1[(lIter al d i).2.next.length]? with
      | none => rfl
      | some q =>
        have hfi : FIs al d.next.length (lIter al d i).1 := by rw [h3]; exact h2.fi
        obtain ⟨s, rfl, hs⟩ := hfi.at' q (List.mem_of_getElem? hq)
        have h1 : lRow al (lIter al d i).1 (row d.next (s : Int).toNat) = lRow al' (lIter al d i).1 (row d.next (s : Int).toNat) := lRow_congr h h' _ hfi (rt_row hr hs)
        simp only [h1]
  unfold leastD
  rw [key]
end Go.Proofs.Ytmdkmobcglnmgaa
