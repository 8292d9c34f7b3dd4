/- The least automaton, plain: as it is met from the first state on. No conditions. -/
import Derived.Test.YtmdkmobcglnmgaaCl
namespace Go.Proofs.Ytmdkmobcglnmgaa
open Go.RowKit

/-- The place of the first that is alike. -/
def fnd (al : Int → Int → Bool) (f : List Int) (z : Int) : Nat := f.findIdx fun a => al a z
/-- A state is met: who is known, and the row. -/
def lStep (al : Int → Int → Bool) (s : List Int × List Int) (z : Int) : List Int × List Int := (if fnd al s.1 z < s.1.length then s.1 else s.1 ++ [z], s.2 ++ [(fnd al s.1 z : Int)])
def lRow (al : Int → Int → Bool) (f r : List Int) : List Int × List Int := r.foldl (lStep al) (f, [])
/-- A state's row is told. -/
def lRound (al : Int → Int → Bool) (d : D) (s : List Int × D) : List Int × D :=
  match s.1[s.2.next.length]? with
  | none => s
  | some q => ((lRow al s.1 (row d.next q.toNat)).1, ⟨s.2.next ++ [(lRow al s.1 (row d.next q.toNat)).2], s.2.tells ++ [nth d.tells q.toNat]⟩)
def lIter (al : Int → Int → Bool) (d : D) : Nat → List Int × D
  | 0 => ([0], ⟨[], []⟩)
  | i + 1 => lRound al d (lIter al d i)
/-- The least automaton, by who is alike. -/
def leastD (al : Int → Int → Bool) (d : D) : D := (lIter al d d.next.length).2

theorem lRow_snoc (al : Int → Int → Bool) (f r : List Int) (z : Int) : lRow al f (r ++ [z]) = lStep al (lRow al f r) z := by simp [lRow, List.foldl_append]
theorem lStep_len (al : Int → Int → Bool) (s : List Int × List Int) (z : Int) : (lStep al s z).2.length = s.2.length + 1 := by simp [lStep]
theorem lRow_len (al : Int → Int → Bool) (f r : List Int) : (lRow al f r).2.length = r.length := by
  have key : ∀ (r : List Int) (s : List Int × List Int), (r.foldl (lStep al) s).2.length = s.2.length + r.length := by
    intro r
    induction r with
    | nil => intro s; rfl
    | cons z r ih => intro s; simp only [List.foldl_cons, List.length_cons]; rw [ih, lStep_len]; omega
  have := key r (f, [])
  simpa [lRow] using this
/-- Who is known: states, no two alike. -/
structure FIs (al : Int → Int → Bool) (n : Nat) (f : List Int) : Prop where
  at' : ∀ z ∈ f, ∃ s : Nat, z = s ∧ s < n
  no : f.Pairwise fun a b => al a b = false
theorem FIs.step {al : Int → Int → Bool} {n : Nat} {s : List Int × List Int} (h : FIs al n s.1) {z : Int} (hz : ∃ t : Nat, z = t ∧ t < n) : FIs al n (lStep al s z).1 := by
  simp only [lStep]
  split
  · exact h
  · rename_i hn
    refine ⟨fun y hy => ?_, ?_⟩
    · rcases List.mem_append.1 hy with hy | hy
      · exact h.at' y hy
      · rw [List.mem_singleton.1 hy]; exact hz
    · rw [List.pairwise_append]
      refine ⟨h.no, List.pairwise_singleton _ _, fun a ha b hb => ?_⟩
      rw [List.mem_singleton.1 hb]
      cases e : al a z with
      | false => rfl
      | true => exact absurd (List.findIdx_lt_length_of_exists ⟨a, ha, e⟩) hn
theorem FIs.row {al : Int → Int → Bool} {n : Nat} {f : List Int} (h : FIs al n f) : ∀ {r : List Int}, (∀ z ∈ r, ∃ t : Nat, z = t ∧ t < n) → FIs al n (lRow al f r).1 := by
  have key : ∀ (r : List Int) (s : List Int × List Int), FIs al n s.1 → (∀ z ∈ r, ∃ t : Nat, z = t ∧ t < n) → FIs al n (r.foldl (lStep al) s).1 := by
    intro r
    induction r with
    | nil => intro s hs _; exact hs
    | cons z r ih => intro s hs hr; exact ih _ (hs.step (hr z (by simp))) fun y hy => hr y (by simp [hy])
  intro r hr
  exact key r (f, []) h hr
theorem FIs.len {al : Int → Int → Bool} {n : Nat} {f : List Int} (h : FIs al n f) (hr : ∀ s : Nat, s < n → al s s = true) : f.length ≤ n := by
  have hd : f.Nodup := by
    have := h.no
    unfold List.Nodup
    rw [List.pairwise_iff_getElem] at this ⊢
    intro i j hi hj hij e
    have h2 := this i j hi hj hij
    rw [← e] at h2
    obtain ⟨s, h3, h4⟩ := h.at' f[i] (List.getElem_mem hi)
    rw [h3, hr s h4] at h2
    cases h2
  have := nodup_len hd (k := (List.range n).map fun (i : Nat) => (i : Int)) fun z hz => by
    obtain ⟨t, h1, h2⟩ := h.at' z hz
    exact List.mem_map.2 ⟨t, List.mem_range.2 h2, h1.symm⟩
  simpa using this
/-- The numbers of blocks, as they are kept. -/
def NumIs (m : List (Int × Int)) (bl f : List Int) : Prop := ∀ c : Int, mget m c = if f.findIdx (fun a => decide (nth bl a.toNat = c)) < f.length then some ((f.findIdx (fun a => decide (nth bl a.toNat = c)) : Nat) : Int) else none
abbrev alB (bl : List Int) (a z : Int) : Bool := decide (nth bl a.toNat = nth bl z.toNat)
theorem NumIs.look {m : List (Int × Int)} {bl f : List Int} (h : NumIs m bl f) (z : Int) : mget m (nth bl z.toNat) = if fnd (alB bl) f z < f.length then some ((fnd (alB bl) f z : Nat) : Int) else none := h _
theorem fnd_le (al : Int → Int → Bool) (f : List Int) (z : Int) : fnd al f z ≤ f.length := List.findIdx_le_length
theorem NumIs.step {m : List (Int × Int)} {bl f : List Int} (h : NumIs m bl f) {z : Int} (hn : ¬ fnd (alB bl) f z < f.length) : NumIs (mset m (nth bl z.toNat) (f.length : Int)) bl (f ++ [z]) := fun c => by
  rw [mget_mset, List.findIdx_append, List.length_append, List.length_singleton]
  by_cases e : nth bl z.toNat = c
  · subst e
    have hn' : ¬ f.findIdx (fun a => decide (nth bl a.toNat = nth bl z.toNat)) < f.length := hn
    rw [if_pos rfl, if_neg hn']
    simp [List.findIdx_cons]
  · rw [if_neg e, h c]
    by_cases h2 : f.findIdx (fun a => decide (nth bl a.toNat = c)) < f.length
    · rw [if_pos h2, if_pos h2, if_pos (by omega)]
    · rw [if_neg h2, if_neg h2, if_neg]
      simp [List.findIdx_cons, e]
      omega
theorem lRound_end {al : Int → Int → Bool} {d : D} {s : List Int × D} (h : s.1.length ≤ s.2.next.length) : lRound al d s = s := by
  unfold lRound
  rw [List.getElem?_eq_none h]
theorem lIter_end {al : Int → Int → Bool} {d : D} {i : Nat} (h : (lIter al d i).1.length ≤ (lIter al d i).2.next.length) : ∀ j, i ≤ j → lIter al d j = lIter al d i := by
  intro j hj
  induction j with
  | zero => rw [show i = 0 by omega]
  | succ j ih =>
    by_cases e : i = j + 1
    · rw [e]
    · show lRound al d (lIter al d j) = _
      rw [ih (by omega), lRound_end h]
end Go.Proofs.Ytmdkmobcglnmgaa
