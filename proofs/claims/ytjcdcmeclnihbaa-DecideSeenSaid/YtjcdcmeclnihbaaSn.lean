/- Without its hidden places a list has the same breaks: of the program's answers as plain lists. Conditions: none. -/
import Derived.Test.YtjcdcmeclnihbaaBr
namespace Go.Proofs.Ytjcdcmeclnihbaa
theorem nth_map_class (ids : List Int) (k : Nat) : nth (ids.map classOf) k = classOf (nth ids k) := by
  simp only [nth, List.getElem?_map]
  cases ids[k]? with
  | none => rfl
  | some z => rfl
theorem seenTo_class (ids : List Int) (hide : List Bool) (k : Nat) : (seenTo ids hide k).map classOf = seenTo (ids.map classOf) hide k := by
  unfold seenTo
  rw [List.map_map]
  exact List.map_congr_left fun i _ => (nth_map_class ids i).symm
theorem nth_app {a b : List Int} {k : Nat} (hk : k < a.length) : nth (a ++ b) k = nth a k := by
  unfold nth; rw [List.getElem?_append_left hk]
theorem nth_app_len {a : List Int} {z : Int} : nth (a ++ [z]) a.length = z := by
  unfold nth; rw [List.getElem?_append_right (Nat.le_refl _), Nat.sub_self]; rfl
theorem hidAt_app (ig kp a b : List Int) : ∀ j, j < a.length → hidAt ig kp (a ++ b) j = hidAt ig kp a j := by
  intro j
  induction j with
  | zero => intro _; rfl
  | succ j ih =>
    intro hj
    simp only [hidAt]
    rw [nth_app hj, nth_app (by omega), ih (by omega)]
theorem hidL_nth {ig kp l : List Int} {k : Nat} (hk : k < l.length) : nthB (hidL ig kp l) k = hidAt ig kp l k := by
  unfold hidL nthB
  simp [hk]
theorem hid_seen (ig kp l : List Int) : ∀ k, k ≤ l.length → ∀ j, j < (seenTo l (hidL ig kp l) k).length → hidAt ig kp (seenTo l (hidL ig kp l) k) j = false := by
  intro k
  induction k with
  | zero => intro _ j hj; simp [seenTo] at hj
  | succ k ih =>
    intro hk j hj
    have ih' := ih (by omega)
    cases hb : nthB (hidL ig kp l) k with
    | true => rw [seenTo_skip hb] at hj ⊢; exact ih' j hj
    | false =>
      rw [seenTo_put hb] at hj ⊢
      by_cases hjl : j < (seenTo l (hidL ig kp l) k).length
      · rw [hidAt_app _ _ _ _ _ hjl]; exact ih' j hjl
      · have hje : j = (seenTo l (hidL ig kp l) k).length := by simp at hj; omega
        cases j with
        | zero => rfl
        | succ m =>
          cases k with
          | zero => simp [seenTo] at hje
          | succ k =>
            simp only [hidAt]
            rw [hje, nth_app_len, hidAt_app _ _ _ _ _ (by omega), ih' m (by omega), Bool.false_or, nth_app (by omega)]
            rw [hidL_nth (by omega)] at hb
            simp only [hidAt, Bool.and_eq_false_iff, Bool.or_eq_false_iff] at hb
            rcases hb with hb | ⟨h1, h2⟩
            · rw [hb, Bool.false_and]
            · have hb2 : nthB (hidL ig kp l) k = false := by rw [hidL_nth (by omega)]; exact h1
              rw [seenTo_put hb2] at hje ⊢
              have hm : m = (seenTo l (hidL ig kp l) k).length := by simp at hje; omega
              rw [hm, nth_app_len, h2, Bool.and_false]
theorem seenTo_none {x : List Int} {h : List Bool} (hh : ∀ i, i < x.length → nthB h i = false) : ∀ k, k ≤ x.length → seenTo x h k = x.take k := by
  intro k
  induction k with
  | zero => intro _; simp [seenTo]
  | succ k ih => intro hk; rw [seenTo_put (hh k (by omega)), ih (by omega), take_nth (by omega)]
theorem seenTo_take' {l : List Int} {hide : List Bool} (i : Nat) : ∀ k, k ≤ i → seenTo (l.take i) hide k = seenTo l hide k := by
  intro k
  induction k with
  | zero => intro _; rfl
  | succ k ih =>
    intro hk
    have hn : nth (l.take i) k = nth l k := by unfold nth; rw [List.getElem?_take, if_pos (by omega)]
    cases hb : nthB hide k with
    | true => rw [seenTo_skip hb, seenTo_skip hb]; exact ih (by omega)
    | false => rw [seenTo_put hb, seenTo_put hb, hn, ih (by omega)]
theorem seenTo_split' {l : List Int} {hide : List Bool} (i : Nat) : ∀ k, seenTo l hide (i + k) = seenTo l hide i ++ seenTo (l.drop i) (hide.drop i) k := by
  intro k
  induction k with
  | zero => simp [seenTo]
  | succ k ih =>
    have hn : nth (l.drop i) k = nth l (i + k) := by unfold nth; rw [List.getElem?_drop]
    have hh : nthB (hide.drop i) k = nthB hide (i + k) := by unfold nthB; rw [List.getElem?_drop]
    cases hb : nthB hide (i + k) with
    | true => rw [show i + (k + 1) = (i + k) + 1 by omega, seenTo_skip hb, seenTo_skip (by rw [hh]; exact hb)]; exact ih
    | false => rw [show i + (k + 1) = (i + k) + 1 by omega, seenTo_put hb, seenTo_put (by rw [hh]; exact hb), hn, ih, List.append_assoc]
theorem seenTo_pos {ig kp l : List Int} : ∀ k, 0 < k → 0 < (seenTo l (hidL ig kp l) k).length := by
  intro k hk
  obtain ⟨m, rfl⟩ : ∃ m, k = 1 + m := ⟨k - 1, by omega⟩
  rw [seenTo_split']
  have h0 : nthB (hidL ig kp l) 0 = false := by
    unfold hidL nthB
    cases l with
    | nil => rfl
    | cons x l => simp [hidAt]
  have : seenTo l (hidL ig kp l) 1 = [nth l 0] := by
    have := seenTo_put (l := l) h0
    simpa [seenTo] using this
  rw [this]; simp
/-- The breaks of places that aren't hidden. -/
def wantTo (all hide : List Bool) (k : Nat) : List Bool := ((List.range k).filter (fun i => !nthB hide i)).map (nthB all)
theorem wantTo_skip {all hide : List Bool} {k : Nat} (h : nthB hide k = true) : wantTo all hide (k + 1) = wantTo all hide k := by
  simp [wantTo, List.range_succ, h]
theorem wantTo_put {all hide : List Bool} {k : Nat} (h : nthB hide k = false) : wantTo all hide (k + 1) = wantTo all hide k ++ [nthB all k] := by
  simp [wantTo, List.range_succ, h]
theorem wantTo_len (all hide : List Bool) (k : Nat) : (wantTo all hide k).length ≤ k := by
  unfold wantTo
  rw [List.length_map]
  exact Nat.le_trans (List.length_filter_le _ _) (by simp)
theorem brL_nth {d : Nat} {rs : List (Rl d)} {l : List Int} {hide : List Bool} {k : Nat} (hk : k < l.length + 1) : nthB (brL rs l hide) k = brAt rs l hide k := by
  unfold brL nthB
  simp [hk]
theorem seen_breaks {d : Nat} (rs : List (Rl d)) (ig kp l : List Int) :
    brL rs (seenTo l (hidL ig kp l) l.length) (hidL ig kp (seenTo l (hidL ig kp l) l.length)) = wantTo (brL rs l (hidL ig kp l)) (hidL ig kp l) l.length ++ [true] := by
  obtain ⟨hide, hhe⟩ : ∃ hide, hide = hidL ig kp l := ⟨_, rfl⟩
  obtain ⟨l', hl'⟩ : ∃ l', l' = seenTo l hide l.length := ⟨_, rfl⟩
  obtain ⟨hide', hh'⟩ : ∃ hide', hide' = hidL ig kp l' := ⟨_, rfl⟩
  rw [← hhe, ← hl', ← hh']
  have hno : ∀ j, j < l'.length → nthB hide' j = false := fun j hj => by
    rw [hh', hidL_nth hj, hl', hhe]
    exact hid_seen ig kp l l.length (Nat.le_refl _) j (by rw [← hhe, ← hl']; exact hj)
  have hsplit : ∀ k, k ≤ l.length → l' = seenTo l hide k ++ seenTo (l.drop k) (hide.drop k) (l.length - k) := fun k hk => by
    rw [hl', ← seenTo_split', show k + (l.length - k) = l.length by omega]
  have hpre : ∀ k, k ≤ l.length → (List.range (seenTo l hide k).length).map (brAt rs l' hide') = wantTo (brL rs l hide) hide k := by
    intro k
    induction k with
    | zero => intro _; simp [seenTo, wantTo]
    | succ k ih =>
      intro hk
      cases hb : nthB hide k with
      | true => rw [seenTo_skip hb, wantTo_skip hb]; exact ih (by omega)
      | false =>
        rw [seenTo_put hb, wantTo_put hb, List.length_append, List.length_singleton, List.range_succ, List.map_append, ih (by omega), List.map_singleton, brL_nth (by omega)]
        congr 2
        have hsp := hsplit k (by omega)
        have hsp1 := hsplit (k + 1) hk
        rw [seenTo_put hb] at hsp1
        obtain ⟨s, hs⟩ : ∃ s, s = seenTo l hide k := ⟨_, rfl⟩
        obtain ⟨r, hr⟩ : ∃ r, r = seenTo (l.drop k) (hide.drop k) (l.length - k) := ⟨_, rfl⟩
        rw [← hs, ← hr] at hsp
        rw [← hs] at hsp1 ⊢
        have hlt : s.length < l'.length := by rw [hsp1]; simp
        by_cases h0 : k = 0
        · subst h0
          have : s.length = 0 := by rw [hs]; simp [seenTo]
          unfold brAt
          rw [if_pos (.inl this), if_pos (.inl rfl)]
        · have hpos : 0 < s.length := by rw [hs, hhe]; exact seenTo_pos k (by omega)
          have n1 : ¬ (s.length = 0 ∨ s.length = l'.length) := by omega
          have n2 : ¬ (k = 0 ∨ k = l.length) := by omega
          have n3 : ¬ (nthB hide' s.length = true) := by rw [hno _ hlt]; simp
          have n4 : ¬ (nthB hide k = true) := by rw [hb]; simp
          unfold brAt
          rw [if_neg n1, if_neg n2, if_neg n3, if_neg n4]
          have e1 : leftOf l' hide' s.length = leftOf l hide k := by
            unfold leftOf
            rw [seenTo_take' k k (Nat.le_refl _), ← hs, seenTo_take' _ _ (Nat.le_refl _), seenTo_none hno _ (by omega), hsp, List.take_left']
            rfl
          have e2 : rightOf l' hide' s.length = rightOf l hide k := by
            unfold rightOf
            rw [← hr, seenTo_none (x := l'.drop s.length) (h := hide'.drop s.length) (fun i hi => by
              rw [List.length_drop] at hi
              unfold nthB
              rw [List.getElem?_drop]
              exact hno (s.length + i) (by omega)) _ (by rw [List.length_drop]; exact Nat.le_refl _)]
            rw [← List.length_drop, List.take_length, hsp, List.drop_left']
            rfl
          unfold atI
          rw [e1, e2]
  have hlast : brAt rs l' hide' l'.length = true := by unfold brAt; rw [if_pos (.inr rfl)]
  have := hpre l.length (Nat.le_refl _)
  rw [← hl'] at this
  unfold brL at this ⊢
  rw [List.range_succ, List.map_append, this, List.map_singleton, hlast]
/-- The law's last comparison. -/
theorem seen_law {d : Nat} (t : Tx d) (ids : List Int) (hide : List Bool) (hh : hide = hidL (knownT t).ig (knownT t).kp (ids.map classOf)) :
    breaksP t (seenTo ids hide ids.length) = wantTo (breaksP t ids) hide ids.length ++ [true] := by
  unfold breaksP
  rw [seenTo_class, ← hh]
  have := seen_breaks (knownT t).rs (knownT t).ig (knownT t).kp (ids.map classOf)
  rw [← hh, List.length_map] at this
  exact this
theorem seen_zero {ig kp l : List Int} : nthB (hidL ig kp l) 0 = false := by
  unfold hidL nthB
  cases l with
  | nil => rfl
  | cons x l => simp [hidAt]
theorem seen_off {d : Nat} (t : Tx d) (ids : List Int) (hide : List Bool) (hh : hide = hidL (knownT t).ig (knownT t).kp (ids.map classOf)) {k : Nat} (hk : k < ids.length) (hb : nthB hide k = true) :
    0 < k ∧ nthB (breaksP t ids) k = false := by
  have h0 : 0 < k := by
    cases k with
    | zero => rw [hh, seen_zero] at hb; cases hb
    | succ k => omega
  refine ⟨h0, ?_⟩
  unfold breaksP
  rw [brL_nth (by rw [List.length_map]; omega), ← hh]
  unfold brAt
  rw [if_neg (by rw [List.length_map]; omega), if_pos hb]
end Go.Proofs.Ytjcdcmeclnihbaa
