/- What the document's Which has behind so many rules, from the last one down. Condition: none. -/
import Derived.Test.YtjcdcmeclnihbaaNb
namespace Go.Proofs.Ytjcdcmeclnihbaa
def apAt {d : Nat} (l : List Int) (hide : List Bool) (i : Nat) (r : Rl d) : Bool := aheadB r.L (wayOf l hide) (posOf l hide i) && behindB r.R (wayOf l hide) (posOf l hide i)
/-- The answer at a place by the rules from k on. -/
def outR {d : Nat} (rs : List (Rl d)) (l : List Int) (hide : List Bool) (k i : Nat) : Int := if nthB hide i = true then -2 else idx (apAt l hide i) k (rs.drop k)
theorem outR_end {d : Nat} (rs : List (Rl d)) (l : List Int) (hide : List Bool) (i : Nat) : outR rs l hide rs.length i = if nthB hide i = true then -2 else -1 := by
  unfold outR
  rw [List.drop_eq_nil_of_le (Nat.le_refl _)]
  rfl
theorem outR_zero {d : Nat} (rs : List (Rl d)) (l : List Int) (hide : List Bool) (i : Nat) : outR rs l hide 0 i = rAt rs l hide i := by
  unfold outR rAt
  rw [List.drop_zero]
  rfl
theorem outR_hid {d : Nat} (rs : List (Rl d)) (l : List Int) (hide : List Bool) (k i : Nat) (h : nthB hide i = true) : outR rs l hide k i = -2 := by
  unfold outR; rw [if_pos h]
theorem outR_yes {d : Nat} {rs : List (Rl d)} {l : List Int} {hide : List Bool} {k i : Nat} {r : Rl d} (hk : rs[k]? = some r) (h : nthB hide i = false) (ha : apAt l hide i r = true) : outR rs l hide k i = k := by
  obtain ⟨hlt, rfl⟩ := List.getElem?_eq_some_iff.1 hk
  unfold outR
  rw [if_neg (by rw [h]; simp), List.drop_eq_getElem_cons hlt]
  simp only [idx]
  rw [if_pos ha]
theorem outR_no {d : Nat} {rs : List (Rl d)} {l : List Int} {hide : List Bool} {k i : Nat} {r : Rl d} (hk : rs[k]? = some r) (h : nthB hide i = false) (ha : apAt l hide i r = false) : outR rs l hide k i = outR rs l hide (k + 1) i := by
  obtain ⟨hlt, rfl⟩ := List.getElem?_eq_some_iff.1 hk
  unfold outR
  rw [if_neg (by rw [h]; simp), if_neg (by rw [h]; simp), List.drop_eq_getElem_cons hlt]
  simp only [idx]
  rw [if_neg (by rw [ha]; simp)]
/-- The two inner loops, behind so many rounds. -/
def aheadTo {d : Nat} (t : Tr d) (way : List Int) (a c : Nat) : Bool := (List.range c).any fun k => leadsF d t way k a
def behindTo {d : Nat} (t : Tr d) (way : List Int) (a c : Nat) : Bool := (List.range c).any fun k => decide (a ≤ k) && leadsF d t way a k
theorem aheadTo_succ {d : Nat} (t : Tr d) (way : List Int) (a c : Nat) : aheadTo t way a (c + 1) = (aheadTo t way a c || leadsF d t way c a) := any_range_succ' _ _
theorem behindTo_succ {d : Nat} (t : Tr d) (way : List Int) (a c : Nat) (h : a ≤ c) : behindTo t way a (c + 1) = (behindTo t way a c || leadsF d t way a c) := by
  unfold behindTo
  rw [any_range_succ', decide_eq_true h, Bool.true_and]
theorem behindTo_start {d : Nat} (t : Tr d) (way : List Int) (a : Nat) : behindTo t way a a = false := by
  unfold behindTo
  rw [List.any_eq_false]
  intro k hk
  rw [decide_eq_false (by have := List.mem_range.1 hk; omega)]
  simp
theorem apAt_to {d : Nat} (l : List Int) (hide : List Bool) (i : Nat) (r : Rl d) : apAt l hide i r = (aheadTo r.L (wayOf l hide) (posOf l hide i) (posOf l hide i + 1) && behindTo r.R (wayOf l hide) (posOf l hide i) ((wayOf l hide).length + 1)) := rfl
open Go.RowKit
/-- The three blocks that Which makes: the way's first one, the places, the answers. -/
theorem which_blocks {w W : World} {n : Nat} (hW : W = ((w.alloc (.cells #[.int .i64 36] 3)).alloc (.cells (Array.replicate n (Value.int .i64 0)) 3)).alloc (.cells (Array.replicate n (Value.int .i64 0)) 3)) :
    W.ownsRow w.heap.size 3 1 (.slice (some ⟨w.heap.size, 0, none⟩) 1 1) 1 [.int .i64 36] ∧ NumBlk W (w.heap.size + 1) (List.replicate n 0) ∧ NumBlk W (w.heap.size + 2) (List.replicate n 0) ∧ W.heap.size = w.heap.size + 3 ∧ Below w.heap.size w W := by
  have e1 : (w.alloc (.cells #[.int .i64 36] 3)).heap.size = w.heap.size + 1 := by simp
  have e2 : ((w.alloc (.cells #[.int .i64 36] 3)).alloc (.cells (Array.replicate n (Value.int .i64 0)) 3)).heap.size = w.heap.size + 2 := by simp
  have h0 : W.heap[w.heap.size]? = some (.cells #[.int .i64 36] 3 (0, 0)) := by
    rw [hW, heap_alloc_old _ _ (by rw [e2]; omega), heap_alloc_old _ _ (by rw [e1]; omega)]; exact heap_alloc_new _ _
  have hn1 := NumBlk.new (w.alloc (.cells #[.int .i64 36] 3)) n
  have hn2 := NumBlk.new ((w.alloc (.cells #[.int .i64 36] 3)).alloc (.cells (Array.replicate n (Value.int .i64 0)) 3)) n
  rw [e1] at hn1
  rw [e2] at hn2
  refine ⟨⟨rfl, .inr ⟨_, 1, _, rfl, Nat.le_refl _, h0, Nat.le_refl _, by unfold maxLen; omega, rfl, rfl⟩⟩, ?_, ?_, by rw [hW]; simp, ?_⟩
  · rw [hW]; exact hn1.keep (heap_alloc_old _ _ (by rw [e2]; omega))
  · rw [hW]; exact hn2
  · rw [hW]; exact (((Below.refl _ _).alloc (Nat.le_refl _) _).alloc (by rw [e1]; omega) _).alloc (by rw [e2]; omega) _
/-- Places and answers, behind so many places. -/
def PlOut {d : Nat} (w : World) (gp go n i : Nat) (rs : List (Rl d)) (l : List Int) (hide : List Bool) : Prop :=
  ∃ ps os : List Int, NumBlk w gp ps ∧ ps.length = n ∧ (∀ k, k < i → nthB hide k = false → nth ps k = posOf l hide k) ∧ NumBlk w go os ∧ os.length = n ∧ ∀ k, k < i → nth os k = outR rs l hide rs.length k
theorem PlOut.keep {d : Nat} {w w' : World} {gp go n i : Nat} {rs : List (Rl d)} {l : List Int} {hide : List Bool} (h : PlOut w gp go n i rs l hide) (h1 : w'.heap[gp]? = w.heap[gp]?) (h2 : w'.heap[go]? = w.heap[go]?) : PlOut w' gp go n i rs l hide := by
  obtain ⟨ps, os, a, b, c, e, f, g⟩ := h
  exact ⟨ps, os, a.keep h1, b, c, e.keep h2, f, g⟩
theorem PlOut.new {d : Nat} {w : World} {gp go n : Nat} (rs : List (Rl d)) (l : List Int) (hide : List Bool) (h1 : NumBlk w gp (List.replicate n 0)) (h2 : NumBlk w go (List.replicate n 0)) : PlOut w gp go n 0 rs l hide :=
  ⟨_, _, h1, by simp, fun k hk => by omega, h2, by simp, fun k hk => by omega⟩
theorem own_keep {w w' : World} {B e size n : Nat} {v : Value} {xs : List Value} (h : w.ownsRow B e size v n xs) (hk : ∀ k, v.ownBlock = some k → w'.heap[k]? = w.heap[k]?) : w'.ownsRow B e size v n xs := by
  obtain ⟨h1, h2 | ⟨g, cap, cur, e, hg, hh, r⟩⟩ := h
  · exact ⟨h1, .inl h2⟩
  · exact ⟨h1, .inr ⟨g, cap, cur, e, hg, (hk g (by rw [e]; rfl)).trans hh, r⟩⟩
theorem nth_set' {l : List Int} {i j : Nat} {z : Int} (h : i < l.length) : nth (l.set i z) j = if i = j then z else nth l j := by
  simp only [nth, List.getElem?_set]
  by_cases e : i = j
  · subst e; simp [h]
  · simp [e]
theorem PlOut.hide {d : Nat} {w : World} {gp go n i : Nat} {rs : List (Rl d)} {l : List Int} {hide : List Bool} (h : PlOut w gp go n i rs l hide) (hi : i < n) (hne : gp ≠ go) (hh : nthB hide i = true) :
    PlOut ((w.setCell ⟨go, i, none⟩ (.int .i64 (-1))).setCell ⟨go, i, none⟩ (.int .i64 (-2))) gp go n (i + 1) rs l hide := by
  obtain ⟨ps, os, hp, hpl, hpk, ho, hol, hok⟩ := h
  refine ⟨ps, (os.set i (-1)).set i (-2), hp.keep ((heap_setCell_other _ _ _ _ hne).trans (heap_setCell_other _ _ _ _ hne)), hpl, fun k hk hf => ?_, (ho.set i (-1)).set i (-2), by simp [hol], fun k hk => ?_⟩
  · refine hpk k ?_ hf
    have : k ≠ i := fun e => by rw [e, hh] at hf; cases hf
    omega
  · rw [nth_set' (by rw [List.length_set]; omega)]
    by_cases e : i = k
    · rw [if_pos e, ← e, outR_hid _ _ _ _ _ hh]
    · rw [if_neg e, nth_set' (by omega), if_neg e]
      exact hok k (by omega)
theorem nth_cls (ids : List Int) (k : Nat) : nth (ids.map classOf) k = classOf (nth ids k) := by
  simp only [nth, List.getElem?_map]
  cases ids[k]? with
  | none => rfl
  | some z => rfl
theorem NumBlk.no {w : World} {g : Nat} {l : List Int} (h : NumBlk w g l) {j : Nat} {v : Value} (hc : w.cell? ⟨g, j, none⟩ = some v) : ∃ z, v = .int .i64 z := by
  rw [cell_of_row _ _ _ _ _ _ h, ← Array.getElem?_toList] at hc
  simp only [List.getElem?_map] at hc
  cases hl : l[j]? with
  | none => rw [hl] at hc; cases hc
  | some z => rw [hl] at hc; injection hc with hc; exact ⟨z, hc.symm⟩
/-- A table stands while a block of numbers is written. -/
theorem IsTab.apart {w w' : World} {n g : Nat} {v : Value} {f : Nat → Nat → Bool} {l : List Int} (h : IsTab w n v f) (hg : NumBlk w g l) (hk : w.grownBy w' (some g)) : IsTab w' n v f := by
  obtain ⟨t, e, ht, hr⟩ := h
  refine ⟨t, e, Nat.lt_of_lt_of_le ht hk.size, fun i hi => ?_⟩
  obtain ⟨r, hlt, hc, hj⟩ := hr i hi
  have ht' : t ≠ g := fun e => by rw [e] at hc; obtain ⟨z, hz⟩ := hg.no hc; cases hz
  refine ⟨r, Nat.lt_of_lt_of_le hlt hk.size, (cell_same (hk.block t ht (by intro e; injection e with e; exact ht' e))).trans hc, fun j hj' => ?_⟩
  have hr' : r ≠ g := fun e => by have h2 := hj j hj'; rw [e] at h2; obtain ⟨z, hz⟩ := hg.no h2; cases hz
  exact (cell_same (hk.block r hlt (by intro e; injection e with e; exact hr' e))).trans (hj j hj')
theorem IsTab.cells {w : World} {n g : Nat} {f : Nat → Nat → Bool} (h : IsTab w n (.slice (some ⟨g, 0, none⟩) n n) f) {i : Nat} (hi : i < n) :
    ∃ r, w.cell? ⟨g, i, none⟩ = some (.slice (some ⟨r, 0, none⟩) n n) ∧ ∀ j, j < n → w.cell? ⟨r, j, none⟩ = some (.bool (f i j)) := by
  obtain ⟨t, e, ht, hr⟩ := h
  have e2 : g = t := by simpa using e
  subst e2
  obtain ⟨r, hlt, hc, hj⟩ := hr i hi
  exact ⟨r, hc, hj⟩
/-- The answers by the rules from k on, as a block. -/
def OutK {d : Nat} (w : World) (go n k : Nat) (rs : List (Rl d)) (l : List Int) (hide : List Bool) : Prop :=
  ∃ os : List Int, NumBlk w go os ∧ os.length = n ∧ ∀ i, i < n → nth os i = outR rs l hide k i
/-- .. the first ones by one rule more. -/
def OutI {d : Nat} (w : World) (go n k i : Nat) (rs : List (Rl d)) (l : List Int) (hide : List Bool) : Prop :=
  ∃ os : List Int, NumBlk w go os ∧ os.length = n ∧ ∀ j, j < n → nth os j = if j < i then outR rs l hide k j else outR rs l hide (k + 1) j
theorem OutK.keep {d : Nat} {w w' : World} {go n k : Nat} {rs : List (Rl d)} {l : List Int} {hide : List Bool} (h : OutK w go n k rs l hide) (hk : w'.heap[go]? = w.heap[go]?) : OutK w' go n k rs l hide := by
  obtain ⟨os, a, b, c⟩ := h
  exact ⟨os, a.keep hk, b, c⟩
theorem OutI.keep {d : Nat} {w w' : World} {go n k i : Nat} {rs : List (Rl d)} {l : List Int} {hide : List Bool} (h : OutI w go n k i rs l hide) (hk : w'.heap[go]? = w.heap[go]?) : OutI w' go n k i rs l hide := by
  obtain ⟨os, a, b, c⟩ := h
  exact ⟨os, a.keep hk, b, c⟩
theorem OutK.first {d : Nat} {w : World} {go n k : Nat} {rs : List (Rl d)} {l : List Int} {hide : List Bool} (h : OutK w go n (k + 1) rs l hide) : OutI w go n k 0 rs l hide := by
  obtain ⟨os, a, b, c⟩ := h
  exact ⟨os, a, b, fun j hj => by rw [if_neg (by omega)]; exact c j hj⟩
theorem OutI.last {d : Nat} {w : World} {go n k : Nat} {rs : List (Rl d)} {l : List Int} {hide : List Bool} (h : OutI w go n k n rs l hide) : OutK w go n k rs l hide := by
  obtain ⟨os, a, b, c⟩ := h
  exact ⟨os, a, b, fun j hj => by rw [c j hj, if_pos hj]⟩
theorem OutI.skip {d : Nat} {w : World} {go n k i : Nat} {rs : List (Rl d)} {l : List Int} {hide : List Bool} (h : OutI w go n k i rs l hide) (he : outR rs l hide k i = outR rs l hide (k + 1) i) : OutI w go n k (i + 1) rs l hide := by
  obtain ⟨os, a, b, c⟩ := h
  refine ⟨os, a, b, fun j hj => ?_⟩
  rw [c j hj]
  by_cases e : j = i
  · subst e; rw [if_neg (by omega), if_pos (by omega), he]
  · by_cases e2 : j < i
    · rw [if_pos e2, if_pos (by omega)]
    · rw [if_neg e2, if_neg (by omega)]
theorem OutI.put {d : Nat} {w : World} {go n k i : Nat} {rs : List (Rl d)} {l : List Int} {hide : List Bool} (h : OutI w go n k i rs l hide) (hi : i < n) (he : outR rs l hide k i = k) : OutI (w.setCell ⟨go, i, none⟩ (.int .i64 k)) go n k (i + 1) rs l hide := by
  obtain ⟨os, a, b, c⟩ := h
  refine ⟨os.set i k, a.set i k, by simp [b], fun j hj => ?_⟩
  rw [nth_set' (by omega)]
  by_cases e : i = j
  · subst e; rw [if_pos rfl, if_pos (by omega), he]
  · rw [if_neg e, c j hj]
    by_cases e2 : j < i
    · rw [if_pos e2, if_pos (by omega)]
    · rw [if_neg e2, if_neg (by omega)]
theorem OutI.cell {d : Nat} {w : World} {go n k i j : Nat} {rs : List (Rl d)} {l : List Int} {hide : List Bool} (h : OutI w go n k i rs l hide) (hj : j < n) : ∃ z, w.cell? ⟨go, j, none⟩ = some (.int .i64 z) ∧ w.frozen? ⟨go, j, none⟩ = false := by
  obtain ⟨os, a, b, _⟩ := h
  exact ⟨_, a.cell (by omega), a.frozen j⟩
theorem OutK.nums {d : Nat} {w : World} {go n : Nat} {rs : List (Rl d)} {l : List Int} {hide : List Bool} (h : OutK w go n 0 rs l hide) (hn : n ≤ 1000000) : IsNums .i64 w (fun b => b = go) (.slice (some ⟨go, 0, none⟩) n n) ((List.range n).map (rAt rs l hide)) := by
  obtain ⟨os, a, b, c⟩ := h
  have e : os = (List.range n).map (rAt rs l hide) := nth_ext (by simp [b]) fun k hk => by
    rw [c k (by omega), outR_zero]
    unfold nth
    simp [show k < n by omega]
  have := IntBlk.nums (show IntBlk w go 3 .i64 os from a) (by omega)
  rw [b] at this
  rw [← e]
  exact this
theorem pos_lt {l : List Int} {hide : List Bool} {i : Nat} (hi : i < l.length) (hh : nthB hide i = false) : posOf l hide i < (wayOf l hide).length := by
  have h1 := seenTo_split (l := l) (hide := hide) (i + 1) (l.length - (i + 1))
  rw [show i + 1 + (l.length - (i + 1)) = l.length by omega, seenTo_put hh] at h1
  unfold posOf wayOf
  rw [h1]
  simp
  omega
end Go.Proofs.Ytjcdcmeclnihbaa
