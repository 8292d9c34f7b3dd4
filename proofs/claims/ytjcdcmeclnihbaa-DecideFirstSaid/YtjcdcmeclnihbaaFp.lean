/- A rule that always applies, ahead of a meaning's rules or behind them: what the program's answers become, as plain lists. Condition: a right meaning of at most 39 rules. -/
import Derived.Test.YtjcdcmeclnihbaaBr
namespace Go.Proofs.Ytjcdcmeclnihbaa
def always (d : Nat) (br : Bool) : Rl (d + 1) := ⟨((9, 0, []) : Int × Int × List (Tr d)), ((9, 0, []) : Int × Int × List (Tr d)), br⟩
theorem always_ok (d : Nat) (br : Bool) : okR (always d br) = true := by rfl
theorem always_match (d : Nat) (br : Bool) : matchesT (always d br).L [] = true := by rfl
theorem always_match' (d : Nat) (br : Bool) : matchesT (always d br).R [] = true := by rfl
theorem always_applies (d : Nat) (br : Bool) (left right : List Int) : appliesB (always d br) left right = true := by
  unfold appliesB someB
  rw [any_range_hit (k := left.length) (by omega) (by rw [List.drop_length]; exact always_match d br), any_range_hit (k := 0) (by omega) (by rw [List.take_zero]; exact always_match' d br)]
  rfl
def aheadT {d : Nat} (t : Tx (d + 1)) (br : Bool) : Tx (d + 1) := ⟨t.ig, t.kp, always d br :: t.rs⟩
def behindT {d : Nat} (t : Tx (d + 1)) (br : Bool) : Tx (d + 1) := ⟨t.ig, t.kp, t.rs ++ [always d br]⟩
theorem txB_parts {d : Nat} {t : Tx d} (h : txB t = true) : risesB t.ig = true ∧ risesB t.kp = true ∧ (t.rs.all fun r => okR r) = true := by
  simp only [txB, Bool.and_eq_true] at h
  exact ⟨h.1.1.2, h.1.2, h.2⟩
theorem ahead_known {d : Nat} {t : Tx (d + 1)} (br : Bool) (h : txB t = true) (hn : t.rs.length ≤ 39) : knownT (aheadT t br) = aheadT t br := by
  obtain ⟨h1, h2, h3⟩ := txB_parts h
  have : txB (aheadT t br) = true := by
    unfold txB aheadT
    rw [List.all_cons, always_ok, h1, h2, h3, decide_eq_true (by rw [List.length_cons]; omega)]
    rfl
  unfold knownT
  rw [if_pos this]
theorem behind_known {d : Nat} {t : Tx (d + 1)} (br : Bool) (h : txB t = true) (hn : t.rs.length ≤ 39) : knownT (behindT t br) = behindT t br := by
  obtain ⟨h1, h2, h3⟩ := txB_parts h
  have : txB (behindT t br) = true := by
    unfold txB behindT
    rw [List.all_append, h1, h2, h3, decide_eq_true (by rw [List.length_append, List.length_singleton]; omega)]
    simp [always_ok]
  unfold knownT
  rw [if_pos this]
theorem known_self {d : Nat} {t : Tx d} (h : txB t = true) : knownT t = t := by unfold knownT; rw [if_pos h]
theorem idx_snoc {T : Type} (p : T → Bool) (x : T) (l : List T) : ∀ k, idx p k (l ++ [x]) = if idx p k l < 0 then (if p x = true then ((k + l.length : Nat) : Int) else -1) else idx p k l := by
  induction l with
  | nil =>
    intro k
    simp [idx]
  | cons y r ih =>
    intro k
    have e1 : ∀ m : List T, idx p k (y :: m) = if p y = true then (k : Int) else idx p (k + 1) m := fun _ => rfl
    rw [List.cons_append]
    by_cases h : p y = true
    · have a1 := e1 (r ++ [x])
      have a2 := e1 r
      rw [if_pos h] at a1 a2
      rw [a1, a2, if_neg (by omega)]
    · have a1 := e1 (r ++ [x])
      have a2 := e1 r
      rw [if_neg h] at a1 a2
      rw [a1, a2, ih (k + 1), List.length_cons, show k + 1 + r.length = k + (r.length + 1) by omega]
theorem brAt_at {d : Nat} {rs : List (Rl d)} {l : List Int} {hide : List Bool} {k : Nat} (h0 : 0 < k) (hk : k < l.length) (hh : nthB hide k = false) :
    nthB (brL rs l hide) k = (decide (atI rs l hide k < 0) || ruleBr rs (atI rs l hide k)) := by
  have : nthB (brL rs l hide) k = brAt rs l hide k := by unfold brL nthB; simp [show k < l.length + 1 by omega]
  rw [this]
  unfold brAt
  rw [if_neg (by omega), if_neg (by rw [hh]; simp)]
section
variable {d : Nat} {t : Tx (d + 1)} {ids : List Int} {hide : List Bool} {k : Nat}
theorem first_ahead (br : Bool) (h : txB t = true) (hn : t.rs.length ≤ 39) (hd : hide = hidL (knownT t).ig (knownT t).kp (ids.map classOf)) (h0 : 0 < k) (hk : k < ids.length) (hh : nthB hide k = false) :
    nthB (breaksP (aheadT t br) ids) k = br := by
  unfold breaksP
  rw [ahead_known br h hn]
  rw [known_self h] at hd
  have e : hidL (aheadT t br).ig (aheadT t br).kp (ids.map classOf) = hide := hd.symm
  rw [e, brAt_at h0 (by rw [List.length_map]; exact hk) hh]
  have ha : atI (aheadT t br).rs (ids.map classOf) hide k = 0 := by
    unfold atI aheadT
    simp only [idx]
    rw [if_pos (always_applies _ _ _ _)]
    rfl
  rw [ha]
  rfl
theorem first_which (h : txB t = true) (hd : hide = hidL (knownT t).ig (knownT t).kp (ids.map classOf)) (h0 : 0 < k) (hk : k < ids.length) (hh : nthB hide k = false) :
    whichP t ids (k : Int) = atI t.rs (ids.map classOf) hide k := by
  unfold whichP
  rw [if_neg (by omega), Int.toNat_natCast, ← hd, if_neg (by rw [hh]; simp), known_self h]
theorem first_plain (h : txB t = true) (hd : hide = hidL (knownT t).ig (knownT t).kp (ids.map classOf)) (h0 : 0 < k) (hk : k < ids.length) (hh : nthB hide k = false) (hz : whichP t ids (k : Int) < 0) :
    nthB (breaksP t ids) k = true := by
  rw [first_which h hd h0 hk hh] at hz
  unfold breaksP
  rw [← hd, brAt_at h0 (by rw [List.length_map]; exact hk) hh, known_self h, decide_eq_true hz]
  rfl
theorem first_behind (br : Bool) (h : txB t = true) (hn : t.rs.length ≤ 39) (hd : hide = hidL (knownT t).ig (knownT t).kp (ids.map classOf)) (h0 : 0 < k) (hk : k < ids.length) (hh : nthB hide k = false) :
    nthB (breaksP (behindT t br) ids) k = if whichP t ids (k : Int) < 0 then br else nthB (breaksP t ids) k := by
  rw [first_which h hd h0 hk hh]
  have e0 : nthB (breaksP t ids) k = (decide (atI t.rs (ids.map classOf) hide k < 0) || ruleBr t.rs (atI t.rs (ids.map classOf) hide k)) := by
    unfold breaksP
    rw [← hd, brAt_at h0 (by rw [List.length_map]; exact hk) hh, known_self h]
  rw [e0]
  unfold breaksP
  rw [behind_known br h hn]
  rw [known_self h] at hd
  have e : hidL (behindT t br).ig (behindT t br).kp (ids.map classOf) = hide := hd.symm
  rw [e, brAt_at h0 (by rw [List.length_map]; exact hk) hh]
  have ha : atI (behindT t br).rs (ids.map classOf) hide k = if atI t.rs (ids.map classOf) hide k < 0 then ((t.rs.length : Nat) : Int) else atI t.rs (ids.map classOf) hide k := by
    unfold atI behindT
    simp only
    rw [idx_snoc, if_pos (always_applies _ _ _ _), Nat.zero_add]
  rw [ha]
  by_cases hz : atI t.rs (ids.map classOf) hide k < 0
  · rw [if_pos hz, if_pos hz, decide_eq_false (by omega), Bool.false_or]
    unfold ruleBr behindT
    rw [Int.toNat_natCast, List.getElem?_append_right (Nat.le_refl _), Nat.sub_self]
    rfl
  · rw [if_neg hz, if_neg hz]
    congr 1
    obtain ⟨j, hj, hjl⟩ : ∃ j : Nat, atI t.rs (ids.map classOf) hide k = (j : Int) ∧ j < t.rs.length := by
      unfold atI at hz ⊢
      rcases idx_bd (fun r => appliesB r (leftOf (ids.map classOf) hide k) (rightOf (ids.map classOf) hide k)) t.rs 0 with h | ⟨j, h, _, h2⟩
      · rw [h] at hz; omega
      · exact ⟨j, h, by omega⟩
    rw [hj]
    unfold ruleBr behindT
    rw [Int.toNat_natCast, List.getElem?_append_left hjl]
end
end Go.Proofs.Ytjcdcmeclnihbaa
