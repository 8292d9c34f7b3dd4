/- Plain: the reference's grouping, mark against mark, is the program's. Conditions: none. -/
import Derived.Test.YtmdkmobcglnmgaaAlk
import Derived.Test.YtmdkmobcglnmgaaPg
namespace Go.Proofs.Ytmdkmobcglnmgaa
open Go.RowKit

def pickN (al : Nat → Nat → Bool) (out : List Int) (many : Int) (m : Nat) : Nat → Int
  | 0 => many
  | c + 1 => if al (m - 1 - c) m then nth out (m - 1 - c) else pickN al out many m c
def refSt (al : Nat → Nat → Bool) : Nat → List Int × Int
  | 0 => ([], 0)
  | m + 1 => ((refSt al m).1 ++ [pickN al (refSt al m).1 (refSt al m).2 m m], if (refSt al m).2 < pickN al (refSt al m).1 (refSt al m).2 m m + 1 then pickN al (refSt al m).1 (refSt al m).2 m m + 1 else (refSt al m).2)
def refGroupsL (ds : List D) : List Int := (refSt (alikeB ds) 37).1

theorem pickN_cases (al : Nat → Nat → Bool) (out : List Int) (many : Int) (m : Nat) : ∀ c, c ≤ m → ((∀ j, m - c ≤ j → j < m → al j m = false) ∧ pickN al out many m c = many) ∨ ∃ j, j < m ∧ al j m = true ∧ pickN al out many m c = nth out j := by
  intro c
  induction c with
  | zero => intro _; exact .inl ⟨(fun j h1 h2 => by omega), rfl⟩
  | succ c ih =>
    intro hc
    simp only [pickN]
    by_cases h : al (m - 1 - c) m = true
    · rw [if_pos h]; exact .inr ⟨m - 1 - c, by omega, h, rfl⟩
    · rw [if_neg h]
      rcases ih (by omega) with ⟨h1, h2⟩ | h1
      · refine .inl ⟨fun j h3 h4 => ?_, h2⟩
        by_cases e : j = m - 1 - c
        · subst e; simpa using h
        · exact h1 j (by omega) h4
      · exact .inr h1
theorem numGo_keys {K : Type} [DecidableEq K] (ks : List K) : ∀ p ∈ (numGo ks).1, p.1 ∈ ks := by
  have key : ∀ (ks pre : List K) (s : List (K × Int) × List Int), (∀ p ∈ s.1, p.1 ∈ pre) → ∀ p ∈ (ks.foldl numStep s).1, p.1 ∈ pre ++ ks := by
    intro ks
    induction ks with
    | nil => intro pre s h; simpa using h
    | cons k ks ih =>
      intro pre s h
      have := ih (pre ++ [k]) (numStep s k) (fun p hp => by
        unfold numStep at hp
        split at hp
        · exact List.mem_append_left _ (h p hp)
        · rcases mem_mset hp with rfl | hp
          · simp
          · exact List.mem_append_left _ (h p hp))
      simpa using this
  simpa [numGo] using key ks [] ([], []) (fun p h => by cases h)
theorem refSt_num {K : Type} [DecidableEq K] (keys : Nat → K) (al : Nat → Nat → Bool) (hal : ∀ i j, i < 37 → j < 37 → (al i j = true ↔ keys i = keys j)) :
    ∀ m, m ≤ 37 → (refSt al m).1 = (numGo ((List.range m).map keys)).2 ∧ (refSt al m).2 = ((numGo ((List.range m).map keys)).1.length : Int) := by
  intro m
  induction m with
  | zero => intro _; exact ⟨rfl, rfl⟩
  | succ m ih =>
    intro hm
    obtain ⟨i1, i2⟩ := ih (by omega)
    have inv := numInv ((List.range m).map keys)
    have hk := numGo_keys ((List.range m).map keys)
    rw [List.range_succ, List.map_append, List.map_singleton, numGo_snoc]
    simp only [refSt]
    rw [i1, i2]
    generalize numGo ((List.range m).map keys) = s at inv hk i1 i2 ⊢
    rcases pickN_cases al s.2 (s.1.length : Int) m m (Nat.le_refl _) with ⟨h1, h2⟩ | ⟨j, h1, h2, h3⟩
    · have hn : mget s.1 (keys m) = none := by
        rw [mget_none_iff]
        intro p hp e
        have := hk p hp
        obtain ⟨j, hj, hjk⟩ := List.mem_map.1 this
        have hj' := List.mem_range.1 hj
        have := (hal j m (by omega) (by omega)).2 (hjk.trans e)
        rw [h1 j (by omega) hj'] at this
        cases this
      rw [h2]
      unfold numStep
      rw [hn]
      refine ⟨rfl, ?_⟩
      rw [if_pos (by omega)]
      show _ = ((mset s.1 (keys m) (s.1.length : Int)).length : Int)
      rw [mset_new _ (mget_none_iff.1 hn)]
      simp
    · obtain ⟨v, hv1, hv2⟩ := inv.told j (keys j) (by simp [h1])
      rw [(hal j m (by omega) (by omega)).1 h2] at hv1
      obtain ⟨l1, l2⟩ := inv.lt _ _ hv1
      rw [h3, nth_some hv2]
      unfold numStep
      rw [hv1]
      refine ⟨rfl, ?_⟩
      rw [if_neg (by omega)]
theorem alikeB_iff (ds : List D) {i j : Nat} (hi : i < 37) (hj : j < 37) : alikeB ds i j = true ↔ colOf ds i = colOf ds j := by
  rw [← groupsL_eq ds hi hj, groupsL_same ds hi hj]
  unfold alikeB goodD
  simp only [List.all_eq_true, alD, Bool.or_eq_true, Bool.not_eq_true', rowsAl, decide_eq_true_eq, List.mem_filter]
  constructor
  · rintro h d ⟨hd, hr⟩ r hrr
    rcases h d hd with h1 | h1
    · rw [hr] at h1; cases h1
    · exact h1 r hrr
  · intro h d hd
    cases hr : rightB d with
    | false => exact .inl rfl
    | true => exact .inr fun r hrr => h d ⟨hd, hr⟩ r hrr
theorem refGroupsL_eq (ds : List D) : refGroupsL ds = groupsL ds := (refSt_num (colOf ds) (alikeB ds) (fun _ _ hi hj => alikeB_iff ds hi hj) 37 (Nat.le_refl _)).1
theorem refSt_bounds (ds : List D) {m : Nat} (hm : m ≤ 37) : (refSt (alikeB ds) m).1.length = m ∧ 0 ≤ (refSt (alikeB ds) m).2 ∧ (refSt (alikeB ds) m).2 ≤ m ∧ ∀ j, j < m → 0 ≤ nth (refSt (alikeB ds) m).1 j ∧ nth (refSt (alikeB ds) m).1 j < m := by
  obtain ⟨h1, h2⟩ := refSt_num (colOf ds) (alikeB ds) (fun _ _ hi hj => alikeB_iff ds hi hj) m hm
  have inv := numInv ((List.range m).map (colOf ds))
  have hl := numGo_len ((List.range m).map (colOf ds))
  rw [h1, h2]
  rw [List.length_map, List.length_range] at hl
  refine ⟨hl.1, by omega, by omega, fun j hj => ?_⟩
  obtain ⟨v, hv1, hv2⟩ := inv.told j (colOf ds j) (by simp [hj])
  obtain ⟨l1, l2⟩ := inv.lt _ _ hv1
  rw [nth_some hv2]
  omega
theorem pickN_bounds (ds : List D) {m c : Nat} (hm : m < 37) (hc : c ≤ m) : 0 ≤ pickN (alikeB ds) (refSt (alikeB ds) m).1 (refSt (alikeB ds) m).2 m c ∧ pickN (alikeB ds) (refSt (alikeB ds) m).1 (refSt (alikeB ds) m).2 m c ≤ 37 := by
  obtain ⟨h1, h2, h3, h4⟩ := refSt_bounds ds (m := m) (by omega)
  rcases pickN_cases (alikeB ds) (refSt (alikeB ds) m).1 (refSt (alikeB ds) m).2 m c hc with ⟨_, h⟩ | ⟨j, hj, _, h⟩
  · rw [h]; omega
  · rw [h]; have := h4 j hj; omega
end Go.Proofs.Ytmdkmobcglnmgaa
