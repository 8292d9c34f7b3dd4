/- The automaton of so many Anys side by side: plain. No conditions. -/
import Derived.Test.YthdhbkngbmjjkaaAw
namespace Go.Proofs.Ythdhbkngbmjjkaa
open Go.RowKit
def anyT : Tr 1 := ((1, 0, []) : Int × Int × List (Tr 0))
def altT (k : Nat) : Tr 2 := ((5, 0, List.replicate k anyT) : Int × Int × List (Tr 1))
def upTo (k : Nat) : List Int := (List.range k).map fun i : Nat => ((i + 1 : Nat) : Int)
theorem upTo_len (k : Nat) : (upTo k).length = k := by simp [upTo]
theorem upTo_lt (k : Nat) : (upTo k).Pairwise (· < ·) := by
  unfold upTo
  rw [List.pairwise_map]
  exact List.Pairwise.imp (fun {a b} h => by omega) List.pairwise_lt_range
def countS (k : Nat) : Bs := ⟨List.replicate k (1, 0, 1), [⟨[2], [], 0⟩, ⟨[], [], 1⟩, ⟨[], upTo k, 0⟩]⟩
theorem count_fold : ∀ k : Nat, (List.replicate k anyT).foldl (fun s x => layB 1 x 2 1 s) (countS 0) = countS k
  | 0 => rfl
  | k + 1 => by
    rw [List.replicate_succ', List.foldl_append, count_fold k]
    show layB 1 anyT 2 1 (countS k) = countS (k + 1)
    show (countS k).leaf 1 0 2 1 = countS (k + 1)
    have e : (countS k).lfs.length = k := by simp [countS]
    unfold Bs.leaf
    rw [e]
    have e1 : (countS k).lfs ++ [(1, 0, ((1 : Nat) : Int))] = (countS (k + 1)).lfs := by
      show List.replicate k _ ++ [_] = List.replicate (k + 1) _
      rw [List.replicate_succ']; rfl
    have e2 : (countS k).kns.set 2 ⟨(kn (countS k).kns 2).free, (kn (countS k).kns 2).lv ++ [((k + 1 : Nat) : Int)], (kn (countS k).kns 2).fin⟩ = (countS (k + 1)).kns := by
      show [(⟨[2], [], 0⟩ : Kn), ⟨[], [], 1⟩, ⟨[], upTo k ++ [((k + 1 : Nat) : Int)], 0⟩] = [⟨[2], [], 0⟩, ⟨[], [], 1⟩, ⟨[], upTo (k + 1), 0⟩]
      have : upTo (k + 1) = upTo k ++ [((k + 1 : Nat) : Int)] := by simp [upTo, List.range_succ]
      rw [this]
    rw [e1, e2]
theorem count_built (k : Nat) : builtB [altT k] = countS k := by
  show layB 2 (altT k) 2 1 (countS 0) = countS k
  rw [← count_fold k]
  rfl
theorem count_next (k : Nat) : nextOf (countS k) 0 = upTo k := by
  unfold nextOf
  rw [if_pos ⟨Int.le_refl _, by omega⟩]
  have e : reachL (countS k).kns (placeK (countS k) (0 : Int).toNat) = [0, 2] := rfl
  rw [e]
  show ([] : List Int) ++ (upTo k ++ []) = upTo k
  simp
theorem count_step (k : Nat) : stepB false (countS k) 3 [0] = upTo k := by
  refine up_ext (setB_lt _) (upTo_lt k) fun x => ?_
  show x ∈ setB _ ↔ _
  rw [setB_mem]
  show x ∈ [] ++ (pickB (countS k) 3 (nextOf (countS k) 0) ++ []) ↔ _
  rw [count_next, List.nil_append, List.append_nil]
  unfold pickB
  rw [List.mem_filter]
  refine ⟨fun h => h.1, fun h => ⟨h, ?_⟩⟩
  obtain ⟨i, hi, rfl⟩ := List.mem_map.1 h
  have hi' := List.mem_range.1 hi
  unfold takesAt
  have e : (countS k).lfs[(((i + 1 : Nat) : Int) - 1).toNat]? = some (1, 0, 1) := by
    show (List.replicate k ((1, 0, 1) : Int × Int × Int))[_]? = _
    rw [List.getElem?_replicate, if_pos (by omega)]
  rw [e]
  rfl
theorem cntL_replicate {T : Type} (f : T → Nat) (x : T) : ∀ k : Nat, cntL f (List.replicate k x) = k * f x
  | 0 => by simp [cntL]
  | k + 1 => by rw [List.replicate_succ]; simp only [cntL]; rw [cntL_replicate f x k, Nat.succ_mul]; omega
theorem sumL_replicate {T : Type} (f : T → Nat) (x : T) : ∀ k : Nat, sumL f (List.replicate k x) = k * f x
  | 0 => by simp [sumL]
  | k + 1 => by rw [List.replicate_succ]; simp only [sumL]; rw [sumL_replicate f x k, Nat.succ_mul]; omega
theorem count_leaves {k : Nat} (hk : 0 < k) : sumL (fun t => leavesT 2 t) [altT k] = k := by
  show leavesT 2 (altT k) + 0 = k
  have e : leavesT 2 (altT k) = sumL (fun t => leavesT 1 t) (List.replicate k anyT) := by
    show (if (Tr.kids (altT k)).length = 0 ∧ _ then 1 else _) = _
    rw [if_neg (fun h => by have h1 : (List.replicate k anyT).length = 0 := h.1; rw [List.length_replicate] at h1; omega)]
    rfl
  rw [e, sumL_replicate, show leavesT 1 anyT = 1 from rfl]
  omega
theorem count_right {k : Nat} (h2 : 2 ≤ k) (hk : k ≤ 1999) : rightT 2 (altT k) = true := by
  have hc : cnt 2 (altT k) ≤ 2000 := by
    show 1 + cntL (fun t => cnt 1 t) (List.replicate k anyT) ≤ 2000
    rw [cntL_replicate, show cnt 1 anyT = 1 from rfl]
    omega
  rw [rightT_fits hc]
  show (fitB false 5 0 (List.replicate k anyT).length && (List.replicate k anyT).all (fun x => fitsT 1 true x)) = true
  rw [List.length_replicate, Bool.and_eq_true]
  refine ⟨?_, ?_⟩
  · unfold fitB least most
    simp
    omega
  · rw [List.all_eq_true]
    intro x hx
    rw [List.eq_of_mem_replicate hx]
    rfl
end Go.Proofs.Ythdhbkngbmjjkaa
