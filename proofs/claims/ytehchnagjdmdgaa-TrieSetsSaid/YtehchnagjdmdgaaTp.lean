/- Two tries tell the same just if all their classes' sets are the same; what is said twice changes nothing. Plain. No conditions. -/
import Derived.Test.YtehchnagjdmdgaaRl
import Derived.Test.YtehchnagjdmdgaaGt
namespace Go.Proofs.Ytehchnagjdmdgaa
/-- Are the first n places' blocks the same? -/
def sameTo (other : Int) (l m : List Ent) (n : Nat) : Bool := (List.range n).all fun p => decide (blkOf other l p = blkOf other m p)
theorem sameTo_succ (other : Int) (l m : List Ent) (n : Nat) : sameTo other l m (n + 1) = (sameTo other l m n && decide (blkOf other l n = blkOf other m n)) := by
  simp [sameTo, List.range_succ, List.all_append]
theorem sameTo_off {other : Int} {l m : List Ent} {p : Nat} (n : Nat) (hp : p < n) (h : blkOf other l p ≠ blkOf other m p) : sameTo other l m n = false := by
  cases e : sameTo other l m n with
  | false => rfl
  | true =>
    have := List.all_eq_true.1 e p (List.mem_range.2 hp)
    exact absurd (of_decide_eq_true this) h
theorem sameTo_iff (other : Int) (l m : List Ent) (n : Nat) : sameTo other l m n = true ↔ ∀ r : Int, 0 ≤ r → r < (n : Int) * 256 → cls other l r = cls other m r := by
  constructor
  · intro h r h0 h1
    have hb := of_decide_eq_true (List.all_eq_true.1 h (r / 256).toNat (List.mem_range.2 (by omega)))
    have h2 := blk_get other l (r / 256).toNat (k := (r % 256).toNat) (by omega)
    rw [hb, blk_get other m (r / 256).toNat (k := (r % 256).toNat) (by omega)] at h2
    injection h2 with h2
    rw [show (((r / 256).toNat : Nat) : Int) * 256 + (((r % 256).toNat : Nat) : Int) = r by omega] at h2
    exact h2.symm
  · intro h
    refine List.all_eq_true.2 fun p hp => decide_eq_true ?_
    have hp := List.mem_range.1 hp
    exact List.map_congr_left fun k hk => by
      have hk := List.mem_range.1 hk
      exact h _ (by omega) (by omega)
theorem sameTo_sym (other : Int) (l m : List Ent) (n : Nat) : sameTo other l m n = sameTo other m l n := by
  refine Bool.eq_iff_iff.2 ?_
  rw [sameTo_iff, sameTo_iff]
  exact ⟨fun h r a b => (h r a b).symm, fun h r a b => (h r a b).symm⟩
/-- The set of a class. -/
def setOf (other : Int) (l : List Ent) (c : Int) (K : Nat) : List Rng := runsTo (fun r => decide (getB other l r = c)) K
theorem runs_ext (P Q : Int → Bool) (K : Nat) (h : ∀ r, 0 ≤ r → r < (K : Int) → P r = Q r) : runsTo P K = runsTo Q K := by
  obtain ⟨h1, h2, -⟩ := runs_is P K
  obtain ⟨g1, g2, -⟩ := runs_is Q K
  refine UpR.ext h1 g1 fun r => ?_
  rw [h2, g2]
  by_cases a : 0 ≤ r
  · by_cases b : r < (K : Int)
    · rw [h r a b]
    · simp [b]
  · simp [a]
theorem runs_at {P Q : Int → Bool} {K : Nat} (h : runsTo P K = runsTo Q K) {r : Int} (h0 : 0 ≤ r) (h1 : r < (K : Int)) : P r = Q r := by
  have a := (runs_is P K).2.1 r
  have b := (runs_is Q K).2.1 r
  rw [h, b] at a
  simpa [h0, h1] using a.symm
/-- Said by the classes that there are. -/
theorem apart_is {other : Int} {l m : List Ent} {k : List Int} {n K : Nat} (hK : (K : Int) = (n : Int) * 256) (hK2 : (K : Int) ≤ 1114112) (hk : ∀ x, x ∈ k ↔ ∃ r : Int, 0 ≤ r ∧ r < (K : Int) ∧ x = cls other l r) :
    (k.all fun c => decide (setOf other l c K = setOf other m c K)) = sameTo other l m n := by
  have hg : ∀ (es : List Ent) (r : Int), 0 ≤ r → r < (K : Int) → getB other es r = cls other es r := fun es r h0 h1 => by
    unfold getB; rw [if_pos ⟨h0, by omega⟩]
  refine Bool.eq_iff_iff.2 ?_
  rw [sameTo_iff, List.all_eq_true]
  constructor
  · intro h r h0 h1
    have h1' : r < (K : Int) := by omega
    have e := of_decide_eq_true (h _ ((hk _).2 ⟨r, h0, h1', rfl⟩))
    have e2 := runs_at e h0 h1'
    rw [hg l r h0 h1', hg m r h0 h1', decide_eq_true rfl] at e2
    exact (of_decide_eq_true e2.symm).symm
  · intro h c _
    refine decide_eq_true (runs_ext _ _ K fun r h0 h1 => ?_)
    rw [hg l r h0 h1, hg m r h0 h1, h r h0 (by omega)]
theorem cls_append (other : Int) (a b : List Ent) (r : Int) : cls other (a ++ b) r = cls (cls other a r) b r := by
  induction a generalizing other with
  | nil => rfl
  | cons e a ih => rw [List.cons_append, cls, ih, cls]
theorem cls_two (l : List Ent) (r : Int) : (∀ x, cls x l r = x) ∨ ∀ x y, cls x l r = cls y l r := by
  induction l with
  | nil => exact .inl fun _ => rfl
  | cons e l ih =>
    rcases ih with ih | ih
    · cases h : inS e.1 r with
      | false => exact .inl fun x => by rw [cls, h, if_neg (by simp)]; exact ih x
      | true => exact .inr fun x y => by rw [cls, cls, h]; rfl
    · exact .inr fun x y => by rw [cls, cls]; exact ih _ _
theorem cls_twice (other : Int) (l : List Ent) (r : Int) : cls other (l ++ l) r = cls other l r := by
  rw [cls_append]
  rcases cls_two l r with h | h
  · rw [h]
  · exact h _ _
theorem same_twice (other : Int) (l : List Ent) (n : Nat) : sameTo other l (l ++ l) n = true := (sameTo_iff _ _ _ _).2 fun r _ _ => (cls_twice other l r).symm
/-- The numbers of the blocks. -/
theorem mem_blks (other : Int) (es : List Ent) (n : Nat) (x : Int) : (∃ b ∈ blksTo other es n, x ∈ b) ↔ ∃ r : Int, 0 ≤ r ∧ r < (n : Int) * 256 ∧ x = cls other es r := by
  constructor
  · rintro ⟨b, hb, hx⟩
    obtain ⟨q, hq, rfl⟩ := blks_all other es n b hb
    obtain ⟨k, hk, rfl⟩ := List.mem_map.1 hx
    have hk := List.mem_range.1 hk
    exact ⟨_, by omega, by omega, rfl⟩
  · rintro ⟨r, h0, h1, rfl⟩
    refine ⟨_, blks_in other es (q := (r / 256).toNat) n (by omega), List.mem_map.2 ⟨(r % 256).toNat, List.mem_range.2 (by omega), ?_⟩⟩
    congr 1
    omega
end Go.Proofs.Ytehchnagjdmdgaa
