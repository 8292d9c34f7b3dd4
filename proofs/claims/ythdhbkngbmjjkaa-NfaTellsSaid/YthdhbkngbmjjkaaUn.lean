/- Two sets together: plain. No conditions. -/
import Derived.Test.YthdhbkngbmjjkaaAw
namespace Go.Proofs.Ythdhbkngbmjjkaa
open Go.RowKit
theorem raw_mem {search : Bool} {s : Bs} {m : Int} {l : List Int} {q : Int} : q ∈ rawB search s m l ↔ (search = true ∧ q = 0) ∨ ∃ z, z ∈ l ∧ q ∈ pickB s m (nextOf s z) := by
  unfold rawB
  rw [List.mem_append, List.mem_flatMap]
  cases search <;> simp
theorem step_mem {search : Bool} {s : Bs} {m : Int} {l : List Int} {q : Int} : q ∈ stepB search s m l ↔ (search = true ∧ q = 0) ∨ ∃ z, z ∈ l ∧ q ∈ pickB s m (nextOf s z) := by
  show q ∈ setB _ ↔ _
  rw [setB_mem, raw_mem]
theorem step_both {search : Bool} {s : Bs} {m : Int} {a b : List Int} {q : Int} : q ∈ stepB search s m (a ++ b) ↔ q ∈ stepB search s m a ∨ q ∈ stepB search s m b := by
  rw [step_mem, step_mem, step_mem]
  constructor
  · rintro (h | ⟨z, hz, hq⟩)
    · exact .inl (.inl h)
    · rcases List.mem_append.1 hz with hz | hz
      · exact .inl (.inr ⟨z, hz, hq⟩)
      · exact .inr (.inr ⟨z, hz, hq⟩)
  · rintro ((h | ⟨z, hz, hq⟩) | (h | ⟨z, hz, hq⟩))
    · exact .inl h
    · exact .inr ⟨z, List.mem_append.2 (.inl hz), hq⟩
    · exact .inl h
    · exact .inr ⟨z, List.mem_append.2 (.inr hz), hq⟩
theorem step_lt (search : Bool) (s : Bs) (m : Int) (l : List Int) : (stepB search s m l).Pairwise (· < ·) := setB_lt _
theorem lt_nodup {l : List Int} (h : l.Pairwise (· < ·)) : l.Nodup := h.imp fun h => by omega
theorem step_len {search : Bool} {s : Bs} {m : Int} {a b : List Int} : (stepB search s m a).length ≤ (stepB search s m (a ++ b)).length ∧ (stepB search s m b).length ≤ (stepB search s m (a ++ b)).length :=
  ⟨nodup_len (lt_nodup (step_lt ..)) fun _ hx => step_both.2 (.inl hx), nodup_len (lt_nodup (step_lt ..)) fun _ hx => step_both.2 (.inr hx)⟩
theorem or_fold (f : Int → Nat) : ∀ (l : List Int) (b : Nat), l.foldl (fun b z => b ||| f z) b = b ||| l.foldl (fun b z => b ||| f z) 0
  | [], b => by simp
  | z :: r, b => by
    simp only [List.foldl_cons]
    rw [or_fold f r (b ||| f z), or_fold f r (0 ||| f z), Nat.zero_or, Nat.or_assoc]
theorem tells_both (s : Bs) (a b : List Int) : tellsB s (a ++ b) = tellsB s a ||| tellsB s b := by
  unfold tellsB
  rw [List.foldl_append, or_fold]
theorem next_out {s : Bs} {z : Int} (h : z < 0 ∨ s.lfs.length < z) : nextOf s z = [] := by
  unfold nextOf
  rw [if_neg (by omega)]
/-- What stands for no place changes nothing; what stands twice does not. -/
theorem step_same {search : Bool} {s : Bs} {m : Int} {x y z : List Int} (hs : s.lfs.length < 5000) (h : ∀ q, q ∈ z ↔ q ∈ x ∨ q ∈ y) : stepB search s m z = stepB search s m ([-1, 5000] ++ x ++ y) := by
  refine up_ext (step_lt ..) (step_lt ..) fun q => ?_
  rw [step_mem, step_mem]
  constructor
  · rintro (h1 | ⟨p, hp, hq⟩)
    · exact .inl h1
    · refine .inr ⟨p, ?_, hq⟩
      rcases (h p).1 hp with h2 | h2
      · simp [h2]
      · simp [h2]
  · rintro (h1 | ⟨p, hp, hq⟩)
    · exact .inl h1
    · rcases List.mem_append.1 hp with hp | hp
      · rcases List.mem_append.1 hp with hp | hp
        · exfalso
          have : nextOf s p = [] := next_out (by simp at hp; omega)
          rw [this] at hq
          simp [pickB] at hq
        · exact .inr ⟨p, (h p).2 (.inl hp), hq⟩
      · exact .inr ⟨p, (h p).2 (.inr hp), hq⟩
end Go.Proofs.Ythdhbkngbmjjkaa
