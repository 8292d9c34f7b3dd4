/- The frame's words: what came in, opened: a slice of integers, a slice of such, a table. Conditions: none. -/
import Derived.Test.YtjcdcmeclnihbaaBaseA
import Derived.Test.YtjcdcmeclnihbaaRows
import Derived.WalkKit
import Derived.ProofKit
import Derived.OpenShut
import Derived.ShutString
import Derived.ChangeOld
import Derived.Below
import Derived.Deep.Matrix
import Derived.Lib.SmallJoins
namespace Go.Proofs.Ytjcdcmeclnihbaa
open Go.ChangeShapes Go.WideShapes Go.ChangeAt Go.RowKit Go.Deep
set_option linter.unusedVariables false

theorem own : ownKnob Try.prog.godebug = none := by kernel_rfl
theorem laidOut : laidOutB Try.prog = true := by kernel_rfl
theorem spot_none {w : World} {a : Addr} {v : Value} (h : w.cell? a = some v) : a.spot = none := by
  cases hs : a.spot with
  | none => rfl
  | some n =>
    unfold World.cell? at h
    split at h
    · simp [hs] at h
    · cases h
theorem addr_form {w : World} {a : Addr} {v : Value} (h : w.cell? a = some v) : a = ⟨a.block, a.off, none⟩ := by
  have := spot_none h
  cases a
  simp_all
/-- An array from its cells. -/
theorem arr_of {w : World} {A : Option Addr} {n : Nat} {xs : List Value} (hl : xs.length = n) (h : 0 < n → ∃ a, A = some a ∧ ∀ k v, xs[k]? = some v → w.cell? (a.add k) = some v) : Arr w (fun _ => True) A xs := fun hn => by
  obtain ⟨a, rfl, hc⟩ := h (by omega)
  have h0 := hc 0 xs[0] (List.getElem?_eq_getElem hn)
  have hs := spot_none h0
  have hf : a = ⟨a.block, a.off, none⟩ := by cases a; simp [Addr.add] at hs ⊢; exact hs
  refine ⟨a.block, a.off, congrArg some hf, trivial, fun k v hk => ?_⟩
  have := hc k v hk
  rw [hf] at this
  by_cases e : k = 0
  · subst e; simpa [Addr.add] using this
  · simpa [Addr.add, e] using this

section
variable {H : Type} {enc : TypeId × Value → H} {P : Program} {w : World} {base : Nat} {held : Bool}
theorem isNums_open {t e : TypeId} {k : IntKind} {fuel : Nat} {v : Value} {x : DataW H × List MemPlace} (ht : P.underlying t = some (.slice e)) (he : P.underlying e = some (.int k)) (hc : P.cellsOf e = 1)
    (h : DataW.trod enc P w base (fun _ => true) held fuel t [v] = some x) : ∃ zs, IsNums k w (fun _ => True) v zs ∧ ∀ n ∈ zs, (Lit.int k n).wf = true := by
  rcases open_ints ht he hc h with ⟨hcs, _⟩ | ⟨a, l, c, zs, hcs, _, hl, hm, hz, _, hcell, hwz⟩
  · simp at hcs
    subst hcs
    exact ⟨[], ⟨none, 0, rfl, Nat.le_refl _, Nat.zero_le _, Arr.nil⟩, (fun n h => by cases h)⟩
  · simp at hcs
    subst hcs
    simp only [if_true] at hz
    refine ⟨zs.take l, ⟨some a, c, by rw [List.length_take, hz, Nat.min_eq_left hl], by rw [List.length_take]; omega, hm, arr_of rfl fun _ => ⟨a, rfl, fun k' v hk => ?_⟩⟩, fun n h => hwz n (List.mem_of_mem_take h)⟩
    rw [List.getElem?_map, List.getElem?_take] at hk
    split at hk
    · rename_i hlt
      have hk1 : k' < zs.length := by omega
      rw [hcell k' hk1, ← hk, List.getElem?_eq_getElem hk1, List.getD_eq_getElem?_getD, List.getElem?_eq_getElem hk1]
      rfl
    · cases hk
theorem isRows_open {t e q : TypeId} {fuel : Nat} {v : Value} {x : DataW H × List MemPlace} (ht : P.underlying t = some (.slice e)) (he : P.underlying e = some (.slice q)) (hq : P.underlying q = some (.int .i64))
    (ce : P.cellsOf e = 1) (cq : P.cellsOf q = 1) (h : DataW.trod enc P w base (fun _ => true) held fuel t [v] = some x) : ∃ rs, IsRows w (fun _ => True) v rs ∧ ∀ r ∈ rs, ∀ n ∈ r, (Lit.int .i64 n).wf = true := by
  rcases open_int_rows ht he hq ce cq h with ⟨hcs, _⟩ | ⟨a, l, c, A, L, C, Z, hcs, _, hl, hm, _, hr⟩
  · simp at hcs
    subst hcs
    exact ⟨[], ⟨none, 0, [], rfl, Nat.le_refl _, Nat.zero_le _, Arr.nil, rfl, (fun k r h => by simp at h)⟩, (fun r h => by cases h)⟩
  · simp at hcs
    subst hcs
    refine ⟨(List.range l).map fun r => (Z r).take (L r), ⟨some a, c, (List.range l).map fun r => .slice (A r) (L r) (C r), by simp, by simpa using hl, hm, arr_of rfl fun _ => ⟨a, rfl, fun k' v hk => ?_⟩, by simp, fun k' r hk => ?_⟩, ?_⟩
    · have hlt : k' < l := by have := (List.getElem?_eq_some_iff.1 hk).1; simpa using this
      rw [(hr k' (by omega)).1, ← hk]
      simp [hlt]
    · have hlt : k' < l := by have := (List.getElem?_eq_some_iff.1 hk).1; simpa using this
      obtain ⟨h1, h2, h3, h4, h5, h6, h7⟩ := hr k' (by omega)
      have hrk : r = (Z k').take (L k') := by simp [hlt] at hk; exact hk.symm
      subst hrk
      refine ⟨.slice (A k') (L k') (C k'), by simp [hlt], A k', C k', by rw [List.length_take, h4, Nat.min_eq_left h2], by rw [List.length_take]; omega, h3, arr_of rfl fun hpos => ?_⟩
      rw [List.length_map, List.length_take] at hpos
      cases hA : A k' with
      | none => have := h6 hA; omega
      | some a' =>
        refine ⟨a', rfl, fun j v hj => ?_⟩
        rw [List.getElem?_map, List.getElem?_take] at hj
        split at hj
        · rename_i hjl
          have hj1 : j < (Z k').length := by omega
          rw [(h7 a' hA).2 j (by omega), ← hj, List.getElem?_eq_getElem hj1, List.getD_eq_getElem?_getD, List.getElem?_eq_getElem hj1]
          rfl
        · cases hj
    · intro r hrm n hn
      obtain ⟨k', hk', rfl⟩ := List.mem_map.1 hrm
      exact (hr k' (by have := List.mem_range.1 hk'; omega)).2.2.2.2.1 n (List.mem_of_mem_take hn)
end
end Go.Proofs.Ytjcdcmeclnihbaa
