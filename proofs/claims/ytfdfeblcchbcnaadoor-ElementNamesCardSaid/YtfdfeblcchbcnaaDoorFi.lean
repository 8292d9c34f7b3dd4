/- The frame's words: a slice of integers that came in, opened. Conditions: none. -/
import Derived.Test.YtfdfeblcchbcnaaDoorFr
import Derived.Test.YtfdfeblcchbcnaaDoorBaseA
import Derived.Deep.Matrix
namespace Go.Proofs.YtfdfeblcchbcnaaDoor
open Go.ChangeShapes Go.WideShapes Go.ChangeAt Go.RowKit Go.Deep
set_option linter.unusedVariables false

theorem spot_none {w : World} {a : Addr} {v : Value} (h : w.cell? a = some v) : a.spot = none := by
  cases hs : a.spot with
  | none => rfl
  | some n =>
    unfold World.cell? at h
    split at h
    · simp [hs] at h
    · cases h
theorem addr_form {w : World} {a : Addr} {v : Value} (h : w.cell? a = some v) : a = ⟨a.block, a.off, none⟩ := by
  have := spot_none h
  cases a
  simp_all
/-- An array from its cells. -/
theorem arr_of {w : World} {A : Option Addr} {n : Nat} {xs : List Value} (hl : xs.length = n) (h : 0 < n → ∃ a, A = some a ∧ ∀ k v, xs[k]? = some v → w.cell? (a.add k) = some v) : Arr w (fun _ => True) A xs := fun hn => by
  obtain ⟨a, rfl, hc⟩ := h (by omega)
  have h0 := hc 0 xs[0] (List.getElem?_eq_getElem hn)
  have hs := spot_none h0
  have hf : a = ⟨a.block, a.off, none⟩ := by cases a; simp [Addr.add] at hs ⊢; exact hs
  refine ⟨a.block, a.off, congrArg some hf, trivial, fun k v hk => ?_⟩
  have := hc k v hk
  rw [hf] at this
  by_cases e : k = 0
  · subst e; simpa [Addr.add] using this
  · simpa [Addr.add, e] using this

section
variable {H : Type} {enc : TypeId × Value → H} {P : Program} {w : World} {base : Nat} {held : Bool}
theorem isNums_open {t e : TypeId} {k : IntKind} {fuel : Nat} {v : Value} {x : DataW H × List MemPlace} (ht : P.underlying t = some (.slice e)) (he : P.underlying e = some (.int k)) (hc : P.cellsOf e = 1)
    (h : DataW.trod enc P w base (fun _ => true) held fuel t [v] = some x) : ∃ zs, IsNums k w (fun _ => True) v zs ∧ ∀ n ∈ zs, (Lit.int k n).wf = true := by
  rcases open_ints ht he hc h with ⟨hcs, _⟩ | ⟨a, l, c, zs, hcs, _, hl, hm, hz, _, hcell, hwz⟩
  · simp at hcs
    subst hcs
    exact ⟨[], ⟨none, 0, rfl, Nat.le_refl _, Nat.zero_le _, Arr.nil⟩, (fun n h => by cases h)⟩
  · simp at hcs
    subst hcs
    simp only [if_true] at hz
    refine ⟨zs.take l, ⟨some a, c, by rw [List.length_take, hz, Nat.min_eq_left hl], by rw [List.length_take]; omega, hm, arr_of rfl fun _ => ⟨a, rfl, fun k' v hk => ?_⟩⟩, fun n h => hwz n (List.mem_of_mem_take h)⟩
    rw [List.getElem?_map, List.getElem?_take] at hk
    split at hk
    · rename_i hlt
      have hk1 : k' < zs.length := by omega
      rw [hcell k' hk1, ← hk, List.getElem?_eq_getElem hk1, List.getD_eq_getElem?_getD, List.getElem?_eq_getElem hk1]
      rfl
    · cases hk
end
end Go.Proofs.YtfdfeblcchbcnaaDoor
