/- The frame's words: a slice of tables that came in, opened. Conditions: none. -/
import Derived.Test.YtmdkmobcglnmgaaFrame
import Derived.Test.YtmdkmobcglnmgaaCol
import Derived.Deep.SlicePairs
namespace Go.Proofs.Ytmdkmobcglnmgaa
open Go.ChangeShapes Go.WideShapes Go.ChangeAt Go.RowKit Go.Deep

instance : Inhabited D := ⟨⟨[], []⟩⟩
theorem isDs_open {H : Type} {enc : TypeId × Value → H} {w : World} {base : Nat} {held : Bool} {fuel : Nat} {v : Value} {x : DataW H × List MemPlace}
    (h : DataW.trod enc Try.prog w base (fun _ => true) held fuel 22 [v] = some x) : ∃ ds, IsDs w (fun _ => True) v ds := by
  rcases open_slice_pairs (e := 29) Try.underlying22 Try.underlying29 (by kernel_rfl) rfl rfl (by kernel_rfl) (by kernel_rfl) h with ⟨hcs, _⟩ | ⟨a, l, c, m, n, V0, V1, D0, D1, P0, P1, hcs, _, hl, hm, hmm, _, hx⟩
  · simp at hcs
    subst hcs
    exact ⟨[], none, 0, [], rfl, Nat.le_refl _, Nat.zero_le _, Arr.nil, rfl, (fun k r h => by simp at h)⟩
  · simp at hcs
    subst hcs
    simp only [if_true] at hmm
    subst hmm
    obtain ⟨f, hf⟩ := choose_lt (n := l) (p := fun i (d : D) => IsRows w (fun _ => True) (V0 i) d.next ∧ IsNums .u64 w (fun _ => True) (V1 i) d.tells) (fun i hi => by
      obtain ⟨_, _, g0, g1⟩ := hx i (by omega)
      obtain ⟨rs, hrs, _⟩ := isRows_open Try.underlying25 Try.underlying32 Try.underlying3 (by kernel_rfl) (by kernel_rfl) g0
      obtain ⟨ts, hts, _⟩ := isNums_open Try.underlying26 Try.underlying52 (by kernel_rfl) g1
      exact ⟨⟨rs, ts⟩, hrs, hts⟩)
    refine ⟨(List.range l).map f, some a, m, (List.range (2 * l)).map (fun k => if k % 2 = 0 then V0 (k / 2) else V1 (k / 2)), by simp, by simpa using hl, hm, arr_of rfl fun _ => ⟨a, rfl, fun k' v hk => ?_⟩, by simp, fun k' d hk => ?_⟩
    · have hlt : k' < 2 * l := by have := (List.getElem?_eq_some_iff.1 hk).1; simpa using this
      simp [hlt] at hk
      obtain ⟨x0, x1, _, _⟩ := hx (k' / 2) (by omega)
      by_cases e : k' % 2 = 0
      · rw [if_pos e] at hk
        rw [show k' = k' / 2 * 2 by omega, x0, hk]
      · rw [if_neg e] at hk
        rw [show k' = k' / 2 * 2 + 1 by omega, x1, hk]
    · have hlt : k' < l := by have := (List.getElem?_eq_some_iff.1 hk).1; simpa using this
      simp [hlt] at hk
      subst hk
      refine ⟨V0 k', V1 k', ?_, ?_, hf k' hlt⟩
      · rw [List.getElem?_map, List.getElem?_range (by omega)]; simp
      · rw [List.getElem?_map, List.getElem?_range (by omega), Option.map_some, if_neg (by omega), show (2 * k' + 1) / 2 = k' by omega]
end Go.Proofs.Ytmdkmobcglnmgaa
