/- The statement DfaSame, said of the program. Conditions: none. -/
import Derived.Test.YthdhbkngbmjjkaaFrame
import Derived.Test.YthdhbkngbmjjkaaDs
namespace Go.Proofs.Ythdhbkngbmjjkaa.dfaSame
open Go.ChangeShapes Go.WideShapes Go.ChangeAt Go.RowKit Go.Deep Go.Joins
set_option linter.unusedVariables false

set_option maxRecDepth 100000 in
set_option maxHeartbeats 4000000 in
theorem lifted (os : Os) (started : os.Started) (H : Type) (enc : TypeId × Value → H) :
    ReturnsInHanded {} Try.checked os 12 .any (Rows.dfaSameSpec.pre6 enc Try.prog Try.f12 Rows.dfaSameRow.domain false) (Rows.dfaSameSpec.post enc Try.prog Try.f12 false true false false) := by
  refine returnsInHanded_of_change (C := Try.checked) own started (by kernel_rfl) Try.func12
    (ChangeSpec.witness6 (enc := enc) (C := Try.checked) false ⟨#[], #[.agg #[.slice none 0 0, .slice none 0 0], .agg #[.slice none 0 0, .slice none 0 0]], []⟩ 8 (by kernel_rfl) (by kernel_rfl) (by kernel_rfl) (by kernel_rfl)) ?_
  intro W base args ds gs before hval0 hW hcnd _
  have hval : ∀ (j : Nat) t v, Try.f12.params[j]? = some t → args[j]? = some v → Value.okWide Try.prog W .any base t v := hval0
  have hW' := hW
  obtain ⟨p, q, hA0, hV, rfl, hfz, hnd⟩ := hW
  have hA : DataW.TrodAll enc Try.prog W 0 (fun _ => true) true Try.f12.params.toList args.toList ds p := hA0
  rw [Try.params12] at hA hval
  obtain ⟨v0, vs0, d0, ds0, p0, q0, hargs, rfl, rfl, h0, r0⟩ := trodAll_cons hA
  obtain ⟨v1, vs1, d1, ds1, p1, q1, rfl, rfl, rfl, h1, r1⟩ := trodAll_cons r0
  obtain ⟨rfl, rfl, rfl⟩ := trodAll_nil r1
  obtain rfl : args = #[v0, v1] := by cases args; simp_all
  obtain ⟨rfl, rfl⟩ := trodVars_none hV
  have k0 := h0
  have lt0 : ∀ x ∈ p0, x.block < W.heap.size := by obtain ⟨m, hm⟩ := k0; exact DataW.trod_lt m _ _ _ hm
  have k1 := h1
  have lt1 : ∀ x ∈ p1, x.block < W.heap.size := by obtain ⟨m, hm⟩ := k1; exact DataW.trod_lt m _ _ _ hm
  obtain ⟨nv, tv, y0, y1, n, rfl, _, _, gn, gt⟩ := open_agg2 Try.underlying62 (by kernel_rfl) (by kernel_rfl) (hval 0 62 v0 rfl rfl) h0
  obtain ⟨rs, hrs, _⟩ := isRows_open Try.underlying56 Try.underlying23 Try.underlying3 (by kernel_rfl) (by kernel_rfl) gn
  obtain ⟨ts, hts, hu⟩ := isNums_open Try.underlying57 Try.underlying37 (by kernel_rfl) gt
  obtain ⟨NA, nc, rfl⟩ := hrs.form
  obtain ⟨TA, tc, rfl⟩ := hts.form
  obtain ⟨nv', tv', y0', y1', n', rfl, _, _, gn', gt'⟩ := open_agg2 Try.underlying62 (by kernel_rfl) (by kernel_rfl) (hval 1 62 v1 rfl rfl) h1
  obtain ⟨rs', hrs', _⟩ := isRows_open Try.underlying56 Try.underlying23 Try.underlying3 (by kernel_rfl) (by kernel_rfl) gn'
  obtain ⟨ts', hts', hu'⟩ := isNums_open Try.underlying57 Try.underlying37 (by kernel_rfl) gt'
  obtain ⟨NB, nd, rfl⟩ := hrs'.form
  obtain ⟨TB, td, rfl⟩ := hts'.form
  clear hA0 hval0
  refine (dsame_walk _ NA TA NB TB _ nc _ tc _ nd _ td ⟨rs, ts⟩ ⟨rs', ts'⟩ W ⟨_, _, rfl, hrs, hts⟩ ⟨_, _, rfl, hrs', hts'⟩).mono fun e W' ⟨he, bel⟩ => ?_
  subst he
  exact ⟨_, rfl, _, _, _, [], _, [], hW', trodAll_mk1 (shut_bool Try.underlying4 _), (trodAll_cons_mk (Below.trod laidOut (by kernel_rfl) (of_decide_eq_true (by kernel_rfl)) k0 bel lt0) (trodAll_cons_mk (Below.trod laidOut (by kernel_rfl) (of_decide_eq_true (by kernel_rfl)) k1 bel lt1) trodAll_mk0)), rfl, bel.frame _, fun h => by cases h⟩

theorem over : Rows.dfaSameRow.holds Try.pinned (OpenSpec.ofChange Rows.dfaSameSpec) :=
  OpenClaim.holds_of_wide 12 Try.f12 rfl rfl rfl rfl rfl rfl rfl ⟨rfl, rfl, rfl, rfl, rfl⟩ rfl rfl rfl rfl rfl (by kernel_rfl) Try.func12 (by kernel_rfl)
    (of_decide_eq_true (by kernel_rfl)) (by unfold Func.isWrapper; first | (rw [if_pos (by decide +kernel)]; kernel_rfl) | (rw [if_neg (by decide +kernel)]; exact ⟨rfl, rfl⟩))
    (fun os started H enc _ => lifted os started H enc)

/-- THE STATEMENT. -/
theorem proved : Rows.DfaSameSaid := over
end Go.Proofs.Ythdhbkngbmjjkaa.dfaSame
