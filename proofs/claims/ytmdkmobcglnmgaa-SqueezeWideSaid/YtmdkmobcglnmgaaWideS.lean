/- The statement SqueezeWide, said of the program. Conditions: none. -/
import Derived.Test.YtmdkmobcglnmgaaFrame
import Derived.Test.YtmdkmobcglnmgaaWl
namespace Go.Proofs.Ytmdkmobcglnmgaa.squeezeWide
open Go.ChangeShapes Go.WideShapes Go.ChangeAt Go.RowKit Go.Deep Go.Joins
set_option linter.unusedVariables false

theorem walk (S : Nat → Prop) (g n t : Value) (gs : List Int) (d : D) (w : World) (hg : IsNums .i64 w S g gs) (h : IsD w S (.agg #[n, t]) d) : Calls Try.prog 6 #[.agg #[g, n, t]] w fun e w' => e = .returned (.bool true) ∧ Below w.heap.size w w' := by
  obtain ⟨nv, tv, e, hn, ht⟩ := h
  obtain ⟨rfl, rfl⟩ : nv = n ∧ tv = t := by simpa using e.symm
  obtain ⟨GA, gc, rfl⟩ := hg.form
  obtain ⟨NA, nc, rfl⟩ := hn.form
  obtain ⟨TA, tc, rfl⟩ := ht.form
  exact widel_walk S GA NA TA gc nc tc gs d w hg ⟨_, _, rfl, hn, ht⟩

set_option maxRecDepth 100000 in
theorem lifted (os : Os) (started : os.Started) (H : Type) (enc : TypeId × Value → H) :
    ReturnsInHanded {} Try.checked os 6 .any (Rows.squeezeWideSpec.pre6 enc Try.prog Try.f6 Rows.squeezeWideRow.domain false) (Rows.squeezeWideSpec.post enc Try.prog Try.f6 false true false false) := by
  refine returnsInHanded_of_change (C := Try.checked) own started (by kernel_rfl) Try.func6
    (ChangeSpec.witness6 (enc := enc) (C := Try.checked) false ⟨#[], #[.agg #[.slice none 0 0, .slice none 0 0, .slice none 0 0]], []⟩ 8 (by kernel_rfl) (by kernel_rfl) (by kernel_rfl) (by kernel_rfl)) ?_
  intro W base args ds gs before hval0 hW hcnd _
  have hval : ∀ (j : Nat) t v, Try.f6.params[j]? = some t → args[j]? = some v → Value.okWide Try.prog W .any base t v := hval0
  have hW' := hW
  obtain ⟨p, q, hA0, hV, rfl, hfz, hnd⟩ := hW
  have hA : DataW.TrodAll enc Try.prog W 0 (fun _ => true) true Try.f6.params.toList args.toList ds p := hA0
  rw [Try.params6] at hA hval
  obtain ⟨v0, vs0, d0, ds0, p0, q0, hargs, rfl, rfl, h0, r0⟩ := trodAll_cons hA
  obtain ⟨rfl, rfl, rfl⟩ := trodAll_nil r0
  obtain rfl : args = #[v0] := by cases args; simp_all
  obtain ⟨rfl, rfl⟩ := trodVars_none hV
  have k0 := h0
  have lt0 : ∀ x ∈ p0, x.block < W.heap.size := by obtain ⟨m, hm⟩ := k0; exact DataW.trod_lt m _ _ _ hm
  obtain ⟨gv, nv, tv, y0, y1, y2, n, rfl, _, _, gg, g0, g1⟩ := open_agg3 Try.underlying45 (by kernel_rfl) (by kernel_rfl) (hval 0 45 v0 rfl rfl) h0
  obtain ⟨gs, hgs, _⟩ := isNums_open Try.underlying32 Try.underlying3 (by kernel_rfl) gg
  obtain ⟨rs, hrs, _⟩ := isRows_open Try.underlying25 Try.underlying32 Try.underlying3 (by kernel_rfl) (by kernel_rfl) g0
  obtain ⟨ts, hts, _⟩ := isNums_open Try.underlying26 Try.underlying52 (by kernel_rfl) g1
  clear hA0 hval0
  refine (walk _ _ _ _ gs ⟨rs, ts⟩ W hgs ⟨_, _, rfl, hrs, hts⟩).mono fun e W' ⟨he, bel⟩ => ?_
  subst he
  exact ⟨_, rfl, _, _, _, [], _, [], hW', trodAll_mk1 (shut_bool Try.underlying4 _), (trodAll_cons_mk (Below.trod laidOut (by kernel_rfl) (of_decide_eq_true (by kernel_rfl)) k0 bel lt0) trodAll_mk0), rfl, bel.frame _, fun h => by cases h⟩

theorem over : Rows.squeezeWideRow.holds Try.pinned (OpenSpec.ofChange Rows.squeezeWideSpec) :=
  OpenClaim.holds_of_wide 6 Try.f6 rfl rfl rfl rfl rfl rfl rfl ⟨rfl, rfl, rfl, rfl, rfl⟩ rfl rfl rfl rfl rfl (by kernel_rfl) Try.func6 (by kernel_rfl)
    (of_decide_eq_true (by kernel_rfl)) (by unfold Func.isWrapper; first | (rw [if_pos (by decide +kernel)]; kernel_rfl) | (rw [if_neg (by decide +kernel)]; exact ⟨rfl, rfl⟩))
    (fun os started H enc _ => lifted os started H enc)

/-- THE STATEMENT. -/
theorem proved : Rows.SqueezeWideSaid := over
end Go.Proofs.Ytmdkmobcglnmgaa.squeezeWide
