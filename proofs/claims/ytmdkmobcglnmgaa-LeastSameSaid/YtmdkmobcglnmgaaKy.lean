/- Keys of the program's maps: ints, pairs of ints; operations on maps of the call's own within a drawn region. No conditions. -/
import Derived.Test.YtmdkmobcglnmgaaChecked
import Derived.Test.YtmdkmobcglnmgaaBaseR
import Derived.Test.YtmdkmobcglnmgaaBaseC
import Derived.DeepKeys4
namespace Go.Proofs.Ytmdkmobcglnmgaa
open Go.RowKit

abbrev i64ok (z : Int) : Prop := -9223372036854775808 ≤ z ∧ z ≤ 9223372036854775807
theorem i64wf {z : Int} (h : i64ok z) : (Lit.int .i64 z).wf = true := WalkArith.wf_i64 h
theorem intKey : MKey Try.prog 3 (fun z : Int => Value.int .i64 z) i64ok :=
  ⟨fun h => by injection h, fun {z} h => ⟨_, Maps.keyOf_int_mk Try.underlying3 (i64wf h)⟩, Maps.int_keyed Try.underlying3⟩
theorem laidKy : laidOutB Try.prog = true := by kernel_rfl
abbrev pairV (p : Int × Int) : Value := .agg #[.int .i64 p.1, .int .i64 p.2]
abbrev pairOk (p : Int × Int) : Prop := i64ok p.1 ∧ i64ok p.2
theorem cells102 : Try.prog.cellsOf 102 = 2 := by kernel_rfl
theorem cells3 : Try.prog.cellsOf 3 = 1 := by kernel_rfl
theorem keyT102 : Try.prog.keyType 102 = true := by kernel_rfl
theorem pair_key {p : Int × Int} (h : pairOk p) : ∃ l, keyOf Try.prog 102 (pairV p) = some l := by
  have w1 := i64wf h.1
  have w2 := i64wf h.2
  have h1 : (pairV p).formed Try.prog 102 = true := by simp [Value.formed, Try.underlying102, cells102]
  have hk : ∀ (d : Nat) (z : Int), (Lit.int .i64 z).wf = true → Try.prog.keyLits (d + 1) 3 [.int .i64 z] = some [.int .i64 z] := by
    intro d z hz
    rw [Program.keyLits.eq_def]
    simp only [Try.underlying3]
    rw [if_pos ⟨trivial, hz⟩]
  have h2 : ∀ d, Try.prog.keyLits (d + 2) 102 [.int .i64 p.1, .int .i64 p.2] = some [.int .i64 p.1, .int .i64 p.2] := by
    intro d
    rw [Program.keyLits.eq_def]
    simp only [Try.underlying102, cells102, cells3]
    rw [if_pos (by rfl)]
    simp [List.range_succ, hk d _ w1, hk d _ w2]
  obtain ⟨d, hd⟩ : ∃ d, Try.prog.types.size + 1 = d + 2 := ⟨Try.prog.types.size - 1, by have : 1 ≤ Try.prog.types.size := of_decide_eq_true (by kernel_rfl); omega⟩
  refine ⟨.string (keyBytes [.int .i64 p.1, .int .i64 p.2]), ?_⟩
  unfold keyOf
  rw [Try.underlying102]
  simp only [keyT102, h1, Bool.and_self, if_true, hd]
  show Option.map _ (Try.prog.keyLits (d + 2) 102 [.int .i64 p.1, .int .i64 p.2]) = _
  rw [h2]
  rfl
theorem pairKey : MKey Try.prog 102 pairV pairOk :=
  ⟨fun {a b} h => by
    injection h with h
    obtain ⟨a1, a2⟩ := a
    obtain ⟨b1, b2⟩ := b
    simp at h
    rw [h.1, h.2],
   pair_key, Maps.Keyed.of_law (deep_law_laid laidKy (m := 3) (by omega) (of_decide_eq_true (by kernel_rfl)) (by kernel_rfl) (by kernel_rfl))⟩

section
variable {P : Program} {kt et : TypeId} {K V : Type} [DecidableEq K] {enc : K → Value} {ok : K → Prop} {R : V → Value → Prop} {w : World} {b : Nat} {m : List (K × V)}
  {o : Oper} {a : Act} {Kn : Act → World → Prop} {Q : Exit → Act → World → Prop}
/-- 'm[k]', of an element, in a drawn region. -/
theorem wp_mlook (c : Bool) (MK : MKey P kt enc ok) (x ix : Operand) (t : TypeId) (hop : o.op = .lookup t x ix c) (ht : P.underlying t = some (.map kt et)) (z : Value) (hz : (zeroValue et).run P w = .ok z w)
    (h : MapIs w b enc ok R m) (k : K) (hk : ok k) (hx : a.eval x = .map (some b)) (hi : a.eval ix = enc k)
    (hn : mget m k = none → Kn (a.put o.dst (if c then .tuple #[z, .bool false] else z)) w) (hs : ∀ v u, mget m k = some v → R v u → Kn (a.put o.dst (if c then .tuple #[u, .bool true] else u)) w) : Oper.wp P o a w Kn Q := by
  unfold Oper.wp
  rcases h.lookup MK ht hz hk c with ⟨h1, hrun⟩ | ⟨v, u, h1, hR, hrun⟩
  · simp [execOp, hop, hx, hi, hrun, Result.andThen]
    exact hn h1
  · simp [execOp, hop, hx, hi, hrun, Result.andThen]
    exact hs v u h1 hR
/-- 'm[k] = v', in a drawn region. -/
theorem wp_mupd (MK : MKey P kt enc ok) (x ix v : Operand) (t : TypeId) (hop : o.op = .mapUpdate t x ix v) (ht : P.underlying t = some (.map kt et))
    (h : MapIs w b enc ok R m) (k : K) (hk : ok k) (y : V) (u : Value) (hR : R y u) (hx : a.eval x = .map (some b)) (hi : a.eval ix = enc k) (hv : a.eval v = u)
    (hK : ∀ w', MapIs w' b enc ok R (mset m k y) → w.grownBy w' (some b) → Kn (a.put o.dst undef) w') : Oper.wp P o a w Kn Q := by
  obtain ⟨w', hrun, r1, r2⟩ := h.update MK ht hk hR
  unfold Oper.wp
  simp [execOp, hop, hx, hi, hv, hrun, Result.andThen]
  exact hK w' r1 r2
end
end Go.Proofs.Ytmdkmobcglnmgaa
