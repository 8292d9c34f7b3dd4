/- The frame's words: entries that came in, opened. Conditions: none. -/
import Derived.Test.YtehchnagjdmdgaaFrame
import Derived.Test.YtehchnagjdmdgaaMe
import Derived.Deep.SlicePairs
namespace Go.Proofs.Ytehchnagjdmdgaa
open Go.ChangeShapes Go.WideShapes Go.ChangeAt Go.RowKit Go.Deep
section
variable {H : Type} {enc : TypeId × Value → H} {w : World} {base : Nat} {held : Bool}
theorem two_open {α : Type} {R : Value → Value → α → Prop} {a : Addr} {l : Nat} {V0 V1 : Nat → Value} {f : Nat → α} (hx : ∀ i, i < l → w.cell? (a.add (i * 2)) = some (V0 i) ∧ w.cell? (a.add (i * 2 + 1)) = some (V1 i)) (hR : ∀ i, i < l → R (V0 i) (V1 i) (f i)) :
    Row2 R w Any (some a) ((List.range l).map f) := fun k t hk => by
  have hlt : k < l := by have := (List.getElem?_eq_some_iff.1 hk).1; simpa using this
  simp [hlt] at hk
  subst hk
  have hf : a = ⟨a.block, a.off, none⟩ := by
    have h0 := (hx 0 (by omega)).1
    have hs := spot_none h0
    cases a; simp [Addr.add] at hs ⊢; exact hs
  obtain ⟨c0, c1⟩ := hx k hlt
  rw [hf] at c0 c1
  have e0 : (⟨a.block, a.off, none⟩ : Addr).add (k * 2) = ⟨a.block, a.off + k * 2, none⟩ := Addr.add_lit _ _ _
  have e1 : (⟨a.block, a.off, none⟩ : Addr).add (k * 2 + 1) = ⟨a.block, a.off + k * 2 + 1, none⟩ := by rw [Addr.add_lit]; rfl
  rw [e0] at c0
  rw [e1] at c1
  have hb : (⟨a.block, a.off + k * 2, none⟩ : Addr).block < w.heap.size := block_lt_of_cell c0
  exact ⟨a.block, a.off, V0 k, V1 k, congrArg some hf, trivial, hb, c0, c1, hR k hlt⟩
theorem rngs_open {fuel : Nat} {v : Value} {x : DataW H × List MemPlace} (h : DataW.trod enc Try.prog w base (fun _ => true) held fuel 36 [v] = some x) : ∃ l, IsRngs w Any v l := by
  rcases open_slice_pairs (e := 40) Try.underlying36 Try.underlying40 (by kernel_rfl) rfl rfl (by kernel_rfl) (by kernel_rfl) h with ⟨hcs, _⟩ | ⟨a, l, c, m, n, V0, V1, D0, D1, P0, P1, hcs, _, hl, hm, hmm, _, hx⟩
  · simp at hcs
    subst hcs
    exact ⟨[], none, 0, rfl, Nat.le_refl _, Nat.zero_le _, Row2.nil⟩
  · simp at hcs
    subst hcs
    simp only [if_true] at hmm
    subst hmm
    obtain ⟨f, hf⟩ := choose_lt (n := l) (p := fun i (d : Int × Int) => IsRng (V0 i) (V1 i) d) (fun i hi => by
      obtain ⟨_, _, g0, g1⟩ := hx i (by omega)
      obtain ⟨z0, q0, _, w0⟩ := DataW.trod_int Try.underlying21 g0
      obtain ⟨z1, q1, _, w1⟩ := DataW.trod_int Try.underlying21 g1
      simp only [List.cons.injEq, and_true] at q0 q1
      exact ⟨(z0, z1), q0, q1, bounds_i32 w0, bounds_i32 w1⟩)
    exact ⟨(List.range l).map f, some a, m, by simp, by simpa using hl, hm, two_open (fun i hi => ⟨(hx i (by omega)).1, (hx i (by omega)).2.1⟩) hf⟩
instance : Inhabited Ent := ⟨([], 0)⟩
theorem ents_open {fuel : Nat} {v : Value} {x : DataW H × List MemPlace} (h : DataW.trod enc Try.prog w base (fun _ => true) held fuel 22 [v] = some x) : ∃ es, IsEnts w Any v es := by
  rcases open_slice_pairs (e := 38) Try.underlying22 Try.underlying38 (by kernel_rfl) rfl rfl (by kernel_rfl) (by kernel_rfl) h with ⟨hcs, _⟩ | ⟨a, l, c, m, n, V0, V1, D0, D1, P0, P1, hcs, _, hl, hm, hmm, _, hx⟩
  · simp at hcs
    subst hcs
    exact ⟨[], none, 0, rfl, Nat.le_refl _, Nat.zero_le _, Row2.nil⟩
  · simp at hcs
    subst hcs
    simp only [if_true] at hmm
    subst hmm
    obtain ⟨f, hf⟩ := choose_lt (n := l) (p := fun i (d : Ent) => IsEnt w Any (V0 i) (V1 i) d) (fun i hi => by
      obtain ⟨_, _, g0, g1⟩ := hx i (by omega)
      obtain ⟨rs, hrs⟩ := rngs_open g0
      obtain ⟨z1, q1, _, w1⟩ := DataW.trod_int Try.underlying3 g1
      simp only [List.cons.injEq, and_true] at q1
      exact ⟨(rs, z1), hrs, q1, (bounds_i64 w1).1, (bounds_i64 w1).2⟩)
    exact ⟨(List.range l).map f, some a, m, by simp, by simpa using hl, hm, two_open (fun i hi => ⟨(hx i (by omega)).1, (hx i (by omega)).2.1⟩) hf⟩
end
end Go.Proofs.Ytehchnagjdmdgaa
