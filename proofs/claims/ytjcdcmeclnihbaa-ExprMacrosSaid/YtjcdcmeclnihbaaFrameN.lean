/- The frame's words: an expression that came in by itself, opened. Conditions: none. -/
import Derived.Test.YtjcdcmeclnihbaaFrame
import Derived.Test.YtjcdcmeclnihbaaTr
import Derived.Deep.SlicePairs
namespace Go.Proofs.Ytjcdcmeclnihbaa
open Go.ChangeShapes Go.WideShapes Go.ChangeAt Go.RowKit Go.Deep Go.Joins

/-- The same tree, one deeper bound. -/
def liftT : (d : Nat) → Tr d → Tr (d + 1)
  | 0, t => t.elim
  | d + 1, t => (Tr.kind t, Tr.cls t, (Tr.kids t).map (liftT d))
theorem IsTr.lift {w : World} {S : Nat → Prop} : ∀ (d : Nat) (v : Value) (t : Tr d), IsTr w S d v t → IsTr w S (d + 1) v (liftT d t) := by
  intro d
  induction d with
  | zero => intro v t h; exact h.elim
  | succ d ih =>
    intro v t h
    obtain ⟨A, c, e, h1, h2, h3⟩ := h
    have hk : Tr.kids (liftT (d + 1) t) = (Tr.kids t).map (liftT d) := rfl
    refine ⟨A, c, by rw [hk, List.length_map]; exact e, by rw [hk, List.length_map]; exact h1, h2, fun k u hu => ?_⟩
    rw [hk, List.getElem?_map] at hu
    obtain ⟨x, hx, rfl⟩ := Option.map_eq_some_iff.1 hu
    obtain ⟨b, o, v0, v1, v2, ea, hs, hlt, c0, c1, c2, hr⟩ := h3 k x hx
    exact ⟨b, o, v0, v1, v2, ea, hs, hlt, c0, c1, c2, ih _ _ hr⟩
theorem addr_plain {w : World} {a : Addr} {v : Value} (h : w.cell? a = some v) : a.spot = none := spot_none h
theorem cell_lt {w : World} {b o : Nat} {v : Value} (h : w.cell? ⟨b, o, none⟩ = some v) : b < w.heap.size := block_lt_of_cell h
theorem cells51 : Try.prog.cellsOf 51 = 3 := by kernel_rfl
theorem cells3 : Try.prog.cellsOf 3 = 1 := by kernel_rfl
theorem cells49 : Try.prog.cellsOf 49 = 1 := by kernel_rfl
instance {d : Nat} : Nonempty (Tr (d + 1)) := ⟨((0, 0, []) : Int × Int × List (Tr d))⟩
section
variable {H : Type} {enc : TypeId × Value → H} {w : World} {base : Nat} {held : Bool}
set_option maxRecDepth 100000 in
theorem tree_open : ∀ (fuel : Nat) (cs : List Value) (x : DataW H × List MemPlace), DataW.trod enc Try.prog w base (fun _ => true) held fuel 51 cs = some x →
    ∃ (t : Tr fuel) (v0 v1 v2 : Value), cs = [v0, v1, v2] ∧ IsTr w Any fuel (.agg #[v0, v1, v2]) t := by
  intro fuel
  induction fuel using Nat.strongRecOn with
  | ind fuel ih =>
    intro cs x h
    obtain ⟨xs, n, rfl, _, hl, hlen, hf⟩ := DataW.trod_struct Try.underlying51 h
    rw [cells51] at hl
    match xs, hlen, cs, hl with
    | [y0, y1, y2], _, [u0, u1, u2], _ =>
      have g0' : DataW.trod enc Try.prog w base (fun _ => true) held n 3 [u0] = some y0 := by simpa [cells3] using hf 0 _ rfl
      have g1' : DataW.trod enc Try.prog w base (fun _ => true) held n 3 [u1] = some y1 := by simpa [cells3] using hf 1 _ rfl
      have g2' : DataW.trod enc Try.prog w base (fun _ => true) held n 49 [u2] = some y2 := by simpa [cells49] using hf 2 _ rfl
      obtain ⟨kind, q0, _, _⟩ := DataW.trod_int Try.underlying3 g0'
      obtain ⟨cls, q1, _, _⟩ := DataW.trod_int Try.underlying3 g1'
      simp only [List.cons.injEq, and_true] at q0 q1
      subst q0 q1
      rcases DataW.trod_slice Try.underlying49 g2' with ⟨hcs, _⟩ | ⟨a, len, cap, elems, rest, m, rfl, hcs, _, _, hlc, hm, hel, hx, _, _⟩
      · simp at hcs
        subst hcs
        exact ⟨((kind, cls, []) : Int × Int × List (Tr n)), _, _, _, rfl, none, 0, rfl, Nat.le_refl _, Nat.zero_le _, fun k t ht => by simp [Tr.kids] at ht⟩
      · simp at hcs
        subst hcs
        rw [cells51] at hx
        have hk : ∀ i, i < len → ∃ (t : Tr (m + 1)) (v0 v1 v2 : Value), w.cell? (a.add (i * 3)) = some v0 ∧ w.cell? (a.add (i * 3 + 1)) = some v1 ∧ w.cell? (a.add (i * 3 + 2)) = some v2 ∧ IsTr w Any (m + 1) (.agg #[v0, v1, v2]) t := fun i hi => by
          have h1 := hx i hi
          rw [List.getElem?_eq_getElem (by omega)] at h1
          obtain ⟨cs', e1, e2⟩ := Option.bind_eq_some_iff.1 h1
          obtain ⟨_, _, hcell⟩ := World.cells?_some e1
          obtain ⟨t, v0, v1, v2, rfl, ht⟩ := ih m (by omega) _ _ e2
          have k0 := hcell 0 (by omega)
          have k1 := hcell 1 (by omega)
          have k2 := hcell 2 (by omega)
          rw [add_add] at k0 k1 k2
          exact ⟨liftT m t, v0, v1, v2, by simpa using k0, by simpa using k1, by simpa using k2, ht.lift⟩
        haveI : Inhabited (Tr (m + 1)) := ⟨((0, 0, []) : Int × Int × List (Tr m))⟩
        obtain ⟨f, hf'⟩ := choose_lt (n := len) (p := fun i (t : Tr (m + 1)) => ∃ (v0 v1 v2 : Value), w.cell? (a.add (i * 3)) = some v0 ∧ w.cell? (a.add (i * 3 + 1)) = some v1 ∧ w.cell? (a.add (i * 3 + 2)) = some v2 ∧ IsTr w Any (m + 1) (.agg #[v0, v1, v2]) t) hk
        refine ⟨((kind, cls, (List.range len).map f) : Int × Int × List (Tr (m + 1))), _, _, _, rfl, some a, cap, ?_, ?_, hm, fun k t hkt => ?_⟩
        · show Value.agg #[.int .i64 kind, .int .i64 cls, .slice (some a) len cap] = .agg #[.int .i64 kind, .int .i64 cls, .slice (some a) ((List.range len).map f).length cap]
          simp
        · show ((List.range len).map f).length ≤ cap
          simpa using hlc
        · have hkt' : ((List.range len).map f)[k]? = some t := hkt
          have hlt : k < len := by have := (List.getElem?_eq_some_iff.1 hkt').1; simpa using this
          simp [hlt] at hkt'
          subst hkt'
          obtain ⟨v0, v1, v2, c0, c1, c2, hT⟩ := hf' k hlt
          have hsp : a.spot = none := by
            obtain ⟨_, _, _, c, _⟩ := hf' 0 (by omega)
            have := addr_plain c
            simpa [Addr.add] using this
          obtain ⟨b, o, sp⟩ := a
          simp only at hsp
          subst hsp
          rw [add_plain] at c0 c1 c2
          exact ⟨b, o, v0, v1, v2, rfl, trivial, cell_lt c1, c0, by simpa [Nat.add_assoc] using c1, by simpa [Nat.add_assoc] using c2, hT⟩
theorem IsTr.lifts {S : Nat → Prop} {d : Nat} {v : Value} {t : Tr d} (h : IsTr w S d v t) : ∀ k, ∃ t' : Tr (d + k), IsTr w S (d + k) v t' := by
  intro k
  induction k with
  | zero => exact ⟨t, h⟩
  | succ k ih =>
    obtain ⟨t', h'⟩ := ih
    exact ⟨liftT _ t', h'.lift⟩
end
set_option maxRecDepth 100000 in
theorem node_open {H : Type} {enc : TypeId × Value → H} {w : World} {base : Nat} {held : Bool} {r : Reach} {b0 : Nat} {v : Value} {d : DataW H} {p : List MemPlace} (hv : Value.okWide Try.prog w r b0 51 v)
    (h : DataW.Trod enc Try.prog w base (fun _ => true) held 51 v d p) : ∃ fuel, ∃ t : Tr fuel, IsTr w Any fuel v t := by
  obtain ⟨cs, rfl, hsz⟩ := okWide_struct Try.underlying51 hv
  obtain ⟨fuel, hf⟩ := h
  obtain ⟨t, v0, v1, v2, e, ht⟩ := tree_open fuel _ _ hf
  refine ⟨fuel, t, ?_⟩
  have : cs = #[v0, v1, v2] := by
    apply Array.ext'
    exact e
  rw [this]
  exact ht
end Go.Proofs.Ytjcdcmeclnihbaa
