/- The frame's words: an expression, and a meaning, that came in, opened. Conditions: none. -/
import Derived.Test.YtjcdcmeclnihbaaFrame
import Derived.Test.YtjcdcmeclnihbaaRu
import Derived.Deep.SlicePairs
namespace Go.Proofs.Ytjcdcmeclnihbaa
open Go.ChangeShapes Go.WideShapes Go.ChangeAt Go.RowKit Go.Deep

/-- The same tree, one deeper bound. -/
def liftT : (d : Nat) → Tr d → Tr (d + 1)
  | 0, t => t.elim
  | d + 1, t => (Tr.kind t, Tr.cls t, (Tr.kids t).map (liftT d))
theorem IsTr.lift {w : World} {S : Nat → Prop} : ∀ (d : Nat) (v : Value) (t : Tr d), IsTr w S d v t → IsTr w S (d + 1) v (liftT d t) := by
  intro d
  induction d with
  | zero => intro v t h; exact h.elim
  | succ d ih =>
    intro v t h
    obtain ⟨A, c, e, h1, h2, h3⟩ := h
    have hk : Tr.kids (liftT (d + 1) t) = (Tr.kids t).map (liftT d) := rfl
    refine ⟨A, c, by rw [hk, List.length_map]; exact e, by rw [hk, List.length_map]; exact h1, h2, fun k u hu => ?_⟩
    rw [hk, List.getElem?_map] at hu
    obtain ⟨x, hx, rfl⟩ := Option.map_eq_some_iff.1 hu
    obtain ⟨b, o, v0, v1, v2, ea, hs, hlt, c0, c1, c2, hr⟩ := h3 k x hx
    exact ⟨b, o, v0, v1, v2, ea, hs, hlt, c0, c1, c2, ih _ _ hr⟩
theorem addr_plain {w : World} {a : Addr} {v : Value} (h : w.cell? a = some v) : a.spot = none := spot_none h
theorem cell_lt {w : World} {b o : Nat} {v : Value} (h : w.cell? ⟨b, o, none⟩ = some v) : b < w.heap.size := block_lt_of_cell h
theorem cells51 : Try.prog.cellsOf 51 = 3 := by kernel_rfl
theorem cells3 : Try.prog.cellsOf 3 = 1 := by kernel_rfl
theorem cells49 : Try.prog.cellsOf 49 = 1 := by kernel_rfl
theorem cells4 : Try.prog.cellsOf 4 = 1 := by kernel_rfl
theorem cells72 : Try.prog.cellsOf 72 = 7 := by kernel_rfl
instance {d : Nat} : Nonempty (Tr (d + 1)) := ⟨((0, 0, []) : Int × Int × List (Tr d))⟩
section
variable {H : Type} {enc : TypeId × Value → H} {w : World} {base : Nat} {held : Bool}
set_option maxRecDepth 100000 in
theorem tree_open : ∀ (fuel : Nat) (cs : List Value) (x : DataW H × List MemPlace), DataW.trod enc Try.prog w base (fun _ => true) held fuel 51 cs = some x →
    ∃ (t : Tr fuel) (v0 v1 v2 : Value), cs = [v0, v1, v2] ∧ IsTr w Any fuel (.agg #[v0, v1, v2]) t := by
  intro fuel
  induction fuel using Nat.strongRecOn with
  | ind fuel ih =>
    intro cs x h
    obtain ⟨xs, n, rfl, _, hl, hlen, hf⟩ := DataW.trod_struct Try.underlying51 h
    rw [cells51] at hl
    match xs, hlen, cs, hl with
    | [y0, y1, y2], _, [u0, u1, u2], _ =>
      have g0' : DataW.trod enc Try.prog w base (fun _ => true) held n 3 [u0] = some y0 := by simpa [cells3] using hf 0 _ rfl
      have g1' : DataW.trod enc Try.prog w base (fun _ => true) held n 3 [u1] = some y1 := by simpa [cells3] using hf 1 _ rfl
      have g2' : DataW.trod enc Try.prog w base (fun _ => true) held n 49 [u2] = some y2 := by simpa [cells49] using hf 2 _ rfl
      obtain ⟨kind, q0, _, _⟩ := DataW.trod_int Try.underlying3 g0'
      obtain ⟨cls, q1, _, _⟩ := DataW.trod_int Try.underlying3 g1'
      simp only [List.cons.injEq, and_true] at q0 q1
      subst q0 q1
      rcases DataW.trod_slice Try.underlying49 g2' with ⟨hcs, _⟩ | ⟨a, len, cap, elems, rest, m, rfl, hcs, _, _, hlc, hm, hel, hx, _, _⟩
      · simp at hcs
        subst hcs
        exact ⟨((kind, cls, []) : Int × Int × List (Tr n)), _, _, _, rfl, none, 0, rfl, Nat.le_refl _, Nat.zero_le _, fun k t ht => by simp [Tr.kids] at ht⟩
      · simp at hcs
        subst hcs
        rw [cells51] at hx
        have hk : ∀ i, i < len → ∃ (t : Tr (m + 1)) (v0 v1 v2 : Value), w.cell? (a.add (i * 3)) = some v0 ∧ w.cell? (a.add (i * 3 + 1)) = some v1 ∧ w.cell? (a.add (i * 3 + 2)) = some v2 ∧ IsTr w Any (m + 1) (.agg #[v0, v1, v2]) t := fun i hi => by
          have h1 := hx i hi
          rw [List.getElem?_eq_getElem (by omega)] at h1
          obtain ⟨cs', e1, e2⟩ := Option.bind_eq_some_iff.1 h1
          obtain ⟨_, _, hcell⟩ := World.cells?_some e1
          obtain ⟨t, v0, v1, v2, rfl, ht⟩ := ih m (by omega) _ _ e2
          have k0 := hcell 0 (by omega)
          have k1 := hcell 1 (by omega)
          have k2 := hcell 2 (by omega)
          rw [add_add] at k0 k1 k2
          exact ⟨liftT m t, v0, v1, v2, by simpa using k0, by simpa using k1, by simpa using k2, ht.lift⟩
        haveI : Inhabited (Tr (m + 1)) := ⟨((0, 0, []) : Int × Int × List (Tr m))⟩
        obtain ⟨f, hf'⟩ := choose_lt (n := len) (p := fun i (t : Tr (m + 1)) => ∃ (v0 v1 v2 : Value), w.cell? (a.add (i * 3)) = some v0 ∧ w.cell? (a.add (i * 3 + 1)) = some v1 ∧ w.cell? (a.add (i * 3 + 2)) = some v2 ∧ IsTr w Any (m + 1) (.agg #[v0, v1, v2]) t) hk
        refine ⟨((kind, cls, (List.range len).map f) : Int × Int × List (Tr (m + 1))), _, _, _, rfl, some a, cap, ?_, ?_, hm, fun k t hkt => ?_⟩
        · show Value.agg #[.int .i64 kind, .int .i64 cls, .slice (some a) len cap] = .agg #[.int .i64 kind, .int .i64 cls, .slice (some a) ((List.range len).map f).length cap]
          simp
        · show ((List.range len).map f).length ≤ cap
          simpa using hlc
        · have hkt' : ((List.range len).map f)[k]? = some t := hkt
          have hlt : k < len := by have := (List.getElem?_eq_some_iff.1 hkt').1; simpa using this
          simp [hlt] at hkt'
          subst hkt'
          obtain ⟨v0, v1, v2, c0, c1, c2, hT⟩ := hf' k hlt
          have hsp : a.spot = none := by
            obtain ⟨_, _, _, c, _⟩ := hf' 0 (by omega)
            have := addr_plain c
            simpa [Addr.add] using this
          obtain ⟨b, o, sp⟩ := a
          simp only at hsp
          subst hsp
          rw [add_plain] at c0 c1 c2
          exact ⟨b, o, v0, v1, v2, rfl, trivial, cell_lt c1, c0, by simpa [Nat.add_assoc] using c1, by simpa [Nat.add_assoc] using c2, hT⟩
theorem IsTr.lifts {S : Nat → Prop} {d : Nat} {v : Value} {t : Tr d} (h : IsTr w S d v t) : ∀ k, ∃ t' : Tr (d + k), IsTr w S (d + k) v t' := by
  intro k
  induction k with
  | zero => exact ⟨t, h⟩
  | succ k ih =>
    obtain ⟨t', h'⟩ := ih
    exact ⟨liftT _ t', h'.lift⟩
instance {d : Nat} : Inhabited (Rl (d + 1)) := ⟨⟨((0, 0, []) : Int × Int × List (Tr d)), ((0, 0, []) : Int × Int × List (Tr d)), false⟩⟩
set_option maxRecDepth 100000 in
theorem rules_open {fuel : Nat} {v : Value} {x : DataW H × List MemPlace} (h : DataW.trod enc Try.prog w base (fun _ => true) held fuel 23 [v] = some x) :
    ∃ (d : Nat) (A : Option Addr) (l : List (Rl d)) (c : Nat), v = .slice A l.length c ∧ l.length ≤ c ∧ c ≤ maxLen ∧ Row7 w Any d A l := by
  rcases DataW.trod_slice Try.underlying23 h with ⟨hcs, _⟩ | ⟨a, len, cap, elems, rest, n, rfl, hcs, _, _, hlc, hm, hel, hx, _, _⟩
  · simp at hcs
    subst hcs
    exact ⟨0, none, [], 0, rfl, Nat.le_refl _, Nat.zero_le _, fun k r hr => by simp at hr⟩
  · simp at hcs
    subst hcs
    rw [cells72] at hx
    have hk : ∀ i, i < len → ∃ (r : Rl (n + 1)) (v0 v1 v2 u0 u1 u2 : Value), w.cell? (a.add (i * 7)) = some v0 ∧ w.cell? (a.add (i * 7 + 1)) = some v1 ∧ w.cell? (a.add (i * 7 + 2)) = some v2 ∧ w.cell? (a.add (i * 7 + 3)) = some u0 ∧ w.cell? (a.add (i * 7 + 4)) = some u1 ∧ w.cell? (a.add (i * 7 + 5)) = some u2 ∧
        w.cell? (a.add (i * 7 + 6)) = some (.bool r.br) ∧ IsTr w Any (n + 1) (.agg #[v0, v1, v2]) r.L ∧ IsTr w Any (n + 1) (.agg #[u0, u1, u2]) r.R := fun i hi => by
      have h1 := hx i hi
      rw [List.getElem?_eq_getElem (by omega)] at h1
      obtain ⟨cs', e1, e2⟩ := Option.bind_eq_some_iff.1 h1
      obtain ⟨_, hcl, hcell⟩ := World.cells?_some e1
      obtain ⟨xs, m, rfl, _, hl, hlen, hf⟩ := DataW.trod_struct Try.underlying72 e2
      match xs, hlen, cs', hcl with
      | [y0, y1, y2], _, [z0, z1, z2, z3, z4, z5, z6], _ =>
        have g0' : DataW.trod enc Try.prog w base (fun _ => true) held m 51 [z0, z1, z2] = some y0 := by simpa [cells51] using hf 0 _ rfl
        have g1' : DataW.trod enc Try.prog w base (fun _ => true) held m 51 [z3, z4, z5] = some y1 := by simpa [cells51] using hf 1 _ rfl
        have g2' : DataW.trod enc Try.prog w base (fun _ => true) held m 4 [z6] = some y2 := by simpa [cells4] using hf 2 _ rfl
        obtain ⟨tL, v0, v1, v2, eL, hL⟩ := tree_open _ _ _ g0'
        obtain ⟨tR, u0, u1, u2, eR, hR⟩ := tree_open _ _ _ g1'
        obtain ⟨br, q2, _⟩ := DataW.trod_bool Try.underlying4 g2'
        simp only [List.cons.injEq, and_true] at eL eR q2
        obtain ⟨rfl, rfl, rfl⟩ := eL
        obtain ⟨rfl, rfl, rfl⟩ := eR
        subst q2
        have kk := fun j (hj : j < 7) => hcell j hj
        have k0 := kk 0 (by omega)
        have k1 := kk 1 (by omega)
        have k2 := kk 2 (by omega)
        have k3 := kk 3 (by omega)
        have k4 := kk 4 (by omega)
        have k5 := kk 5 (by omega)
        have k6 := kk 6 (by omega)
        rw [add_add] at k0 k1 k2 k3 k4 k5 k6
        exact ⟨⟨liftT _ (liftT _ tL), liftT _ (liftT _ tR), br⟩, z0, z1, z2, z3, z4, z5, by simpa using k0, by simpa using k1, by simpa using k2, by simpa using k3, by simpa using k4, by simpa using k5, by simpa using k6, hL.lift.lift, hR.lift.lift⟩
    obtain ⟨f, hf'⟩ := choose_lt (n := len) hk
    refine ⟨n + 1, some a, (List.range len).map f, cap, by simp, by simpa using hlc, hm, fun k r hkr => ?_⟩
    have hlt : k < len := by have := (List.getElem?_eq_some_iff.1 hkr).1; simpa using this
    simp [hlt] at hkr
    subst hkr
    obtain ⟨v0, v1, v2, u0, u1, u2, c0, c1, c2, c3, c4, c5, c6, hL, hR⟩ := hf' k hlt
    have hsp : a.spot = none := by
      obtain ⟨_, _, _, _, _, _, c, _⟩ := hf' 0 (by omega)
      have := addr_plain c
      simpa [Addr.add] using this
    obtain ⟨b, o, sp⟩ := a
    simp only at hsp
    subst hsp
    rw [add_plain] at c0 c1 c2 c3 c4 c5 c6
    exact ⟨b, o, v0, v1, v2, u0, u1, u2, rfl, trivial, cell_lt c1, c0, by simpa [Nat.add_assoc] using c1, by simpa [Nat.add_assoc] using c2, by simpa [Nat.add_assoc] using c3, by simpa [Nat.add_assoc] using c4, by simpa [Nat.add_assoc] using c5, by simpa [Nat.add_assoc] using c6, hL, hR⟩
end
end Go.Proofs.Ytjcdcmeclnihbaa
