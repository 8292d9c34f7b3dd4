/- The frame's words: a slice of tags that came in, opened. Conditions: none. -/
import Derived.Test.YtfdfeblcchbcnaaDoorFr
import Derived.Test.YtfdfeblcchbcnaaDoorTg
import Derived.Deep.SlicePairs
namespace Go.Proofs.YtfdfeblcchbcnaaDoor
open Go.ChangeShapes Go.WideShapes Go.ChangeAt Go.RowKit Go.Deep

instance : Inhabited T3 := ⟨⟨0, ByteArray.empty, false⟩⟩
theorem addr_plain {w : World} {a : Addr} {v : Value} (h : w.cell? a = some v) : a.spot = none := by
  cases hs : a.spot with
  | none => rfl
  | some n =>
    unfold World.cell? at h
    split at h
    · simp [hs] at h
    · cases h
theorem cell_lt {w : World} {b o : Nat} {v : Value} (h : w.cell? ⟨b, o, none⟩ = some v) : b < w.heap.size := by
  unfold World.cell? at h
  cases hb : w.heap[b]? with
  | none => rw [hb] at h; cases h
  | some x => exact (Array.getElem?_eq_some_iff.1 hb).1
theorem cells32 : Tryd.prog.cellsOf 32 = 3 := by kernel_rfl
set_option maxRecDepth 100000 in
theorem tags_open {H : Type} {enc : TypeId × Value → H} {w : World} {base : Nat} {held : Bool} {fuel : Nat} {v : Value} {x : DataW H × List MemPlace}
    (h : DataW.trod enc Tryd.prog w base (fun _ => true) held fuel 26 [v] = some x) : ∃ (A : Option Addr) (l : List T3) (c : Nat), v = .slice A l.length c ∧ l.length ≤ 9223372036854775807 ∧ TagsAt w A l := by
  rcases open_slice Tryd.underlying26 h with ⟨hcs, _⟩ | ⟨a, len, cap, m, n, D, Pl, hcs, hb, hl, hm, hmm, rfl, hx⟩
  · simp at hcs
    subst hcs
    exact ⟨none, [], 0, rfl, by simp, fun k t ht => by simp at ht⟩
  · simp at hcs
    subst hcs
    simp only [if_true] at hmm
    subst hmm
    obtain ⟨f, hf⟩ := choose_lt (n := len) (p := fun i (t : T3) => w.cell? (a.add (i * 3)) = some (.int .i64 t.kind) ∧ w.cell? (a.add (i * 3 + 1)) = some (.string t.name) ∧ w.cell? (a.add (i * 3 + 2)) = some (.bool t.single) ∧ t.name.size ≤ 9223372036854775807) (fun i hi => by
      obtain ⟨cs', e1, e2⟩ := hx i (by omega)
      rw [cells32] at e1
      obtain ⟨_, hlen, hcell⟩ := World.cells?_some e1
      obtain ⟨y0, y1, y2, n', _, _, g0, g1, g2⟩ := trod_struct3 Tryd.underlying32 e2
      match cs', hlen with
      | [u0, u1, u2], _ =>
        have k0 := hcell 0 (by omega)
        have k1 := hcell 1 (by omega)
        have k2 := hcell 2 (by omega)
        rw [add_add] at k0 k1 k2
        have g0' : DataW.trod enc Tryd.prog w base (fun _ => true) held n' 3 [u0] = some y0 := g0
        have g1' : DataW.trod enc Tryd.prog w base (fun _ => true) held n' 9 [u1] = some y1 := g1
        have g2' : DataW.trod enc Tryd.prog w base (fun _ => true) held n' 4 [u2] = some y2 := g2
        obtain ⟨kind, q0, _, _⟩ := DataW.trod_int Tryd.underlying3 g0'
        obtain ⟨name, q1, _, hs⟩ := DataW.trod_string Tryd.underlying9 g1'
        obtain ⟨single, q2, _⟩ := DataW.trod_bool Tryd.underlying4 g2'
        simp only [List.cons.injEq, and_true] at q0 q1 q2
        subst q0 q1 q2
        exact ⟨⟨kind, name, single⟩, by simpa using k0, by simpa using k1, by simpa using k2, by unfold maxLen at hs; omega⟩)
    refine ⟨some a, (List.range len).map f, m, by simp, by unfold maxLen at hm; simp; omega, fun k t hk => ?_⟩
    have hlt : k < len := by have := (List.getElem?_eq_some_iff.1 hk).1; simpa using this
    simp [hlt] at hk
    subst hk
    obtain ⟨c0, c1, c2, hs⟩ := hf k hlt
    have hsp : a.spot = none := by
      have := addr_plain (hf 0 (by omega)).1
      simpa [Addr.add] using this
    obtain ⟨b, o, sp⟩ := a
    simp only at hsp
    subst hsp
    rw [add_plain] at c0 c1 c2
    exact ⟨b, o, rfl, cell_lt c1, c0, by simpa [Nat.add_assoc] using c1, by simpa [Nat.add_assoc] using c2, hs⟩
end Go.Proofs.YtfdfeblcchbcnaaDoor
