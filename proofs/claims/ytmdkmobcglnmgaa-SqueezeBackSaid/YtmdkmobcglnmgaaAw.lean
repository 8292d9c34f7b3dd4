/- The document's example is right: awake answers true. Conditions: none. -/
import Derived.Test.YtmdkmobcglnmgaaMk
import Derived.Deep.RegionWith
import Derived.Deep.Cut
namespace Go.Proofs.Ytmdkmobcglnmgaa
open Go.RowKit

def d0 : D := ⟨[List.replicate 37 0], [5]⟩
theorem d0_right : rightB d0 = true := by decide
theorem d0_col (m : Nat) (h : m < 37) : colOf [d0] m = ⟨#[0, 0]⟩ := by
  have h1 : goodD [d0] = [d0] := by simp [goodD, d0_right]
  have h2 : nth (List.replicate 37 (0 : Int)) m = 0 := by unfold nth; rw [List.getElem?_replicate]; simp [h]
  unfold colOf
  rw [h1]
  simp only [dsCol, d0, rowsCol, List.flatMap_cons, List.flatMap_nil, h2]
  decide +kernel
theorem d0_groups : groupsL [d0] = List.replicate 37 0 := by
  have h1 : (List.range 37).map (colOf [d0]) = List.replicate 37 ⟨#[0, 0]⟩ := by
    apply List.ext_getElem (by simp)
    intro i h1 h2
    have h3 : i < 37 := by simpa using h1
    rw [List.getElem_map, List.getElem_range, List.getElem_replicate, d0_col i h3]
  unfold groupsL
  rw [h1]
  decide +kernel
theorem d0_many : manyL (List.replicate 37 0) = 1 := by decide
theorem d0_fits : ∀ r ∈ d0.next, fitsB (List.replicate 37 0) r 1 = true := by decide +kernel

theorem isDs_one {w : World} {S : Nat → Prop} {p t : Nat} {nv tv : Value} {d : D} (h : w.heap[p]? = some (.cells #[nv, tv] t (0, 0))) (hp : S p) (hn : IsRows w S nv d.next) (ht : IsNums .u64 w S tv d.tells) :
    IsDs w S (.slice (some ⟨p, 0, none⟩) 1 1) [d] := by
  refine ⟨_, 1, [nv, tv], rfl, Nat.le_refl _, by simp [maxLen], fun _ => ⟨p, 0, rfl, hp, ?_⟩, rfl, ?_⟩
  · intro k v hk
    rw [cell_of_row _ _ _ _ _ _ h]
    simpa using hk
  · intro k d' hk
    have : k = 0 := by
      have := (List.getElem?_eq_some_iff.1 hk).1
      simp at this; exact this
    subst this
    simp at hk
    subst hk
    exact ⟨nv, tv, rfl, rfl, hn, ht⟩
/-- groups, of one table in a slice literal. -/
theorem groups_one (S : Nat → Prop) (p t : Nat) (nv tv : Value) (d : D) (w : World) (h : w.heap[p]? = some (.cells #[nv, tv] t (0, 0))) (hp : S p) (hn : IsRows w S nv d.next) (ht : IsNums .u64 w S tv d.tells) :
    Calls Try.prog 16 #[.slice (some ⟨p, 0, none⟩) 1 1] w (OwnedS w 3 1 37 ((groupsL [d]).map (.int .i64))) :=
  (groups_any S _ [d] w (isDs_one h hp hn ht) (by simp)).mono fun e w' h => by rw [groupsL_len] at h; exact owned_s h
/-- What Make answers where it has a narrow table. -/
def Made (w : World) (gs : List Int) (d : D) (e : Ending) (w' : World) : Prop :=
  ∃ gA gc nA nc tA tc us, e = .returned (.tuple #[.agg #[.slice gA 37 gc, .slice nA d.next.length nc, .slice tA d.tells.length tc], .int .i64 0]) ∧
    w'.ownsRow w.heap.size 3 1 (.slice gA 37 gc) 37 (gs.map (.int .i64)) ∧ w'.ownsRow w.heap.size 32 1 (.slice nA d.next.length nc) d.next.length us ∧
    (∃ B, w.heap.size ≤ B ∧ (∀ q, (Value.slice gA 37 gc).ownBlock = some q → q < B) ∧ OwnRows w' B us (d.next.map fun r => narrowL gs r (manyL gs).toNat)) ∧
    w'.ownsRow w.heap.size 52 1 (.slice tA d.tells.length tc) d.tells.length (d.tells.map (.int .u64)) ∧ Below w.heap.size w w'
theorem make_ok (S S' : Nat → Prop) (vg vd : Value) (gs : List Int) (d : D) (w : World) (hg : IsNums .i64 w S vg gs) (hd : IsD w S' vd d) (hm : manyL gs ≠ 0) (hr : rightB d = true) (hf : ∀ r ∈ d.next, fitsB gs r (manyL gs).toNat = true) :
    Calls Try.prog 21 #[vg, vd] w (Made w gs d) := (make_any S S' vg vd gs d w hg hd).mono fun e w' h => by
  obtain ⟨hb, ⟨h1 | h1, _⟩ | ⟨⟨_, _, r, h1, h2⟩, _⟩ | ⟨_, gv, nv, tv, us, he, h1, h2, h3, h4⟩⟩ := h
  · exact absurd h1 hm
  · rw [hr] at h1; cases h1
  · rw [hf r h1] at h2; cases h2
  · obtain ⟨gA, gc, rfl, _⟩ := own_arr h1
    obtain ⟨tA, tc, rfl, _⟩ := own_arr h4
    obtain ⟨nA, nc, rfl, _⟩ := own_arr h2
    exact ⟨gA, gc, nA, nc, tA, tc, us, he, h1, h2, h3, h4, hb⟩
theorem made_rows {w w' : World} {gs : List Int} {d : D} {v : Value} {us : List Value} (h2 : w'.ownsRow w.heap.size 32 1 v d.next.length us) {gA : Option Addr} {gc : Nat} (h3 : ∃ B, w.heap.size ≤ B ∧ (∀ q, (Value.slice gA 37 gc).ownBlock = some q → q < B) ∧ OwnRows w' B us (d.next.map fun r => narrowL gs r (manyL gs).toNat)) :
    IsRows w' (fun b => w.heap.size ≤ b) v (d.next.map fun r => narrowL gs r (manyL gs).toNat) := by
  obtain ⟨B, hB, _, h3⟩ := h3
  exact (h3.base hB).isRows (by rw [List.length_map]; exact h2)
end Go.Proofs.Ytmdkmobcglnmgaa
