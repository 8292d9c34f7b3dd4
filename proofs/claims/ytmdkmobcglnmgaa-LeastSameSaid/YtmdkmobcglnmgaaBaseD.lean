/- Rows of the call's own that were appended to, in a row of rows. Conditions: none. -/
import Derived.Test.YtmdkmobcglnmgaaBaseC
namespace Go.Proofs.Ytmdkmobcglnmgaa
open Go.RowKit

/-- Rows of numbers, each a row of the call's own. -/
def OwnG (w : World) (B : Nat) (us : List Value) (rs : List (List Int)) : Prop :=
  us.length = rs.length ∧ ∀ (j : Nat) (r : List Int), rs[j]? = some r → ∃ u, us[j]? = some u ∧ w.ownsRow B 3 1 u r.length (r.map (.int .i64))
theorem OwnG.nil (w : World) (B : Nat) : OwnG w B [] [] := ⟨rfl, fun j r h => by simp at h⟩
theorem OwnG.below {w w' : World} {B : Nat} {us : List Value} {rs : List (List Int)} (h : OwnG w B us rs) (hb : Below w.heap.size w w') : OwnG w' B us rs :=
  ⟨h.1, fun j r hr => by
    obtain ⟨u, h1, h2⟩ := h.2 j r hr
    exact ⟨u, h1, h2.kept (grown_of_below hb none) (Classical.em _)⟩⟩
theorem OwnG.grown {w w' : World} {B : Nat} {us : List Value} {rs : List (List Int)} (h : OwnG w B us rs) {g t : Nat} {cs : Array Value} (hg : w.grownBy w' (some g)) (hb : w.heap[g]? = some (.cells cs t (0, 0))) (hne : t ≠ 3) : OwnG w' B us rs :=
  ⟨h.1, fun j r hr => by
    obtain ⟨u, h1, h2⟩ := h.2 j r hr
    exact ⟨u, h1, h2.kept hg (.inr (own_blk_ne h2 hb (Ne.symm hne)))⟩⟩
theorem OwnG.grownOwn {w w' : World} {B base e size n : Nat} {v : Value} {us xs : List Value} {rs : List (List Int)} (h : OwnG w B us rs) (hg : w.grownBy w' v.ownBlock) (ho : w.ownsRow base e size v n xs) (hne : e ≠ 3) : OwnG w' B us rs :=
  ⟨h.1, fun j r hr => by
    obtain ⟨u, h1, h2⟩ := h.2 j r hr
    exact ⟨u, h1, h2.kept hg (own_own h2 ho (Ne.symm hne))⟩⟩
theorem OwnG.keptLt {w w' : World} {B p : Nat} {us : List Value} {rs : List (List Int)} (h : OwnG w B us rs) (hg : w.grownBy w' (some p)) (hp : p < B) : OwnG w' B us rs :=
  ⟨h.1, fun j r hr => by
    obtain ⟨u, h1, h2⟩ := h.2 j r hr
    exact ⟨u, h1, h2.kept hg (.inr (fun e => by have := (h2.lt p e).1; omega))⟩⟩
theorem OwnG.snoc {w : World} {B n : Nat} {us : List Value} {rs : List (List Int)} {r : List Int} {u : Value} (h : OwnG w B us rs) (hb : w.ownsRow B 3 1 u n (r.map (.int .i64))) (hn : n = r.length) : OwnG w B (us ++ [u]) (rs ++ [r]) := by
  subst hn
  obtain ⟨h1, h2⟩ := h
  refine ⟨by simp [h1], fun j r' hj => ?_⟩
  by_cases hjl : j < rs.length
  · rw [List.getElem?_append_left hjl] at hj
    obtain ⟨u', k1, k2⟩ := h2 j r' hj
    exact ⟨u', by rw [List.getElem?_append_left (by omega)]; exact k1, k2⟩
  · rw [List.getElem?_append_right (by omega)] at hj
    have : j = rs.length := by
      have := (List.getElem?_eq_some_iff.1 hj).1
      simp at this; omega
    subst this
    simp at hj
    subst hj
    exact ⟨u, by rw [List.getElem?_append_right (by omega), h1]; simp, hb⟩
theorem OwnG.isRows {w : World} {B e : Nat} {v : Value} {us : List Value} {rs : List (List Int)} (h : OwnG w B us rs) (ho : w.ownsRow B e 1 v rs.length us) : IsRows w (fun b => B ≤ b) v rs := by
  obtain ⟨A, c, rfl, h1, h2, hA⟩ := own_arr ho
  refine ⟨A, c, us, rfl, h1, h2, hA.mono (fun b hb _ => hb.1), h.1, fun j r hr => ?_⟩
  obtain ⟨u, k1, k2⟩ := h.2 j r hr
  exact ⟨u, k1, (own_nums k2).mono (fun b' hb' _ => hb'.1)⟩
end Go.Proofs.Ytmdkmobcglnmgaa
