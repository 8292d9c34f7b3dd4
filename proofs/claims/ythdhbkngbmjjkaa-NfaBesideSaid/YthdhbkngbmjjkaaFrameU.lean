/- The frame's words: two lists of expressions, of one bound. Conditions: none. -/
import Derived.Test.YthdhbkngbmjjkaaFrameT
namespace Go.Proofs.Ythdhbkngbmjjkaa
section
variable {w : World} {S : Nat → Prop} {A B : Option Addr}
theorem row_lift {d : Nat} {l : List (Tr d)} (h : Row3 (IsTr w S d) w S A l) : Row3 (IsTr w S (d + 1)) w S A (l.map (liftT d)) := fun k t ht => by
  rw [List.getElem?_map] at ht
  obtain ⟨x, hx, rfl⟩ := Option.map_eq_some_iff.1 ht
  obtain ⟨b, o, v0, v1, v2, ea, hs, hlt, c0, c1, c2, hr⟩ := h k x hx
  exact ⟨b, o, v0, v1, v2, ea, hs, hlt, c0, c1, c2, hr.lift⟩
theorem row_lifts {d : Nat} {l : List (Tr d)} (h : Row3 (IsTr w S d) w S A l) : ∀ k, ∃ l' : List (Tr (d + k)), l'.length = l.length ∧ Row3 (IsTr w S (d + k)) w S A l'
  | 0 => ⟨l, rfl, h⟩
  | k + 1 => by
    obtain ⟨l', e, h'⟩ := row_lifts h k
    exact ⟨l'.map (liftT _), by rw [List.length_map, e], row_lift h'⟩
theorem rows_same {d1 d2 : Nat} {l : List (Tr d1)} {m : List (Tr d2)} (h1 : Row3 (IsTr w S d1) w S A l) (h2 : Row3 (IsTr w S d2) w S B m) :
    ∃ (d : Nat) (l' m' : List (Tr d)), l.length = l'.length ∧ m.length = m'.length ∧ Row3 (IsTr w S d) w S A l' ∧ Row3 (IsTr w S d) w S B m' := by
  obtain ⟨l', e1, h1'⟩ := row_lifts h1 d2
  have h3 := row_lifts h2 d1
  rw [Nat.add_comm d2 d1] at h3
  obtain ⟨m', e2, h2'⟩ := h3
  exact ⟨_, l', m', e1.symm, e2.symm, h1', h2'⟩
end
end Go.Proofs.Ythdhbkngbmjjkaa
