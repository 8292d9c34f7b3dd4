/- Expressions as plain trees (a number bounds how deep they are), and how they lie in memory. Conditions: none. -/
import Derived.Test.YtjcdcmeclnihbaaProg
import Derived.Test.YtjcdcmeclnihbaaBaseA
namespace Go.Proofs.Ytjcdcmeclnihbaa
open Go.RowKit

/-- Trees that are less than d deep: a kind, a class, the parts. -/
def Tr : Nat → Type
  | 0 => Empty
  | d + 1 => Int × Int × List (Tr d)
def Tr.kind {d : Nat} (t : Tr (d + 1)) : Int := t.1
def Tr.cls {d : Nat} (t : Tr (d + 1)) : Int := t.2.1
def Tr.kids {d : Nat} (t : Tr (d + 1)) : List (Tr d) := t.2.2

/-- Structs of three cells, one after another, each of which reads as R says. -/
def Row3 {T : Type} (R : Value → T → Prop) (w : World) (S : Nat → Prop) (A : Option Addr) (l : List T) : Prop :=
  ∀ (k : Nat) (t : T), l[k]? = some t → ∃ b o v0 v1 v2, A = some ⟨b, o, none⟩ ∧ S b ∧ b < w.heap.size ∧ w.cell? ⟨b, o + k * 3, none⟩ = some v0 ∧ w.cell? ⟨b, o + k * 3 + 1, none⟩ = some v1 ∧ w.cell? ⟨b, o + k * 3 + 2, none⟩ = some v2 ∧ R (.agg #[v0, v1, v2]) t

/-- A tree in memory: a struct of its kind, its class and its parts. -/
def IsTr (w : World) (S : Nat → Prop) : (d : Nat) → Value → Tr d → Prop
  | 0, _, _ => False
  | d + 1, v, t => ∃ A c, v = .agg #[.int .i64 (Tr.kind t), .int .i64 (Tr.cls t), .slice A (Tr.kids t).length c] ∧ (Tr.kids t).length ≤ c ∧ c ≤ maxLen ∧ Row3 (IsTr w S d) w S A (Tr.kids t)

section
variable {w w' : World} {S S' : Nat → Prop}
theorem Row3.imp {T : Type} {R R' : Value → T → Prop} {A : Option Addr} {l : List T} (h : Row3 R w S A l) (hk : ∀ b, S b → b < w.heap.size → w'.heap[b]? = w.heap[b]?)
    (hS : ∀ b, S b → b < w.heap.size → S' b) (hR : ∀ v t, t ∈ l → R v t → R' v t) : Row3 R' w' S' A l := fun k t ht => by
  obtain ⟨b, o, v0, v1, v2, e, hs, hlt, c0, c1, c2, hr⟩ := h k t ht
  have hh := hk b hs hlt
  have hlt' : b < w'.heap.size := by
    have h1 : w'.heap[b]? = some w.heap[b] := hh.trans (Array.getElem?_eq_getElem hlt)
    exact (Array.getElem?_eq_some_iff.1 h1).1
  exact ⟨b, o, v0, v1, v2, e, hS b hs hlt, hlt', (World.cell?_of_block (a := ⟨b, _, none⟩) hh).trans c0, (World.cell?_of_block (a := ⟨b, _, none⟩) hh).trans c1,
    (World.cell?_of_block (a := ⟨b, _, none⟩) hh).trans c2, hR _ t (List.mem_of_getElem? ht) hr⟩
theorem IsTr.imp (hk : ∀ b, S b → b < w.heap.size → w'.heap[b]? = w.heap[b]?) (hS : ∀ b, S b → b < w.heap.size → S' b) : ∀ (d : Nat) (v : Value) (t : Tr d), IsTr w S d v t → IsTr w' S' d v t := by
  intro d
  induction d with
  | zero => intro v t h; exact h
  | succ d ih =>
    intro v t h
    obtain ⟨A, c, e, h1, h2, h3⟩ := h
    exact ⟨A, c, e, h1, h2, h3.imp hk hS fun v t _ hr => ih v t hr⟩
theorem IsTr.keep {d : Nat} {v : Value} {t : Tr d} (h : IsTr w S d v t) (hk : ∀ b, S b → b < w.heap.size → w'.heap[b]? = w.heap[b]?) : IsTr w' S d v t := IsTr.imp hk (fun _ h _ => h) d v t h
theorem IsTr.mono {d : Nat} {v : Value} {t : Tr d} (h : IsTr w S d v t) (hS : ∀ b, S b → b < w.heap.size → S' b) : IsTr w S' d v t := IsTr.imp (fun _ _ _ => rfl) hS d v t h
theorem IsTr.below {d : Nat} {v : Value} {t : Tr d} (h : IsTr w S d v t) (hb : Below w.heap.size w w') : IsTr w' S d v t := h.keep fun b _ hlt => hb.block b hlt
theorem Row3.keep {d : Nat} {A : Option Addr} {l : List (Tr d)} (h : Row3 (IsTr w S d) w S A l) (hk : ∀ b, S b → b < w.heap.size → w'.heap[b]? = w.heap[b]?) : Row3 (IsTr w' S d) w' S A l :=
  h.imp hk (fun _ h _ => h) fun _ _ _ hr => hr.keep hk
theorem Row3.below {d : Nat} {A : Option Addr} {l : List (Tr d)} (h : Row3 (IsTr w S d) w S A l) (hb : Below w.heap.size w w') : Row3 (IsTr w' S d) w' S A l := h.keep fun b _ hlt => hb.block b hlt
/-- A tree opened. -/
theorem IsTr.open {d : Nat} {v : Value} {t : Tr (d + 1)} (h : IsTr w S (d + 1) v t) : ∃ A c, v = .agg #[.int .i64 (Tr.kind t), .int .i64 (Tr.cls t), .slice A (Tr.kids t).length c] ∧ (Tr.kids t).length ≤ 9223372036854775807 ∧ Row3 (IsTr w S d) w S A (Tr.kids t) := by
  obtain ⟨A, c, e, h1, h2, h3⟩ := h
  exact ⟨A, c, e, by unfold maxLen at h2; omega, h3⟩
/-- What a tree's three cells are. -/
theorem IsTr.cells {d : Nat} {v0 v1 v2 : Value} {t : Tr d} (h : IsTr w S d (.agg #[v0, v1, v2]) t) : ∃ k c A n cp, v0 = .int .i64 k ∧ v1 = .int .i64 c ∧ v2 = .slice A n cp := by
  cases d with
  | zero => exact h.elim
  | succ d =>
    obtain ⟨A, c, e, _⟩ := h
    injection e with e
    simp only [Array.mk.injEq, List.cons.injEq, and_true] at e
    exact ⟨_, _, _, _, _, e.1, e.2.1, e.2.2⟩
/-- A part: its cells, and what they read as. -/
theorem Row3.at {d : Nat} {A : Option Addr} {l : List (Tr d)} (h : Row3 (IsTr w S d) w S A l) {k : Nat} {t : Tr d} (hk : l[k]? = some t) :
    ∃ b o v0 v1 v2, A = some ⟨b, o, none⟩ ∧ S b ∧ b < w.heap.size ∧ w.cell? ⟨b, o + k * 3, none⟩ = some v0 ∧ w.cell? ⟨b, o + k * 3 + 1, none⟩ = some v1 ∧ w.cell? ⟨b, o + k * 3 + 2, none⟩ = some v2 ∧ IsTr w S d (.agg #[v0, v1, v2]) t := h k t hk
end
end Go.Proofs.Ytjcdcmeclnihbaa
