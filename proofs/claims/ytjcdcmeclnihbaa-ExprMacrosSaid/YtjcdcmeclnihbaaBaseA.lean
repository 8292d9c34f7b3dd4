/- Words of this family: slices that read as lists, by the blocks on which they hang. No conditions. -/
import Derived.WalkKit
import Derived.WalkSpells
import Derived.WalkLawsBesides
import Derived.Deep.QuietTactic
import Derived.BigQuiet
import Derived.Deep.LoopGhost
import Derived.Deep.Draws
import Derived.Laws.OwnMore
namespace Go.Proofs.Ytjcdcmeclnihbaa
open Go.RowKit

theorem hid {p : Prop} (h : p) : Hid p := h

/-- The k-th number of a list. -/
def nth (zs : List Int) (k : Nat) : Int := zs[k]?.getD 0

theorem nth_some {zs : List Int} {k : Nat} {z : Int} (h : zs[k]? = some z) : nth zs k = z := by simp [nth, h]
theorem some_nth {zs : List Int} {k : Nat} (h : k < zs.length) : zs[k]? = some (nth zs k) := by
  simp [nth, List.getElem?_eq_getElem h]
theorem nth_mem {zs : List Int} {k : Nat} (h : k < zs.length) : nth zs k ∈ zs := List.mem_of_getElem? (some_nth h)
theorem take_nth {zs : List Int} {k : Nat} (h : k < zs.length) : zs.take (k + 1) = zs.take k ++ [nth zs k] := by
  rw [List.take_add_one, some_nth h]; rfl
theorem drop_nth {zs : List Int} {k : Nat} (h : k < zs.length) : zs.drop k = nth zs k :: zs.drop (k + 1) := by
  rw [List.drop_eq_getElem_cons h]; simp [nth, List.getElem?_eq_getElem h]
theorem nth_ext {xs ys : List Int} (hl : xs.length = ys.length) (h : ∀ k, k < xs.length → nth xs k = nth ys k) : xs = ys := by
  apply List.ext_getElem? 
  intro k
  by_cases hk : k < xs.length
  · rw [some_nth hk, some_nth (by omega), h k hk]
  · rw [List.getElem?_eq_none (by omega), List.getElem?_eq_none (by omega)]

/-- The cells xs lie from address A on, in a block of S. -/
def Arr (w : World) (S : Nat → Prop) (A : Option Addr) (xs : List Value) : Prop :=
  0 < xs.length → ∃ b o, A = some ⟨b, o, none⟩ ∧ S b ∧ ∀ k v, xs[k]? = some v → w.cell? ⟨b, o + k, none⟩ = some v

section
variable {w w' : World} {S S' : Nat → Prop} {A : Option Addr} {xs : List Value}
theorem Arr.nil : Arr w S A [] := fun h => absurd h (by simp)
theorem Arr.at (h : Arr w S A xs) {k : Nat} {v : Value} (hk : xs[k]? = some v) : ∃ b o, A = some ⟨b, o, none⟩ ∧ S b ∧ b < w.heap.size ∧ w.cell? ⟨b, o + k, none⟩ = some v := by
  obtain ⟨b, o, e, hs, hc⟩ := h (by have := (List.getElem?_eq_some_iff.1 hk).1; omega)
  exact ⟨b, o, e, hs, block_lt_of_cell (hc k v hk), hc k v hk⟩
theorem Arr.keep (h : Arr w S A xs) (hk : ∀ b, S b → b < w.heap.size → w'.heap[b]? = w.heap[b]?) : Arr w' S A xs := fun hn => by
  obtain ⟨b, o, e, hs, hc⟩ := h hn
  have hlt : b < w.heap.size := by
    have := hc 0 xs[0] (List.getElem?_eq_getElem hn)
    exact block_lt_of_cell this
  exact ⟨b, o, e, hs, fun k v hv => (World.cell?_of_block (a := ⟨b, o + k, none⟩) (hk b hs hlt)).trans (hc k v hv)⟩
theorem Arr.mono (h : Arr w S A xs) (hS : ∀ b, S b → b < w.heap.size → S' b) : Arr w S' A xs := fun hn => by
  obtain ⟨b, o, e, hs, hc⟩ := h hn
  have hlt : b < w.heap.size := by
    have := hc 0 xs[0] (List.getElem?_eq_getElem hn)
    exact block_lt_of_cell this
  exact ⟨b, o, e, hS b hs hlt, hc⟩
theorem Arr.below (h : Arr w S A xs) (hb : Below w.heap.size w w') : Arr w' S A xs := h.keep fun b _ hlt => hb.block b hlt
end

/-- A slice of integers of a kind. -/
def IsNums (k : IntKind) (w : World) (S : Nat → Prop) (v : Value) (zs : List Int) : Prop :=
  ∃ A c, v = .slice A zs.length c ∧ zs.length ≤ c ∧ c ≤ maxLen ∧ Arr w S A (zs.map (.int k))
/-- A slice of slices of ints. -/
def IsRows (w : World) (S : Nat → Prop) (v : Value) (rs : List (List Int)) : Prop :=
  ∃ A c vs, v = .slice A rs.length c ∧ rs.length ≤ c ∧ c ≤ maxLen ∧ Arr w S A vs ∧ vs.length = rs.length ∧ ∀ (k : Nat) (r : List Int), rs[k]? = some r → ∃ u, vs[k]? = some u ∧ IsNums .i64 w S u r

section
variable {k : IntKind} {w w' : World} {S S' : Nat → Prop} {v : Value} {zs : List Int} {rs : List (List Int)}
theorem IsNums.keep (h : IsNums k w S v zs) (hk : ∀ b, S b → b < w.heap.size → w'.heap[b]? = w.heap[b]?) : IsNums k w' S v zs := by
  obtain ⟨A, c, e, h1, h2, h3⟩ := h
  exact ⟨A, c, e, h1, h2, h3.keep hk⟩
theorem IsNums.mono (h : IsNums k w S v zs) (hS : ∀ b, S b → b < w.heap.size → S' b) : IsNums k w S' v zs := by
  obtain ⟨A, c, e, h1, h2, h3⟩ := h
  exact ⟨A, c, e, h1, h2, h3.mono hS⟩
theorem IsNums.below (h : IsNums k w S v zs) (hb : Below w.heap.size w w') : IsNums k w' S v zs := h.keep fun b _ hlt => hb.block b hlt
theorem IsRows.keep (h : IsRows w S v rs) (hk : ∀ b, S b → b < w.heap.size → w'.heap[b]? = w.heap[b]?) : IsRows w' S v rs := by
  obtain ⟨A, c, vs, e, h1, h2, h3, h4, h5⟩ := h
  exact ⟨A, c, vs, e, h1, h2, h3.keep hk, h4, fun j r hr => by obtain ⟨u, hu, hn⟩ := h5 j r hr; exact ⟨u, hu, hn.keep hk⟩⟩
theorem IsRows.mono (h : IsRows w S v rs) (hS : ∀ b, S b → b < w.heap.size → S' b) : IsRows w S' v rs := by
  obtain ⟨A, c, vs, e, h1, h2, h3, h4, h5⟩ := h
  exact ⟨A, c, vs, e, h1, h2, h3.mono hS, h4, fun j r hr => by obtain ⟨u, hu, hn⟩ := h5 j r hr; exact ⟨u, hu, hn.mono hS⟩⟩
theorem IsRows.below (h : IsRows w S v rs) (hb : Below w.heap.size w w') : IsRows w' S v rs := h.keep fun b _ hlt => hb.block b hlt
theorem IsNums.form (h : IsNums k w S v zs) : ∃ A c, v = .slice A zs.length c := by
  obtain ⟨A, c, e, _⟩ := h
  exact ⟨A, c, e⟩
theorem IsRows.form (h : IsRows w S v rs) : ∃ A c, v = .slice A rs.length c := by
  obtain ⟨A, c, vs, e, _⟩ := h
  exact ⟨A, c, e⟩
theorem IsNums.drewN (h : IsNums k w S v zs) (n : Nat) : IsNums k (w.drewN n) S v zs := h
theorem IsRows.drewN (h : IsRows w S v rs) (n : Nat) : IsRows (w.drewN n) S v rs := h
theorem IsNums.at (h : IsNums k w S v zs) {j : Nat} (hj : j < zs.length) : ∃ b o c, v = .slice (some ⟨b, o, none⟩) zs.length c ∧ S b ∧ b < w.heap.size ∧ w.cell? ⟨b, o + j, none⟩ = some (.int k (nth zs j)) := by
  obtain ⟨A, c, rfl, h1, h2, h3⟩ := h
  obtain ⟨b, o, rfl, hs, hlt, hc⟩ := h3.at (k := j) (v := .int k (nth zs j)) (by simp [some_nth hj])
  exact ⟨b, o, c, rfl, hs, hlt, hc⟩
theorem Arr.num {A : Option Addr} (h : Arr w S A (zs.map (.int k))) {j : Nat} (hj : j < zs.length) : ∃ b o, A = some ⟨b, o, none⟩ ∧ S b ∧ b < w.heap.size ∧ w.cell? ⟨b, o + j, none⟩ = some (.int k (nth zs j)) :=
  h.at (k := j) (v := .int k (nth zs j)) (by simp [some_nth hj])
theorem IsNums.le (h : IsNums k w S v zs) : zs.length ≤ 9223372036854775807 := by
  obtain ⟨A, c, e, h1, h2, _⟩ := h
  unfold maxLen at h2; omega
theorem IsRows.le (h : IsRows w S v rs) : rs.length ≤ 9223372036854775807 := by
  obtain ⟨A, c, vs, e, h1, h2, _⟩ := h
  unfold maxLen at h2; omega
end

/-- Whatever lies in memory. -/
def Any : Nat → Prop := fun _ => True

theorem below_drewN {B : Nat} {a w : World} (h : Below B a w) (n : Nat) : Below B a (w.drewN n) := ⟨h.os, h.tape, h.output, h.size, h.block⟩
theorem below_drewN' (w : World) (n B : Nat) : Below B w (w.drewN n) := below_drewN (Below.refl _ _) n
theorem ret_int {k : IntKind} {a b : Int} (h : a = b) : Ending.returned (.int k a) = .returned (.int k b) := by rw [h]
theorem ret_bool {a b : Bool} (h : a = b) : Ending.returned (.bool a) = .returned (.bool b) := by rw [h]

theorem ieq_true {a b : Int} (h : a = b) : (a == b) = true := by simpa using h
theorem ieq_false {a b : Int} (h : a ≠ b) : (a == b) = false := by simpa using h
theorem ine_true {a b : Int} (h : a ≠ b) : (a != b) = true := by simpa using h
theorem ine_false {a b : Int} (h : a = b) : (a != b) = false := by simpa using h
/-- A table, as plain data. -/
structure D where
  next : List (List Int)
  tells : List Int
/-- A table in memory: a struct of its rows, and of what is told. -/
def IsD (w : World) (S : Nat → Prop) (v : Value) (d : D) : Prop := ∃ nv tv, v = .agg #[nv, tv] ∧ IsRows w S nv d.next ∧ IsNums .u64 w S tv d.tells
section
variable {w w' : World} {S S' : Nat → Prop} {v : Value} {d : D} {rs : List (List Int)}
theorem IsD.keep (h : IsD w S v d) (hk : ∀ b, S b → b < w.heap.size → w'.heap[b]? = w.heap[b]?) : IsD w' S v d := by
  obtain ⟨nv, tv, e, h1, h2⟩ := h
  exact ⟨nv, tv, e, h1.keep hk, h2.keep hk⟩
theorem IsD.mono (h : IsD w S v d) (hS : ∀ b, S b → b < w.heap.size → S' b) : IsD w S' v d := by
  obtain ⟨nv, tv, e, h1, h2⟩ := h
  exact ⟨nv, tv, e, h1.mono hS, h2.mono hS⟩
theorem IsD.below (h : IsD w S v d) (hb : Below w.heap.size w w') : IsD w' S v d := h.keep fun b _ hlt => hb.block b hlt
/-- The k-th row. -/
def row (rs : List (List Int)) (k : Nat) : List Int := rs[k]?.getD []
theorem some_row {k : Nat} (h : k < rs.length) : rs[k]? = some (row rs k) := by simp [row, List.getElem?_eq_getElem h]
theorem row_mem {k : Nat} (h : k < rs.length) : row rs k ∈ rs := List.mem_of_getElem? (some_row h)
theorem row_some {k : Nat} {r : List Int} (h : rs[k]? = some r) : row rs k = r := by simp [row, h]
theorem take_row {k : Nat} (h : k < rs.length) : rs.take (k + 1) = rs.take k ++ [row rs k] := by
  rw [List.take_add_one, some_row h]; rfl
/-- The rows in their cells. -/
def Rws (w : World) (S : Nat → Prop) (vs : List Value) (rs : List (List Int)) : Prop :=
  vs.length = rs.length ∧ ∀ (k : Nat) (r : List Int), rs[k]? = some r → ∃ u, vs[k]? = some u ∧ IsNums .i64 w S u r
theorem IsRows.open (h : IsRows w S v rs) : ∃ A c vs, v = .slice A rs.length c ∧ rs.length ≤ 9223372036854775807 ∧ Arr w S A vs ∧ Rws w S vs rs := by
  have hl := h.le
  obtain ⟨A, c, vs, e, h1, h2, h3, h4, h5⟩ := h
  exact ⟨A, c, vs, e, hl, h3, h4, h5⟩
/-- The k-th row's cell, and the row. -/
theorem Rws.at {vs : List Value} {A : Option Addr} (h : Rws w S vs rs) (hA : Arr w S A vs) {k : Nat} (hk : k < rs.length) :
    ∃ b o A' c', A = some ⟨b, o, none⟩ ∧ S b ∧ b < w.heap.size ∧ w.cell? ⟨b, o + k, none⟩ = some (.slice A' (row rs k).length c') ∧
      (row rs k).length ≤ 9223372036854775807 ∧ (row rs k).length ≤ c' ∧ c' ≤ maxLen ∧ Arr w S A' ((row rs k).map (.int .i64)) := by
  obtain ⟨u, hu, hn⟩ := h.2 k _ (some_row hk)
  obtain ⟨b, o, e, hs, hlt, hc⟩ := hA.at hu
  have hle := hn.le
  obtain ⟨A', c', rfl, h1, h2, h3⟩ := hn
  exact ⟨b, o, A', c', e, hs, hlt, hc, hle, h1, h2, h3⟩
end

end Go.Proofs.Ytjcdcmeclnihbaa
