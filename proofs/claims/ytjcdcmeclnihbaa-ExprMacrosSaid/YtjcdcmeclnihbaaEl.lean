/- As many parts as one likes: the program's loop, given what ends does of the part. Conditions: a tree that fits; at most a thousand marks. -/
import Derived.Test.YtjcdcmeclnihbaaEn
import Derived.Test.YtjcdcmeclnihbaaTo
namespace Go.Proofs.Ytjcdcmeclnihbaa
open Go.RowKit
def EndsAns (S : Nat → Prop) (w : World) (res : List Bool) (e : Ending) (w' : World) : Prop := ∃ v', e = .returned v' ∧ IsBools w' (fun b => S b ∨ w.heap.size ≤ b) v' res ∧ Below w.heap.size w w'
def EndsIH (d : Nat) : Prop := ∀ (S : Nat → Prop) (v : Value) (t : Tr d) (on : Bool) (mv fv : Value) (marks : List Int) (frm : List Bool) (w : World), IsTr w Any d v t → fitsT d on t = true → IsNums .i64 w Any mv marks → IsBools w S fv frm →
  frm.length = marks.length + 1 → marks.length ≤ 1000 → Calls Try.prog 50 #[v, mv, fv] w (EndsAns S w (endsT d t marks frm))
def fallsAt (w : World) (g : Nat) : Nat := match w.heap[g]? with
  | some (.cells cs _ _) => (cs.toList.filter (fun v => match v with | .bool false => true | _ => false)).length
  | _ => 0
theorem fallsAt_blk {w : World} {g : Nat} {l : List Bool} (h : BoolBlk w g l) : fallsAt w g = falses l := by
  unfold fallsAt
  rw [h]
  clear h
  simp only [falses]
  induction l with
  | nil => rfl
  | cons x r ih => cases x <;> simp_all
theorem uni_same {a b : List Bool} (h : b.length = a.length) (hm : moreB a b = false) : uni a b = a := by
  refine nthB_ext (uni_len h) fun k hk => ?_
  rw [uni_len h] at hk
  rw [nthB_uni h hk]
  simp only [moreB, moreFrom, List.any_eq_false, List.mem_range, Bool.and_eq_true, Bool.not_eq_true', not_and] at hm
  cases hb : nthB b k with
  | false => simp
  | true =>
    cases ha : nthB a k with
    | true => simp
    | false => exact absurd ha (hm k (by omega) hb)
theorem Row3.head {d : Nat} {w : World} {S : Nat → Prop} {A : Option Addr} {x : Tr d} {l : List (Tr d)} (h : Row3 (IsTr w S d) w S A (x :: l)) : ∃ b o k0 k1 A2 n2 p2, A = some ⟨b, o, none⟩ ∧ b < w.heap.size ∧
    w.cell? ⟨b, o, none⟩ = some (.int .i64 k0) ∧ w.cell? ⟨b, o + 1, none⟩ = some (.int .i64 k1) ∧ w.cell? ⟨b, o + 2, none⟩ = some (.slice A2 n2 p2) ∧ IsTr w S d (.agg #[.int .i64 k0, .int .i64 k1, .slice A2 n2 p2]) x := by
  obtain ⟨b, o, v0, v1, v2, e, _, hlt, c0, c1, c2, ht⟩ := h.at (k := 0) (t := x) rfl
  obtain ⟨k0, k1, A2, n2, p2, rfl, rfl, rfl⟩ := ht.cells
  rw [Nat.zero_mul, Nat.add_zero] at c0 c1 c2
  exact ⟨b, o, k0, k1, A2, n2, p2, e, hlt, c0, c1, c2, ht⟩
theorem alloc2 {w W : World} {o1 o2 : Obj} (h : W = (w.alloc o1).alloc o2) : W.heap[w.heap.size]? = some o1 ∧ W.heap[w.heap.size + 1]? = some o2 ∧ W.heap.size = w.heap.size + 2 ∧ Below w.heap.size w W := by
  have s1 : (w.alloc o1).heap.size = w.heap.size + 1 := by simp
  subst h
  refine ⟨?_, ?_, by simp, ((Below.refl _ _).alloc (Nat.le_refl _) _).alloc (by simp) _⟩
  · rw [heap_alloc_old _ _ (by rw [s1]; omega)]; exact heap_alloc_new _ _
  · rw [← s1]; exact heap_alloc_new _ _
end Go.Proofs.Ytjcdcmeclnihbaa
