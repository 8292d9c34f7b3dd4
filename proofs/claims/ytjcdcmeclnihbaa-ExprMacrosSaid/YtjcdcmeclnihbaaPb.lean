/- The library's Backward over a slice of macros, as an iterator. Conditions: macros in memory. -/
import Derived.RangeFuncNested
import Derived.RangeFuncBound
import Derived.RangeFuncCalls
import Derived.RangeFuncLeaves
import Derived.Shelf.Abstract
import Derived.Shelf.RegionOpen
import Derived.WalkKit
import Derived.OwnWalkIn
import Derived.TacticsInMore
import Derived.LoopNIn
import Derived.LoopIn
import Derived.Test.YtjcdcmeclnihbaaPg
namespace Go.Proofs.Ytjcdcmeclnihbaa
open Go.RowKit Go.Shelf
attribute [local go_sem] Oper.semAt_some
set_option linter.unusedSimpArgs false
/-- The first k numbers from n - 1 down. -/
def back (n k : Nat) : List Nat := (List.range k).map fun j => n - 1 - j
theorem back_succ (n k : Nat) : back n (k + 1) = back n k ++ [n - 1 - k] := by simp [back, List.range_succ]
theorem back_len (n k : Nat) : (back n k).length = k := by simp [back]
/-- A slice of macros in memory: each is four cells, in a block below n0. -/
def MacCells (n0 : Nat) (w : World) (A : Option Addr) (n : Nat) (m0 m1 m2 m3 : Nat → Value) : Prop :=
  ∀ k, k < n → ∃ b o, A = some ⟨b, o, none⟩ ∧ b < n0 ∧ w.cell? ⟨b, o + k * 4, none⟩ = some (m0 k) ∧ w.cell? ⟨b, o + k * 4 + 1, none⟩ = some (m1 k) ∧ w.cell? ⟨b, o + k * 4 + 2, none⟩ = some (m2 k) ∧ w.cell? ⟨b, o + k * 4 + 3, none⟩ = some (m3 k)
theorem MacCells.below {n0 n : Nat} {w w' : World} {A : Option Addr} {m0 m1 m2 m3 : Nat → Value} (h : MacCells n0 w A n m0 m1 m2 m3) (hb : Below n0 w w') : MacCells n0 w' A n m0 m1 m2 m3 := fun k hk => by
  obtain ⟨b, o, e, hlt, c0, c1, c2, c3⟩ := h k hk
  exact ⟨b, o, e, hlt, (hb.cell (p := ⟨b, o + k * 4, none⟩) hlt).trans c0, (hb.cell (p := ⟨b, o + k * 4 + 1, none⟩) hlt).trans c1, (hb.cell (p := ⟨b, o + k * 4 + 2, none⟩) hlt).trans c2, (hb.cell (p := ⟨b, o + k * 4 + 3, none⟩) hlt).trans c3⟩
set_option maxRecDepth 100000 in
set_option maxHeartbeats 2000000 in
theorem back1_in (F : Fence) (n : Nat) (h117 : F.fn 117) (hro : F.round = none) (hn : 1 ≤ n) (l Bs n0 : Nat) (A : Option Addr) (len cap : Nat) (m0 m1 m2 m3 : Nat → Value) (hreach : len ≤ 1000000) (J Jx : List Nat → World → Prop)
    (hY : ∀ pre (x : Nat) W, J pre W → pre.length < len → YieldAt F (n - 1) Try.prog l #[.int .i64 (x : Int), .agg #[m0 x, m1 x, m2 x, m3 x]] W fun e W' =>
      (e = .returned (.bool true) ∧ J (pre ++ [x]) W' ∧ Below n0 W W') ∨ (e = .returned (.bool false) ∧ Jx (pre ++ [x]) W'))
    (W : World) (hBs : W.cell? ⟨Bs, 0, none⟩ = some (.slice A len cap)) (hBn : Bs < n0) (hc : MacCells n0 W A len m0 m1 m2 m3) (h0 : J [] W) :
    CallsIn F n Try.prog 117 #[.func (.yield l) #[] #[], .pointer (some ⟨Bs, 0, none⟩)] W fun e W' => (∃ v, e = .returned v) ∧
      ((∃ ys, ys = back len len ∧ J ys W') ∨ (∃ pre, (∃ k, k ≤ len ∧ pre = back len k) ∧ Jx pre W')) := by
  refine callsIn_of_wp Try.func117 rfl h117 ?_ hro
  simp only [Try.ntmps117, List.size_toArray, List.length_cons, List.length_nil, Nat.reduceAdd, Nat.reduceSub, Array.replicate_succ, Array.replicate_zero, List.push_toArray, List.append_toArray, List.nil_append, List.cons_append]
  gi_wp2
  gi_loopw [3] (fun i wr => ∃ k : Nat, k ≤ len ∧ i = .int .i64 ((len : Int) - 1 - k) ∧ J (back len k) wr ∧ Below n0 W wr) (fun i _ => (intOf i + 1).toNat)
  case atStart => exact ⟨0, Nat.zero_le _, by simp, h0, Below.refl _ _⟩
  case round =>
    obtain ⟨k, hk, rfl, hJs, hnx⟩ := hrel
    have hBx := (hnx.cell (p := ⟨Bs, 0, none⟩) hBn).trans hBs
    by_cases hlt : k < len
    · obtain ⟨i, hi⟩ : ∃ i : Nat, (len : Int) - 1 - k = (i : Int) := ⟨len - 1 - k, by omega⟩
      have hi2 : i = len - 1 - k := by omega
      obtain ⟨b, o, rfl, hb, c0, c1, c2, c3⟩ := (hc.below hnx) i (by omega)
      obtain ⟨fn, tmps, assign, body, hy, hR⟩ := hY _ i wr hJs (by rw [back_len]; exact hlt)
      have hil : (i : Int) < (len : Int) := by omega
      rw [hi]
      have HI := hid hi
      have HI2 := hid hi2
      clear hi hi2
      gi_wp2
      refine hR.mono ?_
      rintro e W3 (⟨rfl, hJ3, hk3⟩ | ⟨rfl, hJx3⟩)
      · gi_wp2
        go_roundw
        case rel => exact ⟨k + 1, by omega, by rw [← HI.out]; congr 1; omega, by rw [back_succ, ← HI2.out]; exact hJ3, hnx.trans hk3⟩
        case measure => simp [intOf]
      · gi_wp2
        refine bodyPost_ret (results_none rfl _ _ _) rfl ?_
        exact ⟨⟨_, rfl⟩, .inr ⟨_, ⟨k + 1, by omega, rfl⟩, by rw [back_succ, ← HI2.out]; exact hJx3⟩⟩
    · obtain rfl : k = len := by omega
      have he : ((k : Int) - 1 - k) = -1 := by omega
      rw [he]
      gi_wp2
      go_end0
      exact ⟨⟨_, rfl⟩, .inl ⟨_, rfl, hJs⟩⟩
set_option maxRecDepth 100000 in
set_option maxHeartbeats 1000000 in
/-- slices.Backward(s): the slice is boxed; the function captures the box. -/
theorem backward_in (F : Fence) (n : Nat) (h114 : F.fn 114) (hro : F.round = none) (a : Option Addr) (len cap : Nat) (w : World) :
    CallsIn F n Try.prog 114 #[.slice a len cap] w fun e w' => e = .returned (.func (.func 117) #[] #[.pointer (some ⟨w.heap.size, 0, none⟩)]) ∧ w' = w.alloc (.cells #[.slice a len cap] 85) := by
  refine callsIn_of_wp Try.func114 rfl h114 ?_ hro
  simp only [Try.ntmps114, List.size_toArray, List.length_cons, List.length_nil, Nat.reduceAdd, Nat.reduceSub, Array.replicate_succ, Array.replicate_zero, List.push_toArray, List.append_toArray, List.nil_append, List.cons_append]
  gi_wp2
  go_ret
  exact ⟨rfl, rfl⟩
theorem backward_stops (F : Fence) (n : Nat) (h117 : F.fn 117) (hro : F.round = none) (hn : 1 ≤ n) (Bs n0 : Nat) (A : Option Addr) (len cap : Nat) (m0 m1 m2 m3 : Nat → Value) (hreach : len ≤ 1000000) (w : World) (hBs : Bs < n0) (hn0 : n0 ≤ w.heap.size)
    (hb : w.cell? ⟨Bs, 0, none⟩ = some (.slice A len cap)) (hc : MacCells n0 w A len m0 m1 m2 m3) :
    SeqStopsK F n Try.prog 117 #[.pointer (some ⟨Bs, 0, none⟩)] (fun x : Nat => #[Value.int .i64 (x : Int), Value.agg #[m0 x, m1 x, m2 x, m3 x]]) (Below n0) (fun ys => ys = back len len) (fun pre => ∃ k, k ≤ len ∧ pre = back len k) len w := fun l J Jx W hW _ _ hY h0 =>
  back1_in F n h117 hro hn l Bs n0 A len cap m0 m1 m2 m3 hreach J Jx hY W ((hW.cell (p := ⟨Bs, 0, none⟩) (by show Bs < w.heap.size; omega)).trans hb) hBs (hc.below (hW.mono hn0)) h0
end Go.Proofs.Ytjcdcmeclnihbaa
