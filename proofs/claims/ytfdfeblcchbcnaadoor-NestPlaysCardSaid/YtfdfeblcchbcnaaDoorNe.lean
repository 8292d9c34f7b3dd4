/- The counts of a nest: what add makes of them. Conditions: counts within what they may be. -/
import Derived.Test.YtfdfeblcchbcnaaDoorEl
import Derived.RegionTactic
import Derived.BigRegion
import Derived.Deep.RegionHeld3
namespace Go.Proofs.YtfdfeblcchbcnaaDoor
open Go.RowKit

/-- Three counts. -/
structure NS where
  h : Int
  p : Int
  n : Int
def okN (s : NS) : Prop := (0 ≤ s.h ∧ s.h ≤ 255) ∧ (0 ≤ s.p ∧ s.p ≤ 255) ∧ (0 ≤ s.n ∧ s.n ≤ 255)
def IsNest (w : World) (g : Nat) (s : NS) : Prop := w.heap[g]? = some (.cells #[.int .i64 s.h, .int .i64 s.p, .int .i64 s.n] 56 (0, 0))
def turnV (c by' : Int) : Int := min (max (c + by') 0) 255
def bitB (v : Nat) (m : Nat) : Bool := v &&& m != 0
def turnI (c : Int) (on : Bool) (by' : Int) : Int := if on then turnV c by' else c
def addK (s : NS) (v : Nat) (by' : Int) : Nat → NS
  | 0 => s
  | 1 => ⟨turnI s.h (bitB v 4) by', s.p, s.n⟩
  | 2 => ⟨turnI s.h (bitB v 4) by', turnI s.p (bitB v 8 && s.h == 0) by', s.n⟩
  | _ => ⟨turnI s.h (bitB v 4) by', turnI s.p (bitB v 8 && s.h == 0) by', turnI s.n (bitB v 16 && s.h == 0) by'⟩
def addS (s : NS) (v : Nat) (by' : Int) : NS := addK s v by' 3
theorem turnV_ok {c : Int} (by' : Int) : 0 ≤ turnV c by' ∧ turnV c by' ≤ 255 := by unfold turnV; omega
theorem turnI_ok {c : Int} (on : Bool) (by' : Int) (h : 0 ≤ c ∧ c ≤ 255) : 0 ≤ turnI c on by' ∧ turnI c on by' ≤ 255 := by
  unfold turnI; split
  · exact turnV_ok by'
  · exact h
theorem addS_ok {s : NS} (v : Nat) (by' : Int) (h : okN s) : okN (addS s v by') := ⟨turnI_ok _ _ h.1, turnI_ok _ _ h.2.1, turnI_ok _ _ h.2.2⟩

set_option maxHeartbeats 400000 in
theorem bits_any (w : World) : Calls Tryd.prog 36 #[] w fun e w' => e = .returned (.agg #[.int .i64 4, .int .i64 8, .int .i64 16]) ∧ w.alloc (.cells #[.int .i64 4, .int .i64 8, .int .i64 16] 52) = w' := by
  go_enter Tryd.func36, Tryd.ntmps36
  go_wp2
  exact bodyPost_ret (v := .agg #[.int .i64 4, .int .i64 8, .int .i64 16]) (by simp [results, Tryd.results36, go_sem]) rfl ⟨rfl, rfl⟩

theorem grown_drew {a w : World} {r : Option Nat} (h : a.grownBy w r) : a.grownBy w.drew r := ⟨h.os, h.tape, h.output, h.size, h.block⟩
theorem bit_test (v M : Nat) (hv : v < 128) (hM : M < 128) : (bits .and .i64 (v : Int) (M : Int) != 0) = bitB v M := by
  rw [and_i64 v M hv hM]
  unfold bitB
  by_cases h : v &&& M = 0
  · rw [h]; rfl
  · have h1 : (v &&& M != 0) = true := by simpa using h
    have h2 : (((v &&& M : Nat) : Int) != 0) = true := by simpa using h
    rw [h1, h2]
/-- The cell of a count, turned or not. -/
def AddAns (g : Nat) (w : World) (s : NS) (e : Ending) (w' : World) : Prop := e = .returned (.tuple #[]) ∧ IsNest w' g s ∧ w.grownBy w' (some g)
set_option maxRecDepth 100000 in
set_option maxHeartbeats 2000000 in
theorem add_any (g : Nat) (s : NS) (v : Nat) (by' : Int) (w : World) (hs : IsNest w g s) (ho : okN s) (hv : v < 128) (hb : -1 ≤ by' ∧ by' ≤ 1) :
    Calls Tryd.prog 31 #[.pointer (some ⟨g, 0, none⟩), .int .i64 v, .int .i64 by'] w (AddAns g w (addS s v by')) := by
  obtain ⟨⟨a1, a2⟩, ⟨a3, a4⟩, a5, a6⟩ := ho
  obtain ⟨b1, b2⟩ := hb
  have i0 : ∀ w : World, (Instr.index 52 (.agg #[.int .i64 4, .int .i64 8, .int .i64 16]) (.int .i64 0)).run Tryd.prog w = .ok (.int .i64 4) w := fun _ => by kernel_rfl
  have i1 : ∀ w : World, (Instr.index 52 (.agg #[.int .i64 4, .int .i64 8, .int .i64 16]) (.int .i64 1)).run Tryd.prog w = .ok (.int .i64 8) w := fun _ => by kernel_rfl
  have i2 : ∀ w : World, (Instr.index 52 (.agg #[.int .i64 4, .int .i64 8, .int .i64 16]) (.int .i64 2)).run Tryd.prog w = .ok (.int .i64 16) w := fun _ => by kernel_rfl
  have c0 : w.cell? ⟨g, 0, none⟩ = some (.int .i64 s.h) := by rw [cell_of_row _ _ _ _ _ _ hs]; rfl
  have c1 : w.cell? ⟨g, 1, none⟩ = some (.int .i64 s.p) := by rw [cell_of_row _ _ _ _ _ _ hs]; rfl
  have c2 : w.cell? ⟨g, 2, none⟩ = some (.int .i64 s.n) := by rw [cell_of_row _ _ _ _ _ _ hs]; rfl
  have hg : g < w.heap.size := (Array.getElem?_eq_some_iff.1 hs).1
  have HS := hid hs
  clear hs
  go_enter Tryd.func31, Tryd.ntmps31
  go_wp2_with fail
  refine (bits_any w).mono ?_
  rintro e w1 ⟨rfl, hw1⟩
  have hn1 : IsNest w1 g s := by rw [← hw1]; exact (heap_alloc_old _ _ hg).trans HS.out
  have hg1 : w.grownBy w1 (some g) := by rw [← hw1]; exact World.grownBy_alloc w _ _
  clear hw1
  go_wp2_with fail
  go_loopw [16] (fun s16 wr => ∃ k : Nat, k ≤ 3 ∧ s16 = .int .i64 k ∧ Hid (IsNest wr g (addK s v by' k)) ∧ w.grownBy wr (some g)) (fun s16 _ => 3 - (intOf s16).toNat)
  case atStart => exact ⟨0, by omega, rfl, hn1, hg1⟩
  case round =>
    clear hn1 hg1
    obtain ⟨k, hk, rfl, HK, hgr⟩ := hrel
    by_cases hk3 : k < 3
    · have hk' : k = 0 ∨ k = 1 ∨ k = 2 := by omega
      clear hk hk3
      rcases hk' with rfl | rfl | rfl
      · have ck : wr.cell? ⟨g, 0, none⟩ = some (.int .i64 s.h) := by rw [cell_of_row _ _ _ _ _ _ HK.out]; rfl
        have fk : wr.frozen? ⟨g, 0, none⟩ = false := frozen_of_row _ _ _ _ _ HK.out
        have hbit : (bits .and .i64 (v : Int) 4 != 0) = bitB v 4 := bit_test v 4 hv (by decide)
        cases hc : bitB v 4 with
        | false =>
          rw [hc] at hbit
          have e1 := hid (show addK s v by' 1 = addK s v by' 0 by simp [addK, turnI, hc])
          clear hc
          go_wp2_with fail
          go_roundw
          case rel => exact ⟨1, by omega, by first | rfl | go_num, (by show IsNest _ g _; rw [e1.out]; exact HK.out), hgr⟩
          case measure => simp [intOf] <;> omega
        | true =>
          rw [hc] at hbit
          cases hal : (s.h == 0) with
          | false =>
            have e1 := hid (show addK s v by' 1 = ⟨turnV s.h by', s.p, s.n⟩ by simp [addK, turnI, hc])
            clear hc
            go_wp2_with fail
            go_region
            all_goals
              go_wp2_with fail
              go_roundw
              case rel => exact ⟨1, by omega, by first | rfl | go_num, (by show IsNest _ g (addK s v by' 1); rw [e1.out]; exact heap_setCell_same _ g 0 _ 56 (.int .i64 (turnV s.h by')) HK.out), grown_drew (grown_setCell hgr _ _)⟩
              case measure => simp [intOf] <;> omega
          | true =>
            have e1 := hid (show addK s v by' 1 = ⟨turnV s.h by', s.p, s.n⟩ by simp [addK, turnI, hc])
            clear hc
            go_wp2_with fail
            go_region
            all_goals
              go_wp2_with fail
              go_roundw
              case rel => exact ⟨1, by omega, by first | rfl | go_num, (by show IsNest _ g (addK s v by' 1); rw [e1.out]; exact heap_setCell_same _ g 0 _ 56 (.int .i64 (turnV s.h by')) HK.out), grown_drew (grown_setCell hgr _ _)⟩
              case measure => simp [intOf] <;> omega
      · have ck : wr.cell? ⟨g, 1, none⟩ = some (.int .i64 s.p) := by rw [cell_of_row _ _ _ _ _ _ HK.out]; rfl
        have fk : wr.frozen? ⟨g, 1, none⟩ = false := frozen_of_row _ _ _ _ _ HK.out
        have hbit : (bits .and .i64 (v : Int) 8 != 0) = bitB v 8 := bit_test v 8 hv (by decide)
        cases hc : bitB v 8 with
        | false =>
          rw [hc] at hbit
          have e1 := hid (show addK s v by' 2 = addK s v by' 1 by simp [addK, turnI, hc])
          clear hc
          go_wp2_with fail
          go_roundw
          case rel => exact ⟨2, by omega, by first | rfl | go_num, (by show IsNest _ g _; rw [e1.out]; exact HK.out), hgr⟩
          case measure => simp [intOf] <;> omega
        | true =>
          rw [hc] at hbit
          cases hal : (s.h == 0) with
          | false =>
            have e1 := hid (show addK s v by' 2 = addK s v by' 1 by simp [addK, turnI, hc, hal])
            clear hc
            go_wp2_with fail
            go_roundw
            case rel => exact ⟨2, by omega, by first | rfl | go_num, (by show IsNest _ g _; rw [e1.out]; exact HK.out), hgr⟩
            case measure => simp [intOf] <;> omega
          | true =>
            have e1 := hid (show addK s v by' 2 = ⟨turnI s.h (bitB v 4) by', turnV s.p by', s.n⟩ by simp [addK, turnI, hc, hal])
            clear hc
            go_wp2_with fail
            go_region
            all_goals
              go_wp2_with fail
              go_roundw
              case rel => exact ⟨2, by omega, by first | rfl | go_num, (by show IsNest _ g (addK s v by' 2); rw [e1.out]; exact heap_setCell_same _ g 1 _ 56 (.int .i64 (turnV s.p by')) HK.out), grown_drew (grown_setCell hgr _ _)⟩
              case measure => simp [intOf] <;> omega
      · have ck : wr.cell? ⟨g, 2, none⟩ = some (.int .i64 s.n) := by rw [cell_of_row _ _ _ _ _ _ HK.out]; rfl
        have fk : wr.frozen? ⟨g, 2, none⟩ = false := frozen_of_row _ _ _ _ _ HK.out
        have hbit : (bits .and .i64 (v : Int) 16 != 0) = bitB v 16 := bit_test v 16 hv (by decide)
        cases hc : bitB v 16 with
        | false =>
          rw [hc] at hbit
          have e1 := hid (show addK s v by' 3 = addK s v by' 2 by simp [addK, turnI, hc])
          clear hc
          go_wp2_with fail
          go_roundw
          case rel => exact ⟨3, by omega, by first | rfl | go_num, (by show IsNest _ g _; rw [e1.out]; exact HK.out), hgr⟩
          case measure => simp [intOf] <;> omega
        | true =>
          rw [hc] at hbit
          cases hal : (s.h == 0) with
          | false =>
            have e1 := hid (show addK s v by' 3 = addK s v by' 2 by simp [addK, turnI, hc, hal])
            clear hc
            go_wp2_with fail
            go_roundw
            case rel => exact ⟨3, by omega, by first | rfl | go_num, (by show IsNest _ g _; rw [e1.out]; exact HK.out), hgr⟩
            case measure => simp [intOf] <;> omega
          | true =>
            have e1 := hid (show addK s v by' 3 = ⟨turnI s.h (bitB v 4) by', turnI s.p (bitB v 8 && s.h == 0) by', turnV s.n by'⟩ by simp [addK, turnI, hc, hal])
            clear hc
            go_wp2_with fail
            go_region
            all_goals
              go_wp2_with fail
              go_roundw
              case rel => exact ⟨3, by omega, by first | rfl | go_num, (by show IsNest _ g (addK s v by' 3); rw [e1.out]; exact heap_setCell_same _ g 2 _ 56 (.int .i64 (turnV s.n by')) HK.out), grown_drew (grown_setCell hgr _ _)⟩
              case measure => simp [intOf] <;> omega
    · obtain rfl : k = 3 := by omega
      go_wp2_with fail
      go_end0
      exact ⟨rfl, HK.out, hgr⟩
end Go.Proofs.YtfdfeblcchbcnaaDoor
