/- The program's Same of two right lists of ranges. Conditions: right ranges in memory. -/
import Derived.Test.YtehchnagjdmdgaaEq
import Derived.Test.YtehchnagjdmdgaaRg
namespace Go.Proofs.Ytehchnagjdmdgaa
open Go.RowKit
set_option linter.unusedSimpArgs false
set_option maxRecDepth 100000 in
set_option maxHeartbeats 2000000 in
theorem known_any (S : Nat → Prop) (A : Option Addr) (c : Nat) (l : List Rng) (w : World) (h : IsRngs w S (.slice A l.length c) l) (hr : rightB l = true) :
    Calls Try.prog 37 #[.slice A l.length c] w fun e w' => e = .returned (.slice A l.length c) ∧ Below w.heap.size w w' := by
  have H := hid h
  have HR := hid hr
  clear h hr
  go_enter Try.func37, Try.ntmps37
  go_wp2_with fail
  refine (right_any S A c l w H.out).mono ?_
  rintro e w1 ⟨rfl, hb⟩
  rw [HR.out]
  have HB := hid hb
  clear hb
  go_wp2_with fail
  go_ret
  exact ⟨rfl, HB.out⟩
set_option maxRecDepth 100000 in
set_option maxHeartbeats 2000000 in
theorem same_any (S S' : Nat → Prop) (A A' : Option Addr) (c c' : Nat) (l m : List Rng) (w : World) (h : IsRngs w S (.slice A l.length c) l) (h' : IsRngs w S' (.slice A' m.length c') m) (hr : rightB l = true) (hr' : rightB m = true) :
    Calls Try.prog 22 #[.slice A l.length c, .slice A' m.length c'] w fun e w' => e = .returned (.bool (decide (l = m))) ∧ Below w.heap.size w w' := by
  have H := hid h
  have H2 := hid h'
  have HR := hid hr
  have HR2 := hid hr'
  clear h hr h' hr'
  go_enter Try.func22, Try.ntmps22
  go_wp2_with fail
  refine (known_any S A c l w H.out HR.out).mono ?_
  rintro e w1 ⟨rfl, hb⟩
  have HB := hid hb
  clear hb
  go_wp2_with fail
  refine (known_any S' A' c' m w1 (H2.out.below HB.out) HR2.out).mono ?_
  rintro e w2 ⟨rfl, hb⟩
  have HB2 := hid (HB.out.trans (hb.mono HB.out.size))
  clear hb
  go_wp2_with fail
  refine (equal_any S S' A A' c c' l m w2 (H.out.below HB2.out) (H2.out.below HB2.out)).mono ?_
  rintro e w3 ⟨rfl, hb⟩
  have HB3 := hid (HB2.out.trans (hb.mono HB2.out.size))
  clear hb
  go_wp2_with fail
  go_ret
  exact ⟨rfl, HB3.out⟩
end Go.Proofs.Ytehchnagjdmdgaa
