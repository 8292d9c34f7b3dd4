/- The document's example of a nest is right; the statement NestNone walked. Condition: the table of blanks as it is laid. -/
import Derived.Test.YtfdfeblcchbcnaaDoorTk
namespace Go.Proofs.YtfdfeblcchbcnaaDoor
open Go.RowKit

theorem val_pre : valOf [112, 114, 101] = 9 := by decide +kernel
theorem val_nobr : valOf [110, 111, 98, 114] = 16 := by decide +kernel
theorem ok0 : okN ⟨0, 0, 0⟩ := by unfold okN; decide
/-- Take, of a nest that the call itself made: from a block on. -/
def TakenB (B g : Nat) (w0 : World) (s' : NS) (f c : Bool) (e : Ending) (w' : World) : Prop := e = .returned (.tuple #[.bool f, .bool c]) ∧ IsNest w' g s' ∧ Below B w0 w'
theorem take_own (B g : Nat) (w0 : World) (s s' : NS) (f c : Bool) (v : Nat) (kind fr to' : Int) (name : ByteArray) (r : Int) (single : Bool) (w : World) (hB : B = w0.heap.size) (hg : B ≤ g) (hb : Below B w0 w) (hs : IsNest w g s) (ho : okN s) (hn : valOf name.data.toList = v) (hz : name.size ≤ 100) (ht : Tab w0)
    (hf : takeF s kind v = f) (hc : takeC s kind v = c) (hs' : takeS s kind v single = s') :
    Calls Tryd.prog 16 #[.pointer (some ⟨g, 0, none⟩), tokV kind fr to' name r single] w (TakenB B g w0 s' f c) := by
  subst hB
  refine (take_any g s v kind fr to' name r single w hs ho hn hz (tab_below ht hb)).mono fun e w' ⟨h1, h2, h3⟩ => ?_
  rw [hf, hc] at h1
  rw [hs'] at h2
  exact ⟨h1, h2, hb.grown h3 hb.size (fun k hk => by cases hk; exact hg)⟩

set_option maxRecDepth 100000 in
set_option maxHeartbeats 2000000 in
theorem nawake_any (w : World) (ht : Tab w) : Calls Tryd.prog 14 #[] w fun e w' => e = .returned (.bool true) ∧ Below w.heap.size w w' := by
  have HT := hid ht
  clear ht
  go_enter Tryd.func14, Tryd.ntmps14
  go_wp2_with fail
  refine (new_any w).mono ?_
  rintro e w1 ⟨rfl, hw1⟩
  have hn1 := hid (show IsNest w1 w.heap.size ⟨0, 0, 0⟩ by rw [← hw1]; exact heap_alloc_new _ _)
  have hb1 := hid (show Below w.heap.size w w1 by rw [← hw1]; exact (Below.refl _ _).alloc (Nat.le_refl _) _)
  clear hw1
  go_wp2_with fail
  refine (take_own w.heap.size w.heap.size w ⟨0, 0, 0⟩ ⟨0, 1, 0⟩ true false 9 2 0 0 ⟨#[112, 114, 101]⟩ 0 false w1 rfl (Nat.le_refl _) hb1.out hn1.out ok0 val_pre (by decide) HT.out (by rfl) (by rfl) (by rfl)).mono ?_
  rintro e w2 ⟨rfl, n2, b2⟩
  have hn2 := hid n2
  have hb2 := hid b2
  clear n2 b2
  go_wp2_with fail
  refine (take_own w.heap.size w.heap.size w ⟨0, 1, 0⟩ ⟨0, 1, 1⟩ false false 16 2 0 0 ⟨#[110, 111, 98, 114]⟩ 0 false w2 rfl (Nat.le_refl _) hb2.out hn2.out (by unfold okN; decide) val_nobr (by decide) HT.out (by rfl) (by rfl) (by rfl)).mono ?_
  rintro e w3 ⟨rfl, n3, b3⟩
  have hn3 := hid n3
  have hb3 := hid b3
  clear n3 b3
  go_wp2_with fail
  refine (pre_any _ ⟨0, 1, 1⟩ w3 hn3.out).mono ?_
  rintro e w4 ⟨rfl, rfl⟩
  go_wp2_with fail
  refine (nobreak_any _ ⟨0, 1, 1⟩ w3 hn3.out).mono ?_
  rintro e w4 ⟨rfl, rfl⟩
  go_wp2_with fail
  refine (hidden_any _ ⟨0, 1, 1⟩ w3 hn3.out).mono ?_
  rintro e w4 ⟨rfl, rfl⟩
  go_wp2_with fail
  refine (take_own w.heap.size w.heap.size w ⟨0, 1, 1⟩ ⟨0, 0, 1⟩ true false 9 3 0 0 ⟨#[112, 114, 101]⟩ 0 false w3 rfl (Nat.le_refl _) hb3.out hn3.out (by unfold okN; decide) val_pre (by decide) HT.out (by rfl) (by rfl) (by rfl)).mono ?_
  rintro e w5 ⟨rfl, n5, b5⟩
  have hn5 := hid n5
  have hb5 := hid b5
  clear n5 b5
  go_wp2_with fail
  refine (pre_any _ ⟨0, 0, 1⟩ w5 hn5.out).mono ?_
  rintro e w4 ⟨rfl, rfl⟩
  go_wp2_with fail
  refine (nobreak_any _ ⟨0, 0, 1⟩ w5 hn5.out).mono ?_
  rintro e w4 ⟨rfl, rfl⟩
  go_wp2_with fail
  go_ret
  exact ⟨rfl, hb5.out⟩

set_option maxRecDepth 100000 in
set_option maxHeartbeats 2000000 in
theorem none_walk (kind : Int) (name : ByteArray) (single : Bool) (hz : name.size ≤ 9223372036854775807) (w : World) (ht : Tab w) :
    Calls Tryd.prog 8 #[.agg #[.int .i64 kind, .string name, .bool single]] w fun e w' => e = .returned (.bool true) ∧ Below w.heap.size w w' := by
  have hbW : Below w.heap.size w (w.alloc (.cells #[.int .i64 kind, .string name, .bool single] 32)) := (Below.refl _ _).alloc (Nat.le_refl _) _
  have HT := hid (tab_below ht hbW)
  clear ht
  by_cases h60 : 60 < name.size
  · go_enter Tryd.func8, Tryd.ntmps8
    go_wp2_with fail
    refine (nawake_any _ HT.out).mono ?_
    rintro e w1 ⟨rfl, hb1⟩
    go_wp2_with fail
    go_ret
    exact ⟨rfl, hbW.trans (hb1.mono hbW.size)⟩
  · go_enter Tryd.func8, Tryd.ntmps8
    go_wp2_with fail
    refine (take_nil kind 0 0 name 0 single _).mono ?_
    rintro e w1 ⟨rfl, hb1⟩
    go_wp2_with fail
    refine (hidden_nil w1).mono ?_
    rintro e w4 ⟨rfl, rfl⟩
    go_wp2_with fail
    refine (pre_nil w1).mono ?_
    rintro e w4 ⟨rfl, rfl⟩
    go_wp2_with fail
    refine (nobreak_nil w1).mono ?_
    rintro e w4 ⟨rfl, rfl⟩
    go_wp2_with fail
    refine (nawake_any _ (tab_below HT.out hb1)).mono ?_
    rintro e w2 ⟨rfl, hb2⟩
    go_wp2_with fail
    go_ret
    exact ⟨rfl, hbW.trans ((hb1.trans (hb2.mono hb1.size)).mono hbW.size)⟩
end Go.Proofs.YtfdfeblcchbcnaaDoor
