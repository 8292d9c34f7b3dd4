/- The statement ElementOf walked. Condition: the table of blanks as it is laid. -/
import Derived.Test.YtfdfeblcchbcnaaDoorRo
namespace Go.Proofs.YtfdfeblcchbcnaaDoor
open Go.RowKit

set_option maxRecDepth 100000 in
set_option maxHeartbeats 1000000 in
theorem of_walk (s : ByteArray) (bit : Int) (hl : s.size ≤ 9223372036854775807) (w : World) (ht : Tab w) : Calls Tryd.prog 4 #[.string s, .int .i64 bit] w fun e w' => e = .returned (.bool true) ∧ Below w.heap.size w w' := by
  have HT := hid ht
  clear ht
  by_cases h60 : 60 < s.size
  · go_enter Tryd.func4, Tryd.ntmps4
    go_wp2_with fail
    refine (awake_any w HT.out).mono ?_
    rintro e w1 ⟨rfl, hb1⟩
    go_wp2_with fail
    go_ret
    exact ⟨rfl, hb1⟩
  · obtain ⟨N, hN⟩ : ∃ N, valOf s.data.toList = N := ⟨_, rfl⟩
    have HN := hid hN
    clear hN
    go_enter Tryd.func4, Tryd.ntmps4
    go_wp2_with fail
    refine (refOf_val s N HN.out w).mono ?_
    rintro e w1 ⟨rfl, hb1⟩
    go_wp2_with fail
    refine (of_val s N HN.out (by omega) _ (tab_below HT.out hb1)).mono ?_
    rintro e w2 ⟨rfl, hb2⟩
    have hB2 := hb1.trans (hb2.mono hb1.size)
    go_wp2_with fail
    refine (has_val s N bit HN.out (by omega) _ (tab_below HT.out hB2)).mono ?_
    rintro e w3 ⟨rfl, hb3⟩
    have hB3 := hB2.trans (hb3.mono hB2.size)
    go_wp2_with fail
    refine (awake_any _ (tab_below HT.out hB3)).mono ?_
    rintro e w4 ⟨rfl, hb4⟩
    go_wp2_with fail
    go_ret
    exact ⟨rfl, hB3.trans (hb4.mono hB3.size)⟩
end Go.Proofs.YtfdfeblcchbcnaaDoor
