/- To which state marks lead, in a table: what dfa.Run returns. Conditions: none. -/
import Derived.Test.YtmdkmobcglnmgaaPg
namespace Go.Proofs.Ytmdkmobcglnmgaa
open Go.RowKit

def runGo (rs : List (List Int)) : Int → List Int → Int
  | s, [] => s
  | s, m :: ms => if m < 0 ∨ 37 ≤ m then -1 else runGo rs (nth (row rs s.toNat) m.toNat) ms
def runL (d : D) (s : Int) (ms : List Int) : Int := if stateB d s = true then runGo d.next s ms else -1

set_option maxRecDepth 100000 in
set_option maxHeartbeats 1000000 in
theorem run_any (S S' : Nat → Prop) (NA TA : Option Addr) (nc tc : Nat) (vm : Value) (d : D) (s : Int) (ms : List Int) (w : World) (h : IsD w S (.agg #[.slice NA d.next.length nc, .slice TA d.tells.length tc]) d) (hm : IsNums .i64 w S' vm ms) :
    Calls Try.prog 36 #[.agg #[.slice NA d.next.length nc, .slice TA d.tells.length tc], .int .i64 s, vm] w fun e w' => e = .returned (.int .i64 (runL d s ms)) ∧ Below w.heap.size w w' := by
  obtain ⟨W, hW0⟩ : ∃ W, W = w.alloc (.cells #[.slice NA d.next.length nc, .slice TA d.tells.length tc] 30) := ⟨_, rfl⟩
  have hWb : Below w.heap.size w W := by rw [hW0]; exact (Below.refl _ _).alloc (Nat.le_refl _) _
  have q0 : W.heap[w.heap.size]? = some (.cells #[.slice NA d.next.length nc, .slice TA d.tells.length tc] 30 (0, 0)) := by rw [hW0]; exact heap_alloc_new _ _
  have hcells : ∀ Y, Below W.heap.size W Y → Y.cell? ⟨w.heap.size, 0, none⟩ = some (.slice NA d.next.length nc) ∧ Y.cell? ⟨w.heap.size, 1, none⟩ = some (.slice TA d.tells.length tc) := fun Y hY => by
    have h2 := (hY.block _ (by rw [hW0]; simp)).trans q0
    exact ⟨by rw [cell_of_row _ _ _ _ _ _ h2]; rfl, by rw [cell_of_row _ _ _ _ _ _ h2]; rfl⟩
  have HC := hid hcells
  have HB := hid hWb
  have HD := hid (h.below hWb)
  have HM := hid (hm.below hWb)
  have hml := hm.le
  obtain ⟨MA, mc, rfl⟩ := hm.form
  obtain ⟨f1, f2⟩ := hcells W (Below.refl _ _)
  clear hcells q0 hWb h hm
  cases hs : stateB d s with
  | false =>
    have hres := hid (show runL d s ms = -1 by unfold runL; rw [hs]; rfl)
    have HS := hid hs
    clear hs
    go_enter Try.func36, Try.ntmps36
    go_wp2_with fail
    rw [← hW0]
    clear hW0
    go_wp2_with fail
    refine (state_any S _ d s _ HD.out).mono ?_
    rintro e w1 ⟨rfl, hb1⟩
    rw [HS.out]
    go_wp2_with fail
    go_ret
    exact ⟨ret_int hres.out.symm, HB.out.trans (hb1.mono HB.out.size)⟩
  | true =>
    have hres := hid (show runL d s ms = runGo d.next s ms by unfold runL; rw [hs]; rfl)
    have hss : 0 ≤ s ∧ s < d.next.length ∧ rightB d = true := by simpa [stateB, and_assoc] using hs
    obtain ⟨hs0, hs1, hr⟩ := hss
    have HR := hid (right_rows hr)
    have HS := hid hs
    have hn1000 := HR.out.1
    clear hs hr
    go_enter Try.func36, Try.ntmps36
    go_wp2_with fail
    rw [← hW0]
    clear hW0
    go_wp2_with fail
    refine (state_any S _ d s _ HD.out).mono ?_
    rintro e w1 ⟨rfl, hb1⟩
    rw [HS.out]
    go_wp2_with fail
    go_loopw [1, 15] (fun s1 s15 wr => ∃ (k : Nat) (t : Int), k ≤ ms.length ∧ s15 = .int .i64 k ∧ s1 = .int .i64 t ∧ 0 ≤ t ∧ t < d.next.length ∧ Hid (runGo d.next t (ms.drop k) = runGo d.next s ms) ∧ Below W.heap.size W wr) (fun _ s15 _ => ms.length - (intOf s15).toNat)
    case atStart => exact ⟨0, s, by omega, rfl, rfl, hs0, hs1, rfl, hb1⟩
    case round =>
      clear hb1
      obtain ⟨k, t, hk, rfl, rfl, ht0, ht1, hT, hbw⟩ := hrel
      by_cases hlt : k < ms.length
      · obtain ⟨b, o, c2, e0, _, hbm, hcm⟩ := (HM.out.below hbw).at hlt
        obtain ⟨rfl, rfl⟩ : MA = some ⟨b, o, none⟩ ∧ mc = c2 := by simpa using e0
        have hst := hid (drop_nth hlt)
        by_cases hbad : nth ms k < 0 ∨ 37 ≤ nth ms k
        · have hend := hid (show runL d s ms = -1 by
            rw [hres.out, ← hT.out, hst.out]; simp only [runGo]; rw [if_pos hbad])
          rcases Int.lt_or_le (nth ms k) 0 with h1 | h1
          · have h1b : decide (nth ms k < 0) = true := by simpa using h1
            clear hbad e0
            go_wp2_with fail
            go_ret
            exact ⟨ret_int hend.out.symm, HB.out.trans (hbw.mono HB.out.size)⟩
          · have h1b : decide (nth ms k < 0) = false := by simpa using h1
            have h2b : 37 ≤ nth ms k := by omega
            clear hbad e0
            go_wp2_with fail
            go_ret
            exact ⟨ret_int hend.out.symm, HB.out.trans (hbw.mono HB.out.size)⟩
        · have h1b : decide (nth ms k < 0) = false := by simp; omega
          have h2b : nth ms k < 37 := by omega
          obtain ⟨m, hme⟩ : ∃ m : Nat, nth ms k = (m : Int) := ⟨(nth ms k).toNat, by omega⟩
          obtain ⟨u, hue⟩ : ∃ u : Nat, t = (u : Int) := ⟨t.toNat, by omega⟩
          subst hue
          rw [hme] at hcm h1b h2b
          have hm37 : m < 37 := by omega
          have hu : u < d.next.length := by omega
          obtain ⟨nv, tv, ed, hn, htl⟩ := HD.out.below hbw
          obtain ⟨rfl, rfl⟩ : .slice NA d.next.length nc = nv ∧ .slice TA d.tells.length tc = tv := by simpa using ed
          obtain ⟨NA', nc', us, en, _, hNA, hNR⟩ := hn.open
          obtain ⟨rfl, rfl⟩ : NA = NA' ∧ nc = nc' := by simpa using en
          obtain ⟨b1, o1, A1, c1, rfl, _, hb1, hc1, _, _, _, hN1⟩ := hNR.at hNA hu
          obtain ⟨r37, rbd⟩ := HR.out.2.2.2 _ (row_mem hu)
          obtain ⟨b2, o2, rfl, _, hb2, hc2⟩ := hN1.num (j := m) (by omega)
          have hz := rbd _ (nth_mem (show m < (row d.next u).length by omega))
          obtain ⟨z1, z2⟩ := hz
          rw [r37] at hc1
          obtain ⟨g1, g2⟩ := HC.out wr hbw
          have hT' := hid (show runGo d.next (nth (row d.next u) m) (ms.drop (k + 1)) = runGo d.next s ms by
            rw [← hT.out, hst.out]
            simp only [runGo]
            rw [if_neg hbad, hme]
            simp)
          clear hbad hme e0 ed en hn htl hNA hNR hN1 r37 rbd f1 f2
          go_wp2_with fail
          go_roundw
          case rel => exact ⟨k + 1, _, by omega, by go_num, rfl, z1, z2, hT'.out, hbw⟩
          case measure => simp [intOf]; omega
      · obtain rfl : k = ms.length := by omega
        have hend := hid (show runL d s ms = t by
          rw [hres.out, ← hT.out, List.drop_length]; rfl)
        go_wp2_with fail
        go_ret
        exact ⟨ret_int hend.out.symm, HB.out.trans (hbw.mono HB.out.size)⟩
end Go.Proofs.Ytmdkmobcglnmgaa
