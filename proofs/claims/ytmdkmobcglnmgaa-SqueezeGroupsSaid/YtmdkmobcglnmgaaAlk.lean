/- Whether two marks lead to the same in all right tables: what the reference's alike returns. Conditions: marks below 37. -/
import Derived.Test.YtmdkmobcglnmgaaGrp
namespace Go.Proofs.Ytmdkmobcglnmgaa
open Go.RowKit

def rowsAl (rs : List (List Int)) (a b : Nat) : Bool := rs.all fun r => decide (nth r a = nth r b)
def alD (a b : Nat) (d : D) : Bool := !rightB d || rowsAl d.next a b
def alikeB (ds : List D) (a b : Nat) : Bool := ds.all (alD a b)

set_option maxRecDepth 100000 in
set_option maxHeartbeats 1000000 in
theorem alike_any (S : Nat → Prop) (v : Value) (ds : List D) (a b : Nat) (w : World) (h : IsDs w S v ds) (ha : a < 37) (hb : b < 37) :
    Calls Try.prog 48 #[v, .int .i64 a, .int .i64 b] w fun e w' => e = .returned (.bool (alikeB ds a b)) ∧ Below w.heap.size w w' := by
  obtain ⟨A, c, vs, rfl, hl1, hl2, hA, hvl, hD⟩ := h
  have hl : ds.length ≤ 9223372036854775807 := by unfold maxLen at hl2; omega
  have HA := hid hA
  have HD := hid hD
  clear hA hD hvl
  go_enter Try.func48, Try.ntmps48
  go_wp2_with fail
  go_loopw [7] (fun i wr => ∃ k : Nat, k ≤ ds.length ∧ i = .int .i64 k ∧ Hid ((ds.take k).all (alD a b) = true) ∧ Below w.heap.size w wr) (fun i _ => ds.length - (intOf i).toNat)
  case atStart => exact ⟨0, by omega, rfl, rfl, Below.refl _ _⟩
  case round =>
    obtain ⟨k, hk, rfl, hT, hbw⟩ := hrel
    by_cases hlt : k < ds.length
    · obtain ⟨d, hd⟩ : ∃ d, ds[k]? = some d := ⟨_, List.getElem?_eq_getElem hlt⟩
      obtain ⟨b1, o1, nv, tv, rfl, _, hb1, hc1, hc2, hn, htl⟩ := ds_at HA.out HD.out hd
      have hst := hid (all_take_succ (alD a b) ds k d hd)
      obtain ⟨NA, nc, us, rfl, hnl, hNA, hNR⟩ := hn.open
      obtain ⟨TA, tc, rfl⟩ := htl.form
      have hc1w : wr.cell? ⟨b1, o1 + k * 2, none⟩ = some (.slice NA d.next.length nc) := (hbw.cell (p := ⟨b1, o1 + k * 2, none⟩) hb1).trans hc1
      have hc2w : wr.cell? ⟨b1, o1 + k * 2 + 1, none⟩ = some (.slice TA d.tells.length tc) := (hbw.cell (p := ⟨b1, o1 + k * 2 + 1, none⟩) hb1).trans hc2
      have HX := hid (show IsD wr S (.agg #[.slice NA d.next.length nc, .slice TA d.tells.length tc]) d from ⟨_, _, rfl, hn.below hbw, htl.below hbw⟩)
      have HN := hid hNA
      have HR := hid hNR
      have HC1 := hid (fun (Y : World) (hY : Below w.heap.size w Y) => (hY.cell (p := ⟨b1, o1 + k * 2, none⟩) hb1).trans hc1)
      clear hNA hNR hn htl hd hc1 hc2
      cases hr : rightB d with
      | false =>
        have hT' : Hid ((ds.take (k + 1)).all (alD a b) = true) := by
          show _ = _
          rw [hst.out, hT.out]; simp [alD, hr]
        go_wp2_with (go_at_call 22; refine (refRight_any S _ d _ HX.out).mono ?_; rintro e w1 ⟨rfl, hb2⟩; rw [hr])
        go_roundw
        case rel => exact ⟨k + 1, by omega, by go_num, hT', hbw.trans (hb2.mono hbw.size)⟩
        case measure => simp [intOf]; omega
      | true =>
        have hrr := right_rows hr
        have hR37 := hid (fun j (hj : j < d.next.length) => (hrr.2.2.2 _ (row_mem hj)).1)
        have hst2 := hid (show (ds.take (k + 1)).all (alD a b) = rowsAl d.next a b by rw [hst.out, hT.out]; simp [alD, hr])
        clear hrr
        go_wp2_with (go_at_call 22; refine (refRight_any S _ d _ HX.out).mono ?_; rintro e w1 ⟨rfl, hb2⟩; rw [hr])
        have hbw1 := hbw.trans (hb2.mono hbw.size)
        have hr' := hid hr
        obtain ⟨w0, hw0⟩ : ∃ w0, w0 = w1 := ⟨_, rfl⟩
        rw [← hw0] at hbw1 ⊢
        clear hbw hc1w hc2w hb2 hr hw0
        go_loopw [8] (fun i wx => ∃ j : Nat, j ≤ d.next.length ∧ i = .int .i64 j ∧ Hid (rowsAl (d.next.take j) a b = true) ∧ Below w.heap.size w wx) (fun i _ => d.next.length - (intOf i).toNat)
        case atStart => exact ⟨0, by omega, rfl, rfl, hbw1⟩
        case round =>
          clear hbw1
          obtain ⟨j, hj, rfl, hT2, hbw⟩ := hrel
          have hcd := HC1.out wr hbw
          by_cases hlt2 : j < d.next.length
          · obtain ⟨b2, o2, A2, c2, rfl, _, hb2, hc2, hl3, hl4, hl5, hN2⟩ := HR.out.at HN.out hlt2
            have h37 := hR37.out j hlt2
            obtain ⟨b3, o3, rfl, _, hb3, hc3⟩ := hN2.num (j := a) (by omega)
            obtain ⟨b3', o3', e3, _, _, hc4⟩ := hN2.num (j := b) (by omega)
            obtain ⟨rfl, rfl⟩ : b3 = b3' ∧ o3 = o3' := by simpa using e3
            have hc2w : wr.cell? ⟨b2, o2 + j, none⟩ = some (.slice (some ⟨b3, o3, none⟩) (row d.next j).length c2) := (hbw.cell (p := ⟨b2, o2 + j, none⟩) hb2).trans hc2
            have hc3w : wr.cell? ⟨b3, o3 + a, none⟩ = some (.int .i64 (nth (row d.next j) a)) := (hbw.cell (p := ⟨b3, o3 + a, none⟩) hb3).trans hc3
            have hc4w : wr.cell? ⟨b3, o3 + b, none⟩ = some (.int .i64 (nth (row d.next j) b)) := (hbw.cell (p := ⟨b3, o3 + b, none⟩) hb3).trans hc4
            have ha1 : (a : Int) < ((row d.next j).length : Int) := by omega
            have hb1' : (b : Int) < ((row d.next j).length : Int) := by omega
            have hst3 := hid (all_take_succ (fun r => decide (nth r a = nth r b)) d.next j _ (some_row hlt2))
            clear hc2 hc3 hc4 hN2 e3 h37
            by_cases he : nth (row d.next j) a = nth (row d.next j) b
            · have heb := ine_false he
              have hT3 : Hid (rowsAl (d.next.take (j + 1)) a b = true) := by
                show List.all _ _ = _
                rw [hst3.out, show List.all _ _ = _ from hT2.out]; simp [he]
              clear he
              go_wp2_with fail
              go_quiet (fail)
              go_wp2
              go_roundw
              case rel => exact ⟨j + 1, by omega, by go_num, hT3, below_drewN hbw _⟩
              case measure => simp [intOf]; omega
            · have heb := ine_true he
              have hres := hid (show alikeB ds a b = false by
                refine all_take_le _ _ (k + 1) ?_
                rw [hst2.out]
                refine all_take_le _ _ (j + 1) ?_
                rw [hst3.out]; simp [he])
              clear he
              go_wp2_with fail
              go_quiet (fail)
              go_wp2
              go_ret
              exact ⟨ret_bool hres.out.symm, below_drewN hbw _⟩
          · obtain rfl : j = d.next.length := by omega
            have hT3 : Hid ((ds.take (k + 1)).all (alD a b) = true) := by
              show _ = _
              rw [hst2.out]
              have := hT2.out
              rw [List.take_length] at this
              exact this
            go_wp2
            go_roundw
            case rel => exact ⟨k + 1, by omega, by go_num, hT3, hbw⟩
            case measure => simp [intOf]; omega
    · obtain rfl : k = ds.length := by omega
      have hres := hid (show alikeB ds a b = true by
        have := hT.out
        rw [List.take_length] at this
        exact this)
      go_wp2
      go_ret
      exact ⟨ret_bool hres.out.symm, hbw⟩
end Go.Proofs.Ytmdkmobcglnmgaa
