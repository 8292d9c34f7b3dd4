/- Whether two tables are the same, entry by entry; the document's text and the program's. No conditions. -/
import Derived.Test.YtmdkmobcglnmgaaMany
namespace Go.Proofs.Ytmdkmobcglnmgaa
open Go.RowKit

theorem rows_take_step {xs ys : List (List Int)} {k : Nat} (hx : k < xs.length) (hy : k < ys.length) (h : xs.take k = ys.take k) (he : row xs k = row ys k) : xs.take (k + 1) = ys.take (k + 1) := by
  rw [take_row hx, take_row hy, h, he]
theorem rows_eq_of_take {xs ys : List (List Int)} (hl : xs.length = ys.length) (h : xs.take xs.length = ys.take xs.length) : xs = ys := by
  rw [List.take_length, hl, List.take_length] at h; exact h

set_option maxHeartbeats 400000 in
theorem rows_any (S S' : Nat → Prop) (va vb : Value) (xs ys : List (List Int)) (w : World) (ha : IsRows w S va xs) (hb : IsRows w S' vb ys) :
    Calls Try.prog 24 #[va, vb] w fun e w' => e = .returned (.bool (decide (xs = ys))) ∧ ∃ n, w' = w.drewN n := by
  obtain ⟨A, cA, vs, rfl, hla, hA, hRA⟩ := ha.open
  obtain ⟨B, cB, us, rfl, hlb, hB, hRB⟩ := hb.open
  have HA := hid hA
  have HB := hid hB
  have HRA := hid hRA
  have HRB := hid hRB
  clear ha hb hA hB hRA hRB
  by_cases hlen : xs.length = ys.length
  · have HL := hid hlen
    have h1 : ((xs.length : Int) != (ys.length : Int)) = false := by simp [hlen]
    clear hlen
    go_enter Try.func24, Try.ntmps24
    go_wp2_with fail
    go_loopw [5] (fun i wr => ∃ k : Nat, k ≤ xs.length ∧ i = .int .i64 k ∧ Hid (xs.take k = ys.take k) ∧ Hid (∃ n, wr = w.drewN n)) (fun i _ => xs.length - (intOf i).toNat)
    case atStart => exact ⟨0, by omega, rfl, rfl, 0, rfl⟩
    case round =>
      obtain ⟨k, hk, rfl, hT, hW⟩ := hrel
      by_cases hlt : k < xs.length
      · obtain ⟨b, o, A1, c1, rfl, _, _, hc1, hl1, hl2, hl3, hN1⟩ := HRA.out.at HA.out hlt
        have hlt2 : k < ys.length := by rw [← HL.out]; exact hlt
        obtain ⟨b2, o2, A2, c2, rfl, _, _, hc2, hm1, hm2, hm3, hN2⟩ := HRB.out.at HB.out hlt2
        have hc1w : wr.cell? ⟨b, o + k, none⟩ = some (.slice A1 (row xs k).length c1) := by obtain ⟨n, rfl⟩ := hW.out; exact hc1
        have hc2w : wr.cell? ⟨b2, o2 + k, none⟩ = some (.slice A2 (row ys k).length c2) := by obtain ⟨n, rfl⟩ := hW.out; exact hc2
        have hX := hid (show IsNums .i64 wr S (.slice A1 (row xs k).length c1) (row xs k) by obtain ⟨n, rfl⟩ := hW.out; exact ⟨A1, c1, rfl, hl2, hl3, hN1⟩)
        have hY := hid (show IsNums .i64 wr S' (.slice A2 (row ys k).length c2) (row ys k) by obtain ⟨n, rfl⟩ := hW.out; exact ⟨A2, c2, rfl, hm2, hm3, hN2⟩)
        clear hc1 hc2 hN1 hN2
        by_cases he : row xs k = row ys k
        · have heb : decide (row xs k = row ys k) = true := by simpa using he
          have HE := hid he
          clear he
          go_wp2_with fail
          go_quiet ((go_at_call 18; exact Calls.quiet_of (f18_any S S' _ _ _ _ _ (hX.out.drewN _) (hY.out.drewN _))))
          go_wp2
          go_roundw
          case rel => exact ⟨k + 1, by omega, by go_num, rows_take_step hlt hlt2 hT.out HE.out, by obtain ⟨n, rfl⟩ := hW.out; exact ⟨_, World.drewN_drewN _ _ _⟩⟩
          case measure => simp [intOf]; omega
        · have heb : decide (row xs k = row ys k) = false := by simpa using he
          have hne := hid (show ¬ xs = ys from fun h => he (by rw [h]))
          clear he
          go_wp2_with fail
          go_quiet ((go_at_call 18; exact Calls.quiet_of (f18_any S S' _ _ _ _ _ (hX.out.drewN _) (hY.out.drewN _))))
          go_wp2
          go_ret
          exact ⟨ret_bool (by simpa using hne.out), by obtain ⟨n, rfl⟩ := hW.out; exact ⟨_, World.drewN_drewN _ _ _⟩⟩
      · obtain rfl : k = xs.length := by omega
        have HX := hid (rows_eq_of_take HL.out hT.out)
        go_wp2
        go_ret
        exact ⟨ret_bool (by simpa using HX.out), hW.out⟩
  · have h1 : ((xs.length : Int) != (ys.length : Int)) = true := by simp; omega
    have hne := hid (show ¬ xs = ys from fun h => hlen (by rw [h]))
    clear hlen
    go_enter Try.func24, Try.ntmps24
    go_wp2
    go_ret
    exact ⟨ret_bool (by simpa using hne.out), 0, rfl⟩

def sameD (a b : D) : Bool := decide (a.next = b.next) && decide (a.tells = b.tells)

set_option maxHeartbeats 1000000 in
theorem refSame_any (S S' : Nat → Prop) (va vb : Value) (a b : D) (w : World) (ha : IsD w S va a) (hb : IsD w S' vb b) :
    Calls Try.prog 25 #[va, vb] w fun e w' => e = .returned (.bool (sameD a b)) ∧ Below w.heap.size w w' := by
  obtain ⟨nv, tv, rfl, hn, ht⟩ := ha
  obtain ⟨mv, sv, rfl, hm, hs⟩ := hb
  obtain ⟨A, cA, vs, rfl, hla, hA, hRA⟩ := hn.open
  obtain ⟨B, cB, us, rfl, hlb, hB, hRB⟩ := hm.open
  have htl := ht.le
  have hsl := hs.le
  obtain ⟨T, cT, rfl, _, _, hT0⟩ := ht
  obtain ⟨U, cU, rfl, _, _, hU0⟩ := hs
  have HA := hid hA
  have HB := hid hB
  have HRA := hid hRA
  have HRB := hid hRB
  have HT := hid hT0
  have HU := hid hU0
  clear hn hm hA hB hRA hRB hT0 hU0
  by_cases hlen : a.next.length = b.next.length
  · have HL := hid hlen
    have h1 : ((a.next.length : Int) != (b.next.length : Int)) = false := by simp [hlen]
    clear hlen
    by_cases hlen2 : a.tells.length = b.tells.length
    · have HL2 := hid hlen2
      have h2 : ((a.tells.length : Int) != (b.tells.length : Int)) = false := by simp [hlen2]
      clear hlen2
      go_enter Try.func25, Try.ntmps25
      go_wp2_with fail
      obtain ⟨W, hW0⟩ : ∃ W, W = (w.alloc (Obj.cells #[Value.slice A a.next.length cA, Value.slice T a.tells.length cT] 29)).alloc (Obj.cells #[Value.slice B b.next.length cB, Value.slice U b.tells.length cU] 29) := ⟨_, rfl⟩
      have hWb : Below w.heap.size w W := by rw [hW0]; exact ((Below.refl _ _).alloc (Nat.le_refl _) _).alloc (by simp) _
      have q0 : W.cell? ⟨w.heap.size, 0, none⟩ = some (Value.slice A a.next.length cA) := by rw [hW0]; simp [go_sem]
      have q1 : W.cell? ⟨w.heap.size, 1, none⟩ = some (Value.slice T a.tells.length cT) := by rw [hW0]; simp [go_sem]
      have q2 : W.cell? ⟨w.heap.size + 1, 0, none⟩ = some (Value.slice B b.next.length cB) := by rw [hW0]; simp [go_sem]
      have q3 : W.cell? ⟨w.heap.size + 1, 1, none⟩ = some (Value.slice U b.tells.length cU) := by rw [hW0]; simp [go_sem]
      rw [← hW0]
      clear hW0
      have hFalse : ∀ nq, Hid (a.next ≠ b.next ∨ a.tells ≠ b.tells) → Ending.returned (.bool false) = .returned (.bool (sameD a b)) ∧ Below w.heap.size w (W.drewN nq) := by
        intro nq h
        refine ⟨ret_bool ?_, below_drewN hWb _⟩
        symm
        rw [sameD, Bool.and_eq_false_iff]
        rcases h.out with h | h
        · exact .inl (by simpa using h)
        · exact .inr (by simpa using h)
      have HF := hid hFalse
      clear hFalse
      go_loopw [5] (fun i wr => ∃ k : Nat, k ≤ a.next.length ∧ i = .int .i64 k ∧ Hid (a.next.take k = b.next.take k) ∧ Hid (∃ n, wr = W.drewN n)) (fun i _ => a.next.length - (intOf i).toNat)
      case atStart => exact ⟨0, by omega, rfl, rfl, 0, rfl⟩
      case round =>
        obtain ⟨k, hk, rfl, hT, hW⟩ := hrel
        have p0 : wr.cell? ⟨w.heap.size, 0, none⟩ = some (Value.slice A a.next.length cA) := by obtain ⟨n, rfl⟩ := hW.out; exact q0
        have p1 : wr.cell? ⟨w.heap.size, 1, none⟩ = some (Value.slice T a.tells.length cT) := by obtain ⟨n, rfl⟩ := hW.out; exact q1
        have p2 : wr.cell? ⟨w.heap.size + 1, 0, none⟩ = some (Value.slice B b.next.length cB) := by obtain ⟨n, rfl⟩ := hW.out; exact q2
        have p3 : wr.cell? ⟨w.heap.size + 1, 1, none⟩ = some (Value.slice U b.tells.length cU) := by obtain ⟨n, rfl⟩ := hW.out; exact q3
        have hbr := hid (show Below w.heap.size w wr by obtain ⟨n, rfl⟩ := hW.out; exact below_drewN hWb _)
        by_cases hlt : k < a.next.length
        · obtain ⟨b1, o1, A1, c1, rfl, _, hb1, hc1, hl1, hl2, hl3, hN1⟩ := HRA.out.at HA.out hlt
          have hlt2 : k < b.next.length := by rw [← HL.out]; exact hlt
          obtain ⟨b2, o2, A2, c2, rfl, _, hb2, hc2, hm1, hm2, hm3, hN2⟩ := HRB.out.at HB.out hlt2
          have hc1w : wr.cell? ⟨b1, o1 + k, none⟩ = some (.slice A1 (row a.next k).length c1) := (hbr.out.cell (p := ⟨b1, o1 + k, none⟩) hb1).trans hc1
          have hc2w : wr.cell? ⟨b2, o2 + k, none⟩ = some (.slice A2 (row b.next k).length c2) := (hbr.out.cell (p := ⟨b2, o2 + k, none⟩) hb2).trans hc2
          have hX := hid (show IsNums .i64 wr S (.slice A1 (row a.next k).length c1) (row a.next k) from (show IsNums .i64 w S _ _ from ⟨A1, c1, rfl, hl2, hl3, hN1⟩).below hbr.out)
          have hY := hid (show IsNums .i64 wr S' (.slice A2 (row b.next k).length c2) (row b.next k) from (show IsNums .i64 w S' _ _ from ⟨A2, c2, rfl, hm2, hm3, hN2⟩).below hbr.out)
          clear hc1 hc2 hN1 hN2 q0 q1 q2 q3
          by_cases he : row a.next k = row b.next k
          · have heb : decide (row a.next k = row b.next k) = true := by simpa using he
            have HE := hid he
            clear he
            go_wp2_with fail
            go_quiet ((go_at_call 52; exact Calls.quiet_of (f52_any S S' _ _ _ _ _ (hX.out.drewN _) (hY.out.drewN _))))
            go_wp2
            go_roundw
            case rel => exact ⟨k + 1, by omega, by go_num, rows_take_step hlt hlt2 hT.out HE.out, by obtain ⟨n, rfl⟩ := hW.out; exact ⟨_, World.drewN_drewN _ _ _⟩⟩
            case measure => simp [intOf]; omega
          · have heb : decide (row a.next k = row b.next k) = false := by simpa using he
            have hne := hid (show a.next ≠ b.next ∨ a.tells ≠ b.tells from .inl fun h => he (by rw [h]))
            clear he
            go_wp2_with fail
            go_quiet ((go_at_call 52; exact Calls.quiet_of (f52_any S S' _ _ _ _ _ (hX.out.drewN _) (hY.out.drewN _))))
            go_wp2
            go_ret
            obtain ⟨n, rfl⟩ := hW.out
            rw [World.drewN_drewN]
            exact HF.out _ hne
        · obtain rfl : k = a.next.length := by omega
          have HX := hid (rows_eq_of_take HL.out hT.out)
          go_wp2_with fail
          obtain ⟨W2, hW2⟩ : ∃ W2 : World, W2 = wr := ⟨_, rfl⟩
          rw [← hW2]
          go_loopw [6] (fun i wr2 => ∃ k : Nat, k ≤ a.tells.length ∧ i = .int .i64 k ∧ Hid (a.tells.take k = b.tells.take k) ∧ Hid (∃ n, wr2 = W.drewN n)) (fun i _ => a.tells.length - (intOf i).toNat)
          case atStart => exact ⟨0, by omega, rfl, rfl, by rw [hW2]; exact hW.out⟩
          case round =>
            clear p0 p1 p2 p3 hbr hW hW2
            obtain ⟨j, hj, rfl, hT2, hW⟩ := hrel
            have p1 : wr.cell? ⟨w.heap.size, 1, none⟩ = some (Value.slice T a.tells.length cT) := by obtain ⟨n, rfl⟩ := hW.out; exact q1
            have p3 : wr.cell? ⟨w.heap.size + 1, 1, none⟩ = some (Value.slice U b.tells.length cU) := by obtain ⟨n, rfl⟩ := hW.out; exact q3
            have hbr := hid (show Below w.heap.size w wr by obtain ⟨n, rfl⟩ := hW.out; exact below_drewN hWb _)
            clear q0 q1 q2 q3
            by_cases hlt2 : j < a.tells.length
            · obtain ⟨b1, o1, rfl, _, hb1, hc1⟩ := HT.out.num hlt2
              have hlt3 : j < b.tells.length := by rw [← HL2.out]; exact hlt2
              obtain ⟨b2, o2, rfl, _, hb2, hc2⟩ := HU.out.num hlt3
              have hc1w : wr.cell? ⟨b1, o1 + j, none⟩ = some (.int .u64 (nth a.tells j)) := (hbr.out.cell (p := ⟨b1, o1 + j, none⟩) hb1).trans hc1
              have hc2w : wr.cell? ⟨b2, o2 + j, none⟩ = some (.int .u64 (nth b.tells j)) := (hbr.out.cell (p := ⟨b2, o2 + j, none⟩) hb2).trans hc2
              clear hc1 hc2
              by_cases he : nth a.tells j = nth b.tells j
              · have heb := ine_false he
                have HE := hid he
                clear he
                go_wp2_with fail
                go_quiet (fail)
                go_wp2
                go_roundw
                case rel => exact ⟨j + 1, by omega, by go_num, take_eq_step hlt2 hlt3 hT2.out HE.out, by obtain ⟨n, rfl⟩ := hW.out; exact ⟨_, World.drewN_drewN _ _ _⟩⟩
                case measure => simp [intOf]; omega
              · have heb := ine_true he
                have hne := hid (show a.next ≠ b.next ∨ a.tells ≠ b.tells from .inr fun h => he (by rw [h]))
                clear he
                go_wp2_with fail
                go_quiet (fail)
                go_wp2
                go_ret
                obtain ⟨n, rfl⟩ := hW.out
                rw [World.drewN_drewN]
                exact HF.out _ hne
            · obtain rfl : j = a.tells.length := by omega
              have HX2 := hid (eq_of_take HL2.out hT2.out)
              go_wp2
              go_ret
              exact ⟨ret_bool (by simp [sameD, HX.out, HX2.out]), hbr.out⟩
    · have h2 : ((a.tells.length : Int) != (b.tells.length : Int)) = true := by simp; omega
      have hr := hid (show sameD a b = false by
        rw [sameD, Bool.and_eq_false_iff]; right; simpa using fun h => hlen2 (by rw [h]))
      clear hlen2
      go_enter Try.func25, Try.ntmps25
      go_wp2
      go_ret
      exact ⟨ret_bool hr.out.symm, ((Below.refl _ _).alloc (Nat.le_refl _) _).alloc (by simp) _⟩
  · have h1 : ((a.next.length : Int) != (b.next.length : Int)) = true := by simp; omega
    have hr := hid (show sameD a b = false by
      rw [sameD, Bool.and_eq_false_iff]; left; simpa using fun h => hlen (by rw [h]))
    clear hlen
    go_enter Try.func25, Try.ntmps25
    go_wp2
    go_ret
    exact ⟨ret_bool hr.out.symm, ((Below.refl _ _).alloc (Nat.le_refl _) _).alloc (by simp) _⟩

set_option maxHeartbeats 400000 in
theorem eqFunc_any (S S' : Nat → Prop) (va vb : Value) (xs ys : List (List Int)) (w : World) (ha : IsRows w S va xs) (hb : IsRows w S' vb ys) :
    Calls Try.prog 61 #[va, vb, .func (.func 62) #[] #[]] w fun e w' => e = .returned (.bool (decide (xs = ys))) ∧ ∃ n, w' = w.drewN n := by
  obtain ⟨A, cA, vs, rfl, hla, hA, hRA⟩ := ha.open
  obtain ⟨B, cB, us, rfl, hlb, hB, hRB⟩ := hb.open
  have HA := hid hA
  have HB := hid hB
  have HRA := hid hRA
  have HRB := hid hRB
  clear ha hb hA hB hRA hRB
  by_cases hlen : xs.length = ys.length
  · have HL := hid hlen
    have h1 : ((xs.length : Int) != (ys.length : Int)) = false := by simp [hlen]
    clear hlen
    go_enter Try.func61, Try.ntmps61
    go_wp2_with fail
    go_loopw [17] (fun i wr => ∃ k : Nat, k ≤ xs.length ∧ i = .int .i64 k ∧ Hid (xs.take k = ys.take k) ∧ Hid (∃ n, wr = w.drewN n)) (fun i _ => xs.length - (intOf i).toNat)
    case atStart => exact ⟨0, by omega, rfl, rfl, 0, rfl⟩
    case round =>
      obtain ⟨k, hk, rfl, hT, hW⟩ := hrel
      by_cases hlt : k < xs.length
      · obtain ⟨b, o, A1, c1, rfl, _, _, hc1, hl1, hl2, hl3, hN1⟩ := HRA.out.at HA.out hlt
        have hlt2 : k < ys.length := by rw [← HL.out]; exact hlt
        have hlt2i : (k : Int) < (ys.length : Int) := by omega
        obtain ⟨b2, o2, A2, c2, rfl, _, _, hc2, hm1, hm2, hm3, hN2⟩ := HRB.out.at HB.out hlt2
        have hc1w : wr.cell? ⟨b, o + k, none⟩ = some (.slice A1 (row xs k).length c1) := by obtain ⟨n, rfl⟩ := hW.out; exact hc1
        have hc2w : wr.cell? ⟨b2, o2 + k, none⟩ = some (.slice A2 (row ys k).length c2) := by obtain ⟨n, rfl⟩ := hW.out; exact hc2
        have hX := hid (show IsNums .i64 wr S (.slice A1 (row xs k).length c1) (row xs k) by obtain ⟨n, rfl⟩ := hW.out; exact ⟨A1, c1, rfl, hl2, hl3, hN1⟩)
        have hY := hid (show IsNums .i64 wr S' (.slice A2 (row ys k).length c2) (row ys k) by obtain ⟨n, rfl⟩ := hW.out; exact ⟨A2, c2, rfl, hm2, hm3, hN2⟩)
        clear hc1 hc2 hN1 hN2
        by_cases he : row xs k = row ys k
        · have heb : decide (row xs k = row ys k) = true := by simpa using he
          have HE := hid he
          clear he
          go_wp2_with (go_at_call 62; refine (f62_any S S' _ _ _ _ _ hX.out hY.out).mono ?_; rintro e w1 ⟨rfl, n1, rfl⟩)
          go_roundw
          case rel => exact ⟨k + 1, by omega, by go_num, rows_take_step hlt hlt2 hT.out HE.out, by obtain ⟨n, rfl⟩ := hW.out; exact ⟨_, World.drewN_drewN _ _ _⟩⟩
          case measure => simp [intOf]; omega
        · have heb : decide (row xs k = row ys k) = false := by simpa using he
          have hne := hid (show ¬ xs = ys from fun h => he (by rw [h]))
          clear he
          go_wp2_with (go_at_call 62; refine (f62_any S S' _ _ _ _ _ hX.out hY.out).mono ?_; rintro e w1 ⟨rfl, n1, rfl⟩)
          go_ret
          exact ⟨ret_bool (by simpa using hne.out), by obtain ⟨n, rfl⟩ := hW.out; exact ⟨_, World.drewN_drewN _ _ _⟩⟩
      · obtain rfl : k = xs.length := by omega
        have HX := hid (rows_eq_of_take HL.out hT.out)
        go_wp2
        go_ret
        exact ⟨ret_bool (by simpa using HX.out), hW.out⟩
  · have h1 : ((xs.length : Int) != (ys.length : Int)) = true := by simp; omega
    have hne := hid (show ¬ xs = ys from fun h => hlen (by rw [h]))
    clear hlen
    go_enter Try.func61, Try.ntmps61
    go_wp2
    go_ret
    exact ⟨ret_bool (by simpa using hne.out), 0, rfl⟩

set_option maxHeartbeats 400000 in
theorem same_any (S S' : Nat → Prop) (va vb : Value) (a b : D) (w : World) (ha : IsD w S va a) (hb : IsD w S' vb b) :
    Calls Try.prog 40 #[va, vb] w fun e w' => e = .returned (.bool (sameD a b)) ∧ Below w.heap.size w w' := by
  obtain ⟨nv, tv, rfl, hn, ht⟩ := ha
  obtain ⟨mv, sv, rfl, hm, hs⟩ := hb
  obtain ⟨A, cA, rfl⟩ := hn.form
  obtain ⟨B, cB, rfl⟩ := hm.form
  obtain ⟨T, cT, rfl⟩ := ht.form
  obtain ⟨U, cU, rfl⟩ := hs.form
  have hX := hid ht
  have hY := hid hs
  have hXn := hid hn
  have hYn := hid hm
  clear ht hs hn hm
  by_cases he : a.tells = b.tells
  · have heb : decide (a.tells = b.tells) = true := by simpa using he
    have hr := hid (show sameD a b = decide (a.next = b.next) by simp [sameD, he])
    clear he
    go_enter Try.func40, Try.ntmps40
    go_wp2_with fail
    obtain ⟨W, hW0⟩ : ∃ W, W = (w.alloc (Obj.cells #[Value.slice A a.next.length cA, Value.slice T a.tells.length cT] 30)).alloc (Obj.cells #[Value.slice B b.next.length cB, Value.slice U b.tells.length cU] 30) := ⟨_, rfl⟩
    have hWb : Below w.heap.size w W := by rw [hW0]; exact ((Below.refl _ _).alloc (Nat.le_refl _) _).alloc (by simp) _
    have q0 : W.cell? ⟨w.heap.size, 0, none⟩ = some (Value.slice A a.next.length cA) := by rw [hW0]; simp [go_sem]
    have q1 : W.cell? ⟨w.heap.size, 1, none⟩ = some (Value.slice T a.tells.length cT) := by rw [hW0]; simp [go_sem]
    have q2 : W.cell? ⟨w.heap.size + 1, 0, none⟩ = some (Value.slice B b.next.length cB) := by rw [hW0]; simp [go_sem]
    have q3 : W.cell? ⟨w.heap.size + 1, 1, none⟩ = some (Value.slice U b.tells.length cU) := by rw [hW0]; simp [go_sem]
    rw [← hW0]
    clear hW0
    go_wp2_with (first
      | (go_at_call 60; refine (f60_any S S' _ _ _ _ _ (hX.out.below hWb) (hY.out.below hWb)).mono ?_; rintro e w1 ⟨rfl, n1, rfl⟩)
      | (go_at_call 61; refine (eqFunc_any S S' _ _ _ _ _ ((hXn.out.below hWb).drewN _) ((hYn.out.below hWb).drewN _)).mono ?_; rintro e w1 ⟨rfl, n2, rfl⟩))
    go_ret
    exact ⟨ret_bool hr.out.symm, below_drewN hWb _⟩
  · have heb : decide (a.tells = b.tells) = false := by simpa using he
    have hr := hid (show sameD a b = false by simp [sameD, he])
    clear he
    go_enter Try.func40, Try.ntmps40
    go_wp2_with fail
    obtain ⟨W, hW0⟩ : ∃ W, W = (w.alloc (Obj.cells #[Value.slice A a.next.length cA, Value.slice T a.tells.length cT] 30)).alloc (Obj.cells #[Value.slice B b.next.length cB, Value.slice U b.tells.length cU] 30) := ⟨_, rfl⟩
    have hWb : Below w.heap.size w W := by rw [hW0]; exact ((Below.refl _ _).alloc (Nat.le_refl _) _).alloc (by simp) _
    rw [← hW0]
    clear hW0
    go_wp2_with (first
      | (go_at_call 60; refine (f60_any S S' _ _ _ _ _ (hX.out.below hWb) (hY.out.below hWb)).mono ?_; rintro e w1 ⟨rfl, n1, rfl⟩))
    go_ret
    exact ⟨ret_bool hr.out.symm, below_drewN hWb _⟩

def stateB (d : D) (i : Int) : Bool := decide (0 ≤ i) && decide (i < d.next.length) && rightB d
set_option maxHeartbeats 400000 in
theorem state_any (S : Nat → Prop) (v : Value) (d : D) (i : Int) (w : World) (h : IsD w S v d) :
    Calls Try.prog 58 #[v, .int .i64 i] w fun e w' => e = .returned (.bool (stateB d i)) ∧ Below w.heap.size w w' := by
  obtain ⟨nv, tv, rfl, hn, ht⟩ := h
  obtain ⟨A, cA, rfl⟩ := hn.form
  obtain ⟨T, cT, rfl⟩ := ht.form
  have hD := hid (show IsD w S (.agg #[.slice A d.next.length cA, .slice T d.tells.length cT]) d from ⟨_, _, rfl, hn, ht⟩)
  clear hn ht
  by_cases h1 : 0 ≤ i
  · by_cases h2 : i < d.next.length
    · have hr := hid (show stateB d i = rightB d by simp [stateB, h1, h2])
      go_enter Try.func58, Try.ntmps58
      go_wp2_with (go_at_call 26; refine (right_any S _ _ _ (hD.out.below ((Below.refl _ _).alloc (Nat.le_refl _) _))).mono ?_; rintro e w1 ⟨rfl, hb1⟩)
      go_ret
      exact ⟨ret_bool hr.out.symm, ((Below.refl _ _).alloc (Nat.le_refl _) _).trans (hb1.mono (by simp))⟩
    · have hr := hid (show stateB d i = false by simp [stateB, h2])
      go_enter Try.func58, Try.ntmps58
      go_wp2
      go_ret
      exact ⟨ret_bool hr.out.symm, ((Below.refl _ _).alloc (Nat.le_refl _) _)⟩
  · have hr := hid (show stateB d i = false by simp [stateB, h1])
    go_enter Try.func58, Try.ntmps58
    go_wp2
    go_ret
    exact ⟨ret_bool hr.out.symm, ((Below.refl _ _).alloc (Nat.le_refl _) _)⟩
end Go.Proofs.Ytmdkmobcglnmgaa
