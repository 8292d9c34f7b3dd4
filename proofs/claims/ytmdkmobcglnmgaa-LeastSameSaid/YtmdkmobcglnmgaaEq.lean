/- Two slices held against each other, element by element: the answer is whether the lists are the same. No conditions. -/
import Derived.Test.YtmdkmobcglnmgaaProg
import Derived.Test.YtmdkmobcglnmgaaBaseA
namespace Go.Proofs.Ytmdkmobcglnmgaa
open Go.RowKit

theorem take_eq_step {xs ys : List Int} {k : Nat} (hx : k < xs.length) (hy : k < ys.length) (h : xs.take k = ys.take k) (he : nth xs k = nth ys k) : xs.take (k + 1) = ys.take (k + 1) := by
  rw [take_nth hx, take_nth hy, h, he]
theorem ne_of_nth {xs ys : List Int} {k : Nat} (he : ¬ nth xs k = nth ys k) : ¬ xs = ys := fun h => he (by rw [h])
theorem eq_of_take {xs ys : List Int} (hl : xs.length = ys.length) (h : xs.take xs.length = ys.take xs.length) : xs = ys := by
  rw [List.take_length, hl, List.take_length] at h; exact h

set_option maxHeartbeats 400000 in
theorem f18_any (S S' : Nat → Prop) (va vb : Value) (xs ys : List Int) (w : World) (ha : IsNums .i64 w S va xs) (hb : IsNums .i64 w S' vb ys) :
    Calls Try.prog 18 #[va, vb] w fun e w' => e = .returned (.bool (decide (xs = ys))) ∧ ∃ n, w' = w.drewN n := by
  have hla := ha.le
  obtain ⟨A, cA, rfl, _, _, hA⟩ := ha
  obtain ⟨B, cB, rfl, _, _, hB⟩ := hb
  by_cases hlen : xs.length = ys.length
  · have HL := hid hlen
    have h1 : ((xs.length : Int) != (ys.length : Int)) = false := by simp [hlen]
    clear hlen
    go_enter Try.func18, Try.ntmps18
    go_wp2
    go_loopw [5] (fun i wr => ∃ k : Nat, k ≤ xs.length ∧ i = .int .i64 k ∧ Hid (xs.take k = ys.take k) ∧ (∃ n, wr = w.drewN n)) (fun i _ => xs.length - (intOf i).toNat)
    case atStart => exact ⟨0, by omega, rfl, rfl, 0, rfl⟩
    case round =>
      obtain ⟨k, hk, rfl, hT, n, rfl⟩ := hrel
      by_cases hlt : k < xs.length
      · obtain ⟨b, o, rfl, _, _, hc1⟩ := hA.num hlt
        have hlt2 : k < ys.length := by rw [← HL.out]; exact hlt
        obtain ⟨b2, o2, rfl, _, _, hc2⟩ := hB.num hlt2
        by_cases he : nth xs k = nth ys k
        · have heb : (nth xs k != nth ys k) = false := by simpa using he
          have HE := hid he
          clear he
          go_wp2
          go_quiet (fail)
          go_wp2
          go_roundw
          case rel => exact ⟨k + 1, by omega, by go_num, take_eq_step hlt hlt2 hT.out HE.out, _, rfl⟩
          case measure => simp [intOf]; omega
        · have heb : (nth xs k != nth ys k) = true := by simpa using he
          have hne := hid (ne_of_nth he)
          clear he
          go_wp2
          go_quiet (fail)
          go_wp2
          go_ret
          exact ⟨ret_bool (by simpa using hne.out), _, by first | rfl | exact World.drewN_drewN _ _ _⟩
      · obtain rfl : k = xs.length := by omega
        have HX := hid (eq_of_take HL.out hT.out)
        go_wp2
        go_ret
        exact ⟨ret_bool (by simpa using HX.out), _, rfl⟩
  · have h1 : ((xs.length : Int) != (ys.length : Int)) = true := by simp; omega
    have hne := hid (show ¬ xs = ys from fun h => hlen (by rw [h]))
    clear hlen
    go_enter Try.func18, Try.ntmps18
    go_wp2
    go_ret
    exact ⟨ret_bool (by simpa using hne.out), 0, rfl⟩
set_option maxHeartbeats 400000 in
theorem f52_any (S S' : Nat → Prop) (va vb : Value) (xs ys : List Int) (w : World) (ha : IsNums .i64 w S va xs) (hb : IsNums .i64 w S' vb ys) :
    Calls Try.prog 52 #[va, vb] w fun e w' => e = .returned (.bool (decide (xs = ys))) ∧ ∃ n, w' = w.drewN n := by
  have hla := ha.le
  obtain ⟨A, cA, rfl, _, _, hA⟩ := ha
  obtain ⟨B, cB, rfl, _, _, hB⟩ := hb
  by_cases hlen : xs.length = ys.length
  · have HL := hid hlen
    have h1 : ((xs.length : Int) != (ys.length : Int)) = false := by simp [hlen]
    clear hlen
    go_enter Try.func52, Try.ntmps52
    go_wp2
    go_loopw [5] (fun i wr => ∃ k : Nat, k ≤ xs.length ∧ i = .int .i64 k ∧ Hid (xs.take k = ys.take k) ∧ (∃ n, wr = w.drewN n)) (fun i _ => xs.length - (intOf i).toNat)
    case atStart => exact ⟨0, by omega, rfl, rfl, 0, rfl⟩
    case round =>
      obtain ⟨k, hk, rfl, hT, n, rfl⟩ := hrel
      by_cases hlt : k < xs.length
      · obtain ⟨b, o, rfl, _, _, hc1⟩ := hA.num hlt
        have hlt2 : k < ys.length := by rw [← HL.out]; exact hlt
        obtain ⟨b2, o2, rfl, _, _, hc2⟩ := hB.num hlt2
        by_cases he : nth xs k = nth ys k
        · have heb : (nth xs k != nth ys k) = false := by simpa using he
          have HE := hid he
          clear he
          go_wp2
          go_quiet (fail)
          go_wp2
          go_roundw
          case rel => exact ⟨k + 1, by omega, by go_num, take_eq_step hlt hlt2 hT.out HE.out, _, rfl⟩
          case measure => simp [intOf]; omega
        · have heb : (nth xs k != nth ys k) = true := by simpa using he
          have hne := hid (ne_of_nth he)
          clear he
          go_wp2
          go_quiet (fail)
          go_wp2
          go_ret
          exact ⟨ret_bool (by simpa using hne.out), _, by first | rfl | exact World.drewN_drewN _ _ _⟩
      · obtain rfl : k = xs.length := by omega
        have HX := hid (eq_of_take HL.out hT.out)
        go_wp2
        go_ret
        exact ⟨ret_bool (by simpa using HX.out), _, rfl⟩
  · have h1 : ((xs.length : Int) != (ys.length : Int)) = true := by simp; omega
    have hne := hid (show ¬ xs = ys from fun h => hlen (by rw [h]))
    clear hlen
    go_enter Try.func52, Try.ntmps52
    go_wp2
    go_ret
    exact ⟨ret_bool (by simpa using hne.out), 0, rfl⟩
set_option maxHeartbeats 400000 in
theorem f62_any (S S' : Nat → Prop) (va vb : Value) (xs ys : List Int) (w : World) (ha : IsNums .i64 w S va xs) (hb : IsNums .i64 w S' vb ys) :
    Calls Try.prog 62 #[va, vb] w fun e w' => e = .returned (.bool (decide (xs = ys))) ∧ ∃ n, w' = w.drewN n := by
  have hla := ha.le
  obtain ⟨A, cA, rfl, _, _, hA⟩ := ha
  obtain ⟨B, cB, rfl, _, _, hB⟩ := hb
  by_cases hlen : xs.length = ys.length
  · have HL := hid hlen
    have h1 : ((xs.length : Int) != (ys.length : Int)) = false := by simp [hlen]
    clear hlen
    go_enter Try.func62, Try.ntmps62
    go_wp2
    go_loopw [13] (fun i wr => ∃ k : Nat, k ≤ xs.length ∧ i = .int .i64 k ∧ Hid (xs.take k = ys.take k) ∧ (∃ n, wr = w.drewN n)) (fun i _ => xs.length - (intOf i).toNat)
    case atStart => exact ⟨0, by omega, rfl, rfl, 0, rfl⟩
    case round =>
      obtain ⟨k, hk, rfl, hT, n, rfl⟩ := hrel
      by_cases hlt : k < xs.length
      · obtain ⟨b, o, rfl, _, _, hc1⟩ := hA.num hlt
        have hlt2 : k < ys.length := by rw [← HL.out]; exact hlt
        obtain ⟨b2, o2, rfl, _, _, hc2⟩ := hB.num hlt2
        by_cases he : nth xs k = nth ys k
        · have heb : (nth xs k != nth ys k) = false := by simpa using he
          have HE := hid he
          clear he
          go_wp2
          go_quiet (fail)
          go_wp2
          go_roundw
          case rel => exact ⟨k + 1, by omega, by go_num, take_eq_step hlt hlt2 hT.out HE.out, _, rfl⟩
          case measure => simp [intOf]; omega
        · have heb : (nth xs k != nth ys k) = true := by simpa using he
          have hne := hid (ne_of_nth he)
          clear he
          go_wp2
          go_quiet (fail)
          go_wp2
          go_ret
          exact ⟨ret_bool (by simpa using hne.out), _, by first | rfl | exact World.drewN_drewN _ _ _⟩
      · obtain rfl : k = xs.length := by omega
        have HX := hid (eq_of_take HL.out hT.out)
        go_wp2
        go_ret
        exact ⟨ret_bool (by simpa using HX.out), _, rfl⟩
  · have h1 : ((xs.length : Int) != (ys.length : Int)) = true := by simp; omega
    have hne := hid (show ¬ xs = ys from fun h => hlen (by rw [h]))
    clear hlen
    go_enter Try.func62, Try.ntmps62
    go_wp2
    go_ret
    exact ⟨ret_bool (by simpa using hne.out), 0, rfl⟩
set_option maxHeartbeats 400000 in
theorem f60_any (S S' : Nat → Prop) (va vb : Value) (xs ys : List Int) (w : World) (ha : IsNums .u64 w S va xs) (hb : IsNums .u64 w S' vb ys) :
    Calls Try.prog 60 #[va, vb] w fun e w' => e = .returned (.bool (decide (xs = ys))) ∧ ∃ n, w' = w.drewN n := by
  have hla := ha.le
  obtain ⟨A, cA, rfl, _, _, hA⟩ := ha
  obtain ⟨B, cB, rfl, _, _, hB⟩ := hb
  by_cases hlen : xs.length = ys.length
  · have HL := hid hlen
    have h1 : ((xs.length : Int) != (ys.length : Int)) = false := by simp [hlen]
    clear hlen
    go_enter Try.func60, Try.ntmps60
    go_wp2
    go_loopw [13] (fun i wr => ∃ k : Nat, k ≤ xs.length ∧ i = .int .i64 k ∧ Hid (xs.take k = ys.take k) ∧ (∃ n, wr = w.drewN n)) (fun i _ => xs.length - (intOf i).toNat)
    case atStart => exact ⟨0, by omega, rfl, rfl, 0, rfl⟩
    case round =>
      obtain ⟨k, hk, rfl, hT, n, rfl⟩ := hrel
      by_cases hlt : k < xs.length
      · obtain ⟨b, o, rfl, _, _, hc1⟩ := hA.num hlt
        have hlt2 : k < ys.length := by rw [← HL.out]; exact hlt
        obtain ⟨b2, o2, rfl, _, _, hc2⟩ := hB.num hlt2
        by_cases he : nth xs k = nth ys k
        · have heb : (nth xs k != nth ys k) = false := by simpa using he
          have HE := hid he
          clear he
          go_wp2
          go_quiet (fail)
          go_wp2
          go_roundw
          case rel => exact ⟨k + 1, by omega, by go_num, take_eq_step hlt hlt2 hT.out HE.out, _, rfl⟩
          case measure => simp [intOf]; omega
        · have heb : (nth xs k != nth ys k) = true := by simpa using he
          have hne := hid (ne_of_nth he)
          clear he
          go_wp2
          go_quiet (fail)
          go_wp2
          go_ret
          exact ⟨ret_bool (by simpa using hne.out), _, by first | rfl | exact World.drewN_drewN _ _ _⟩
      · obtain rfl : k = xs.length := by omega
        have HX := hid (eq_of_take HL.out hT.out)
        go_wp2
        go_ret
        exact ⟨ret_bool (by simpa using HX.out), _, rfl⟩
  · have h1 : ((xs.length : Int) != (ys.length : Int)) = true := by simp; omega
    have hne := hid (show ¬ xs = ys from fun h => hlen (by rw [h]))
    clear hlen
    go_enter Try.func60, Try.ntmps60
    go_wp2
    go_ret
    exact ⟨ret_bool (by simpa using hne.out), 0, rfl⟩
end Go.Proofs.Ytmdkmobcglnmgaa
