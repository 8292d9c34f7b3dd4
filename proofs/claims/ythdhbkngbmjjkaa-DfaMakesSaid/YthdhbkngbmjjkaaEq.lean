/- Two slices held against each other, element by element: the answer is whether the lists are the same. No conditions. -/
import Derived.Test.YthdhbkngbmjjkaaProg
import Derived.Test.YthdhbkngbmjjkaaBaseA
namespace Go.Proofs.Ythdhbkngbmjjkaa
open Go.RowKit

theorem take_eq_step {xs ys : List Int} {k : Nat} (hx : k < xs.length) (hy : k < ys.length) (h : xs.take k = ys.take k) (he : nth xs k = nth ys k) : xs.take (k + 1) = ys.take (k + 1) := by
  rw [take_nth hx, take_nth hy, h, he]
theorem ne_of_nth {xs ys : List Int} {k : Nat} (he : ¬ nth xs k = nth ys k) : ¬ xs = ys := fun h => he (by rw [h])
theorem eq_of_take {xs ys : List Int} (hl : xs.length = ys.length) (h : xs.take xs.length = ys.take xs.length) : xs = ys := by
  rw [List.take_length, hl, List.take_length] at h; exact h

set_option maxHeartbeats 400000 in
theorem f18_any (S S' : Nat → Prop) (va vb : Value) (xs ys : List Int) (w : World) (ha : IsNums .i64 w S va xs) (hb : IsNums .i64 w S' vb ys) :
    Calls Try.prog 21 #[va, vb] w fun e w' => e = .returned (.bool (decide (xs = ys))) ∧ ∃ n, w' = w.drewN n := by
  have hla := ha.le
  obtain ⟨A, cA, rfl, _, _, hA⟩ := ha
  obtain ⟨B, cB, rfl, _, _, hB⟩ := hb
  by_cases hlen : xs.length = ys.length
  · have HL := hid hlen
    have h1 : ((xs.length : Int) != (ys.length : Int)) = false := by simp [hlen]
    clear hlen
    go_enter Try.func21, Try.ntmps21
    go_wp2
    go_loopw [5] (fun i wr => ∃ k : Nat, k ≤ xs.length ∧ i = .int .i64 k ∧ Hid (xs.take k = ys.take k) ∧ (∃ n, wr = w.drewN n)) (fun i _ => xs.length - (intOf i).toNat)
    case atStart => exact ⟨0, by omega, rfl, rfl, 0, rfl⟩
    case round =>
      obtain ⟨k, hk, rfl, hT, n, rfl⟩ := hrel
      by_cases hlt : k < xs.length
      · obtain ⟨b, o, rfl, _, _, hc1⟩ := hA.num hlt
        have hlt2 : k < ys.length := by rw [← HL.out]; exact hlt
        obtain ⟨b2, o2, rfl, _, _, hc2⟩ := hB.num hlt2
        by_cases he : nth xs k = nth ys k
        · have heb : (nth xs k != nth ys k) = false := by simpa using he
          have HE := hid he
          clear he
          go_wp2
          go_quiet (fail)
          go_wp2
          go_roundw
          case rel => exact ⟨k + 1, by omega, by go_num, take_eq_step hlt hlt2 hT.out HE.out, _, rfl⟩
          case measure => simp [intOf]; omega
        · have heb : (nth xs k != nth ys k) = true := by simpa using he
          have hne := hid (ne_of_nth he)
          clear he
          go_wp2
          go_quiet (fail)
          go_wp2
          go_ret
          exact ⟨ret_bool (by simpa using hne.out), _, by first | rfl | exact World.drewN_drewN _ _ _⟩
      · obtain rfl : k = xs.length := by omega
        have HX := hid (eq_of_take HL.out hT.out)
        go_wp2
        go_ret
        exact ⟨ret_bool (by simpa using HX.out), _, rfl⟩
  · have h1 : ((xs.length : Int) != (ys.length : Int)) = true := by simp; omega
    have hne := hid (show ¬ xs = ys from fun h => hlen (by rw [h]))
    clear hlen
    go_enter Try.func21, Try.ntmps21
    go_wp2
    go_ret
    exact ⟨ret_bool (by simpa using hne.out), 0, rfl⟩
set_option maxHeartbeats 400000 in
theorem f52_any (S S' : Nat → Prop) (va vb : Value) (xs ys : List Int) (w : World) (ha : IsNums .i64 w S va xs) (hb : IsNums .i64 w S' vb ys) :
    Calls Try.prog 64 #[va, vb] w fun e w' => e = .returned (.bool (decide (xs = ys))) ∧ ∃ n, w' = w.drewN n := by
  have hla := ha.le
  obtain ⟨A, cA, rfl, _, _, hA⟩ := ha
  obtain ⟨B, cB, rfl, _, _, hB⟩ := hb
  by_cases hlen : xs.length = ys.length
  · have HL := hid hlen
    have h1 : ((xs.length : Int) != (ys.length : Int)) = false := by simp [hlen]
    clear hlen
    go_enter Try.func64, Try.ntmps64
    go_wp2
    go_loopw [5] (fun i wr => ∃ k : Nat, k ≤ xs.length ∧ i = .int .i64 k ∧ Hid (xs.take k = ys.take k) ∧ (∃ n, wr = w.drewN n)) (fun i _ => xs.length - (intOf i).toNat)
    case atStart => exact ⟨0, by omega, rfl, rfl, 0, rfl⟩
    case round =>
      obtain ⟨k, hk, rfl, hT, n, rfl⟩ := hrel
      by_cases hlt : k < xs.length
      · obtain ⟨b, o, rfl, _, _, hc1⟩ := hA.num hlt
        have hlt2 : k < ys.length := by rw [← HL.out]; exact hlt
        obtain ⟨b2, o2, rfl, _, _, hc2⟩ := hB.num hlt2
        by_cases he : nth xs k = nth ys k
        · have heb : (nth xs k != nth ys k) = false := by simpa using he
          have HE := hid he
          clear he
          go_wp2
          go_quiet (fail)
          go_wp2
          go_roundw
          case rel => exact ⟨k + 1, by omega, by go_num, take_eq_step hlt hlt2 hT.out HE.out, _, rfl⟩
          case measure => simp [intOf]; omega
        · have heb : (nth xs k != nth ys k) = true := by simpa using he
          have hne := hid (ne_of_nth he)
          clear he
          go_wp2
          go_quiet (fail)
          go_wp2
          go_ret
          exact ⟨ret_bool (by simpa using hne.out), _, by first | rfl | exact World.drewN_drewN _ _ _⟩
      · obtain rfl : k = xs.length := by omega
        have HX := hid (eq_of_take HL.out hT.out)
        go_wp2
        go_ret
        exact ⟨ret_bool (by simpa using HX.out), _, rfl⟩
  · have h1 : ((xs.length : Int) != (ys.length : Int)) = true := by simp; omega
    have hne := hid (show ¬ xs = ys from fun h => hlen (by rw [h]))
    clear hlen
    go_enter Try.func64, Try.ntmps64
    go_wp2
    go_ret
    exact ⟨ret_bool (by simpa using hne.out), 0, rfl⟩
set_option maxHeartbeats 400000 in
theorem f62_any (S S' : Nat → Prop) (va vb : Value) (xs ys : List Int) (w : World) (ha : IsNums .i64 w S va xs) (hb : IsNums .i64 w S' vb ys) :
    Calls Try.prog 70 #[va, vb] w fun e w' => e = .returned (.bool (decide (xs = ys))) ∧ ∃ n, w' = w.drewN n := by
  have hla := ha.le
  obtain ⟨A, cA, rfl, _, _, hA⟩ := ha
  obtain ⟨B, cB, rfl, _, _, hB⟩ := hb
  by_cases hlen : xs.length = ys.length
  · have HL := hid hlen
    have h1 : ((xs.length : Int) != (ys.length : Int)) = false := by simp [hlen]
    clear hlen
    go_enter Try.func70, Try.ntmps70
    go_wp2
    go_loopw [13] (fun i wr => ∃ k : Nat, k ≤ xs.length ∧ i = .int .i64 k ∧ Hid (xs.take k = ys.take k) ∧ (∃ n, wr = w.drewN n)) (fun i _ => xs.length - (intOf i).toNat)
    case atStart => exact ⟨0, by omega, rfl, rfl, 0, rfl⟩
    case round =>
      obtain ⟨k, hk, rfl, hT, n, rfl⟩ := hrel
      by_cases hlt : k < xs.length
      · obtain ⟨b, o, rfl, _, _, hc1⟩ := hA.num hlt
        have hlt2 : k < ys.length := by rw [← HL.out]; exact hlt
        obtain ⟨b2, o2, rfl, _, _, hc2⟩ := hB.num hlt2
        by_cases he : nth xs k = nth ys k
        · have heb : (nth xs k != nth ys k) = false := by simpa using he
          have HE := hid he
          clear he
          go_wp2
          go_quiet (fail)
          go_wp2
          go_roundw
          case rel => exact ⟨k + 1, by omega, by go_num, take_eq_step hlt hlt2 hT.out HE.out, _, rfl⟩
          case measure => simp [intOf]; omega
        · have heb : (nth xs k != nth ys k) = true := by simpa using he
          have hne := hid (ne_of_nth he)
          clear he
          go_wp2
          go_quiet (fail)
          go_wp2
          go_ret
          exact ⟨ret_bool (by simpa using hne.out), _, by first | rfl | exact World.drewN_drewN _ _ _⟩
      · obtain rfl : k = xs.length := by omega
        have HX := hid (eq_of_take HL.out hT.out)
        go_wp2
        go_ret
        exact ⟨ret_bool (by simpa using HX.out), _, rfl⟩
  · have h1 : ((xs.length : Int) != (ys.length : Int)) = true := by simp; omega
    have hne := hid (show ¬ xs = ys from fun h => hlen (by rw [h]))
    clear hlen
    go_enter Try.func70, Try.ntmps70
    go_wp2
    go_ret
    exact ⟨ret_bool (by simpa using hne.out), 0, rfl⟩
set_option maxHeartbeats 400000 in
theorem f60_any (S S' : Nat → Prop) (va vb : Value) (xs ys : List Int) (w : World) (ha : IsNums .u64 w S va xs) (hb : IsNums .u64 w S' vb ys) :
    Calls Try.prog 68 #[va, vb] w fun e w' => e = .returned (.bool (decide (xs = ys))) ∧ ∃ n, w' = w.drewN n := by
  have hla := ha.le
  obtain ⟨A, cA, rfl, _, _, hA⟩ := ha
  obtain ⟨B, cB, rfl, _, _, hB⟩ := hb
  by_cases hlen : xs.length = ys.length
  · have HL := hid hlen
    have h1 : ((xs.length : Int) != (ys.length : Int)) = false := by simp [hlen]
    clear hlen
    go_enter Try.func68, Try.ntmps68
    go_wp2
    go_loopw [13] (fun i wr => ∃ k : Nat, k ≤ xs.length ∧ i = .int .i64 k ∧ Hid (xs.take k = ys.take k) ∧ (∃ n, wr = w.drewN n)) (fun i _ => xs.length - (intOf i).toNat)
    case atStart => exact ⟨0, by omega, rfl, rfl, 0, rfl⟩
    case round =>
      obtain ⟨k, hk, rfl, hT, n, rfl⟩ := hrel
      by_cases hlt : k < xs.length
      · obtain ⟨b, o, rfl, _, _, hc1⟩ := hA.num hlt
        have hlt2 : k < ys.length := by rw [← HL.out]; exact hlt
        obtain ⟨b2, o2, rfl, _, _, hc2⟩ := hB.num hlt2
        by_cases he : nth xs k = nth ys k
        · have heb : (nth xs k != nth ys k) = false := by simpa using he
          have HE := hid he
          clear he
          go_wp2
          go_quiet (fail)
          go_wp2
          go_roundw
          case rel => exact ⟨k + 1, by omega, by go_num, take_eq_step hlt hlt2 hT.out HE.out, _, rfl⟩
          case measure => simp [intOf]; omega
        · have heb : (nth xs k != nth ys k) = true := by simpa using he
          have hne := hid (ne_of_nth he)
          clear he
          go_wp2
          go_quiet (fail)
          go_wp2
          go_ret
          exact ⟨ret_bool (by simpa using hne.out), _, by first | rfl | exact World.drewN_drewN _ _ _⟩
      · obtain rfl : k = xs.length := by omega
        have HX := hid (eq_of_take HL.out hT.out)
        go_wp2
        go_ret
        exact ⟨ret_bool (by simpa using HX.out), _, rfl⟩
  · have h1 : ((xs.length : Int) != (ys.length : Int)) = true := by simp; omega
    have hne := hid (show ¬ xs = ys from fun h => hlen (by rw [h]))
    clear hlen
    go_enter Try.func68, Try.ntmps68
    go_wp2
    go_ret
    exact ⟨ret_bool (by simpa using hne.out), 0, rfl⟩
end Go.Proofs.Ythdhbkngbmjjkaa
namespace Go.Proofs.Ythdhbkngbmjjkaa
open Go.RowKit

def greatB (d : D) : Bool := decide (20 < d.next.length) || decide (20 < d.tells.length) || d.next.any fun r => decide (60 < r.length)

set_option maxHeartbeats 400000 in
theorem dgreat_any (S : Nat → Prop) (v : Value) (d : D) (w : World) (h : IsD w S v d) :
    Calls Try.prog 36 #[v] w fun e w' => e = .returned (.bool (greatB d)) ∧ Below w.heap.size w w' := by
  obtain ⟨nv, tv, rfl, hn, ht⟩ := h
  obtain ⟨A, cA, vs, rfl, hl, hA, hR⟩ := hn.open
  have htl := ht.le
  obtain ⟨B, cB, rfl, _, _, hB⟩ := ht
  have H := hid hR
  have HA := hid hA
  clear hn hR hA hB
  by_cases h1 : 20 < d.next.length
  · have hr := hid (show greatB d = true by simp [greatB, h1])
    go_enter Try.func36, Try.ntmps36
    go_wp2
    go_ret
    exact ⟨ret_bool hr.out.symm, (Below.refl _ _).alloc (Nat.le_refl _) _⟩
  · by_cases h2 : 20 < d.tells.length
    · have hr := hid (show greatB d = true by simp [greatB, h2])
      go_enter Try.func36, Try.ntmps36
      go_wp2
      go_ret
      exact ⟨ret_bool hr.out.symm, (Below.refl _ _).alloc (Nat.le_refl _) _⟩
    · go_enter Try.func36, Try.ntmps36
      go_wp2
      go_loop [3] (fun i => ∃ k : Nat, k ≤ d.next.length ∧ i = .int .i64 k ∧ Hid (∀ r ∈ d.next.take k, ¬ 60 < r.length)) (fun i => d.next.length - (intOf i).toNat)
      case atStart => exact ⟨0, by omega, rfl, by intro r hr; simp at hr⟩
      case round =>
        obtain ⟨k, hk, rfl, hT⟩ := hrel
        by_cases hlt : k < d.next.length
        · obtain ⟨b, o, A', c', rfl, _, hb, hc, _, _, _, _⟩ := H.out.at HA.out hlt
          by_cases h3 : 60 < (row d.next k).length
          · have hr := hid (show greatB d = true by
              have : d.next.any (fun r => decide (60 < r.length)) = true := List.any_eq_true.2 ⟨_, row_mem hlt, by simpa using h3⟩
              simp [greatB, this])
            go_wp2
            go_ret
            exact ⟨ret_bool hr.out.symm, (Below.refl _ _).alloc (Nat.le_refl _) _⟩
          · have hT' : Hid (∀ r ∈ d.next.take (k + 1), ¬ 60 < r.length) := by
              intro r hr
              rw [take_row hlt, List.mem_append] at hr
              rcases hr with hr | hr
              · exact hT.out r hr
              · obtain rfl := List.mem_singleton.1 hr; exact h3
            go_wp2
            go_round
            case rel => exact ⟨k + 1, by omega, by go_num, hT'⟩
            case measure => simp [intOf]; omega
        · obtain rfl : k = d.next.length := by omega
          have hr := hid (show greatB d = false by
            have hT := hT.out
            rw [List.take_length] at hT
            have : d.next.any (fun r => decide (60 < r.length)) = false := by
              rw [List.any_eq_false]; intro r hr; simpa using hT r hr
            simp [greatB, this]; omega)
          go_wp2
          go_ret
          exact ⟨ret_bool hr.out.symm, (Below.refl _ _).alloc (Nat.le_refl _) _⟩

set_option maxHeartbeats 400000 in
theorem dto_any (A B : Option Addr) (n c m c' : Nat) (w : World) :
    Calls Try.prog 37 #[.agg #[.slice A n c, .slice B m c']] w fun e w' => e = .returned (.agg #[.slice A n c, .slice B m c']) ∧ Below w.heap.size w w' := by
  go_enter Try.func37, Try.ntmps37
  go_wp2
  exact bodyPost_ret (v := .agg #[.slice A n c, .slice B m c']) (by simp [results, Try.results37, go_sem]) rfl ⟨rfl, ((Below.refl _ _).alloc (Nat.le_refl _) _).alloc (by simp) _⟩

def rightB (d : D) : Bool := decide (1 ≤ d.next.length) && decide (d.next.length ≤ 1000) && decide (d.tells.length = d.next.length) && d.next.all fun r => decide (r.length = 37) && r.all fun z => decide (0 ≤ z) && decide (z < d.next.length)
def rowOk (n : Nat) (r : List Int) : Bool := decide (r.length = 37) && r.all fun z => decide (0 ≤ z) && decide (z < n)
def valB (n : Nat) (z : Int) : Bool := decide (0 ≤ z) && decide (z < n)
theorem rightB_eq (d : D) : rightB d = (decide (1 ≤ d.next.length) && decide (d.next.length ≤ 1000) && decide (d.tells.length = d.next.length) && d.next.all (rowOk d.next.length)) := rfl
theorem rowOk_eq (n : Nat) (r : List Int) : rowOk n r = (decide (r.length = 37) && r.all (valB n)) := rfl

theorem all_take_succ {α : Type} (p : α → Bool) (l : List α) (k : Nat) (x : α) (h : l[k]? = some x) : (l.take (k + 1)).all p = ((l.take k).all p && p x) := by
  rw [List.take_add_one, h]; simp
theorem all_take_le {α : Type} (p : α → Bool) (l : List α) (k : Nat) (h : (l.take k).all p = false) : l.all p = false := by
  rw [← List.take_append_drop k l, List.all_append, h]; rfl

set_option maxHeartbeats 400000 in
theorem refRight_any (S : Nat → Prop) (v : Value) (d : D) (w : World) (h : IsD w S v d) :
    Calls Try.prog 38 #[v] w fun e w' => e = .returned (.bool (rightB d)) ∧ Below w.heap.size w w' := by
  obtain ⟨nv, tv, rfl, hn, ht⟩ := h
  obtain ⟨A, cA, vs, rfl, hl, hA, hR⟩ := hn.open
  have htl := ht.le
  obtain ⟨B, cB, rfl, _, _, hB⟩ := ht
  have H := hid hR
  have HA := hid hA
  clear hn hR hA hB
  obtain ⟨ok0, hok⟩ : ∃ b, (decide (1 ≤ d.next.length) && decide (d.next.length ≤ 1000) && decide (d.tells.length = d.next.length)) = b := ⟨_, rfl⟩
  have HOK := hid hok
  clear hok
  have h00 : (1 ≤ (d.next.length : Int) ∧ (d.next.length : Int) ≤ 1000) ∨ ¬ 1 ≤ (d.next.length : Int) ∨ ¬ (d.next.length : Int) ≤ 1000 := by omega
  by_cases h1 : 1 ≤ d.next.length ∧ d.next.length ≤ 1000
  · obtain ⟨h1, h2⟩ := h1
    have h1i : 1 ≤ (d.next.length : Int) := by omega
    have h2i : (d.next.length : Int) ≤ 1000 := by omega
    have hb0 := hid (show ((d.tells.length : Int) == (d.next.length : Int)) = ok0 by
      have := HOK.out
      simp [h1, h2] at this
      rw [← this, Bool.eq_iff_iff]; simp; omega)
    clear h00
    go_enter Try.func38, Try.ntmps38
    go_wp2_with fail
    go_loop [4, 5] (fun s4 s5 => ∃ (k : Nat) (ok : Bool), k ≤ d.next.length ∧ s5 = .int .i64 k ∧ s4 = .bool ok ∧ Hid (ok = (ok0 && (d.next.take k).all (rowOk d.next.length)))) (fun _ s5 => d.next.length - (intOf s5).toNat)
    case atStart => exact ⟨0, _, by omega, rfl, rfl, by show _ = _; rw [hb0.out]; simp⟩
    case round =>
      obtain ⟨k, ok, hk, rfl, rfl, hT⟩ := hrel
      by_cases hlt : k < d.next.length
      · obtain ⟨b, o, A', c', rfl, _, hb, hc, hrl, _, _, hA'⟩ := H.out.at HA.out hlt
        have HA' := hid hA'
        clear hA'
        cases ok with
        | false =>
          have hr := hid (show rightB d = false by
            rw [rightB_eq, HOK.out, Bool.and_eq_false_iff]
            have := hT.out
            cases ok0 with
            | false => exact .inl rfl
            | true => exact .inr (all_take_le _ _ k (by simpa using this.symm)))
          go_wp2
          go_ret
          exact ⟨ret_bool hr.out.symm, (Below.refl _ _).alloc (Nat.le_refl _) _⟩
        | true =>
          obtain ⟨okr, hokr⟩ : ∃ b, (((row d.next k).length : Int) == 37) = b := ⟨_, rfl⟩
          have hokr' := hid (show decide ((row d.next k).length = 37) = okr by rw [← hokr, Bool.eq_iff_iff]; simp; omega)
          go_wp2_with fail
          go_loop [4, 6] (fun s4 s6 => ∃ (j : Nat) (ok : Bool), j ≤ (row d.next k).length ∧ s6 = .int .i64 j ∧ s4 = .bool ok ∧ Hid (ok = (okr && ((row d.next k).take j).all (valB d.next.length)))) (fun _ s6 => (row d.next k).length - (intOf s6).toNat)
          case atStart => exact ⟨0, _, by omega, rfl, rfl, by show _ = _; simp⟩
          case round =>
            obtain ⟨j, ok, hj, rfl, rfl, hT2⟩ := hrel
            by_cases hjt : j < (row d.next k).length
            · obtain ⟨b2, o2, rfl, _, hb2, hc2⟩ := HA'.out.num hjt
              have hst := hid (all_take_succ (valB d.next.length) (row d.next k) j _ (some_nth hjt))
              cases ok with
              | false =>
                go_wp2
                go_round
                case rel => exact ⟨j + 1, false, by omega, by go_num, rfl, by show _ = _; rw [hst.out, ← Bool.and_assoc, ← hT2.out]; rfl⟩
                case measure => simp [intOf]; omega
              | true =>
                by_cases hz : 0 ≤ nth (row d.next k) j
                · go_wp2
                  go_round
                  case rel => exact ⟨j + 1, _, by omega, by go_num, rfl, by show _ = _; rw [hst.out, ← Bool.and_assoc, ← hT2.out]; simp [valB, hz]⟩
                  case measure => simp [intOf]; omega
                · go_wp2
                  go_round
                  case rel => exact ⟨j + 1, _, by omega, by go_num, rfl, by show _ = _; rw [hst.out, ← Bool.and_assoc, ← hT2.out]; simp [valB, hz]⟩
                  case measure => simp [intOf]; omega
            · obtain rfl : j = (row d.next k).length := by omega
              have hst := hid (all_take_succ (rowOk d.next.length) d.next k _ (some_row hlt))
              go_wp2
              go_round
              case rel => exact ⟨k + 1, ok, by omega, by go_num, rfl, by
                show _ = _
                rw [hst.out, ← Bool.and_assoc, ← hT.out, hT2.out, rowOk_eq, hokr'.out, List.take_length]; rfl⟩
              case measure => simp [intOf]; omega
      · obtain rfl : k = d.next.length := by omega
        have hr := hid (show rightB d = ok by rw [rightB_eq, HOK.out, hT.out, List.take_length])
        go_wp2
        go_ret
        exact ⟨ret_bool hr.out.symm, (Below.refl _ _).alloc (Nat.le_refl _) _⟩
  · have hr := hid (show rightB d = false by
      rw [rightB_eq]
      have : (decide (1 ≤ d.next.length) && decide (d.next.length ≤ 1000)) = false := by simp; omega
      rw [this]; rfl)
    by_cases h2 : 1 ≤ (d.next.length : Int)
    · have h3 : ¬ (d.next.length : Int) ≤ 1000 := by omega
      clear h00 h1
      go_enter Try.func38, Try.ntmps38
      go_wp2_with fail
      refine wp_loop_once ?_
      go_wp2
      go_ret
      exact ⟨ret_bool hr.out.symm, (Below.refl _ _).alloc (Nat.le_refl _) _⟩
    · clear h00 h1
      go_enter Try.func38, Try.ntmps38
      go_wp2_with fail
      refine wp_loop_once ?_
      go_wp2
      go_ret
      exact ⟨ret_bool hr.out.symm, (Below.refl _ _).alloc (Nat.le_refl _) _⟩
end Go.Proofs.Ythdhbkngbmjjkaa
namespace Go.Proofs.Ythdhbkngbmjjkaa
open Go.RowKit

def minL : List Int → Int
  | [] => 0
  | z :: r => r.foldl (fun a b => if b < a then b else a) z
def maxL : List Int → Int
  | [] => 0
  | z :: r => r.foldl (fun a b => if a < b then b else a) z
theorem minL_snoc (l : List Int) (h : l ≠ []) (x : Int) : minL (l ++ [x]) = if x < minL l then x else minL l := by
  cases l with
  | nil => exact absurd rfl h
  | cons z r => simp only [minL, List.cons_append, List.foldl_append]; rfl
theorem maxL_snoc (l : List Int) (h : l ≠ []) (x : Int) : maxL (l ++ [x]) = if maxL l < x then x else maxL l := by
  cases l with
  | nil => exact absurd rfl h
  | cons z r => simp only [maxL, List.cons_append, List.foldl_append]; rfl

set_option maxHeartbeats 400000 in
theorem min_any (S : Nat → Prop) (v : Value) (zs : List Int) (w : World) (h : IsNums .i64 w S v zs) (hn : 0 < zs.length) :
    Calls Try.prog 66 #[v] w fun e w' => e = .returned (.int .i64 (minL zs)) ∧ Below w.heap.size w w' := by
  have hl := h.le
  obtain ⟨A, c, rfl, _, _, hA⟩ := h
  obtain ⟨b0, o0, rfl, _, _, hc0⟩ := hA.num hn
  rw [Nat.add_zero] at hc0
  have hn0 : (0 : Int) < (zs.length : Int) := by omega
  have HA := hid hA
  clear hA
  go_enter Try.func66, Try.ntmps66
  go_wp2
  go_loop [3, 4] (fun m i => ∃ k : Nat, 1 ≤ k ∧ k ≤ zs.length ∧ i = .int .i64 k ∧ m = .int .i64 (minL (zs.take k))) (fun _ i => zs.length - (intOf i).toNat)
  case atStart => exact ⟨1, by omega, by omega, rfl, by rw [take_nth hn]; rfl⟩
  case round =>
    obtain ⟨k, hk1, hk, rfl, rfl⟩ := hrel
    by_cases hlt : k < zs.length
    · obtain ⟨b, o, e, _, _, hc⟩ := HA.out.num hlt
      obtain ⟨rfl, rfl⟩ : b0 = b ∧ o0 = o := by simpa using e
      clear e
      have hst := hid (show minL (zs.take (k + 1)) = if nth zs k < minL (zs.take k) then nth zs k else minL (zs.take k) by
        rw [take_nth hlt, minL_snoc _ (List.ne_nil_of_length_pos (by rw [List.length_take]; omega))])
      go_wp2
      go_round
      case rel => exact ⟨k + 1, by omega, by omega, by go_num, by rw [hst.out]⟩
      case measure => simp [intOf]; omega
    · obtain rfl : k = zs.length := by omega
      go_wp2
      go_ret
      exact ⟨ret_int (by first | rfl | rw [List.take_length]), Below.refl _ _⟩
set_option maxHeartbeats 400000 in
theorem max_any (S : Nat → Prop) (v : Value) (zs : List Int) (w : World) (h : IsNums .i64 w S v zs) (hn : 0 < zs.length) :
    Calls Try.prog 67 #[v] w fun e w' => e = .returned (.int .i64 (maxL zs)) ∧ Below w.heap.size w w' := by
  have hl := h.le
  obtain ⟨A, c, rfl, _, _, hA⟩ := h
  obtain ⟨b0, o0, rfl, _, _, hc0⟩ := hA.num hn
  rw [Nat.add_zero] at hc0
  have hn0 : (0 : Int) < (zs.length : Int) := by omega
  have HA := hid hA
  clear hA
  go_enter Try.func67, Try.ntmps67
  go_wp2
  go_loop [3, 4] (fun m i => ∃ k : Nat, 1 ≤ k ∧ k ≤ zs.length ∧ i = .int .i64 k ∧ m = .int .i64 (maxL (zs.take k))) (fun _ i => zs.length - (intOf i).toNat)
  case atStart => exact ⟨1, by omega, by omega, rfl, by rw [take_nth hn]; rfl⟩
  case round =>
    obtain ⟨k, hk1, hk, rfl, rfl⟩ := hrel
    by_cases hlt : k < zs.length
    · obtain ⟨b, o, e, _, _, hc⟩ := HA.out.num hlt
      obtain ⟨rfl, rfl⟩ : b0 = b ∧ o0 = o := by simpa using e
      clear e
      have hst := hid (show maxL (zs.take (k + 1)) = if maxL (zs.take k) < nth zs k then nth zs k else maxL (zs.take k) by
        rw [take_nth hlt, maxL_snoc _ (List.ne_nil_of_length_pos (by rw [List.length_take]; omega))])
      go_wp2
      go_round
      case rel => exact ⟨k + 1, by omega, by omega, by go_num, by rw [hst.out]⟩
      case measure => simp [intOf]; omega
    · obtain rfl : k = zs.length := by omega
      go_wp2
      go_ret
      exact ⟨ret_int (by first | rfl | rw [List.take_length]), Below.refl _ _⟩
theorem minL_le (zs : List Int) : ∀ z ∈ zs, minL zs ≤ z := by
  cases zs with
  | nil => intro z h; cases h
  | cons a r =>
    have key : ∀ (l : List Int) (a : Int), (∀ z ∈ l, l.foldl (fun a b => if b < a then b else a) a ≤ z) ∧ l.foldl (fun a b => if b < a then b else a) a ≤ a := by
      intro l
      induction l with
      | nil => intro a; exact ⟨(fun z h => by cases h), Int.le_refl _⟩
      | cons x l ih =>
        intro a
        obtain ⟨h1, h2⟩ := ih (if x < a then x else a)
        have h3 : (if x < a then x else a) ≤ a ∧ (if x < a then x else a) ≤ x := by split <;> omega
        refine ⟨fun z hz => ?_, ?_⟩
        · rcases List.mem_cons.1 hz with rfl | hz
          · exact Int.le_trans h2 h3.2
          · exact h1 z hz
        · exact Int.le_trans h2 h3.1
    intro z hz
    rcases List.mem_cons.1 hz with rfl | hz
    · exact (key r z).2
    · exact (key r a).1 z hz
theorem le_maxL (zs : List Int) : ∀ z ∈ zs, z ≤ maxL zs := by
  cases zs with
  | nil => intro z h; cases h
  | cons a r =>
    have key : ∀ (l : List Int) (a : Int), (∀ z ∈ l, z ≤ l.foldl (fun a b => if a < b then b else a) a) ∧ a ≤ l.foldl (fun a b => if a < b then b else a) a := by
      intro l
      induction l with
      | nil => intro a; exact ⟨(fun z h => by cases h), Int.le_refl _⟩
      | cons x l ih =>
        intro a
        obtain ⟨h1, h2⟩ := ih (if a < x then x else a)
        have h3 : a ≤ (if a < x then x else a) ∧ x ≤ (if a < x then x else a) := by split <;> omega
        refine ⟨fun z hz => ?_, ?_⟩
        · rcases List.mem_cons.1 hz with rfl | hz
          · exact Int.le_trans h3.2 h2
          · exact h1 z hz
        · exact Int.le_trans h3.1 h2
    intro z hz
    rcases List.mem_cons.1 hz with rfl | hz
    · exact (key r z).2
    · exact (key r a).1 z hz
theorem minL_mem (zs : List Int) (h : zs ≠ []) : minL zs ∈ zs := by
  cases zs with
  | nil => exact absurd rfl h
  | cons a r =>
    have key : ∀ (l : List Int) (a : Int), l.foldl (fun a b => if b < a then b else a) a = a ∨ l.foldl (fun a b => if b < a then b else a) a ∈ l := by
      intro l
      induction l with
      | nil => intro a; exact .inl rfl
      | cons x l ih =>
        intro a
        simp only [List.foldl_cons, List.mem_cons]
        rcases ih (if x < a then x else a) with h | h
        · rw [h]; split <;> simp
        · exact .inr (.inr h)
    rcases key r a with h | h
    · show r.foldl _ a ∈ _; rw [h]; simp
    · exact List.mem_cons_of_mem _ h
theorem maxL_mem (zs : List Int) (h : zs ≠ []) : maxL zs ∈ zs := by
  cases zs with
  | nil => exact absurd rfl h
  | cons a r =>
    have key : ∀ (l : List Int) (a : Int), l.foldl (fun a b => if a < b then b else a) a = a ∨ l.foldl (fun a b => if a < b then b else a) a ∈ l := by
      intro l
      induction l with
      | nil => intro a; exact .inl rfl
      | cons x l ih =>
        intro a
        simp only [List.foldl_cons, List.mem_cons]
        rcases ih (if a < x then x else a) with h | h
        · rw [h]; split <;> simp
        · exact .inr (.inr h)
    rcases key r a with h | h
    · show r.foldl _ a ∈ _; rw [h]; simp
    · exact List.mem_cons_of_mem _ h
theorem rowOk_iff (n : Nat) (r : List Int) (hr : r.length = 37) : rowOk n r = (decide (0 ≤ minL r) && decide (maxL r < n)) := by
  have hne : r ≠ [] := by intro h; rw [h] at hr; simp at hr
  rw [rowOk_eq, Bool.eq_iff_iff]
  simp only [hr, decide_true, Bool.true_and, List.all_eq_true, valB, Bool.and_eq_true, decide_eq_true_eq]
  constructor
  · intro h
    exact ⟨(h _ (minL_mem r hne)).1, (h _ (maxL_mem r hne)).2⟩
  · rintro ⟨h1, h2⟩ z hz
    exact ⟨Int.le_trans h1 (minL_le r z hz), Int.lt_of_le_of_lt (le_maxL r z hz) h2⟩

set_option maxHeartbeats 400000 in
theorem right_any (S : Nat → Prop) (v : Value) (d : D) (w : World) (h : IsD w S v d) :
    Calls Try.prog 33 #[v] w fun e w' => e = .returned (.bool (rightB d)) ∧ Below w.heap.size w w' := by
  obtain ⟨nv, tv, rfl, hn, ht⟩ := h
  obtain ⟨A, cA, vs, rfl, hl, hA, hR⟩ := hn.open
  have htl := ht.le
  obtain ⟨B, cB, rfl, _, _, hB⟩ := ht
  have H := hid hR
  have HA := hid hA
  clear hn hR hA hB
  by_cases h1 : d.next.length = 0 ∨ 1000 < d.next.length ∨ d.tells.length ≠ d.next.length
  · have hr := hid (show rightB d = false by
      rw [rightB_eq]
      have : (decide (1 ≤ d.next.length) && decide (d.next.length ≤ 1000) && decide (d.tells.length = d.next.length)) = false := by
        rw [Bool.eq_false_iff]; intro h; simp at h; omega
      rw [this]; rfl)
    by_cases h2 : d.next.length = 0
    · have h2i : ((d.next.length : Int) == 0) = true := by simp [h2]
      clear h1 h2
      go_enter Try.func33, Try.ntmps33
      go_wp2
      go_ret
      exact ⟨ret_bool hr.out.symm, (Below.refl _ _).alloc (Nat.le_refl _) _⟩
    · have h2i : ((d.next.length : Int) == 0) = false := ieq_false (by omega)
      by_cases h3 : 1000 < d.next.length
      · clear h1 h2
        have h3i : 1000 < (d.next.length : Int) := by omega
        go_enter Try.func33, Try.ntmps33
        go_wp2
        go_ret
        exact ⟨ret_bool hr.out.symm, (Below.refl _ _).alloc (Nat.le_refl _) _⟩
      · have h4 : ((d.tells.length : Int) != (d.next.length : Int)) = true := ine_true (by omega)
        have h3i : ¬ 1000 < (d.next.length : Int) := by omega
        clear h1 h2
        go_enter Try.func33, Try.ntmps33
        go_wp2
        go_ret
        exact ⟨ret_bool hr.out.symm, (Below.refl _ _).alloc (Nat.le_refl _) _⟩
  · have h2i : ((d.next.length : Int) == 0) = false := ieq_false (by omega)
    have h3i : ¬ 1000 < (d.next.length : Int) := by omega
    have h4 : ((d.tells.length : Int) != (d.next.length : Int)) = false := ine_false (by omega)
    have hok := hid (show rightB d = d.next.all (rowOk d.next.length) by
      rw [rightB_eq]
      have : (decide (1 ≤ d.next.length) && decide (d.next.length ≤ 1000) && decide (d.tells.length = d.next.length)) = true := by
        simp; omega
      rw [this]; rfl)
    clear h1
    go_enter Try.func33, Try.ntmps33
    go_wp2_with fail
    go_loopw [25] (fun i wr => ∃ k : Nat, k ≤ d.next.length ∧ i = .int .i64 k ∧ Hid ((d.next.take k).all (rowOk d.next.length) = true) ∧ Below (w.heap.size + 1) (w.alloc (Obj.cells #[Value.slice A d.next.length cA, Value.slice B d.tells.length cB] 59)) wr) (fun i _ => d.next.length - (intOf i).toNat)
    case atStart => exact ⟨0, by omega, rfl, rfl, Below.refl _ _⟩
    case round =>
      obtain ⟨k, hk, rfl, hT, hbw⟩ := hrel
      have hbel : Below w.heap.size w wr := ((Below.refl _ _).alloc (Nat.le_refl _) _).trans (hbw.mono (by omega))
      by_cases hlt : k < d.next.length
      · obtain ⟨b, o, A', c', rfl, _, hb, hc, hrl, hc1, hc2, hA'⟩ := H.out.at HA.out hlt
        have hcw : wr.cell? ⟨b, o + k, none⟩ = some (.slice A' (row d.next k).length c') := (hbel.cell (p := ⟨b, o + k, none⟩) hb).trans hc
        have hN : IsNums .i64 wr S (.slice A' (row d.next k).length c') (row d.next k) := (show IsNums .i64 w S _ _ from ⟨A', c', rfl, hc1, hc2, hA'⟩).below hbel
        have hst := hid (all_take_succ (rowOk d.next.length) d.next k _ (some_row hlt))
        by_cases h37 : (row d.next k).length = 37
        · have h37i : (((row d.next k).length : Int) != 37) = false := ine_false (by omega)
          have hpos : 0 < (row d.next k).length := by omega
          have hri := hid (rowOk_iff d.next.length _ h37)
          have HN := hid hN
          clear h37 hA' hN
          by_cases hm : minL (row d.next k) < 0
          · have hr := hid (show rightB d = false by
              rw [hok.out]
              refine all_take_le _ _ (k + 1) ?_
              rw [hst.out, hri.out]
              have : decide (0 ≤ minL (row d.next k)) = false := by simp; omega
              rw [this]; simp)
            go_wp2_with (go_at_call 66; refine (min_any S _ _ _ HN.out hpos).mono ?_; rintro e w1 ⟨rfl, hb1⟩)
            go_ret
            exact ⟨ret_bool hr.out.symm, hbel.trans (hb1.mono hbel.size)⟩
          · by_cases hM : (d.next.length : Int) ≤ maxL (row d.next k)
            · have hr := hid (show rightB d = false by
                rw [hok.out]
                refine all_take_le _ _ (k + 1) ?_
                rw [hst.out, hri.out]
                have : decide (maxL (row d.next k) < (d.next.length : Int)) = false := by simp; omega
                rw [this]; simp)
              go_wp2_with (first
                | (go_at_call 66; refine (min_any S _ _ _ HN.out hpos).mono ?_; rintro e w1 ⟨rfl, hb1⟩)
                | (go_at_call 67; refine (max_any S _ _ _ (HN.out.below hb1) hpos).mono ?_; rintro e w2 ⟨rfl, hb2⟩))
              go_ret
              exact ⟨ret_bool hr.out.symm, (hbel.trans (hb1.mono hbel.size)).trans (hb2.mono (Nat.le_trans hbel.size hb1.size))⟩
            · have hT' : Hid ((d.next.take (k + 1)).all (rowOk d.next.length) = true) := by
                show _ = _
                rw [hst.out, hT.out, hri.out]
                simp; omega
              go_wp2_with (first
                | (go_at_call 66; refine (min_any S _ _ _ HN.out hpos).mono ?_; rintro e w1 ⟨rfl, hb1⟩)
                | (go_at_call 67; refine (max_any S _ _ _ (HN.out.below hb1) hpos).mono ?_; rintro e w2 ⟨rfl, hb2⟩))
              go_roundw
              case rel => exact ⟨k + 1, by omega, by go_num, hT', hbw.trans ((hb1.mono (by simpa using hbw.size)).trans (hb2.mono (by have := hbw.size; have := hb1.size; simp at *; omega)))⟩
              case measure => simp [intOf]; omega
        · have h37i : (((row d.next k).length : Int) != 37) = true := ine_true (by omega)
          have hr := hid (show rightB d = false by
            rw [hok.out]
            refine all_take_le _ _ (k + 1) ?_
            rw [hst.out, rowOk_eq]
            simp [h37])
          clear h37
          go_wp2
          go_ret
          exact ⟨ret_bool hr.out.symm, hbel⟩
      · obtain rfl : k = d.next.length := by omega
        have hr := hid (show rightB d = true by rw [hok.out, ← hT.out, List.take_length])
        go_wp2
        go_ret
        exact ⟨ret_bool hr.out.symm, hbel⟩
end Go.Proofs.Ythdhbkngbmjjkaa
namespace Go.Proofs.Ythdhbkngbmjjkaa
open Go.RowKit

theorem rows_take_step {xs ys : List (List Int)} {k : Nat} (hx : k < xs.length) (hy : k < ys.length) (h : xs.take k = ys.take k) (he : row xs k = row ys k) : xs.take (k + 1) = ys.take (k + 1) := by
  rw [take_row hx, take_row hy, h, he]
theorem rows_eq_of_take {xs ys : List (List Int)} (hl : xs.length = ys.length) (h : xs.take xs.length = ys.take xs.length) : xs = ys := by
  rw [List.take_length, hl, List.take_length] at h; exact h

def sameD (a b : D) : Bool := decide (a.next = b.next) && decide (a.tells = b.tells)

set_option maxHeartbeats 1000000 in
theorem refSame_any (S S' : Nat → Prop) (va vb : Value) (a b : D) (w : World) (ha : IsD w S va a) (hb : IsD w S' vb b) :
    Calls Try.prog 31 #[va, vb] w fun e w' => e = .returned (.bool (sameD a b)) ∧ Below w.heap.size w w' := by
  obtain ⟨nv, tv, rfl, hn, ht⟩ := ha
  obtain ⟨mv, sv, rfl, hm, hs⟩ := hb
  obtain ⟨A, cA, vs, rfl, hla, hA, hRA⟩ := hn.open
  obtain ⟨B, cB, us, rfl, hlb, hB, hRB⟩ := hm.open
  have htl := ht.le
  have hsl := hs.le
  obtain ⟨T, cT, rfl, _, _, hT0⟩ := ht
  obtain ⟨U, cU, rfl, _, _, hU0⟩ := hs
  have HA := hid hA
  have HB := hid hB
  have HRA := hid hRA
  have HRB := hid hRB
  have HT := hid hT0
  have HU := hid hU0
  clear hn hm hA hB hRA hRB hT0 hU0
  by_cases hlen : a.next.length = b.next.length
  · have HL := hid hlen
    have h1 : ((a.next.length : Int) != (b.next.length : Int)) = false := by simp [hlen]
    clear hlen
    by_cases hlen2 : a.tells.length = b.tells.length
    · have HL2 := hid hlen2
      have h2 : ((a.tells.length : Int) != (b.tells.length : Int)) = false := by simp [hlen2]
      clear hlen2
      go_enter Try.func31, Try.ntmps31
      go_wp2_with fail
      obtain ⟨W, hW0⟩ : ∃ W, W = (w.alloc (Obj.cells #[Value.slice A a.next.length cA, Value.slice T a.tells.length cT] 62)).alloc (Obj.cells #[Value.slice B b.next.length cB, Value.slice U b.tells.length cU] 62) := ⟨_, rfl⟩
      have hWb : Below w.heap.size w W := by rw [hW0]; exact ((Below.refl _ _).alloc (Nat.le_refl _) _).alloc (by simp) _
      have q0 : W.cell? ⟨w.heap.size, 0, none⟩ = some (Value.slice A a.next.length cA) := by rw [hW0]; simp [go_sem]
      have q1 : W.cell? ⟨w.heap.size, 1, none⟩ = some (Value.slice T a.tells.length cT) := by rw [hW0]; simp [go_sem]
      have q2 : W.cell? ⟨w.heap.size + 1, 0, none⟩ = some (Value.slice B b.next.length cB) := by rw [hW0]; simp [go_sem]
      have q3 : W.cell? ⟨w.heap.size + 1, 1, none⟩ = some (Value.slice U b.tells.length cU) := by rw [hW0]; simp [go_sem]
      rw [← hW0]
      clear hW0
      have hFalse : ∀ nq, Hid (a.next ≠ b.next ∨ a.tells ≠ b.tells) → Ending.returned (.bool false) = .returned (.bool (sameD a b)) ∧ Below w.heap.size w (W.drewN nq) := by
        intro nq h
        refine ⟨ret_bool ?_, below_drewN hWb _⟩
        symm
        rw [sameD, Bool.and_eq_false_iff]
        rcases h.out with h | h
        · exact .inl (by simpa using h)
        · exact .inr (by simpa using h)
      have HF := hid hFalse
      clear hFalse
      go_loopw [5] (fun i wr => ∃ k : Nat, k ≤ a.next.length ∧ i = .int .i64 k ∧ Hid (a.next.take k = b.next.take k) ∧ Hid (∃ n, wr = W.drewN n)) (fun i _ => a.next.length - (intOf i).toNat)
      case atStart => exact ⟨0, by omega, rfl, rfl, 0, rfl⟩
      case round =>
        obtain ⟨k, hk, rfl, hT, hW⟩ := hrel
        have p0 : wr.cell? ⟨w.heap.size, 0, none⟩ = some (Value.slice A a.next.length cA) := by obtain ⟨n, rfl⟩ := hW.out; exact q0
        have p1 : wr.cell? ⟨w.heap.size, 1, none⟩ = some (Value.slice T a.tells.length cT) := by obtain ⟨n, rfl⟩ := hW.out; exact q1
        have p2 : wr.cell? ⟨w.heap.size + 1, 0, none⟩ = some (Value.slice B b.next.length cB) := by obtain ⟨n, rfl⟩ := hW.out; exact q2
        have p3 : wr.cell? ⟨w.heap.size + 1, 1, none⟩ = some (Value.slice U b.tells.length cU) := by obtain ⟨n, rfl⟩ := hW.out; exact q3
        have hbr := hid (show Below w.heap.size w wr by obtain ⟨n, rfl⟩ := hW.out; exact below_drewN hWb _)
        by_cases hlt : k < a.next.length
        · obtain ⟨b1, o1, A1, c1, rfl, _, hb1, hc1, hl1, hl2, hl3, hN1⟩ := HRA.out.at HA.out hlt
          have hlt2 : k < b.next.length := by rw [← HL.out]; exact hlt
          obtain ⟨b2, o2, A2, c2, rfl, _, hb2, hc2, hm1, hm2, hm3, hN2⟩ := HRB.out.at HB.out hlt2
          have hc1w : wr.cell? ⟨b1, o1 + k, none⟩ = some (.slice A1 (row a.next k).length c1) := (hbr.out.cell (p := ⟨b1, o1 + k, none⟩) hb1).trans hc1
          have hc2w : wr.cell? ⟨b2, o2 + k, none⟩ = some (.slice A2 (row b.next k).length c2) := (hbr.out.cell (p := ⟨b2, o2 + k, none⟩) hb2).trans hc2
          have hX := hid (show IsNums .i64 wr S (.slice A1 (row a.next k).length c1) (row a.next k) from (show IsNums .i64 w S _ _ from ⟨A1, c1, rfl, hl2, hl3, hN1⟩).below hbr.out)
          have hY := hid (show IsNums .i64 wr S' (.slice A2 (row b.next k).length c2) (row b.next k) from (show IsNums .i64 w S' _ _ from ⟨A2, c2, rfl, hm2, hm3, hN2⟩).below hbr.out)
          clear hc1 hc2 hN1 hN2 q0 q1 q2 q3
          by_cases he : row a.next k = row b.next k
          · have heb : decide (row a.next k = row b.next k) = true := by simpa using he
            have HE := hid he
            clear he
            go_wp2_with fail
            go_quiet ((go_at_call 64; exact Calls.quiet_of (f52_any S S' _ _ _ _ _ (hX.out.drewN _) (hY.out.drewN _))))
            go_wp2
            go_roundw
            case rel => exact ⟨k + 1, by omega, by go_num, rows_take_step hlt hlt2 hT.out HE.out, by obtain ⟨n, rfl⟩ := hW.out; exact ⟨_, World.drewN_drewN _ _ _⟩⟩
            case measure => simp [intOf]; omega
          · have heb : decide (row a.next k = row b.next k) = false := by simpa using he
            have hne := hid (show a.next ≠ b.next ∨ a.tells ≠ b.tells from .inl fun h => he (by rw [h]))
            clear he
            go_wp2_with fail
            go_quiet ((go_at_call 64; exact Calls.quiet_of (f52_any S S' _ _ _ _ _ (hX.out.drewN _) (hY.out.drewN _))))
            go_wp2
            go_ret
            obtain ⟨n, rfl⟩ := hW.out
            rw [World.drewN_drewN]
            exact HF.out _ hne
        · obtain rfl : k = a.next.length := by omega
          have HX := hid (rows_eq_of_take HL.out hT.out)
          go_wp2_with fail
          obtain ⟨W2, hW2⟩ : ∃ W2 : World, W2 = wr := ⟨_, rfl⟩
          rw [← hW2]
          go_loopw [6] (fun i wr2 => ∃ k : Nat, k ≤ a.tells.length ∧ i = .int .i64 k ∧ Hid (a.tells.take k = b.tells.take k) ∧ Hid (∃ n, wr2 = W.drewN n)) (fun i _ => a.tells.length - (intOf i).toNat)
          case atStart => exact ⟨0, by omega, rfl, rfl, by rw [hW2]; exact hW.out⟩
          case round =>
            clear p0 p1 p2 p3 hbr hW hW2
            obtain ⟨j, hj, rfl, hT2, hW⟩ := hrel
            have p1 : wr.cell? ⟨w.heap.size, 1, none⟩ = some (Value.slice T a.tells.length cT) := by obtain ⟨n, rfl⟩ := hW.out; exact q1
            have p3 : wr.cell? ⟨w.heap.size + 1, 1, none⟩ = some (Value.slice U b.tells.length cU) := by obtain ⟨n, rfl⟩ := hW.out; exact q3
            have hbr := hid (show Below w.heap.size w wr by obtain ⟨n, rfl⟩ := hW.out; exact below_drewN hWb _)
            clear q0 q1 q2 q3
            by_cases hlt2 : j < a.tells.length
            · obtain ⟨b1, o1, rfl, _, hb1, hc1⟩ := HT.out.num hlt2
              have hlt3 : j < b.tells.length := by rw [← HL2.out]; exact hlt2
              obtain ⟨b2, o2, rfl, _, hb2, hc2⟩ := HU.out.num hlt3
              have hc1w : wr.cell? ⟨b1, o1 + j, none⟩ = some (.int .u64 (nth a.tells j)) := (hbr.out.cell (p := ⟨b1, o1 + j, none⟩) hb1).trans hc1
              have hc2w : wr.cell? ⟨b2, o2 + j, none⟩ = some (.int .u64 (nth b.tells j)) := (hbr.out.cell (p := ⟨b2, o2 + j, none⟩) hb2).trans hc2
              clear hc1 hc2
              by_cases he : nth a.tells j = nth b.tells j
              · have heb := ine_false he
                have HE := hid he
                clear he
                go_wp2_with fail
                go_quiet (fail)
                go_wp2
                go_roundw
                case rel => exact ⟨j + 1, by omega, by go_num, take_eq_step hlt2 hlt3 hT2.out HE.out, by obtain ⟨n, rfl⟩ := hW.out; exact ⟨_, World.drewN_drewN _ _ _⟩⟩
                case measure => simp [intOf]; omega
              · have heb := ine_true he
                have hne := hid (show a.next ≠ b.next ∨ a.tells ≠ b.tells from .inr fun h => he (by rw [h]))
                clear he
                go_wp2_with fail
                go_quiet (fail)
                go_wp2
                go_ret
                obtain ⟨n, rfl⟩ := hW.out
                rw [World.drewN_drewN]
                exact HF.out _ hne
            · obtain rfl : j = a.tells.length := by omega
              have HX2 := hid (eq_of_take HL2.out hT2.out)
              go_wp2
              go_ret
              exact ⟨ret_bool (by simp [sameD, HX.out, HX2.out]), hbr.out⟩
    · have h2 : ((a.tells.length : Int) != (b.tells.length : Int)) = true := by simp; omega
      have hr := hid (show sameD a b = false by
        rw [sameD, Bool.and_eq_false_iff]; right; simpa using fun h => hlen2 (by rw [h]))
      clear hlen2
      go_enter Try.func31, Try.ntmps31
      go_wp2
      go_ret
      exact ⟨ret_bool hr.out.symm, ((Below.refl _ _).alloc (Nat.le_refl _) _).alloc (by simp) _⟩
  · have h1 : ((a.next.length : Int) != (b.next.length : Int)) = true := by simp; omega
    have hr := hid (show sameD a b = false by
      rw [sameD, Bool.and_eq_false_iff]; left; simpa using fun h => hlen (by rw [h]))
    clear hlen
    go_enter Try.func31, Try.ntmps31
    go_wp2
    go_ret
    exact ⟨ret_bool hr.out.symm, ((Below.refl _ _).alloc (Nat.le_refl _) _).alloc (by simp) _⟩

set_option maxHeartbeats 400000 in
theorem eqFunc_any (S S' : Nat → Prop) (va vb : Value) (xs ys : List (List Int)) (w : World) (ha : IsRows w S va xs) (hb : IsRows w S' vb ys) :
    Calls Try.prog 69 #[va, vb, .func (.func 70) #[] #[]] w fun e w' => e = .returned (.bool (decide (xs = ys))) ∧ ∃ n, w' = w.drewN n := by
  obtain ⟨A, cA, vs, rfl, hla, hA, hRA⟩ := ha.open
  obtain ⟨B, cB, us, rfl, hlb, hB, hRB⟩ := hb.open
  have HA := hid hA
  have HB := hid hB
  have HRA := hid hRA
  have HRB := hid hRB
  clear ha hb hA hB hRA hRB
  by_cases hlen : xs.length = ys.length
  · have HL := hid hlen
    have h1 : ((xs.length : Int) != (ys.length : Int)) = false := by simp [hlen]
    clear hlen
    go_enter Try.func69, Try.ntmps69
    go_wp2_with fail
    go_loopw [17] (fun i wr => ∃ k : Nat, k ≤ xs.length ∧ i = .int .i64 k ∧ Hid (xs.take k = ys.take k) ∧ Hid (∃ n, wr = w.drewN n)) (fun i _ => xs.length - (intOf i).toNat)
    case atStart => exact ⟨0, by omega, rfl, rfl, 0, rfl⟩
    case round =>
      obtain ⟨k, hk, rfl, hT, hW⟩ := hrel
      by_cases hlt : k < xs.length
      · obtain ⟨b, o, A1, c1, rfl, _, _, hc1, hl1, hl2, hl3, hN1⟩ := HRA.out.at HA.out hlt
        have hlt2 : k < ys.length := by rw [← HL.out]; exact hlt
        have hlt2i : (k : Int) < (ys.length : Int) := by omega
        obtain ⟨b2, o2, A2, c2, rfl, _, _, hc2, hm1, hm2, hm3, hN2⟩ := HRB.out.at HB.out hlt2
        have hc1w : wr.cell? ⟨b, o + k, none⟩ = some (.slice A1 (row xs k).length c1) := by obtain ⟨n, rfl⟩ := hW.out; exact hc1
        have hc2w : wr.cell? ⟨b2, o2 + k, none⟩ = some (.slice A2 (row ys k).length c2) := by obtain ⟨n, rfl⟩ := hW.out; exact hc2
        have hX := hid (show IsNums .i64 wr S (.slice A1 (row xs k).length c1) (row xs k) by obtain ⟨n, rfl⟩ := hW.out; exact ⟨A1, c1, rfl, hl2, hl3, hN1⟩)
        have hY := hid (show IsNums .i64 wr S' (.slice A2 (row ys k).length c2) (row ys k) by obtain ⟨n, rfl⟩ := hW.out; exact ⟨A2, c2, rfl, hm2, hm3, hN2⟩)
        clear hc1 hc2 hN1 hN2
        by_cases he : row xs k = row ys k
        · have heb : decide (row xs k = row ys k) = true := by simpa using he
          have HE := hid he
          clear he
          go_wp2_with (go_at_call 70; refine (f62_any S S' _ _ _ _ _ hX.out hY.out).mono ?_; rintro e w1 ⟨rfl, n1, rfl⟩)
          go_roundw
          case rel => exact ⟨k + 1, by omega, by go_num, rows_take_step hlt hlt2 hT.out HE.out, by obtain ⟨n, rfl⟩ := hW.out; exact ⟨_, World.drewN_drewN _ _ _⟩⟩
          case measure => simp [intOf]; omega
        · have heb : decide (row xs k = row ys k) = false := by simpa using he
          have hne := hid (show ¬ xs = ys from fun h => he (by rw [h]))
          clear he
          go_wp2_with (go_at_call 70; refine (f62_any S S' _ _ _ _ _ hX.out hY.out).mono ?_; rintro e w1 ⟨rfl, n1, rfl⟩)
          go_ret
          exact ⟨ret_bool (by simpa using hne.out), by obtain ⟨n, rfl⟩ := hW.out; exact ⟨_, World.drewN_drewN _ _ _⟩⟩
      · obtain rfl : k = xs.length := by omega
        have HX := hid (rows_eq_of_take HL.out hT.out)
        go_wp2
        go_ret
        exact ⟨ret_bool (by simpa using HX.out), hW.out⟩
  · have h1 : ((xs.length : Int) != (ys.length : Int)) = true := by simp; omega
    have hne := hid (show ¬ xs = ys from fun h => hlen (by rw [h]))
    clear hlen
    go_enter Try.func69, Try.ntmps69
    go_wp2
    go_ret
    exact ⟨ret_bool (by simpa using hne.out), 0, rfl⟩

set_option maxHeartbeats 400000 in
theorem same_any (S S' : Nat → Prop) (va vb : Value) (a b : D) (w : World) (ha : IsD w S va a) (hb : IsD w S' vb b) :
    Calls Try.prog 40 #[va, vb] w fun e w' => e = .returned (.bool (sameD a b)) ∧ Below w.heap.size w w' := by
  obtain ⟨nv, tv, rfl, hn, ht⟩ := ha
  obtain ⟨mv, sv, rfl, hm, hs⟩ := hb
  obtain ⟨A, cA, rfl⟩ := hn.form
  obtain ⟨B, cB, rfl⟩ := hm.form
  obtain ⟨T, cT, rfl⟩ := ht.form
  obtain ⟨U, cU, rfl⟩ := hs.form
  have hX := hid ht
  have hY := hid hs
  have hXn := hid hn
  have hYn := hid hm
  clear ht hs hn hm
  by_cases he : a.tells = b.tells
  · have heb : decide (a.tells = b.tells) = true := by simpa using he
    have hr := hid (show sameD a b = decide (a.next = b.next) by simp [sameD, he])
    clear he
    go_enter Try.func40, Try.ntmps40
    go_wp2_with fail
    obtain ⟨W, hW0⟩ : ∃ W, W = (w.alloc (Obj.cells #[Value.slice A a.next.length cA, Value.slice T a.tells.length cT] 59)).alloc (Obj.cells #[Value.slice B b.next.length cB, Value.slice U b.tells.length cU] 59) := ⟨_, rfl⟩
    have hWb : Below w.heap.size w W := by rw [hW0]; exact ((Below.refl _ _).alloc (Nat.le_refl _) _).alloc (by simp) _
    have q0 : W.cell? ⟨w.heap.size, 0, none⟩ = some (Value.slice A a.next.length cA) := by rw [hW0]; simp [go_sem]
    have q1 : W.cell? ⟨w.heap.size, 1, none⟩ = some (Value.slice T a.tells.length cT) := by rw [hW0]; simp [go_sem]
    have q2 : W.cell? ⟨w.heap.size + 1, 0, none⟩ = some (Value.slice B b.next.length cB) := by rw [hW0]; simp [go_sem]
    have q3 : W.cell? ⟨w.heap.size + 1, 1, none⟩ = some (Value.slice U b.tells.length cU) := by rw [hW0]; simp [go_sem]
    rw [← hW0]
    clear hW0
    go_wp2_with (first
      | (go_at_call 68; refine (f60_any S S' _ _ _ _ _ (hX.out.below hWb) (hY.out.below hWb)).mono ?_; rintro e w1 ⟨rfl, n1, rfl⟩)
      | (go_at_call 69; refine (eqFunc_any S S' _ _ _ _ _ ((hXn.out.below hWb).drewN _) ((hYn.out.below hWb).drewN _)).mono ?_; rintro e w1 ⟨rfl, n2, rfl⟩))
    go_ret
    exact ⟨ret_bool hr.out.symm, below_drewN hWb _⟩
  · have heb : decide (a.tells = b.tells) = false := by simpa using he
    have hr := hid (show sameD a b = false by simp [sameD, he])
    clear he
    go_enter Try.func40, Try.ntmps40
    go_wp2_with fail
    obtain ⟨W, hW0⟩ : ∃ W, W = (w.alloc (Obj.cells #[Value.slice A a.next.length cA, Value.slice T a.tells.length cT] 59)).alloc (Obj.cells #[Value.slice B b.next.length cB, Value.slice U b.tells.length cU] 59) := ⟨_, rfl⟩
    have hWb : Below w.heap.size w W := by rw [hW0]; exact ((Below.refl _ _).alloc (Nat.le_refl _) _).alloc (by simp) _
    rw [← hW0]
    clear hW0
    go_wp2_with (first
      | (go_at_call 68; refine (f60_any S S' _ _ _ _ _ (hX.out.below hWb) (hY.out.below hWb)).mono ?_; rintro e w1 ⟨rfl, n1, rfl⟩))
    go_ret
    exact ⟨ret_bool hr.out.symm, below_drewN hWb _⟩

def stateB (d : D) (i : Int) : Bool := decide (0 ≤ i) && decide (i < d.next.length) && rightB d
set_option maxHeartbeats 400000 in
theorem state_any (S : Nat → Prop) (v : Value) (d : D) (i : Int) (w : World) (h : IsD w S v d) :
    Calls Try.prog 65 #[v, .int .i64 i] w fun e w' => e = .returned (.bool (stateB d i)) ∧ Below w.heap.size w w' := by
  obtain ⟨nv, tv, rfl, hn, ht⟩ := h
  obtain ⟨A, cA, rfl⟩ := hn.form
  obtain ⟨T, cT, rfl⟩ := ht.form
  have hD := hid (show IsD w S (.agg #[.slice A d.next.length cA, .slice T d.tells.length cT]) d from ⟨_, _, rfl, hn, ht⟩)
  clear hn ht
  by_cases h1 : 0 ≤ i
  · by_cases h2 : i < d.next.length
    · have hr := hid (show stateB d i = rightB d by simp [stateB, h1, h2])
      go_enter Try.func65, Try.ntmps65
      go_wp2_with (go_at_call 33; refine (right_any S _ _ _ (hD.out.below ((Below.refl _ _).alloc (Nat.le_refl _) _))).mono ?_; rintro e w1 ⟨rfl, hb1⟩)
      go_ret
      exact ⟨ret_bool hr.out.symm, ((Below.refl _ _).alloc (Nat.le_refl _) _).trans (hb1.mono (by simp))⟩
    · have hr := hid (show stateB d i = false by simp [stateB, h2])
      go_enter Try.func65, Try.ntmps65
      go_wp2
      go_ret
      exact ⟨ret_bool hr.out.symm, ((Below.refl _ _).alloc (Nat.le_refl _) _)⟩
  · have hr := hid (show stateB d i = false by simp [stateB, h1])
    go_enter Try.func65, Try.ntmps65
    go_wp2
    go_ret
    exact ⟨ret_bool hr.out.symm, ((Below.refl _ _).alloc (Nat.le_refl _) _)⟩
end Go.Proofs.Ythdhbkngbmjjkaa
namespace Go.Proofs.Ythdhbkngbmjjkaa
open Go.RowKit
theorem right_rows {d : D} (h : rightB d = true) : d.next.length ≤ 1000 ∧ 1 ≤ d.next.length ∧ d.tells.length = d.next.length ∧ ∀ r ∈ d.next, r.length = 37 ∧ ∀ z ∈ r, 0 ≤ z ∧ z < (d.next.length : Int) := by
  simp only [rightB, Bool.and_eq_true, decide_eq_true_eq, List.all_eq_true] at h
  obtain ⟨⟨⟨h1, h2⟩, h3⟩, h4⟩ := h
  exact ⟨h2, h1, h3, fun r hr => ⟨(h4 r hr).1, fun z hz => by simpa using (h4 r hr).2 z hz⟩⟩

def runGo (rs : List (List Int)) : Int → List Int → Int
  | s, [] => s
  | s, m :: ms => if m < 0 ∨ 37 ≤ m then -1 else runGo rs (nth (row rs s.toNat) m.toNat) ms
def runL (d : D) (s : Int) (ms : List Int) : Int := if stateB d s = true then runGo d.next s ms else -1

set_option maxRecDepth 100000 in
set_option maxHeartbeats 1000000 in
theorem run_any (S S' : Nat → Prop) (NA TA : Option Addr) (nc tc : Nat) (vm : Value) (d : D) (s : Int) (ms : List Int) (w : World) (h : IsD w S (.agg #[.slice NA d.next.length nc, .slice TA d.tells.length tc]) d) (hm : IsNums .i64 w S' vm ms) :
    Calls Try.prog 32 #[.agg #[.slice NA d.next.length nc, .slice TA d.tells.length tc], .int .i64 s, vm] w fun e w' => e = .returned (.int .i64 (runL d s ms)) ∧ Below w.heap.size w w' := by
  obtain ⟨W, hW0⟩ : ∃ W, W = w.alloc (.cells #[.slice NA d.next.length nc, .slice TA d.tells.length tc] 59) := ⟨_, rfl⟩
  have hWb : Below w.heap.size w W := by rw [hW0]; exact (Below.refl _ _).alloc (Nat.le_refl _) _
  have q0 : W.heap[w.heap.size]? = some (.cells #[.slice NA d.next.length nc, .slice TA d.tells.length tc] 59 (0, 0)) := by rw [hW0]; exact heap_alloc_new _ _
  have hcells : ∀ Y, Below W.heap.size W Y → Y.cell? ⟨w.heap.size, 0, none⟩ = some (.slice NA d.next.length nc) ∧ Y.cell? ⟨w.heap.size, 1, none⟩ = some (.slice TA d.tells.length tc) := fun Y hY => by
    have h2 := (hY.block _ (by rw [hW0]; simp)).trans q0
    exact ⟨by rw [cell_of_row _ _ _ _ _ _ h2]; rfl, by rw [cell_of_row _ _ _ _ _ _ h2]; rfl⟩
  have HC := hid hcells
  have HB := hid hWb
  have HD := hid (h.below hWb)
  have HM := hid (hm.below hWb)
  have hml := hm.le
  obtain ⟨MA, mc, rfl⟩ := hm.form
  obtain ⟨f1, f2⟩ := hcells W (Below.refl _ _)
  clear hcells q0 hWb h hm
  cases hs : stateB d s with
  | false =>
    have hres := hid (show runL d s ms = -1 by unfold runL; rw [hs]; rfl)
    have HS := hid hs
    clear hs
    go_enter Try.func32, Try.ntmps32
    go_wp2_with fail
    rw [← hW0]
    clear hW0
    go_wp2_with fail
    refine (state_any S _ d s _ HD.out).mono ?_
    rintro e w1 ⟨rfl, hb1⟩
    rw [HS.out]
    go_wp2_with fail
    go_ret
    exact ⟨ret_int hres.out.symm, HB.out.trans (hb1.mono HB.out.size)⟩
  | true =>
    have hres := hid (show runL d s ms = runGo d.next s ms by unfold runL; rw [hs]; rfl)
    have hss : 0 ≤ s ∧ s < d.next.length ∧ rightB d = true := by simpa [stateB, and_assoc] using hs
    obtain ⟨hs0, hs1, hr⟩ := hss
    have HR := hid (right_rows hr)
    have HS := hid hs
    have hn1000 := HR.out.1
    clear hs hr
    go_enter Try.func32, Try.ntmps32
    go_wp2_with fail
    rw [← hW0]
    clear hW0
    go_wp2_with fail
    refine (state_any S _ d s _ HD.out).mono ?_
    rintro e w1 ⟨rfl, hb1⟩
    rw [HS.out]
    go_wp2_with fail
    go_loopw [1, 15] (fun s1 s15 wr => ∃ (k : Nat) (t : Int), k ≤ ms.length ∧ s15 = .int .i64 k ∧ s1 = .int .i64 t ∧ 0 ≤ t ∧ t < d.next.length ∧ Hid (runGo d.next t (ms.drop k) = runGo d.next s ms) ∧ Below W.heap.size W wr) (fun _ s15 _ => ms.length - (intOf s15).toNat)
    case atStart => exact ⟨0, s, by omega, rfl, rfl, hs0, hs1, rfl, hb1⟩
    case round =>
      clear hb1
      obtain ⟨k, t, hk, rfl, rfl, ht0, ht1, hT, hbw⟩ := hrel
      by_cases hlt : k < ms.length
      · obtain ⟨b, o, c2, e0, _, hbm, hcm⟩ := (HM.out.below hbw).at hlt
        obtain ⟨rfl, rfl⟩ : MA = some ⟨b, o, none⟩ ∧ mc = c2 := by simpa using e0
        have hst := hid (drop_nth hlt)
        by_cases hbad : nth ms k < 0 ∨ 37 ≤ nth ms k
        · have hend := hid (show runL d s ms = -1 by
            rw [hres.out, ← hT.out, hst.out]; simp only [runGo]; rw [if_pos hbad])
          rcases Int.lt_or_le (nth ms k) 0 with h1 | h1
          · have h1b : decide (nth ms k < 0) = true := by simpa using h1
            clear hbad e0
            go_wp2_with fail
            go_ret
            exact ⟨ret_int hend.out.symm, HB.out.trans (hbw.mono HB.out.size)⟩
          · have h1b : decide (nth ms k < 0) = false := by simpa using h1
            have h2b : 37 ≤ nth ms k := by omega
            clear hbad e0
            go_wp2_with fail
            go_ret
            exact ⟨ret_int hend.out.symm, HB.out.trans (hbw.mono HB.out.size)⟩
        · have h1b : decide (nth ms k < 0) = false := by simp; omega
          have h2b : nth ms k < 37 := by omega
          obtain ⟨m, hme⟩ : ∃ m : Nat, nth ms k = (m : Int) := ⟨(nth ms k).toNat, by omega⟩
          obtain ⟨u, hue⟩ : ∃ u : Nat, t = (u : Int) := ⟨t.toNat, by omega⟩
          subst hue
          rw [hme] at hcm h1b h2b
          have hm37 : m < 37 := by omega
          have hu : u < d.next.length := by omega
          obtain ⟨nv, tv, ed, hn, htl⟩ := HD.out.below hbw
          obtain ⟨rfl, rfl⟩ : .slice NA d.next.length nc = nv ∧ .slice TA d.tells.length tc = tv := by simpa using ed
          obtain ⟨NA', nc', us, en, _, hNA, hNR⟩ := hn.open
          obtain ⟨rfl, rfl⟩ : NA = NA' ∧ nc = nc' := by simpa using en
          obtain ⟨b1, o1, A1, c1, rfl, _, hb1, hc1, _, _, _, hN1⟩ := hNR.at hNA hu
          obtain ⟨r37, rbd⟩ := HR.out.2.2.2 _ (row_mem hu)
          obtain ⟨b2, o2, rfl, _, hb2, hc2⟩ := hN1.num (j := m) (by omega)
          have hz := rbd _ (nth_mem (show m < (row d.next u).length by omega))
          obtain ⟨z1, z2⟩ := hz
          rw [r37] at hc1
          obtain ⟨g1, g2⟩ := HC.out wr hbw
          have hT' := hid (show runGo d.next (nth (row d.next u) m) (ms.drop (k + 1)) = runGo d.next s ms by
            rw [← hT.out, hst.out]
            simp only [runGo]
            rw [if_neg hbad, hme]
            simp)
          clear hbad hme e0 ed en hn htl hNA hNR hN1 r37 rbd f1 f2
          go_wp2_with fail
          go_roundw
          case rel => exact ⟨k + 1, _, by omega, by go_num, rfl, z1, z2, hT'.out, hbw⟩
          case measure => simp [intOf]; omega
      · obtain rfl : k = ms.length := by omega
        have hend := hid (show runL d s ms = t by
          rw [hres.out, ← hT.out, List.drop_length]; rfl)
        go_wp2_with fail
        go_ret
        exact ⟨ret_int hend.out.symm, HB.out.trans (hbw.mono HB.out.size)⟩
end Go.Proofs.Ythdhbkngbmjjkaa
