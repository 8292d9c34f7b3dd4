/- Tables: whether one is great, right, the same as another; the conversions. No conditions. -/
import Derived.Test.YtmdkmobcglnmgaaEq
namespace Go.Proofs.Ytmdkmobcglnmgaa
open Go.RowKit

def greatB (d : D) : Bool := decide (20 < d.next.length) || decide (20 < d.tells.length) || d.next.any fun r => decide (60 < r.length)

set_option maxHeartbeats 400000 in
theorem great_any (S : Nat → Prop) (v : Value) (d : D) (w : World) (h : IsD w S v d) :
    Calls Try.prog 14 #[v] w fun e w' => e = .returned (.bool (greatB d)) ∧ Below w.heap.size w w' := by
  obtain ⟨nv, tv, rfl, hn, ht⟩ := h
  obtain ⟨A, cA, vs, rfl, hl, hA, hR⟩ := hn.open
  have htl := ht.le
  obtain ⟨B, cB, rfl, _, _, hB⟩ := ht
  have H := hid hR
  have HA := hid hA
  clear hn hR hA hB
  by_cases h1 : 20 < d.next.length
  · have hr := hid (show greatB d = true by simp [greatB, h1])
    go_enter Try.func14, Try.ntmps14
    go_wp2
    go_ret
    exact ⟨ret_bool hr.out.symm, (Below.refl _ _).alloc (Nat.le_refl _) _⟩
  · by_cases h2 : 20 < d.tells.length
    · have hr := hid (show greatB d = true by simp [greatB, h2])
      go_enter Try.func14, Try.ntmps14
      go_wp2
      go_ret
      exact ⟨ret_bool hr.out.symm, (Below.refl _ _).alloc (Nat.le_refl _) _⟩
    · go_enter Try.func14, Try.ntmps14
      go_wp2
      go_loop [3] (fun i => ∃ k : Nat, k ≤ d.next.length ∧ i = .int .i64 k ∧ Hid (∀ r ∈ d.next.take k, ¬ 60 < r.length)) (fun i => d.next.length - (intOf i).toNat)
      case atStart => exact ⟨0, by omega, rfl, by intro r hr; simp at hr⟩
      case round =>
        obtain ⟨k, hk, rfl, hT⟩ := hrel
        by_cases hlt : k < d.next.length
        · obtain ⟨b, o, A', c', rfl, _, hb, hc, _, _, _, _⟩ := H.out.at HA.out hlt
          by_cases h3 : 60 < (row d.next k).length
          · have hr := hid (show greatB d = true by
              have : d.next.any (fun r => decide (60 < r.length)) = true := List.any_eq_true.2 ⟨_, row_mem hlt, by simpa using h3⟩
              simp [greatB, this])
            go_wp2
            go_ret
            exact ⟨ret_bool hr.out.symm, (Below.refl _ _).alloc (Nat.le_refl _) _⟩
          · have hT' : Hid (∀ r ∈ d.next.take (k + 1), ¬ 60 < r.length) := by
              intro r hr
              rw [take_row hlt, List.mem_append] at hr
              rcases hr with hr | hr
              · exact hT.out r hr
              · obtain rfl := List.mem_singleton.1 hr; exact h3
            go_wp2
            go_round
            case rel => exact ⟨k + 1, by omega, by go_num, hT'⟩
            case measure => simp [intOf]; omega
        · obtain rfl : k = d.next.length := by omega
          have hr := hid (show greatB d = false by
            have hT := hT.out
            rw [List.take_length] at hT
            have : d.next.any (fun r => decide (60 < r.length)) = false := by
              rw [List.any_eq_false]; intro r hr; simpa using hT r hr
            simp [greatB, this]; omega)
          go_wp2
          go_ret
          exact ⟨ret_bool hr.out.symm, (Below.refl _ _).alloc (Nat.le_refl _) _⟩

set_option maxHeartbeats 400000 in
theorem to_any (A B : Option Addr) (n c m c' : Nat) (w : World) :
    Calls Try.prog 15 #[.agg #[.slice A n c, .slice B m c']] w fun e w' => e = .returned (.agg #[.slice A n c, .slice B m c']) ∧ Below w.heap.size w w' := by
  go_enter Try.func15, Try.ntmps15
  go_wp2
  exact bodyPost_ret (v := .agg #[.slice A n c, .slice B m c']) (by simp [results, Try.results15, go_sem]) rfl ⟨rfl, ((Below.refl _ _).alloc (Nat.le_refl _) _).alloc (by simp) _⟩

set_option maxHeartbeats 400000 in
theorem of_any (A B : Option Addr) (n c m c' : Nat) (w : World) :
    Calls Try.prog 30 #[.agg #[.slice A n c, .slice B m c']] w fun e w' => e = .returned (.agg #[.slice A n c, .slice B m c']) ∧ Below w.heap.size w w' := by
  go_enter Try.func30, Try.ntmps30
  go_wp2
  exact bodyPost_ret (v := .agg #[.slice A n c, .slice B m c']) (by simp [results, Try.results30, go_sem]) rfl ⟨rfl, ((Below.refl _ _).alloc (Nat.le_refl _) _).alloc (by simp) _⟩

/-- Is a table right? -/
def rightB (d : D) : Bool := decide (1 ≤ d.next.length) && decide (d.next.length ≤ 1000) && decide (d.tells.length = d.next.length) && d.next.all fun r => decide (r.length = 37) && r.all fun z => decide (0 ≤ z) && decide (z < d.next.length)
def rowB (n : Nat) (r : List Int) : Bool := decide (r.length = 37) && r.all fun z => decide (0 ≤ z) && decide (z < n)
def valB (n : Nat) (z : Int) : Bool := decide (0 ≤ z) && decide (z < n)
theorem rightB_eq (d : D) : rightB d = (decide (1 ≤ d.next.length) && decide (d.next.length ≤ 1000) && decide (d.tells.length = d.next.length) && d.next.all (rowB d.next.length)) := rfl
theorem rowB_eq (n : Nat) (r : List Int) : rowB n r = (decide (r.length = 37) && r.all (valB n)) := rfl

theorem all_take_succ {α : Type} (p : α → Bool) (l : List α) (k : Nat) (x : α) (h : l[k]? = some x) : (l.take (k + 1)).all p = ((l.take k).all p && p x) := by
  rw [List.take_add_one, h]; simp
theorem all_take_le {α : Type} (p : α → Bool) (l : List α) (k : Nat) (h : (l.take k).all p = false) : l.all p = false := by
  rw [← List.take_append_drop k l, List.all_append, h]; rfl

set_option maxHeartbeats 400000 in
theorem refRight_any (S : Nat → Prop) (v : Value) (d : D) (w : World) (h : IsD w S v d) :
    Calls Try.prog 22 #[v] w fun e w' => e = .returned (.bool (rightB d)) ∧ Below w.heap.size w w' := by
  obtain ⟨nv, tv, rfl, hn, ht⟩ := h
  obtain ⟨A, cA, vs, rfl, hl, hA, hR⟩ := hn.open
  have htl := ht.le
  obtain ⟨B, cB, rfl, _, _, hB⟩ := ht
  have H := hid hR
  have HA := hid hA
  clear hn hR hA hB
  obtain ⟨ok0, hok⟩ : ∃ b, (decide (1 ≤ d.next.length) && decide (d.next.length ≤ 1000) && decide (d.tells.length = d.next.length)) = b := ⟨_, rfl⟩
  have HOK := hid hok
  clear hok
  have h00 : (1 ≤ (d.next.length : Int) ∧ (d.next.length : Int) ≤ 1000) ∨ ¬ 1 ≤ (d.next.length : Int) ∨ ¬ (d.next.length : Int) ≤ 1000 := by omega
  by_cases h1 : 1 ≤ d.next.length ∧ d.next.length ≤ 1000
  · obtain ⟨h1, h2⟩ := h1
    have h1i : 1 ≤ (d.next.length : Int) := by omega
    have h2i : (d.next.length : Int) ≤ 1000 := by omega
    have hb0 := hid (show ((d.tells.length : Int) == (d.next.length : Int)) = ok0 by
      have := HOK.out
      simp [h1, h2] at this
      rw [← this, Bool.eq_iff_iff]; simp; omega)
    clear h00
    go_enter Try.func22, Try.ntmps22
    go_wp2_with fail
    go_loop [4, 5] (fun s4 s5 => ∃ (k : Nat) (ok : Bool), k ≤ d.next.length ∧ s5 = .int .i64 k ∧ s4 = .bool ok ∧ Hid (ok = (ok0 && (d.next.take k).all (rowB d.next.length)))) (fun _ s5 => d.next.length - (intOf s5).toNat)
    case atStart => exact ⟨0, _, by omega, rfl, rfl, by show _ = _; rw [hb0.out]; simp⟩
    case round =>
      obtain ⟨k, ok, hk, rfl, rfl, hT⟩ := hrel
      by_cases hlt : k < d.next.length
      · obtain ⟨b, o, A', c', rfl, _, hb, hc, hrl, _, _, hA'⟩ := H.out.at HA.out hlt
        have HA' := hid hA'
        clear hA'
        cases ok with
        | false =>
          have hr := hid (show rightB d = false by
            rw [rightB_eq, HOK.out, Bool.and_eq_false_iff]
            have := hT.out
            cases ok0 with
            | false => exact .inl rfl
            | true => exact .inr (all_take_le _ _ k (by simpa using this.symm)))
          go_wp2
          go_ret
          exact ⟨ret_bool hr.out.symm, (Below.refl _ _).alloc (Nat.le_refl _) _⟩
        | true =>
          obtain ⟨okr, hokr⟩ : ∃ b, (((row d.next k).length : Int) == 37) = b := ⟨_, rfl⟩
          have hokr' := hid (show decide ((row d.next k).length = 37) = okr by rw [← hokr, Bool.eq_iff_iff]; simp; omega)
          go_wp2_with fail
          go_loop [4, 6] (fun s4 s6 => ∃ (j : Nat) (ok : Bool), j ≤ (row d.next k).length ∧ s6 = .int .i64 j ∧ s4 = .bool ok ∧ Hid (ok = (okr && ((row d.next k).take j).all (valB d.next.length)))) (fun _ s6 => (row d.next k).length - (intOf s6).toNat)
          case atStart => exact ⟨0, _, by omega, rfl, rfl, by show _ = _; simp⟩
          case round =>
            obtain ⟨j, ok, hj, rfl, rfl, hT2⟩ := hrel
            by_cases hjt : j < (row d.next k).length
            · obtain ⟨b2, o2, rfl, _, hb2, hc2⟩ := HA'.out.num hjt
              have hst := hid (all_take_succ (valB d.next.length) (row d.next k) j _ (some_nth hjt))
              cases ok with
              | false =>
                go_wp2
                go_round
                case rel => exact ⟨j + 1, false, by omega, by go_num, rfl, by show _ = _; rw [hst.out, ← Bool.and_assoc, ← hT2.out]; rfl⟩
                case measure => simp [intOf]; omega
              | true =>
                by_cases hz : 0 ≤ nth (row d.next k) j
                · go_wp2
                  go_round
                  case rel => exact ⟨j + 1, _, by omega, by go_num, rfl, by show _ = _; rw [hst.out, ← Bool.and_assoc, ← hT2.out]; simp [valB, hz]⟩
                  case measure => simp [intOf]; omega
                · go_wp2
                  go_round
                  case rel => exact ⟨j + 1, _, by omega, by go_num, rfl, by show _ = _; rw [hst.out, ← Bool.and_assoc, ← hT2.out]; simp [valB, hz]⟩
                  case measure => simp [intOf]; omega
            · obtain rfl : j = (row d.next k).length := by omega
              have hst := hid (all_take_succ (rowB d.next.length) d.next k _ (some_row hlt))
              go_wp2
              go_round
              case rel => exact ⟨k + 1, ok, by omega, by go_num, rfl, by
                show _ = _
                rw [hst.out, ← Bool.and_assoc, ← hT.out, hT2.out, rowB_eq, hokr'.out, List.take_length]; rfl⟩
              case measure => simp [intOf]; omega
      · obtain rfl : k = d.next.length := by omega
        have hr := hid (show rightB d = ok by rw [rightB_eq, HOK.out, hT.out, List.take_length])
        go_wp2
        go_ret
        exact ⟨ret_bool hr.out.symm, (Below.refl _ _).alloc (Nat.le_refl _) _⟩
  · have hr := hid (show rightB d = false by
      rw [rightB_eq]
      have : (decide (1 ≤ d.next.length) && decide (d.next.length ≤ 1000)) = false := by simp; omega
      rw [this]; rfl)
    by_cases h2 : 1 ≤ (d.next.length : Int)
    · have h3 : ¬ (d.next.length : Int) ≤ 1000 := by omega
      clear h00 h1
      go_enter Try.func22, Try.ntmps22
      go_wp2_with fail
      refine wp_loop_once ?_
      go_wp2
      go_ret
      exact ⟨ret_bool hr.out.symm, (Below.refl _ _).alloc (Nat.le_refl _) _⟩
    · clear h00 h1
      go_enter Try.func22, Try.ntmps22
      go_wp2_with fail
      refine wp_loop_once ?_
      go_wp2
      go_ret
      exact ⟨ret_bool hr.out.symm, (Below.refl _ _).alloc (Nat.le_refl _) _⟩
end Go.Proofs.Ytmdkmobcglnmgaa
