/- The least and the greatest number of a list that is not empty; the library's Min and Max. No conditions beside that. -/
import Derived.Test.YtmdkmobcglnmgaaTab
namespace Go.Proofs.Ytmdkmobcglnmgaa
open Go.RowKit

def minL : List Int → Int
  | [] => 0
  | z :: r => r.foldl (fun a b => if b < a then b else a) z
def maxL : List Int → Int
  | [] => 0
  | z :: r => r.foldl (fun a b => if a < b then b else a) z
theorem minL_snoc (l : List Int) (h : l ≠ []) (x : Int) : minL (l ++ [x]) = if x < minL l then x else minL l := by
  cases l with
  | nil => exact absurd rfl h
  | cons z r => simp only [minL, List.cons_append, List.foldl_append]; rfl
theorem maxL_snoc (l : List Int) (h : l ≠ []) (x : Int) : maxL (l ++ [x]) = if maxL l < x then x else maxL l := by
  cases l with
  | nil => exact absurd rfl h
  | cons z r => simp only [maxL, List.cons_append, List.foldl_append]; rfl

set_option maxHeartbeats 400000 in
theorem min_any (S : Nat → Prop) (v : Value) (zs : List Int) (w : World) (h : IsNums .i64 w S v zs) (hn : 0 < zs.length) :
    Calls Try.prog 53 #[v] w fun e w' => e = .returned (.int .i64 (minL zs)) ∧ Below w.heap.size w w' := by
  have hl := h.le
  obtain ⟨A, c, rfl, _, _, hA⟩ := h
  obtain ⟨b0, o0, rfl, _, _, hc0⟩ := hA.num hn
  rw [Nat.add_zero] at hc0
  have hn0 : (0 : Int) < (zs.length : Int) := by omega
  have HA := hid hA
  clear hA
  go_enter Try.func53, Try.ntmps53
  go_wp2
  go_loop [3, 4] (fun m i => ∃ k : Nat, 1 ≤ k ∧ k ≤ zs.length ∧ i = .int .i64 k ∧ m = .int .i64 (minL (zs.take k))) (fun _ i => zs.length - (intOf i).toNat)
  case atStart => exact ⟨1, by omega, by omega, rfl, by rw [take_nth hn]; rfl⟩
  case round =>
    obtain ⟨k, hk1, hk, rfl, rfl⟩ := hrel
    by_cases hlt : k < zs.length
    · obtain ⟨b, o, e, _, _, hc⟩ := HA.out.num hlt
      obtain ⟨rfl, rfl⟩ : b0 = b ∧ o0 = o := by simpa using e
      clear e
      have hst := hid (show minL (zs.take (k + 1)) = if nth zs k < minL (zs.take k) then nth zs k else minL (zs.take k) by
        rw [take_nth hlt, minL_snoc _ (List.ne_nil_of_length_pos (by rw [List.length_take]; omega))])
      go_wp2
      go_round
      case rel => exact ⟨k + 1, by omega, by omega, by go_num, by rw [hst.out]⟩
      case measure => simp [intOf]; omega
    · obtain rfl : k = zs.length := by omega
      go_wp2
      go_ret
      exact ⟨ret_int (by first | rfl | rw [List.take_length]), Below.refl _ _⟩
set_option maxHeartbeats 400000 in
theorem max_any (S : Nat → Prop) (v : Value) (zs : List Int) (w : World) (h : IsNums .i64 w S v zs) (hn : 0 < zs.length) :
    Calls Try.prog 54 #[v] w fun e w' => e = .returned (.int .i64 (maxL zs)) ∧ Below w.heap.size w w' := by
  have hl := h.le
  obtain ⟨A, c, rfl, _, _, hA⟩ := h
  obtain ⟨b0, o0, rfl, _, _, hc0⟩ := hA.num hn
  rw [Nat.add_zero] at hc0
  have hn0 : (0 : Int) < (zs.length : Int) := by omega
  have HA := hid hA
  clear hA
  go_enter Try.func54, Try.ntmps54
  go_wp2
  go_loop [3, 4] (fun m i => ∃ k : Nat, 1 ≤ k ∧ k ≤ zs.length ∧ i = .int .i64 k ∧ m = .int .i64 (maxL (zs.take k))) (fun _ i => zs.length - (intOf i).toNat)
  case atStart => exact ⟨1, by omega, by omega, rfl, by rw [take_nth hn]; rfl⟩
  case round =>
    obtain ⟨k, hk1, hk, rfl, rfl⟩ := hrel
    by_cases hlt : k < zs.length
    · obtain ⟨b, o, e, _, _, hc⟩ := HA.out.num hlt
      obtain ⟨rfl, rfl⟩ : b0 = b ∧ o0 = o := by simpa using e
      clear e
      have hst := hid (show maxL (zs.take (k + 1)) = if maxL (zs.take k) < nth zs k then nth zs k else maxL (zs.take k) by
        rw [take_nth hlt, maxL_snoc _ (List.ne_nil_of_length_pos (by rw [List.length_take]; omega))])
      go_wp2
      go_round
      case rel => exact ⟨k + 1, by omega, by omega, by go_num, by rw [hst.out]⟩
      case measure => simp [intOf]; omega
    · obtain rfl : k = zs.length := by omega
      go_wp2
      go_ret
      exact ⟨ret_int (by first | rfl | rw [List.take_length]), Below.refl _ _⟩
theorem minL_le (zs : List Int) : ∀ z ∈ zs, minL zs ≤ z := by
  cases zs with
  | nil => intro z h; cases h
  | cons a r =>
    have key : ∀ (l : List Int) (a : Int), (∀ z ∈ l, l.foldl (fun a b => if b < a then b else a) a ≤ z) ∧ l.foldl (fun a b => if b < a then b else a) a ≤ a := by
      intro l
      induction l with
      | nil => intro a; exact ⟨(fun z h => by cases h), Int.le_refl _⟩
      | cons x l ih =>
        intro a
        obtain ⟨h1, h2⟩ := ih (if x < a then x else a)
        have h3 : (if x < a then x else a) ≤ a ∧ (if x < a then x else a) ≤ x := by split <;> omega
        refine ⟨fun z hz => ?_, ?_⟩
        · rcases List.mem_cons.1 hz with rfl | hz
          · exact Int.le_trans h2 h3.2
          · exact h1 z hz
        · exact Int.le_trans h2 h3.1
    intro z hz
    rcases List.mem_cons.1 hz with rfl | hz
    · exact (key r z).2
    · exact (key r a).1 z hz
theorem le_maxL (zs : List Int) : ∀ z ∈ zs, z ≤ maxL zs := by
  cases zs with
  | nil => intro z h; cases h
  | cons a r =>
    have key : ∀ (l : List Int) (a : Int), (∀ z ∈ l, z ≤ l.foldl (fun a b => if a < b then b else a) a) ∧ a ≤ l.foldl (fun a b => if a < b then b else a) a := by
      intro l
      induction l with
      | nil => intro a; exact ⟨(fun z h => by cases h), Int.le_refl _⟩
      | cons x l ih =>
        intro a
        obtain ⟨h1, h2⟩ := ih (if a < x then x else a)
        have h3 : a ≤ (if a < x then x else a) ∧ x ≤ (if a < x then x else a) := by split <;> omega
        refine ⟨fun z hz => ?_, ?_⟩
        · rcases List.mem_cons.1 hz with rfl | hz
          · exact Int.le_trans h3.2 h2
          · exact h1 z hz
        · exact Int.le_trans h3.1 h2
    intro z hz
    rcases List.mem_cons.1 hz with rfl | hz
    · exact (key r z).2
    · exact (key r a).1 z hz
theorem minL_mem (zs : List Int) (h : zs ≠ []) : minL zs ∈ zs := by
  cases zs with
  | nil => exact absurd rfl h
  | cons a r =>
    have key : ∀ (l : List Int) (a : Int), l.foldl (fun a b => if b < a then b else a) a = a ∨ l.foldl (fun a b => if b < a then b else a) a ∈ l := by
      intro l
      induction l with
      | nil => intro a; exact .inl rfl
      | cons x l ih =>
        intro a
        simp only [List.foldl_cons, List.mem_cons]
        rcases ih (if x < a then x else a) with h | h
        · rw [h]; split <;> simp
        · exact .inr (.inr h)
    rcases key r a with h | h
    · show r.foldl _ a ∈ _; rw [h]; simp
    · exact List.mem_cons_of_mem _ h
theorem maxL_mem (zs : List Int) (h : zs ≠ []) : maxL zs ∈ zs := by
  cases zs with
  | nil => exact absurd rfl h
  | cons a r =>
    have key : ∀ (l : List Int) (a : Int), l.foldl (fun a b => if a < b then b else a) a = a ∨ l.foldl (fun a b => if a < b then b else a) a ∈ l := by
      intro l
      induction l with
      | nil => intro a; exact .inl rfl
      | cons x l ih =>
        intro a
        simp only [List.foldl_cons, List.mem_cons]
        rcases ih (if a < x then x else a) with h | h
        · rw [h]; split <;> simp
        · exact .inr (.inr h)
    rcases key r a with h | h
    · show r.foldl _ a ∈ _; rw [h]; simp
    · exact List.mem_cons_of_mem _ h
theorem rowB_iff (n : Nat) (r : List Int) (hr : r.length = 37) : rowB n r = (decide (0 ≤ minL r) && decide (maxL r < n)) := by
  have hne : r ≠ [] := by intro h; rw [h] at hr; simp at hr
  rw [rowB_eq, Bool.eq_iff_iff]
  simp only [hr, decide_true, Bool.true_and, List.all_eq_true, valB, Bool.and_eq_true, decide_eq_true_eq]
  constructor
  · intro h
    exact ⟨(h _ (minL_mem r hne)).1, (h _ (maxL_mem r hne)).2⟩
  · rintro ⟨h1, h2⟩ z hz
    exact ⟨Int.le_trans h1 (minL_le r z hz), Int.lt_of_le_of_lt (le_maxL r z hz) h2⟩

set_option maxHeartbeats 400000 in
theorem right_any (S : Nat → Prop) (v : Value) (d : D) (w : World) (h : IsD w S v d) :
    Calls Try.prog 26 #[v] w fun e w' => e = .returned (.bool (rightB d)) ∧ Below w.heap.size w w' := by
  obtain ⟨nv, tv, rfl, hn, ht⟩ := h
  obtain ⟨A, cA, vs, rfl, hl, hA, hR⟩ := hn.open
  have htl := ht.le
  obtain ⟨B, cB, rfl, _, _, hB⟩ := ht
  have H := hid hR
  have HA := hid hA
  clear hn hR hA hB
  by_cases h1 : d.next.length = 0 ∨ 1000 < d.next.length ∨ d.tells.length ≠ d.next.length
  · have hr := hid (show rightB d = false by
      rw [rightB_eq]
      have : (decide (1 ≤ d.next.length) && decide (d.next.length ≤ 1000) && decide (d.tells.length = d.next.length)) = false := by
        rw [Bool.eq_false_iff]; intro h; simp at h; omega
      rw [this]; rfl)
    by_cases h2 : d.next.length = 0
    · have h2i : ((d.next.length : Int) == 0) = true := by simp [h2]
      clear h1 h2
      go_enter Try.func26, Try.ntmps26
      go_wp2
      go_ret
      exact ⟨ret_bool hr.out.symm, (Below.refl _ _).alloc (Nat.le_refl _) _⟩
    · have h2i : ((d.next.length : Int) == 0) = false := ieq_false (by omega)
      by_cases h3 : 1000 < d.next.length
      · clear h1 h2
        have h3i : 1000 < (d.next.length : Int) := by omega
        go_enter Try.func26, Try.ntmps26
        go_wp2
        go_ret
        exact ⟨ret_bool hr.out.symm, (Below.refl _ _).alloc (Nat.le_refl _) _⟩
      · have h4 : ((d.tells.length : Int) != (d.next.length : Int)) = true := ine_true (by omega)
        have h3i : ¬ 1000 < (d.next.length : Int) := by omega
        clear h1 h2
        go_enter Try.func26, Try.ntmps26
        go_wp2
        go_ret
        exact ⟨ret_bool hr.out.symm, (Below.refl _ _).alloc (Nat.le_refl _) _⟩
  · have h2i : ((d.next.length : Int) == 0) = false := ieq_false (by omega)
    have h3i : ¬ 1000 < (d.next.length : Int) := by omega
    have h4 : ((d.tells.length : Int) != (d.next.length : Int)) = false := ine_false (by omega)
    have hok := hid (show rightB d = d.next.all (rowB d.next.length) by
      rw [rightB_eq]
      have : (decide (1 ≤ d.next.length) && decide (d.next.length ≤ 1000) && decide (d.tells.length = d.next.length)) = true := by
        simp; omega
      rw [this]; rfl)
    clear h1
    go_enter Try.func26, Try.ntmps26
    go_wp2_with fail
    go_loopw [25] (fun i wr => ∃ k : Nat, k ≤ d.next.length ∧ i = .int .i64 k ∧ Hid ((d.next.take k).all (rowB d.next.length) = true) ∧ Below (w.heap.size + 1) (w.alloc (Obj.cells #[Value.slice A d.next.length cA, Value.slice B d.tells.length cB] 30)) wr) (fun i _ => d.next.length - (intOf i).toNat)
    case atStart => exact ⟨0, by omega, rfl, rfl, Below.refl _ _⟩
    case round =>
      obtain ⟨k, hk, rfl, hT, hbw⟩ := hrel
      have hbel : Below w.heap.size w wr := ((Below.refl _ _).alloc (Nat.le_refl _) _).trans (hbw.mono (by omega))
      by_cases hlt : k < d.next.length
      · obtain ⟨b, o, A', c', rfl, _, hb, hc, hrl, hc1, hc2, hA'⟩ := H.out.at HA.out hlt
        have hcw : wr.cell? ⟨b, o + k, none⟩ = some (.slice A' (row d.next k).length c') := (hbel.cell (p := ⟨b, o + k, none⟩) hb).trans hc
        have hN : IsNums .i64 wr S (.slice A' (row d.next k).length c') (row d.next k) := (show IsNums .i64 w S _ _ from ⟨A', c', rfl, hc1, hc2, hA'⟩).below hbel
        have hst := hid (all_take_succ (rowB d.next.length) d.next k _ (some_row hlt))
        by_cases h37 : (row d.next k).length = 37
        · have h37i : (((row d.next k).length : Int) != 37) = false := ine_false (by omega)
          have hpos : 0 < (row d.next k).length := by omega
          have hri := hid (rowB_iff d.next.length _ h37)
          have HN := hid hN
          clear h37 hA' hN
          by_cases hm : minL (row d.next k) < 0
          · have hr := hid (show rightB d = false by
              rw [hok.out]
              refine all_take_le _ _ (k + 1) ?_
              rw [hst.out, hri.out]
              have : decide (0 ≤ minL (row d.next k)) = false := by simp; omega
              rw [this]; simp)
            go_wp2_with (go_at_call 53; refine (min_any S _ _ _ HN.out hpos).mono ?_; rintro e w1 ⟨rfl, hb1⟩)
            go_ret
            exact ⟨ret_bool hr.out.symm, hbel.trans (hb1.mono hbel.size)⟩
          · by_cases hM : (d.next.length : Int) ≤ maxL (row d.next k)
            · have hr := hid (show rightB d = false by
                rw [hok.out]
                refine all_take_le _ _ (k + 1) ?_
                rw [hst.out, hri.out]
                have : decide (maxL (row d.next k) < (d.next.length : Int)) = false := by simp; omega
                rw [this]; simp)
              go_wp2_with (first
                | (go_at_call 53; refine (min_any S _ _ _ HN.out hpos).mono ?_; rintro e w1 ⟨rfl, hb1⟩)
                | (go_at_call 54; refine (max_any S _ _ _ (HN.out.below hb1) hpos).mono ?_; rintro e w2 ⟨rfl, hb2⟩))
              go_ret
              exact ⟨ret_bool hr.out.symm, (hbel.trans (hb1.mono hbel.size)).trans (hb2.mono (Nat.le_trans hbel.size hb1.size))⟩
            · have hT' : Hid ((d.next.take (k + 1)).all (rowB d.next.length) = true) := by
                show _ = _
                rw [hst.out, hT.out, hri.out]
                simp; omega
              go_wp2_with (first
                | (go_at_call 53; refine (min_any S _ _ _ HN.out hpos).mono ?_; rintro e w1 ⟨rfl, hb1⟩)
                | (go_at_call 54; refine (max_any S _ _ _ (HN.out.below hb1) hpos).mono ?_; rintro e w2 ⟨rfl, hb2⟩))
              go_roundw
              case rel => exact ⟨k + 1, by omega, by go_num, hT', hbw.trans ((hb1.mono (by simpa using hbw.size)).trans (hb2.mono (by have := hbw.size; have := hb1.size; simp at *; omega)))⟩
              case measure => simp [intOf]; omega
        · have h37i : (((row d.next k).length : Int) != 37) = true := ine_true (by omega)
          have hr := hid (show rightB d = false by
            rw [hok.out]
            refine all_take_le _ _ (k + 1) ?_
            rw [hst.out, rowB_eq]
            simp [h37])
          clear h37
          go_wp2
          go_ret
          exact ⟨ret_bool hr.out.symm, hbel⟩
      · obtain rfl : k = d.next.length := by omega
        have hr := hid (show rightB d = true by rw [hok.out, ← hT.out, List.take_length])
        go_wp2
        go_ret
        exact ⟨ret_bool hr.out.symm, hbel⟩
end Go.Proofs.Ytmdkmobcglnmgaa
