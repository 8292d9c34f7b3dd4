/- What tells two states apart; whether two tables are alike: the walks. Condition: what is told is told in 64 bits. -/
import Derived.Test.YtmdkmobcglnmgaaBf
import Derived.Test.YtmdkmobcglnmgaaSb
namespace Go.Proofs.Ytmdkmobcglnmgaa
open Go.RowKit
set_option linter.unusedSimpArgs false

theorem search_d (S S' : Nat → Prop) (va vb : Value) (A B : D) (p q : Nat) (w : World) (ha : IsD w S va A) (hb : IsD w S' vb B) (hra : rightB A = true) (hrb : rightB B = true) (hua : ∀ z ∈ A.tells, u64ok z) (hub : ∀ z ∈ B.tells, u64ok z) (hp : p < A.next.length) (hq : q < B.next.length) :
    Calls Try.prog 59 #[va, vb, .int .i64 p, .int .i64 q] w (SearchAns w A B p q) := by
  obtain ⟨nv, tv, rfl, _, _⟩ := id ha
  obtain ⟨nv2, tv2, rfl, _, _⟩ := id hb
  obtain ⟨nb, no, nc, tb, to', tc, rfl, rfl, hx⟩ := tabX_of ha hra hua
  obtain ⟨nb2, no2, nc2, tb2, to2, tc2, rfl, rfl, hy⟩ := tabX_of hb hrb hub
  exact search_any w nb no nc tb to' tc nb2 no2 nc2 tb2 to2 tc2 p q A B hx hy hp hq
theorem search_0 (S S' : Nat → Prop) (va vb : Value) (A B : D) (w : World) (ha : IsD w S va A) (hb : IsD w S' vb B) (hra : rightB A = true) (hrb : rightB B = true) (hua : ∀ z ∈ A.tells, u64ok z) (hub : ∀ z ∈ B.tells, u64ok z) :
    Calls Try.prog 59 #[va, vb, .int .i64 0, .int .i64 0] w (SearchAns w A B 0 0) := by
  have h := search_d S S' va vb A B 0 0 w ha hb hra hrb hua hub (rt_of_right hra).2.1 (rt_of_right hrb).2.1
  simpa using h
def AlikeAns (w : World) (A B : D) (e : Ending) (w' : World) : Prop := ∃ b : Bool, e = .returned (.bool b) ∧ (b = true ↔ rightB A = true ∧ rightB B = true ∧ AlkT A B) ∧ Below w.heap.size w w'
set_option maxRecDepth 100000 in
set_option maxHeartbeats 2000000 in
theorem alikeT_any (S S' : Nat → Prop) (va vb : Value) (A B : D) (w : World) (ha : IsD w S va A) (hb : IsD w S' vb B) (hua : ∀ z ∈ A.tells, u64ok z) (hub : ∀ z ∈ B.tells, u64ok z) :
    Calls Try.prog 41 #[va, vb] w (AlikeAns w A B) := by
  obtain ⟨nv, tv, rfl, hn, ht⟩ := id ha
  obtain ⟨nv2, tv2, rfl, hn2, ht2⟩ := id hb
  obtain ⟨NA, nc, rfl⟩ := hn.form
  obtain ⟨TA, tc, rfl⟩ := ht.form
  obtain ⟨NB, nd, rfl⟩ := hn2.form
  obtain ⟨TB, td, rfl⟩ := ht2.form
  obtain ⟨W, hW⟩ : ∃ W, W = (w.alloc (.cells #[.slice NA A.next.length nc, .slice TA A.tells.length tc] 30)).alloc (.cells #[.slice NB B.next.length nd, .slice TB B.tells.length td] 30) := ⟨_, rfl⟩
  have hb0 : Below w.heap.size w W := by rw [hW]; exact ((Below.refl _ _).alloc (Nat.le_refl _) _).alloc (by simp) _
  have HB := hid hb0
  have HZ := hid (show W.heap.size = w.heap.size + 2 by rw [hW]; simp)
  have HP0 := hid (show W.heap[w.heap.size]? = some (.cells #[.slice NA A.next.length nc, .slice TA A.tells.length tc] 30 (0, 0)) by rw [hW, heap_alloc_old _ _ (by simp)]; exact heap_alloc_new _ _)
  have HP1 := hid (show W.heap[w.heap.size + 1]? = some (.cells #[.slice NB B.next.length nd, .slice TB B.tells.length td] 30 (0, 0)) by rw [hW]; exact heap_alloc2_new _ _ _)
  have HX := hid (show ∀ Y, Below W.heap.size W Y → Y.cell? ⟨w.heap.size, 0, none⟩ = some (.slice NA A.next.length nc) ∧ Y.cell? ⟨w.heap.size, 1, none⟩ = some (.slice TA A.tells.length tc) ∧ Y.cell? ⟨w.heap.size + 1, 0, none⟩ = some (.slice NB B.next.length nd) ∧ Y.cell? ⟨w.heap.size + 1, 1, none⟩ = some (.slice TB B.tells.length td) from fun Y hY => by
    have hz := HZ.out
    obtain ⟨a, b, _⟩ := slot2 ((hY.block w.heap.size (by omega)).trans HP0.out)
    obtain ⟨c, d, _⟩ := slot2 ((hY.block (w.heap.size + 1) (by omega)).trans HP1.out)
    exact ⟨a, b, c, d⟩)
  have HA := hid (ha.below hb0)
  have HBB := hid (hb.below hb0)
  have HUA := hid hua
  have HUB := hid hub
  obtain ⟨x0, x1, x2, x3⟩ := HX.out W (Below.refl _ _)
  clear ha hb hn ht hn2 ht2 hb0 hua hub
  cases hra : rightB A with
  | false =>
    have HRA := hid hra
    clear hra
    go_enter Try.func41, Try.ntmps41
    go_wp2_with fail
    rw [← hW]
    clear hW
    go_wp2_with (first
      | (go_at_call 26; refine (right_any S _ A _ HA.out).mono ?_; rintro e w1 ⟨rfl, hb1⟩; rw [HRA.out]; have HB1 := hid (HB.out.trans (hb1.mono HB.out.size)); clear hb1)
      | fail)
    go_ret
    exact ⟨false, rfl, ⟨fun h => (by cases h), fun h => by rw [HRA.out] at h; exact h.1⟩, HB1.out⟩
  | true =>
    have HRA := hid hra
    clear hra
    cases hrb : rightB B with
    | false =>
      have HRB := hid hrb
      have tok1 : True := trivial
      clear hrb
      go_enter Try.func41, Try.ntmps41
      go_wp2_with fail
      rw [← hW]
      clear hW
      go_wp2_with (first
        | (go_at_call 26; have _t := tok1; refine (right_any S _ A _ HA.out).mono ?_; rintro e w1 ⟨rfl, hb1⟩; rw [HRA.out]; have HB1 := hid hb1; obtain ⟨y0, y1, y2, y3⟩ := HX.out _ hb1; clear hb1 tok1 _t)
        | (go_at_call 26; refine (right_any S' _ B _ (HBB.out.below HB1.out)).mono ?_; rintro e w2 ⟨rfl, hb2⟩; rw [HRB.out]; have HB2 := hid (HB1.out.trans (hb2.mono HB1.out.size)); clear hb2)
        | fail)
      go_ret
      exact ⟨false, rfl, ⟨fun h => (by cases h), fun h => by rw [HRB.out] at h; exact h.2.1⟩, HB.out.trans (HB2.out.mono HB.out.size)⟩
    | true =>
      have HRB := hid hrb
      have tok1 : True := trivial
      clear hrb
      have HS := hid (show ∀ Y, Below W.heap.size W Y → Calls Try.prog 59 #[.agg #[.slice NA A.next.length nc, .slice TA A.tells.length tc], .agg #[.slice NB B.next.length nd, .slice TB B.tells.length td], .int .i64 0, .int .i64 0] Y (SearchAns Y A B 0 0) from fun Y hY =>
        search_0 _ _ _ _ A B Y (HA.out.below hY) (HBB.out.below hY) HRA.out HRB.out HUA.out HUB.out)
      go_enter Try.func41, Try.ntmps41
      go_wp2_with fail
      rw [← hW]
      clear hW
      go_wp2_with (first
        | (go_at_call 26; have _t := tok1; refine (right_any S _ A _ HA.out).mono ?_; rintro e w1 ⟨rfl, hb1⟩; rw [HRA.out]; have HB1 := hid hb1; obtain ⟨y0, y1, y2, y3⟩ := HX.out _ hb1; clear hb1 tok1 _t)
        | (go_at_call 26; refine (right_any S' _ B _ (HBB.out.below HB1.out)).mono ?_; rintro e w2 ⟨rfl, hb2⟩; rw [HRB.out]; have HB2 := hid (HB1.out.trans (hb2.mono HB1.out.size)); obtain ⟨z0, z1, z2, z3⟩ := HX.out _ (HB1.out.trans (hb2.mono HB1.out.size)); clear hb2)
        | fail)
      refine (HS.out _ HB2.out).mono ?_
      rintro e w3 (⟨v, u, rfl, hf, _, hb3⟩ | ⟨rfl, hno, hb3⟩)
      · have HF := hid hf
        have HB3 := hid (HB2.out.trans (hb3.mono HB2.out.size))
        clear hf hb3
        go_wp2_with fail
        go_ret
        exact ⟨false, rfl, ⟨fun h => (by cases h), fun h => absurd HF.out.sep (h.2.2 u HF.out.ok)⟩, HB.out.trans (HB3.out.mono HB.out.size)⟩
      · have HNO := hid hno
        have HB3 := hid (HB2.out.trans (hb3.mono HB2.out.size))
        clear hno hb3
        go_wp2_with fail
        go_ret
        exact ⟨true, rfl, ⟨fun _ => ⟨HRA.out, HRB.out, HNO.out⟩, fun _ => rfl⟩, HB.out.trans (HB3.out.mono HB.out.size)⟩
/-- Is there a table, and are there these states? -/
def okB (d : D) (p q : Int) : Bool := rightB d && decide (0 ≤ p) && decide (0 ≤ q) && decide (p < d.next.length) && decide (q < d.next.length)
set_option maxRecDepth 100000 in
set_option maxHeartbeats 2000000 in
theorem apart_no (S : Nat → Prop) (v : Value) (d : D) (p q : Int) (w : World) (h : IsD w S v d) (hk : okB d p q = false) :
    Calls Try.prog 38 #[v, .int .i64 p, .int .i64 q] w fun e w' => e = .returned (.tuple #[.slice none 0 0, .bool false]) ∧ Below w.heap.size w w' := by
  obtain ⟨nv, tv, rfl, hn, ht⟩ := id h
  obtain ⟨NA, nc, rfl⟩ := hn.form
  obtain ⟨TA, tc, rfl⟩ := ht.form
  obtain ⟨W, hW⟩ : ∃ W, W = w.alloc (.cells #[.slice NA d.next.length nc, .slice TA d.tells.length tc] 30) := ⟨_, rfl⟩
  have hb0 : Below w.heap.size w W := by rw [hW]; exact (Below.refl _ _).alloc (Nat.le_refl _) _
  have HB := hid hb0
  have HP0 := hid (show W.heap[w.heap.size]? = some (.cells #[.slice NA d.next.length nc, .slice TA d.tells.length tc] 30 (0, 0)) by rw [hW]; exact heap_alloc_new _ _)
  have HX := hid (show ∀ Y, Below W.heap.size W Y → Y.cell? ⟨w.heap.size, 0, none⟩ = some (.slice NA d.next.length nc) ∧ Y.cell? ⟨w.heap.size, 1, none⟩ = some (.slice TA d.tells.length tc) from fun Y hY => by
    obtain ⟨a, b, _⟩ := slot2 ((hY.block w.heap.size (by rw [hW]; simp)).trans HP0.out)
    exact ⟨a, b⟩)
  have HD := hid (h.below hb0)
  obtain ⟨x0, x1⟩ := HX.out W (Below.refl _ _)
  have HK := hid hk
  clear h hn ht hb0 hk
  cases hr : rightB d with
  | false =>
    have HR := hid hr
    clear hr
    go_enter Try.func38, Try.ntmps38
    go_wp2_with fail
    rw [← hW]
    clear hW
    go_wp2_with (first
      | (go_at_call 26; refine (right_any S _ d _ HD.out).mono ?_; rintro e w1 ⟨rfl, hb1⟩; rw [HR.out]; have HB1 := hid (HB.out.trans (hb1.mono HB.out.size)); clear hb1)
      | fail)
    go_ret2
    exact ⟨rfl, HB1.out⟩
  | true =>
    have HR := hid hr
    clear hr
    rcases Int.lt_or_le p 0 with hp | hp
    · have h1 : decide (p < 0) = true := by simpa using hp
      go_enter Try.func38, Try.ntmps38
      go_wp2_with fail
      rw [← hW]
      clear hW
      go_wp2_with (first
        | (go_at_call 26; refine (right_any S _ d _ HD.out).mono ?_; rintro e w1 ⟨rfl, hb1⟩; rw [HR.out]; have HB1 := hid (HB.out.trans (hb1.mono HB.out.size)); clear hb1)
        | fail)
      go_ret2
      exact ⟨rfl, HB1.out⟩
    · have h1 : decide (p < 0) = false := by simp; omega
      rcases Int.lt_or_le q 0 with hq | hq
      · have h2 : decide (q < 0) = true := by simpa using hq
        go_enter Try.func38, Try.ntmps38
        go_wp2_with fail
        rw [← hW]
        clear hW
        go_wp2_with (first
          | (go_at_call 26; refine (right_any S _ d _ HD.out).mono ?_; rintro e w1 ⟨rfl, hb1⟩; rw [HR.out]; have HB1 := hid (HB.out.trans (hb1.mono HB.out.size)); clear hb1)
          | fail)
        go_ret2
        exact ⟨rfl, HB1.out⟩
      · have h2 : decide (q < 0) = false := by simp; omega
        rcases Int.lt_or_le p d.next.length with hp2 | hp2
        · have h3 : decide ((d.next.length : Int) ≤ p) = false := by simp; omega
          have hq2 : (d.next.length : Int) ≤ q := by
            refine Int.not_lt.1 fun hlt => ?_
            have := HK.out
            simp [okB, HR.out, hp, hq, hp2, hlt] at this
          have h4 : decide ((d.next.length : Int) ≤ q) = true := by simpa using hq2
          go_enter Try.func38, Try.ntmps38
          go_wp2_with fail
          rw [← hW]
          clear hW
          go_wp2_with (first
            | (go_at_call 26; refine (right_any S _ d _ HD.out).mono ?_; rintro e w1 ⟨rfl, hb1⟩; rw [HR.out]; obtain ⟨y0, y1⟩ := HX.out _ hb1; have HB1 := hid (HB.out.trans (hb1.mono HB.out.size)); clear hb1)
            | fail)
          go_ret2
          exact ⟨rfl, HB1.out⟩
        · have h3 : decide ((d.next.length : Int) ≤ p) = true := by simpa using hp2
          go_enter Try.func38, Try.ntmps38
          go_wp2_with fail
          rw [← hW]
          clear hW
          go_wp2_with (first
            | (go_at_call 26; refine (right_any S _ d _ HD.out).mono ?_; rintro e w1 ⟨rfl, hb1⟩; rw [HR.out]; obtain ⟨y0, y1⟩ := HX.out _ hb1; have HB1 := hid (HB.out.trans (hb1.mono HB.out.size)); clear hb1)
            | fail)
          go_ret2
          exact ⟨rfl, HB1.out⟩
set_option maxRecDepth 100000 in
set_option maxHeartbeats 2000000 in
theorem apart_yes (S : Nat → Prop) (v : Value) (d : D) (p q : Nat) (w : World) (h : IsD w S v d) (hr : rightB d = true) (hu : ∀ z ∈ d.tells, u64ok z) (hp : p < d.next.length) (hq : q < d.next.length) :
    Calls Try.prog 38 #[v, .int .i64 p, .int .i64 q] w (SearchAns w d d p q) := by
  obtain ⟨nv, tv, rfl, hn, ht⟩ := id h
  obtain ⟨NA, nc, rfl⟩ := hn.form
  obtain ⟨TA, tc, rfl⟩ := ht.form
  obtain ⟨W, hW⟩ : ∃ W, W = w.alloc (.cells #[.slice NA d.next.length nc, .slice TA d.tells.length tc] 30) := ⟨_, rfl⟩
  have hb0 : Below w.heap.size w W := by rw [hW]; exact (Below.refl _ _).alloc (Nat.le_refl _) _
  have HB := hid hb0
  have HP0 := hid (show W.heap[w.heap.size]? = some (.cells #[.slice NA d.next.length nc, .slice TA d.tells.length tc] 30 (0, 0)) by rw [hW]; exact heap_alloc_new _ _)
  have HX := hid (show ∀ Y, Below W.heap.size W Y → Y.cell? ⟨w.heap.size, 0, none⟩ = some (.slice NA d.next.length nc) ∧ Y.cell? ⟨w.heap.size, 1, none⟩ = some (.slice TA d.tells.length tc) from fun Y hY => by
    obtain ⟨a, b, _⟩ := slot2 ((hY.block w.heap.size (by rw [hW]; simp)).trans HP0.out)
    exact ⟨a, b⟩)
  have HD := hid (h.below hb0)
  obtain ⟨x0, x1⟩ := HX.out W (Below.refl _ _)
  have HR := hid hr
  have HS := hid (show ∀ Y, Below W.heap.size W Y → Calls Try.prog 59 #[.agg #[.slice NA d.next.length nc, .slice TA d.tells.length tc], .agg #[.slice NA d.next.length nc, .slice TA d.tells.length tc], .int .i64 p, .int .i64 q] Y (SearchAns Y d d p q) from fun Y hY =>
    search_d _ _ _ _ d d p q Y (HD.out.below hY) (HD.out.below hY) hr hr hu hu hp hq)
  have hpi : (p : Int) < (d.next.length : Int) := by omega
  have hqi : (q : Int) < (d.next.length : Int) := by omega
  have hp0 : 0 ≤ (p : Int) := by omega
  have hq0 : 0 ≤ (q : Int) := by omega
  have h1 : decide ((p : Int) < 0) = false := by simp
  have h2 : decide ((q : Int) < 0) = false := by simp
  have h3 : decide ((d.next.length : Int) ≤ (p : Int)) = false := by simp; omega
  have h4 : decide ((d.next.length : Int) ≤ (q : Int)) = false := by simp; omega
  clear h hn ht hb0 hr hu
  go_enter Try.func38, Try.ntmps38
  go_wp2_with fail
  rw [← hW]
  clear hW
  go_wp2_with (first
    | (go_at_call 26; refine (right_any S _ d _ HD.out).mono ?_; rintro e w1 ⟨rfl, hb1⟩; rw [HR.out]; obtain ⟨y0, y1⟩ := HX.out _ hb1; have HB1 := hid hb1; clear hb1)
    | fail)
  refine (HS.out _ HB1.out).mono ?_
  rintro e w3 (⟨v, u, rfl, hf, hi, hb3⟩ | ⟨rfl, hno, hb3⟩)
  · have HF := hid hf
    have HI := hid hi
    have HB3 := hid hb3
    clear hf hb3 hi
    go_wp2_with fail
    go_ret2
    have hle : w.heap.size ≤ w1.heap.size := Nat.le_trans HB.out.size HB1.out.size
    exact .inl ⟨_, u, rfl, HF.out, HI.out.mono (fun b hb _ => Nat.le_trans hle hb), HB.out.trans ((HB1.out.trans (HB3.out.mono HB1.out.size)).mono HB.out.size)⟩
  · have HNO := hid hno
    have HB3 := hid hb3
    clear hno hb3
    go_wp2_with fail
    go_ret2
    exact .inr ⟨rfl, HNO.out, HB.out.trans ((HB1.out.trans (HB3.out.mono HB1.out.size)).mono HB.out.size)⟩
end Go.Proofs.Ytmdkmobcglnmgaa
