/- Whether a number is in ranges; the document's class of a number; whether entries may be. Conditions: entries in memory. -/
import Derived.Test.YtehchnagjdmdgaaRg
import Derived.Test.YtehchnagjdmdgaaRh
namespace Go.Proofs.Ytehchnagjdmdgaa
open Go.RowKit
set_option linter.unusedSimpArgs false
theorem inS_yes {l : List Rng} {r : Int} {k : Nat} (hk : k < l.length) (h : (rng l k).1 ≤ r ∧ r ≤ (rng l k).2) : inS l r = true :=
  List.any_eq_true.2 ⟨_, rng_mem hk, by simp [h.1, h.2]⟩
theorem inS_no {l : List Rng} {r : Int} (h : ∀ k, k < l.length → ¬ ((rng l k).1 ≤ r ∧ r ≤ (rng l k).2)) : inS l r = false := by
  cases e : inS l r with
  | false => rfl
  | true =>
    obtain ⟨x, hx, h2⟩ := List.any_eq_true.1 e
    obtain ⟨k, hk⟩ := List.getElem?_of_mem hx
    simp only [Bool.and_eq_true, decide_eq_true_eq] at h2
    have e2 : rng l k = x := by simp [rng, hk]
    exact absurd (by rw [e2]; exact h2) (h k (List.getElem?_eq_some_iff.1 hk).1)
set_option maxRecDepth 100000 in
set_option maxHeartbeats 1000000 in
theorem in_any (S : Nat → Prop) (A : Option Addr) (c : Nat) (l : List Rng) (r : Int) (w : World) (h : IsRngs w S (.slice A l.length c) l) :
    Calls Try.prog 31 #[.slice A l.length c, .int .i32 r] w fun e w' => e = .returned (.bool (inS l r)) ∧ Below w.heap.size w w' := by
  have H := hid h
  have hle := h.le
  clear h
  go_enter Try.func31, Try.ntmps31
  go_wp2_with fail
  go_loopw [5] (fun s5 wr => ∃ (k : Nat), k ≤ l.length ∧ s5 = .int .i64 k ∧ Hid (∀ q, q < k → ¬ ((rng l q).1 ≤ r ∧ r ≤ (rng l q).2)) ∧ Hid (Below w.heap.size w wr)) (fun s5 _ => l.length - (intOf s5).toNat)
  case atStart => exact ⟨0, by omega, rfl, hid (fun q hq => by omega), hid (Below.refl _ _)⟩
  case round =>
    obtain ⟨k, hk, rfl, HO, HB⟩ := hrel
    by_cases hlt : k < l.length
    · obtain ⟨b, o, rfl, -, hbl, c0, c1, hr⟩ := (H.out.below HB.out).at hlt
      obtain ⟨x1, hx1⟩ : ∃ z, z = (rng l k).1 := ⟨_, rfl⟩
      obtain ⟨x2, hx2⟩ : ∃ z, z = (rng l k).2 := ⟨_, rfl⟩
      have HX := hid (show ∀ q, q < k + 1 → (q = k → ¬ (x1 ≤ r ∧ r ≤ x2)) → ¬ ((rng l q).1 ≤ r ∧ r ≤ (rng l q).2) from fun q hq h => by
        by_cases e : q < k
        · exact HO.out q e
        · obtain rfl : q = k := by omega
          rw [← hx1, ← hx2]; exact h rfl)
      have HY := hid (show x1 ≤ r ∧ r ≤ x2 → inS l r = true from fun h => inS_yes hlt (by rw [← hx1, ← hx2]; exact h))
      rw [← hx1] at c0
      rw [← hx2] at c1
      clear hx1 hx2 hr
      by_cases h1 : x1 ≤ r
      · by_cases h2 : r ≤ x2
        · have HT := hid (HY.out ⟨h1, h2⟩)
          go_wp2_with fail
          go_ret
          exact ⟨ret_bool HT.out.symm, HB.out⟩
        · have HN := hid (fun q hq => HX.out q hq fun _ => by omega)
          go_wp2_with fail
          exact ⟨⟨k + 1, by omega, by go_num, HN, HB⟩, by simp [intOf]; omega⟩
      · have HN := hid (fun q hq => HX.out q hq fun _ => by omega)
        go_wp2_with fail
        exact ⟨⟨k + 1, by omega, by go_num, HN, HB⟩, by simp [intOf]; omega⟩
    · obtain rfl : k = l.length := by omega
      have HOK := hid (inS_no HO.out)
      go_wp2_with fail
      go_ret
      exact ⟨ret_bool HOK.out.symm, HB.out⟩
/-- A trie's answer. -/
def getB (other : Int) (es : List Ent) (r : Int) : Int := if 0 ≤ r ∧ r ≤ 1114111 then cls other es r else other
theorem getB_snoc {es : List Ent} {k : Nat} (other r : Int) (h : k < es.length) : getB other (es.take (k + 1)) r = if inS (ent es k).1 r = true ∧ 0 ≤ r ∧ r ≤ 1114111 then (ent es k).2 else getB other (es.take k) r := by
  unfold getB
  rw [cls_take other r h]
  by_cases h1 : 0 ≤ r ∧ r ≤ 1114111
  · rw [if_pos h1, if_pos h1]
    by_cases h2 : inS (ent es k).1 r = true
    · rw [if_pos h2, if_pos ⟨h2, h1⟩]
    · rw [if_neg h2, if_neg (fun h => h2 h.1)]
  · rw [if_neg h1, if_neg h1, if_neg (fun h => h1 h.2)]
set_option maxRecDepth 100000 in
set_option maxHeartbeats 1000000 in
theorem refGet_any (S : Nat → Prop) (A : Option Addr) (c : Nat) (es : List Ent) (other r : Int) (w : World) (h : IsEnts w S (.slice A es.length c) es) :
    Calls Try.prog 14 #[.int .i64 other, .slice A es.length c, .int .i32 r] w fun e w' => e = .returned (.int .i64 (getB other es r)) ∧ Below w.heap.size w w' := by
  have H := hid h
  have hle := h.le
  clear h
  go_enter Try.func14, Try.ntmps14
  go_wp2_with fail
  go_loopw [7, 8] (fun s7 s8 wr => ∃ (k : Nat) (z : Int), k ≤ es.length ∧ s8 = .int .i64 k ∧ s7 = .int .i64 z ∧ Hid (z = getB other (es.take k) r) ∧ Hid (Below w.heap.size w wr)) (fun _ s8 _ => es.length - (intOf s8).toNat)
  case atStart => exact ⟨0, other, by omega, rfl, rfl, hid (by unfold getB; rw [List.take_zero]; simp [cls]), hid (Below.refl _ _)⟩
  case round =>
    obtain ⟨k, z, hk, rfl, rfl, HZ, HB⟩ := hrel
    by_cases hlt : k < es.length
    · obtain ⟨b, o, B, d, rfl, -, hbl, c0, c1, hr, -⟩ := (H.out.below HB.out).at hlt
      have HS := hid (getB_snoc other r hlt)
      have HR := hid hr
      have HKE := hid (show ∀ Y, Below wr.heap.size wr Y → Y.cell? ⟨b, o + k * 2 + 1, none⟩ = some (.int .i64 (ent es k).2) from fun Y hY => (hY.cell (p := ⟨b, o + k * 2 + 1, none⟩) hbl).trans c1)
      obtain ⟨y, hy⟩ : ∃ y, y = (ent es k).2 := ⟨_, rfl⟩
      rw [← hy] at HS HKE c1
      clear hy hr
      by_cases hin : inS (ent es k).1 r = true
      · have HIN := hid hin
        by_cases h0 : 0 ≤ r
        · by_cases h1 : r ≤ 1114111
          · have HN := hid (show y = getB other (es.take (k + 1)) r by rw [HS.out, if_pos ⟨hin, h0, h1⟩])
            clear hin c1
            go_wp2_with fail
            refine (in_any S B d _ r wr HR.out).mono ?_
            rintro e w2 ⟨rfl, hb⟩
            rw [HIN.out]
            have HB2 := hid (HB.out.trans (hb.mono HB.out.size))
            have c1 := HKE.out w2 hb
            clear hb
            go_wp2_with fail
            exact ⟨⟨k + 1, y, by omega, by go_num, rfl, HN, HB2⟩, by simp [intOf]; omega⟩
          · have HN := hid (show z = getB other (es.take (k + 1)) r by rw [HS.out, if_neg (fun h => h1 h.2.2)]; exact HZ.out)
            clear hin c1
            go_wp2_with fail
            refine (in_any S B d _ r wr HR.out).mono ?_
            rintro e w2 ⟨rfl, hb⟩
            rw [HIN.out]
            have HB2 := hid (HB.out.trans (hb.mono HB.out.size))
            clear hb
            go_wp2_with fail
            exact ⟨⟨k + 1, z, by omega, by go_num, rfl, HN, HB2⟩, by simp [intOf]; omega⟩
        · have HN := hid (show z = getB other (es.take (k + 1)) r by rw [HS.out, if_neg (fun h => h0 h.2.1)]; exact HZ.out)
          clear hin c1
          go_wp2_with fail
          refine (in_any S B d _ r wr HR.out).mono ?_
          rintro e w2 ⟨rfl, hb⟩
          rw [HIN.out]
          have HB2 := hid (HB.out.trans (hb.mono HB.out.size))
          clear hb
          go_wp2_with fail
          exact ⟨⟨k + 1, z, by omega, by go_num, rfl, HN, HB2⟩, by simp [intOf]; omega⟩
      · have HIN := hid (show inS (ent es k).1 r = false by simpa using hin)
        have HN := hid (show z = getB other (es.take (k + 1)) r by rw [HS.out, if_neg (fun h => hin h.1)]; exact HZ.out)
        clear hin c1
        go_wp2_with fail
        refine (in_any S B d _ r wr HR.out).mono ?_
        rintro e w2 ⟨rfl, hb⟩
        rw [HIN.out]
        have HB2 := hid (HB.out.trans (hb.mono HB.out.size))
        clear hb
        go_wp2_with fail
        exact ⟨⟨k + 1, z, by omega, by go_num, rfl, HN, HB2⟩, by simp [intOf]; omega⟩
    · obtain rfl : k = es.length := by omega
      have HN := hid (show z = getB other es r by rw [HZ.out, List.take_length])
      go_wp2_with fail
      go_ret
      exact ⟨ret_int HN.out, HB.out⟩
/-- Is there more than is asked of? -/
def greatE (es : List Ent) : Bool := ((es.take 12).any fun e => decide (12 < e.1.length)) || decide (12 < es.length)
theorem greatE_no {es : List Ent} (h : greatE es = false) : es.length ≤ 12 ∧ ∀ e ∈ es, e.1.length ≤ 12 := by
  unfold greatE at h
  rw [Bool.or_eq_false_iff] at h
  have h2 : es.length ≤ 12 := by simpa using h.2
  refine ⟨h2, fun e he => ?_⟩
  have h3 := h.1
  rw [List.take_of_length_le h2, List.any_eq_false] at h3
  simpa using h3 e he
set_option maxRecDepth 100000 in
set_option maxHeartbeats 1000000 in
theorem great_any (S : Nat → Prop) (A : Option Addr) (c : Nat) (es : List Ent) (w : World) (h : IsEnts w S (.slice A es.length c) es) :
    Calls Try.prog 8 #[.slice A es.length c] w fun e w' => e = .returned (.bool (greatE es)) ∧ Below w.heap.size w w' := by
  have H := hid h
  have hle := h.le
  clear h
  go_enter Try.func8, Try.ntmps8
  go_wp2_with fail
  go_loopw [3] (fun s3 wr => ∃ (k : Nat), k ≤ es.length ∧ k ≤ 12 ∧ s3 = .int .i64 k ∧ Hid (∀ q, q < k → ¬ 12 < (ent es q).1.length) ∧ Hid (Below w.heap.size w wr)) (fun s3 _ => es.length - (intOf s3).toNat)
  case atStart => exact ⟨0, by omega, by omega, rfl, hid (fun q hq => by omega), hid (Below.refl _ _)⟩
  case round =>
    obtain ⟨k, hk, hk12, rfl, HO, HB⟩ := hrel
    have HEND := hid (show (k = es.length ∨ k = 12) → decide ((12 : Int) < (es.length : Int)) = greatE es from fun he => by
      unfold greatE
      rw [show decide ((12 : Int) < (es.length : Int)) = decide (12 < es.length) from decide_eq_decide.2 (by omega)]
      rw [show ((es.take 12).any fun e => decide (12 < e.1.length)) = false from List.any_eq_false.2 fun e hm => (by
        obtain ⟨q, hq⟩ := List.getElem?_of_mem hm
        rw [List.getElem?_take] at hq
        split at hq
        · have hql := (List.getElem?_eq_some_iff.1 hq).1
          have := HO.out q (by omega)
          rw [ent, hq] at this
          simpa using this
        · cases hq), Bool.false_or])
    by_cases hlt : k < es.length
    · by_cases h12 : k < 12
      · obtain ⟨b, o, B, d, rfl, -, hbl, c0, c1, hr, -⟩ := (H.out.below HB.out).at hlt
        have HX := hid (show ∀ q, q < k + 1 → (q = k → ¬ 12 < (ent es k).1.length) → ¬ 12 < (ent es q).1.length from fun q hq h => by
          by_cases e : q < k
          · exact HO.out q e
          · obtain rfl : q = k := by omega
            exact h rfl)
        have HT := hid (show 12 < (ent es k).1.length → greatE es = true from fun h => by
          unfold greatE
          rw [show ((es.take 12).any fun e => decide (12 < e.1.length)) = true from List.any_eq_true.2 ⟨ent es k, List.mem_of_getElem? (i := k) (by rw [List.getElem?_take, if_pos h12]; exact ent_some hlt), decide_eq_true h⟩]
          rfl)
        have hrl := hr.le
        obtain ⟨n, hn⟩ : ∃ n, n = (ent es k).1.length := ⟨_, rfl⟩
        rw [← hn] at c0 HX HT hrl
        clear hn hr
        by_cases hb : 12 < n
        · have HTT := hid (HT.out hb)
          go_wp2_with fail
          go_ret
          exact ⟨ret_bool HTT.out.symm, HB.out⟩
        · have HN := hid (fun q hq => HX.out q hq fun _ => hb)
          go_wp2_with fail
          exact ⟨⟨k + 1, by omega, by omega, by go_num, HN, HB⟩, by simp [intOf]; omega⟩
      · have HE := hid (HEND.out (.inr (by omega)))
        go_wp2_with fail
        go_ret
        exact ⟨ret_bool HE.out, HB.out⟩
    · obtain rfl : k = es.length := by omega
      have HE := hid (HEND.out (.inl rfl))
      go_wp2_with fail
      go_ret
      exact ⟨ret_bool HE.out, HB.out⟩
/-- May an entry be? -/
def goodE (e : Ent) : Bool := rightB e.1 && decide (0 ≤ e.2) && decide (e.2 ≤ 255)
def classB (n : Int) : Bool := decide (0 ≤ n) && decide (n ≤ 255)
theorem class_any (n : Int) (w : World) : Calls Try.prog 23 #[.int .i64 n] w fun e w' => e = .returned (.bool (classB n)) ∧ w' = w := by
  go_enter Try.func23, Try.ntmps23
  by_cases h1 : 0 ≤ n
  · go_wp2_with fail
    go_ret
    exact ⟨ret_bool (by simp [classB, h1]), rfl⟩
  · go_wp2_with fail
    go_ret
    exact ⟨ret_bool (by simp [classB]; omega), rfl⟩
set_option maxRecDepth 100000 in
set_option maxHeartbeats 1000000 in
theorem bad_any (S : Nat → Prop) (A : Option Addr) (c : Nat) (e : Ent) (w : World) (h : IsRngs w S (.slice A e.1.length c) e.1) :
    Calls Try.prog 25 #[.agg #[.slice A e.1.length c, .int .i64 e.2]] w fun x w' => x = .returned (.bool (!goodE e)) ∧ Below w.heap.size w w' := by
  obtain ⟨l, y⟩ := e
  obtain ⟨W, hW⟩ : ∃ W, W = w.alloc (.cells #[.slice A l.length c, .int .i64 y] 58) := ⟨_, rfl⟩
  have HB := hid (show Below w.heap.size w W by rw [hW]; exact (Below.refl _ _).alloc (Nat.le_refl _) _)
  have HR := hid (h.below HB.out)
  simp only at HR
  clear h
  go_enter Try.func25, Try.ntmps25
  by_cases hc : classB y = true
  · have HC := hid hc
    have HG := hid (show (!goodE (l, y)) = !rightB l by
      unfold goodE classB at *
      rw [Bool.and_assoc, hc, Bool.and_true])
    clear hc
    go_wp2_with fail
    refine (class_any y _).mono ?_
    rintro x w1 ⟨rfl, rfl⟩
    rw [HC.out]
    go_wp2_with fail
    rw [← hW]
    refine (right_any S A c l W HR.out).mono ?_
    rintro x w1 ⟨rfl, hb⟩
    go_wp2_with fail
    go_ret
    exact ⟨ret_bool HG.out.symm, HB.out.trans (hb.mono HB.out.size)⟩
  · have HC := hid (show classB y = false by simpa using hc)
    have HG := hid (show (!goodE (l, y)) = true by
      have := HC.out
      unfold goodE classB at *
      rw [Bool.and_assoc, this, Bool.and_false]; rfl)
    clear hc
    go_wp2_with fail
    refine (class_any y _).mono ?_
    rintro x w1 ⟨rfl, rfl⟩
    rw [HC.out]
    go_wp2_with fail
    rw [← hW]
    go_ret
    exact ⟨ret_bool HG.out.symm, HB.out⟩
/-- Where the first entry that may not be stands; -1: there is none. -/
def badAt (es : List Ent) : Int := match es.findIdx? (fun e => !goodE e) with | some i => (i : Nat) | none => -1
theorem badAt_at {es : List Ent} {k : Nat} (hk : k < es.length) (h : goodE (ent es k) = false) (hb : ∀ q, q < k → goodE (ent es q) = true) : badAt es = (k : Int) := by
  unfold badAt
  rw [show es.findIdx? (fun e => !goodE e) = some k from List.findIdx?_eq_some_iff_getElem.2 ⟨hk, by
    have e : es[k] = ent es k := by simp [ent, List.getElem?_eq_getElem hk]
    rw [e, h]; rfl, fun j hj => by
    have e : es[j] = ent es j := by simp [ent, List.getElem?_eq_getElem (show j < es.length by omega)]
    rw [e, hb j hj]; decide⟩]
theorem badAt_none {es : List Ent} (hb : ∀ q, q < es.length → goodE (ent es q) = true) : badAt es = -1 := by
  unfold badAt
  rw [show es.findIdx? (fun e => !goodE e) = none from List.findIdx?_eq_none_iff.2 fun e he => by
    obtain ⟨q, hq⟩ := List.getElem?_of_mem he
    have := hb q (List.getElem?_eq_some_iff.1 hq).1
    rw [ent, hq] at this
    simpa using this]
theorem badAt_any (es : List Ent) : decide (0 ≤ badAt es) = !(es.all goodE) := by
  unfold badAt
  cases h : es.findIdx? (fun e => !goodE e) with
  | none =>
    have h2 := List.findIdx?_eq_none_iff.1 h
    rw [show es.all goodE = true from List.all_eq_true.2 fun e he => by simpa using h2 e he]
    decide
  | some i =>
    obtain ⟨hi, h1, -⟩ := List.findIdx?_eq_some_iff_getElem.1 h
    rw [show es.all goodE = false from by
      cases e : es.all goodE with
      | false => rfl
      | true =>
        have := List.all_eq_true.1 e _ (List.getElem_mem hi)
        rw [this] at h1; cases h1]
    show decide (0 ≤ ((i : Nat) : Int)) = !false
    exact decide_eq_true (by omega)
set_option maxRecDepth 100000 in
set_option maxHeartbeats 1000000 in
theorem index_any (S : Nat → Prop) (A : Option Addr) (c : Nat) (es : List Ent) (w : World) (h : IsEnts w S (.slice A es.length c) es) :
    Calls Try.prog 38 #[.slice A es.length c, .func (.func 25) #[] #[]] w fun e w' => e = .returned (.int .i64 (badAt es)) ∧ Below w.heap.size w w' := by
  have H := hid h
  have hle := h.le
  clear h
  go_enter Try.func38, Try.ntmps38
  go_wp2_with fail
  go_loopw [8] (fun s8 wr => ∃ k : Nat, k ≤ es.length ∧ s8 = .int .i64 k ∧ Hid (∀ q, q < k → goodE (ent es q) = true) ∧ Hid (Below w.heap.size w wr)) (fun s8 _ => es.length - (intOf s8).toNat)
  case atStart => exact ⟨0, by omega, rfl, hid (fun q hq => by omega), hid (Below.refl _ _)⟩
  case round =>
    obtain ⟨k, hk, rfl, HO, HB⟩ := hrel
    by_cases hlt : k < es.length
    · obtain ⟨b, o, B, d, rfl, -, hbl, c0, c1, hr, -⟩ := (H.out.below HB.out).at hlt
      have HR := hid hr
      clear hr
      cases hg : goodE (ent es k) with
      | true =>
        have HG := hid hg
        have HN := hid (show ∀ q, q < k + 1 → goodE (ent es q) = true from fun q hq => by
          by_cases e : q < k
          · exact HO.out q e
          · obtain rfl : q = k := by omega
            exact hg)
        clear hg
        go_wp2_with (go_at_call 25; refine (bad_any S B d _ _ HR.out).mono ?_; rintro e w1 ⟨rfl, hb1⟩; rw [HG.out])
        go_roundw
        case rel => exact ⟨k + 1, by omega, by go_num, HN, hid (HB.out.trans (hb1.mono HB.out.size))⟩
        case measure => simp [intOf]; omega
      | false =>
        have HG := hid hg
        have HN := hid (badAt_at hlt hg HO.out)
        clear hg
        go_wp2_with (go_at_call 25; refine (bad_any S B d _ _ HR.out).mono ?_; rintro e w1 ⟨rfl, hb1⟩; rw [HG.out])
        go_ret
        exact ⟨ret_int HN.out.symm, HB.out.trans (hb1.mono HB.out.size)⟩
    · obtain rfl : k = es.length := by omega
      have HN := hid (badAt_none HO.out)
      go_wp2_with fail
      go_ret
      exact ⟨ret_int HN.out.symm, HB.out⟩
set_option maxRecDepth 100000 in
theorem contains_any (S : Nat → Prop) (A : Option Addr) (c : Nat) (es : List Ent) (w : World) (h : IsEnts w S (.slice A es.length c) es) :
    Calls Try.prog 24 #[.slice A es.length c, .func (.func 25) #[] #[]] w fun e w' => e = .returned (.bool (!(es.all goodE))) ∧ Below w.heap.size w w' := by
  go_enter Try.func24, Try.ntmps24
  go_wp2_with fail
  refine (index_any S A c es _ h).mono ?_
  rintro e w1 ⟨rfl, hb1⟩
  go_wp2_with fail
  go_ret
  exact ⟨ret_bool (badAt_any _), hb1⟩
/-- May a list be, and the other class? -/
def mayE (other : Int) (es : List Ent) : Bool := classB other && es.all goodE
theorem all_take {es : List Ent} {k : Nat} (h : k < es.length) : (es.take (k + 1)).all goodE = ((es.take k).all goodE && goodE (ent es k)) := by
  rw [take_ent h, List.all_append]; simp
set_option maxRecDepth 100000 in
set_option maxHeartbeats 1000000 in
theorem may_any (S : Nat → Prop) (A : Option Addr) (c : Nat) (other : Int) (es : List Ent) (w : World) (h : IsEnts w S (.slice A es.length c) es) :
    Calls Try.prog 12 #[.int .i64 other, .slice A es.length c] w fun e w' => e = .returned (.bool (mayE other es)) ∧ Below w.heap.size w w' := by
  have H := hid h
  have hle := h.le
  clear h
  go_enter Try.func12, Try.ntmps12
  by_cases hc : classB other = true
  · have HC := hid hc
    have hc2 : 0 ≤ other ∧ other ≤ 255 := by simpa [classB] using hc
    clear hc
    go_wp2_with fail
    go_loopw [5, 6] (fun s5 s6 wr => ∃ (k : Nat) (z : Bool), k ≤ es.length ∧ s6 = .int .i64 k ∧ s5 = .bool z ∧ Hid (z = (es.take k).all goodE) ∧ Hid (Below w.heap.size w wr)) (fun _ s6 _ => es.length - (intOf s6).toNat)
    case atStart => exact ⟨0, true, by omega, rfl, (by congr 1 <;> simp <;> omega), hid (by simp), hid (Below.refl _ _)⟩
    case round =>
      obtain ⟨k, z, hk, rfl, rfl, HZ, HB⟩ := hrel
      by_cases hlt : k < es.length
      · obtain ⟨b, o, B, d, rfl, -, hbl, c0, c1, hr, -⟩ := (H.out.below HB.out).at hlt
        have HR := hid hr
        have HA := hid (all_take hlt)
        have HKE := hid (show ∀ Y, Below wr.heap.size wr Y → Y.cell? ⟨b, o + k * 2 + 1, none⟩ = some (.int .i64 (ent es k).2) from fun Y hY => (hY.cell (p := ⟨b, o + k * 2 + 1, none⟩) hbl).trans c1)
        have HGE := hid (show goodE (ent es k) = (rightB (ent es k).1 && decide (0 ≤ (ent es k).2) && decide ((ent es k).2 ≤ 255)) from rfl)
        obtain ⟨y, hy⟩ : ∃ y, y = (ent es k).2 := ⟨_, rfl⟩
        rw [← hy] at HKE c1 HGE
        clear hy hr
        cases z with
        | false =>
          have HN := hid (show false = (es.take (k + 1)).all goodE by rw [HA.out, ← HZ.out]; rfl)
          go_wp2_with fail
          exact ⟨⟨k + 1, false, by omega, by go_num, rfl, HN, HB⟩, by simp [intOf]; omega⟩
        | true =>
          cases hrt : rightB (ent es k).1 with
          | false =>
            have HN := hid (show false = (es.take (k + 1)).all goodE by rw [HA.out, HGE.out, hrt]; simp)
            have HRT := hid hrt
            clear hrt c1
            go_wp2_with fail
            refine (refRight_any S B d _ wr HR.out).mono ?_
            rintro e w2 ⟨rfl, hb⟩
            rw [HRT.out]
            have HB2 := hid (HB.out.trans (hb.mono HB.out.size))
            clear hb
            go_wp2_with fail
            exact ⟨⟨k + 1, false, by omega, by go_num, rfl, HN, HB2⟩, by simp [intOf]; omega⟩
          | true =>
            by_cases h0 : 0 ≤ y
            · have HN := hid (show decide (y ≤ 255) = (es.take (k + 1)).all goodE by rw [HA.out, HGE.out, hrt, ← HZ.out, decide_eq_true h0]; simp)
              have HRT := hid hrt
              clear hrt c1
              go_wp2_with fail
              refine (refRight_any S B d _ wr HR.out).mono ?_
              rintro e w2 ⟨rfl, hb⟩
              rw [HRT.out]
              have HB2 := hid (HB.out.trans (hb.mono HB.out.size))
              have c1 := HKE.out w2 hb
              clear hb
              go_wp2_with fail
              exact ⟨⟨k + 1, decide (y ≤ 255), by omega, by go_num, rfl, HN, HB2⟩, by simp [intOf]; omega⟩
            · have HN := hid (show false = (es.take (k + 1)).all goodE by rw [HA.out, HGE.out, hrt, ← HZ.out, decide_eq_false h0]; simp)
              have HRT := hid hrt
              clear hrt c1
              go_wp2_with fail
              refine (refRight_any S B d _ wr HR.out).mono ?_
              rintro e w2 ⟨rfl, hb⟩
              rw [HRT.out]
              have HB2 := hid (HB.out.trans (hb.mono HB.out.size))
              have c1 := HKE.out w2 hb
              clear hb
              go_wp2_with fail
              exact ⟨⟨k + 1, false, by omega, by go_num, rfl, HN, HB2⟩, by simp [intOf]; omega⟩
      · obtain rfl : k = es.length := by omega
        have HN := hid (show z = mayE other es by unfold mayE; rw [HC.out, HZ.out, List.take_length]; rfl)
        go_wp2_with fail
        go_ret
        exact ⟨ret_bool HN.out, HB.out⟩
  · have HC := hid (show classB other = false by simpa using hc)
    have hcd : (if 0 ≤ other then decide (other ≤ 255) else false) = false := by
      unfold classB at hc
      split
      · rename_i h0
        rw [decide_eq_true h0, Bool.true_and] at hc
        simpa using hc
      · rfl
    clear hc
    by_cases h0 : 0 ≤ other
    · have hb : 255 < other := by rw [if_pos h0] at hcd; have := of_decide_eq_false hcd; omega
      clear hcd
      go_wp2_with fail
      go_loopw [5, 6] (fun s5 s6 wr => ∃ (k : Nat), k ≤ es.length ∧ s6 = .int .i64 k ∧ s5 = .bool false ∧ Hid (Below w.heap.size w wr)) (fun _ s6 _ => es.length - (intOf s6).toNat)
      case atStart => exact ⟨0, by omega, rfl, (by congr 1 <;> simp <;> omega), hid (Below.refl _ _)⟩
      case round =>
        obtain ⟨k, hk, rfl, rfl, HB⟩ := hrel
        by_cases hlt : k < es.length
        · go_wp2_with fail
          exact ⟨⟨k + 1, by omega, by go_num, rfl, HB⟩, by simp [intOf]; omega⟩
        · have HN := hid (show false = mayE other es by unfold mayE; rw [HC.out]; rfl)
          go_wp2_with fail
          go_ret
          exact ⟨ret_bool HN.out, HB.out⟩
    · clear hcd
      go_wp2_with fail
      go_loopw [5, 6] (fun s5 s6 wr => ∃ (k : Nat), k ≤ es.length ∧ s6 = .int .i64 k ∧ s5 = .bool false ∧ Hid (Below w.heap.size w wr)) (fun _ s6 _ => es.length - (intOf s6).toNat)
      case atStart => exact ⟨0, by omega, rfl, rfl, hid (Below.refl _ _)⟩
      case round =>
        obtain ⟨k, hk, rfl, rfl, HB⟩ := hrel
        by_cases hlt : k < es.length
        · go_wp2_with fail
          exact ⟨⟨k + 1, by omega, by go_num, rfl, HB⟩, by simp [intOf]; omega⟩
        · have HN := hid (show false = mayE other es by unfold mayE; rw [HC.out]; rfl)
          go_wp2_with fail
          go_ret
          exact ⟨ret_bool HN.out, HB.out⟩
end Go.Proofs.Ytehchnagjdmdgaa
