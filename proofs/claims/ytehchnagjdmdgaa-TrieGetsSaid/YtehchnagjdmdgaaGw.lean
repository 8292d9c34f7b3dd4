/- TrieGets, walked. No conditions but what lies in memory. -/
import Derived.Test.YtehchnagjdmdgaaAw
import Derived.Test.YtehchnagjdmdgaaTo
namespace Go.Proofs.Ytehchnagjdmdgaa
open Go.RowKit
set_option linter.unusedSimpArgs false
theorem may_parts {other : Int} {es : List Ent} (h : mayE other es = true) : (∀ e ∈ es, goodE e = true) ∧ 0 ≤ other ∧ other ≤ 255 := by
  unfold mayE at h
  rw [Bool.and_eq_true] at h
  exact ⟨List.all_eq_true.1 h.2, by have := h.1; unfold classB at this; simpa using this⟩
set_option maxRecDepth 100000 in
set_option maxHeartbeats 4000000 in
theorem gets_walk (S : Nat → Prop) (other : Int) (A : Option Addr) (c : Nat) (es : List Ent) (v : Value) (rs : List Int) (w : World) (h : IsEnts w S (.slice A es.length c) es) (hr : IsNums .i32 w S v rs) (hrb : ∀ r ∈ rs, -2147483648 ≤ r ∧ r ≤ 2147483647) :
    Calls Try.prog 3 #[.int .i64 other, .slice A es.length c, v] w fun e w' => e = .returned (.bool true) ∧ Below w.heap.size w w' := by
  have HE := hid h
  have HR := hid hr
  have HRB := hid hrb
  obtain ⟨RA, rc, rfl⟩ := hr.form
  have hrl := hr.le
  clear h hr hrb
  cases hg : greatE es with
  | true =>
    have HG := hid hg
    clear hg
    go_enter Try.func3, Try.ntmps3
    go_wp2_with fail
    refine (great_any S A c es w HE.out).mono ?_
    rintro e w1 ⟨rfl, hb⟩
    rw [HG.out]
    have HB1 := hid hb
    clear hb
    go_wp2_with fail
    refine (awake_any w1).mono ?_
    rintro e w2 ⟨rfl, hb⟩
    have HB2 := hid (ends_true HB1.out hb)
    clear hb
    go_wp2_with fail
    go_ret
    exact ⟨rfl, HB2.out⟩
  | false =>
  have HG := hid hg
  have HGN := hid (greatE_no hg)
  clear hg
  by_cases h40 : 40 < rs.length
  · go_enter Try.func3, Try.ntmps3
    go_wp2_with fail
    refine (great_any S A c es w HE.out).mono ?_
    rintro e w1 ⟨rfl, hb⟩
    rw [HG.out]
    have HB1 := hid hb
    clear hb
    go_wp2_with fail
    refine (awake_any w1).mono ?_
    rintro e w2 ⟨rfl, hb⟩
    have HB2 := hid (ends_true HB1.out hb)
    clear hb
    go_wp2_with fail
    go_ret
    exact ⟨rfl, HB2.out⟩
  go_enter Try.func3, Try.ntmps3
  go_wp2_with fail
  refine (great_any S A c es w HE.out).mono ?_
  rintro e w1 ⟨rfl, hb⟩
  rw [HG.out]
  have HB1 := hid hb
  clear hb
  go_wp2_with fail
  refine (awake_any w1).mono ?_
  rintro e w2 ⟨rfl, hb⟩
  have HB2 := hid (ends_true HB1.out hb)
  clear hb
  go_wp2_with fail
  refine (to_any S A c es w2 (HE.out.below HB2.out) (by have := HGN.out.1; omega) (fun e he => by have := HGN.out.2 e he; omega)).mono ?_
  rintro e w3 ⟨A3, c3, rfl, hE3, hb⟩
  have HE3 := hid hE3
  have HB3 := hid (ends_true HB2.out hb)
  clear hb hE3
  cases hm : mayE other es with
  | false =>
    have HM := hid hm
    clear hm
    go_wp2_with fail
    refine (new_not HE3.out (by have := HGN.out.1; omega) HM.out).mono ?_
    rintro e w4 ⟨rfl, hb⟩
    have HB4 := hid (ends_true HB3.out hb)
    clear hb
    go_wp2_with fail
    refine (may_any S A c other es w4 (HE.out.below HB4.out)).mono ?_
    rintro e w5 ⟨rfl, hb⟩
    rw [HM.out]
    have HB5 := hid (ends_true HB4.out hb)
    clear hb
    go_wp2_with fail
    go_ret
    exact ⟨rfl, HB5.out⟩
  | true =>
    have HM := hid hm
    have HMP := hid (may_parts hm)
    clear hm
    go_wp2_with fail
    refine (new_right HE3.out (by have := HGN.out.1; omega) HM.out).mono ?_
    rintro e w4 ⟨t, rfl, ht, hb⟩
    have HT4 := hid ht
    have HB4 := hid (ends_true HB3.out hb)
    clear hb ht
    go_wp2_with fail
    refine (may_any S A c other es w4 (HE.out.below HB4.out)).mono ?_
    rintro e w5 ⟨rfl, hb⟩
    rw [HM.out]
    have HT5 := hid (HT4.out.below hb)
    have HB5 := hid (ends_true HB4.out hb)
    clear hb HT4 HB4 HE3 HB1 HB2 HB3
    go_wp2_with fail
    go_loopw [9] (fun s9 wr => ∃ (i : Nat), i ≤ rs.length ∧ s9 = .int .i64 i ∧ Hid (Below w5.heap.size w5 wr)) (fun s9 _ => rs.length - (intOf s9).toNat)
    case atStart => exact ⟨0, by omega, rfl, hid (Below.refl _ _)⟩
    case round =>
      obtain ⟨i, hi, rfl, HZ⟩ := hrel
      by_cases hlt : i < rs.length
      · obtain ⟨bm, om, cm', em, -, hbm, m0⟩ := (HR.out.below (ends_true HB5.out HZ.out)).at hlt
        obtain ⟨rfl, rfl⟩ : RA = some ⟨bm, om, none⟩ ∧ rc = cm' := by simpa using em
        have HMK := hid (show ∀ Y, Below wr.heap.size wr Y → Y.cell? ⟨bm, om + i, none⟩ = some (.int .i32 (nth rs i)) from fun Y hY => (hY.cell (p := ⟨bm, om + i, none⟩) hbm).trans m0)
        have HRI := hid (HRB.out _ (nth_mem hlt))
        obtain ⟨r, hrr⟩ : ∃ r, r = nth rs i := ⟨_, rfl⟩
        rw [← hrr] at m0 HMK HRI
        obtain ⟨y, hy⟩ : ∃ y, y = getB other es r := ⟨_, rfl⟩
        have HY := hid hy
        have HZZ := hid (Below.refl wr.heap.size wr)
        clear hrr hy em hbm
        go_wp2_with fail
        go_region_held3 (fun Y => Y.cell? ⟨bm, om + i, none⟩ = some (.int .i32 r)) (first | exact HMK.out _ HZZ.out | exact HMK.out _ HZZ.out.drew)
          (first
            | (go_at_call 13; refine (get_any (HT5.out.below (ends_true HZ.out (by first | exact HZZ.out | exact HZZ.out.drew))) HMP.out.1 HMP.out.2 HRI.out).mono ?_; rintro e w9 ⟨rfl, hb9⟩; rw [← HY.out]; (first | (replace HZZ := hid (HZZ.out.trans (hb9.mono HZZ.out.size))) | (replace HZZ := hid (HZZ.out.drew.trans (hb9.mono HZZ.out.drew.size)))); clear hb9)
            | (go_at_call 14; refine (refGet_any S A c es other r _ (HE.out.below (ends_true HB5.out (ends_true HZ.out (by first | exact HZZ.out | exact HZZ.out.drew))))).mono ?_; rintro e w9 ⟨rfl, hb9⟩; rw [← HY.out]; (first | (replace HZZ := hid (HZZ.out.trans (hb9.mono HZZ.out.size))) | (replace HZZ := hid (HZZ.out.drew.trans (hb9.mono HZZ.out.drew.size)))); clear hb9)
            | fail)
        all_goals
          go_wp2_with fail
          exact ⟨⟨i + 1, by omega, by go_num, hid (HZ.out.trans (HZZ.out.mono HZ.out.size))⟩, by simp [intOf]; omega⟩
      · obtain rfl : i = rs.length := by omega
        go_wp2_with fail
        go_ret
        exact ⟨rfl, ends_true HB5.out HZ.out⟩
end Go.Proofs.Ytehchnagjdmdgaa
