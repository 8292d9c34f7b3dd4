/- DfaRuns, walked. No conditions but what lies in memory. -/
import Derived.Test.YthdhbkngbmjjkaaDz
import Derived.Test.YthdhbkngbmjjkaaDv
import Derived.Deep.RegionHeld3
namespace Go.Proofs.Ythdhbkngbmjjkaa
open Go.RowKit
set_option linter.unusedSimpArgs false
theorem Row3.any' {d : Nat} {w : World} {S : Nat → Prop} {A : Option Addr} {l : List (Tr d)} (h : Row3 (IsTr w S d) w S A l) : Row3 (IsTr w Any d) w Any A l := h.imp (fun _ _ _ => rfl) (fun _ _ _ => trivial) fun _ _ _ hr => hr.mono fun _ _ _ => trivial
set_option maxRecDepth 100000 in
set_option maxHeartbeats 8000000 in
theorem druns_walk (search : Bool) (S : Nat → Prop) (d : Nat) (A1 : Option Addr) (c1 : Nat) (l : List (Tr d)) (vm : Value) (ms : List Int) (w : World) (h1 : Row3 (IsTr w S d) w S A1 l) (hl1 : l.length ≤ 9223372036854775807) (hm : IsNums .i64 w S vm ms) :
    Calls Try.prog 10 #[.bool search, .slice A1 l.length c1, vm] w fun e w' => e = .returned (.bool true) ∧ Below w.heap.size w w' := by
  have H1 := hid h1
  have HM := hid (hm.mono (S' := Any) fun _ _ _ => trivial)
  obtain ⟨A3, c3, rfl⟩ := hm.form
  have hlm := hm.le
  clear h1 hm
  by_cases hg : 80 < cntE d l
  · have HG1 := hid (decide_eq_true hg)
    clear hg
    go_enter Try.func10, Try.ntmps10
    go_wp2_with fail
    refine (great_any S d A1 c1 l w H1.out hl1).mono ?_
    rintro e w1 ⟨rfl, hb⟩
    rw [HG1.out]
    have HB1 := hid hb
    clear hb
    go_wp2_with fail
    refine (dawake_any w1).mono ?_
    rintro e w2 ⟨rfl, hb⟩
    have HB2 := hid (ends_true HB1.out hb)
    clear hb
    go_wp2_with fail
    go_ret
    exact ⟨rfl, HB2.out⟩
  have HG1 := hid (decide_eq_false hg)
  have HC1 := hid (Nat.le_of_not_lt hg)
  have hl80 : l.length ≤ 80 := Nat.le_trans (cntL_len (fun x => cnt_pos d x) l) HC1.out
  clear hg
  by_cases h12 : 12 < ms.length
  · go_enter Try.func10, Try.ntmps10
    go_wp2_with fail
    refine (great_any S d A1 c1 l w H1.out hl1).mono ?_
    rintro e w1 ⟨rfl, hb⟩
    rw [HG1.out]
    have HB1 := hid hb
    clear hb
    go_wp2_with fail
    refine (dawake_any w1).mono ?_
    rintro e w2 ⟨rfl, hb⟩
    have HB2 := hid (ends_true HB1.out hb)
    clear hb
    go_wp2_with fail
    go_ret
    exact ⟨rfl, HB2.out⟩
  have hd12 : decide ((12 : Int) < (ms.length : Int)) = false := decide_eq_false (by omega)
  by_cases hr : (rightE d l && decide (l.length ≤ 40)) = true
  rotate_left
  · have HR := hid (show (rightE d l && decide (l.length ≤ 40)) = false from by simpa using hr)
    clear hr
    go_enter Try.func10, Try.ntmps10
    go_wp2_with fail
    refine (great_any S d A1 c1 l w H1.out hl1).mono ?_
    rintro e w1 ⟨rfl, hb1⟩
    rw [HG1.out]
    have HB1 := hid hb1
    clear hb1
    go_wp2_with fail
    refine (dawake_any w1).mono ?_
    rintro e w2 ⟨rfl, hb2⟩
    have HB2 := hid (ends_true HB1.out hb2)
    clear hb2
    go_wp2_with fail
    refine (rights_any S d A1 c1 l w2 (H1.out.below HB2.out) hl1 HC1.out).mono ?_
    rintro e w3 ⟨rfl, hb3⟩
    rw [HR.out]
    have HB3 := hid (ends_true HB2.out hb3)
    clear hb3
    go_wp2_with fail
    go_ret
    exact ⟨rfl, HB3.out⟩
  have HR := hid hr
  have HF := hid (show Fine l from ⟨Nat.le_trans HC1.out (by decide), by simp only [Bool.and_eq_true] at hr; exact hr.1, by simp only [Bool.and_eq_true, decide_eq_true_eq] at hr; exact hr.2⟩)
  have hl40 : l.length ≤ 40 := HF.out.few
  clear hr
  go_enter Try.func10, Try.ntmps10
  go_wp2_with fail
  refine (great_any S d A1 c1 l w H1.out hl1).mono ?_
  rintro e w1 ⟨rfl, hb1⟩
  rw [HG1.out]
  have HB1 := hid hb1
  clear hb1
  go_wp2_with fail
  refine (dawake_any w1).mono ?_
  rintro e w2 ⟨rfl, hb2⟩
  have HB2 := hid (ends_true HB1.out hb2)
  clear hb2
  go_wp2_with fail
  refine (rights_any S d A1 c1 l w2 (H1.out.below HB2.out) hl1 HC1.out).mono ?_
  rintro e w3 ⟨rfl, hb3⟩
  rw [HR.out]
  have HB3 := hid (ends_true HB2.out hb3)
  clear hb3 HG1 HR HB1 HB2
  go_wp2_with fail
  refine (tos_any S d A1 c1 l w3 (H1.out.below HB3.out) (by have := HC1.out; unfold cntE at this; omega)).mono ?_
  rintro e w4 ⟨v4, rfl, hb, ht⟩
  obtain ⟨A4, c4, rfl, -, -, hrow⟩ := ht.row
  have HROW := hid hrow
  have HB4 := hid (ends_true HB3.out hb)
  clear hb ht hrow HB3
  go_wp2_with fail
  refine (new_right d A4 c4 l search w4 HROW.out HF.out.cnt HF.out.right HF.out.few).mono ?_
  rintro e w5 ⟨g, rfl, hnf, hb⟩
  have HB5 := hid (ends_true HB4.out hb)
  obtain ⟨s, hs⟩ : ∃ s, s = builtB l := ⟨_, rfl⟩
  have HGD := hid (show Good s by rw [hs]; exact HF.out.good)
  rw [← hs] at hnf
  have HNF := hid hnf
  clear hb hnf hs HROW HB4
  go_wp2_with fail
  refine (dnew_any HNF.out HGD.out).mono ?_
  rintro e w6 ⟨hb6, ⟨n, hn, h1, h2, v, rfl, hv⟩ | ⟨n, -, -, -, rfl⟩⟩
  rotate_left
  · have HB6 := hid (ends_true HB5.out hb6)
    clear hb6 HB5 HNF
    obtain ⟨X, hX⟩ : ∃ X, X = w6.alloc (.cells #[.slice none 0 0, .slice none 0 0] 59) := ⟨_, rfl⟩
    obtain ⟨z0, z1, -⟩ := slot2 (show X.heap[w6.heap.size]? = some (.cells #[.slice none 0 0, .slice none 0 0] 59 (0, 0)) by rw [hX]; exact heap_alloc_new _ _)
    have HXB := hid (show Below w.heap.size w X by rw [hX]; exact HB6.out.alloc HB6.out.size _)
    rw [hX] at z0 z1
    go_wp2_with fail
    rw [← hX]
    go_ret
    exact ⟨rfl, HXB.out⟩
  have HTB := hid (Done.tbl (search := search) (s := s) (n := n) ⟨fun i hi => (h1 i hi).1, h2⟩)
  have HN6 := hid (HNF.out.below hb6)
  have HB6 := hid (ends_true HB5.out hb6)
  have hlen : (outB search s n).1.length = n := h2.symm
  obtain ⟨sets, hsets⟩ : ∃ x, x = (outB search s n).1 := ⟨_, rfl⟩
  obtain ⟨rows, hrows⟩ : ∃ x, x = (outB search s n).2.1 := ⟨_, rfl⟩
  obtain ⟨tells, htells⟩ : ∃ x, x = (outB search s n).2.2 := ⟨_, rfl⟩
  rw [← hsets, ← hrows, ← htells] at HTB
  rw [← hsets] at hlen
  rw [← hrows, ← htells] at hv
  have HV6 := hid hv
  have HL := hid (show sets.length = n ∧ rows.length = n ∧ tells.length = n from ⟨hlen, HTB.out.len.1.trans hlen, HTB.out.len.2.trans hlen⟩)
  obtain ⟨NA, nc, TA, tc, ev⟩ : ∃ NA nc TA tc, v = .agg #[.slice NA n nc, .slice TA n tc] := by
    obtain ⟨nv, tv, e1, e2, e3⟩ := hv
    obtain ⟨NA, nc, e4⟩ := e2.form
    obtain ⟨TA, tc, e5⟩ := e3.form
    rw [HL.out.2.2] at e5
    rw [HL.out.2.1] at e4
    exact ⟨NA, nc, TA, tc, by rw [e1, e4, e5]⟩
  subst ev
  clear h1 h2 hb6 hlen hsets hrows htells hv HNF HB5
  have HRT := hid (show rightB ⟨rows, tells⟩ = true from HTB.out.right (by rw [HL.out.1]; exact hn))
  obtain ⟨p, hp⟩ : ∃ p, p = w6.heap.size := ⟨_, rfl⟩
  obtain ⟨X, hX⟩ : ∃ X, X = w6.alloc (.cells #[.slice NA n nc, .slice TA n tc] 59) := ⟨_, rfl⟩
  have HX0 := hid (show X.heap[p]? = some (.cells #[.slice NA n nc, .slice TA n tc] 59 (0, 0)) by rw [hX, hp]; exact heap_alloc_new _ _)
  have HXC := hid (show ∀ Y, Below X.heap.size X Y → Y.cell? ⟨p, 0, none⟩ = some (.slice NA n nc) ∧ Y.cell? ⟨p, 1, none⟩ = some (.slice TA n tc) from fun Y hY => by
    obtain ⟨a0, a1, -⟩ := slot2 ((hY.block _ (by rw [hX, hp]; simp)).trans HX0.out)
    exact ⟨a0, a1⟩)
  have HXB := hid (show Below w6.heap.size w6 X by rw [hX]; exact (Below.refl _ _).alloc (Nat.le_refl _) _)
  have HBX := hid (ends_true HB6.out HXB.out)
  have HNX := hid (HN6.out.below HXB.out)
  have HVX := hid (HV6.out.below HXB.out)
  have HMX := hid (HM.out.below HBX.out)
  clear HB6 HN6 HV6 HM
  go_wp2_with fail
  rw [← hX, ← hp]
  clear hX hp HX0 HXB
  refine (begin_any g X).mono ?_
  rintro e w7 ⟨v7, rfl, hv, hb⟩
  have HX7 := hid (show IsNums .i64 w7 Any v7 (runS search s (ms.take 0)) from hv.mono fun _ _ _ => trivial)
  have HY7 := hid hb
  clear hv hb
  go_wp2_with fail
  go_loopw [11, 12] (fun s11 s12 wr => ∃ (i : Nat) (vx : Value), i ≤ ms.length ∧ s12 = .int .i64 i ∧ s11 = vx ∧ Hid (IsNums .i64 wr Any vx (runS search s (ms.take i))) ∧ Hid (Below X.heap.size X wr) ∧ Hid (∀ m ∈ ms.take i, 0 ≤ m ∧ m < 37)) (fun _ s12 _ => ms.length - (intOf s12).toNat)
  case atStart => exact ⟨0, _, by omega, rfl, rfl, HX7, HY7, hid (fun m hm => by simp at hm)⟩
  case round =>
    clear HX7 HY7
    obtain ⟨i, vx, hi, rfl, ex, HX, HY, HOKS⟩ := hrel
    subst ex
    obtain ⟨z0, z1⟩ := HXC.out _ HY.out
    have hrun := run_any (fun b => w5.heap.size ≤ b) Any NA TA nc tc (.slice A3 ms.length c3) ⟨rows, tells⟩ 0 ms wr
    rw [show (D.mk rows tells).next.length = n from HL.out.2.1, show (D.mk rows tells).tells.length = n from HL.out.2.2] at hrun
    have HRUN := hid (hrun (HVX.out.below HY.out) (HMX.out.below HY.out))
    clear hrun
    have HST := hid (state_zero HRT.out)
    have hs0 : 0 < sets.length := (List.getElem?_eq_some_iff.1 HTB.out.zero).1
    have HS0 := hid hs0
    clear hs0
    by_cases hlt : i < ms.length
    · obtain ⟨bm, om, cm', em, -, hbm, m0⟩ := (HMX.out.below HY.out).at hlt
      obtain ⟨rfl, rfl⟩ : A3 = some ⟨bm, om, none⟩ ∧ c3 = cm' := by simpa using em
      have HTK := hid (show runS search s (ms.take (i + 1)) = stepB search s (nth ms i) (runS search s (ms.take i)) by rw [take_nth hlt, runS_snoc])
      have HTK2 := hid (take_nth hlt)
      have HMEM := hid (nth_mem hlt)
      obtain ⟨mk, hmk⟩ : ∃ mk, mk = nth ms i := ⟨_, rfl⟩
      rw [← hmk] at m0 HTK HTK2 HMEM
      clear hmk em hbm
      by_cases hbad : mk < 0 ∨ 36 < mk
      · have HRL := hid (show runL ⟨rows, tells⟩ 0 ms = -1 by
          unfold runL
          rw [if_pos HST.out]
          exact HTB.out.bad ms 0 HS0.out ⟨mk, HMEM.out, hbad⟩)
        by_cases hmn : mk < 0
        · clear hbad
          go_wp2_with fail
          refine HRUN.out.mono ?_
          rintro e w8 ⟨rfl, hb8⟩
          rw [HRL.out]
          have HB8 := hid (HBX.out.trans ((ends_true HY.out hb8).mono HBX.out.size))
          clear hb8
          go_wp2_with fail
          go_ret
          exact ⟨rfl, HB8.out⟩
        · have hmb : 36 < mk := hbad.resolve_left hmn
          clear hbad
          go_wp2_with fail
          refine HRUN.out.mono ?_
          rintro e w8 ⟨rfl, hb8⟩
          rw [HRL.out]
          have HB8 := hid (HBX.out.trans ((ends_true HY.out hb8).mono HBX.out.size))
          clear hb8
          go_wp2_with fail
          go_ret
          exact ⟨rfl, HB8.out⟩
      · have hm0 : 0 ≤ mk := by omega
        have hm36 : mk ≤ 36 := by omega
        have HOKN := hid (show ∀ m ∈ ms.take (i + 1), 0 ≤ m ∧ m < 37 from fun m hm => by
          rw [HTK2.out] at hm
          rcases List.mem_append.1 hm with hm | hm
          · exact HOKS.out m hm
          · rw [List.mem_singleton.1 hm]; omega)
        have HOK := hid (runS_ok HGD.out search (ms.take i))
        clear hbad
        go_wp2_with fail
        refine (gstep_any g search s _ _ _ mk _ (HNX.out.below HY.out) HGD.out HX.out HOK.out.1 HOK.out.2).mono ?_
        rintro e w8 ⟨v8, rfl, hv, hb⟩
        rw [← HTK.out] at hv
        have HX8 := hid (hv.mono (S' := Any) fun _ _ _ => trivial)
        have HY8 := hid (ends_true HY.out hb)
        clear hv hb
        go_wp2_with fail
        refine ⟨⟨i + 1, _, by omega, by go_num, rfl, HX8, HY8, HOKN⟩, by simp [intOf]; omega⟩
    · obtain rfl : i = ms.length := by omega
      have HXF := hid (show IsNums .i64 wr Any _ (runS search s ms) by have h := HX.out; rw [List.take_length] at h; exact h)
      obtain ⟨k, hk1, hk2, hk3⟩ := HTB.out.run ms 0 HS0.out (by have h := HOKS.out; rw [List.take_length] at h; exact h)
      have HRL := hid (show runL ⟨rows, tells⟩ 0 ms = k by
        unfold runL
        rw [if_pos HST.out]
        exact hk1)
      have HTL := hid (show tellsL ⟨rows, tells⟩ (k : Int) = ((tellsB s (runS search s ms) : Nat) : Int) by
        have hst : stateB ⟨rows, tells⟩ (k : Int) = true := by
          unfold stateB
          rw [HRT.out, decide_eq_true (by omega), decide_eq_true (by show (k : Int) < (rows.length : Int); rw [HTB.out.len.1]; omega)]
          rfl
        unfold tellsL
        rw [if_pos hst, Int.toNat_natCast]
        show nth tells k = _
        rw [HTB.out.tell k hk2, row_some hk3, row_some HTB.out.zero]
        rfl)
      have HOK := hid (runS_ok HGD.out search ms)
      obtain ⟨tb, htb⟩ : ∃ tb, tb = tellsB s (runS search s ms) := ⟨_, rfl⟩
      have HTBB := hid htb
      rw [← htb] at HTL
      have HTR := hid (show ∀ l : List Int, RM ⟨rows, tells⟩ l l.length 0 → l.length = n from fun l hl => (HTB.out.reach hl).trans HL.out.2.1)
      clear HX hk1 hk2 hk3 htb
      have HRUNS := hid (show ∀ Y, Below X.heap.size X Y → Calls Try.prog 32 #[.agg #[.slice NA n nc, .slice TA n tc], .int .i64 0, .slice A3 ms.length c3] Y fun e w' => e = .returned (.int .i64 (k : Int)) ∧ Below Y.heap.size Y w' from fun Y hY => by
        have hrun := run_any (fun b => w5.heap.size ≤ b) Any NA TA nc tc (.slice A3 ms.length c3) ⟨rows, tells⟩ 0 ms Y
        rw [show (D.mk rows tells).next.length = n from HL.out.2.1, show (D.mk rows tells).tells.length = n from HL.out.2.2, HRL.out] at hrun
        exact hrun (HVX.out.below hY) (HMX.out.below hY))
      have HRCH := hid (show ∀ Y, Below X.heap.size X Y → Calls Try.prog 35 #[.agg #[.slice NA n nc, .slice TA n tc]] Y fun e w' => ∃ A c, e = .returned (.slice A n c) ∧ Below Y.heap.size Y w' from fun Y hY => by
        refine (reached_yes _ _ ⟨rows, tells⟩ Y (HVX.out.below hY) HRT.out).mono ?_
        rintro e w' ⟨v, l, rfl, hl, hv, hb⟩
        obtain ⟨A, c, rfl⟩ := hv.form
        rw [sortB_len, HTR.out l hl]
        exact ⟨A, c, rfl, hb⟩)
      have HNT := hid (show ∀ Y, Below X.heap.size X Y → Below wr.heap.size wr Y → Calls Try.prog 22 #[.pointer (some ⟨g, 0, none⟩), u11] Y fun e w' => e = .returned (.int .u64 (tb : Int)) ∧ Below Y.heap.size Y w' from fun Y hY hY2 => by
        refine (tells_any g search s _ _ _ Y (HNX.out.below hY) HGD.out.2.1 (HXF.out.below hY2) HOK.out.1).mono ?_
        rintro e w' ⟨rfl, n1, hw8⟩
        rw [← HTBB.out]
        exact ⟨rfl, by rw [hw8]; exact ⟨rfl, rfl, rfl, Nat.le_refl _, fun _ _ => rfl⟩⟩)
      clear HRUN
      go_wp2_with fail
      have HZZ := HY
      have HZ2 := hid (Below.refl wr.heap.size wr)
      clear z0 z1
      go_region_held3 (fun Y => Y.cell? ⟨p, 0, none⟩ = some (.slice NA n nc) ∧ Y.cell? ⟨p, 1, none⟩ = some (.slice TA n tc)) (first | exact HXC.out _ HZZ.out | exact HXC.out _ HZZ.out.drew)
        (first
          | (go_at_call 33; refine (right_any _ _ _ _ (by first | exact HVX.out.below HZZ.out | exact HVX.out.below HZZ.out.drew)).mono ?_; rintro e w9 ⟨rfl, hb9⟩; rw [HRT.out]; (first | (replace HZZ := hid (HZZ.out.trans (hb9.mono HZZ.out.size)); replace HZ2 := hid (HZ2.out.trans (hb9.mono HZ2.out.size))) | (replace HZZ := hid (HZZ.out.drew.trans (hb9.mono HZZ.out.drew.size)); replace HZ2 := hid (HZ2.out.drew.trans (hb9.mono HZ2.out.drew.size)))); clear hb9)
          | (go_at_call 32; refine (HRUNS.out _ HZZ.out).mono ?_; rintro e w9 ⟨rfl, hb9⟩; replace HZZ := hid (HZZ.out.trans (hb9.mono HZZ.out.size)); replace HZ2 := hid (HZ2.out.trans (hb9.mono HZ2.out.size)); clear hb9)
          | (go_at_call 34; refine (dtells_any _ _ _ _ _ (HVX.out.below HZZ.out)).mono ?_; rintro e w9 ⟨rfl, hb9⟩; rw [HTL.out]; replace HZZ := hid (HZZ.out.trans (hb9.mono HZZ.out.size)); replace HZ2 := hid (HZ2.out.trans (hb9.mono HZ2.out.size)); clear hb9)
          | (go_at_call 22; refine (HNT.out _ HZZ.out HZ2.out).mono ?_; rintro e w9 ⟨rfl, hb9⟩; replace HZZ := hid (HZZ.out.trans (hb9.mono HZZ.out.size)); replace HZ2 := hid (HZ2.out.trans (hb9.mono HZ2.out.size)); clear hb9)
          | (go_at_call 35; refine (HRCH.out _ HZZ.out).mono ?_; rintro e w9 ⟨RA, rc, rfl, hb9⟩; replace HZZ := hid (HZZ.out.trans (hb9.mono HZZ.out.size)); replace HZ2 := hid (HZ2.out.trans (hb9.mono HZ2.out.size)); clear hb9)
          | fail)
      all_goals
        go_wp2_with fail
        go_ret
        exact ⟨rfl, HBX.out.trans (HZZ.out.mono HBX.out.size)⟩
end Go.Proofs.Ythdhbkngbmjjkaa
