/- NfaSteps, walked. No conditions but what lies in memory. -/
import Derived.Test.YthdhbkngbmjjkaaRw
import Derived.Test.YthdhbkngbmjjkaaRy
import Derived.Test.YthdhbkngbmjjkaaAw
import Derived.Test.YthdhbkngbmjjkaaUn
import Derived.Deep.RegionHeld3
namespace Go.Proofs.Ythdhbkngbmjjkaa
open Go.RowKit
set_option linter.unusedSimpArgs false
section
variable {d : Nat} {l : List (Tr d)}
theorem Fine.lvLen (h : Fine l) : (makeI l l.length).s.lv.length = (builtB l).lfs.length := by rw [h.make.lv, flat_len, h.len]
theorem Fine.lv160 (h : Fine l) : (makeI l l.length).s.lv.length ≤ 160 := by rw [h.lvLen]; exact h.good.2.2.1
/-- A step of the document's places, made of right expressions. -/
theorem ref_step {w : World} {a : Nat} {search : Bool} {v : Value} {X : List Int} {m : Int} (hF : Fine l) (h : Rf w a search (makeI l l.length).fst (makeI l l.length).lst (makeI l l.length).emp (makeI l l.length).s) (hX : IsNums .i64 w Any v X) :
    Calls Try.prog 25 #[.pointer (some ⟨a, 0, none⟩), v, .int .i64 m] w fun e w' => ∃ v', e = .returned v' ∧ IsNums .i64 w' (fun b => w.heap.size ≤ b) v' (stepB search (builtB l) m X) ∧ Below w.heap.size w w' := by
  have hb := (makeI_bd hF.cnt l.length (Nat.le_refl _)).prs
  rw [List.take_length] at hb
  have hc := hF.cnt
  unfold cntE at hc
  have := rstep_any (m := m) h hX (fun x hx => by
    rw [hF.make.lv] at hx
    obtain ⟨t, ht, hx⟩ := List.mem_flatMap.1 hx
    exact leaf_kind d false t (hF.fits t ht) x hx) (Nat.le_trans hF.lv160 (by decide)) (by omega)
  rw [hF.stepR] at this
  exact this
/-- What the document tells of a set of places. -/
theorem ref_tells {w : World} {a : Nat} {search : Bool} {v : Value} {X : List Int} (hF : Fine l) (h : Rf w a search (makeI l l.length).fst (makeI l l.length).lst (makeI l l.length).emp (makeI l l.length).s) (hX : IsNums .i64 w Any v X) :
    Calls Try.prog 23 #[.pointer (some ⟨a, 0, none⟩), v] w fun e w' => e = .returned (.int .u64 ((tellsB (builtB l) X : Nat) : Int)) ∧ Below w.heap.size w w' := by
  have hm := hF.make
  have hw := allG_within l 0
  have hs : (makeI l l.length).s.lv.length = sumL (fun t => leavesT d t) l := by rw [hm.lv, flat_len]
  have hfew := hF.few
  have := rtells_any h hX (Nat.lt_of_lt_of_le (makeI_emp l l.length) (Nat.le_trans (Nat.pow_le_pow_right (by decide) hF.few) (by decide))) (fun z hz => by
    obtain ⟨p, rfl⟩ := hm.lst.2 z hz
    have := hw.2.1 p ((hm.lst.1 p).1 hz)
    rw [hm.of, hs]
    omega) (fun z hz => by have := hm.ofs z hz; omega) (by rw [hm.of]; exact Nat.le_trans hF.lv160 (by decide))
  rw [hF.tellR] at this
  exact this
end
theorem Rf.leaves {w : World} {a : Nat} {search : Bool} {F L : List Int} {e : Nat} {s : Rs} (h : Rf w a search F L e s) : ∃ A c, ∀ Y, Below w.heap.size w Y → Y.cell? ⟨a, 1, none⟩ = some (.slice A s.lv.length c) := by
  obtain ⟨B, v1, v2, v5, fV, lV, hra, -, -⟩ := h
  obtain ⟨f, hlf⟩ := hra.2.2.1
  obtain ⟨A1, c1, rfl, -⟩ := own_arr hlf
  have hblk := hra.2.1
  refine ⟨A1, c1, fun Y hY => ?_⟩
  obtain ⟨-, a1, -⟩ := slot7 ((hY.block a (Array.getElem?_eq_some_iff.1 hblk).1).trans hblk)
  exact a1
theorem is_same {w : World} {u v : Value} {Z : List Int} (hu : IsNums .i64 w Any u Z) (hv : IsNums .i64 w Any v Z) : Calls Try.prog 21 #[u, v] w fun e w' => e = .returned (.bool true) ∧ Below w.heap.size w w' := by
  have := is_any _ _ _ _ Z Z w hu hv
  rw [decide_eq_true (rfl : Z = Z)] at this
  exact this
set_option maxRecDepth 100000 in
set_option maxHeartbeats 8000000 in
theorem nsteps_walk (search : Bool) (S : Nat → Prop) (d : Nat) (A1 : Option Addr) (c1 : Nat) (l : List (Tr d)) (vm : Value) (ms : List Int) (w : World) (h1 : Row3 (IsTr w S d) w S A1 l) (hl1 : l.length ≤ 9223372036854775807) (hm : IsNums .i64 w S vm ms) :
    Calls Try.prog 3 #[.bool search, .slice A1 l.length c1, vm] w fun e w' => e = .returned (.bool true) ∧ Below w.heap.size w w' := by
  have H1 := hid h1
  have HM := hid (hm.mono (S' := Any) fun _ _ _ => trivial)
  obtain ⟨A3, c3, rfl⟩ := hm.form
  have hlm := hm.le
  clear h1 hm
  by_cases hg : 80 < cntE d l
  · have HG1 := hid (decide_eq_true hg)
    clear hg
    go_enter Try.func3, Try.ntmps3
    go_wp2_with fail
    refine (great_any S d A1 c1 l w H1.out hl1).mono ?_
    rintro e w1 ⟨rfl, hb⟩
    rw [HG1.out]
    have HB1 := hid hb
    clear hb
    go_wp2_with fail
    refine (awake_any w1).mono ?_
    rintro e w2 ⟨rfl, hb⟩
    have HB2 := hid (ends_true HB1.out hb)
    clear hb
    go_wp2_with fail
    go_ret
    exact ⟨rfl, HB2.out⟩
  have HG1 := hid (decide_eq_false hg)
  have HC1 := hid (Nat.le_of_not_lt hg)
  have hl80 : l.length ≤ 80 := Nat.le_trans (cntL_len (fun x => cnt_pos d x) l) HC1.out
  clear hg
  by_cases h12 : 12 < ms.length
  · go_enter Try.func3, Try.ntmps3
    go_wp2_with fail
    refine (great_any S d A1 c1 l w H1.out hl1).mono ?_
    rintro e w1 ⟨rfl, hb⟩
    rw [HG1.out]
    have HB1 := hid hb
    clear hb
    go_wp2_with fail
    refine (awake_any w1).mono ?_
    rintro e w2 ⟨rfl, hb⟩
    have HB2 := hid (ends_true HB1.out hb)
    clear hb
    go_wp2_with fail
    go_ret
    exact ⟨rfl, HB2.out⟩
  go_enter Try.func3, Try.ntmps3
  go_wp2_with fail
  refine (great_any S d A1 c1 l w H1.out hl1).mono ?_
  rintro e w1 ⟨rfl, hb1⟩
  rw [HG1.out]
  have HB1 := hid hb1
  clear hb1
  go_wp2_with fail
  refine (awake_any w1).mono ?_
  rintro e w2 ⟨rfl, hb2⟩
  have HB2 := hid (ends_true HB1.out hb2)
  clear hb2
  go_wp2_with fail
  refine (tos_any S d A1 c1 l w2 (H1.out.below HB2.out) (by have := HC1.out; unfold cntE at this; omega)).mono ?_
  rintro e w3 ⟨v3, rfl, hb, ht⟩
  obtain ⟨A4, c4, rfl, -, -, hrow⟩ := ht.row
  have HROW := hid hrow
  have HB3 := hid (ends_true HB2.out hb)
  clear hb ht hrow HB1 HB2
  by_cases hr : (rightE d l && decide (l.length ≤ 40)) = true
  rotate_left
  · have HR := hid (show (rightE d l && decide (l.length ≤ 40)) = false from by simpa using hr)
    have HBAD := hid (show 40 < l.length ∨ (l.any fun t => !rightT d t) = true by
      by_cases h40 : 40 < l.length
      · exact .inl h40
      · refine .inr ?_
        rw [decide_eq_true (Nat.le_of_not_lt h40), Bool.and_true] at hr
        unfold rightE at hr
        have hr' : ∃ x, x ∈ l ∧ fitsT d false x = false := by simpa [List.any_eq_true, List.all_eq_true] using hr
        obtain ⟨x, hx, hf⟩ := hr'
        exact List.any_eq_true.2 ⟨x, hx, by unfold rightT; rw [hf]; simp⟩)
    clear hr
    by_cases h40 : 40 < l.length
    · go_wp2_with fail
      refine (new_bad _ d A4 c4 l search w3 HROW.out hl1 HBAD.out).mono ?_
      rintro e w4 ⟨rfl, hb⟩
      rw [if_pos h40]
      have HB4 := hid (ends_true HB3.out hb)
      clear hb
      go_wp2_with fail
      refine (rights_any S d A1 c1 l w4 (H1.out.below HB4.out) hl1 HC1.out).mono ?_
      rintro e w5 ⟨rfl, hb⟩
      rw [HR.out]
      have HB5 := hid (ends_true HB4.out hb)
      clear hb
      go_wp2_with fail
      go_ret
      exact ⟨rfl, HB5.out⟩
    · go_wp2_with fail
      refine (new_bad _ d A4 c4 l search w3 HROW.out hl1 HBAD.out).mono ?_
      rintro e w4 ⟨rfl, hb⟩
      rw [if_neg h40]
      have HB4 := hid (ends_true HB3.out hb)
      clear hb
      go_wp2_with fail
      refine (rights_any S d A1 c1 l w4 (H1.out.below HB4.out) hl1 HC1.out).mono ?_
      rintro e w5 ⟨rfl, hb⟩
      rw [HR.out]
      have HB5 := hid (ends_true HB4.out hb)
      clear hb
      go_wp2_with fail
      go_ret
      exact ⟨rfl, HB5.out⟩
  have HR := hid hr
  have HF := hid (show Fine l from ⟨Nat.le_trans HC1.out (by decide), by simp only [Bool.and_eq_true] at hr; exact hr.1, by simp only [Bool.and_eq_true, decide_eq_true_eq] at hr; exact hr.2⟩)
  have hl40 : l.length ≤ 40 := HF.out.few
  clear hr
  go_wp2_with fail
  refine (new_right d A4 c4 l search w3 HROW.out HF.out.cnt HF.out.right HF.out.few).mono ?_
  rintro e w4 ⟨g, rfl, hnf, hb⟩
  have HB4 := hid (ends_true HB3.out hb)
  obtain ⟨s, hs⟩ : ∃ s, s = builtB l := ⟨_, rfl⟩
  have HSD := hid hs
  have HGD := hid (show Good s by rw [hs]; exact HF.out.good)
  have HLV := hid (show (makeI l l.length).s.lv.length = s.lfs.length by rw [hs]; exact HF.out.lvLen)
  rw [← hs] at hnf
  have HNF := hid hnf
  clear hb hnf hs HROW HB3
  go_wp2_with fail
  refine (rights_any S d A1 c1 l w4 (H1.out.below HB4.out) hl1 HC1.out).mono ?_
  rintro e w5 ⟨rfl, hb⟩
  rw [HR.out]
  have HN5 := hid (HNF.out.below hb)
  have HB5 := hid (ends_true HB4.out hb)
  clear hb HR HG1 HNF HB4
  go_wp2_with fail
  refine (rmake_any search S d A1 c1 l w5 (H1.out.below HB5.out) HF.out.few HF.out.cnt).mono ?_
  rintro e w6 ⟨a, rfl, hrf, hb⟩
  have HR6 := hid hrf
  have HN6 := hid (HN5.out.below hb)
  have HB6 := hid (ends_true HB5.out hb)
  clear hb hrf HN5 HB5
  go_wp2_with fail
  refine (begin_any g w6).mono ?_
  rintro e w7 ⟨v7, rfl, hv, hb⟩
  have HX7 := hid (show IsNums .i64 w7 Any v7 [0] from hv.mono fun _ _ _ => trivial)
  have HR7 := hid (HR6.out.below hb)
  have HN7 := hid (HN6.out.below hb)
  have HB7 := hid (ends_true HB6.out hb)
  clear hv hb HR6 HN6 HB6
  obtain ⟨X, hX⟩ : ∃ X, X = w7.alloc (.cells #[.int .i64 0] 3) := ⟨_, rfl⟩
  obtain ⟨p, hp⟩ : ∃ p, p = w7.heap.size := ⟨_, rfl⟩
  have HXB := hid (show Below w7.heap.size w7 X by rw [hX]; exact (Below.refl _ _).alloc (Nat.le_refl _) _)
  have HY0 := hid (show IsNums .i64 X Any (.slice (some ⟨p, 0, none⟩) 1 1) [0] by rw [hX, hp]; exact nums_new w7 [0] Any trivial (by decide))
  have HX0 := hid (HX7.out.below HXB.out)
  have HR0 := hid (HR7.out.below HXB.out)
  have HN0 := hid (HN7.out.below HXB.out)
  have HB0 := hid (ends_true HB7.out HXB.out)
  clear HX7 HR7 HN7 HB7 HXB
  go_wp2_with fail
  rw [← hX, ← hp]
  clear hX hp
  obtain ⟨LA, lc, hla⟩ := HR0.out.leaves
  rw [HLV.out] at hla
  have HLA := hid hla
  have hz := hla X (Below.refl _ _)
  obtain ⟨n, hn⟩ : ∃ n, n = s.lfs.length := ⟨_, rfl⟩
  have hn160 : n ≤ 160 := by rw [hn]; exact HGD.out.2.2.1
  have HN := hid hn
  rw [← hn] at HLA hz
  clear hla hn
  have hw1 : IntKind.i64.wrap ((n : Int) + 1) = (n : Int) + 1 := by simp [IntKind.wrap, IntKind.bits, IntKind.signed]; omega
  have hne : ((n : Int) + 1 != IntKind.i64.wrap ((n : Int) + 1)) = false := by rw [hw1]; simp
  clear hw1
  go_wp2_with fail
  have HZZ := hid (Below.refl X.heap.size X)
  go_region_held3 (fun Y => Y.cell? ⟨a, 1, none⟩ = some (.slice LA n lc)) (first | exact HLA.out _ HZZ.out | exact HLA.out _ HZZ.out.drew)
    (first
      | (go_at_call 20; refine (count_any g search s _ (by first | exact HN0.out.below HZZ.out | exact HN0.out.below HZZ.out.drew) (by rw [← HN.out]; omega)).mono ?_; rintro e w9 ⟨rfl, rfl⟩; rw [show ((s.lfs.length + 1 : Nat) : Int) = (n : Int) + 1 by rw [← HN.out]; rfl]; (first | (replace HZZ := hid HZZ.out.drew) | skip))
      | fail)
  all_goals
    clear hz
    go_wp2_with fail
    clear hne
    go_loopw [11, 12, 13] (fun s11 s12 s13 wr => ∃ (i : Nat) (Z : List Int) (vx vy : Value), i ≤ ms.length ∧ s13 = .int .i64 i ∧ s11 = vx ∧ s12 = vy ∧ Hid (IsNums .i64 wr Any vx Z) ∧ Hid (IsNums .i64 wr Any vy Z) ∧ Hid ((∀ z ∈ Z, i64ok z) ∧ Z.length ≤ 10000) ∧ Hid (Below X.heap.size X wr)) (fun _ _ s13 _ => ms.length - (intOf s13).toNat)
    case atStart => exact ⟨0, [0], _, _, by omega, rfl, rfl, rfl, hid (HX0.out.below HZZ.out), hid (HY0.out.below HZZ.out), hid ⟨fun z hz => i64_small (by have : z = 0 := (by simpa using hz); omega), by simp⟩, HZZ⟩
    case round =>
      clear HX0 HY0 HZZ
      obtain ⟨i, Z, vx, vy, hi, rfl, ex, ey, HX, HY, HOK, HZ⟩ := hrel
      subst ex ey
      by_cases hlt : i < ms.length
      · obtain ⟨bm, om, cm', em, -, hbm, m0⟩ := (HM.out.below (ends_true HB0.out HZ.out)).at hlt
        obtain ⟨rfl, rfl⟩ : A3 = some ⟨bm, om, none⟩ ∧ c3 = cm' := by simpa using em
        have HMK := hid (show ∀ Y, Below X.heap.size X Y → Y.cell? ⟨bm, om + i, none⟩ = some (.int .i64 (nth ms i)) from fun Y hY => by
          obtain ⟨b', o', c', e', -, -, m'⟩ := (HM.out.below (ends_true HB0.out hY)).at hlt
          obtain ⟨⟨rfl, rfl⟩, -⟩ : (bm = b' ∧ om = o') ∧ c3 = c' := by simpa using e'
          exact m')
        obtain ⟨mk, hmk⟩ : ∃ mk, mk = nth ms i := ⟨_, rfl⟩
        rw [← hmk] at m0 HMK
        clear hmk em hbm
        obtain ⟨t, ht⟩ : ∃ t, t = tellsB s Z := ⟨_, rfl⟩
        have HT := hid ht
        clear ht
        go_wp2_with fail
        refine (is_same HX.out HY.out).mono ?_
        rintro e w8 ⟨rfl, hb⟩
        have HB8 := hid hb
        clear hb
        go_wp2_with fail
        refine (tells_any g search s _ _ _ _ (HN0.out.below (ends_true HZ.out HB8.out)) HGD.out.2.1 (HX.out.below HB8.out) HOK.out.1).mono ?_
        rintro e w9 ⟨rfl, n1, hw9⟩
        rw [← HT.out]
        have HB9 := hid (ends_true HB8.out (show Below _ _ w9 by rw [hw9]; exact ⟨rfl, rfl, rfl, Nat.le_refl _, fun _ _ => rfl⟩))
        clear hw9 HB8
        go_wp2_with fail
        refine (ref_tells HF.out (HR0.out.below (ends_true HZ.out HB9.out)) (HY.out.below HB9.out)).mono ?_
        rintro e w10 ⟨rfl, hb⟩
        rw [← HSD.out, ← HT.out]
        have HB10 := hid (ends_true HB9.out hb)
        have m10 := HMK.out _ (ends_true HZ.out HB10.out)
        clear hb HB9 m0
        go_wp2_with fail
        obtain ⟨N, hN⟩ : ∃ N, N = stepB search s mk Z := ⟨_, rfl⟩
        have HNN := hid hN
        have HOK2 := hid (show (∀ z ∈ N, i64ok z) ∧ N.length ≤ 10000 by rw [hN]; exact ⟨step_i64 HGD.out, Nat.le_trans (step_10000 HGD.out) (by decide)⟩)
        clear hN
        refine (gstep_any g search s _ _ _ mk _ (HN0.out.below (ends_true HZ.out HB10.out)) HGD.out (HX.out.below HB10.out) HOK.out.1 HOK.out.2).mono ?_
        rintro e w11 ⟨v11, rfl, hv, hb⟩
        rw [← HNN.out] at hv
        have HX11 := hid (hv.mono (S' := Any) fun _ _ _ => trivial)
        have HB11 := hid (ends_true HB10.out hb)
        have m11 := HMK.out _ (ends_true HZ.out HB11.out)
        clear hv hb HB10 m10
        go_wp2_with fail
        refine (ref_step HF.out (HR0.out.below (ends_true HZ.out HB11.out)) (HY.out.below HB11.out)).mono ?_
        rintro e w12 ⟨v12, rfl, hv, hb⟩
        rw [← HSD.out, ← HNN.out] at hv
        have HY12 := hid (hv.mono (S' := Any) fun _ _ _ => trivial)
        have HX12 := hid (HX11.out.below hb)
        have HB12 := hid (ends_true HZ.out (ends_true HB11.out hb))
        clear hv hb HB11 HX11
        go_wp2_with fail
        refine ⟨⟨i + 1, N, _, _, by omega, by go_num, rfl, rfl, HX12, HY12, HOK2, HB12⟩, by simp [intOf]; omega⟩
      · obtain rfl : i = ms.length := by omega
        obtain ⟨t, ht⟩ : ∃ t, t = tellsB s Z := ⟨_, rfl⟩
        have HT := hid ht
        clear ht
        go_wp2_with fail
        refine (is_same HX.out HY.out).mono ?_
        rintro e w8 ⟨rfl, hb⟩
        have HB8 := hid hb
        clear hb
        go_wp2_with fail
        refine (tells_any g search s _ _ _ _ (HN0.out.below (ends_true HZ.out HB8.out)) HGD.out.2.1 (HX.out.below HB8.out) HOK.out.1).mono ?_
        rintro e w9 ⟨rfl, n1, hw9⟩
        rw [← HT.out]
        have HB9 := hid (ends_true HB8.out (show Below _ _ w9 by rw [hw9]; exact ⟨rfl, rfl, rfl, Nat.le_refl _, fun _ _ => rfl⟩))
        clear hw9 HB8
        go_wp2_with fail
        refine (ref_tells HF.out (HR0.out.below (ends_true HZ.out HB9.out)) (HY.out.below HB9.out)).mono ?_
        rintro e w10 ⟨rfl, hb⟩
        rw [← HSD.out, ← HT.out]
        have HB10 := hid (ends_true HB0.out (ends_true HZ.out (ends_true HB9.out hb)))
        clear hb HB9
        go_wp2_with fail
        go_ret
        exact ⟨rfl, HB10.out⟩
end Go.Proofs.Ythdhbkngbmjjkaa
