/- NfaTells, walked. No conditions but what lies in memory. -/
import Derived.Test.YthdhbkngbmjjkaaG8
import Derived.Test.YthdhbkngbmjjkaaUs
import Derived.Test.YthdhbkngbmjjkaaLe
namespace Go.Proofs.Ythdhbkngbmjjkaa
open Go.RowKit
set_option linter.unusedSimpArgs false
theorem run_ok {s : Bs} (hg : Good s) (search : Bool) (ms : List Int) : (∀ z ∈ runB search s ms, i64ok z) ∧ (runB search s ms).length ≤ 10000 := by
  rcases List.eq_nil_or_concat ms with rfl | ⟨l, m, rfl⟩
  · exact ⟨fun z hz => by have : z = 0 := by simpa [runB] using hz
                          exact i64_small (by omega), by simp [runB]⟩
  · rw [List.concat_eq_append, run_snoc]
    exact ⟨step_i64 hg, Nat.le_trans (step_10000 hg) (by decide)⟩
/-- Whether an expression matches all marks, or, if one searches, some last ones: by the document's table. -/
def tellF {d : Nat} (search : Bool) (ms : List Int) (t : Tr d) : Bool := leadsF d t ms 0 ms.length || (search && (List.range (ms.length + 1)).any fun i => leadsF d t ms i ms.length)
def tellP {d : Nat} (search : Bool) (ms : List Int) (l : List (Tr d)) (k : Nat) : Bool := match l[k]? with
  | some t => tellF search ms t
  | none => false
theorem told_is {d : Nat} {l : List (Tr d)} (h : Fine l) (search : Bool) (ms : List Int) : tellsB (builtB l) (runB search (builtB l) ms) = wantB (tellP search ms l) l.length := by
  refine want_is fun j => ?_
  rw [h.told]
  constructor
  · rintro ⟨t, ht, i, hi, hin, hl⟩
    refine ⟨(List.getElem?_eq_some_iff.1 ht).1, ?_⟩
    unfold tellP
    rw [ht]
    have hlf := leads_is d t false ms (h.fits t (List.mem_of_getElem? ht))
    show tellF search ms t = true
    unfold tellF
    have h1 : leadsF d t ms i ms.length = true := (hlf i ms.length (by omega) (by omega)).2 hl
    rcases hi with rfl | hi
    · rw [h1]; rfl
    · rw [hi, Bool.true_and, Bool.or_eq_true]
      exact .inr (List.any_eq_true.2 ⟨i, List.mem_range.2 (by omega), h1⟩)
  · rintro ⟨hj, hp⟩
    have ht : l[j]? = some l[j] := List.getElem?_eq_getElem hj
    unfold tellP at hp
    rw [ht] at hp
    have hlf := leads_is d l[j] false ms (h.fits _ (List.getElem_mem hj))
    have hp' : tellF search ms l[j] = true := hp
    unfold tellF at hp'
    rcases Bool.or_eq_true _ _ ▸ hp' with hp' | hp'
    · exact ⟨_, ht, 0, .inl rfl, Nat.zero_le _, (hlf 0 ms.length (by omega) (by omega)).1 hp'⟩
    · obtain ⟨h1, h2⟩ := Bool.and_eq_true _ _ ▸ hp'
      obtain ⟨i, hi, h3⟩ := List.any_eq_true.1 h2
      have hi' := List.mem_range.1 hi
      exact ⟨_, ht, i, .inr h1, by omega, (hlf i ms.length (by omega) (by omega)).1 h3⟩
theorem shl_one {k : Nat} (h : k < 64) : IntKind.u64.wrap (2 ^ k) = ((1 <<< k : Nat) : Int) := by
  rw [Nat.one_shiftLeft]
  have h2 : (2 ^ k : Nat) < 2 ^ 64 := Nat.pow_lt_pow_right (by omega) h
  have e3 : (2 : Int) ^ k = ((2 ^ k : Nat) : Int) := by simp
  rw [e3]
  generalize (2 ^ k : Nat) = c at h2
  simp [IntKind.wrap, IntKind.bits, IntKind.signed]
  omega
theorem any_more (f : Nat → Bool) (k : Nat) : (List.range (k + 1)).any f = ((List.range k).any f || f k) := by simp [List.range_succ]
theorem Row3.any {d : Nat} {w : World} {S : Nat → Prop} {A : Option Addr} {l : List (Tr d)} (h : Row3 (IsTr w S d) w S A l) : Row3 (IsTr w Any d) w Any A l := h.imp (fun _ _ _ => rfl) (fun _ _ _ => trivial) fun _ _ _ hr => hr.mono fun _ _ _ => trivial
set_option maxRecDepth 100000 in
set_option maxHeartbeats 8000000 in
theorem tells_walk (search : Bool) (S : Nat → Prop) (d : Nat) (A1 : Option Addr) (c1 : Nat) (l : List (Tr d)) (vm : Value) (ms : List Int) (w : World) (h1 : Row3 (IsTr w S d) w S A1 l) (hl1 : l.length ≤ 9223372036854775807) (hm : IsNums .i64 w S vm ms) :
    Calls Try.prog 4 #[.bool search, .slice A1 l.length c1, vm] w fun e w' => e = .returned (.bool true) ∧ Below w.heap.size w w' := by
  have H1 := hid h1
  have HM := hid (hm.mono (S' := Any) fun _ _ _ => trivial)
  obtain ⟨A3, c3, rfl⟩ := hm.form
  have hlm := hm.le
  clear h1 hm
  by_cases hg : 80 < cntE d l
  · have HG1 := hid (decide_eq_true hg)
    clear hg
    go_enter Try.func4, Try.ntmps4
    go_wp2_with fail
    refine (great_any S d A1 c1 l w H1.out hl1).mono ?_
    rintro e w1 ⟨rfl, hb⟩
    rw [HG1.out]
    have HB1 := hid hb
    clear hb
    go_wp2_with fail
    refine (awake_any w1).mono ?_
    rintro e w2 ⟨rfl, hb⟩
    have HB2 := hid (ends_true HB1.out hb)
    clear hb
    go_wp2_with fail
    go_ret
    exact ⟨rfl, HB2.out⟩
  have HG1 := hid (decide_eq_false hg)
  have HC1 := hid (Nat.le_of_not_lt hg)
  have hl80 : l.length ≤ 80 := Nat.le_trans (cntL_len (fun x => cnt_pos d x) l) HC1.out
  clear hg
  by_cases h12 : 8 < ms.length
  · go_enter Try.func4, Try.ntmps4
    go_wp2_with fail
    refine (great_any S d A1 c1 l w H1.out hl1).mono ?_
    rintro e w1 ⟨rfl, hb⟩
    rw [HG1.out]
    have HB1 := hid hb
    clear hb
    go_wp2_with fail
    refine (awake_any w1).mono ?_
    rintro e w2 ⟨rfl, hb⟩
    have HB2 := hid (ends_true HB1.out hb)
    clear hb
    go_wp2_with fail
    go_ret
    exact ⟨rfl, HB2.out⟩
  by_cases hr : (rightE d l && decide (l.length ≤ 40)) = true
  rotate_left
  · have HR := hid (show (rightE d l && decide (l.length ≤ 40)) = false from by simpa using hr)
    clear hr
    go_enter Try.func4, Try.ntmps4
    go_wp2_with fail
    refine (great_any S d A1 c1 l w H1.out hl1).mono ?_
    rintro e w1 ⟨rfl, hb1⟩
    rw [HG1.out]
    have HB1 := hid hb1
    clear hb1
    go_wp2_with fail
    refine (awake_any w1).mono ?_
    rintro e w2 ⟨rfl, hb2⟩
    have HB2 := hid (ends_true HB1.out hb2)
    clear hb2
    go_wp2_with fail
    refine (rights_any S d A1 c1 l w2 (H1.out.below HB2.out) hl1 HC1.out).mono ?_
    rintro e w3 ⟨rfl, hb3⟩
    rw [HR.out]
    have HB3 := hid (ends_true HB2.out hb3)
    clear hb3
    go_wp2_with fail
    go_ret
    exact ⟨rfl, HB3.out⟩
  have HR := hid hr
  have HF := hid (show Fine l from ⟨Nat.le_trans HC1.out (by decide), by simp only [Bool.and_eq_true] at hr; exact hr.1, by simp only [Bool.and_eq_true, decide_eq_true_eq] at hr; exact hr.2⟩)
  have hl40 : l.length ≤ 40 := HF.out.few
  clear hr
  go_enter Try.func4, Try.ntmps4
  go_wp2_with fail
  refine (great_any S d A1 c1 l w H1.out hl1).mono ?_
  rintro e w1 ⟨rfl, hb1⟩
  rw [HG1.out]
  have HB1 := hid hb1
  clear hb1
  go_wp2_with fail
  refine (awake_any w1).mono ?_
  rintro e w2 ⟨rfl, hb2⟩
  have HB2 := hid (ends_true HB1.out hb2)
  clear hb2
  go_wp2_with fail
  refine (rights_any S d A1 c1 l w2 (H1.out.below HB2.out) hl1 HC1.out).mono ?_
  rintro e w3 ⟨rfl, hb3⟩
  rw [HR.out]
  have HB3 := hid (ends_true HB2.out hb3)
  clear hb3 HG1 HR HB1 HB2
  go_wp2_with fail
  refine (tos_any S d A1 c1 l w3 (H1.out.below HB3.out) (by have := HC1.out; unfold cntE at this; omega)).mono ?_
  rintro e w4 ⟨v4, rfl, hb, ht⟩
  obtain ⟨A4, c4, rfl, -, -, hrow⟩ := ht.row
  have HROW := hid hrow
  have HB4 := hid (ends_true HB3.out hb)
  clear hb ht hrow HB3
  go_wp2_with fail
  refine (new_right d A4 c4 l search w4 HROW.out HF.out.cnt HF.out.right HF.out.few).mono ?_
  rintro e w5 ⟨g, rfl, hnf, hb⟩
  have HB5 := hid (ends_true HB4.out hb)
  obtain ⟨s, hs⟩ : ∃ s, s = builtB l := ⟨_, rfl⟩
  have HSD := hid hs
  have HGD := hid (show Good s by rw [hs]; exact HF.out.good)
  rw [← hs] at hnf
  have HNF := hid hnf
  clear hb hnf hs HROW HB4
  go_wp2_with fail
  refine (begin_any g w5).mono ?_
  rintro e w6 ⟨v6, rfl, hv, hb⟩
  have HX6 := hid (show IsNums .i64 w6 Any v6 (runB search s (ms.take 0)) from hv.mono fun _ _ _ => trivial)
  have HN6 := hid (HNF.out.below hb)
  have HB6 := hid (ends_true HB5.out hb)
  clear hv hb HNF HB5
  go_wp2_with fail
  go_loopw [9, 10] (fun s9 s10 wr => ∃ (i : Nat) (vx : Value), i ≤ ms.length ∧ s10 = .int .i64 i ∧ s9 = vx ∧ Hid (IsNums .i64 wr Any vx (runB search s (ms.take i))) ∧ Hid (Below w6.heap.size w6 wr)) (fun _ s10 _ => ms.length - (intOf s10).toNat)
  case atStart => exact ⟨0, _, by omega, rfl, rfl, HX6, hid (Below.refl _ _)⟩
  case round =>
    obtain ⟨i, vx, hi, rfl, ex, HX, HBr⟩ := hrel
    subst ex
    have HNr := hid (HN6.out.below HBr.out)
    have HWr := hid (ends_true HB6.out HBr.out)
    by_cases hlt : i < ms.length
    · obtain ⟨bm, om, cm', em, -, hbm, m0⟩ := (HM.out.below HWr.out).at hlt
      obtain rfl : A3 = some ⟨bm, om, none⟩ := by injection em
      have HTK := hid (show runB search s (ms.take (i + 1)) = stepB search s (nth ms i) (runB search s (ms.take i)) by rw [take_nth hlt, run_snoc])
      obtain ⟨mk, hmk⟩ : ∃ mk, mk = nth ms i := ⟨_, rfl⟩
      rw [← hmk] at m0 HTK
      have HMK := hid hmk
      have HOK := hid (run_ok HGD.out search (ms.take i))
      clear hmk em hbm
      go_wp2_with fail
      refine (gstep_any g search s _ _ _ mk _ HNr.out HGD.out HX.out HOK.out.1 HOK.out.2).mono ?_
      rintro e w7 ⟨v7, rfl, hv, hb⟩
      rw [← HTK.out] at hv
      have HX7 := hid (hv.mono (S' := Any) fun _ _ _ => trivial)
      have HB7 := hid (ends_true HBr.out hb)
      clear hv hb
      go_wp2_with fail
      refine ⟨⟨i + 1, _, by omega, by go_num, rfl, HX7, HB7⟩, by simp [intOf]; omega⟩
    · obtain rfl : i = ms.length := by omega
      have HXF := hid (show IsNums .i64 wr Any _ (runB search s ms) by have h := HX.out; rw [List.take_length] at h; exact h)
      have HTOLD := hid (show tellsB s (runB search s ms) = wantB (tellP search ms l) l.length by rw [HSD.out]; exact told_is HF.out search ms)
      clear HX
      go_wp2_with fail
      go_loopw [11, 12, 13, 14, 15] (fun s11 s12 _ _ _ wk => ∃ (k b : Nat), k ≤ l.length ∧ s12 = .int .i64 k ∧ s11 = .int .u64 (b : Int) ∧ Hid (b = wantB (tellP search ms l) k) ∧ Hid (Below wr.heap.size wr wk)) (fun _ s12 _ _ _ _ => l.length - (intOf s12).toNat)
      case atStart => exact ⟨0, 0, by omega, rfl, rfl, hid rfl, hid (Below.refl _ _)⟩
      case round =>
        obtain ⟨k, b, hk, rfl, rfl, HWB, HBk⟩ := hrel
        have HWk := hid (ends_true HWr.out HBk.out)
        by_cases hltk : k < l.length
        · obtain ⟨bl, ol, v0, v1, v2, rfl, -, hbs, c0, c1, c2, ht⟩ := (H1.out.any.below HWk.out).at (List.getElem?_eq_getElem hltk)
          obtain ⟨k0, k1, A2, n2, cp2, rfl, rfl, rfl⟩ := ht.cells
          have HTr := hid ht
          obtain ⟨x, hx⟩ : ∃ x, x = l[k] := ⟨_, rfl⟩
          rw [← hx] at HTr
          have HTP := hid (show tellP search ms l k = tellF search ms x by unfold tellP; rw [List.getElem?_eq_getElem hltk, hx])
          clear ht hx
          go_wp2_with fail
          refine (leads_any d _ x _ ms _ HTr.out (HM.out.below HWk.out) (by omega)).mono ?_
          rintro e w7 ⟨v7, rfl, htab, hb⟩
          obtain ⟨n, hn⟩ : ∃ n, n = ms.length + 1 := ⟨_, rfl⟩
          have hn' : ms.length < n := by omega
          obtain ⟨f, hf⟩ : ∃ f, f = leadsF d x ms := ⟨_, rfl⟩
          have HFD := hid hf
          rw [← hn, ← hf] at htab
          obtain ⟨gt, rfl, hgt⟩ := id htab
          have HTAB := hid htab
          have HB7 := hid (ends_true HBk.out hb)
          obtain ⟨r0, -, -, hr0⟩ := HTAB.out.at (i := 0) (by omega)
          obtain ⟨q1, q2⟩ := hr0 w7 (Below.refl _ _)
          have q3 := q2 ms.length hn'
          clear hb htab hf hgt hr0 q2
          go_wp2_with fail
          have HF0 := hid (show f 0 ms.length = (f 0 ms.length || (search && (List.range 0).any fun i => f i ms.length)) by simp)
          obtain ⟨f0, hf0⟩ : ∃ f0, f0 = f 0 ms.length := ⟨_, rfl⟩
          rw [← hf0] at HF0
          have HF00 := hid hf0
          have HNN := hid hn
          clear q1 q3 hf0
          go_loopw [14, 15] (fun s14 s15 wq => ∃ (i : Nat) (fb : Bool), i ≤ n ∧ s15 = .int .i64 i ∧ s14 = .bool fb ∧ Hid (fb = (f 0 ms.length || (search && (List.range i).any fun i => f i ms.length))) ∧ Hid (Below w7.heap.size w7 wq)) (fun _ s15 _ => n - (intOf s15).toNat)
          case atStart => exact ⟨0, f0, by omega, rfl, by first | rfl | rw [HF00.out], hid (by rw [HF00.out]; simp), hid (Below.refl _ _)⟩
          case round =>
            obtain ⟨i, fb, hi, rfl, rfl, HFB, HBq⟩ := hrel
            by_cases hgo : i < n ∧ search = true
            · obtain ⟨hin, rfl⟩ := hgo
              have hile : (i : Int) ≤ (ms.length : Int) := by omega
              obtain ⟨ri, -, -, hri⟩ := HTAB.out.at (i := i) hin
              obtain ⟨q1, q2⟩ := hri _ HBq.out
              have q3 := q2 ms.length hn'
              have HAM := hid (any_more (fun i => f i ms.length) i)
              obtain ⟨fi, hfi⟩ : ∃ fi, fi = f i ms.length := ⟨_, rfl⟩
              rw [← hfi] at q3 HAM
              clear hri q2 hfi hn
              cases fb with
              | true =>
                have HN := hid (show true = (f 0 ms.length || (true && (List.range (i + 1)).any fun i => f i ms.length)) by
                  rw [HAM.out, Bool.true_and, ← Bool.or_assoc]
                  have h := HFB.out
                  rw [Bool.true_and] at h
                  rw [← h]; rfl)
                go_wp2_with fail
                refine ⟨⟨i + 1, true, by omega, by go_num, rfl, HN, HBq⟩, by simp [intOf]; omega⟩
              | false =>
                have HN := hid (show fi = (f 0 ms.length || (true && (List.range (i + 1)).any fun i => f i ms.length)) by
                  rw [HAM.out, Bool.true_and, ← Bool.or_assoc]
                  have h := HFB.out
                  rw [Bool.true_and] at h
                  rw [← h]; rfl)
                go_wp2_with fail
                refine ⟨⟨i + 1, fi, by omega, by go_num, rfl, HN, HBq⟩, by simp [intOf]; omega⟩
            · have HTF := hid (show fb = tellP search ms l k by
                rw [HTP.out]
                unfold tellF
                rw [← HFD.out, ← HNN.out]
                rw [HFB.out]
                by_cases hs : search = true
                · have : i = n := by
                    by_cases h : i < n
                    · exact absurd ⟨h, hs⟩ hgo
                    · omega
                  rw [this]
                · rw [Bool.eq_false_iff.2 hs]; simp)
              have HBk2 := hid (ends_true HB7.out HBq.out)
              have hor := or_u64 b (1 <<< k) (Nat.lt_of_lt_of_le (by rw [HWB.out]; exact want_lt _ _) (Nat.pow_le_pow_right (by decide) (by omega : k ≤ 64))) (by rw [Nat.one_shiftLeft]; exact Nat.pow_lt_pow_right (by decide) (by omega))
              rw [← shl_one (show k < 64 by omega)] at hor
              have hxl : ¬ ((i : Int) ≤ (ms.length : Int) ∧ search = true) := fun h => hgo ⟨by have := h.1; omega, h.2⟩
              by_cases hxl2 : (i : Int) ≤ (ms.length : Int)
              · have hsr : search = false := Bool.eq_false_iff.2 fun h => hxl ⟨hxl2, h⟩
                clear hgo hxl hn
                cases fb with
                | true =>
                  have HWN := hid (show (b ||| 1 <<< k) = wantB (tellP search ms l) (k + 1) by simp only [wantB]; rw [if_pos HTF.out.symm]; have h := HWB.out; rw [← h])
                  go_wp2_with fail
                  refine ⟨⟨k + 1, b ||| 1 <<< k, by omega, by go_num, by first | rfl | rw [hor], HWN, HBk2⟩, by simp [intOf]; omega⟩
                | false =>
                  have HWN := hid (show b = wantB (tellP search ms l) (k + 1) by simp only [wantB]; rw [if_neg (by rw [← HTF.out]; simp)]; exact HWB.out)
                  go_wp2_with fail
                  refine ⟨⟨k + 1, b, by omega, by go_num, rfl, HWN, HBk2⟩, by simp [intOf]; omega⟩
              · clear hgo hxl hn
                cases fb with
                | true =>
                  have HWN := hid (show (b ||| 1 <<< k) = wantB (tellP search ms l) (k + 1) by simp only [wantB]; rw [if_pos HTF.out.symm]; have h := HWB.out; rw [← h])
                  go_wp2_with fail
                  refine ⟨⟨k + 1, b ||| 1 <<< k, by omega, by go_num, by first | rfl | rw [hor], HWN, HBk2⟩, by simp [intOf]; omega⟩
                | false =>
                  have HWN := hid (show b = wantB (tellP search ms l) (k + 1) by simp only [wantB]; rw [if_neg (by rw [← HTF.out]; simp)]; exact HWB.out)
                  go_wp2_with fail
                  refine ⟨⟨k + 1, b, by omega, by go_num, rfl, HWN, HBk2⟩, by simp [intOf]; omega⟩
        · obtain rfl : k = l.length := by omega
          have HTX := hid (show tellsB s (runB search s ms) = b by rw [HTOLD.out, HWB.out])
          have HOK := hid (run_ok HGD.out search ms)
          have HX2 := hid (HXF.out.below HBk.out)
          have HN2 := hid (HNr.out.below HBk.out)
          go_wp2_with fail
          refine (tells_any g search s _ _ _ _ HN2.out HGD.out.2.1 HX2.out HOK.out.1).mono ?_
          rintro e w8 ⟨rfl, n1, hw8⟩
          rw [HTX.out]
          have HW8 := hid (ends_true HWk.out (show Below _ _ w8 by rw [hw8]; exact ⟨rfl, rfl, rfl, Nat.le_refl _, fun _ _ => rfl⟩))
          clear hw8
          go_wp2_with fail
          go_ret
          exact ⟨rfl, HW8.out⟩
end Go.Proofs.Ythdhbkngbmjjkaa
