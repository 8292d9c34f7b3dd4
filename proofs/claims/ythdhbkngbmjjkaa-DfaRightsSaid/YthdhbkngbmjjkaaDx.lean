/- DfaRights, walked. No conditions but what lies in memory. -/
import Derived.Test.YthdhbkngbmjjkaaDz
import Derived.Test.YthdhbkngbmjjkaaDq
import Derived.Deep.RegionHeld3
namespace Go.Proofs.Ythdhbkngbmjjkaa
open Go.RowKit
set_option linter.unusedSimpArgs false
/-- The numbers of what is true, up to i. -/
def trL (out : List Bool) : Nat → List Int
  | 0 => []
  | i + 1 => if nthB out i = true then trL out i ++ [(i : Int)] else trL out i
theorem trL_mem {out : List Bool} {z : Int} : ∀ i, z ∈ trL out i ↔ ∃ j : Nat, j < i ∧ z = j ∧ nthB out j = true
  | 0 => ⟨(fun h => by cases h), fun ⟨j, h, _⟩ => by omega⟩
  | i + 1 => by
    simp only [trL]
    split
    · rename_i h
      rw [List.mem_append, trL_mem i, List.mem_singleton]
      constructor
      · rintro (⟨j, a, b, c⟩ | e)
        · exact ⟨j, by omega, b, c⟩
        · exact ⟨i, by omega, e, h⟩
      · rintro ⟨j, a, b, c⟩
        by_cases e : j = i
        · subst e; exact .inr b
        · exact .inl ⟨j, by omega, b, c⟩
    · rename_i h
      rw [trL_mem i]
      constructor
      · rintro ⟨j, a, b, c⟩; exact ⟨j, by omega, b, c⟩
      · rintro ⟨j, a, b, c⟩
        by_cases e : j = i
        · subst e; exact absurd c h
        · exact ⟨j, by omega, b, c⟩
theorem trL_lt {out : List Bool} : ∀ i, (trL out i).Pairwise (· < ·)
  | 0 => List.Pairwise.nil
  | i + 1 => by
    simp only [trL]
    split
    · rw [List.pairwise_append]
      refine ⟨trL_lt i, by simp, fun a ha b hb => ?_⟩
      obtain ⟨j, h1, h2, _⟩ := (trL_mem i).1 ha
      rw [List.mem_singleton.1 hb]
      omega
    · exact trL_lt i
theorem trL_at {out : List Bool} {i n : Nat} (hi : i < n) (h : nthB out i = true) : (trL out i).length < (trL out n).length ∧ nth (trL out n) (trL out i).length = i := by
  have key : ∀ k, (trL out (i + 1 + k))[(trL out i).length]? = some (i : Int) := by
    intro k
    induction k with
    | zero => simp [trL, h]
    | succ k ih =>
      rw [← Nat.add_assoc]
      simp only [trL]
      split
      · rw [List.getElem?_append_left (List.getElem?_eq_some_iff.1 ih).1]; exact ih
      · exact ih
  have h1 := key (n - (i + 1))
  rw [show i + 1 + (n - (i + 1)) = n by omega] at h1
  exact ⟨(List.getElem?_eq_some_iff.1 h1).1, nth_some h1⟩
theorem trL_all {d : D} {l : List Int} {out : List Bool} (hl : RM d l l.length 0) (h : ∀ i : Nat, nthB out i = true ↔ Dch d (i : Int)) : sortB l = trL out d.next.length := by
  have hp : (sortB l).Perm l := List.mergeSort_perm _ _
  refine up_ext ?_ (trL_lt _) fun x => ?_
  · have h1 := sortB_sorted l
    have h2 : (sortB l).Pairwise (· ≠ ·) := List.nodup_iff_pairwise_ne.1 (hp.nodup_iff.2 hl.nod)
    exact (h1.and h2).imp fun {a b} hab => by omega
  · rw [hp.mem_iff, hl.all, trL_mem]
    constructor
    · intro hx
      obtain ⟨t, rfl, ht⟩ := hl.st x ((hl.all x).2 hx)
      exact ⟨t, ht, rfl, (h t).2 hx⟩
    · rintro ⟨j, _, rfl, hj⟩
      exact (h j).1 hj
theorem runGo_app {rs : List (List Int)} : ∀ (a b : List Int) (s : Int), (∀ m ∈ a, 0 ≤ m ∧ m < 37) → runGo rs s (a ++ b) = runGo rs (runGo rs s a) b
  | [], _, _, _ => rfl
  | m :: a, b, s, h => by
    have h0 := h m List.mem_cons_self
    simp only [List.cons_append, runGo]
    rw [if_neg (by omega), if_neg (by omega)]
    exact runGo_app a b _ fun x hx => h x (List.mem_cons_of_mem _ hx)
/-- So far the marks lead to state t. -/
def RunTo (d : D) (fr : Int) (ms : List Int) (i t : Nat) : Prop := runGo d.next fr (ms.take i) = t ∧ ∀ m ∈ ms.take i, 0 ≤ m ∧ m < 37
theorem RunTo.next {d : D} {fr : Int} {ms : List Int} {i t : Nat} (h : RunTo d fr ms i t) (hr : RT d.next d.next.length) (ht : t < d.next.length) (hi : i < ms.length) (h0 : 0 ≤ nth ms i) (h1 : nth ms i < 37) : RunTo d fr ms (i + 1) (stp d.next t (nth ms i).toNat) := by
  refine ⟨?_, fun m hm => ?_⟩
  · rw [take_nth hi, runGo_app _ _ _ h.2, h.1]
    simp only [runGo]
    rw [if_neg (by omega), Int.toNat_natCast]
    exact (hr.at ht (by omega)).2
  · rw [take_nth hi] at hm
    rcases List.mem_append.1 hm with hm | hm
    · exact h.2 m hm
    · rw [List.mem_singleton.1 hm]; exact ⟨h0, h1⟩
theorem RunTo.bad {d : D} {fr : Int} {ms : List Int} {i t : Nat} (h : RunTo d fr ms i t) (hi : i < ms.length) (hb : nth ms i < 0 ∨ 36 < nth ms i) : runGo d.next fr ms = -1 := by
  have e : ms = ms.take i ++ (nth ms i :: ms.drop (i + 1)) := by rw [← drop_nth hi, List.take_append_drop]
  rw [e, runGo_app _ _ _ h.2]
  simp only [runGo]
  rw [if_pos (by omega)]
theorem isD_len {w : World} {S : Nat → Prop} {NA TA : Option Addr} {na nc ta tc : Nat} {d : D} (h : IsD w S (.agg #[.slice NA na nc, .slice TA ta tc]) d) : na = d.next.length ∧ ta = d.tells.length := by
  obtain ⟨nv, tv, e, hn, ht⟩ := h
  obtain ⟨A, c, e1⟩ := hn.form
  obtain ⟨B, c', e2⟩ := ht.form
  subst e1 e2
  injection e with e
  have := congrArg Array.toList e
  simp at this
  exact ⟨this.1.2.1, this.2.2.1⟩
set_option maxRecDepth 100000 in
set_option maxHeartbeats 8000000 in
theorem drights_walk (S : Nat → Prop) (NA TA : Option Addr) (na nc ta tc : Nat) (d : D) (fr : Int) (vm : Value) (ms : List Int) (w : World) (hd : IsD w S (.agg #[.slice NA na nc, .slice TA ta tc]) d) (hm : IsNums .i64 w S vm ms) :
    Calls Try.prog 11 #[.agg #[.slice NA na nc, .slice TA ta tc], .int .i64 fr, vm] w fun e w' => e = .returned (.bool true) ∧ Below w.heap.size w w' := by
  obtain ⟨MA, mc, rfl⟩ := hm.form
  have HNA := hid (isD_len hd).1
  have HTA := hid (isD_len hd).2
  have hml := hm.le
  obtain ⟨q0, hq0⟩ : ∃ q0, q0 = w.heap.size := ⟨_, rfl⟩
  obtain ⟨W, hW⟩ : ∃ W, W = w.alloc (.cells #[.slice NA na nc, .slice TA ta tc] 62) := ⟨_, rfl⟩
  have HB := hid (show Below w.heap.size w W by rw [hW]; exact (Below.refl _ _).alloc (Nat.le_refl _) _)
  have HC := hid (show ∀ Y, Below W.heap.size W Y → Y.cell? ⟨q0, 0, none⟩ = some (.slice NA na nc) ∧ Y.cell? ⟨q0, 1, none⟩ = some (.slice TA ta tc) from fun Y hY => by
    have h0 : W.heap[q0]? = some (.cells #[.slice NA na nc, .slice TA ta tc] 62 (0, 0)) := by rw [hW, hq0]; exact heap_alloc_new _ _
    obtain ⟨a0, a1, -⟩ := slot2 ((hY.block _ (by rw [hW, hq0]; simp)).trans h0)
    exact ⟨a0, a1⟩)
  have HD := hid (hd.below HB.out)
  have HM := hid (hm.below HB.out)
  obtain ⟨c0, c1⟩ := HC.out W (Below.refl _ _)
  clear hd hm
  by_cases hg : greatB d = true ∨ 20 < ms.length
  · by_cases hga : greatB d = true
    · have HGA := hid hga
      clear hga hg
      go_enter Try.func11, Try.ntmps11
      go_wp2_with fail
      rw [← hW, ← hq0]
      clear hW hq0
      go_wp2_with fail
      refine (dgreat_any S _ d W HD.out).mono ?_
      rintro e w1 ⟨rfl, hb1⟩
      rw [HGA.out]
      have HB1 := hid (HB.out.trans (hb1.mono HB.out.size))
      clear hb1
      go_wp2_with fail
      refine (dawake_any _).mono ?_
      rintro e w2 ⟨rfl, hb2⟩
      have HB2 := hid (ends_true HB1.out hb2)
      clear hb2
      go_wp2_with fail
      go_ret
      exact ⟨rfl, HB2.out⟩
    · have h20 : 20 < ms.length := hg.resolve_left hga
      have HGA := hid (Bool.eq_false_iff.2 hga)
      clear hga hg
      go_enter Try.func11, Try.ntmps11
      go_wp2_with fail
      rw [← hW, ← hq0]
      clear hW hq0
      go_wp2_with fail
      refine (dgreat_any S _ d W HD.out).mono ?_
      rintro e w1 ⟨rfl, hb1⟩
      rw [HGA.out]
      have HB1 := hid (HB.out.trans (hb1.mono HB.out.size))
      clear hb1
      go_wp2_with fail
      refine (dawake_any _).mono ?_
      rintro e w2 ⟨rfl, hb2⟩
      have HB2 := hid (ends_true HB1.out hb2)
      clear hb2
      go_wp2_with fail
      go_ret
      exact ⟨rfl, HB2.out⟩
  have HGA := hid (Bool.eq_false_iff.2 fun h => hg (.inl h))
  have h20 : ms.length ≤ 20 := by
    have : ¬ 20 < ms.length := fun h => hg (.inr h)
    omega
  clear hg
  have hd20 : decide ((20 : Int) < (ms.length : Int)) = false := decide_eq_false (by omega)
  cases hr : rightB d with
  | false =>
    have HR := hid hr
    have HRL := hid (show runL d fr ms = -1 by unfold runL stateB; rw [hr]; simp)
    have HTL := hid (show tellsL d fr = 0 by unfold tellsL stateB; rw [hr]; simp)
    clear hr
    go_enter Try.func11, Try.ntmps11
    go_wp2_with fail
    rw [← hW, ← hq0]
    clear hW hq0
    go_wp2_with fail
    refine (dgreat_any S _ d W HD.out).mono ?_
    rintro e w1 ⟨rfl, hb1⟩
    rw [HGA.out]
    have HZ := hid hb1
    clear hb1 c0 c1
    go_wp2_with fail
    refine (dawake_any _).mono ?_
    rintro e w2 ⟨rfl, hb2⟩
    replace HZ := hid (ends_true HZ.out hb2)
    clear hb2
    obtain ⟨c0, c1⟩ := HC.out _ HZ.out
    go_wp2_with fail
    refine (dto_any NA TA na nc ta tc _).mono ?_
    rintro e w3 ⟨rfl, hb3⟩
    replace HZ := hid (ends_true HZ.out hb3)
    clear hb3 c0 c1
    obtain ⟨X, hX⟩ : ∃ X, X = w3.alloc (.cells #[.slice NA na nc, .slice TA ta tc] 59) := ⟨_, rfl⟩
    obtain ⟨p, hp⟩ : ∃ p, p = w3.heap.size := ⟨_, rfl⟩
    have HXZ := hid (show Below W.heap.size W X by rw [hX]; exact HZ.out.alloc HZ.out.size _)
    have HXC := hid (show ∀ Y, Below X.heap.size X Y → Y.cell? ⟨p, 0, none⟩ = some (.slice NA na nc) ∧ Y.cell? ⟨p, 1, none⟩ = some (.slice TA ta tc) from fun Y hY => by
      have h0 : X.heap[p]? = some (.cells #[.slice NA na nc, .slice TA ta tc] 59 (0, 0)) := by rw [hX, hp]; exact heap_alloc_new _ _
      obtain ⟨a0, a1, -⟩ := slot2 ((hY.block _ (by rw [hX, hp]; simp)).trans h0)
      exact ⟨a0, a1⟩)
    obtain ⟨z0, z1⟩ := HXC.out X (Below.refl _ _)
    have HDX := hid (HD.out.below HXZ.out)
    have HMX := hid (HM.out.below HXZ.out)
    rw [hX] at z0 z1
    rw [hp] at z0 z1
    go_wp2_with fail
    rw [← hX, ← hp]
    clear hX hp z0 z1
    refine (reached_no S _ d X HDX.out HR.out).mono ?_
    rintro e w4 ⟨rfl, hb4⟩
    have HY := hid hb4
    clear hb4
    obtain ⟨z0, z1⟩ := HXC.out _ HY.out
    go_wp2_with fail
    have hrun := run_any S S NA TA nc tc (.slice MA ms.length mc) d fr ms w4
    rw [← HNA.out, ← HTA.out] at hrun
    refine (hrun (HDX.out.below HY.out) (HMX.out.below HY.out)).mono ?_
    clear hrun
    rintro e w5 ⟨rfl, hb5⟩
    rw [HRL.out]
    replace HY := hid (HY.out.trans (hb5.mono HY.out.size))
    clear hb5 z0 z1
    obtain ⟨c0, c1⟩ := HC.out _ (HXZ.out.trans (HY.out.mono HXZ.out.size))
    go_wp2_with fail
    refine (refRight_any S _ d w5 (HDX.out.below HY.out)).mono ?_
    rintro e w6 ⟨rfl, hb6⟩
    rw [HR.out]
    replace HY := hid (HY.out.trans (hb6.mono HY.out.size))
    clear hb6 c0 c1
    obtain ⟨z0, z1⟩ := HXC.out _ HY.out
    go_wp2_with fail
    refine (right_any S _ d w6 (HDX.out.below HY.out)).mono ?_
    rintro e w7 ⟨rfl, hb7⟩
    rw [HR.out]
    replace HY := hid (HY.out.trans (hb7.mono HY.out.size))
    clear hb7 z0 z1
    obtain ⟨z0, z1⟩ := HXC.out _ HY.out
    go_wp2_with fail
    refine (dtells_any S _ d fr w7 (HDX.out.below HY.out)).mono ?_
    rintro e w8 ⟨rfl, hb8⟩
    rw [HTL.out]
    replace HY := hid (HY.out.trans (hb8.mono HY.out.size))
    clear hb8 z0 z1
    go_wp2_with fail
    go_ret
    exact ⟨rfl, HB.out.trans ((HXZ.out.trans (HY.out.mono HXZ.out.size)).mono HB.out.size)⟩
  | true =>
    have HR := hid hr
    have HRT := hid (right_rt hr)
    obtain ⟨a0, ha0⟩ : ∃ a0, a0 = runL d fr ms := ⟨_, rfl⟩
    have HA0 := hid ha0
    have hn1000 : na ≤ 1000 := by rw [HNA.out]; exact (right_rows hr).1
    have hn1 : 1 ≤ na := by rw [HNA.out]; exact (right_rows hr).2.1
    have HT3 := hid (right_rows hr).2.2.1
    clear ha0
    clear hr
    go_enter Try.func11, Try.ntmps11
    go_wp2_with fail
    rw [← hW, ← hq0]
    clear hW hq0
    go_wp2_with fail
    refine (dgreat_any S _ d W HD.out).mono ?_
    rintro e w1 ⟨rfl, hb1⟩
    rw [HGA.out]
    have HZ := hid hb1
    clear hb1 c0 c1
    go_wp2_with fail
    refine (dawake_any _).mono ?_
    rintro e w2 ⟨rfl, hb2⟩
    replace HZ := hid (ends_true HZ.out hb2)
    clear hb2
    obtain ⟨c0, c1⟩ := HC.out _ HZ.out
    go_wp2_with fail
    refine (dto_any NA TA na nc ta tc _).mono ?_
    rintro e w3 ⟨rfl, hb3⟩
    replace HZ := hid (ends_true HZ.out hb3)
    clear hb3 c0 c1
    obtain ⟨X, hX⟩ : ∃ X, X = w3.alloc (.cells #[.slice NA na nc, .slice TA ta tc] 59) := ⟨_, rfl⟩
    obtain ⟨p, hp⟩ : ∃ p, p = w3.heap.size := ⟨_, rfl⟩
    have HXZ := hid (show Below W.heap.size W X by rw [hX]; exact HZ.out.alloc HZ.out.size _)
    have HXC := hid (show ∀ Y, Below X.heap.size X Y → Y.cell? ⟨p, 0, none⟩ = some (.slice NA na nc) ∧ Y.cell? ⟨p, 1, none⟩ = some (.slice TA ta tc) from fun Y hY => by
      have h0 : X.heap[p]? = some (.cells #[.slice NA na nc, .slice TA ta tc] 59 (0, 0)) := by rw [hX, hp]; exact heap_alloc_new _ _
      obtain ⟨a0, a1, -⟩ := slot2 ((hY.block _ (by rw [hX, hp]; simp)).trans h0)
      exact ⟨a0, a1⟩)
    obtain ⟨z0, z1⟩ := HXC.out X (Below.refl _ _)
    have HDX := hid (HD.out.below HXZ.out)
    have HMX := hid (HM.out.below HXZ.out)
    rw [hX] at z0 z1
    rw [hp] at z0 z1
    go_wp2_with fail
    rw [← hX, ← hp]
    clear hX hp z0 z1
    refine (reached_yes S _ d X HDX.out HR.out).mono ?_
    rintro e w4 ⟨v8, l, rfl, hl8, hv8, hb4⟩
    have HL8 := hid hl8
    obtain ⟨LA, lc, rfl⟩ := hv8.form
    obtain ⟨sl, hsl⟩ : ∃ sl, sl = sortB l := ⟨_, rfl⟩
    have HSL := hid hsl
    rw [← hsl] at hv8 ⊢
    have HV8 := hid hv8
    have hll : sl.length ≤ 1000 := by have := hl8.size; rw [hsl, sortB_len]; have := HNA.out; omega
    clear hl8 hv8 hsl
    have HY := hid hb4
    clear hb4
    have HY4 := hid (Below.refl w4.heap.size w4)
    obtain ⟨z0, z1⟩ := HXC.out _ HY.out
    go_wp2_with fail
    have hrun := run_any S S NA TA nc tc (.slice MA ms.length mc) d fr ms w4
    rw [← HNA.out, ← HTA.out] at hrun
    refine (hrun (HDX.out.below HY.out) (HMX.out.below HY.out)).mono ?_
    clear hrun
    rintro e w5 ⟨rfl, hb5⟩
    rw [← HA0.out]
    replace HY := hid (HY.out.trans (hb5.mono HY.out.size))
    replace HY4 := hid (ends_true HY4.out hb5)
    clear hb5 z0 z1
    obtain ⟨c0, c1⟩ := HC.out _ (HXZ.out.trans (HY.out.mono HXZ.out.size))
    go_wp2_with fail
    refine (refRight_any S _ d w5 (HDX.out.below HY.out)).mono ?_
    rintro e w6 ⟨rfl, hb6⟩
    rw [HR.out]
    replace HY := hid (HY.out.trans (hb6.mono HY.out.size))
    replace HY4 := hid (ends_true HY4.out hb6)
    clear hb6 c0 c1
    obtain ⟨c0, c1⟩ := HC.out _ (HXZ.out.trans (HY.out.mono HXZ.out.size))
    go_wp2_with fail
    refine (refReached_any S _ d w6 (HDX.out.below HY.out) HR.out).mono ?_
    rintro e w7 ⟨ob, out, rfl, hob, hbb, hol, hod, hb7⟩
    rw [← HNA.out] at hol ⊢
    replace HY := hid (HY.out.trans (hb7.mono HY.out.size))
    replace HY4 := hid (ends_true HY4.out hb7)
    have HBB := hid hbb
    have HOL := hid hol
    have HTR := hid (show sl = trL out na by rw [HSL.out, HNA.out]; exact trL_all HL8.out hod)
    clear hb7 c0 c1 hbb hob hol hod
    go_wp2_with fail
    go_loop [11, 12] (fun s11 s12 => ∃ (i : Nat), i ≤ na ∧ s12 = .int .i64 i ∧ s11 = .int .i64 ((trL out i).length : Nat)) (fun _ s12 => na - (intOf s12).toNat)
    case atStart => exact ⟨0, by omega, rfl, rfl⟩
    case round =>
      obtain ⟨i, hi, rfl, rfl⟩ := hrel
      by_cases hlt : i < na
      · have b0 := HBB.out.cell (j := i) (by rw [HOL.out]; exact hlt)
        cases hb : nthB out i with
        | false =>
          rw [hb] at b0
          have HTN := hid (show trL out (i + 1) = trL out i by simp only [trL]; rw [hb]; rfl)
          clear hb
          go_wp2_with fail
          go_round
          case rel => exact ⟨i + 1, by omega, by go_num, by rw [HTN.out]⟩
          case measure => simp [intOf]; omega
        | true =>
          rw [hb] at b0
          have HTN := hid (show (trL out (i + 1)).length = (trL out i).length + 1 by simp only [trL]; rw [if_pos hb]; simp)
          obtain ⟨h1, h2⟩ := trL_at hlt hb
          rw [← HTR.out] at h1 h2
          obtain ⟨k, hk⟩ : ∃ k, k = (trL out i).length := ⟨_, rfl⟩
          rw [← hk] at h1 h2 HTN ⊢
          obtain ⟨bl, ol, cl, el, -, hbl, l0⟩ := (HV8.out.below HY4.out).at h1
          obtain ⟨rfl, rfl⟩ : LA = some ⟨bl, ol, none⟩ ∧ lc = cl := by simpa using el
          rw [h2] at l0
          have hk' : (k : Int) < (sl.length : Int) := by omega
          clear hb h2 hk el hbl
          go_wp2_with fail
          go_round
          case rel => exact ⟨i + 1, by omega, by go_num, by rw [HTN.out]; go_num⟩
          case measure => simp [intOf]; omega
      · obtain rfl : na = i := by omega
        rw [← HTR.out]
        obtain ⟨z0, z1⟩ := HXC.out _ HY.out
        go_wp2_with fail
        refine (right_any S _ d w7 (HDX.out.below HY.out)).mono ?_
        rintro e w8 ⟨rfl, hb8⟩
        rw [HR.out]
        replace HY := hid (HY.out.trans (hb8.mono HY.out.size))
        clear hb8 z0 z1
        obtain ⟨c0, c1⟩ := HC.out _ (HXZ.out.trans (HY.out.mono HXZ.out.size))
        by_cases hfr : fr < 0 ∨ na ≤ fr
        · have HST := hid (show stateB d fr = false by
            unfold stateB
            rw [← HNA.out]
            rcases hfr with h | h
            · rw [decide_eq_false (by omega)]; rfl
            · rw [decide_eq_false (p := fr < (na : Int)) (by omega)]; simp)
          have HRL := hid (show a0 = -1 by rw [HA0.out]; unfold runL; rw [HST.out]; rfl)
          have HTL := hid (show tellsL d fr = 0 by unfold tellsL; rw [HST.out]; rfl)
          obtain ⟨z0, z1⟩ := HXC.out _ HY.out
          rw [HRL.out]
          by_cases hneg : fr < 0
          · clear hfr
            go_wp2_with fail
            refine (dtells_any S _ d fr w8 (HDX.out.below HY.out)).mono ?_
            rintro e w9 ⟨rfl, hb9⟩
            rw [HTL.out]
            replace HY := hid (HY.out.trans (hb9.mono HY.out.size))
            clear hb9 z0 z1
            go_wp2_with fail
            go_ret
            exact ⟨rfl, HB.out.trans ((HXZ.out.trans (HY.out.mono HXZ.out.size)).mono HB.out.size)⟩
          · have hge : (na : Int) ≤ fr := hfr.resolve_left hneg
            clear hfr
            go_wp2_with fail
            refine (dtells_any S _ d fr w8 (HDX.out.below HY.out)).mono ?_
            rintro e w9 ⟨rfl, hb9⟩
            rw [HTL.out]
            replace HY := hid (HY.out.trans (hb9.mono HY.out.size))
            clear hb9 z0 z1
            go_wp2_with fail
            go_ret
            exact ⟨rfl, HB.out.trans ((HXZ.out.trans (HY.out.mono HXZ.out.size)).mono HB.out.size)⟩
        · obtain ⟨f, rfl⟩ : ∃ f : Nat, fr = f := ⟨fr.toNat, by omega⟩
          have hf : f < na := by omega
          have hf' : (f : Int) < (na : Int) := by omega
          clear hfr
          have HST := hid (show stateB d f = true by
            unfold stateB
            rw [← HNA.out, HR.out, decide_eq_true (by omega), decide_eq_true hf']; rfl)
          have HRL := hid (show a0 = runGo d.next f ms by rw [HA0.out]; unfold runL; rw [if_pos HST.out])
          have HTL := hid (show tellsL d f = nth d.tells f by unfold tellsL; rw [if_pos HST.out]; rfl)
          have HR0 := hid (show RunTo d f ms 0 f from ⟨rfl, fun m hm => by simp at hm⟩)
          obtain ⟨nb, no, nc', hne, hTN⟩ := tabN_of (show IsRows X S (.slice NA na nc) d.next from by
            obtain ⟨nv, tv, e, hn, -⟩ := HDX.out
            have := congrArg (fun v => match v with | Value.agg cs => cs.toList | _ => []) e
            simp at this
            rw [this.1]; exact hn) HR.out
          obtain ⟨rfl, rfl⟩ : NA = some ⟨nb, no, none⟩ ∧ nc = nc' := by
            rw [← HNA.out] at hne
            injection hne with e1 e2 e3
            exact ⟨e1, e3⟩
          have HTN := hid hTN
          clear hne hTN
          have hdf0 : decide ((f : Int) < 0) = false := decide_eq_false (by omega)
          have hdf1 : decide (na ≤ f) = false := decide_eq_false (by omega)
          go_wp2_with fail
          clear hdf0 hdf1
          go_loopw [13, 14] (fun s13 s14 wq => ∃ (i t : Nat), i ≤ ms.length ∧ t < na ∧ s14 = .int .i64 i ∧ s13 = .int .i64 t ∧ Hid (RunTo d f ms i t) ∧ Hid (Below w8.heap.size w8 wq)) (fun _ s14 _ => ms.length - (intOf s14).toNat)
          case atStart => exact ⟨0, f, by omega, hf, rfl, rfl, HR0, hid (Below.refl _ _)⟩
          case round =>
            clear HR0 c0 c1
            obtain ⟨j, t, hj, ht, rfl, rfl, HRU, HBQ⟩ := hrel
            have HYQ := hid (HY.out.trans (HBQ.out.mono HY.out.size))
            obtain ⟨c0, c1⟩ := HC.out _ (HXZ.out.trans (HYQ.out.mono HXZ.out.size))
            obtain ⟨z0, z1⟩ := HXC.out _ HYQ.out
            have ht' : (t : Int) < (na : Int) := by omega
            by_cases hlj : j < ms.length
            · obtain ⟨bm, om, cm, em, -, hbm, m0⟩ := (HMX.out.below HYQ.out).at hlj
              obtain ⟨rfl, rfl⟩ : MA = some ⟨bm, om, none⟩ ∧ mc = cm := by simpa using em
              obtain ⟨mk, hmk⟩ : ∃ mk, mk = nth ms j := ⟨_, rfl⟩
              have HMK := hid hmk
              rw [← hmk] at m0
              clear em hbm hmk
              by_cases hbad : mk < 0 ∨ 36 < mk
              · have HBD := hid (show a0 = -1 by rw [HRL.out]; exact HRU.out.bad hlj (by rw [← HMK.out]; exact hbad))
                rw [HBD.out]
                by_cases hmn : mk < 0
                · clear hbad
                  go_wp2_with fail
                  go_ret
                  exact ⟨rfl, HB.out.trans ((HXZ.out.trans (HYQ.out.mono HXZ.out.size)).mono HB.out.size)⟩
                · have hmb : 36 < mk := hbad.resolve_left hmn
                  clear hbad
                  go_wp2_with fail
                  go_ret
                  exact ⟨rfl, HB.out.trans ((HXZ.out.trans (HYQ.out.mono HXZ.out.size)).mono HB.out.size)⟩
              · have hm0 : 0 ≤ mk := by omega
                have hm36 : mk ≤ 36 := by omega
                clear hbad
                have HRN := hid (show RunTo d f ms (j + 1) (stp d.next t mk.toNat) from by
                  rw [HMK.out]
                  exact HRU.out.next HRT.out (by rw [← HNA.out]; exact ht) hlj (by rw [← HMK.out]; exact hm0) (by rw [← HMK.out]; omega))
                obtain ⟨m, rfl⟩ : ∃ m : Nat, mk = m := ⟨mk.toNat, by omega⟩
                obtain ⟨rb, ro, rc, hrow0, hrb, hrc⟩ := (HTN.out.below HYQ.out).rows t (by rw [← HNA.out]; exact ht)
                have hcz := hrc m (by omega)
                obtain ⟨hzn, e1⟩ := HRT.out.at (p := t) (by rw [← HNA.out]; exact ht) (show m < 37 by omega)
                rw [e1] at hcz
                rw [Int.toNat_natCast] at HRN
                obtain ⟨u, hu⟩ : ∃ u, u = stp d.next t m := ⟨_, rfl⟩
                rw [← hu, ← HNA.out] at hzn
                rw [← hu] at hcz HRN
                have hm37 : (m : Int) < 37 := by omega
                clear e1 hu hrb hrc
                go_wp2_with fail
                go_quiet (fail)
                go_wp2_with fail
                go_roundw
                case rel => exact ⟨j + 1, u, by omega, hzn, by go_num, rfl, HRN, hid (below_drewN HBQ.out _)⟩
                case measure => simp [intOf]; omega
            · obtain rfl : j = ms.length := by omega
              have HEQ := hid (show a0 = (t : Int) by rw [HRL.out]; have h := HRU.out.1; rw [List.take_length] at h; exact h)
              rw [HEQ.out]
              go_wp2_with fail
              clear hd20
              obtain ⟨tb, to', tc', hte, hTT⟩ : ∃ tb to' tc', Value.slice TA ta tc = .slice (some ⟨tb, to', none⟩) ta tc' ∧ (tb < X.heap.size ∧ X.cell? ⟨tb, to' + f, none⟩ = some (.int .u64 (nth d.tells f))) := by
                obtain ⟨nv, tv, e, -, ht⟩ := HDX.out
                have h1 := congrArg (fun v => match v with | Value.agg cs => cs.toList | _ => []) e
                simp at h1
                rw [← h1.2] at ht
                obtain ⟨b, o, c, e1, -, hb, hc⟩ := ht.at (j := f) (by rw [HT3.out, ← HNA.out]; exact hf)
                injection e1 with e1 e2 e3
                exact ⟨b, o, c, by rw [e1, e3], hb, hc⟩
              obtain ⟨rfl, rfl⟩ : TA = some ⟨tb, to', none⟩ ∧ tc = tc' := by
                injection hte with e1 e2 e3
                exact ⟨e1, e3⟩
              have hfl : (f : Int) < (ta : Int) := by rw [HTA.out, HT3.out, ← HNA.out]; exact hf'
              have ht0 := (HYQ.out.cell (p := ⟨tb, to' + f, none⟩) hTT.1).trans hTT.2
              have HTC := hid (show ∀ Y, Below X.heap.size X Y → Y.cell? ⟨q0, 0, none⟩ = some (.slice (some ⟨nb, no, none⟩) na nc) ∧ Y.cell? ⟨q0, 1, none⟩ = some (.slice (some ⟨tb, to', none⟩) ta tc) ∧ Y.cell? ⟨p, 0, none⟩ = some (.slice (some ⟨nb, no, none⟩) na nc) ∧ Y.cell? ⟨p, 1, none⟩ = some (.slice (some ⟨tb, to', none⟩) ta tc) ∧ Y.cell? ⟨tb, to' + f, none⟩ = some (.int .u64 (nth d.tells f)) from fun Y hY => by
                obtain ⟨a0, a1⟩ := HC.out _ (HXZ.out.trans (hY.mono HXZ.out.size))
                obtain ⟨b0, b1⟩ := HXC.out _ hY
                exact ⟨a0, a1, b0, b1, (hY.cell (p := ⟨tb, to' + f, none⟩) hTT.1).trans hTT.2⟩)
              clear hte hTT ht0 c0 c1 z0 z1
              have HZZ := HYQ
              go_region_held3 (fun Y => Y.cell? ⟨q0, 0, none⟩ = some (.slice (some ⟨nb, no, none⟩) na nc) ∧ Y.cell? ⟨q0, 1, none⟩ = some (.slice (some ⟨tb, to', none⟩) ta tc) ∧ Y.cell? ⟨p, 0, none⟩ = some (.slice (some ⟨nb, no, none⟩) na nc) ∧ Y.cell? ⟨p, 1, none⟩ = some (.slice (some ⟨tb, to', none⟩) ta tc) ∧ Y.cell? ⟨tb, to' + f, none⟩ = some (.int .u64 (nth d.tells f))) (first | exact HTC.out _ HZZ.out | exact HTC.out _ HZZ.out.drew)
                (first
                  | (go_at_call 34; refine (dtells_any S _ d f _ (by first | exact HDX.out.below HZZ.out | exact HDX.out.below HZZ.out.drew)).mono ?_; rintro e w9 ⟨rfl, hb9⟩; rw [HTL.out]; (first | (replace HZZ := hid (HZZ.out.trans (hb9.mono HZZ.out.size))) | (replace HZZ := hid (HZZ.out.drew.trans (hb9.mono HZZ.out.drew.size)))); clear hb9)
                  | fail)
              all_goals
                go_wp2_with fail
                go_ret
                exact ⟨rfl, HB.out.trans ((HXZ.out.trans (HZZ.out.mono HXZ.out.size)).mono HB.out.size)⟩
end Go.Proofs.Ythdhbkngbmjjkaa
