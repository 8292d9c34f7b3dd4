/- NfaBeside, walked. No conditions but what lies in memory. -/
import Derived.Test.YthdhbkngbmjjkaaG6
import Derived.Test.YthdhbkngbmjjkaaUs
import Derived.Deep.RegionHeld3
namespace Go.Proofs.Ythdhbkngbmjjkaa
open Go.RowKit
set_option linter.unusedSimpArgs false
theorem Laid3.app {w : World} {S : Nat → Prop} {d : Nat} {xs ys : List Value} {l m : List (Tr d)} (h : Laid3 w S d xs l) (h2 : Laid3 w S d ys m) : Laid3 w S d (xs ++ ys) (l ++ m) := by
  refine ⟨by rw [List.length_append, List.length_append, h.1, h2.1]; omega, fun k t ht => ?_⟩
  by_cases hk : k < l.length
  · rw [List.getElem?_append_left hk] at ht
    obtain ⟨v0, v1, v2, e0, e1, e2, hr⟩ := h.2 k t ht
    have hl := h.1
    exact ⟨v0, v1, v2, by rw [List.getElem?_append_left (by omega)]; exact e0, by rw [List.getElem?_append_left (by omega)]; exact e1, by rw [List.getElem?_append_left (by omega)]; exact e2, hr⟩
  · rw [List.getElem?_append_right (by omega)] at ht
    obtain ⟨v0, v1, v2, e0, e1, e2, hr⟩ := h2.2 (k - l.length) t ht
    have hl := h.1
    exact ⟨v0, v1, v2, by rw [List.getElem?_append_right (by omega), hl, show k * 3 - l.length * 3 = (k - l.length) * 3 by omega]; exact e0, by rw [List.getElem?_append_right (by omega), hl, show k * 3 + 1 - l.length * 3 = (k - l.length) * 3 + 1 by omega]; exact e1,
      by rw [List.getElem?_append_right (by omega), hl, show k * 3 + 2 - l.length * 3 = (k - l.length) * 3 + 2 by omega]; exact e2, hr⟩
theorem Laid3.ones {w : World} {S : Nat → Prop} {d : Nat} {xs : List Value} {l : List (Tr d)} (h : Laid3 w S d xs l) : ∀ u ∈ xs, u.oneCell' = true := fun u hu => by
  obtain ⟨j, hj, e⟩ := List.mem_iff_getElem.1 hu
  have hl := h.1
  obtain ⟨v0, v1, v2, e0, e1, e2, hr⟩ := h.2 (j / 3) l[j / 3] (List.getElem?_eq_getElem (by omega))
  have h1 := one3 hr
  have e' : xs[j]? = some u := by rw [List.getElem?_eq_getElem hj, e]
  have hc : j = j / 3 * 3 ∨ j = j / 3 * 3 + 1 ∨ j = j / 3 * 3 + 2 := by omega
  rcases hc with hc | hc | hc
  · rw [hc, e0] at e'; injection e' with e'; exact h1 u (by rw [← e']; simp)
  · rw [hc, e1] at e'; injection e' with e'; exact h1 u (by rw [← e']; simp)
  · rw [hc, e2] at e'; injection e' with e'; exact h1 u (by rw [← e']; simp)
/-- 'append(l, m...)' of trees of one's own. -/
theorem wp_app_trs {w : World} {d : Nat} {o : Oper} {a : Act} {Kn : Act → World → Prop} {Q : Exit → Act → World → Prop} (s x : Operand) (hop : o.op = .call { callee := .builtin .append, args := #[s, x], argTypes := #[30, 30] }) {B B2 : Nat} {v : Value} {l m : List (Tr d)} {A : Option Addr} {c : Nat}
    (hs : a.eval s = v) (h : BTr w B d v l) (hx : a.eval x = .slice A m.length c) (h2 : BTr w B2 d (.slice A m.length c) m) (hv : ∀ k, v.ownBlock = some k → k < B2) (hB2 : B ≤ B2) (hl : l.length + m.length ≤ 1000000) (hB : B ≤ w.heap.size)
    (hk : ∀ v' w', BTr w' B d v' (l ++ m) → Below B w w' → Kn (a.put o.dst v') w') : Oper.wp Try.prog o a w Kn Q := by
  obtain ⟨i0, hi0, hz0, hz1, hz2⟩ := info_parts info45
  obtain ⟨xs, ho, hlx⟩ := h
  obtain ⟨ys, ho2, hly⟩ := h2
  obtain ⟨A', c', e, -, -, hA⟩ := own_arr ho2
  obtain ⟨rfl, rfl⟩ : A = A' ∧ c = c' := by injection e with e1 e2 e3; exact ⟨e1, e3⟩
  refine wp_app w s x 30 hop B 52 i0 _ 3 40 Try.underlying30 hi0 hz0 hz1 hz2 (by rfl) (by omega) v l.length xs hs ho A m.length c ys hx (hA.src hly.1 (by omega)) hly.ones (by unfold maxLen; omega) (by omega) hB ?_
  intro v' w' ho' hg hv'
  refine hk v' w' ⟨xs ++ ys, by rw [List.length_append]; exact ho', ?_⟩ (below_own (Below.refl _ _) ho hg hB)
  have h3 := Laid3.app hlx (hly.imp (w' := w) (S' := fun b => B ≤ b ∧ v.ownBlock ≠ some b) (fun _ _ _ => rfl) fun b hb _ => ⟨Nat.le_trans hB2 hb.1, fun e => by have := hv b e; omega⟩)
  refine h3.imp (fun b hb hlt => hg.block b hlt fun e => hb.2 e.symm) fun b hb hlt => ⟨hb.1, fun e => ?_⟩
  rcases hv' with hv' | hv'
  · rw [hv'] at e; exact hb.2 e
  · rw [hv'] at e; injection e with e; omega
theorem wpList_app_trs {w : World} {d : Nat} {ops : Array Oper} {rest : List Oper} {o : Oper} {a : Act} {Q : Exit → Act → World → Prop} (hgd : o.guard = none) (s x : Operand) (hop : o.op = .call { callee := .builtin .append, args := #[s, x], argTypes := #[30, 30] }) {B B2 : Nat} {v : Value} {l m : List (Tr d)} {A : Option Addr} {c : Nat}
    (hs : a.eval s = v) (h : BTr w B d v l) (hx : a.eval x = .slice A m.length c) (h2 : BTr w B2 d (.slice A m.length c) m) (hv : ∀ k, v.ownBlock = some k → k < B2) (hB2 : B ≤ B2) (hl : l.length + m.length ≤ 1000000) (hB : B ≤ w.heap.size)
    (hk : ∀ v' w', BTr w' B d v' (l ++ m) → Below B w w' → wpList Try.prog ops Q rest (a.put o.dst v') w') : wpList Try.prog ops Q (o :: rest) a w :=
  wpList_plain hgd fun _ hK => wp_app_trs s x hop hs h hx h2 hv hB2 hl hB fun v' w' h3 h4 => hK _ _ (hk v' w' h3 h4)
theorem cntE_app {d : Nat} (l m : List (Tr d)) : cntE d (l ++ m) = cntE d l + cntE d m := by
  have : ∀ l : List (Tr d), cntL (fun t => cnt d t) (l ++ m) = cntL (fun t => cnt d t) l + cntL (fun t => cnt d t) m := fun l => by
    induction l with
    | nil => simp [cntL]
    | cons k r ih => simp only [List.cons_append, cntL]; rw [ih]; omega
  exact this l
theorem rightE_app {d : Nat} (l m : List (Tr d)) : rightE d (l ++ m) = (rightE d l && rightE d m) := List.all_append
theorem cntE_len {d : Nat} (l : List (Tr d)) : l.length ≤ cntE d l := cntL_len (fun x => cnt_pos d x) l
theorem shl_tells {ty k n : Nat} (h : ty < 2 ^ n) (hk : k + n ≤ 40) : IntKind.u64.wrap ((ty : Int) * 2 ^ k) = ((ty <<< k : Nat) : Int) ∧ ty <<< k < 2 ^ 64 := by
  have h2 : ty * 2 ^ k < 2 ^ 64 := Nat.lt_of_lt_of_le (Nat.mul_lt_mul_of_pos_right h (Nat.pow_pos (by decide))) (by rw [← Nat.pow_add]; exact Nat.pow_le_pow_right (by decide) (by omega))
  rw [Nat.shiftLeft_eq]
  refine ⟨?_, h2⟩
  have e : ((ty * 2 ^ k : Nat) : Int) = (ty : Int) * 2 ^ k := by simp
  rw [← e]
  generalize ty * 2 ^ k = c at *
  simp [IntKind.wrap, IntKind.bits, IntKind.signed]
  omega
set_option maxRecDepth 100000 in
set_option maxHeartbeats 8000000 in
theorem beside_walk (search : Bool) (S : Nat → Prop) (d : Nat) (A1 A2 : Option Addr) (c1 c2 : Nat) (l m : List (Tr d)) (vm : Value) (ms : List Int) (w : World) (h1 : Row3 (IsTr w S d) w S A1 l) (h2 : Row3 (IsTr w S d) w S A2 m) (hl1 : l.length ≤ 9223372036854775807) (hl2 : m.length ≤ 9223372036854775807)
    (hm : IsNums .i64 w S vm ms) :
    Calls Try.prog 7 #[.bool search, .slice A1 l.length c1, .slice A2 m.length c2, vm] w fun e w' => e = .returned (.bool true) ∧ Below w.heap.size w w' := by
  have H1 := hid h1
  have H2 := hid h2
  have HM := hid hm
  obtain ⟨A3, c3, rfl⟩ := hm.form
  have hlm := hm.le
  clear h1 h2 hm
  by_cases hg : 80 < cntE d l
  · have HG1 := hid (decide_eq_true hg)
    clear hg
    go_enter Try.func7, Try.ntmps7
    go_wp2_with fail
    refine (great_any S d A1 c1 l w H1.out hl1).mono ?_
    rintro e w1 ⟨rfl, hb⟩
    rw [HG1.out]
    have HB1 := hid (hb)
    clear hb
    go_wp2_with fail
    refine (awake_any w1).mono ?_
    rintro e w2 ⟨rfl, hb⟩
    have HB2 := hid (ends_true HB1.out hb)
    clear hb
    go_wp2_with fail
    go_ret
    exact ⟨rfl, HB2.out⟩
  have HG1 := hid (decide_eq_false hg)
  have HC1 := hid (Nat.le_of_not_lt hg)
  have hl80 : l.length ≤ 80 := Nat.le_trans (cntE_len l) HC1.out
  clear hg
  by_cases hg : 80 < cntE d m
  · have HG2 := hid (decide_eq_true hg)
    clear hg
    go_enter Try.func7, Try.ntmps7
    go_wp2_with fail
    refine (great_any S d A1 c1 l w H1.out hl1).mono ?_
    rintro e w1 ⟨rfl, hb⟩
    rw [HG1.out]
    have HB1 := hid (hb)
    clear hb
    go_wp2_with fail
    refine (great_any S d A2 c2 m w1 (H2.out.below HB1.out) hl2).mono ?_
    rintro e w2 ⟨rfl, hb⟩
    rw [HG2.out]
    have HB2 := hid (ends_true HB1.out hb)
    clear hb
    go_wp2_with fail
    refine (awake_any w2).mono ?_
    rintro e w3 ⟨rfl, hb⟩
    have HB3 := hid (ends_true HB2.out hb)
    clear hb
    go_wp2_with fail
    go_ret
    exact ⟨rfl, HB3.out⟩
  have HG2 := hid (decide_eq_false hg)
  have HC2 := hid (Nat.le_of_not_lt hg)
  have hm80 : m.length ≤ 80 := Nat.le_trans (cntE_len m) HC2.out
  clear hg
  by_cases h40 : 40 < l.length + m.length
  · have b40 : (40 : Int) < (l.length : Int) + (m.length : Int) := by omega
    go_enter Try.func7, Try.ntmps7
    go_wp2_with fail
    refine (great_any S d A1 c1 l w H1.out hl1).mono ?_
    rintro e w1 ⟨rfl, hb⟩
    rw [HG1.out]
    have HB1 := hid (hb)
    clear hb
    go_wp2_with fail
    refine (great_any S d A2 c2 m w1 (H2.out.below HB1.out) hl2).mono ?_
    rintro e w2 ⟨rfl, hb⟩
    rw [HG2.out]
    have HB2 := hid (ends_true HB1.out hb)
    clear hb
    go_wp2_with fail
    refine (awake_any w2).mono ?_
    rintro e w3 ⟨rfl, hb⟩
    have HB3 := hid (ends_true HB2.out hb)
    clear hb
    go_wp2_with fail
    go_ret
    exact ⟨rfl, HB3.out⟩
  have b40 : ¬ (40 : Int) < (l.length : Int) + (m.length : Int) := by omega
  by_cases h12 : 12 < ms.length
  · go_enter Try.func7, Try.ntmps7
    go_wp2_with fail
    refine (great_any S d A1 c1 l w H1.out hl1).mono ?_
    rintro e w1 ⟨rfl, hb⟩
    rw [HG1.out]
    have HB1 := hid (hb)
    clear hb
    go_wp2_with fail
    refine (great_any S d A2 c2 m w1 (H2.out.below HB1.out) hl2).mono ?_
    rintro e w2 ⟨rfl, hb⟩
    rw [HG2.out]
    have HB2 := hid (ends_true HB1.out hb)
    clear hb
    go_wp2_with fail
    refine (awake_any w2).mono ?_
    rintro e w3 ⟨rfl, hb⟩
    have HB3 := hid (ends_true HB2.out hb)
    clear hb
    go_wp2_with fail
    go_ret
    exact ⟨rfl, HB3.out⟩
  have HL40 := hid (show l.length ≤ 40 by omega)
  have HM40 := hid (show m.length ≤ 40 by omega)
  have d1 : decide (l.length ≤ 40) = true := decide_eq_true HL40.out
  have d2 : decide (m.length ≤ 40) = true := decide_eq_true HM40.out
  by_cases hr1 : rightE d l = true
  · have HR1 := hid (show (rightE d l && decide (l.length ≤ 40)) = true by rw [hr1, d1]; rfl)
    have HE1 := hid hr1
    clear hr1
    by_cases hr2 : rightE d m = true
    · have HR2 := hid (show (rightE d m && decide (m.length ≤ 40)) = true by rw [hr2, d2]; rfl)
      have HE2 := hid hr2
      clear hr2 d1 d2
      go_enter Try.func7, Try.ntmps7
      go_wp2_with fail
      refine (great_any S d A1 c1 l w H1.out hl1).mono ?_
      rintro e w1 ⟨rfl, hb⟩
      rw [HG1.out]
      have HB1 := hid (hb)
      clear hb
      go_wp2_with fail
      refine (great_any S d A2 c2 m w1 (H2.out.below HB1.out) hl2).mono ?_
      rintro e w2 ⟨rfl, hb⟩
      rw [HG2.out]
      have HB2 := hid (ends_true HB1.out hb)
      clear hb
      go_wp2_with fail
      refine (awake_any w2).mono ?_
      rintro e w3 ⟨rfl, hb⟩
      have HB3 := hid (ends_true HB2.out hb)
      clear hb
      go_wp2_with fail
      refine (rights_any S d A1 c1 l w3 (H1.out.below HB3.out) hl1 HC1.out).mono ?_
      rintro e w4 ⟨rfl, hb⟩
      rw [HR1.out]
      have HB4 := hid (ends_true HB3.out hb)
      clear hb
      go_wp2_with fail
      refine (rights_any S d A2 c2 m w4 (H2.out.below HB4.out) hl2 HC2.out).mono ?_
      rintro e w5 ⟨rfl, hb⟩
      rw [HR2.out]
      have HB5 := hid (ends_true HB4.out hb)
      clear hb
      go_wp2_with fail
      have HFL := hid (show Fine l from ⟨Nat.le_trans HC1.out (by decide), HE1.out, HL40.out⟩)
      have HFM := hid (show Fine m from ⟨Nat.le_trans HC2.out (by decide), HE2.out, HM40.out⟩)
      have HFC := hid (show Fine (l ++ m) from ⟨by rw [cntE_app]; have := HC1.out; have := HC2.out; omega, by rw [rightE_app, HE1.out, HE2.out]; rfl, by rw [List.length_append]; omega⟩)
      have HT1 := hid (show cntL (fun t => cnt d t) l ≤ 2000 by have := HC1.out; unfold cntE at this; omega)
      have HT2 := hid (show cntL (fun t => cnt d t) m ≤ 2000 by have := HC2.out; unfold cntE at this; omega)
      clear HG1 HG2 HR1 HR2 HB1 HB2 HB3 HB4
      refine (tos_any S d A1 c1 l w5 (H1.out.below HB5.out) HT1.out).mono ?_
      rintro e w6 ⟨v6, rfl, hb, ht⟩
      obtain ⟨A6, c6, rfl, -, -, hrow⟩ := ht.row
      have HR6 := hid hrow
      have HB6 := hid (ends_true HB5.out hb)
      clear hb ht hrow
      go_wp2_with fail
      refine (new_right d A6 c6 l search w6 HR6.out HFL.out.cnt HFL.out.right HFL.out.few).mono ?_
      rintro e w7 ⟨ga, rfl, hnf, hb⟩
      have HNA := hid hnf
      have HB7 := hid (ends_true HB6.out hb)
      clear hb hnf HR6
      go_wp2_with fail
      refine (tos_any S d A2 c2 m w7 (H2.out.below HB7.out) HT2.out).mono ?_
      rintro e w8 ⟨v8, rfl, hb, ht⟩
      obtain ⟨A8, c8, rfl, -, -, hrow⟩ := ht.row
      have HR8 := hid hrow
      have HNA8 := hid (HNA.out.below hb)
      have HB8 := hid (ends_true HB7.out hb)
      clear hb ht hrow HNA
      go_wp2_with fail
      refine (new_right d A8 c8 m search w8 HR8.out HFM.out.cnt HFM.out.right HFM.out.few).mono ?_
      rintro e w9 ⟨gb, rfl, hnf, hb⟩
      have HNB := hid hnf
      have HNA9 := hid (HNA8.out.below hb)
      have HB9 := hid (ends_true HB8.out hb)
      clear hb hnf HR8 HNA8
      go_wp2_with fail
      refine (tos_any S d A1 c1 l w9 (H1.out.below HB9.out) HT1.out).mono ?_
      rintro e wa ⟨va, rfl, hb, ht⟩
      have HTA := hid ht
      have HSA := hid (show w9.heap.size ≤ wa.heap.size from hb.size)
      have HNAa := hid (HNA9.out.below hb)
      have HNBa := hid (HNB.out.below hb)
      have HBa := hid (ends_true HB9.out hb)
      have HB9a := hid hb
      clear hb ht HNAa HNBa
      go_wp2_with fail
      refine (tos_any S d A2 c2 m wa (H2.out.below HBa.out) HT2.out).mono ?_
      rintro e wb ⟨vb, rfl, hb, ht⟩
      obtain ⟨Ab, cb, rfl, -, -, -⟩ := ht.row
      have HTB := hid ht
      have HTA2 := hid (HTA.out.below hb)
      have HVA := hid (show ∀ k, va.ownBlock = some k → k < wa.heap.size from fun k hk => (HTA.out.lt k hk).2)
      have HSB := hid (show w9.heap.size ≤ wb.heap.size from Nat.le_trans HSA.out hb.size)
      have HB9b := hid (HB9a.out.trans (hb.mono HSA.out))
      have HLM := hid (show l.length + m.length ≤ 1000000 by omega)
      clear hb ht HTA HB9a
      go_wp2_with (first
        | (at_builtin; refine wpList_app_trs rfl (.tmp 68) (.tmp 70) rfl (v := va) rfl HTA2.out rfl HTB.out HVA.out HSA.out HLM.out HSB.out ?_; intro vc wc htc hbc; obtain ⟨Ac, cc, ec, -, -, hrc⟩ := htc.row; obtain ⟨lm, hlm⟩ : ∃ lm, lm = l ++ m := ⟨_, rfl⟩; rw [← hlm] at ec hrc; subst ec; have HLMe := hid hlm; have HRC := hid hrc; have HB9c := hid (HB9b.out.trans hbc); clear hrc htc hbc hlm)
        | fail)
      have HFC2 := hid (show Fine lm by rw [HLMe.out]; exact HFC.out)
      have HBc := hid (ends_true HB9.out HB9c.out)
      have HNAc := hid (HNA9.out.below HB9c.out)
      have HNBc := hid (HNB.out.below HB9c.out)
      clear HNA9 HNB HTB HTA2 HVA HSA HSB HB9b HB9c HBa HB9 HB8 HB7 HB6 HB5
      refine (new_right d Ac cc lm search wc HRC.out HFC2.out.cnt HFC2.out.right HFC2.out.few).mono ?_
      rintro e wd ⟨gc, rfl, hnf, hb⟩
      have HNCd := hid hnf
      have HNAd := hid (HNAc.out.below hb)
      have HNBd := hid (HNBc.out.below hb)
      have HBd := hid (ends_true HBc.out hb)
      clear hb hnf HRC HNAc HNBc HBc
      go_wp2_with fail
      refine (begin_any ga wd).mono ?_
      rintro e we ⟨vx, rfl, hv, hb⟩
      have HX := hid hv
      have HNAe := hid (HNAd.out.below hb)
      have HNBe := hid (HNBd.out.below hb)
      have HNCe := hid (HNCd.out.below hb)
      have HBe := hid (ends_true HBd.out hb)
      clear hb hv HNAd HNBd HNCd HBd
      go_wp2_with fail
      refine (begin_any gb we).mono ?_
      rintro e wf ⟨vy, rfl, hv, hb⟩
      have HY := hid hv
      have HXf := hid (HX.out.below hb)
      have HNAf := hid (HNAe.out.below hb)
      have HNBf := hid (HNBe.out.below hb)
      have HNCf := hid (HNCe.out.below hb)
      have HBf := hid (ends_true HBe.out hb)
      clear hb hv HNAe HNBe HNCe HBe HX
      go_wp2_with fail
      refine (begin_any gc wf).mono ?_
      rintro e wg ⟨vz, rfl, hv, hb⟩
      have HZg := hid (hv.mono (S' := Any) fun _ _ _ => trivial)
      have HXg := hid ((HXf.out.below hb).mono (S' := Any) fun _ _ _ => trivial)
      have HYg := hid ((HY.out.below hb).mono (S' := Any) fun _ _ _ => trivial)
      have HNAg := hid (HNAf.out.below hb)
      have HNBg := hid (HNBf.out.below hb)
      have HNCg := hid (HNCf.out.below hb)
      have HBg := hid (ends_true HBf.out hb)
      clear hb hv HNAf HNBf HNCf HBf HXf HY
      obtain ⟨n1, hn1⟩ : ∃ n1, n1 = sumL (fun t => leavesT d t) l := ⟨_, rfl⟩
      have HN1 := hid hn1
      clear hn1
      go_wp2_with fail
      have i64z : ∀ z ∈ ([0] : List Int), i64ok z := fun z hz => by rw [List.mem_singleton.1 hz]; exact i64_small (by omega)
      go_loopw [15, 16, 17, 18] (fun s15 s16 s17 s18 wr => ∃ (i : Nat) (vx vy vz : Value) (X Y Z : List Int), i ≤ ms.length ∧ s18 = .int .i64 i ∧ s15 = vx ∧ s16 = vy ∧ s17 = vz ∧ Hid (IsNums .i64 wr Any vx X) ∧ Hid (IsNums .i64 wr Any vy Y) ∧ Hid (IsNums .i64 wr Any vz Z) ∧ Hid (Beside n1 X Y Z) ∧
        Hid (((∀ z ∈ X, i64ok z) ∧ X.length ≤ 10000) ∧ ((∀ z ∈ Y, i64ok z) ∧ Y.length ≤ 10000) ∧ (∀ z ∈ Z, i64ok z) ∧ Z.length ≤ 10000) ∧ Hid (Below wg.heap.size wg wr)) (fun _ _ _ s18 _ => ms.length - (intOf s18).toNat)
      case atStart => exact ⟨0, _, _, _, [0], [0], [0], by omega, rfl, rfl, rfl, rfl, HXg, HYg, HZg, hid ⟨by simp, by simp, fun p h0 _ => by simp, fun p h0 => by simp; omega⟩, hid ⟨⟨i64z, by decide⟩, ⟨i64z, by decide⟩, i64z, by decide⟩, hid (Below.refl _ _)⟩
      case round =>
        obtain ⟨i, vx, vy, vz, X, Y, Z, hi, rfl, ex, ey, ez, HX, HY, HZ, HBS, HOK, HBr⟩ := hrel
        subst ex ey ez
        have HNAr := hid (HNAg.out.below HBr.out)
        have HNBr := hid (HNBg.out.below HBr.out)
        have HNCr := hid (HNCg.out.below HBr.out)
        by_cases hlt : i < ms.length
        · obtain ⟨bm, om, cm', em, -, hbm, m0⟩ := (HM.out.below (ends_true HBg.out HBr.out)).at hlt
          obtain rfl : A3 = some ⟨bm, om, none⟩ := by injection em
          clear em
          obtain ⟨mk, hmk⟩ : ∃ mk, mk = nth ms i := ⟨_, rfl⟩
          rw [← hmk] at m0
          have HMK := hid hmk
          clear hmk
          have D0 : Below wr.heap.size wr wr.drew := (Below.refl _ _).drew
          have HD0 := hid D0
          have HNAd := hid (HNAr.out.below D0)
          have HXd := hid (HX.out.below D0)
          have HM0 := hid m0
          have HBM := hid hbm
          have HGL := hid HFL.out.good
          have HGM := hid HFM.out.good
          have HGC := hid HFC2.out.good
          clear D0 hbm
          go_wp2_with fail
          refine wp_region_held_drew (S := (fun Y => Y.cell? ⟨bm, om + i, none⟩ = some (.int .i64 mk))) (by kernel_rfl) (by exact HM0.out) (fun hHeld => ?_)
          refine wpAnyH_take (i := 0) (oi := { dst := some 87, op := Op.move (Operand.tmp 9), type := _, pos := _, after := _, guard := none }) (v := ?_) rfl (by kernel_rfl) (by kernel_rfl) (by kernel_rfl) (fun _ _ _ h => h) (Or.inl ⟨by rfl, ?_⟩) (by assumption) ?_
          rotate_left
          · intro w hSw; (try dsimp only at hSw); go_simp; try with_reducible rfl
          try simp only [Act.put, List.setIfInBounds_toArray, List.set_cons_zero, List.set_cons_succ]
          refine wpAnyH_take (i := 1) (oi := { dst := some 88, op := Op.move (Operand.tmp 15), type := _, pos := _, after := _, guard := none }) (v := ?_) rfl (by kernel_rfl) (by kernel_rfl) (by kernel_rfl) (fun _ _ _ h => h) (Or.inl ⟨by rfl, ?_⟩) (by assumption) ?_
          rotate_left
          · intro w hSw; (try dsimp only at hSw); go_simp; try with_reducible rfl
          try simp only [Act.put, List.setIfInBounds_toArray, List.set_cons_zero, List.set_cons_succ]
          refine wpAnyH_take (i := 2) (oi := { dst := some 89, op := Op.move (Operand.tmp 3), type := _, pos := _, after := _, guard := none }) (v := ?_) rfl (by kernel_rfl) (by kernel_rfl) (by kernel_rfl) (fun _ _ _ h => h) (Or.inl ⟨by rfl, ?_⟩) (by assumption) ?_
          rotate_left
          · intro w hSw; (try dsimp only at hSw); go_simp; try with_reducible rfl
          try simp only [Act.put, List.setIfInBounds_toArray, List.set_cons_zero, List.set_cons_succ]
          refine wpAnyH_take (i := 3) (oi := { dst := some 90, op := Op.move (Operand.tmp 18), type := _, pos := _, after := _, guard := none }) (v := ?_) rfl (by kernel_rfl) (by kernel_rfl) (by kernel_rfl) (fun _ _ _ h => h) (Or.inl ⟨by rfl, ?_⟩) (by assumption) ?_
          rotate_left
          · intro w hSw; (try dsimp only at hSw); go_simp; try with_reducible rfl
          try simp only [Act.put, List.setIfInBounds_toArray, List.set_cons_zero, List.set_cons_succ]
          refine wpAnyH_take (i := 4) (oi := { dst := some 91, op := Op.indexAddr 23 (Operand.tmp 89) (Operand.tmp 90), type := _, pos := _, after := _, guard := none }) (v := ?_) rfl (by kernel_rfl) (by kernel_rfl) (by kernel_rfl) (fun _ _ _ h => h) (Or.inl ⟨by rfl, ?_⟩) (by assumption) ?_
          rotate_left
          · intro w hSw; (try dsimp only at hSw); go_simp; try with_reducible rfl
          try simp only [Act.put, List.setIfInBounds_toArray, List.set_cons_zero, List.set_cons_succ]
          refine wpAnyH_take (i := 5) (oi := { dst := some 92, op := Op.load 3 (Operand.tmp 91), type := _, pos := _, after := _, guard := none }) (v := ?_) rfl (by kernel_rfl) (by kernel_rfl) (by kernel_rfl) (fun _ _ _ h => h) (Or.inl ⟨by rfl, ?_⟩) (by assumption) ?_
          rotate_left
          · intro w hSw; (try dsimp only at hSw); go_simp; try with_reducible rfl
          try simp only [Act.put, List.setIfInBounds_toArray, List.set_cons_zero, List.set_cons_succ]
          refine wpAnyH_take (i := 7) (oi := { dst := some 94, op := Op.move (Operand.tmp 11), type := _, pos := _, after := _, guard := none }) (v := ?_) rfl (by kernel_rfl) (by kernel_rfl) (by kernel_rfl) (fun _ _ _ h => h) (Or.inl ⟨by rfl, ?_⟩) (by assumption) ?_
          rotate_left
          · intro w hSw; (try dsimp only at hSw); go_simp; try with_reducible rfl
          try simp only [Act.put, List.setIfInBounds_toArray, List.set_cons_zero, List.set_cons_succ]
          refine wpAnyH_take (i := 8) (oi := { dst := some 95, op := Op.move (Operand.tmp 16), type := _, pos := _, after := _, guard := none }) (v := ?_) rfl (by kernel_rfl) (by kernel_rfl) (by kernel_rfl) (fun _ _ _ h => h) (Or.inl ⟨by rfl, ?_⟩) (by assumption) ?_
          rotate_left
          · intro w hSw; (try dsimp only at hSw); go_simp; try with_reducible rfl
          try simp only [Act.put, List.setIfInBounds_toArray, List.set_cons_zero, List.set_cons_succ]
          refine wpAnyH_take (i := 9) (oi := { dst := some 96, op := Op.move (Operand.tmp 3), type := _, pos := _, after := _, guard := none }) (v := ?_) rfl (by kernel_rfl) (by kernel_rfl) (by kernel_rfl) (fun _ _ _ h => h) (Or.inl ⟨by rfl, ?_⟩) (by assumption) ?_
          rotate_left
          · intro w hSw; (try dsimp only at hSw); go_simp; try with_reducible rfl
          try simp only [Act.put, List.setIfInBounds_toArray, List.set_cons_zero, List.set_cons_succ]
          refine wpAnyH_take (i := 10) (oi := { dst := some 97, op := Op.move (Operand.tmp 18), type := _, pos := _, after := _, guard := none }) (v := ?_) rfl (by kernel_rfl) (by kernel_rfl) (by kernel_rfl) (fun _ _ _ h => h) (Or.inl ⟨by rfl, ?_⟩) (by assumption) ?_
          rotate_left
          · intro w hSw; (try dsimp only at hSw); go_simp; try with_reducible rfl
          try simp only [Act.put, List.setIfInBounds_toArray, List.set_cons_zero, List.set_cons_succ]
          refine wpAnyH_take (i := 11) (oi := { dst := some 98, op := Op.indexAddr 23 (Operand.tmp 96) (Operand.tmp 97), type := _, pos := _, after := _, guard := none }) (v := ?_) rfl (by kernel_rfl) (by kernel_rfl) (by kernel_rfl) (fun _ _ _ h => h) (Or.inl ⟨by rfl, ?_⟩) (by assumption) ?_
          rotate_left
          · intro w hSw; (try dsimp only at hSw); go_simp; try with_reducible rfl
          try simp only [Act.put, List.setIfInBounds_toArray, List.set_cons_zero, List.set_cons_succ]
          refine wpAnyH_take (i := 12) (oi := { dst := some 99, op := Op.load 3 (Operand.tmp 98), type := _, pos := _, after := _, guard := none }) (v := ?_) rfl (by kernel_rfl) (by kernel_rfl) (by kernel_rfl) (fun _ _ _ h => h) (Or.inl ⟨by rfl, ?_⟩) (by assumption) ?_
          rotate_left
          · intro w hSw; (try dsimp only at hSw); go_simp; try with_reducible rfl
          try simp only [Act.put, List.setIfInBounds_toArray, List.set_cons_zero, List.set_cons_succ]
          refine wpAnyH_take (i := 14) (oi := { dst := some 101, op := Op.move (Operand.tmp 13), type := _, pos := _, after := _, guard := none }) (v := ?_) rfl (by kernel_rfl) (by kernel_rfl) (by kernel_rfl) (fun _ _ _ h => h) (Or.inl ⟨by rfl, ?_⟩) (by assumption) ?_
          rotate_left
          · intro w hSw; (try dsimp only at hSw); go_simp; try with_reducible rfl
          try simp only [Act.put, List.setIfInBounds_toArray, List.set_cons_zero, List.set_cons_succ]
          refine wpAnyH_take (i := 15) (oi := { dst := some 102, op := Op.move (Operand.tmp 17), type := _, pos := _, after := _, guard := none }) (v := ?_) rfl (by kernel_rfl) (by kernel_rfl) (by kernel_rfl) (fun _ _ _ h => h) (Or.inl ⟨by rfl, ?_⟩) (by assumption) ?_
          rotate_left
          · intro w hSw; (try dsimp only at hSw); go_simp; try with_reducible rfl
          try simp only [Act.put, List.setIfInBounds_toArray, List.set_cons_zero, List.set_cons_succ]
          refine wpAnyH_take (i := 16) (oi := { dst := some 103, op := Op.move (Operand.tmp 3), type := _, pos := _, after := _, guard := none }) (v := ?_) rfl (by kernel_rfl) (by kernel_rfl) (by kernel_rfl) (fun _ _ _ h => h) (Or.inl ⟨by rfl, ?_⟩) (by assumption) ?_
          rotate_left
          · intro w hSw; (try dsimp only at hSw); go_simp; try with_reducible rfl
          try simp only [Act.put, List.setIfInBounds_toArray, List.set_cons_zero, List.set_cons_succ]
          refine wpAnyH_take (i := 17) (oi := { dst := some 104, op := Op.move (Operand.tmp 18), type := _, pos := _, after := _, guard := none }) (v := ?_) rfl (by kernel_rfl) (by kernel_rfl) (by kernel_rfl) (fun _ _ _ h => h) (Or.inl ⟨by rfl, ?_⟩) (by assumption) ?_
          rotate_left
          · intro w hSw; (try dsimp only at hSw); go_simp; try with_reducible rfl
          try simp only [Act.put, List.setIfInBounds_toArray, List.set_cons_zero, List.set_cons_succ]
          refine wpAnyH_take (i := 18) (oi := { dst := some 105, op := Op.indexAddr 23 (Operand.tmp 103) (Operand.tmp 104), type := _, pos := _, after := _, guard := none }) (v := ?_) rfl (by kernel_rfl) (by kernel_rfl) (by kernel_rfl) (fun _ _ _ h => h) (Or.inl ⟨by rfl, ?_⟩) (by assumption) ?_
          rotate_left
          · intro w hSw; (try dsimp only at hSw); go_simp; try with_reducible rfl
          try simp only [Act.put, List.setIfInBounds_toArray, List.set_cons_zero, List.set_cons_succ]
          refine wpAnyH_take (i := 19) (oi := { dst := some 106, op := Op.load 3 (Operand.tmp 105), type := _, pos := _, after := _, guard := none }) (v := ?_) rfl (by kernel_rfl) (by kernel_rfl) (by kernel_rfl) (fun _ _ _ h => h) (Or.inl ⟨by rfl, ?_⟩) (by assumption) ?_
          rotate_left
          · intro w hSw; (try dsimp only at hSw); go_simp; try with_reducible rfl
          try simp only [Act.put, List.setIfInBounds_toArray, List.set_cons_zero, List.set_cons_succ]
          refine wpAnyH_ready (rs := [6]) (by kernel_rfl) (by simp) ?_
          refine AllReadyH.cons (o := { dst := some 93, op := Op.call { callee := Callee.value (Operand.func 24), args := #[Operand.tmp 87, Operand.tmp 88, Operand.tmp 92], argTypes := #[26, 23, 3] }, type := _, pos := _, after := _, guard := none }) rfl (fun K hK => ?_) AllReadyH.nil
          go_simp
          refine (gstep_any ga search (builtB l) _ _ X mk wr.drew HNAd.out HGL.out HXd.out HOK.out.1.1 HOK.out.1.2).mono ?_; rintro e w1 ⟨v1, rfl, hv1, hb1⟩; have HX1 := hid (hv1.mono (S' := Any) fun _ _ _ => trivial); have HW1 := hid (ends_true HD0.out hb1); have HNB1 := hid (HNBr.out.below HW1.out); have HY1 := hid (HY.out.below HW1.out); have HC1' := hid ((HW1.out.cell (p := ⟨bm, om + i, none⟩) HBM.out).trans HM0.out); clear hv1 hb1; go_wp2_with fail
          refine hK.out _ _ (by exact HC1'.out) (fun hHeld => ?_)
          clear hK K
          try simp only [Act.put, List.setIfInBounds_toArray, List.set_cons_zero, List.set_cons_succ]
          refine wpAnyH_ready (rs := [13]) (by kernel_rfl) (by simp) ?_
          refine AllReadyH.cons (o := { dst := some 100, op := Op.call { callee := Callee.value (Operand.func 24), args := #[Operand.tmp 94, Operand.tmp 95, Operand.tmp 99], argTypes := #[26, 23, 3] }, type := _, pos := _, after := _, guard := none }) rfl (fun K hK => ?_) AllReadyH.nil
          go_simp
          refine (gstep_any gb search (builtB m) _ _ Y mk w1 HNB1.out HGM.out HY1.out HOK.out.2.1.1 HOK.out.2.1.2).mono ?_; rintro e w2 ⟨v2, rfl, hv2, hb2⟩; have HY2 := hid (hv2.mono (S' := Any) fun _ _ _ => trivial); have HX2 := hid (HX1.out.below hb2); have HW2 := hid (ends_true HW1.out hb2); have HNC2 := hid (HNCr.out.below HW2.out); have HZ2 := hid (HZ.out.below HW2.out); have HC2' := hid ((HW2.out.cell (p := ⟨bm, om + i, none⟩) HBM.out).trans HM0.out); clear hv2 hb2; go_wp2_with fail
          refine hK.out _ _ (by exact HC2'.out) (fun hHeld => ?_)
          clear hK K
          try simp only [Act.put, List.setIfInBounds_toArray, List.set_cons_zero, List.set_cons_succ]
          refine wpAnyH_ready (rs := [20]) (by kernel_rfl) (by simp) ?_
          refine AllReadyH.cons (o := { dst := some 107, op := Op.call { callee := Callee.value (Operand.func 24), args := #[Operand.tmp 101, Operand.tmp 102, Operand.tmp 106], argTypes := #[26, 23, 3] }, type := _, pos := _, after := _, guard := none }) rfl (fun K hK => ?_) AllReadyH.nil
          go_simp
          refine (gstep_any gc search (builtB lm) _ _ Z mk w2 HNC2.out HGC.out HZ2.out HOK.out.2.2.1 HOK.out.2.2.2).mono ?_; rintro e w3 ⟨v3, rfl, hv3, hb3⟩; have HZ3 := hid (hv3.mono (S' := Any) fun _ _ _ => trivial); have HX3 := hid (HX2.out.below hb3); have HY3 := hid (HY2.out.below hb3); have HW3 := hid (ends_true HW2.out hb3); have HC3' := hid ((HW3.out.cell (p := ⟨bm, om + i, none⟩) HBM.out).trans HM0.out); clear hv3 hb3; go_wp2_with fail
          refine hK.out _ _ (by exact HC3'.out) (fun hHeld => ?_)
          clear hK K
          try simp only [Act.put, List.setIfInBounds_toArray, List.set_cons_zero, List.set_cons_succ]
          refine wpAnyH_take (i := 21) (oi := { dst := some 15, op := Op.assign (Operand.tmp 93), type := _, pos := _, after := _, guard := none }) (v := ?_) rfl (by kernel_rfl) (by kernel_rfl) (by kernel_rfl) (fun _ _ _ h => h) (Or.inl ⟨by rfl, ?_⟩) (by assumption) ?_
          rotate_left
          · intro w hSw; (try dsimp only at hSw); go_simp; try with_reducible rfl
          try simp only [Act.put, List.setIfInBounds_toArray, List.set_cons_zero, List.set_cons_succ]
          refine wpAnyH_take (i := 22) (oi := { dst := some 16, op := Op.assign (Operand.tmp 100), type := _, pos := _, after := _, guard := none }) (v := ?_) rfl (by kernel_rfl) (by kernel_rfl) (by kernel_rfl) (fun _ _ _ h => h) (Or.inl ⟨by rfl, ?_⟩) (by assumption) ?_
          rotate_left
          · intro w hSw; (try dsimp only at hSw); go_simp; try with_reducible rfl
          try simp only [Act.put, List.setIfInBounds_toArray, List.set_cons_zero, List.set_cons_succ]
          refine wpAnyH_take (i := 23) (oi := { dst := some 17, op := Op.assign (Operand.tmp 107), type := _, pos := _, after := _, guard := none }) (v := ?_) rfl (by kernel_rfl) (by kernel_rfl) (by kernel_rfl) (fun _ _ _ h => h) (Or.inl ⟨by rfl, ?_⟩) (by assumption) ?_
          rotate_left
          · intro w hSw; (try dsimp only at hSw); go_simp; try with_reducible rfl
          try simp only [Act.put, List.setIfInBounds_toArray, List.set_cons_zero, List.set_cons_succ]
          refine wpAnyH_done (by kernel_rfl) ?_ _
          go_wp2_with fail
          have HBS2 := hid (show Beside n1 (stepB search (builtB l) mk X) (stepB search (builtB m) mk Y) (stepB search (builtB lm) mk Z) by
            have h := HBS.out
            rw [HN1.out] at h ⊢
            rw [HLMe.out]
            exact beside_step HFL.out HFM.out HFC.out h)
          refine ⟨⟨i + 1, _, _, _, _, _, _, by omega, by go_num, rfl, rfl, rfl, HX3, HY3, HZ3, HBS2, hid ⟨⟨step_i64 HGL.out, Nat.le_trans (step_10000 HGL.out) (by decide)⟩, ⟨step_i64 HGM.out, Nat.le_trans (step_10000 HGM.out) (by decide)⟩, step_i64 HGC.out, Nat.le_trans (step_10000 HGC.out) (by decide)⟩, hid (ends_true HBr.out HW3.out)⟩, by simp [intOf]; omega⟩
        · have HGL := hid HFL.out.good
          have HGM := hid HFM.out.good
          have HGC := hid HFC2.out.good
          have HWr := hid (ends_true HBg.out HBr.out)
          obtain ⟨tx, htx⟩ : ∃ tx, tx = tellsB (builtB l) X := ⟨_, rfl⟩
          obtain ⟨ty, hty⟩ : ∃ ty, ty = tellsB (builtB m) Y := ⟨_, rfl⟩
          obtain ⟨tz, htz⟩ : ∃ tz, tz = tellsB (builtB lm) Z := ⟨_, rfl⟩
          have HTX := hid htx
          have HTY := hid hty
          have HTZ := hid htz
          have HOR := hid (show tz = tx ||| (ty <<< l.length) by
            have h := HBS.out
            rw [HN1.out] at h
            rw [htz, htx, hty, HLMe.out]
            exact beside_tells HFL.out HFM.out HFC.out h)
          have HSX := hid (show tx < 2 ^ l.length by rw [htx]; exact tells_small HFL.out X)
          have HSY := hid (show ty < 2 ^ m.length by rw [hty]; exact tells_small HFM.out Y)
          have hsh := shl_tells (k := l.length) HSY.out (by omega)
          have hor := or_u64 tx (ty <<< l.length) (Nat.lt_of_lt_of_le HSX.out (Nat.pow_le_pow_right (by decide) (by omega))) hsh.2
          rw [← hsh.1, ← HOR.out] at hor
          obtain ⟨n2, hn2⟩ : ∃ n2, n2 = sumL (fun t => leavesT d t) m := ⟨_, rfl⟩
          have HL1 := hid (show (builtB l).lfs.length = n1 by rw [HN1.out]; exact HFL.out.len)
          have HL2 := hid (show (builtB m).lfs.length = n2 by rw [hn2]; exact HFM.out.len)
          have HL3 := hid (show (builtB lm).lfs.length = n1 + n2 by rw [HFC2.out.len, HLMe.out, sumL_app, HN1.out, hn2])
          have hb1 : n1 ≤ 160 := by have := HGL.out.2.2.1; have := HL1.out; omega
          have hb2 : n2 ≤ 160 := by have := HGM.out.2.2.1; have := HL2.out; omega
          clear htx hty htz hsh hn2
          go_wp2_with fail
          refine (tells_any gc search (builtB lm) _ _ Z _ HNCr.out HGC.out.2.1 HZ.out HOK.out.2.2.1).mono ?_
          rintro e wa1 ⟨rfl, n1', hwb⟩
          rw [← HTZ.out]
          have D1 : Below wr.heap.size wr wa1 := by rw [hwb]; exact ⟨rfl, rfl, rfl, Nat.le_refl _, fun _ _ => rfl⟩
          have HNA1 := hid (HNAr.out.below D1)
          have HX1 := hid (HX.out.below D1)
          have HD1 := hid D1
          clear D1 hwb
          go_wp2_with fail
          refine (tells_any ga search (builtB l) _ _ X wa1 HNA1.out HGL.out.2.1 HX1.out HOK.out.1.1).mono ?_
          rintro e wa2 ⟨rfl, n2', hwb⟩
          rw [← HTX.out]
          have D2 : Below wr.heap.size wr wa2 := by rw [hwb]; exact HD1.out.trans ⟨rfl, rfl, rfl, Nat.le_refl _, fun _ _ => rfl⟩
          have HNB2 := hid (HNBr.out.below D2)
          have HY2 := hid (HY.out.below D2)
          have HD2 := hid D2
          clear D2 hwb HD1
          go_wp2_with fail
          refine (tells_any gb search (builtB m) _ _ Y wa2 HNB2.out HGM.out.2.1 HY2.out HOK.out.2.1.1).mono ?_
          rintro e wa3 ⟨rfl, n3', hwb⟩
          rw [← HTY.out]
          have D3 : Below wr.heap.size wr wa3 := by rw [hwb]; exact HD2.out.trans ⟨rfl, rfl, rfl, Nat.le_refl _, fun _ _ => rfl⟩
          have HNA3 := hid (HNAr.out.below D3)
          have HNB3 := hid (HNBr.out.below D3)
          have HNC3 := hid (HNCr.out.below D3)
          have HW3 := hid (ends_true HWr.out D3)
          clear D3 hwb HD2
          go_wp2_with fail
          refine (count_any gc search (builtB lm) wa3 HNC3.out (by rw [HL3.out]; omega)).mono ?_
          rintro e wb1 ⟨rfl, rfl⟩
          rw [HL3.out, show ((n1 + n2 + 1 : Nat) : Int) = (n1 : Int) + (n2 : Int) + 1 by omega]
          go_wp2_with fail
          refine (count_any ga search (builtB l) wb1 HNA3.out (by rw [HL1.out]; omega)).mono ?_
          rintro e wb2 ⟨rfl, rfl⟩
          rw [HL1.out, show ((n1 + 1 : Nat) : Int) = (n1 : Int) + 1 by omega]
          go_wp2_with fail
          refine (count_any gb search (builtB m) wb2 HNB3.out (by rw [HL2.out]; omega)).mono ?_
          rintro e wb3 ⟨rfl, rfl⟩
          rw [HL2.out, show ((n2 + 1 : Nat) : Int) = (n2 : Int) + 1 by omega]
          have heq : (n1 : Int) + (n2 : Int) + 1 = (n1 : Int) + 1 + ((n2 : Int) + 1) - 1 := by omega
          go_wp2_with fail
          go_ret
          exact ⟨rfl, HW3.out⟩
    · have HR2 := hid (show (rightE d m && decide (m.length ≤ 40)) = false by rw [Bool.eq_false_iff.2 hr2]; rfl)
      clear hr2 d1 d2
      go_enter Try.func7, Try.ntmps7
      go_wp2_with fail
      refine (great_any S d A1 c1 l w H1.out hl1).mono ?_
      rintro e w1 ⟨rfl, hb⟩
      rw [HG1.out]
      have HB1 := hid (hb)
      clear hb
      go_wp2_with fail
      refine (great_any S d A2 c2 m w1 (H2.out.below HB1.out) hl2).mono ?_
      rintro e w2 ⟨rfl, hb⟩
      rw [HG2.out]
      have HB2 := hid (ends_true HB1.out hb)
      clear hb
      go_wp2_with fail
      refine (awake_any w2).mono ?_
      rintro e w3 ⟨rfl, hb⟩
      have HB3 := hid (ends_true HB2.out hb)
      clear hb
      go_wp2_with fail
      refine (rights_any S d A1 c1 l w3 (H1.out.below HB3.out) hl1 HC1.out).mono ?_
      rintro e w4 ⟨rfl, hb⟩
      rw [HR1.out]
      have HB4 := hid (ends_true HB3.out hb)
      clear hb
      go_wp2_with fail
      refine (rights_any S d A2 c2 m w4 (H2.out.below HB4.out) hl2 HC2.out).mono ?_
      rintro e w5 ⟨rfl, hb⟩
      rw [HR2.out]
      have HB5 := hid (ends_true HB4.out hb)
      clear hb
      go_wp2_with fail
      go_ret
      exact ⟨rfl, HB5.out⟩
  · have HR1 := hid (show (rightE d l && decide (l.length ≤ 40)) = false by rw [Bool.eq_false_iff.2 hr1]; rfl)
    clear hr1 d1 d2
    go_enter Try.func7, Try.ntmps7
    go_wp2_with fail
    refine (great_any S d A1 c1 l w H1.out hl1).mono ?_
    rintro e w1 ⟨rfl, hb⟩
    rw [HG1.out]
    have HB1 := hid (hb)
    clear hb
    go_wp2_with fail
    refine (great_any S d A2 c2 m w1 (H2.out.below HB1.out) hl2).mono ?_
    rintro e w2 ⟨rfl, hb⟩
    rw [HG2.out]
    have HB2 := hid (ends_true HB1.out hb)
    clear hb
    go_wp2_with fail
    refine (awake_any w2).mono ?_
    rintro e w3 ⟨rfl, hb⟩
    have HB3 := hid (ends_true HB2.out hb)
    clear hb
    go_wp2_with fail
    refine (rights_any S d A1 c1 l w3 (H1.out.below HB3.out) hl1 HC1.out).mono ?_
    rintro e w4 ⟨rfl, hb⟩
    rw [HR1.out]
    have HB4 := hid (ends_true HB3.out hb)
    clear hb
    go_wp2_with fail
    go_ret
    exact ⟨rfl, HB4.out⟩
end Go.Proofs.Ythdhbkngbmjjkaa
