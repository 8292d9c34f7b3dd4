/- An expression is laid between two knots: the program's lay and often. Condition: a right expression; a million of each thing at most. -/
import Derived.Test.YthdhbkngbmjjkaaLa
namespace Go.Proofs.Ythdhbkngbmjjkaa
open Go.RowKit
set_option linter.unusedSimpArgs false
def LayIH (d : Nat) : Prop := ∀ (v : Value) (t : Tr d) (wi : Bool) (g B : Nat) (search : Bool) (m1 m2 : Value) (s : Bs) (frm to m : Nat) (w : World), NB w g B search m1 m2 s → IsTr w (fun b => b < B) d v t → fitsT d wi t = true → frm < s.kns.length → to < s.kns.length → s.le m → m + 12 * cnt d t ≤ 1000000 →
  Calls Try.prog 47 #[.pointer (some ⟨g, 0, none⟩), v, .int .i64 frm, .int .i64 to] w fun e w' => e = .returned (.tuple #[]) ∧ NB w' g B search m1 m2 (layB d t frm to s) ∧ Below B w w' ∧ Kp w w'
theorem kids_one {d : Nat} {wi : Bool} {t : Tr (d + 1)} (h : fitsT (d + 1) wi t = true) (hk : Tr.kind t = 6 ∨ Tr.kind t = 7 ∨ Tr.kind t = 8) : ∃ k, Tr.kids t = [k] ∧ fitsT d true k = true := by
  simp only [fitsT, Bool.and_eq_true, fitB, decide_eq_true_eq] at h
  have h1 := h.1.1.2
  have e1 : least (Tr.kind t) = 1 := by unfold least; rw [if_neg (by omega), if_pos hk]
  have e2 : most (Tr.kind t) = 1 := by unfold most; rw [if_neg (by omega), if_pos hk]
  rw [e1, e2] at h1
  cases hl : Tr.kids t with
  | nil => rw [hl] at h1; simp at h1
  | cons k r =>
    cases r with
    | nil => exact ⟨k, rfl, by have h2 := h.2; rw [hl] at h2; simpa using h2⟩
    | cons k2 r => rw [hl] at h1; simp at h1; omega
theorem far52 (cs : Array Value) : Far (.cells cs 52 (0, 0)) := fun _ _ _ e => by injection e with _ e; subst e; simp
set_option maxRecDepth 100000 in
set_option maxHeartbeats 4000000 in
theorem often_any (d : Nat) (IH : Hid (LayIH d)) (v : Value) (t : Tr (d + 1)) (wi : Bool) (g B : Nat) (search : Bool) (m1 m2 : Value) (s : Bs) (frm to m : Nat) (w : World) (h : NB w g B search m1 m2 s) (ht : IsTr w (fun b => b < B) (d + 1) v t) (hfit : fitsT (d + 1) wi t = true) (hk : Tr.kind t = 6 ∨ Tr.kind t = 7 ∨ Tr.kind t = 8)
    (hf : frm < s.kns.length) (hto : to < s.kns.length) (hm : s.le m) (hmm : m + 12 * cnt (d + 1) t ≤ 1000000) :
    Calls Try.prog 74 #[.pointer (some ⟨g, 0, none⟩), v, .int .i64 frm, .int .i64 to] w fun e w' => e = .returned (.tuple #[]) ∧ NB w' g B search m1 m2 (layB (d + 1) t frm to s) ∧ Below B w w' ∧ Kp w w' := by
  obtain ⟨x, hx, hfx⟩ := kids_one hfit hk
  obtain ⟨A, c, rfl, -, hrow⟩ := ht.open
  rw [hx] at hrow
  obtain ⟨b, o, v0, v1, v2, rfl, hbB, hbs, c0, c1, c2, htx⟩ := hrow.at (k := 0) (t := x) rfl
  obtain ⟨k0, k1, A2, n2, p2, rfl, rfl, rfl⟩ := htx.cells
  simp only [Nat.zero_mul, Nat.add_zero] at c0 c1 c2
  have hcnt : cnt (d + 1) t = 1 + cnt d x := by simp only [cnt]; rw [hx]; simp [cntL]
  have hcx := cnt_pos' d x
  obtain ⟨kd, hkd⟩ : ∃ kd, kd = Tr.kind t := ⟨_, rfl⟩
  obtain ⟨cl, hcl⟩ : ∃ cl, cl = Tr.cls t := ⟨_, rfl⟩
  have HRES := hid (show layB (d + 1) t frm to s = oftenB kd (fun f o s => layB d x f o s) frm to s by
    rw [hkd]
    simp only [layB]
    rw [if_neg (by omega), if_neg (by omega), if_pos hk, hx])
  rw [hx, List.length_singleton]
  rw [← hkd] at hk
  rw [← hkd, ← hcl]
  have HTX := hid htx
  have HFX := hid hfx
  have HC := hid (And.intro hbB (And.intro hbs (And.intro c0 (And.intro c1 c2))))
  obtain ⟨q, hq⟩ : ∃ q, q = w.heap.size := ⟨_, rfl⟩
  obtain ⟨W, hW⟩ : ∃ W, W = w.alloc (.cells #[.int .i64 kd, .int .i64 cl, .slice (some ⟨b, o, none⟩) 1 c] 52) := ⟨_, rfl⟩
  have HBW := hid (show Below w.heap.size w W by rw [hW]; exact (Below.refl _ _).alloc (Nat.le_refl _) _)
  have HQ := hid (show W.heap[q]? = some (.cells #[.int .i64 kd, .int .i64 cl, .slice (some ⟨b, o, none⟩) 1 c] 52 (0, 0)) by rw [hW, hq]; exact heap_alloc_new _ _)
  have hBg : B ≤ w.heap.size := by have h1 := h.1; obtain ⟨_, _, _, hg, _⟩ := h; have := (Array.getElem?_eq_some_iff.1 hg).1; omega
  have HN := hid (h.below HBW.out)
  have HBw := hid (show Below B w W from HBW.out.mono hBg)
  have HBQ := hid (show ∀ Y, Kp W Y → Y.cell? ⟨q, 0, none⟩ = some (.int .i64 kd) ∧ Y.cell? ⟨q, 2, none⟩ = some (.slice (some ⟨b, o, none⟩) 1 c) from fun Y hY => by
    obtain ⟨x0, -, x2, -⟩ := slot3 (hY q _ HQ.out (far52 _))
    exact ⟨x0, x2⟩)
  have HKID := hid (show ∀ Y, Below B w Y → Y.cell? ⟨b, o, none⟩ = some (.int .i64 k0) ∧ Y.cell? ⟨b, o + 1, none⟩ = some (.int .i64 k1) ∧ Y.cell? ⟨b, o + 2, none⟩ = some (.slice A2 n2 p2) ∧ IsTr Y (fun b => b < B) d (.agg #[.int .i64 k0, .int .i64 k1, .slice A2 n2 p2]) x from fun Y hY =>
    ⟨(cell_same (hY.block b HC.out.1)).trans HC.out.2.2.1, (cell_same (hY.block b HC.out.1)).trans HC.out.2.2.2.1, (cell_same (hY.block b HC.out.1)).trans HC.out.2.2.2.2, HTX.out.keep fun b' hb' _ => hY.block b' hb'⟩)
  have HM := hid hm
  have HMM := hid (show m + 12 * (1 + cnt d x) ≤ 1000000 by rw [← hcnt]; exact hmm)
  have HLEN := hid (And.intro hf hto)
  obtain ⟨n, hn⟩ : ∃ n, n = s.kns.length := ⟨_, rfl⟩
  have HNL := hid hn
  clear h ht hrow hbB hbs c0 c1 c2 htx hfx hfit hx hcnt hkd hcl hm hmm hf hto hBg hn
  have hn6 : n ≤ 1000000 := by rw [HNL.out]; have := HM.out.2.1; have := HMM.out; omega
  go_enter Try.func74, Try.ntmps74
  go_wp2_with fail
  rw [← hW, ← hq]
  clear hW hq
  refine (knot_any g B search m1 m2 s W HN.out (by rw [← HNL.out]; exact hn6)).mono ?_
  rintro e w1 ⟨rfl, hn1, hb1, hk1⟩
  rw [← HNL.out]
  have HN1 := hid hn1
  have HB1 := hid (HBw.out.trans hb1)
  have HK1 := hid hk1
  clear hn1 hb1 hk1
  go_wp2_with fail
  refine (knot_any g B search m1 m2 s.knot w1 HN1.out (by rw [knot_len, ← HNL.out]; have := HM.out.2.1; have := HMM.out; have := HNL.out; omega)).mono ?_
  rintro e w2 ⟨rfl, hn2, hb2, hk2⟩
  rw [knot_len, ← HNL.out]
  have HN2 := hid hn2
  have HB2 := hid (HB1.out.trans hb2)
  have HK2 := hid (HK1.out.trans hk2)
  have HL2 := hid (show s.knot.knot.kns.length = n + 2 by rw [knot_len, knot_len, HNL.out])
  have HM2 := hid (HM.out.knot.knot)
  clear hn2 hb2 hk2
  have en : ((n + 1 : Nat) : Int) = (n : Int) + 1 := by omega
  rw [en]
  clear en
  go_wp2_with fail
  have hA1 := free_any g B search m1 m2 s.knot.knot frm n w2 HN2.out (by rw [HL2.out]; have := HM.out.2.1; have := HMM.out; have := HNL.out; omega) (by rw [HL2.out]; have := HLEN.out.1; have := HNL.out; omega) (by have := HM2.out.2.2 frm; have := HMM.out; omega)
  refine hA1.mono ?_
  clear hA1
  rintro e w3 ⟨rfl, hn3, hb3, hk3⟩
  have HN3 := hid hn3
  have HB3 := hid (HB2.out.trans hb3)
  have HK3 := hid (HK2.out.trans hk3)
  have HL3 := hid (show (s.knot.knot.arrow frm n).kns.length = n + 2 by rw [arrow_len, HL2.out])
  have HM3 := hid (HM2.out.arrow (frm := frm) (to := n) (by rw [HL2.out]; have := HLEN.out.1; have := HNL.out; omega))
  clear hn3 hb3 hk3
  go_wp2_with fail
  have hA1 := free_any g B search m1 m2 (s.knot.knot.arrow frm n) (n + 1) to w3 HN3.out (by rw [HL3.out]; have := HM.out.2.1; have := HMM.out; have := HNL.out; omega) (by rw [HL3.out]; omega) (by have := HM3.out.2.2 (n + 1); have := HMM.out; omega)
  rw [show ((n + 1 : Nat) : Int) = (n : Int) + 1 by omega] at hA1
  refine hA1.mono ?_
  clear hA1
  rintro e w4 ⟨rfl, hn4, hb4, hk4⟩
  have HN4 := hid hn4
  have HB4 := hid (HB3.out.trans hb4)
  have HK4 := hid (HK3.out.trans hk4)
  have HL4 := hid (show ((s.knot.knot.arrow frm n).arrow (n + 1) to).kns.length = n + 2 by rw [arrow_len, HL3.out])
  have HM4 := hid (HM3.out.arrow (frm := n + 1) (to := to) (by rw [HL3.out]; omega))
  clear hn4 hb4 hk4
  obtain ⟨q0, q2⟩ := HBQ.out _ HK4.out
  obtain ⟨f0, f1, f2, ft⟩ := HKID.out _ HB4.out
  have HFT := hid ft
  clear ft
  go_wp2_with fail
  have hA1 := IH.out _ x true g B search m1 m2 ((s.knot.knot.arrow frm n).arrow (n + 1) to) n (n + 1) (m + 4) w4 HN4.out HFT.out HFX.out (by rw [HL4.out]; omega) (by rw [HL4.out]; omega) HM4.out (by have := HMM.out; omega)
  rw [show ((n + 1 : Nat) : Int) = (n : Int) + 1 by omega] at hA1
  refine hA1.mono ?_
  clear hA1
  rintro e w5 ⟨rfl, hn5, hb5, hk5⟩
  have hok := layB_ok d x n (n + 1) ((s.knot.knot.arrow frm n).arrow (n + 1) to) (m + 4) (by rw [HL4.out]; omega) (by rw [HL4.out]; omega) HM4.out
  simp only at hok
  obtain ⟨s5, hs5⟩ : ∃ s5, s5 = layB d x n (n + 1) ((s.knot.knot.arrow frm n).arrow (n + 1) to) := ⟨_, rfl⟩
  rw [← hs5] at hn5 hok
  have HN5 := hid hn5
  have HB5 := hid (HB4.out.trans hb5)
  have HK5 := hid (HK4.out.trans hk5)
  have HM5 := hid (show s5.le (m + 12 * cnt d x) from hok.1.mono (by omega))
  have HL5 := hid (show n + 2 ≤ s5.kns.length by have h1 := hok.2; rw [HL4.out] at h1; exact h1)
  have HRES2 := hid (show layB (d + 1) t frm to s = (let s2 := if kd = 7 then s5 else s5.arrow n (n + 1); if kd = 8 then s2 else s2.arrow (n + 1) n) by rw [HRES.out, hs5, HNL.out]; rfl)
  have HX5 := hid (show s5.kns.length ≤ 1000000 from by have := HM5.out.2.1; have := HMM.out; omega)
  clear hn5 hb5 hk5 hok hs5 q0 q2 f0 f1 f2
  obtain ⟨q0, q2⟩ := HBQ.out _ HK5.out
  have hA6 := free_any g B search m1 m2 s5 n (n + 1) w5 HN5.out HX5.out (by have := HL5.out; omega) (by have := HM5.out.2.2 n; have := HMM.out; omega)
  rw [show ((n + 1 : Nat) : Int) = (n : Int) + 1 by omega] at hA6
  have hA7 := free_any g B search m1 m2 s5 (n + 1) n w5 HN5.out HX5.out (by have := HL5.out; omega) (by have := HM5.out.2.2 (n + 1); have := HMM.out; omega)
  rw [show ((n + 1 : Nat) : Int) = (n : Int) + 1 by omega] at hA7
  have HA6 := hid hA6
  have HA7 := hid hA7
  clear hA6 hA7
  have hm6 : (s5.arrow n (n + 1)).le (m + 12 * cnt d x + 1) := HM5.out.arrow (by have := HL5.out; omega)
  have HM6 := hid hm6
  clear hm6
  rcases hk with rfl | rfl | rfl
  · go_wp2_with fail
    refine HA6.out.mono ?_
    rintro e w6 ⟨rfl, hn6', hb6, hk6⟩
    have HN6 := hid hn6'
    have HB6 := hid (HB5.out.trans hb6)
    have HK6 := hid (HK5.out.trans hk6)
    clear hn6' hb6 hk6 q0 q2
    obtain ⟨q0, q2⟩ := HBQ.out _ HK6.out
    have hA8 := free_any g B search m1 m2 (s5.arrow n (n + 1)) (n + 1) n w6 HN6.out (by rw [arrow_len]; exact HX5.out) (by rw [arrow_len]; have := HL5.out; omega) (by have := HM6.out.2.2 (n + 1); have := HMM.out; omega)
    rw [show ((n + 1 : Nat) : Int) = (n : Int) + 1 by omega] at hA8
    have HA8 := hid hA8
    clear hA8
    go_wp2_with fail
    refine HA8.out.mono ?_
    rintro e w7 ⟨rfl, hn7, hb7, hk7⟩
    have HN7 := hid (show NB w7 g B search m1 m2 (layB (d + 1) t frm to s) by rw [HRES2.out]; exact hn7)
    have HB7 := hid (HB6.out.trans hb7)
    have HK7 := hid (HK6.out.trans hk7)
    clear hn7 hb7 hk7 q0 q2
    go_wp2_with fail
    go_end0
    exact ⟨rfl, HN7.out, HB7.out, (Kp.below HBW.out).trans HK7.out⟩
  · go_wp2_with fail
    refine HA7.out.mono ?_
    rintro e w7 ⟨rfl, hn7, hb7, hk7⟩
    have HN7 := hid (show NB w7 g B search m1 m2 (layB (d + 1) t frm to s) by rw [HRES2.out]; exact hn7)
    have HB7 := hid (HB5.out.trans hb7)
    have HK7 := hid (HK5.out.trans hk7)
    clear hn7 hb7 hk7 q0 q2
    go_wp2_with fail
    go_end0
    exact ⟨rfl, HN7.out, HB7.out, (Kp.below HBW.out).trans HK7.out⟩
  · go_wp2_with fail
    refine HA6.out.mono ?_
    rintro e w7 ⟨rfl, hn7, hb7, hk7⟩
    have HN7 := hid (show NB w7 g B search m1 m2 (layB (d + 1) t frm to s) by rw [HRES2.out]; exact hn7)
    have HB7 := hid (HB5.out.trans hb7)
    have HK7 := hid (HK5.out.trans hk7)
    clear hn7 hb7 hk7 q0 q2
    obtain ⟨q0, q2⟩ := HBQ.out _ HK7.out
    go_wp2_with fail
    go_end0
    exact ⟨rfl, HN7.out, HB7.out, (Kp.below HBW.out).trans HK7.out⟩
theorem kids_fit {d : Nat} {wi : Bool} {t : Tr (d + 1)} (h : fitsT (d + 1) wi t = true) {k : Nat} {x : Tr d} (hk : (Tr.kids t)[k]? = some x) : fitsT d true x = true := by
  simp only [fitsT, Bool.and_eq_true, List.all_eq_true] at h
  exact h.2 x (List.mem_of_getElem? hk)
theorem kind_fit {d : Nat} {wi : Bool} {t : Tr (d + 1)} (h : fitsT (d + 1) wi t = true) : 0 ≤ Tr.kind t ∧ Tr.kind t ≤ 9 := by
  simp only [fitsT, Bool.and_eq_true, fitB, decide_eq_true_eq] at h
  exact h.1.1.1.1
set_option maxRecDepth 100000 in
set_option maxHeartbeats 8000000 in
theorem lay_any : ∀ d : Nat, LayIH d := by
  intro d
  induction d with
  | zero => intro v t; exact t.elim
  | succ d ih =>
    intro v t wi g B search m1 m2 s frm to m w h ht hfit hf hto hm hmm
    have IH := hid ih
    clear ih
    have HOFT := hid (fun (W' : World) (hN : NB W' g B search m1 m2 s) (hT : IsTr W' (fun b => b < B) (d + 1) v t) (hk : Tr.kind t = 6 ∨ Tr.kind t = 7 ∨ Tr.kind t = 8) => often_any d IH v t wi g B search m1 m2 s frm to m W' hN hT hfit hk hf hto hm hmm)
    have HFIT := hid hfit
    have hkf := kind_fit hfit
    obtain ⟨A, c, rfl, hle, hrow⟩ := ht.open
    have HT := hid ht
    obtain ⟨kd, hkd⟩ : ∃ kd, kd = Tr.kind t := ⟨_, rfl⟩
    obtain ⟨cl, hcl⟩ : ∃ cl, cl = Tr.cls t := ⟨_, rfl⟩
    obtain ⟨l, hl⟩ : ∃ l, l = Tr.kids t := ⟨_, rfl⟩
    have HKD := hid hkd
    have HCL := hid hcl
    have HKL := hid hl
    have HROW := hid (show Row3 (IsTr w (fun b => b < B) d) w (fun b => b < B) A l by rw [hl]; exact hrow)
    have HT2 := hid (show IsTr w (fun b => b < B) (d + 1) (.agg #[.int .i64 kd, .int .i64 cl, .slice A l.length c]) t by rw [hkd, hcl, hl]; exact ht)
    rw [← hkd, ← hcl, ← hl] at HOFT
    rw [← hkd] at hkf
    rw [← hl] at hle
    rw [← hkd, ← hcl, ← hl]
    have hcnt : cnt (d + 1) t = 1 + cntL (fun k => cnt d k) l := by rw [hl]; rfl
    rw [hcnt] at hmm
    obtain ⟨q, hq⟩ : ∃ q, q = w.heap.size := ⟨_, rfl⟩
    obtain ⟨W, hW⟩ : ∃ W, W = w.alloc (.cells #[.int .i64 kd, .int .i64 cl, .slice A l.length c] 52) := ⟨_, rfl⟩
    have HBW := hid (show Below w.heap.size w W by rw [hW]; exact (Below.refl _ _).alloc (Nat.le_refl _) _)
    have HQ := hid (show W.heap[q]? = some (.cells #[.int .i64 kd, .int .i64 cl, .slice A l.length c] 52 (0, 0)) by rw [hW, hq]; exact heap_alloc_new _ _)
    have HBG := hid h.1
    have hBg : B ≤ w.heap.size := by have h1 := h.1; obtain ⟨_, _, _, hg, _⟩ := h; have := (Array.getElem?_eq_some_iff.1 hg).1; omega
    have HN := hid (h.below HBW.out)
    have HBw := hid (show Below B w W from HBW.out.mono hBg)
    have HBQ := hid (show ∀ Y, Kp W Y → Y.cell? ⟨q, 0, none⟩ = some (.int .i64 kd) ∧ Y.cell? ⟨q, 1, none⟩ = some (.int .i64 cl) ∧ Y.cell? ⟨q, 2, none⟩ = some (.slice A l.length c) from fun Y hY => by
      obtain ⟨x0, x1, x2, -⟩ := slot3 (hY q _ HQ.out (far52 _))
      exact ⟨x0, x1, x2⟩)
    have HM := hid hm
    have HMM := hid hmm
    have HLEN := hid (And.intro hf hto)
    have HBgw := hid hBg
    clear h ht hrow hfit hcnt hkd hcl hl hm hmm hf hto hBg
    obtain ⟨q0, q1, q2⟩ := HBQ.out _ (Kp.refl _)
    by_cases h4 : kd = 4
    · have HRES := hid (show layB (d + 1) t frm to s = layS (fun k f o s => layB d k f o s) l frm to s by
        simp only [layB]
        rw [← HKD.out, if_pos h4, ← HKL.out])
      subst h4
      clear hkf
      go_enter Try.func47, Try.ntmps47
      go_wp2_with fail
      rw [← hW, ← hq]
      clear hW hq
      go_wp2_with fail
      go_loopw [2, 8, 9, 10, 57] (fun s2 _ _ _ s57 wr => ∃ (k frm' m' : Nat) (s' : Bs), k ≤ l.length ∧ s57 = .int .i64 k ∧ s2 = .int .i64 frm' ∧ Hid (frm' < s'.kns.length ∧ to < s'.kns.length ∧ s'.le m' ∧ m' + 12 * cntL (fun k => cnt d k) (l.drop k) ≤ 1000000) ∧ Hid (layS (fun k f o s => layB d k f o s) (l.drop k) frm' to s' = layB (d + 1) t frm to s ∨ (k = l.length ∧ 0 < k ∧ s' = layB (d + 1) t frm to s)) ∧ Hid (NB wr g B search m1 m2 s') ∧ Hid (Below B w wr) ∧ Hid (Kp W wr)) (fun _ _ _ _ s57 _ => l.length - (intOf s57).toNat)
      case atStart => exact ⟨0, frm, m, s, by omega, rfl, rfl, hid ⟨HLEN.out.1, HLEN.out.2, HM.out, by rw [List.drop_zero]; have := HMM.out; omega⟩, hid (.inl (by rw [List.drop_zero]; exact HRES.out.symm)), HN, HBw, hid (Kp.refl _)⟩
      case round =>
        obtain ⟨k, frm', m', s', hk, rfl, rfl, HI, HE, HNB, HB, HK⟩ := hrel
        obtain ⟨p0, p1, p2⟩ := HBQ.out _ HK.out
        clear q0 q1 q2
        by_cases hlt : k < l.length
        · obtain ⟨b, o, v0, v1, v2, rfl, hbB, hbs, c0, c1, c2, htx⟩ := HROW.out.at (List.getElem?_eq_getElem hlt)
          obtain ⟨k0, k1, A2, n2, cp2, rfl, rfl, rfl⟩ := htx.cells
          have d0 := (cell_same (o := o + k * 3) (HB.out.block b hbB)).trans c0
          have d1 := (cell_same (o := o + k * 3 + 1) (HB.out.block b hbB)).trans c1
          have d2 := (cell_same (o := o + k * 3 + 2) (HB.out.block b hbB)).trans c2
          have HTX := hid (htx.keep (w' := wr) fun b' hb' _ => HB.out.block b' hb')
          obtain ⟨x, hx⟩ : ∃ x, x = l[k] := ⟨_, rfl⟩
          rw [← hx] at HTX
          have HFX := hid (kids_fit HFIT.out (k := k) (x := x) (by rw [← HKL.out, hx]; exact List.getElem?_eq_getElem hlt))
          have HDR := hid (show l.drop k = x :: l.drop (k + 1) by rw [hx]; exact List.drop_eq_getElem_cons hlt)
          have HCX := hid (cnt_pos' d x)
          have hE1 : layS (fun k f o s => layB d k f o s) (x :: l.drop (k + 1)) frm' to s' = layB (d + 1) t frm to s := by
            rcases HE.out with h1 | ⟨h1, -, -⟩
            · rw [HDR.out] at h1; exact h1
            · omega
          have HE1 := hid hE1
          obtain ⟨hi1, hi2, hi3, hi4⟩ := HI.out
          rw [HDR.out] at hi4
          simp only [cntL] at hi4
          have HI4 := hid hi4
          have HI1 := hid hi1
          have HI2 := hid hi2
          have HI3 := hid hi3
          obtain ⟨n', hn'⟩ : ∃ n', n' = s'.kns.length := ⟨_, rfl⟩
          have HNN := hid hn'
          obtain ⟨X, hX⟩ : ∃ X, X = wr.alloc (.cells #[.int .i64 k0, .int .i64 k1, .slice A2 n2 cp2] 52) := ⟨_, rfl⟩
          have HXB := hid (show Below wr.heap.size wr X by rw [hX]; exact (Below.refl _ _).alloc (Nat.le_refl _) _)
          have HXQ := hid (show X.heap[wr.heap.size]? = some (.cells #[.int .i64 k0, .int .i64 k1, .slice A2 n2 cp2] 52 (0, 0)) by rw [hX]; exact heap_alloc_new _ _)
          have HNX := hid (HNB.out.below HXB.out)
          have HBX := hid (show Below B w X from HB.out.trans (HXB.out.mono (Nat.le_trans HBgw.out HB.out.size)))
          have HKX := hid (HK.out.trans (Kp.below HXB.out))
          have HTX2 := hid (HTX.out.below HXB.out)
          obtain ⟨qx, hqx⟩ : ∃ qx, qx = wr.heap.size := ⟨_, rfl⟩
          rw [← hqx] at HXQ
          have HBQX := hid (show ∀ Y, Kp X Y → Y.cell? ⟨qx, 0, none⟩ = some (.int .i64 k0) ∧ Y.cell? ⟨qx, 1, none⟩ = some (.int .i64 k1) ∧ Y.cell? ⟨qx, 2, none⟩ = some (.slice A2 n2 cp2) from fun Y hY => by
            obtain ⟨x0, x1, x2, -⟩ := slot3 (hY qx _ HXQ.out (far52 _))
            exact ⟨x0, x1, x2⟩)
          obtain ⟨e0, e1, e2⟩ := HBQ.out _ HKX.out
          obtain ⟨y0, y1, y2⟩ := HBQX.out _ (Kp.refl _)
          rw [hX] at e0 e1 e2 y0 y1 y2
          clear hbB hbs c0 c1 c2 htx hE1 hi1 hi2 hi3 hi4 hn' p0 p1
          by_cases hlast : k + 1 < l.length
          · have blast : decide (k + 1 < l.length) = true := decide_eq_true hlast
            have blast2 : decide ((k : Int) + 1 < (l.length : Int)) = true := decide_eq_true (by omega)
            go_wp2_with fail
            rw [← hX, ← hqx]
            clear hX hqx e0 e1 e2 y0 y1 y2 d0 d1 d2 p2
            refine (knot_any g B search m1 m2 s' X HNX.out (by have h1 := HI3.out.2.1; have h2 := HI4.out; omega)).mono ?_
            rintro e w1 ⟨rfl, hn1, hb1, hk1⟩
            rw [← HNN.out]
            obtain ⟨y0, y1, y2⟩ := HBQX.out _ hk1
            have HN1 := hid hn1
            have HB1 := hid (HBX.out.trans hb1)
            have HK1 := hid (HKX.out.trans hk1)
            have HT1 := hid (HTX2.out.keep (w' := w1) fun b' hb' _ => hb1.block b' hb')
            have HL1 := hid (show s'.knot.kns.length = n' + 1 by rw [knot_len, HNN.out])
            clear hn1 hb1 hk1
            go_wp2_with fail
            have hA := IH.out _ x true g B search m1 m2 s'.knot frm' n' (m' + 1) w1 HN1.out HT1.out HFX.out (by rw [HL1.out]; have h1 := HI1.out; have h2 := HNN.out; omega) (by rw [HL1.out]; omega) HI3.out.knot (by
              have h1 := HI4.out
              have h3 : 1 ≤ cntL (fun k => cnt d k) (l.drop (k + 1)) := by
                rw [List.drop_eq_getElem_cons hlast]
                have := cnt_pos' d l[k + 1]
                simp only [cntL]
                omega
              omega)
            refine hA.mono ?_
            clear hA
            rintro e w2 ⟨rfl, hn2, hb2, hk2⟩
            have hok := layB_ok d x frm' n' s'.knot (m' + 1) (by rw [HL1.out]; have h1 := HI1.out; have h2 := HNN.out; omega) (by rw [HL1.out]; omega) HI3.out.knot
            simp only at hok
            rw [HL1.out] at hok
            have HN2 := hid hn2
            have HB2 := hid (HB1.out.trans hb2)
            have HK2 := hid (HK1.out.trans hk2)
            have HI2' := hid (show n' < (layB d x frm' n' s'.knot).kns.length ∧ to < (layB d x frm' n' s'.knot).kns.length ∧ (layB d x frm' n' s'.knot).le (m' + 1 + 6 * (2 * cnt d x - 1)) ∧ m' + 1 + 6 * (2 * cnt d x - 1) + 12 * cntL (fun k => cnt d k) (l.drop (k + 1)) ≤ 1000000 from
              ⟨by have := hok.2; omega, by have := hok.2; have h2 := HI2.out; have h3 := HNN.out; omega, hok.1, by have h1 := HI4.out; have h2 := HCX.out; omega⟩)
            have HE2 := hid (show layS (fun k f o s => layB d k f o s) (l.drop (k + 1)) n' to (layB d x frm' n' s'.knot) = layB (d + 1) t frm to s by
              have h1 := HE1.out
              rw [List.drop_eq_getElem_cons hlast] at h1 ⊢
              rw [HNN.out]
              exact h1)
            clear hn2 hb2 hk2 hok y0 y1 y2
            go_wp2_with fail
            go_roundw
            case rel => exact ⟨k + 1, n', _, _, by omega, by go_num, rfl, HI2', hid (.inl HE2.out), HN2, HB2, HK2⟩
            case measure => simp [intOf]; omega
          · have blast : decide (k + 1 < l.length) = false := decide_eq_false hlast
            have blast2 : decide ((k : Int) + 1 < (l.length : Int)) = false := decide_eq_false (by omega)
            go_wp2_with fail
            rw [← hX]
            clear hX hqx e0 e1 e2 y0 y1 y2 d0 d1 d2 p2
            have hA := IH.out _ x true g B search m1 m2 s' frm' to m' X HNX.out HTX2.out HFX.out HI1.out HI2.out HI3.out (by have h1 := HI4.out; omega)
            refine hA.mono ?_
            clear hA
            rintro e w2 ⟨rfl, hn2, hb2, hk2⟩
            have hok := layB_ok d x frm' to s' m' HI1.out HI2.out HI3.out
            simp only at hok
            have HN2 := hid hn2
            have HB2 := hid (HBX.out.trans hb2)
            have HK2 := hid (HKX.out.trans hk2)
            have HE2 := hid (show layB d x frm' to s' = layB (d + 1) t frm to s by
              have h1 := HE1.out
              rw [List.drop_eq_nil_of_le (by omega)] at h1
              exact h1)
            have HI2' := hid (show to < (layB d x frm' to s').kns.length ∧ to < (layB d x frm' to s').kns.length ∧ (layB d x frm' to s').le (m' + 6 * (2 * cnt d x - 1)) ∧ m' + 6 * (2 * cnt d x - 1) + 12 * cntL (fun k => cnt d k) (l.drop (k + 1)) ≤ 1000000 from
              ⟨by have h1 := hok.2; have h2 := HI2.out; omega, by have h1 := hok.2; have h2 := HI2.out; omega, hok.1, by have h1 := HI4.out; have h2 := HCX.out; omega⟩)
            clear hn2 hb2 hk2 hok
            go_wp2_with fail
            go_roundw
            case rel => exact ⟨k + 1, to, _, _, by omega, by go_num, rfl, HI2', hid (.inr ⟨by omega, by omega, HE2.out⟩), HN2, HB2, HK2⟩
            case measure => simp [intOf]; omega
        · have HE2 := hid (show s' = layB (d + 1) t frm to s by
            rcases HE.out with h1 | ⟨-, -, h1⟩
            · rw [List.drop_eq_nil_of_le (by omega)] at h1; exact h1
            · exact h1)
          have HNF := hid (show NB wr g B search m1 m2 (layB (d + 1) t frm to s) by rw [← HE2.out]; exact HNB.out)
          go_wp2_with fail
          go_end0
          exact ⟨rfl, HNF.out, HB.out, (Kp.below HBW.out).trans HK.out⟩
    by_cases h5 : kd = 5
    · have HRES := hid (show layB (d + 1) t frm to s = l.foldl (fun s k => layB d k frm to s) s by
        simp only [layB]
        rw [← HKD.out, if_neg h4, if_pos h5, ← HKL.out])
      subst h5
      clear hkf h4
      go_enter Try.func47, Try.ntmps47
      go_wp2_with fail
      rw [← hW, ← hq]
      clear hW hq
      go_wp2_with fail
      go_loopw [12, 83] (fun _ s83 wr => ∃ (k m' : Nat) (s' : Bs), k ≤ l.length ∧ s83 = .int .i64 k ∧ Hid (frm < s'.kns.length ∧ to < s'.kns.length ∧ s'.le m' ∧ m' + 12 * cntL (fun k => cnt d k) (l.drop k) ≤ 1000000) ∧ Hid ((l.drop k).foldl (fun s k => layB d k frm to s) s' = layB (d + 1) t frm to s) ∧ Hid (NB wr g B search m1 m2 s') ∧ Hid (Below B w wr) ∧ Hid (Kp W wr)) (fun _ s83 _ => l.length - (intOf s83).toNat)
      case atStart => exact ⟨0, m, s, by omega, rfl, hid ⟨HLEN.out.1, HLEN.out.2, HM.out, by rw [List.drop_zero]; have := HMM.out; omega⟩, hid (by rw [List.drop_zero]; exact HRES.out.symm), HN, HBw, hid (Kp.refl _)⟩
      case round =>
        obtain ⟨k, m', s', hk, rfl, HI, HE, HNB, HB, HK⟩ := hrel
        by_cases hlt : k < l.length
        · obtain ⟨b, o, v0, v1, v2, rfl, hbB, hbs, c0, c1, c2, htx⟩ := HROW.out.at (List.getElem?_eq_getElem hlt)
          obtain ⟨k0, k1, A2, n2, cp2, rfl, rfl, rfl⟩ := htx.cells
          have d0 := (cell_same (o := o + k * 3) (HB.out.block b hbB)).trans c0
          have d1 := (cell_same (o := o + k * 3 + 1) (HB.out.block b hbB)).trans c1
          have d2 := (cell_same (o := o + k * 3 + 2) (HB.out.block b hbB)).trans c2
          have HTX := hid (htx.keep (w' := wr) fun b' hb' _ => HB.out.block b' hb')
          obtain ⟨x, hx⟩ : ∃ x, x = l[k] := ⟨_, rfl⟩
          rw [← hx] at HTX
          have HFX := hid (kids_fit HFIT.out (k := k) (x := x) (by rw [← HKL.out, hx]; exact List.getElem?_eq_getElem hlt))
          have HDR := hid (show l.drop k = x :: l.drop (k + 1) by rw [hx]; exact List.drop_eq_getElem_cons hlt)
          have HCX := hid (cnt_pos' d x)
          have HE1 := hid (show (l.drop (k + 1)).foldl (fun s k => layB d k frm to s) (layB d x frm to s') = layB (d + 1) t frm to s by have h1 := HE.out; rw [HDR.out] at h1; exact h1)
          obtain ⟨hi1, hi2, hi3, hi4⟩ := HI.out
          rw [HDR.out] at hi4
          simp only [cntL] at hi4
          have HI4 := hid hi4
          have HI1 := hid hi1
          have HI2 := hid hi2
          have HI3 := hid hi3
          obtain ⟨X, hX⟩ : ∃ X, X = wr.alloc (.cells #[.int .i64 k0, .int .i64 k1, .slice A2 n2 cp2] 52) := ⟨_, rfl⟩
          have HXB := hid (show Below wr.heap.size wr X by rw [hX]; exact (Below.refl _ _).alloc (Nat.le_refl _) _)
          have HXQ := hid (show X.heap[wr.heap.size]? = some (.cells #[.int .i64 k0, .int .i64 k1, .slice A2 n2 cp2] 52 (0, 0)) by rw [hX]; exact heap_alloc_new _ _)
          have HNX := hid (HNB.out.below HXB.out)
          have HBX := hid (show Below B w X from HB.out.trans (HXB.out.mono (Nat.le_trans HBgw.out HB.out.size)))
          have HKX := hid (HK.out.trans (Kp.below HXB.out))
          have HTX2 := hid (HTX.out.below HXB.out)
          obtain ⟨y0, y1, y2, -⟩ := slot3 HXQ.out
          rw [hX] at y0 y1 y2
          clear hbB hbs c0 c1 c2 htx hi1 hi2 hi3 hi4 q0 q1 q2
          go_wp2_with fail
          rw [← hX]
          clear hX y0 y1 y2 d0 d1 d2
          have hA := IH.out _ x true g B search m1 m2 s' frm to m' X HNX.out HTX2.out HFX.out HI1.out HI2.out HI3.out (by have h1 := HI4.out; omega)
          refine hA.mono ?_
          clear hA
          rintro e w2 ⟨rfl, hn2, hb2, hk2⟩
          have hok := layB_ok d x frm to s' m' HI1.out HI2.out HI3.out
          simp only at hok
          have HN2 := hid hn2
          have HB2 := hid (HBX.out.trans hb2)
          have HK2 := hid (HKX.out.trans hk2)
          have HI2' := hid (show frm < (layB d x frm to s').kns.length ∧ to < (layB d x frm to s').kns.length ∧ (layB d x frm to s').le (m' + 6 * (2 * cnt d x - 1)) ∧ m' + 6 * (2 * cnt d x - 1) + 12 * cntL (fun k => cnt d k) (l.drop (k + 1)) ≤ 1000000 from
            ⟨by have h1 := hok.2; have h2 := HI1.out; omega, by have h1 := hok.2; have h2 := HI2.out; omega, hok.1, by have h1 := HI4.out; have h2 := HCX.out; omega⟩)
          clear hn2 hb2 hk2 hok
          go_wp2_with fail
          go_roundw
          case rel => exact ⟨k + 1, _, _, by omega, by go_num, HI2', HE1, HN2, HB2, HK2⟩
          case measure => simp [intOf]; omega
        · have HNF := hid (show NB wr g B search m1 m2 (layB (d + 1) t frm to s) by
            have h1 := HE.out
            rw [List.drop_eq_nil_of_le (by omega)] at h1
            rw [← h1]; exact HNB.out)
          clear q0 q1 q2
          go_wp2_with fail
          go_end0
          exact ⟨rfl, HNF.out, HB.out, (Kp.below HBW.out).trans HK.out⟩
    by_cases h678 : kd = 6 ∨ kd = 7 ∨ kd = 8
    · have hof := HOFT.out W HN.out (HT2.out.below HBW.out) h678
      have HOF := hid hof
      clear hof hkf h4 h5
      rcases h678 with rfl | rfl | rfl
      all_goals
        go_enter Try.func47, Try.ntmps47
        go_wp2_with fail
        rw [← hW, ← hq]
        clear hW hq
        go_wp2_with fail
        refine HOF.out.mono ?_
        rintro e w1 ⟨rfl, hn1, hb1, hk1⟩
        have HN1 := hid hn1
        have HB1 := hid (HBw.out.trans hb1)
        have HK1 := hid hk1
        clear hn1 hb1 hk1 q0 q1 q2
        go_wp2_with fail
        go_end0
        exact ⟨rfl, HN1.out, HB1.out, (Kp.below HBW.out).trans HK1.out⟩
    by_cases h9 : kd = 9
    · have HRES := hid (show layB (d + 1) t frm to s = s.arrow frm to by
        simp only [layB]
        rw [← HKD.out, if_neg h4, if_neg h5, if_neg h678, if_pos h9])
      subst h9
      clear hkf h4 h5 h678
      go_enter Try.func47, Try.ntmps47
      go_wp2_with fail
      rw [← hW, ← hq]
      clear hW hq
      go_wp2_with fail
      refine (free_any g B search m1 m2 s frm to W HN.out (by have := HM.out.2.1; have := HMM.out; omega) HLEN.out.1 (by have := HM.out.2.2 frm; have := HMM.out; omega)).mono ?_
      rintro e w1 ⟨rfl, hn1, hb1, hk1⟩
      have HN1 := hid (show NB w1 g B search m1 m2 (layB (d + 1) t frm to s) by rw [HRES.out]; exact hn1)
      have HB1 := hid (HBw.out.trans hb1)
      have HK1 := hid hk1
      clear hn1 hb1 hk1 q0 q1 q2
      go_wp2_with fail
      go_end0
      exact ⟨rfl, HN1.out, HB1.out, (Kp.below HBW.out).trans HK1.out⟩
    have HRES := hid (show layB (d + 1) t frm to s = s.leaf kd cl frm to by
      simp only [layB]
      rw [← HKD.out, if_neg h4, if_neg h5, if_neg h678, if_neg h9, ← HCL.out])
    have b4 : (kd == 4) = false := ieq_false h4
    have b5 : (kd == 5) = false := ieq_false h5
    have b6 : (kd == 6) = false := ieq_false (by omega)
    have b7 : (kd == 7) = false := ieq_false (by omega)
    have b8 : (kd == 8) = false := ieq_false (by omega)
    have b9 : (kd == 9) = false := ieq_false h9
    clear h4 h5 h678 h9 hkf HT HT2 HROW HOFT IH
    obtain ⟨i0, hi0, hz0, hz1, hz2⟩ := info_parts info91
    obtain ⟨j0, hj0, hy0, hy1, hy2⟩ := info_parts info3
    obtain ⟨hB', lv, kv, hg, hlf, hkn⟩ := HN.out
    have HG := hid hg
    have HKN := hid hkn
    have HLF := hid hlf
    obtain ⟨LA, LC, rfl, -⟩ := own_arr hlf
    have HL1 := hid (slot5 hg).2.1
    obtain ⟨X, hX⟩ : ∃ X, X = (W.alloc (.cells #[.int .i64 kd, .int .i64 cl, .int .i64 (to : Int)] 91)).drew := ⟨_, rfl⟩
    have HBX := hid (show Below W.heap.size W X by rw [hX]; exact ((Below.refl _ _).alloc (Nat.le_refl _) _).drew)
    have HGX := hid ((HBX.out.block g (Array.getElem?_eq_some_iff.1 hg).1).trans hg)
    have HL1b := hid (show (W.alloc (.cells #[.int .i64 kd, .int .i64 cl, .int .i64 (to : Int)] 91)).cell? ⟨g, 1, none⟩ = some (.slice LA s.lfs.length LC) by have h := (slot5 HGX.out).2.1; rw [hX] at h; exact h)
    have HLX := hid (show LfAt X B (.slice LA s.lfs.length LC) s.lfs by rw [hX]; exact (World.ownsRow.alloc hlf _).drew)
    have HKX := hid (hkn.keep (w' := X) fun b cs hh => HBX.out.block b (by rcases hh with hh | hh <;> exact (Array.getElem?_eq_some_iff.1 hh).1))
    have HBS := hid (show B ≤ W.heap.size from Nat.le_trans HBgw.out HBW.out.size)
    have HBX2 := hid (show ∀ Y, Kp W Y → Y.cell? ⟨q, 0, none⟩ = some (.int .i64 kd) ∧ Y.cell? ⟨q, 1, none⟩ = some (.int .i64 cl) from fun Y hY => ⟨(HBQ.out Y hY).1, (HBQ.out Y hY).2.1⟩)
    clear hB' hg hlf hkn
    go_enter Try.func47, Try.ntmps47
    go_wp2_with fail
    rw [← hW, ← hq]
    clear hW hq
    go_wp2_with fail
    refine wp_region_held_drew (S := (fun Y => Y.cell? ⟨q, 0, none⟩ = some (.int .i64 kd) ∧ Y.cell? ⟨q, 1, none⟩ = some (.int .i64 cl))) (by kernel_rfl) (by exact HBX2.out _ ((Kp.below (Below.refl _ _).drew))) (fun hHeld => ?_)
    refine wpAnyH_take (i := 0) (oi := { dst := some 15, op := Op.move (Operand.tmp 0), type := _, pos := _, after := _, guard := none }) (v := ?_) rfl (by kernel_rfl) (by kernel_rfl) (by kernel_rfl) (fun _ _ _ h => h) (Or.inl ⟨by rfl, ?_⟩) (by assumption) ?_
    rotate_left
    · intro w hSw; (try dsimp only at hSw); go_simp; try with_reducible rfl
    try simp only [Act.put, List.setIfInBounds_toArray, List.set_cons_zero, List.set_cons_succ]
    refine wpAnyH_take (i := 1) (oi := { dst := some 16, op := Op.move (Operand.tmp 0), type := _, pos := _, after := _, guard := none }) (v := ?_) rfl (by kernel_rfl) (by kernel_rfl) (by kernel_rfl) (fun _ _ _ h => h) (Or.inl ⟨by rfl, ?_⟩) (by assumption) ?_
    rotate_left
    · intro w hSw; (try dsimp only at hSw); go_simp; try with_reducible rfl
    try simp only [Act.put, List.setIfInBounds_toArray, List.set_cons_zero, List.set_cons_succ]
    refine wpAnyH_take (i := 2) (oi := { dst := some 17, op := Op.nilCheck (Operand.tmp 16), type := _, pos := _, after := _, guard := none }) (v := ?_) rfl (by kernel_rfl) (by kernel_rfl) (by kernel_rfl) (fun _ _ _ h => h) (Or.inl ⟨by rfl, ?_⟩) (by assumption) ?_
    rotate_left
    · intro w hSw; (try dsimp only at hSw); go_simp; try with_reducible rfl
    try simp only [Act.put, List.setIfInBounds_toArray, List.set_cons_zero, List.set_cons_succ]
    refine wpAnyH_take (i := 3) (oi := { dst := some 18, op := Op.fieldAddr 85 (Operand.tmp 17) 1, type := _, pos := _, after := _, guard := none }) (v := ?_) rfl (by kernel_rfl) (by kernel_rfl) (by kernel_rfl) (fun _ _ _ h => h) (Or.inl ⟨by rfl, ?_⟩) (by assumption) ?_
    rotate_left
    · intro w hSw; (try dsimp only at hSw); go_simp; try with_reducible rfl
    try simp only [Act.put, List.setIfInBounds_toArray, List.set_cons_zero, List.set_cons_succ]
    refine wpAnyH_take (i := 5) (oi := { dst := some 20, op := Op.fieldAddr 52 (Operand.tmp 5) 0, type := _, pos := _, after := _, guard := none }) (v := ?_) rfl (by kernel_rfl) (by kernel_rfl) (by kernel_rfl) (fun _ _ _ h => h) (Or.inl ⟨by rfl, ?_⟩) (by assumption) ?_
    rotate_left
    · intro w hSw; (try dsimp only at hSw); go_simp; try with_reducible rfl
    try simp only [Act.put, List.setIfInBounds_toArray, List.set_cons_zero, List.set_cons_succ]
    refine wpAnyH_take (i := 6) (oi := { dst := some 21, op := Op.load 3 (Operand.tmp 20), type := _, pos := _, after := _, guard := none }) (v := ?_) rfl (by kernel_rfl) (by kernel_rfl) (by kernel_rfl) (fun _ _ _ h => h) (Or.inl ⟨by rfl, ?_⟩) (by assumption) ?_
    rotate_left
    · intro w hSw; (try dsimp only at hSw); go_simp; try with_reducible rfl
    try simp only [Act.put, List.setIfInBounds_toArray, List.set_cons_zero, List.set_cons_succ]
    refine wpAnyH_take (i := 7) (oi := { dst := some 22, op := Op.fieldAddr 52 (Operand.tmp 5) 1, type := _, pos := _, after := _, guard := none }) (v := ?_) rfl (by kernel_rfl) (by kernel_rfl) (by kernel_rfl) (fun _ _ _ h => h) (Or.inl ⟨by rfl, ?_⟩) (by assumption) ?_
    rotate_left
    · intro w hSw; (try dsimp only at hSw); go_simp; try with_reducible rfl
    try simp only [Act.put, List.setIfInBounds_toArray, List.set_cons_zero, List.set_cons_succ]
    refine wpAnyH_take (i := 8) (oi := { dst := some 23, op := Op.load 3 (Operand.tmp 22), type := _, pos := _, after := _, guard := none }) (v := ?_) rfl (by kernel_rfl) (by kernel_rfl) (by kernel_rfl) (fun _ _ _ h => h) (Or.inl ⟨by rfl, ?_⟩) (by assumption) ?_
    rotate_left
    · intro w hSw; (try dsimp only at hSw); go_simp; try with_reducible rfl
    try simp only [Act.put, List.setIfInBounds_toArray, List.set_cons_zero, List.set_cons_succ]
    refine wpAnyH_take (i := 9) (oi := { dst := some 24, op := Op.move (Operand.tmp 3), type := _, pos := _, after := _, guard := none }) (v := ?_) rfl (by kernel_rfl) (by kernel_rfl) (by kernel_rfl) (fun _ _ _ h => h) (Or.inl ⟨by rfl, ?_⟩) (by assumption) ?_
    rotate_left
    · intro w hSw; (try dsimp only at hSw); go_simp; try with_reducible rfl
    try simp only [Act.put, List.setIfInBounds_toArray, List.set_cons_zero, List.set_cons_succ]
    refine wpAnyH_take (i := 10) (oi := { dst := some 25, op := Op.build 91 #[(0, Operand.tmp 21), (1, Operand.tmp 23), (2, Operand.tmp 24)], type := _, pos := _, after := _, guard := none }) (v := ?_) rfl (by kernel_rfl) (by kernel_rfl) (by kernel_rfl) (fun _ _ _ h => h) (Or.inl ⟨by rfl, ?_⟩) (by assumption) ?_
    rotate_left
    · intro w hSw; (try dsimp only at hSw); go_simp; try with_reducible rfl
    try simp only [Act.put, List.setIfInBounds_toArray, List.set_cons_zero, List.set_cons_succ]
    refine wpAnyH_ready (rs := [4, 11]) (by kernel_rfl) (by simp) ?_
    refine AllReadyH.cons (o := { dst := some 19, op := Op.load 82 (Operand.tmp 18), type := _, pos := _, after := _, guard := none }) rfl ?legA1 (AllReadyH.cons (o := { dst := some 26, op := Op.buildSlice 82 1 #[(0, Operand.tmp 25)], type := _, pos := _, after := _, guard := none }) rfl ?legB1 AllReadyH.nil)
    case' legA1 =>
      intro K hK
      go_simp
      first | rw [HL1.out] | rw [HL1b.out]
      go_simp
      try rw [← hX]
      refine hK.out _ _ (by first | exact HBX2.out _ (Kp.below (Below.refl _ _).drew) | exact HBX2.out _ (Kp.below HBX.out)) (fun hHeld => ?_)
      clear hK K
      try simp only [Act.put, List.setIfInBounds_toArray, List.set_cons_zero, List.set_cons_succ]
      refine wpAnyH_ready (rs := [11]) (by kernel_rfl) (by simp) ?_
      refine AllReadyH.cons (o := { dst := some 26, op := Op.buildSlice 82 1 #[(0, Operand.tmp 25)], type := _, pos := _, after := _, guard := none }) rfl (fun K hK => ?_) AllReadyH.nil
      go_simp
      rw [← hX]
      refine hK.out _ _ (by exact HBX2.out _ (Kp.below HBX.out)) (fun hHeld => ?_)
      clear hK K
      try simp only [Act.put, List.setIfInBounds_toArray, List.set_cons_zero, List.set_cons_succ]
      refine wpAnyH_ready (rs := [12]) (by kernel_rfl) (by simp) ?_
      refine AllReadyH.cons (o := { dst := some 27, op := Op.call { callee := Callee.builtin Builtin.append, args := #[Operand.tmp 19, Operand.tmp 26], argTypes := #[82, 82] }, type := _, pos := _, after := _, guard := none }) rfl (fun K hK => ?_) AllReadyH.nil
      rw [if_pos (by rfl)]
      try rw [← hX]
      refine wp_app X (.tmp 19) (.tmp 26) 82 rfl B 91 i0 _ 3 24 Try.underlying82 hi0 hz0 hz1 hz2 rfl (by decide) _ s.lfs.length (flat3 s.lfs.length (lfC s.lfs)) rfl HLX.out _ 1 1 [.int .i64 kd, .int .i64 cl, .int .i64 (to : Int)] rfl (by rw [hX]; exact src_new3 W (.int .i64 kd) (.int .i64 cl) (.int .i64 (to : Int)) 91) (by intro u hu; simp at hu; rcases hu with rfl | rfl | rfl <;> rfl) (by simp only [maxLen]; have h1 := HM.out.1; have h2 := HMM.out; omega) (by have h1 := HM.out.1; have h2 := HMM.out; omega) (Nat.le_trans HBS.out HBX.out.size) ?_
      intro v' w1 hown hgrow hat
      have hst := leaf_step1 (w := W) (search := search) (m1 := m1) (m2 := m2) (kv := kv) HGX.out HLX.out HKX.out HBS.out HBG.out HBX.out hgrow hown
      obtain ⟨A5, c5, rfl, -⟩ := own_arr hown
      have HS1 := hid hst
      obtain ⟨j0', j1, -, -, -, jf⟩ := slot5 hst.1
      have jf1 := jf 1
      clear hst hown hgrow hat jf
      try clear hX
      refine hK.out _ _ (by exact HBX2.out _ HS1.out.2.2.2.1) (fun hHeld => ?_)
      clear hK K
      try simp only [Act.put, List.setIfInBounds_toArray, List.set_cons_zero, List.set_cons_succ]
      refine wpAnyH_take (i := 13) (oi := { dst := some 28, op := Op.nilCheck (Operand.tmp 15), type := _, pos := _, after := _, guard := none }) (v := ?_) rfl (by kernel_rfl) (by kernel_rfl) (by kernel_rfl) (fun _ _ _ h => h) (Or.inl ⟨by rfl, ?_⟩) (by assumption) ?_
      rotate_left
      · intro w hSw; (try dsimp only at hSw); go_simp; try with_reducible rfl
      try simp only [Act.put, List.setIfInBounds_toArray, List.set_cons_zero, List.set_cons_succ]
      refine wpAnyH_take (i := 14) (oi := { dst := some 29, op := Op.fieldAddr 85 (Operand.tmp 28) 1, type := _, pos := _, after := _, guard := none }) (v := ?_) rfl (by kernel_rfl) (by kernel_rfl) (by kernel_rfl) (fun _ _ _ h => h) (Or.inl ⟨by rfl, ?_⟩) (by assumption) ?_
      rotate_left
      · intro w hSw; (try dsimp only at hSw); go_simp; try with_reducible rfl
      try simp only [Act.put, List.setIfInBounds_toArray, List.set_cons_zero, List.set_cons_succ]
      refine wpAnyH_ready (rs := [15]) (by kernel_rfl) (by simp) ?_
      refine AllReadyH.cons (o := { dst := none, op := Op.store 82 (Operand.tmp 29) (Operand.tmp 27), type := _, pos := _, after := _, guard := none }) rfl (fun K hK => ?_) AllReadyH.nil
      go_simp
      refine hK.out _ _ (by exact HBX2.out _ HS1.out.2.2.2.2.2) (fun hHeld => ?_)
      clear hK K
      try simp only [Act.put, List.setIfInBounds_toArray, List.set_cons_zero, List.set_cons_succ]
      refine wpAnyH_done (by kernel_rfl) ?_ _
    case' legB1 =>
      intro K hK
      go_simp
      rw [← hX]
      refine hK.out _ _ (by exact HBX2.out _ (Kp.below HBX.out)) (fun hHeld => ?_)
      clear hK K
      try simp only [Act.put, List.setIfInBounds_toArray, List.set_cons_zero, List.set_cons_succ]
      refine wpAnyH_ready (rs := [4]) (by kernel_rfl) (by simp) ?_
      refine AllReadyH.cons (o := { dst := some 19, op := Op.load 82 (Operand.tmp 18), type := _, pos := _, after := _, guard := none }) rfl (fun K hK => ?_) AllReadyH.nil
      go_simp
      first | rw [HL1.out] | rw [HL1b.out]
      go_simp
      try rw [← hX]
      refine hK.out _ _ (by first | exact HBX2.out _ (Kp.below (Below.refl _ _).drew) | exact HBX2.out _ (Kp.below HBX.out)) (fun hHeld => ?_)
      clear hK K
      try simp only [Act.put, List.setIfInBounds_toArray, List.set_cons_zero, List.set_cons_succ]
      refine wpAnyH_ready (rs := [12]) (by kernel_rfl) (by simp) ?_
      refine AllReadyH.cons (o := { dst := some 27, op := Op.call { callee := Callee.builtin Builtin.append, args := #[Operand.tmp 19, Operand.tmp 26], argTypes := #[82, 82] }, type := _, pos := _, after := _, guard := none }) rfl (fun K hK => ?_) AllReadyH.nil
      rw [if_pos (by rfl)]
      try rw [← hX]
      refine wp_app X (.tmp 19) (.tmp 26) 82 rfl B 91 i0 _ 3 24 Try.underlying82 hi0 hz0 hz1 hz2 rfl (by decide) _ s.lfs.length (flat3 s.lfs.length (lfC s.lfs)) rfl HLX.out _ 1 1 [.int .i64 kd, .int .i64 cl, .int .i64 (to : Int)] rfl (by rw [hX]; exact src_new3 W (.int .i64 kd) (.int .i64 cl) (.int .i64 (to : Int)) 91) (by intro u hu; simp at hu; rcases hu with rfl | rfl | rfl <;> rfl) (by simp only [maxLen]; have h1 := HM.out.1; have h2 := HMM.out; omega) (by have h1 := HM.out.1; have h2 := HMM.out; omega) (Nat.le_trans HBS.out HBX.out.size) ?_
      intro v' w1 hown hgrow hat
      have hst := leaf_step1 (w := W) (search := search) (m1 := m1) (m2 := m2) (kv := kv) HGX.out HLX.out HKX.out HBS.out HBG.out HBX.out hgrow hown
      obtain ⟨A5, c5, rfl, -⟩ := own_arr hown
      have HS1 := hid hst
      obtain ⟨j0', j1, -, -, -, jf⟩ := slot5 hst.1
      have jf1 := jf 1
      clear hst hown hgrow hat jf
      try clear hX
      refine hK.out _ _ (by exact HBX2.out _ HS1.out.2.2.2.1) (fun hHeld => ?_)
      clear hK K
      try simp only [Act.put, List.setIfInBounds_toArray, List.set_cons_zero, List.set_cons_succ]
      refine wpAnyH_take (i := 13) (oi := { dst := some 28, op := Op.nilCheck (Operand.tmp 15), type := _, pos := _, after := _, guard := none }) (v := ?_) rfl (by kernel_rfl) (by kernel_rfl) (by kernel_rfl) (fun _ _ _ h => h) (Or.inl ⟨by rfl, ?_⟩) (by assumption) ?_
      rotate_left
      · intro w hSw; (try dsimp only at hSw); go_simp; try with_reducible rfl
      try simp only [Act.put, List.setIfInBounds_toArray, List.set_cons_zero, List.set_cons_succ]
      refine wpAnyH_take (i := 14) (oi := { dst := some 29, op := Op.fieldAddr 85 (Operand.tmp 28) 1, type := _, pos := _, after := _, guard := none }) (v := ?_) rfl (by kernel_rfl) (by kernel_rfl) (by kernel_rfl) (fun _ _ _ h => h) (Or.inl ⟨by rfl, ?_⟩) (by assumption) ?_
      rotate_left
      · intro w hSw; (try dsimp only at hSw); go_simp; try with_reducible rfl
      try simp only [Act.put, List.setIfInBounds_toArray, List.set_cons_zero, List.set_cons_succ]
      refine wpAnyH_ready (rs := [15]) (by kernel_rfl) (by simp) ?_
      refine AllReadyH.cons (o := { dst := none, op := Op.store 82 (Operand.tmp 29) (Operand.tmp 27), type := _, pos := _, after := _, guard := none }) rfl (fun K hK => ?_) AllReadyH.nil
      go_simp
      refine hK.out _ _ (by exact HBX2.out _ HS1.out.2.2.2.2.2) (fun hHeld => ?_)
      clear hK K
      try simp only [Act.put, List.setIfInBounds_toArray, List.set_cons_zero, List.set_cons_succ]
      refine wpAnyH_done (by kernel_rfl) ?_ _
    · go_wp2_with fail
      obtain ⟨W2, hW2⟩ : ∃ W2, W2 = w1.setCell ⟨g, 1, none⟩ (.slice A5 (s.lfs.length + 1) c5) := ⟨_, rfl⟩
      have hgs : W2.heap[g]? = some (.cells #[.bool search, .slice A5 (s.lfs.length + 1) c5, kv, m1, m2] 85 (0, 0)) := by rw [hW2]; exact heap_setCell_same w1 g 1 _ 85 (.slice A5 (s.lfs.length + 1) c5) HS1.out.1
      have hnb : NB W2 g B search m1 m2 ⟨s.lfs ++ [(kd, cl, (to : Int))], s.kns⟩ := by rw [hW2]; exact HS1.out.2.1
      have HBB2 := hid (show Below B W W2 by rw [hW2]; exact HS1.out.2.2.2.2.1)
      have HKP2 := hid (show Kp W W2 by rw [hW2]; exact HS1.out.2.2.2.2.2)
      obtain ⟨-, lv2, kv2, hg2, hlf2, hkn2⟩ := hnb
      rw [hgs] at hg2
      simp only [Option.some.injEq, Obj.cells.injEq, Array.mk.injEq, List.cons.injEq, and_true, true_and] at hg2
      obtain ⟨rfl, rfl⟩ := hg2
      obtain ⟨V, ho, hr⟩ := hkn2
      obtain ⟨n, hnn⟩ : ∃ n, n = s.kns.length := ⟨_, rfl⟩
      have HNN := hid hnn
      have ho' : W2.ownsRow B 87 3 kv n (flat3 n (knC V s.kns)) := by rw [hnn]; exact ho
      have hr' : Rows3 W2 B (2 * n) V (knZ s.kns) := by rw [hnn]; exact hr
      have hfn : frm < n := by rw [hnn]; exact HLEN.out.1
      obtain ⟨kb, kc, rfl⟩ : ∃ kb kc, kv = .slice (some ⟨kb, 0, none⟩) n kc := by
        rcases ho'.2 with ⟨-, h0⟩ | ⟨qq, cap, cur, e, -⟩
        · omega
        · exact ⟨qq, cap, e⟩
      have hcell : W2.cell? ⟨kb, frm * 3 + 1, none⟩ = some (V (2 * frm + 1)) := by
        rw [ho'.cellAt (frm * 3 + 1) (by omega), flat3_at (f := knC V s.kns) (n := n) (i := frm) (j := 1) hfn (by omega)]; rfl
      have hkbl : kb < W2.heap.size := block_lt_of_cell hcell
      obtain ⟨fv, hfv⟩ : ∃ fv, fv = V (2 * frm + 1) := ⟨_, rfl⟩
      have hro := hr'.1 (2 * frm + 1) (by omega)
      have hz : knZ s.kns (2 * frm + 1) = (kn s.kns frm).lv := by unfold knZ; rw [if_neg (by omega), show (2 * frm + 1) / 2 = frm by omega]
      rw [hz, ← hfv] at hro
      rw [← hfv] at hcell
      obtain ⟨zs, hzs⟩ : ∃ zs, zs = (kn s.kns frm).lv := ⟨_, rfl⟩
      have HZL := hid (show zs.length ≤ 1000000 by rw [hzs]; have h1 := HM.out.2.2 frm; have h2 := HMM.out; omega)
      rw [← hzs] at hro
      obtain ⟨fA, fc, hfe, -⟩ := own_arr hro
      have HFV := hid hfv
      have HZS := hid hzs
      have HFL := hid hfn
      obtain ⟨X3, hX3⟩ : ∃ X, X = (W2.alloc (.cells #[.int .i64 ((s.lfs.length : Int) + 1)] 3)).drew := ⟨_, rfl⟩
      have HBX3 := hid (show Below W2.heap.size W2 X3 by rw [hX3]; exact ((Below.refl _ _).alloc (Nat.le_refl _) _).drew)
      have HG3g := hid ((HBX3.out.block g (Array.getElem?_eq_some_iff.1 hgs).1).trans hgs)
      have HG3 := hid (show W2.cell? ⟨g, 1, none⟩ = some (.slice A5 (s.lfs.length + 1) c5) ∧ W2.cell? ⟨g, 2, none⟩ = some (.slice (some ⟨kb, 0, none⟩) n kc) from ⟨(slot5 hgs).2.1, (slot5 hgs).2.2.1⟩)
      have HG3x := hid (show X3.cell? ⟨g, 1, none⟩ = some (.slice A5 (s.lfs.length + 1) c5) ∧ X3.cell? ⟨g, 2, none⟩ = some (.slice (some ⟨kb, 0, none⟩) n kc) from ⟨(slot5 HG3g.out).2.1, (slot5 HG3g.out).2.2.1⟩)
      have HOX := hid (show X3.ownsRow B 87 3 (.slice (some ⟨kb, 0, none⟩) n kc) n (flat3 n (knC V s.kns)) by rw [hX3]; exact (ho'.alloc _).drew)
      have HRX := hid (hr'.below HBX3.out)
      have HFX := hid (show X3.ownsRow B 3 1 fv zs.length (zs.map (.int .i64)) by rw [hX3]; exact (hro.alloc _).drew)
      have HL3 := hid (show LfAt X3 B (.slice A5 (s.lfs.length + 1) c5) (s.lfs ++ [(kd, cl, (to : Int))]) by rw [hX3]; exact (World.ownsRow.alloc hlf2 _).drew)
      have HB2 := hid (show B ≤ W2.heap.size from Nat.le_trans HBS.out HBB2.out.size)
      have HCF := hid hcell
      have HCFb := hid (show (W2.alloc (.cells #[.int .i64 ((s.lfs.length : Int) + 1)] 3)).cell? ⟨kb, frm * 3 + 1, none⟩ = some fv by have h := (cell_same (o := frm * 3 + 1) (HBX3.out.block kb hkbl)).trans hcell; rw [hX3] at h; exact h)
      subst hfe
      rw [← hW2]
      clear hgs hlf2 ho hr hnn ho' hr' hfn hcell hkbl hfv hro hz hzs hW2 q0 q1 q2 j1 jf1 j0'
      have hnl : n ≤ 1000000 := by rw [HNN.out]; have h1 := HM.out.2.1; have h2 := HMM.out; omega
      have hfl := HFL.out
      refine wp_region_held_drew (S := (fun Y => Y.cell? ⟨g, 1, none⟩ = some (.slice A5 (s.lfs.length + 1) c5) ∧ Y.cell? ⟨g, 2, none⟩ = some (.slice (some ⟨kb, 0, none⟩) n kc))) (by kernel_rfl) (by exact HG3.out) (fun hHeld => ?_)
      refine wpAnyH_take (i := 0) (oi := { dst := some 30, op := Op.move (Operand.tmp 0), type := _, pos := _, after := _, guard := none }) (v := ?_) rfl (by kernel_rfl) (by kernel_rfl) (by kernel_rfl) (fun _ _ _ h => h) (Or.inl ⟨by rfl, ?_⟩) (by assumption) ?_
      rotate_left
      · intro w hSw; (try dsimp only at hSw); go_simp; try with_reducible rfl
      try simp only [Act.put, List.setIfInBounds_toArray, List.set_cons_zero, List.set_cons_succ]
      refine wpAnyH_take (i := 1) (oi := { dst := some 31, op := Op.nilCheck (Operand.tmp 30), type := _, pos := _, after := _, guard := none }) (v := ?_) rfl (by kernel_rfl) (by kernel_rfl) (by kernel_rfl) (fun _ _ _ h => h) (Or.inl ⟨by rfl, ?_⟩) (by assumption) ?_
      rotate_left
      · intro w hSw; (try dsimp only at hSw); go_simp; try with_reducible rfl
      try simp only [Act.put, List.setIfInBounds_toArray, List.set_cons_zero, List.set_cons_succ]
      refine wpAnyH_take (i := 2) (oi := { dst := some 32, op := Op.fieldAddr 85 (Operand.tmp 31) 2, type := _, pos := _, after := _, guard := none }) (v := ?_) rfl (by kernel_rfl) (by kernel_rfl) (by kernel_rfl) (fun _ _ _ h => h) (Or.inl ⟨by rfl, ?_⟩) (by assumption) ?_
      rotate_left
      · intro w hSw; (try dsimp only at hSw); go_simp; try with_reducible rfl
      try simp only [Act.put, List.setIfInBounds_toArray, List.set_cons_zero, List.set_cons_succ]
      refine wpAnyH_take (i := 3) (oi := { dst := some 33, op := Op.load 83 (Operand.tmp 32), type := _, pos := _, after := _, guard := none }) (v := ?_) rfl (by kernel_rfl) (by kernel_rfl) (by kernel_rfl) (fun _ _ _ h => h) (Or.inl ⟨by rfl, ?_⟩) (by assumption) ?_
      rotate_left
      · intro w hSw; (try dsimp only at hSw); go_simp; try with_reducible rfl
      try simp only [Act.put, List.setIfInBounds_toArray, List.set_cons_zero, List.set_cons_succ]
      refine wpAnyH_take (i := 4) (oi := { dst := some 34, op := Op.move (Operand.tmp 2), type := _, pos := _, after := _, guard := none }) (v := ?_) rfl (by kernel_rfl) (by kernel_rfl) (by kernel_rfl) (fun _ _ _ h => h) (Or.inl ⟨by rfl, ?_⟩) (by assumption) ?_
      rotate_left
      · intro w hSw; (try dsimp only at hSw); go_simp; try with_reducible rfl
      try simp only [Act.put, List.setIfInBounds_toArray, List.set_cons_zero, List.set_cons_succ]
      refine wpAnyH_take (i := 5) (oi := { dst := some 35, op := Op.move (Operand.tmp 0), type := _, pos := _, after := _, guard := none }) (v := ?_) rfl (by kernel_rfl) (by kernel_rfl) (by kernel_rfl) (fun _ _ _ h => h) (Or.inl ⟨by rfl, ?_⟩) (by assumption) ?_
      rotate_left
      · intro w hSw; (try dsimp only at hSw); go_simp; try with_reducible rfl
      try simp only [Act.put, List.setIfInBounds_toArray, List.set_cons_zero, List.set_cons_succ]
      refine wpAnyH_take (i := 6) (oi := { dst := some 36, op := Op.nilCheck (Operand.tmp 35), type := _, pos := _, after := _, guard := none }) (v := ?_) rfl (by kernel_rfl) (by kernel_rfl) (by kernel_rfl) (fun _ _ _ h => h) (Or.inl ⟨by rfl, ?_⟩) (by assumption) ?_
      rotate_left
      · intro w hSw; (try dsimp only at hSw); go_simp; try with_reducible rfl
      try simp only [Act.put, List.setIfInBounds_toArray, List.set_cons_zero, List.set_cons_succ]
      refine wpAnyH_take (i := 7) (oi := { dst := some 37, op := Op.fieldAddr 85 (Operand.tmp 36) 2, type := _, pos := _, after := _, guard := none }) (v := ?_) rfl (by kernel_rfl) (by kernel_rfl) (by kernel_rfl) (fun _ _ _ h => h) (Or.inl ⟨by rfl, ?_⟩) (by assumption) ?_
      rotate_left
      · intro w hSw; (try dsimp only at hSw); go_simp; try with_reducible rfl
      try simp only [Act.put, List.setIfInBounds_toArray, List.set_cons_zero, List.set_cons_succ]
      refine wpAnyH_take (i := 8) (oi := { dst := some 38, op := Op.load 83 (Operand.tmp 37), type := _, pos := _, after := _, guard := none }) (v := ?_) rfl (by kernel_rfl) (by kernel_rfl) (by kernel_rfl) (fun _ _ _ h => h) (Or.inl ⟨by rfl, ?_⟩) (by assumption) ?_
      rotate_left
      · intro w hSw; (try dsimp only at hSw); go_simp; try with_reducible rfl
      try simp only [Act.put, List.setIfInBounds_toArray, List.set_cons_zero, List.set_cons_succ]
      refine wpAnyH_take (i := 9) (oi := { dst := some 39, op := Op.move (Operand.tmp 2), type := _, pos := _, after := _, guard := none }) (v := ?_) rfl (by kernel_rfl) (by kernel_rfl) (by kernel_rfl) (fun _ _ _ h => h) (Or.inl ⟨by rfl, ?_⟩) (by assumption) ?_
      rotate_left
      · intro w hSw; (try dsimp only at hSw); go_simp; try with_reducible rfl
      try simp only [Act.put, List.setIfInBounds_toArray, List.set_cons_zero, List.set_cons_succ]
      refine wpAnyH_take (i := 10) (oi := { dst := some 40, op := Op.indexAddr 83 (Operand.tmp 38) (Operand.tmp 39), type := _, pos := _, after := _, guard := none }) (v := ?_) rfl (by kernel_rfl) (by kernel_rfl) (by kernel_rfl) (fun _ _ _ h => h) (Or.inl ⟨by rfl, ?_⟩) (by assumption) ?_
      rotate_left
      · intro w hSw; (try dsimp only at hSw); go_simp; try with_reducible rfl
      try simp only [Act.put, List.setIfInBounds_toArray, List.set_cons_zero, List.set_cons_succ]
      refine wpAnyH_take (i := 11) (oi := { dst := some 41, op := Op.fieldAddr 87 (Operand.tmp 40) 1, type := _, pos := _, after := _, guard := none }) (v := ?_) rfl (by kernel_rfl) (by kernel_rfl) (by kernel_rfl) (fun _ _ _ h => h) (Or.inl ⟨by rfl, ?_⟩) (by assumption) ?_
      rotate_left
      · intro w hSw; (try dsimp only at hSw); go_simp; try with_reducible rfl
      try simp only [Act.put, List.setIfInBounds_toArray, List.set_cons_zero, List.set_cons_succ]
      refine wpAnyH_take (i := 13) (oi := { dst := some 43, op := Op.move (Operand.tmp 0), type := _, pos := _, after := _, guard := none }) (v := ?_) rfl (by kernel_rfl) (by kernel_rfl) (by kernel_rfl) (fun _ _ _ h => h) (Or.inl ⟨by rfl, ?_⟩) (by assumption) ?_
      rotate_left
      · intro w hSw; (try dsimp only at hSw); go_simp; try with_reducible rfl
      try simp only [Act.put, List.setIfInBounds_toArray, List.set_cons_zero, List.set_cons_succ]
      refine wpAnyH_take (i := 14) (oi := { dst := some 44, op := Op.nilCheck (Operand.tmp 43), type := _, pos := _, after := _, guard := none }) (v := ?_) rfl (by kernel_rfl) (by kernel_rfl) (by kernel_rfl) (fun _ _ _ h => h) (Or.inl ⟨by rfl, ?_⟩) (by assumption) ?_
      rotate_left
      · intro w hSw; (try dsimp only at hSw); go_simp; try with_reducible rfl
      try simp only [Act.put, List.setIfInBounds_toArray, List.set_cons_zero, List.set_cons_succ]
      refine wpAnyH_take (i := 15) (oi := { dst := some 45, op := Op.fieldAddr 85 (Operand.tmp 44) 1, type := _, pos := _, after := _, guard := none }) (v := ?_) rfl (by kernel_rfl) (by kernel_rfl) (by kernel_rfl) (fun _ _ _ h => h) (Or.inl ⟨by rfl, ?_⟩) (by assumption) ?_
      rotate_left
      · intro w hSw; (try dsimp only at hSw); go_simp; try with_reducible rfl
      try simp only [Act.put, List.setIfInBounds_toArray, List.set_cons_zero, List.set_cons_succ]
      refine wpAnyH_take (i := 16) (oi := { dst := some 46, op := Op.load 82 (Operand.tmp 45), type := _, pos := _, after := _, guard := none }) (v := ?_) rfl (by kernel_rfl) (by kernel_rfl) (by kernel_rfl) (fun _ _ _ h => h) (Or.inl ⟨by rfl, ?_⟩) (by assumption) ?_
      rotate_left
      · intro w hSw; (try dsimp only at hSw); go_simp; try with_reducible rfl
      try simp only [Act.put, List.setIfInBounds_toArray, List.set_cons_zero, List.set_cons_succ]
      refine wpAnyH_take (i := 17) (oi := { dst := some 47, op := Op.call { callee := Callee.builtin Builtin.len, args := #[Operand.tmp 46], argTypes := #[82] }, type := _, pos := _, after := _, guard := none }) (v := ?_) rfl (by kernel_rfl) (by kernel_rfl) (by kernel_rfl) (fun _ _ _ h => h) (Or.inl ⟨by rfl, ?_⟩) (by assumption) ?_
      rotate_left
      · intro w hSw; (try dsimp only at hSw); go_simp; try with_reducible rfl
      try simp only [Act.put, List.setIfInBounds_toArray, List.set_cons_zero, List.set_cons_succ]
      refine wpAnyH_ready (rs := [12, 18]) (by kernel_rfl) (by simp) ?_
      refine AllReadyH.cons (o := { dst := some 42, op := Op.load 23 (Operand.tmp 41), type := _, pos := _, after := _, guard := none }) rfl ?legA2 (AllReadyH.cons (o := { dst := some 48, op := Op.buildSlice 23 1 #[(0, Operand.tmp 47)], type := _, pos := _, after := _, guard := none }) rfl ?legB2 AllReadyH.nil)
      case' legA2 =>
        intro K hK
        go_simp
        first | rw [HCF.out] | rw [HCFb.out]
        go_simp
        try rw [← hX3]
        refine hK.out _ _ (by first | exact HG3.out | exact HG3x.out) (fun hHeld => ?_)
        clear hK K
        try simp only [Act.put, List.setIfInBounds_toArray, List.set_cons_zero, List.set_cons_succ]
        refine wpAnyH_ready (rs := [18]) (by kernel_rfl) (by simp) ?_
        refine AllReadyH.cons (o := { dst := some 48, op := Op.buildSlice 23 1 #[(0, Operand.tmp 47)], type := _, pos := _, after := _, guard := none }) rfl (fun K hK => ?_) AllReadyH.nil
        go_simp
        rw [← hX3]
        refine hK.out _ _ (by exact HG3x.out) (fun hHeld => ?_)
        clear hK K
        try simp only [Act.put, List.setIfInBounds_toArray, List.set_cons_zero, List.set_cons_succ]
        refine wpAnyH_ready (rs := [19]) (by kernel_rfl) (by simp) ?_
        refine AllReadyH.cons (o := { dst := some 49, op := Op.call { callee := Callee.builtin Builtin.append, args := #[Operand.tmp 42, Operand.tmp 48], argTypes := #[23, 23] }, type := _, pos := _, after := _, guard := none }) rfl (fun K hK => ?_) AllReadyH.nil
        rw [if_pos (by rfl)]
        try rw [← hX3]
        refine wp_app X3 (.tmp 42) (.tmp 48) 23 rfl B 3 j0 _ 1 8 Try.underlying23 hj0 hy0 hy1 hy2 rfl (by decide) _ zs.length (zs.map (.int .i64)) rfl HFX.out _ 1 1 [.int .i64 ((s.lfs.length : Int) + 1)] rfl (by rw [hX3]; exact src_new W2 #[.int .i64 ((s.lfs.length : Int) + 1)] 3 1 rfl) (one_nums _ [((s.lfs.length : Int) + 1)]) (by simp only [maxLen]; have := HZL.out; omega) (by have := HZL.out; omega) (Nat.le_trans HB2.out HBX3.out.size) ?_
        intro v' w3 hown hgrow hat
        have hst := leaf_step2 (w := W2) (search := search) (m1 := m1) (m2 := m2) (frm := frm) (s := ⟨s.lfs ++ [(kd, cl, (to : Int))], s.kns⟩) rfl HOX.out HNN.out HRX.out HFL.out HFV.out HZS.out HG3g.out HL3.out HB2.out HBG.out HBX3.out hgrow hat hown
        obtain ⟨A6, c6, rfl, -⟩ := own_arr hown
        have HS3 := hid hst
        obtain ⟨uu, hu1, hu2⟩ := hst.2.1
        clear hst hown hgrow hat
        try clear hX3
        refine hK.out _ _ (by exact ⟨(slot5 HS3.out.1).2.1, (slot5 HS3.out.1).2.2.1⟩) (fun hHeld => ?_)
        clear hK K
        try simp only [Act.put, List.setIfInBounds_toArray, List.set_cons_zero, List.set_cons_succ]
        refine wpAnyH_take (i := 20) (oi := { dst := some 50, op := Op.indexAddr 83 (Operand.tmp 33) (Operand.tmp 34), type := _, pos := _, after := _, guard := none }) (v := ?_) rfl (by kernel_rfl) (by kernel_rfl) (by kernel_rfl) (fun _ _ _ h => h) (Or.inl ⟨by rfl, ?_⟩) (by assumption) ?_
        rotate_left
        · intro w hSw; (try dsimp only at hSw); go_simp; try with_reducible rfl
        try simp only [Act.put, List.setIfInBounds_toArray, List.set_cons_zero, List.set_cons_succ]
        refine wpAnyH_take (i := 21) (oi := { dst := some 51, op := Op.fieldAddr 87 (Operand.tmp 50) 1, type := _, pos := _, after := _, guard := none }) (v := ?_) rfl (by kernel_rfl) (by kernel_rfl) (by kernel_rfl) (fun _ _ _ h => h) (Or.inl ⟨by rfl, ?_⟩) (by assumption) ?_
        rotate_left
        · intro w hSw; (try dsimp only at hSw); go_simp; try with_reducible rfl
        try simp only [Act.put, List.setIfInBounds_toArray, List.set_cons_zero, List.set_cons_succ]
        refine wpAnyH_ready (rs := [22]) (by kernel_rfl) (by simp) ?_
        refine AllReadyH.cons (o := { dst := none, op := Op.store 23 (Operand.tmp 51) (Operand.tmp 49), type := _, pos := _, after := _, guard := none }) rfl (fun K hK => ?_) AllReadyH.nil
        go_simp
        refine hK.out _ _ (by exact ⟨(slot5 HS3.out.2.2.1).2.1, (slot5 HS3.out.2.2.1).2.2.1⟩) (fun hHeld => ?_)
        clear hK K
        try simp only [Act.put, List.setIfInBounds_toArray, List.set_cons_zero, List.set_cons_succ]
        refine wpAnyH_done (by kernel_rfl) ?_ _
      case' legB2 =>
        intro K hK
        go_simp
        rw [← hX3]
        refine hK.out _ _ (by exact HG3x.out) (fun hHeld => ?_)
        clear hK K
        try simp only [Act.put, List.setIfInBounds_toArray, List.set_cons_zero, List.set_cons_succ]
        refine wpAnyH_ready (rs := [12]) (by kernel_rfl) (by simp) ?_
        refine AllReadyH.cons (o := { dst := some 42, op := Op.load 23 (Operand.tmp 41), type := _, pos := _, after := _, guard := none }) rfl (fun K hK => ?_) AllReadyH.nil
        go_simp
        first | rw [HCF.out] | rw [HCFb.out]
        go_simp
        try rw [← hX3]
        refine hK.out _ _ (by first | exact HG3.out | exact HG3x.out) (fun hHeld => ?_)
        clear hK K
        try simp only [Act.put, List.setIfInBounds_toArray, List.set_cons_zero, List.set_cons_succ]
        refine wpAnyH_ready (rs := [19]) (by kernel_rfl) (by simp) ?_
        refine AllReadyH.cons (o := { dst := some 49, op := Op.call { callee := Callee.builtin Builtin.append, args := #[Operand.tmp 42, Operand.tmp 48], argTypes := #[23, 23] }, type := _, pos := _, after := _, guard := none }) rfl (fun K hK => ?_) AllReadyH.nil
        rw [if_pos (by rfl)]
        try rw [← hX3]
        refine wp_app X3 (.tmp 42) (.tmp 48) 23 rfl B 3 j0 _ 1 8 Try.underlying23 hj0 hy0 hy1 hy2 rfl (by decide) _ zs.length (zs.map (.int .i64)) rfl HFX.out _ 1 1 [.int .i64 ((s.lfs.length : Int) + 1)] rfl (by rw [hX3]; exact src_new W2 #[.int .i64 ((s.lfs.length : Int) + 1)] 3 1 rfl) (one_nums _ [((s.lfs.length : Int) + 1)]) (by simp only [maxLen]; have := HZL.out; omega) (by have := HZL.out; omega) (Nat.le_trans HB2.out HBX3.out.size) ?_
        intro v' w3 hown hgrow hat
        have hst := leaf_step2 (w := W2) (search := search) (m1 := m1) (m2 := m2) (frm := frm) (s := ⟨s.lfs ++ [(kd, cl, (to : Int))], s.kns⟩) rfl HOX.out HNN.out HRX.out HFL.out HFV.out HZS.out HG3g.out HL3.out HB2.out HBG.out HBX3.out hgrow hat hown
        obtain ⟨A6, c6, rfl, -⟩ := own_arr hown
        have HS3 := hid hst
        obtain ⟨uu, hu1, hu2⟩ := hst.2.1
        clear hst hown hgrow hat
        try clear hX3
        refine hK.out _ _ (by exact ⟨(slot5 HS3.out.1).2.1, (slot5 HS3.out.1).2.2.1⟩) (fun hHeld => ?_)
        clear hK K
        try simp only [Act.put, List.setIfInBounds_toArray, List.set_cons_zero, List.set_cons_succ]
        refine wpAnyH_take (i := 20) (oi := { dst := some 50, op := Op.indexAddr 83 (Operand.tmp 33) (Operand.tmp 34), type := _, pos := _, after := _, guard := none }) (v := ?_) rfl (by kernel_rfl) (by kernel_rfl) (by kernel_rfl) (fun _ _ _ h => h) (Or.inl ⟨by rfl, ?_⟩) (by assumption) ?_
        rotate_left
        · intro w hSw; (try dsimp only at hSw); go_simp; try with_reducible rfl
        try simp only [Act.put, List.setIfInBounds_toArray, List.set_cons_zero, List.set_cons_succ]
        refine wpAnyH_take (i := 21) (oi := { dst := some 51, op := Op.fieldAddr 87 (Operand.tmp 50) 1, type := _, pos := _, after := _, guard := none }) (v := ?_) rfl (by kernel_rfl) (by kernel_rfl) (by kernel_rfl) (fun _ _ _ h => h) (Or.inl ⟨by rfl, ?_⟩) (by assumption) ?_
        rotate_left
        · intro w hSw; (try dsimp only at hSw); go_simp; try with_reducible rfl
        try simp only [Act.put, List.setIfInBounds_toArray, List.set_cons_zero, List.set_cons_succ]
        refine wpAnyH_ready (rs := [22]) (by kernel_rfl) (by simp) ?_
        refine AllReadyH.cons (o := { dst := none, op := Op.store 23 (Operand.tmp 51) (Operand.tmp 49), type := _, pos := _, after := _, guard := none }) rfl (fun K hK => ?_) AllReadyH.nil
        go_simp
        refine hK.out _ _ (by exact ⟨(slot5 HS3.out.2.2.1).2.1, (slot5 HS3.out.2.2.1).2.2.1⟩) (fun hHeld => ?_)
        clear hK K
        try simp only [Act.put, List.setIfInBounds_toArray, List.set_cons_zero, List.set_cons_succ]
        refine wpAnyH_done (by kernel_rfl) ?_ _
      all_goals
        go_wp2_with fail
        go_end0
        refine ⟨rfl, ?_, HBw.out.trans (HBB2.out.trans HS3.out.2.2.2.2.1), (Kp.below HBW.out).trans (HKP2.out.trans HS3.out.2.2.2.2.2)⟩
        rw [HRES.out]
        exact HS3.out.2.2.2.1
    · go_wp2_with fail
      obtain ⟨W2, hW2⟩ : ∃ W2, W2 = w1.setCell ⟨g, 1, none⟩ (.slice A5 (s.lfs.length + 1) c5) := ⟨_, rfl⟩
      have hgs : W2.heap[g]? = some (.cells #[.bool search, .slice A5 (s.lfs.length + 1) c5, kv, m1, m2] 85 (0, 0)) := by rw [hW2]; exact heap_setCell_same w1 g 1 _ 85 (.slice A5 (s.lfs.length + 1) c5) HS1.out.1
      have hnb : NB W2 g B search m1 m2 ⟨s.lfs ++ [(kd, cl, (to : Int))], s.kns⟩ := by rw [hW2]; exact HS1.out.2.1
      have HBB2 := hid (show Below B W W2 by rw [hW2]; exact HS1.out.2.2.2.2.1)
      have HKP2 := hid (show Kp W W2 by rw [hW2]; exact HS1.out.2.2.2.2.2)
      obtain ⟨-, lv2, kv2, hg2, hlf2, hkn2⟩ := hnb
      rw [hgs] at hg2
      simp only [Option.some.injEq, Obj.cells.injEq, Array.mk.injEq, List.cons.injEq, and_true, true_and] at hg2
      obtain ⟨rfl, rfl⟩ := hg2
      obtain ⟨V, ho, hr⟩ := hkn2
      obtain ⟨n, hnn⟩ : ∃ n, n = s.kns.length := ⟨_, rfl⟩
      have HNN := hid hnn
      have ho' : W2.ownsRow B 87 3 kv n (flat3 n (knC V s.kns)) := by rw [hnn]; exact ho
      have hr' : Rows3 W2 B (2 * n) V (knZ s.kns) := by rw [hnn]; exact hr
      have hfn : frm < n := by rw [hnn]; exact HLEN.out.1
      obtain ⟨kb, kc, rfl⟩ : ∃ kb kc, kv = .slice (some ⟨kb, 0, none⟩) n kc := by
        rcases ho'.2 with ⟨-, h0⟩ | ⟨qq, cap, cur, e, -⟩
        · omega
        · exact ⟨qq, cap, e⟩
      have hcell : W2.cell? ⟨kb, frm * 3 + 1, none⟩ = some (V (2 * frm + 1)) := by
        rw [ho'.cellAt (frm * 3 + 1) (by omega), flat3_at (f := knC V s.kns) (n := n) (i := frm) (j := 1) hfn (by omega)]; rfl
      have hkbl : kb < W2.heap.size := block_lt_of_cell hcell
      obtain ⟨fv, hfv⟩ : ∃ fv, fv = V (2 * frm + 1) := ⟨_, rfl⟩
      have hro := hr'.1 (2 * frm + 1) (by omega)
      have hz : knZ s.kns (2 * frm + 1) = (kn s.kns frm).lv := by unfold knZ; rw [if_neg (by omega), show (2 * frm + 1) / 2 = frm by omega]
      rw [hz, ← hfv] at hro
      rw [← hfv] at hcell
      obtain ⟨zs, hzs⟩ : ∃ zs, zs = (kn s.kns frm).lv := ⟨_, rfl⟩
      have HZL := hid (show zs.length ≤ 1000000 by rw [hzs]; have h1 := HM.out.2.2 frm; have h2 := HMM.out; omega)
      rw [← hzs] at hro
      obtain ⟨fA, fc, hfe, -⟩ := own_arr hro
      have HFV := hid hfv
      have HZS := hid hzs
      have HFL := hid hfn
      obtain ⟨X3, hX3⟩ : ∃ X, X = (W2.alloc (.cells #[.int .i64 ((s.lfs.length : Int) + 1)] 3)).drew := ⟨_, rfl⟩
      have HBX3 := hid (show Below W2.heap.size W2 X3 by rw [hX3]; exact ((Below.refl _ _).alloc (Nat.le_refl _) _).drew)
      have HG3g := hid ((HBX3.out.block g (Array.getElem?_eq_some_iff.1 hgs).1).trans hgs)
      have HG3 := hid (show W2.cell? ⟨g, 1, none⟩ = some (.slice A5 (s.lfs.length + 1) c5) ∧ W2.cell? ⟨g, 2, none⟩ = some (.slice (some ⟨kb, 0, none⟩) n kc) from ⟨(slot5 hgs).2.1, (slot5 hgs).2.2.1⟩)
      have HG3x := hid (show X3.cell? ⟨g, 1, none⟩ = some (.slice A5 (s.lfs.length + 1) c5) ∧ X3.cell? ⟨g, 2, none⟩ = some (.slice (some ⟨kb, 0, none⟩) n kc) from ⟨(slot5 HG3g.out).2.1, (slot5 HG3g.out).2.2.1⟩)
      have HOX := hid (show X3.ownsRow B 87 3 (.slice (some ⟨kb, 0, none⟩) n kc) n (flat3 n (knC V s.kns)) by rw [hX3]; exact (ho'.alloc _).drew)
      have HRX := hid (hr'.below HBX3.out)
      have HFX := hid (show X3.ownsRow B 3 1 fv zs.length (zs.map (.int .i64)) by rw [hX3]; exact (hro.alloc _).drew)
      have HL3 := hid (show LfAt X3 B (.slice A5 (s.lfs.length + 1) c5) (s.lfs ++ [(kd, cl, (to : Int))]) by rw [hX3]; exact (World.ownsRow.alloc hlf2 _).drew)
      have HB2 := hid (show B ≤ W2.heap.size from Nat.le_trans HBS.out HBB2.out.size)
      have HCF := hid hcell
      have HCFb := hid (show (W2.alloc (.cells #[.int .i64 ((s.lfs.length : Int) + 1)] 3)).cell? ⟨kb, frm * 3 + 1, none⟩ = some fv by have h := (cell_same (o := frm * 3 + 1) (HBX3.out.block kb hkbl)).trans hcell; rw [hX3] at h; exact h)
      subst hfe
      rw [← hW2]
      clear hgs hlf2 ho hr hnn ho' hr' hfn hcell hkbl hfv hro hz hzs hW2 q0 q1 q2 j1 jf1 j0'
      have hnl : n ≤ 1000000 := by rw [HNN.out]; have h1 := HM.out.2.1; have h2 := HMM.out; omega
      have hfl := HFL.out
      refine wp_region_held_drew (S := (fun Y => Y.cell? ⟨g, 1, none⟩ = some (.slice A5 (s.lfs.length + 1) c5) ∧ Y.cell? ⟨g, 2, none⟩ = some (.slice (some ⟨kb, 0, none⟩) n kc))) (by kernel_rfl) (by exact HG3.out) (fun hHeld => ?_)
      refine wpAnyH_take (i := 0) (oi := { dst := some 30, op := Op.move (Operand.tmp 0), type := _, pos := _, after := _, guard := none }) (v := ?_) rfl (by kernel_rfl) (by kernel_rfl) (by kernel_rfl) (fun _ _ _ h => h) (Or.inl ⟨by rfl, ?_⟩) (by assumption) ?_
      rotate_left
      · intro w hSw; (try dsimp only at hSw); go_simp; try with_reducible rfl
      try simp only [Act.put, List.setIfInBounds_toArray, List.set_cons_zero, List.set_cons_succ]
      refine wpAnyH_take (i := 1) (oi := { dst := some 31, op := Op.nilCheck (Operand.tmp 30), type := _, pos := _, after := _, guard := none }) (v := ?_) rfl (by kernel_rfl) (by kernel_rfl) (by kernel_rfl) (fun _ _ _ h => h) (Or.inl ⟨by rfl, ?_⟩) (by assumption) ?_
      rotate_left
      · intro w hSw; (try dsimp only at hSw); go_simp; try with_reducible rfl
      try simp only [Act.put, List.setIfInBounds_toArray, List.set_cons_zero, List.set_cons_succ]
      refine wpAnyH_take (i := 2) (oi := { dst := some 32, op := Op.fieldAddr 85 (Operand.tmp 31) 2, type := _, pos := _, after := _, guard := none }) (v := ?_) rfl (by kernel_rfl) (by kernel_rfl) (by kernel_rfl) (fun _ _ _ h => h) (Or.inl ⟨by rfl, ?_⟩) (by assumption) ?_
      rotate_left
      · intro w hSw; (try dsimp only at hSw); go_simp; try with_reducible rfl
      try simp only [Act.put, List.setIfInBounds_toArray, List.set_cons_zero, List.set_cons_succ]
      refine wpAnyH_take (i := 3) (oi := { dst := some 33, op := Op.load 83 (Operand.tmp 32), type := _, pos := _, after := _, guard := none }) (v := ?_) rfl (by kernel_rfl) (by kernel_rfl) (by kernel_rfl) (fun _ _ _ h => h) (Or.inl ⟨by rfl, ?_⟩) (by assumption) ?_
      rotate_left
      · intro w hSw; (try dsimp only at hSw); go_simp; try with_reducible rfl
      try simp only [Act.put, List.setIfInBounds_toArray, List.set_cons_zero, List.set_cons_succ]
      refine wpAnyH_take (i := 4) (oi := { dst := some 34, op := Op.move (Operand.tmp 2), type := _, pos := _, after := _, guard := none }) (v := ?_) rfl (by kernel_rfl) (by kernel_rfl) (by kernel_rfl) (fun _ _ _ h => h) (Or.inl ⟨by rfl, ?_⟩) (by assumption) ?_
      rotate_left
      · intro w hSw; (try dsimp only at hSw); go_simp; try with_reducible rfl
      try simp only [Act.put, List.setIfInBounds_toArray, List.set_cons_zero, List.set_cons_succ]
      refine wpAnyH_take (i := 5) (oi := { dst := some 35, op := Op.move (Operand.tmp 0), type := _, pos := _, after := _, guard := none }) (v := ?_) rfl (by kernel_rfl) (by kernel_rfl) (by kernel_rfl) (fun _ _ _ h => h) (Or.inl ⟨by rfl, ?_⟩) (by assumption) ?_
      rotate_left
      · intro w hSw; (try dsimp only at hSw); go_simp; try with_reducible rfl
      try simp only [Act.put, List.setIfInBounds_toArray, List.set_cons_zero, List.set_cons_succ]
      refine wpAnyH_take (i := 6) (oi := { dst := some 36, op := Op.nilCheck (Operand.tmp 35), type := _, pos := _, after := _, guard := none }) (v := ?_) rfl (by kernel_rfl) (by kernel_rfl) (by kernel_rfl) (fun _ _ _ h => h) (Or.inl ⟨by rfl, ?_⟩) (by assumption) ?_
      rotate_left
      · intro w hSw; (try dsimp only at hSw); go_simp; try with_reducible rfl
      try simp only [Act.put, List.setIfInBounds_toArray, List.set_cons_zero, List.set_cons_succ]
      refine wpAnyH_take (i := 7) (oi := { dst := some 37, op := Op.fieldAddr 85 (Operand.tmp 36) 2, type := _, pos := _, after := _, guard := none }) (v := ?_) rfl (by kernel_rfl) (by kernel_rfl) (by kernel_rfl) (fun _ _ _ h => h) (Or.inl ⟨by rfl, ?_⟩) (by assumption) ?_
      rotate_left
      · intro w hSw; (try dsimp only at hSw); go_simp; try with_reducible rfl
      try simp only [Act.put, List.setIfInBounds_toArray, List.set_cons_zero, List.set_cons_succ]
      refine wpAnyH_take (i := 8) (oi := { dst := some 38, op := Op.load 83 (Operand.tmp 37), type := _, pos := _, after := _, guard := none }) (v := ?_) rfl (by kernel_rfl) (by kernel_rfl) (by kernel_rfl) (fun _ _ _ h => h) (Or.inl ⟨by rfl, ?_⟩) (by assumption) ?_
      rotate_left
      · intro w hSw; (try dsimp only at hSw); go_simp; try with_reducible rfl
      try simp only [Act.put, List.setIfInBounds_toArray, List.set_cons_zero, List.set_cons_succ]
      refine wpAnyH_take (i := 9) (oi := { dst := some 39, op := Op.move (Operand.tmp 2), type := _, pos := _, after := _, guard := none }) (v := ?_) rfl (by kernel_rfl) (by kernel_rfl) (by kernel_rfl) (fun _ _ _ h => h) (Or.inl ⟨by rfl, ?_⟩) (by assumption) ?_
      rotate_left
      · intro w hSw; (try dsimp only at hSw); go_simp; try with_reducible rfl
      try simp only [Act.put, List.setIfInBounds_toArray, List.set_cons_zero, List.set_cons_succ]
      refine wpAnyH_take (i := 10) (oi := { dst := some 40, op := Op.indexAddr 83 (Operand.tmp 38) (Operand.tmp 39), type := _, pos := _, after := _, guard := none }) (v := ?_) rfl (by kernel_rfl) (by kernel_rfl) (by kernel_rfl) (fun _ _ _ h => h) (Or.inl ⟨by rfl, ?_⟩) (by assumption) ?_
      rotate_left
      · intro w hSw; (try dsimp only at hSw); go_simp; try with_reducible rfl
      try simp only [Act.put, List.setIfInBounds_toArray, List.set_cons_zero, List.set_cons_succ]
      refine wpAnyH_take (i := 11) (oi := { dst := some 41, op := Op.fieldAddr 87 (Operand.tmp 40) 1, type := _, pos := _, after := _, guard := none }) (v := ?_) rfl (by kernel_rfl) (by kernel_rfl) (by kernel_rfl) (fun _ _ _ h => h) (Or.inl ⟨by rfl, ?_⟩) (by assumption) ?_
      rotate_left
      · intro w hSw; (try dsimp only at hSw); go_simp; try with_reducible rfl
      try simp only [Act.put, List.setIfInBounds_toArray, List.set_cons_zero, List.set_cons_succ]
      refine wpAnyH_take (i := 13) (oi := { dst := some 43, op := Op.move (Operand.tmp 0), type := _, pos := _, after := _, guard := none }) (v := ?_) rfl (by kernel_rfl) (by kernel_rfl) (by kernel_rfl) (fun _ _ _ h => h) (Or.inl ⟨by rfl, ?_⟩) (by assumption) ?_
      rotate_left
      · intro w hSw; (try dsimp only at hSw); go_simp; try with_reducible rfl
      try simp only [Act.put, List.setIfInBounds_toArray, List.set_cons_zero, List.set_cons_succ]
      refine wpAnyH_take (i := 14) (oi := { dst := some 44, op := Op.nilCheck (Operand.tmp 43), type := _, pos := _, after := _, guard := none }) (v := ?_) rfl (by kernel_rfl) (by kernel_rfl) (by kernel_rfl) (fun _ _ _ h => h) (Or.inl ⟨by rfl, ?_⟩) (by assumption) ?_
      rotate_left
      · intro w hSw; (try dsimp only at hSw); go_simp; try with_reducible rfl
      try simp only [Act.put, List.setIfInBounds_toArray, List.set_cons_zero, List.set_cons_succ]
      refine wpAnyH_take (i := 15) (oi := { dst := some 45, op := Op.fieldAddr 85 (Operand.tmp 44) 1, type := _, pos := _, after := _, guard := none }) (v := ?_) rfl (by kernel_rfl) (by kernel_rfl) (by kernel_rfl) (fun _ _ _ h => h) (Or.inl ⟨by rfl, ?_⟩) (by assumption) ?_
      rotate_left
      · intro w hSw; (try dsimp only at hSw); go_simp; try with_reducible rfl
      try simp only [Act.put, List.setIfInBounds_toArray, List.set_cons_zero, List.set_cons_succ]
      refine wpAnyH_take (i := 16) (oi := { dst := some 46, op := Op.load 82 (Operand.tmp 45), type := _, pos := _, after := _, guard := none }) (v := ?_) rfl (by kernel_rfl) (by kernel_rfl) (by kernel_rfl) (fun _ _ _ h => h) (Or.inl ⟨by rfl, ?_⟩) (by assumption) ?_
      rotate_left
      · intro w hSw; (try dsimp only at hSw); go_simp; try with_reducible rfl
      try simp only [Act.put, List.setIfInBounds_toArray, List.set_cons_zero, List.set_cons_succ]
      refine wpAnyH_take (i := 17) (oi := { dst := some 47, op := Op.call { callee := Callee.builtin Builtin.len, args := #[Operand.tmp 46], argTypes := #[82] }, type := _, pos := _, after := _, guard := none }) (v := ?_) rfl (by kernel_rfl) (by kernel_rfl) (by kernel_rfl) (fun _ _ _ h => h) (Or.inl ⟨by rfl, ?_⟩) (by assumption) ?_
      rotate_left
      · intro w hSw; (try dsimp only at hSw); go_simp; try with_reducible rfl
      try simp only [Act.put, List.setIfInBounds_toArray, List.set_cons_zero, List.set_cons_succ]
      refine wpAnyH_ready (rs := [12, 18]) (by kernel_rfl) (by simp) ?_
      refine AllReadyH.cons (o := { dst := some 42, op := Op.load 23 (Operand.tmp 41), type := _, pos := _, after := _, guard := none }) rfl ?legA3 (AllReadyH.cons (o := { dst := some 48, op := Op.buildSlice 23 1 #[(0, Operand.tmp 47)], type := _, pos := _, after := _, guard := none }) rfl ?legB3 AllReadyH.nil)
      case' legA3 =>
        intro K hK
        go_simp
        first | rw [HCF.out] | rw [HCFb.out]
        go_simp
        try rw [← hX3]
        refine hK.out _ _ (by first | exact HG3.out | exact HG3x.out) (fun hHeld => ?_)
        clear hK K
        try simp only [Act.put, List.setIfInBounds_toArray, List.set_cons_zero, List.set_cons_succ]
        refine wpAnyH_ready (rs := [18]) (by kernel_rfl) (by simp) ?_
        refine AllReadyH.cons (o := { dst := some 48, op := Op.buildSlice 23 1 #[(0, Operand.tmp 47)], type := _, pos := _, after := _, guard := none }) rfl (fun K hK => ?_) AllReadyH.nil
        go_simp
        rw [← hX3]
        refine hK.out _ _ (by exact HG3x.out) (fun hHeld => ?_)
        clear hK K
        try simp only [Act.put, List.setIfInBounds_toArray, List.set_cons_zero, List.set_cons_succ]
        refine wpAnyH_ready (rs := [19]) (by kernel_rfl) (by simp) ?_
        refine AllReadyH.cons (o := { dst := some 49, op := Op.call { callee := Callee.builtin Builtin.append, args := #[Operand.tmp 42, Operand.tmp 48], argTypes := #[23, 23] }, type := _, pos := _, after := _, guard := none }) rfl (fun K hK => ?_) AllReadyH.nil
        rw [if_pos (by rfl)]
        try rw [← hX3]
        refine wp_app X3 (.tmp 42) (.tmp 48) 23 rfl B 3 j0 _ 1 8 Try.underlying23 hj0 hy0 hy1 hy2 rfl (by decide) _ zs.length (zs.map (.int .i64)) rfl HFX.out _ 1 1 [.int .i64 ((s.lfs.length : Int) + 1)] rfl (by rw [hX3]; exact src_new W2 #[.int .i64 ((s.lfs.length : Int) + 1)] 3 1 rfl) (one_nums _ [((s.lfs.length : Int) + 1)]) (by simp only [maxLen]; have := HZL.out; omega) (by have := HZL.out; omega) (Nat.le_trans HB2.out HBX3.out.size) ?_
        intro v' w3 hown hgrow hat
        have hst := leaf_step2 (w := W2) (search := search) (m1 := m1) (m2 := m2) (frm := frm) (s := ⟨s.lfs ++ [(kd, cl, (to : Int))], s.kns⟩) rfl HOX.out HNN.out HRX.out HFL.out HFV.out HZS.out HG3g.out HL3.out HB2.out HBG.out HBX3.out hgrow hat hown
        obtain ⟨A6, c6, rfl, -⟩ := own_arr hown
        have HS3 := hid hst
        obtain ⟨uu, hu1, hu2⟩ := hst.2.1
        clear hst hown hgrow hat
        try clear hX3
        refine hK.out _ _ (by exact ⟨(slot5 HS3.out.1).2.1, (slot5 HS3.out.1).2.2.1⟩) (fun hHeld => ?_)
        clear hK K
        try simp only [Act.put, List.setIfInBounds_toArray, List.set_cons_zero, List.set_cons_succ]
        refine wpAnyH_take (i := 20) (oi := { dst := some 50, op := Op.indexAddr 83 (Operand.tmp 33) (Operand.tmp 34), type := _, pos := _, after := _, guard := none }) (v := ?_) rfl (by kernel_rfl) (by kernel_rfl) (by kernel_rfl) (fun _ _ _ h => h) (Or.inl ⟨by rfl, ?_⟩) (by assumption) ?_
        rotate_left
        · intro w hSw; (try dsimp only at hSw); go_simp; try with_reducible rfl
        try simp only [Act.put, List.setIfInBounds_toArray, List.set_cons_zero, List.set_cons_succ]
        refine wpAnyH_take (i := 21) (oi := { dst := some 51, op := Op.fieldAddr 87 (Operand.tmp 50) 1, type := _, pos := _, after := _, guard := none }) (v := ?_) rfl (by kernel_rfl) (by kernel_rfl) (by kernel_rfl) (fun _ _ _ h => h) (Or.inl ⟨by rfl, ?_⟩) (by assumption) ?_
        rotate_left
        · intro w hSw; (try dsimp only at hSw); go_simp; try with_reducible rfl
        try simp only [Act.put, List.setIfInBounds_toArray, List.set_cons_zero, List.set_cons_succ]
        refine wpAnyH_ready (rs := [22]) (by kernel_rfl) (by simp) ?_
        refine AllReadyH.cons (o := { dst := none, op := Op.store 23 (Operand.tmp 51) (Operand.tmp 49), type := _, pos := _, after := _, guard := none }) rfl (fun K hK => ?_) AllReadyH.nil
        go_simp
        refine hK.out _ _ (by exact ⟨(slot5 HS3.out.2.2.1).2.1, (slot5 HS3.out.2.2.1).2.2.1⟩) (fun hHeld => ?_)
        clear hK K
        try simp only [Act.put, List.setIfInBounds_toArray, List.set_cons_zero, List.set_cons_succ]
        refine wpAnyH_done (by kernel_rfl) ?_ _
      case' legB3 =>
        intro K hK
        go_simp
        rw [← hX3]
        refine hK.out _ _ (by exact HG3x.out) (fun hHeld => ?_)
        clear hK K
        try simp only [Act.put, List.setIfInBounds_toArray, List.set_cons_zero, List.set_cons_succ]
        refine wpAnyH_ready (rs := [12]) (by kernel_rfl) (by simp) ?_
        refine AllReadyH.cons (o := { dst := some 42, op := Op.load 23 (Operand.tmp 41), type := _, pos := _, after := _, guard := none }) rfl (fun K hK => ?_) AllReadyH.nil
        go_simp
        first | rw [HCF.out] | rw [HCFb.out]
        go_simp
        try rw [← hX3]
        refine hK.out _ _ (by first | exact HG3.out | exact HG3x.out) (fun hHeld => ?_)
        clear hK K
        try simp only [Act.put, List.setIfInBounds_toArray, List.set_cons_zero, List.set_cons_succ]
        refine wpAnyH_ready (rs := [19]) (by kernel_rfl) (by simp) ?_
        refine AllReadyH.cons (o := { dst := some 49, op := Op.call { callee := Callee.builtin Builtin.append, args := #[Operand.tmp 42, Operand.tmp 48], argTypes := #[23, 23] }, type := _, pos := _, after := _, guard := none }) rfl (fun K hK => ?_) AllReadyH.nil
        rw [if_pos (by rfl)]
        try rw [← hX3]
        refine wp_app X3 (.tmp 42) (.tmp 48) 23 rfl B 3 j0 _ 1 8 Try.underlying23 hj0 hy0 hy1 hy2 rfl (by decide) _ zs.length (zs.map (.int .i64)) rfl HFX.out _ 1 1 [.int .i64 ((s.lfs.length : Int) + 1)] rfl (by rw [hX3]; exact src_new W2 #[.int .i64 ((s.lfs.length : Int) + 1)] 3 1 rfl) (one_nums _ [((s.lfs.length : Int) + 1)]) (by simp only [maxLen]; have := HZL.out; omega) (by have := HZL.out; omega) (Nat.le_trans HB2.out HBX3.out.size) ?_
        intro v' w3 hown hgrow hat
        have hst := leaf_step2 (w := W2) (search := search) (m1 := m1) (m2 := m2) (frm := frm) (s := ⟨s.lfs ++ [(kd, cl, (to : Int))], s.kns⟩) rfl HOX.out HNN.out HRX.out HFL.out HFV.out HZS.out HG3g.out HL3.out HB2.out HBG.out HBX3.out hgrow hat hown
        obtain ⟨A6, c6, rfl, -⟩ := own_arr hown
        have HS3 := hid hst
        obtain ⟨uu, hu1, hu2⟩ := hst.2.1
        clear hst hown hgrow hat
        try clear hX3
        refine hK.out _ _ (by exact ⟨(slot5 HS3.out.1).2.1, (slot5 HS3.out.1).2.2.1⟩) (fun hHeld => ?_)
        clear hK K
        try simp only [Act.put, List.setIfInBounds_toArray, List.set_cons_zero, List.set_cons_succ]
        refine wpAnyH_take (i := 20) (oi := { dst := some 50, op := Op.indexAddr 83 (Operand.tmp 33) (Operand.tmp 34), type := _, pos := _, after := _, guard := none }) (v := ?_) rfl (by kernel_rfl) (by kernel_rfl) (by kernel_rfl) (fun _ _ _ h => h) (Or.inl ⟨by rfl, ?_⟩) (by assumption) ?_
        rotate_left
        · intro w hSw; (try dsimp only at hSw); go_simp; try with_reducible rfl
        try simp only [Act.put, List.setIfInBounds_toArray, List.set_cons_zero, List.set_cons_succ]
        refine wpAnyH_take (i := 21) (oi := { dst := some 51, op := Op.fieldAddr 87 (Operand.tmp 50) 1, type := _, pos := _, after := _, guard := none }) (v := ?_) rfl (by kernel_rfl) (by kernel_rfl) (by kernel_rfl) (fun _ _ _ h => h) (Or.inl ⟨by rfl, ?_⟩) (by assumption) ?_
        rotate_left
        · intro w hSw; (try dsimp only at hSw); go_simp; try with_reducible rfl
        try simp only [Act.put, List.setIfInBounds_toArray, List.set_cons_zero, List.set_cons_succ]
        refine wpAnyH_ready (rs := [22]) (by kernel_rfl) (by simp) ?_
        refine AllReadyH.cons (o := { dst := none, op := Op.store 23 (Operand.tmp 51) (Operand.tmp 49), type := _, pos := _, after := _, guard := none }) rfl (fun K hK => ?_) AllReadyH.nil
        go_simp
        refine hK.out _ _ (by exact ⟨(slot5 HS3.out.2.2.1).2.1, (slot5 HS3.out.2.2.1).2.2.1⟩) (fun hHeld => ?_)
        clear hK K
        try simp only [Act.put, List.setIfInBounds_toArray, List.set_cons_zero, List.set_cons_succ]
        refine wpAnyH_done (by kernel_rfl) ?_ _
      all_goals
        go_wp2_with fail
        go_end0
        refine ⟨rfl, ?_, HBw.out.trans (HBB2.out.trans HS3.out.2.2.2.2.1), (Kp.below HBW.out).trans (HKP2.out.trans HS3.out.2.2.2.2.2)⟩
        rw [HRES.out]
        exact HS3.out.2.2.2.1
end Go.Proofs.Ythdhbkngbmjjkaa
