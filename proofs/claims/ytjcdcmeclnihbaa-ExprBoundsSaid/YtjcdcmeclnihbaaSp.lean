/- How long the shortest list is, and the longest; what an expression with a Maybe or a Star about it matches. Conditions: the arguments lie in memory. -/
import Derived.Test.YtjcdcmeclnihbaaLx
namespace Go.Proofs.Ytjcdcmeclnihbaa
def headOr {T : Type} (f : T → Int) : List T → Int
  | [] => 0
  | k :: _ => f k
def shortS {T : Type} (f : T → Int) : List T → Int
  | [] => 0
  | k :: r => f k + shortS f r
def shortM {T : Type} (f : T → Int) : Int → List T → Int
  | z, [] => z
  | z, k :: r => shortM f (min z (f k)) r
def shortT : (d : Nat) → Tr d → Int
  | 0, _ => 0
  | d + 1, t => if Tr.kind t = 6 ∨ Tr.kind t = 8 ∨ Tr.kind t = 9 then 0 else if Tr.kind t = 7 then headOr (fun k => shortT d k) (Tr.kids t)
    else if Tr.kind t = 4 then shortS (fun k => shortT d k) (Tr.kids t) else if Tr.kind t = 5 then shortM (fun k => shortT d k) (headOr (fun k => shortT d k) (Tr.kids t)) (Tr.kids t).tail else 1
theorem shortS_bd {T : Type} {f : T → Int} {c : T → Nat} (hf : ∀ k, 0 ≤ f k ∧ f k ≤ c k) (l : List T) : 0 ≤ shortS f l ∧ shortS f l ≤ cntL c l := by
  induction l with
  | nil => simp [shortS, cntL]
  | cons k r ih =>
    have := hf k
    simp only [shortS, cntL]
    omega
theorem headOr_bd {T : Type} {f : T → Int} {c : T → Nat} (hf : ∀ k, 0 ≤ f k ∧ f k ≤ c k) (l : List T) : 0 ≤ headOr f l ∧ headOr f l ≤ cntL c l := by
  cases l with
  | nil => simp [headOr, cntL]
  | cons k r => have := hf k; simp only [headOr, cntL]; omega
theorem shortM_bd {T : Type} {f : T → Int} (hf : ∀ k, 0 ≤ f k) (l : List T) : ∀ z : Int, 0 ≤ z → 0 ≤ shortM f z l ∧ shortM f z l ≤ z ∧ ∀ x ∈ l, shortM f z l ≤ f x := by
  induction l with
  | nil => intro z h; exact ⟨h, Int.le_refl _, fun x hx => (by cases hx)⟩
  | cons k r ih =>
    intro z h
    have hk := hf k
    obtain ⟨h1, h2, h3⟩ := ih (min z (f k)) (by omega)
    simp only [shortM]
    refine ⟨h1, by omega, fun x hx => ?_⟩
    rcases List.mem_cons.1 hx with rfl | hx
    · omega
    · exact h3 x hx
theorem shortT_bd : ∀ (d : Nat) (t : Tr d), 0 ≤ shortT d t ∧ shortT d t ≤ cnt d t := by
  intro d
  induction d with
  | zero => intro t; exact t.elim
  | succ d ih =>
    intro t
    have h1 := shortS_bd (f := fun k => shortT d k) (c := fun k => cnt d k) ih (Tr.kids t)
    have h2 := headOr_bd (f := fun k => shortT d k) (c := fun k => cnt d k) ih (Tr.kids t)
    have h3 := shortM_bd (f := fun k => shortT d k) (fun k => (ih k).1) (Tr.kids t).tail _ h2.1
    simp only [shortT, cnt]
    repeat' split
    all_goals omega
/-- The shortest list bounds a way. -/
theorem lead_short : ∀ (d : Nat) (t : Tr d) (on : Bool) (marks : List Int) (i j : Nat), fitsT d on t = true → Lead d t marks i j → (i : Int) + shortT d t ≤ j := by
  intro d
  induction d with
  | zero => intro t; exact t.elim
  | succ d ih =>
    intro t on marks i j hfit h
    have hk2 := fun x hx => fitsT_kid hfit (x := x) hx
    have hle : (i : Int) ≤ j := by exact_mod_cast Lead.le (d + 1) t marks i j h
    simp only [Lead, leadK] at h
    simp only [shortT]
    by_cases h689 : Tr.kind t = 6 ∨ Tr.kind t = 8 ∨ Tr.kind t = 9
    · rw [if_pos h689]; omega
    rw [if_neg h689]
    have h6 : ¬ Tr.kind t = 6 := by omega
    have h8 : ¬ Tr.kind t = 8 := by omega
    have h9 : ¬ Tr.kind t = 9 := by omega
    by_cases h7 : Tr.kind t = 7
    · rw [if_pos h7]
      rw [if_neg (by omega), if_neg (by omega), if_neg h6, if_pos h7] at h
      obtain ⟨k, hk, hp⟩ := h
      obtain ⟨m, h1, h2⟩ := hp.split
      obtain ⟨r, hr⟩ : ∃ r, Tr.kids t = k :: r := by
        cases hl : Tr.kids t with
        | nil => rw [hl] at hk; cases hk
        | cons x r => rw [hl] at hk; cases hk; exact ⟨r, rfl⟩
      have e1 := ih k true marks i m (hk2 k (by rw [hr]; exact List.mem_cons_self)) h1
      have e2 : m ≤ j := by
        rcases h2 with rfl | ⟨s, h2⟩
        · exact Nat.le_refl _
        · exact Pw.le (fun i j h => Lead.le d k marks i j h) s m j h2
      rw [hr]
      show (i : Int) + shortT d k ≤ j
      omega
    rw [if_neg h7]
    by_cases h4 : Tr.kind t = 4
    · rw [if_pos h4] at h ⊢
      have key : ∀ (l : List (Tr d)), (∀ x ∈ l, fitsT d true x = true) → ∀ i, Chain (fun k i j => Lead d k marks i j) l i j → (i : Int) + shortS (fun k => shortT d k) l ≤ j := by
        intro l
        induction l with
        | nil => rintro _ i rfl; simp [shortS]
        | cons x l ihl =>
          rintro hx i ⟨m, h1, h2⟩
          have e1 := ih x true marks i m (hx x List.mem_cons_self) h1
          have e2 := ihl (fun y hy => hx y (List.mem_cons_of_mem _ hy)) m h2
          simp only [shortS]
          omega
      exact key (Tr.kids t) hk2 i h
    rw [if_neg h4] at h ⊢
    by_cases h5 : Tr.kind t = 5
    · rw [if_pos h5] at h ⊢
      obtain ⟨x, hx, h⟩ := h
      have e1 := ih x true marks i j (hk2 x hx) h
      have h2 := headOr_bd (f := fun k => shortT d k) (c := fun k => cnt d k) (shortT_bd d) (Tr.kids t)
      obtain ⟨h3, h4, h5⟩ := shortM_bd (f := fun k => shortT d k) (fun k => (shortT_bd d k).1) (Tr.kids t).tail _ h2.1
      cases hl : Tr.kids t with
      | nil => rw [hl] at hx; cases hx
      | cons y r =>
        rw [hl] at hx h3 h4 h5
        simp only [headOr, List.tail_cons] at h3 h4 h5 ⊢
        rcases List.mem_cons.1 hx with rfl | hx
        · omega
        · have := h5 x hx
          omega
    rw [if_neg h5] at h ⊢
    rw [if_neg h6, if_neg h7, if_neg h8, if_neg h9] at h
    omega
/-- An expression with a Maybe about it; with a Star about it. -/
def maybeT {d : Nat} (t : Tr d) : Tr (d + 1) := ((8, 0, [t]) : Int × Int × List (Tr d))
def starT {d : Nat} (t : Tr d) : Tr (d + 1) := ((6, 0, [t]) : Int × Int × List (Tr d))
theorem lead_maybe {d : Nat} (t : Tr d) (m : List Int) (i j : Nat) : Lead (d + 1) (maybeT t) m i j ↔ i = j ∨ Lead d t m i j := by
  show leadK 8 0 [t] _ m i j ↔ _
  unfold leadK
  simp
theorem lead_star {d : Nat} (t : Tr d) (m : List Int) (i j : Nat) : Lead (d + 1) (starT t) m i j ↔ i = j ∨ Plus (Lead d t m) i j := by
  show leadK 6 0 [t] _ m i j ↔ _
  unfold leadK
  simp
theorem fits_wrap {d : Nat} {t : Tr d} (h : fitsT d true t = true) : fitsT (d + 1) false (maybeT t) = true ∧ fitsT (d + 1) false (starT t) = true := by
  constructor
  · show (fitB false 8 0 1 && [t].all (fun x => fitsT d true x)) = true
    simp [h, fitB, least, most]
  · show (fitB false 6 0 1 && [t].all (fun x => fitsT d true x)) = true
    simp [h, fitB, least, most]
theorem cnt_wrap {d : Nat} (t : Tr d) : cnt (d + 1) (maybeT t) = cnt d t + 1 ∧ cnt (d + 1) (starT t) = cnt d t + 1 := by
  constructor
  · show 1 + cntL _ [t] = _; simp only [cntL]; omega
  · show 1 + cntL _ [t] = _; simp only [cntL]; omega
theorem right_cnt {d : Nat} {t : Tr d} (h : cnt d t ≤ 2000) (hf : fitsT d false t = true) : rightT d t = true := by
  unfold rightT
  rw [decide_eq_true (by rw [sizeT_le (by decide)]; omega), hf]
  rfl
theorem fits_in {d : Nat} {t : Tr (d + 1)} (h : fitsT (d + 1) false t = true) (hk : Tr.kind t ≠ 9) : fitsT (d + 1) true t = true := by
  have h2 : (fitB false (Tr.kind t) (Tr.cls t) (Tr.kids t).length && (Tr.kids t).all (fun x => fitsT d true x)) = true := h
  show (fitB true (Tr.kind t) (Tr.cls t) (Tr.kids t).length && (Tr.kids t).all (fun x => fitsT d true x)) = true
  rw [Bool.and_eq_true] at h2 ⊢
  refine ⟨?_, h2.2⟩
  have h3 := h2.1
  unfold fitB at h3 ⊢
  rw [decide_eq_false hk] at h3 ⊢
  exact h3
theorem m_maybe {d : Nat} {t : Tr d} (hn : cnt d t ≤ 1000) (hr : rightT d t = true) (hf : fitsT d true t = true) (m : List Int) : matchesT (maybeT t) m = (matchesT t m || decide (m.length = 0)) := by
  have hw := fits_wrap hf
  have hc := cnt_wrap t
  have h1 := matches_is (right_cnt (by omega) hw.1) m
  have h2 := matches_is hr m
  rw [lead_maybe] at h1
  refine bool_eq ?_
  rw [h1, Bool.or_eq_true, decide_eq_true_eq, h2]
  constructor
  · rintro (h | h)
    · exact .inr h.symm
    · exact .inl h
  · rintro (h | h)
    · exact .inr h
    · exact .inl h.symm
theorem m_star {d : Nat} {t : Tr d} (hn : cnt d t ≤ 1000) (hr : rightT d t = true) (hf : fitsT d true t = true) (m : List Int) (h : matchesT t m = true) : matchesT (starT t) m = true ∧ matchesT (starT t) (m ++ m) = true := by
  have hw := fits_wrap hf
  have hc := cnt_wrap t
  have h2 := (matches_is hr m).1 h
  rw [matches_is (right_cnt (by omega) hw.2) m, matches_is (right_cnt (by omega) hw.2) (m ++ m), lead_star, lead_star]
  refine ⟨.inr ⟨0, h2⟩, .inr ⟨1, m.length, ?_, ?_⟩⟩
  · exact (Lead.local 0 d t m (m ++ m) 0 m.length (fun p _ hp => by rw [Nat.add_zero, List.getElem?_append_left hp])).1 h2
  · have := (Lead.local m.length d t m (m ++ m) 0 m.length (fun p _ hp => by rw [List.getElem?_append_right (by omega), Nat.add_sub_cancel])).1 h2
    rw [Nat.zero_add] at this
    rw [List.length_append]
    exact this
theorem m_star0 {d : Nat} {t : Tr d} (hn : cnt d t ≤ 1000) (hf : fitsT d true t = true) : matchesT (starT t) [] = true := by
  have hw := fits_wrap hf
  have hc := cnt_wrap t
  rw [matches_is (right_cnt (by omega) hw.2) [], lead_star]
  exact .inl rfl
theorem m_bounds {d : Nat} {t : Tr d} (hr : rightT d t = true) (m : List Int) (h : matchesT t m = true) : shortT d t ≤ m.length ∧ (0 ≤ longT d t → (m.length : Int) ≤ longT d t) := by
  have h2 := (matches_is hr m).1 h
  have hff := (rightT_cnt hr).2
  refine ⟨?_, fun hl => ?_⟩
  · have := lead_short d t false m 0 m.length hff h2; omega
  · have := lead_long d t false m 0 m.length hff hl h2; omega
end Go.Proofs.Ytjcdcmeclnihbaa
namespace Go.Proofs.Ytjcdcmeclnihbaa
open Go.RowKit
set_option linter.unusedSimpArgs false
theorem min_if (y q : Int) : (if q < y then q else y) = min y q := by simp only [Int.min_def]; split <;> split <;> omega
theorem cntL_step {T : Type} {c : T → Nat} {l : List T} {k : Nat} (h : k < l.length) : cntL c (l.drop k) = c l[k] + cntL c (l.drop (k + 1)) := by
  rw [List.drop_eq_getElem_cons h]; rfl
theorem shortS_step {T : Type} {f : T → Int} {l : List T} {k : Nat} (h : k < l.length) : shortS f (l.drop k) = f l[k] + shortS f (l.drop (k + 1)) := by
  rw [List.drop_eq_getElem_cons h]; rfl
theorem shortM_step {T : Type} {f : T → Int} {l : List T} {k : Nat} (z : Int) (h : k < l.length) : shortM f z (l.drop k) = shortM f (min z (f l[k])) (l.drop (k + 1)) := by
  rw [List.drop_eq_getElem_cons h]; rfl
set_option maxRecDepth 100000 in
set_option maxHeartbeats 2000000 in
theorem shortest_any (S : Nat → Prop) : ∀ (d : Nat) (v : Value) (t : Tr d) (on : Bool) (w : World), IsTr w S d v t → fitsT d on t = true → cnt d t ≤ 2000 →
    Calls Try.prog 59 #[v] w fun e w' => e = .returned (.int .i64 (shortT d t)) ∧ Below w.heap.size w w' := by
  intro d
  induction d with
  | zero => intro v t; exact t.elim
  | succ d ih =>
    intro v t on w h hfit hn
    obtain ⟨A, c, rfl, hle, hkids⟩ := h.open
    have hcap : (Tr.kids t).length ≤ c := by obtain ⟨A', c', e, h1, -⟩ := h; cases e; exact h1
    have hkd1 := fitsT_kind hfit
    have hkd2 := fun x hx => fitsT_kid hfit (x := x) hx
    obtain ⟨kd, hkd⟩ : ∃ kd, kd = Tr.kind t := ⟨_, rfl⟩
    obtain ⟨cl, hcl⟩ : ∃ cl, cl = Tr.cls t := ⟨_, rfl⟩
    obtain ⟨l, hl⟩ : ∃ l, l = Tr.kids t := ⟨_, rfl⟩
    have hres := hid (show shortT (d + 1) t = if kd = 6 ∨ kd = 8 ∨ kd = 9 then 0 else if kd = 7 then headOr (fun k => shortT d k) l else if kd = 4 then shortS (fun k => shortT d k) l else if kd = 5 then shortM (fun k => shortT d k) (headOr (fun k => shortT d k) l) l.tail else 1 by rw [hkd, hl]; rfl)
    have HN := hid (show cntL (fun k => cnt d k) l ≤ 2000 by rw [hl]; simp only [cnt] at hn; omega)
    rw [← hkd, ← hl] at hkd1
    rw [← hl] at hkd2 hcap
    have HF := hid hkd2
    rw [← hkd, ← hcl]
    rw [← hl] at hle hkids ⊢
    clear hkd hcl h hl hn hfit hkd2
    obtain ⟨W, hW0⟩ : ∃ W, W = w.alloc (.cells #[.int .i64 kd, .int .i64 cl, .slice A l.length c] 45) := ⟨_, rfl⟩
    have HX := hid (box3 hW0)
    have HK := hid (hkids.below HX.out.1)
    have IH := hid ih
    clear hkids ih
    by_cases h689 : kd = 6 ∨ kd = 8 ∨ kd = 9
    · have HE := hid (show (0 : Int) = shortT (d + 1) t by rw [hres.out, if_pos h689])
      rcases h689 with rfl | rfl | rfl
      all_goals
        clear hkd1
        go_enter Try.func59, Try.ntmps59
        go_wp2_with fail
        go_ret
        exact ⟨ret_int HE.out, by rw [← hW0]; exact HX.out.1⟩
    by_cases h7 : kd = 7
    · subst h7
      have HL0 := hid (show 0 < l.length by have h2 : (1 : Int) ≤ l.length := hkd1.2.2.1; omega)
      obtain ⟨x, r, hxr⟩ : ∃ x r, l = x :: r := by
        cases l with
        | nil => exact absurd HL0.out (by simp)
        | cons x r => exact ⟨x, r, rfl⟩
      have HE := hid (show shortT d x = shortT (d + 1) t by rw [hres.out, hxr]; rfl)
      obtain ⟨b, o, v0, v1, v2, rfl, -, hbs, c0, c1, c2, ht⟩ := HK.out.at (show l[0]? = some x by rw [hxr]; rfl)
      obtain ⟨k0, k1, A2, n2, cp2, rfl, rfl, rfl⟩ := ht.cells
      rw [Nat.zero_mul, Nat.add_zero] at c0 c1 c2
      have HC := hid (IH.out _ x true W ht (HF.out x (by rw [hxr]; exact List.mem_cons_self)) (by have h1 := cntL_mem (f := fun k => cnt d k) (show x ∈ l by rw [hxr]; exact List.mem_cons_self); have h2 := HN.out; omega))
      obtain ⟨n0, hn0⟩ : ∃ n, n = l.length := ⟨_, rfl⟩
      have hpos : 0 < n0 := by have := HL0.out; omega
      rw [← hn0] at hW0 HX ⊢
      rw [hW0] at c0 c1 c2
      clear hkd1 ht hxr hcap hn0
      go_enter Try.func59, Try.ntmps59
      go_wp2_with fail
      rw [← hW0]
      refine HC.out.mono ?_
      rintro e w1 ⟨rfl, hb1⟩
      have HB1 := hid (HX.out.1.trans (hb1.mono HX.out.1.size))
      clear hb1
      go_wp2_with fail
      go_ret
      exact ⟨ret_int HE.out, HB1.out⟩
    by_cases h4 : kd = 4
    · subst h4
      have hr2 := hid (show shortT (d + 1) t = shortS (fun k => shortT d k) l by rw [hres.out]; rfl)
      clear h689 h7 hkd1 hcap
      go_enter Try.func59, Try.ntmps59
      go_wp2_with fail
      rw [← hW0]
      clear hW0
      obtain ⟨i0, i1, i2⟩ := HX.out.2 W (Below.refl _ _)
      go_wp2_with fail
      go_loopw [3, 27] (fun s3 s27 wr => ∃ (k : Nat) (z : Int), k ≤ l.length ∧ s27 = .int .i64 k ∧ s3 = .int .i64 z ∧ 0 ≤ z ∧ Hid (z + cntL (fun k => cnt d k) (l.drop k) ≤ 2000) ∧
        Hid (z + shortS (fun k => shortT d k) (l.drop k) = shortT (d + 1) t) ∧ Hid (Below W.heap.size W wr)) (fun _ s27 _ => l.length - (intOf s27).toNat)
      case atStart => exact ⟨0, 0, by omega, rfl, rfl, by omega, hid (by have := HN.out; rw [List.drop_zero]; omega), hid (by rw [hr2.out, List.drop_zero]; omega), hid (Below.refl _ _)⟩
      case round =>
        obtain ⟨k, z, hk, rfl, rfl, hz0, HZ, HT, HW⟩ := hrel
        clear i0 i1 i2
        by_cases hlt : k < l.length
        · obtain ⟨b, o, v0, v1, v2, rfl, -, hbs, c0, c1, c2, ht⟩ := (HK.out.below HW.out).at (List.getElem?_eq_getElem hlt)
          obtain ⟨k0, k1, A2, n2, cp2, rfl, rfl, rfl⟩ := ht.cells
          have HTr := hid ht
          have HC := hid (cntL_step (c := fun k => cnt d k) hlt)
          have HS := hid (shortS_step (f := fun k => shortT d k) hlt)
          have HFk := hid (HF.out _ (List.getElem_mem hlt))
          obtain ⟨X, hX⟩ : ∃ X, X = wr.alloc (.cells #[.int .i64 k0, .int .i64 k1, .slice A2 n2 cp2] 45) := ⟨_, rfl⟩
          have HXb := hid (box3 hX).1
          have HXV := hid hX
          have HWX := hid (HW.out.trans (HXb.out.mono HW.out.size))
          obtain ⟨q, hq⟩ : ∃ q, q = shortT d l[k] := ⟨_, rfl⟩
          have hqb := shortT_bd d l[k]
          rw [← hq] at hqb
          have HQ := hid hq
          have HCL := hid (IH.out _ l[k] true X (HTr.out.below HXb.out) HFk.out (by have := HC.out; have := HZ.out; omega))
          rw [← hq] at HCL
          have hz1 : z + q ≤ 2000 := by have := HC.out; have := HZ.out; omega
          have hq0 : 0 ≤ q := hqb.1
          have HZ2 := hid (show z + q + cntL (fun k => cnt d k) (l.drop (k + 1)) ≤ 2000 by have := HC.out; have := HZ.out; omega)
          have HT2 := hid (show z + q + shortS (fun k => shortT d k) (l.drop (k + 1)) = shortT (d + 1) t by have h1 := HT.out; rw [HS.out, ← hq] at h1; omega)
          clear ht hX hq hqb
          go_wp2_with fail
          rw [← HXV.out]
          refine HCL.out.mono ?_
          rintro e w1 ⟨rfl, hb1⟩
          have HB1 := hid (HWX.out.trans (hb1.mono HWX.out.size))
          clear hb1
          go_wp2_with fail
          go_roundw
          case rel => exact ⟨k + 1, z + q, by omega, by go_num, rfl, by omega, HZ2, HT2, HB1⟩
          case measure => simp [intOf]; omega
        · have HE := hid (show z = shortT (d + 1) t by
            rw [← HT.out, List.drop_eq_nil_of_le (by omega)]; simp [shortS])
          go_wp2_with fail
          go_ret
          exact ⟨ret_int HE.out, HX.out.1.trans (HW.out.mono HX.out.1.size)⟩
    by_cases h5 : kd = 5
    · subst h5
      have hr2 := hid (show shortT (d + 1) t = shortM (fun k => shortT d k) (headOr (fun k => shortT d k) l) l.tail by rw [hres.out]; rfl)
      have HL0 := hid (show 2 ≤ l.length by have h2 : (2 : Int) ≤ l.length := hkd1.2.2.1; omega)
      obtain ⟨x, r, hxr⟩ : ∃ x r, l = x :: r := by
        cases l with
        | nil => exact absurd HL0.out (by simp)
        | cons x r => exact ⟨x, r, rfl⟩
      obtain ⟨b, o, v0, v1, v2, rfl, -, hbs, c0, c1, c2, ht⟩ := HK.out.at (show l[0]? = some x by rw [hxr]; rfl)
      obtain ⟨k0, k1, A2, n2, cp2, rfl, rfl, rfl⟩ := ht.cells
      rw [Nat.zero_mul, Nat.add_zero] at c0 c1 c2
      obtain ⟨z0, hz0⟩ : ∃ z, z = shortT d x := ⟨_, rfl⟩
      have hzb := shortT_bd d x
      have HCX := hid (show cnt d x ≤ 2000 by have h1 := cntL_mem (f := fun k => cnt d k) (show x ∈ l by rw [hxr]; exact List.mem_cons_self); have h2 := HN.out; omega)
      have HC := hid (IH.out _ x true W ht (HF.out x (by rw [hxr]; exact List.mem_cons_self)) HCX.out)
      rw [← hz0] at HC hzb
      have hz1 : 0 ≤ z0 := hzb.1
      have hz2 : z0 ≤ 2000 := by have := HCX.out; omega
      have HST := hid (show shortM (fun k => shortT d k) z0 (l.drop 1) = shortT (d + 1) t by rw [hr2.out, hz0, hxr]; rfl)
      obtain ⟨n0, hn0⟩ : ∃ n, n = l.length := ⟨_, rfl⟩
      have HN0 := hid hn0
      have hpos : 2 ≤ n0 := by have := HL0.out; omega
      have hc1 : ¬ c = 1 := by omega
      have hc2 : 1 ≤ c := by omega
      have hcn : n0 ≤ c := by omega
      have hnb : n0 ≤ 9223372036854775807 := by omega
      rw [← hn0] at hW0 HX ⊢
      rw [hW0] at c0 c1 c2
      clear h689 h7 h4 hkd1 hcap ht hxr hn0 hz0 hzb
      go_enter Try.func59, Try.ntmps59
      go_wp2_with fail
      rw [← hW0]
      refine HC.out.mono ?_
      rintro e w1 ⟨rfl, hb1⟩
      have HB1 := hid hb1
      obtain ⟨j0, j1, j2⟩ := HX.out.2 w1 hb1
      clear hb1 c0 c1 c2 hW0
      go_wp2_with fail
      clear j0 j1 j2
      go_loopw [6, 48] (fun s6 s48 wr => ∃ (k : Nat) (z : Int), k ≤ n0 - 1 ∧ s48 = .int .i64 k ∧ s6 = .int .i64 z ∧ 0 ≤ z ∧ z ≤ 2000 ∧
        Hid (shortM (fun k => shortT d k) z (l.drop (1 + k)) = shortT (d + 1) t) ∧ Hid (Below W.heap.size W wr)) (fun _ s48 _ => n0 - 1 - (intOf s48).toNat)
      case atStart => exact ⟨0, z0, by omega, rfl, rfl, hz1, hz2, hid HST.out, HB1⟩
      case round =>
        obtain ⟨k, z, hk, rfl, rfl, hz3, hz4, HT, HW⟩ := hrel
        by_cases hlt : k < n0 - 1
        · have hlt2 : 1 + k < l.length := by have := HN0.out; omega
          obtain ⟨b', o', v0, v1, v2, e, -, hbs, c0, c1, c2, ht⟩ := (HK.out.below HW.out).at (List.getElem?_eq_getElem hlt2)
          obtain ⟨rfl, rfl⟩ : b = b' ∧ o = o' := by injection e with e; injection e with e1 e2; exact ⟨e1, e2⟩
          obtain ⟨k0, k1, A2, n2, cp2, rfl, rfl, rfl⟩ := ht.cells
          rw [show o + (1 + k) * 3 = o + 3 + k * 3 by omega] at c0 c1 c2
          have HTr := hid ht
          have HFk := hid (HF.out _ (List.getElem_mem hlt2))
          obtain ⟨X, hX⟩ : ∃ X, X = wr.alloc (.cells #[.int .i64 k0, .int .i64 k1, .slice A2 n2 cp2] 45) := ⟨_, rfl⟩
          have HXb := hid (box3 hX).1
          have HXV := hid hX
          have HWX := hid (HW.out.trans (HXb.out.mono HW.out.size))
          obtain ⟨q, hq⟩ : ∃ q, q = shortT d l[1 + k] := ⟨_, rfl⟩
          have hqb := shortT_bd d l[1 + k]
          rw [← hq] at hqb
          have hq0 : 0 ≤ q := hqb.1
          have HCk := hid (show cnt d l[1 + k] ≤ 2000 by have h1 := cntL_mem (f := fun k => cnt d k) (List.getElem_mem hlt2); have h2 := HN.out; omega)
          have HCL := hid (IH.out _ l[1 + k] true X (HTr.out.below HXb.out) HFk.out HCk.out)
          rw [← hq] at HCL
          have HT2 := hid (show shortM (fun k => shortT d k) (min z q) (l.drop (1 + (k + 1))) = shortT (d + 1) t by
            have h1 := HT.out
            rw [shortM_step (f := fun k => shortT d k) z hlt2, ← hq] at h1
            exact h1)
          clear ht hX hq hqb e
          go_wp2_with fail
          rw [← HXV.out]
          refine HCL.out.mono ?_
          rintro e w2 ⟨rfl, hb2⟩
          have HB2 := hid (HWX.out.trans (hb2.mono HWX.out.size))
          clear hb2
          go_wp2_with fail
          go_roundw
          case rel => exact ⟨k + 1, min z q, by omega, by go_num, by simp [min_if], by omega, by omega, HT2, HB2⟩
          case measure => simp [intOf]; omega
        · have HE := hid (show z = shortT (d + 1) t by
            rw [← HT.out, List.drop_eq_nil_of_le (by have := HN0.out; omega)]; rfl)
          go_wp2_with fail
          go_ret
          exact ⟨ret_int HE.out, HX.out.1.trans (HW.out.mono HX.out.1.size)⟩
    · have HE := hid (show (1 : Int) = shortT (d + 1) t by rw [hres.out, if_neg h689, if_neg h7, if_neg h4, if_neg h5])
      have b4 := ieq_false h4
      have b5 := ieq_false h5
      have b6 := ieq_false (show kd ≠ 6 by omega)
      have b7 := ieq_false h7
      have b8 := ieq_false (show kd ≠ 8 by omega)
      have b9 := ieq_false (show kd ≠ 9 by omega)
      clear h689 h7 h4 h5 hkd1 hcap
      go_enter Try.func59, Try.ntmps59
      go_wp2_with fail
      go_ret
      exact ⟨ret_int HE.out, by rw [← hW0]; exact HX.out.1⟩
set_option maxRecDepth 100000 in
set_option maxHeartbeats 1000000 in
theorem eshortest_any (S : Nat → Prop) (d : Nat) (v : Value) (t : Tr d) (w : World) (h : IsTr w S d v t) (hr : rightT d t = true) :
    Calls Try.prog 35 #[v] w fun e w' => e = .returned (.int .i64 (shortT d t)) ∧ Below w.heap.size w w' := by
  have H := hid h
  have HR := hid hr
  have hc := rightT_cnt hr
  clear hr
  cases d with
  | zero => exact t.elim
  | succ d =>
    obtain ⟨A, c, rfl, hle, -⟩ := h.open
    clear h
    obtain ⟨W, hW0⟩ : ∃ W, W = w.alloc (.cells #[.int .i64 (Tr.kind t), .int .i64 (Tr.cls t), .slice A (Tr.kids t).length c] 45) := ⟨_, rfl⟩
    have HX := hid (box3 hW0)
    have HT := hid (H.out.below HX.out.1)
    clear H
    go_enter Try.func35, Try.ntmps35
    go_wp2_with fail
    rw [← hW0]
    refine (eright_any S _ _ _ _ HT.out).mono ?_
    rintro e w1 ⟨rfl, hb1⟩
    rw [HR.out]
    obtain ⟨g0, g1, g2⟩ := HX.out.2 w1 hb1
    go_wp2_with fail
    refine (shortest_any S _ _ _ _ _ (HT.out.below hb1) hc.2 hc.1).mono ?_
    rintro e w2 ⟨rfl, hb2⟩
    go_wp2_with fail
    go_ret
    exact ⟨rfl, HX.out.1.trans ((hb1.trans (hb2.mono hb1.size)).mono HX.out.1.size)⟩
set_option maxRecDepth 100000 in
theorem elongest_any (S : Nat → Prop) (d : Nat) (v : Value) (t : Tr d) (w : World) (h : IsTr w S d v t) (hr : rightT d t = true) :
    Calls Try.prog 34 #[v] w fun e w' => e = .returned (.tuple #[.int .i64 (max (longT d t) 0), .bool (decide (0 ≤ longT d t))]) ∧ Below w.heap.size w w' := by
  have H := hid h
  have HR := hid hr
  have hc := rightT_cnt hr
  clear hr
  cases d with
  | zero => exact t.elim
  | succ d =>
    obtain ⟨A, c, rfl, hle, -⟩ := h.open
    clear h
    obtain ⟨W, hW0⟩ : ∃ W, W = w.alloc (.cells #[.int .i64 (Tr.kind t), .int .i64 (Tr.cls t), .slice A (Tr.kids t).length c] 45) := ⟨_, rfl⟩
    have HX := hid (box3 hW0)
    have HT := hid (H.out.below HX.out.1)
    clear H
    obtain ⟨z, hz⟩ : ∃ z, z = longT (d + 1) t := ⟨_, rfl⟩
    rw [← hz]
    have HZ := hid hz
    clear hz
    obtain ⟨m, hm⟩ : ∃ m, m = max z 0 := ⟨_, rfl⟩
    rw [← hm]
    have hm0 : (z < 0 ∧ m = 0) ∨ (¬ z < 0 ∧ m = z) := by rw [hm]; omega
    clear hm
    rcases hm0 with ⟨hz, rfl⟩ | ⟨hz, rfl⟩
    · have b1 := ile_false (show ¬ 0 ≤ z by omega)
      rw [b1]
      go_enter Try.func34, Try.ntmps34
      go_wp2_with fail
      rw [← hW0]
      refine (eright_any S _ _ _ _ HT.out).mono ?_
      rintro e w1 ⟨rfl, hb1⟩
      rw [HR.out]
      obtain ⟨g0, g1, g2⟩ := HX.out.2 w1 hb1
      go_wp2_with fail
      refine (longest_any S _ _ _ _ _ (HT.out.below hb1) hc.2 hc.1).mono ?_
      rintro e w2 ⟨rfl, hb2⟩
      rw [← HZ.out]
      go_wp2_with fail
      go_ret2
      exact ⟨rfl, HX.out.1.trans ((hb1.trans (hb2.mono hb1.size)).mono HX.out.1.size)⟩
    · have b1 := ile_true (show 0 ≤ m by omega)
      rw [b1]
      go_enter Try.func34, Try.ntmps34
      go_wp2_with fail
      rw [← hW0]
      refine (eright_any S _ _ _ _ HT.out).mono ?_
      rintro e w1 ⟨rfl, hb1⟩
      rw [HR.out]
      obtain ⟨g0, g1, g2⟩ := HX.out.2 w1 hb1
      go_wp2_with fail
      refine (longest_any S _ _ _ _ _ (HT.out.below hb1) hc.2 hc.1).mono ?_
      rintro e w2 ⟨rfl, hb2⟩
      rw [← HZ.out]
      go_wp2_with fail
      go_ret2
      exact ⟨rfl, HX.out.1.trans ((hb1.trans (hb2.mono hb1.size)).mono HX.out.1.size)⟩
end Go.Proofs.Ytjcdcmeclnihbaa
