/- A text with a macro in it, and the text with the macro's text in brackets in its place: what both are read as; expressions that are the same; two macros of one name in memory. Conditions: right expressions, in memory. -/
import Derived.Test.YtjcdcmeclnihbaaQt
import Derived.Test.YtjcdcmeclnihbaaQp
namespace Go.Proofs.Ytjcdcmeclnihbaa
def subF (tx : Bs) : Bool → Bs → Bs
  | _, [] => []
  | pv, c :: l => if c = 120 ∧ pv = false ∧ isL (hd l) = false then 40 :: (tx ++ 41 :: subF tx (isL c) l) else c :: subF tx (isL c) l
def sub (tx : Bs) (l : Bs) : Bs := subF tx false l
section
variable {tx : Bs}
theorem subF_non (pv : Bool) {l : Bs} (h : isL (hd l) = false) : subF tx pv l = sub tx l := by
  cases l with
  | nil => rfl
  | cons c l =>
    have hc : isL c = false := h
    have h1 : c ≠ 120 := by intro e; rw [e] at hc; revert hc; decide
    unfold sub subF
    rw [if_neg (fun h => h1 h.1), if_neg (fun h => h1 h.1)]
theorem sub_x {r : Bs} (h : isL (hd r) = false) : sub tx (120 :: r) = 40 :: (tx ++ 41 :: sub tx r) := by
  unfold sub
  rw [subF, if_pos ⟨rfl, rfl, h⟩, subF_non _ h]
  rfl
theorem sub_c {c : Nat} {r : Bs} (h : ¬ (c = 120 ∧ isL (hd r) = false)) : sub tx (c :: r) = c :: subF tx (isL c) r := by
  unfold sub
  rw [subF, if_neg (fun e => h ⟨e.1, e.2.2⟩)]
theorem sub_non {c : Nat} {r : Bs} (h : isL c = false) : sub tx (c :: r) = c :: sub tx r := by
  rw [sub_c (fun e => by rw [e.1] at h; revert h; decide), h]
  rfl
theorem sub_skip (l : Bs) : skip (sub tx l) = sub tx (skip l) := by
  induction l with
  | nil => rfl
  | cons c l ih =>
    by_cases hc : c = 32
    · subst hc
      rw [sub_non (by decide), skip_cons, if_pos rfl, skip_cons, if_pos rfl]
      exact ih
    · rw [skip_cons, if_neg hc]
      by_cases hx : c = 120 ∧ isL (hd l) = false
      · obtain ⟨rfl, hx⟩ := hx
        rw [sub_x hx, skip_cons, if_neg (by decide)]
      · rw [sub_c hx, skip_cons, if_neg hc]
theorem nmOf_non {l : Bs} (h : isL (hd l) = false) : nmOf l = [] ∧ rsOf l = l := by
  cases l with
  | nil => exact ⟨rfl, rfl⟩
  | cons c l =>
    have hc : isL c = false := h
    unfold nmOf rsOf
    rw [hc]
    exact ⟨rfl, rfl⟩
theorem nmOf_let {c : Nat} {l : Bs} (h : isL c = true) : nmOf (c :: l) = c :: nmOf l ∧ rsOf (c :: l) = rsOf l := by
  rw [nmOf, rsOf, h]
  exact ⟨rfl, rfl⟩
theorem rs_non (l : Bs) : isL (hd (rsOf l)) = false := by
  induction l with
  | nil => rfl
  | cons c l ih =>
    by_cases h : isL c = true
    · rw [(nmOf_let h).2]; exact ih
    · have hc : isL c = false := by simpa using h
      rw [(nmOf_non (l := c :: l) hc).2]; exact hc
theorem nm_app {a z : Bs} (ha : ∀ c ∈ a, isL c = true) (hz : isL (hd z) = false) : nmOf (a ++ z) = a ∧ rsOf (a ++ z) = z := by
  induction a with
  | nil => exact nmOf_non hz
  | cons c a ih =>
    obtain ⟨h1, h2⟩ := ih fun x hx => ha x (List.mem_cons_of_mem _ hx)
    obtain ⟨h3, h4⟩ := nmOf_let (l := a ++ z) (ha c List.mem_cons_self)
    exact ⟨by rw [List.cons_append, h3, h1], by rw [List.cons_append, h4, h2]⟩
theorem nm_all (l : Bs) : ∀ c ∈ nmOf l, isL c = true := by
  induction l with
  | nil => intro c h; cases h
  | cons x l ih =>
    intro c h
    by_cases hx : isL x = true
    · rw [(nmOf_let hx).1] at h
      rcases List.mem_cons.1 h with rfl | h
      · exact hx
      · exact ih c h
    · rw [(nmOf_non (l := x :: l) (by show isL x = false; simpa using hx)).1] at h
      cases h
theorem sub_non_hd {l : Bs} (h : isL (hd l) = false) : hd (sub tx l) = hd l := by
  cases l with
  | nil => rfl
  | cons c l => rw [sub_non (show isL c = false from h)]; rfl
theorem subF_true (l : Bs) : subF tx true l = nmOf l ++ sub tx (rsOf l) := by
  induction l with
  | nil => rfl
  | cons c l ih =>
    by_cases h : isL c = true
    · obtain ⟨h1, h2⟩ := nmOf_let (l := l) h
      rw [h1, h2, subF, if_neg (fun e => by cases e.2.1), h, ih]
      rfl
    · have hc : isL c = false := by simpa using h
      obtain ⟨h1, h2⟩ := nmOf_non (l := c :: l) hc
      rw [h1, h2, subF_non _ (show isL (hd (c :: l)) = false from hc)]
      rfl
/-- A name that is no macro's is as it was. -/
theorem sub_name {q : Bs} (hq : isL (hd q) = true) (h : nmOf q ≠ [120]) : nmOf (sub tx q) = nmOf q ∧ rsOf (sub tx q) = sub tx (rsOf q) ∧ hd (sub tx q) = hd q := by
  cases q with
  | nil => cases hq
  | cons c r =>
    have hc : isL c = true := hq
    obtain ⟨h1, h2⟩ := nmOf_let (l := r) hc
    have hx : ¬ (c = 120 ∧ isL (hd r) = false) := by
      rintro ⟨rfl, hr⟩
      rw [h1, (nmOf_non hr).1] at h
      exact h rfl
    have e : sub tx (c :: r) = nmOf (c :: r) ++ sub tx (rsOf (c :: r)) := by
      rw [sub_c hx, hc, subF_true, h1, h2]
      rfl
    have hz : isL (hd (sub tx (rsOf (c :: r)))) = false := by rw [sub_non_hd (rs_non _)]; exact rs_non _
    obtain ⟨h3, h4⟩ := nm_app (nm_all (c :: r)) hz
    rw [e, h3, h4, h1]
    exact ⟨rfl, rfl, rfl⟩
theorem name_x {q : Bs} (h : nmOf q = [120]) : ∃ r, q = 120 :: r ∧ isL (hd r) = false := by
  cases q with
  | nil => cases h
  | cons c r =>
    by_cases hc : isL c = true
    · rw [(nmOf_let hc).1] at h
      injection h with h1 h2
      refine ⟨r, by rw [h1], ?_⟩
      cases r with
      | nil => rfl
      | cons y r =>
        cases hy : isL y with
        | false => exact hy
        | true => rw [(nmOf_let hy).1] at h2; cases h2
    · rw [(nmOf_non (l := c :: r) (by show isL c = false; simpa using hc)).1] at h
      cases h
end
def nomac : Bs → Option PT := fun _ => none
def At6 (R : Res PT) (p : PT) (r : Bs) : Prop := R = .ok p r ∨ ∃ q, R = .no q 6
def Is6 {α : Type} (R : Res α) (p : α) (r : Bs) : Prop := (∃ r', R = .ok p r' ∧ skip r' = skip r) ∨ ∃ q, R = .no q 6
def F0 (r : Bs) : Prop := isL (hd r) = false
def F1 (r : Bs) : Prop := F0 r ∧ hd (skip r) ≠ 42 ∧ hd (skip r) ≠ 43 ∧ hd (skip r) ≠ 63
def F2 (r : Bs) : Prop := F1 r ∧ beginsB (hd (skip r)) = false
def F3 (r : Bs) : Prop := F2 r ∧ hd (skip r) ≠ 124
theorem f3_close (r : Bs) : F3 (41 :: r) := ⟨⟨⟨rfl, by show (41 : Nat) ≠ 42; decide, by show (41 : Nat) ≠ 43; decide, by show (41 : Nat) ≠ 63; decide⟩, rfl⟩, by show (41 : Nat) ≠ 124; decide⟩
theorem names_ok : (List.range 36).all (fun k => decide (nmB[k]? ≠ none) && (nmB[k]?.getD []).all isL && decide (nmB[k]?.getD [] ≠ []) && decide (nmB[k]?.getD [] ≠ [97, 110, 121]) && decide (numB (nmB[k]?.getD []) = some (k : Int))) = true := by decide
theorem nameP_is {c : Int} (h0 : 0 ≤ c) (h1 : c < 36) : (∀ x ∈ nameP c, isL x = true) ∧ nameP c ≠ [] ∧ nameP c ≠ [97, 110, 121] ∧ numB (nameP c) = some c := by
  obtain ⟨k, rfl⟩ : ∃ k : Nat, c = (k : Int) := ⟨c.toNat, by omega⟩
  have hk : k < 36 := by omega
  have h := List.all_eq_true.1 names_ok k (List.mem_range.2 hk)
  simp only [Bool.and_eq_true, decide_eq_true_eq] at h
  have e : nameP (k : Int) = nmB[k]?.getD [] := by
    unfold nameP nameS
    rw [if_pos ⟨h0, h1⟩, Int.toNat_natCast, ← nm_bytes, List.getElem?_map]
    obtain ⟨z, hz⟩ : ∃ z, nmL[k]? = some z := ⟨_, List.getElem?_eq_getElem (by rw [nm_len]; exact hk)⟩
    rw [hz]
    rfl
  rw [e]
  exact ⟨fun x hx => List.all_eq_true.1 h.1.1.1.2 x hx, h.1.1.2, h.1.2, h.2⟩
theorem numB_x : numB [120] = none := by decide
theorem fits_mk {k c : Int} {l : List PT} (h : fitsP true (.mk k c l) = true) : 0 ≤ k ∧ k ≤ 8 ∧ least k ≤ l.length ∧ (l.length : Int) ≤ most k ∧ (k = 0 ∨ k = 2 → 0 ≤ c ∧ c < 36) ∧ (¬ (k = 0 ∨ k = 2) → c = 0) ∧ ∀ p ∈ l, fitsP true p = true := by
  rw [fitsP, fitsPs_all, Bool.and_eq_true] at h
  obtain ⟨h1, h2⟩ := h
  unfold fitB at h1
  simp only [Bool.and_eq_true, decide_eq_true_eq, Bool.not_eq_true', Bool.and_true, decide_eq_false_iff_not] at h1
  obtain ⟨⟨⟨⟨a1, a2⟩, a3⟩, a4, a5⟩, a6⟩ := h1
  refine ⟨a1, by omega, a4, a5, fun hk => ?_, fun hk => ?_, fun p hp => List.all_eq_true.1 h2 p hp⟩
  · rw [if_pos hk, decide_eq_true_eq] at a6; exact a6
  · rw [if_neg hk, decide_eq_true_eq] at a6; exact a6
theorem tx_mk (k c : Int) (l : List PT) : txP (.mk k c l) = txK k c (l.map fun p => toldB (ksOf k) p.kind (txP p)) := txP_mk k c l
/-- The kinds of an expression within another one. -/
theorem fits_kinds {p : PT} (h : fitsP true p = true) : (p.kind = 0 ∨ p.kind = 1 ∨ p.kind = 2 ∨ p.kind = 3) ∨ p.kind = 4 ∨ p.kind = 5 ∨ (p.kind = 6 ∨ p.kind = 7 ∨ p.kind = 8) := by
  cases p with
  | mk k c l =>
    have := fits_mk h
    simp only [PT.kind]
    omega
theorem inL_ks {ks : List Int} {k : Int} : inL ks k = true ↔ k ∈ ks := by
  unfold inL
  rw [List.any_eq_true]
  constructor
  · rintro ⟨x, hx, h⟩
    have : x = k := by simpa using h
    rw [← this]; exact hx
  · exact fun h => ⟨k, h, by simp⟩
theorem told_yes {ks : List Int} {k : Int} {b : Bs} (h : k ∈ ks) : toldB ks k b = 40 :: (b ++ [41]) := by
  unfold toldB; rw [if_pos (inL_ks.2 h)]
theorem told_no {ks : List Int} {k : Int} {b : Bs} (h : k ∉ ks) : toldB ks k b = b := by
  unfold toldB; rw [if_neg (fun e => h (inL_ks.1 e))]
/-- An expression without parts begins so. -/
theorem leaf_hd {p : PT} (h : fitsP true p = true) (hk : p.kind = 0 ∨ p.kind = 1 ∨ p.kind = 2 ∨ p.kind = 3) (w : Bs) : beginsB (hd (txP p ++ w)) = true := by
  cases p with
  | mk k c l =>
    have hf := fits_mk h
    simp only [PT.kind] at hk
    rw [tx_mk]
    rcases hk with rfl | rfl | rfl | rfl
    · obtain ⟨h1, h2, -⟩ := nameP_is (hf.2.2.2.2.1 (.inl rfl)).1 (hf.2.2.2.2.1 (.inl rfl)).2
      show beginsB (hd (nameP c ++ w)) = true
      cases hn : nameP c with
      | nil => exact absurd hn h2
      | cons x r =>
        have := h1 x (by rw [hn]; exact List.mem_cons_self)
        show beginsB x = true
        unfold beginsB
        rw [this]
        rfl
    · rfl
    · rfl
    · rfl
theorem sign_form {k c : Int} {l : List PT} (h : fitsP true (.mk k c l) = true) (hk : k = 6 ∨ k = 7 ∨ k = 8) : ∃ x, l = [x] ∧ c = 0 ∧ fitsP true x = true ∧ txP (.mk k c l) = toldB [4, 5, 6, 7, 8] x.kind (txP x) ++ [signB k] := by
  have hf := fits_mk h
  have hl : l.length = 1 := by
    have h1 := hf.2.2.1
    have h2 := hf.2.2.2.1
    rcases hk with rfl | rfl | rfl
    · change (1 : Int) ≤ l.length at h1; change (l.length : Int) ≤ 1 at h2; omega
    · change (1 : Int) ≤ l.length at h1; change (l.length : Int) ≤ 1 at h2; omega
    · change (1 : Int) ≤ l.length at h1; change (l.length : Int) ≤ 1 at h2; omega
  obtain ⟨x, rfl⟩ := List.length_eq_one_iff.1 hl
  refine ⟨x, rfl, hf.2.2.2.2.2.1 (by omega), hf.2.2.2.2.2.2 x List.mem_cons_self, ?_⟩
  rw [tx_mk]
  rcases hk with rfl | rfl | rfl
  · rw [List.map_cons, txK_6, ks_6]; rfl
  · rw [List.map_cons, txK_7, ks_7]; rfl
  · rw [List.map_cons, txK_8, ks_8]; rfl
/-- So does a part in a sequence. -/
theorem told_hd {p : PT} (h : fitsP true p = true) (w : Bs) : beginsB (hd (toldB [4, 5] p.kind (txP p) ++ w)) = true := by
  rcases fits_kinds h with hk | hk | hk | hk
  · rw [told_no (by simp; omega)]; exact leaf_hd h hk w
  · rw [told_yes (by simp [hk])]; rfl
  · rw [told_yes (by simp [hk])]; rfl
  · rw [told_no (by simp; omega)]
    cases p with
    | mk k c l =>
      obtain ⟨x, rfl, -, hx, e⟩ := sign_form h hk
      rw [e]
      rcases fits_kinds hx with hk2 | hk2 | hk2 | hk2
      · rw [told_no (by simp; omega), List.append_assoc]; exact leaf_hd hx hk2 _
      · rw [told_yes (by simp [hk2])]; rfl
      · rw [told_yes (by simp [hk2])]; rfl
      · rw [told_yes (by simp; omega)]; rfl
section
variable {alts : Option (Bs → Res PT)}
/-- What is asked of the level below. -/
def Back (alts : Option (Bs → Res PT)) : Prop := ∀ f, alts = some f → Short f ∧ ∀ p, fitsP true p = true → ∀ r, F3 r → Is6 (f (txP p ++ r)) p r
theorem brack_rt (hA : Back alts) {p : PT} (h : fitsP true p = true) (r : Bs) : At6 (atomF numB nomac alts (40 :: (txP p ++ 41 :: r))) p r := by
  show At6 (brackF alts (40 :: (txP p ++ 41 :: r))) p r
  unfold brackF
  cases ha : alts with
  | none => exact .inr ⟨_, rfl⟩
  | some f =>
    rcases (hA f ha).2 p h _ (f3_close r) with ⟨r', e, hr⟩ | ⟨q, e⟩
    · refine .inl ?_
      show closeF (f (txP p ++ 41 :: r)) = _
      rw [e]
      show (if hd (skip r') = 41 then Res.ok p (skip r').tail else _) = _
      rw [hr]
      rfl
    · refine .inr ⟨q, ?_⟩
      show closeF (f (txP p ++ 41 :: r)) = _
      rw [e]
      rfl
theorem skip_let {c : Nat} (h : isL c = true) (l : Bs) : skip (c :: l) = c :: l := by
  rw [skip_cons, if_neg (by intro e; rw [e] at h; revert h; decide)]
theorem leaf_rt {p : PT} (h : fitsP true p = true) (hk : p.kind = 0 ∨ p.kind = 1 ∨ p.kind = 2 ∨ p.kind = 3) {r : Bs} (hr : F0 r) : atomF numB nomac alts (txP p ++ r) = .ok p r := by
  cases p with
  | mk k c l =>
    have hf := fits_mk h
    have hl : l = [] := by
      have h2 := hf.2.2.2.1
      simp only [PT.kind] at hk
      have : most k = 0 := by unfold most; rw [if_neg (by omega), if_neg (by omega)]
      rw [this] at h2
      exact List.length_eq_zero_iff.1 (by omega)
    subst hl
    simp only [PT.kind] at hk
    rw [tx_mk]
    rcases hk with rfl | rfl | rfl | rfl
    · obtain ⟨h1, h2, h3, h4⟩ := nameP_is (hf.2.2.2.2.1 (.inl rfl)).1 (hf.2.2.2.2.1 (.inl rfl)).2
      show atomF numB nomac alts (nameP c ++ r) = _
      obtain ⟨e1, e2⟩ := nm_app h1 hr
      obtain ⟨x, y, hxy⟩ : ∃ x y, nameP c = x :: y := by
        cases hn : nameP c with
        | nil => exact absurd hn h2
        | cons x y => exact ⟨x, y, rfl⟩
      have hx : isL x = true := h1 x (by rw [hxy]; exact List.mem_cons_self)
      have hs : skip (nameP c ++ r) = nameP c ++ r := by rw [hxy, List.cons_append, skip_let hx]
      have hh : hd (nameP c ++ r) = x := by rw [hxy]; rfl
      unfold atomF
      simp only [hs, hh]
      rw [if_pos hx]
      unfold namedF
      rw [e1, e2, if_neg h3, h4]
      rfl
    · have h1 : ∀ x ∈ ([97, 110, 121] : Bs), isL x = true := by decide
      obtain ⟨e1, e2⟩ := nm_app h1 hr
      have hc : c = 0 := hf.2.2.2.2.2.1 (by omega)
      subst hc
      show atomF numB nomac alts ([97, 110, 121] ++ r) = _
      unfold atomF
      simp only [show skip ([97, 110, 121] ++ r) = [97, 110, 121] ++ r from skip_let (by decide) _]
      rw [if_pos (show isL (hd ([97, 110, 121] ++ r)) = true by show isL 97 = true; decide)]
      unfold namedF
      rw [e1, e2, if_pos rfl]
    · obtain ⟨h1, h2, h3, h4⟩ := nameP_is (hf.2.2.2.2.1 (.inr rfl)).1 (hf.2.2.2.2.1 (.inr rfl)).2
      obtain ⟨e1, e2⟩ := nm_app h1 hr
      obtain ⟨x, y, hxy⟩ : ∃ x y, nameP c = x :: y := by
        cases hn : nameP c with
        | nil => exact absurd hn h2
        | cons x y => exact ⟨x, y, rfl⟩
      have hx : isL x = true := h1 x (by rw [hxy]; exact List.mem_cons_self)
      have hs : skip (nameP c ++ r) = nameP c ++ r := by rw [hxy, List.cons_append, skip_let hx]
      have hh : hd (nameP c ++ r) = x := by rw [hxy]; rfl
      show classF numB 2 (nameP c ++ r) = _
      unfold classF
      rw [hs, hh, if_pos hx, e1, e2, h4]
    · have hc : c = 0 := hf.2.2.2.2.2.1 (by omega)
      subst hc
      rfl
theorem told8_rt (hA : Back alts) {p : PT} (h : fitsP true p = true) {r : Bs} (hr : F0 r) : At6 (atomF numB nomac alts (toldB [4, 5, 6, 7, 8] p.kind (txP p) ++ r)) p r := by
  rcases fits_kinds h with hk | hk
  · rw [told_no (by simp; omega)]
    exact .inl (leaf_rt h hk hr)
  · rw [told_yes (by simp; omega)]
    have := brack_rt hA h r
    simpa using this
theorem often_of {l : Bs} {p : PT} {r : Bs} (h : At6 (atomF numB nomac alts l) p r) (hr : F1 r) : Is6 (oftenF numB nomac alts l) p r := by
  unfold oftenF
  rcases h with e | ⟨q, e⟩
  · rw [e]
    refine .inl ⟨skip r, ?_, skip_skip r⟩
    show oftenSign p (skip r) = _
    unfold oftenSign
    rw [if_neg hr.2.1, if_neg hr.2.2.1, if_neg hr.2.2.2]
  · rw [e]; exact .inr ⟨q, rfl⟩
theorem often_rt (hA : Back alts) {p : PT} (h : fitsP true p = true) (h4 : p.kind ≠ 4) (h5 : p.kind ≠ 5) {r : Bs} (hr : F1 r) : Is6 (oftenF numB nomac alts (txP p ++ r)) p r := by
  rcases fits_kinds h with hk | hk | hk | hk
  · exact often_of (.inl (leaf_rt h hk hr.1)) hr
  · exact absurd hk h4
  · exact absurd hk h5
  · cases p with
    | mk k c l =>
      simp only [PT.kind] at hk
      obtain ⟨x, rfl, rfl, hx, e⟩ := sign_form h hk
      rw [e, List.append_assoc]
      have hn : isL (signB k) = false ∧ signB k ≠ 32 := by rcases hk with rfl | rfl | rfl <;> decide
      have ha := told8_rt hA hx (r := [signB k] ++ r) hn.1
      unfold oftenF
      rcases ha with e2 | ⟨q, e2⟩
      · rw [e2]
        refine .inl ⟨r, ?_, rfl⟩
        show oftenSign x (skip (signB k :: r)) = _
        rw [skip_cons, if_neg hn.2]
        rcases hk with rfl | rfl | rfl <;> rfl
      · rw [e2]; exact .inr ⟨q, rfl⟩
theorem told45_rt (hA : Back alts) {p : PT} (h : fitsP true p = true) {r : Bs} (hr : F1 r) : Is6 (oftenF numB nomac alts (toldB [4, 5] p.kind (txP p) ++ r)) p r := by
  by_cases hk : p.kind = 4 ∨ p.kind = 5
  · rw [told_yes (by simpa using hk)]
    have := often_of (brack_rt hA h r) hr
    simpa using this
  · rw [told_no (by simpa using hk)]
    exact often_rt hA h (fun e => hk (.inl e)) (fun e => hk (.inr e)) hr
end
/-- Parts, one by one, each read as it was printed. -/
theorem parts_rt {one : Bs → Res PT} {more : Nat → Bool} {next : Bs → Bs} {pr : PT → Bs} {sc : Nat} {Fo : Bs → Prop} (h1 : Short one) (hn : ∀ l, (next l).length ≤ l.length) (hs : ∀ r r', skip r' = skip r → more (hd (skip r')) = more (hd (skip r)) ∧ next (skip r') = next (skip r)) :
    ∀ (ps : List PT), ps ≠ [] → (∀ p ∈ ps, ∀ r, Fo r → Is6 (one (pr p ++ r)) p r) → (∀ p ∈ ps, ∀ w, Fo (sc :: (pr p ++ w)) ∧ more (hd (skip (sc :: (pr p ++ w)))) = true ∧ next (skip (sc :: (pr p ++ w))) = pr p ++ w) →
    ∀ r, Fo r → more (hd (skip r)) = false → Is6 (partsR one more next (joinB sc (ps.map pr) ++ r)) ps r
  | [], h, _, _, _, _, _ => absurd rfl h
  | [p], _, ho, _, r, hr, hm => by
    rw [partsR_eq h1 hn]
    show Is6 (thenR one more next (one (pr p ++ r))) [p] r
    rcases ho p List.mem_cons_self r hr with ⟨r', e, e2⟩ | ⟨q, e⟩
    · rw [e]
      show Is6 (appR [p] (goR one more next r')) [p] r
      rw [goR_end (by rw [(hs r r' e2).1]; exact hm)]
      exact .inl ⟨skip r', rfl, (skip_skip r').trans e2⟩
    · rw [e]; exact .inr ⟨q, rfl⟩
  | p :: p2 :: ps, _, ho, hi, r, hr, hm => by
    rw [partsR_eq h1 hn]
    obtain ⟨z, hz⟩ : ∃ z, z = joinB sc ((p2 :: ps).map pr) ++ r := ⟨_, rfl⟩
    obtain ⟨w, hw⟩ : ∃ w, z = pr p2 ++ w := by
      cases ps with
      | nil => exact ⟨r, hz⟩
      | cons p3 ps => exact ⟨sc :: (joinB sc ((p3 :: ps).map pr) ++ r), by rw [hz]; show (pr p2 ++ sc :: joinB sc ((p3 :: ps).map pr)) ++ r = _; simp⟩
    have e0 : joinB sc ((p :: p2 :: ps).map pr) ++ r = pr p ++ (sc :: z) := by
      show (pr p ++ sc :: joinB sc ((p2 :: ps).map pr)) ++ r = _
      rw [hz]; simp
    obtain ⟨f1, f2, f3⟩ := hi p2 (List.mem_cons_of_mem _ List.mem_cons_self) w
    rw [← hw] at f1 f2 f3
    rw [e0]
    rcases ho p List.mem_cons_self (sc :: z) f1 with ⟨r', e, e2⟩ | ⟨q, e⟩
    · rw [e]
      show Is6 (appR [p] (goR one more next r')) (p :: p2 :: ps) r
      obtain ⟨g1, g2⟩ := hs (sc :: z) r' e2
      have hih := parts_rt (pr := pr) (sc := sc) (Fo := Fo) h1 hn hs (p2 :: ps) (by simp) (fun p hp => ho p (List.mem_cons_of_mem _ hp)) (fun p hp => hi p (List.mem_cons_of_mem _ hp)) r hr hm
      have eg : goR one more next r' = partsR one more next z := by
        unfold goR
        rw [if_pos (by rw [g1]; exact f2), g2, f3]
      rw [eg, hz]
      rcases hih with ⟨r2, e3, e4⟩ | ⟨q, e3⟩
      · rw [e3]; exact .inl ⟨r2, rfl, e4⟩
      · rw [e3]; exact .inr ⟨q, rfl⟩
    · rw [e]; exact .inr ⟨q, rfl⟩
theorem begins_facts {c : Nat} (h : beginsB c = true) : c ≠ 32 ∧ c ≠ 42 ∧ c ≠ 43 ∧ c ≠ 63 := by
  refine ⟨?_, ?_, ?_, ?_⟩ <;> (intro e; rw [e] at h; revert h; decide)
theorem skip_begins {z : Bs} (h : beginsB (hd z) = true) : skip z = z := skip_of (begins_facts h).1
section
variable {alts : Option (Bs → Res PT)}
theorem back_short (hA : Back alts) : ∀ f, alts = some f → Short f := fun f e => (hA f e).1
theorem seq_one (hA : Back alts) {l : Bs} {p : PT} {r : Bs} (h : Is6 (oftenF numB nomac alts l) p r) (hr : F2 r) : Is6 (seqF numB nomac alts l) p r := by
  rw [seqF_eq, partsR_eq (next := id) (often_short (back_short hA)) (fun _ => Nat.le_refl _)]
  rcases h with ⟨r', e, e2⟩ | ⟨q, e⟩
  · rw [e]
    show Is6 (oneR 4 (appR [p] (goR _ _ _ r'))) p r
    rw [goR_end (by rw [e2]; exact hr.2)]
    exact .inl ⟨skip r', rfl, (skip_skip r').trans e2⟩
  · rw [e]; exact .inr ⟨q, rfl⟩
theorem one_many {k : Int} {ps : List PT} (h : 2 ≤ ps.length) : oneP k ps = .mk k 0 ps := by
  match ps, h with
  | _ :: _ :: _, _ => rfl
theorem seq_rt (hA : Back alts) {p : PT} (h : fitsP true p = true) (h5 : p.kind ≠ 5) {r : Bs} (hr : F2 r) : Is6 (seqF numB nomac alts (txP p ++ r)) p r := by
  by_cases h4 : p.kind = 4
  · cases p with
    | mk k c l =>
      simp only [PT.kind] at h4
      subst h4
      have hf := fits_mk h
      have hc : c = 0 := hf.2.2.2.2.2.1 (by omega)
      subst hc
      have hl : 2 ≤ l.length := by have h1 : (2 : Int) ≤ l.length := hf.2.2.1; omega
      rw [tx_mk, txK_4, ks_4, seqF_eq]
      have hp := parts_rt (one := oftenF numB nomac alts) (more := beginsB) (next := id) (pr := fun p => toldB [4, 5] p.kind (txP p)) (sc := 32) (Fo := F1) (often_short (back_short hA)) (fun _ => Nat.le_refl _)
        (fun r r' e => by rw [e]; exact ⟨rfl, rfl⟩) l (by intro e; rw [e] at hl; simp at hl) (fun p hp r hr => told45_rt hA (hf.2.2.2.2.2.2 p hp) hr)
        (fun p hp w => by
          have hb := told_hd (hf.2.2.2.2.2.2 p hp) w
          have hs := skip_begins hb
          obtain ⟨g1, g2, g3, g4⟩ := begins_facts hb
          have e : skip (32 :: (toldB [4, 5] p.kind (txP p) ++ w)) = toldB [4, 5] p.kind (txP p) ++ w := by rw [skip_cons, if_pos rfl, hs]
          refine ⟨⟨rfl, ?_, ?_, ?_⟩, ?_, e⟩
          · rw [e]; exact g2
          · rw [e]; exact g3
          · rw [e]; exact g4
          · rw [e]; exact hb) r hr.1 hr.2
      rcases hp with ⟨r', e, e2⟩ | ⟨q, e⟩
      · rw [e]
        refine .inl ⟨r', ?_, e2⟩
        show Res.ok (oneP 4 l) r' = _
        rw [one_many hl]
      · rw [e]; exact .inr ⟨q, rfl⟩
  · exact seq_one hA (often_rt hA h h4 h5 hr.1) hr
theorem told5_rt (hA : Back alts) {p : PT} (h : fitsP true p = true) {r : Bs} (hr : F2 r) : Is6 (seqF numB nomac alts (toldB [5] p.kind (txP p) ++ r)) p r := by
  by_cases h5 : p.kind = 5
  · rw [told_yes (by simp [h5])]
    have := often_of (brack_rt hA h r) hr.1
    exact seq_one hA (by simpa using this) hr
  · rw [told_no (by simpa using h5)]
    exact seq_rt hA h h5 hr
theorem alts_rt (hA : Back alts) {p : PT} (h : fitsP true p = true) {r : Bs} (hr : F3 r) : Is6 (altsF numB nomac alts (txP p ++ r)) p r := by
  have hm : ((hd (skip r)) == 124) = false := by simpa using hr.2
  by_cases h5 : p.kind = 5
  · cases p with
    | mk k c l =>
      simp only [PT.kind] at h5
      subst h5
      have hf := fits_mk h
      have hc : c = 0 := hf.2.2.2.2.2.1 (by omega)
      subst hc
      have hl : 2 ≤ l.length := by have h1 : (2 : Int) ≤ l.length := hf.2.2.1; omega
      rw [tx_mk, txK_5, ks_5, altsF_eq]
      have hp := parts_rt (one := seqF numB nomac alts) (more := fun c => c == 124) (next := List.tail) (pr := fun p => toldB [5] p.kind (txP p)) (sc := 124) (Fo := F2) (seq_short (back_short hA)) tail_len
        (fun r r' e => by rw [e]; exact ⟨rfl, rfl⟩) l (by intro e; rw [e] at hl; simp at hl) (fun p hp r hr => told5_rt hA (hf.2.2.2.2.2.2 p hp) hr)
        (fun p hp w => ⟨⟨⟨rfl, by show (124 : Nat) ≠ 42; decide, by show (124 : Nat) ≠ 43; decide, by show (124 : Nat) ≠ 63; decide⟩, rfl⟩, rfl, rfl⟩) r hr.1 hm
      rcases hp with ⟨r', e, e2⟩ | ⟨q, e⟩
      · rw [e]
        refine .inl ⟨r', ?_, e2⟩
        show Res.ok (oneP 5 l) r' = _
        rw [one_many hl]
      · rw [e]; exact .inr ⟨q, rfl⟩
  · rw [altsF_eq, partsR_eq (seq_short (back_short hA)) tail_len]
    rcases seq_rt hA h h5 hr.1 with ⟨r', e, e2⟩ | ⟨q, e⟩
    · rw [e]
      show Is6 (oneR 5 (appR [p] (goR _ _ _ r'))) p r
      rw [goR_end (by rw [e2]; exact hm)]
      exact .inl ⟨skip r', rfl, (skip_skip r').trans e2⟩
    · rw [e]; exact .inr ⟨q, rfl⟩
end
/-- What is printed is read as it was, or it stands too deep in brackets. -/
theorem round_trip : ∀ (d : Nat) (p : PT), fitsP true p = true → ∀ r, F3 r → Is6 (pAlts numB nomac d (txP p ++ r)) p r
  | 0, p, h, r, hr => alts_rt (alts := none) (fun f e => by cases e) h hr
  | d + 1, p, h, r, hr => alts_rt (alts := some (pAlts numB nomac d)) (fun f e => by injection e with e; rw [← e]; exact ⟨pAlts_short numB nomac d, fun p hp r hr => round_trip d p hp r hr⟩) h hr
/-- How the two readings go: the first's is the second's, where the second doesn't stand too deep. -/
def RelR {α : Type} (tx : Bs) : Res α → Res α → Prop
  | .ok a r, .ok b r' => a = b ∧ r' = sub tx r
  | .ok _ _, .no _ e => e = 6
  | .no _ _, .no _ _ => True
  | .no _ _, .ok _ _ => False
section
variable {n : PT} {mA : Bs → Option PT}
theorem hd_sub {l : Bs} (h : ¬ ∃ r, l = 120 :: r ∧ isL (hd r) = false) : hd (sub (txP n) l) = hd l := by
  cases l with
  | nil => rfl
  | cons c r => rw [sub_c (fun e => h ⟨r, by rw [e.1], e.2⟩)]; rfl
theorem tail_sub {c : Nat} {l : Bs} (h : hd l = c) (hc : isL c = false) (h0 : c ≠ 0) : (sub (txP n) l).tail = sub (txP n) l.tail := by
  cases l with
  | nil => exact absurd h.symm h0
  | cons x r =>
    have hx : x = c := h
    rw [hx, sub_non hc]
    rfl
theorem hd_sub_of {c : Nat} {l : Bs} (hc : isL c = false) (h40 : c ≠ 40) : hd (sub (txP n) l) = c ↔ hd l = c := by
  by_cases h : ∃ r, l = 120 :: r ∧ isL (hd r) = false
  · obtain ⟨r, rfl, hr⟩ := h
    rw [sub_x hr]
    constructor
    · intro e; exact absurd e.symm h40
    · intro e; have h2 : isL 120 = false := by rw [show (120 : Nat) = c from e]; exact hc
      exact absurd h2 (by decide)
  · rw [hd_sub h]
theorem begins_sub (l : Bs) : beginsB (hd (sub (txP n) l)) = beginsB (hd l) := by
  by_cases h : ∃ r, l = 120 :: r ∧ isL (hd r) = false
  · obtain ⟨r, rfl, hr⟩ := h
    rw [sub_x hr]
    rfl
  · rw [hd_sub h]
theorem class_rel (k : Int) (l : Bs) : RelR (txP n) (classF numB k l) (classF numB k (sub (txP n) l)) := by
  unfold classF
  rw [sub_skip]
  obtain ⟨q, hq⟩ : ∃ q, q = skip l := ⟨_, rfl⟩
  rw [← hq]
  by_cases hL : isL (hd q) = true
  · rw [if_pos hL]
    by_cases hnm : nmOf q = [120]
    · obtain ⟨r, rfl, hr⟩ := name_x hnm
      rw [hnm, numB_x, sub_x hr]
      exact trivial
    · obtain ⟨e1, e2, e3⟩ := sub_name (tx := txP n) hL hnm
      rw [e1, e2, e3, if_pos hL]
      cases numB (nmOf q) with
      | none => exact trivial
      | some c => exact ⟨rfl, rfl⟩
  · have hL2 : isL (hd q) = false := by simpa using hL
    rw [if_neg hL, sub_non_hd hL2, if_neg hL]
    exact trivial
def AltsRel (n : PT) : Option (Bs → Res PT) → Option (Bs → Res PT) → Prop
  | none, none => True
  | some f, some g => ∀ l, RelR (txP n) (f l) (g (sub (txP n) l))
  | _, _ => False
variable {fA fB : Option (Bs → Res PT)}
theorem atom_rel (hx : mA [120] = some n) (ho : ∀ b, b ≠ [120] → mA b = none) (hn : fitsP true n = true) (hr : AltsRel n fA fB) (hb : Back fB) (l : Bs) : RelR (txP n) (atomF numB mA fA l) (atomF numB nomac fB (sub (txP n) l)) := by
  obtain ⟨q, hq⟩ : ∃ q, q = skip l := ⟨_, rfl⟩
  by_cases hL : isL (hd q) = true
  · by_cases hnm : nmOf q = [120]
    · obtain ⟨r, hqr, hr0⟩ := name_x hnm
      have eA : atomF numB mA fA l = .ok n (rsOf q) := by
        unfold atomF
        simp only [← hq]
        rw [if_pos hL]
        unfold namedF
        rw [hnm, if_neg (by decide), hx]
      have eR : rsOf q = r := by rw [hqr, (nmOf_let (by decide)).2, (nmOf_non hr0).2]
      have eB : atomF numB nomac fB (sub (txP n) l) = atomF numB nomac fB (40 :: (txP n ++ 41 :: sub (txP n) r)) := by
        have e2 : skip (sub (txP n) l) = 40 :: (txP n ++ 41 :: sub (txP n) r) := by rw [sub_skip, ← hq, hqr, sub_x hr0]
        unfold atomF
        simp only [e2, show skip (40 :: (txP n ++ 41 :: sub (txP n) r)) = 40 :: (txP n ++ 41 :: sub (txP n) r) from rfl]
      rw [eA, eB, eR]
      rcases brack_rt hb hn (sub (txP n) r) with e | ⟨z, e⟩
      · rw [e]; exact ⟨rfl, rfl⟩
      · rw [e]; exact rfl
    · obtain ⟨e1, e2, e3⟩ := sub_name (tx := txP n) hL hnm
      unfold atomF
      simp only [sub_skip, ← hq, e3]
      rw [if_pos hL, if_pos hL]
      unfold namedF
      rw [e1, e2]
      by_cases ha : nmOf q = [97, 110, 121]
      · rw [if_pos ha, if_pos ha]; exact ⟨rfl, rfl⟩
      · rw [if_neg ha, if_neg ha, ho _ hnm]
        show RelR (txP n) _ (match nomac (nmOf q) with
          | some m => Res.ok m (sub (txP n) (rsOf q))
          | none => match numB (nmOf q) with
            | some c => Res.ok (.mk 0 c []) (sub (txP n) (rsOf q))
            | none => Res.no (sub (txP n) q) 5)
        simp only [nomac]
        cases numB (nmOf q) with
        | none => exact trivial
        | some c => exact ⟨rfl, rfl⟩
  · have hL2 : isL (hd q) = false := by simpa using hL
    have e3 := sub_non_hd (tx := txP n) hL2
    unfold atomF
    simp only [sub_skip, ← hq, e3]
    rw [if_neg hL, if_neg hL]
    by_cases h126 : hd q = 126
    · rw [if_pos h126, if_pos h126, tail_sub h126 (by decide) (by decide)]
      exact class_rel 2 q.tail
    · rw [if_neg h126, if_neg h126]
      by_cases h94 : hd q = 94
      · rw [if_pos h94, if_pos h94, tail_sub h94 (by decide) (by decide)]
        exact ⟨rfl, rfl⟩
      · rw [if_neg h94, if_neg h94]
        by_cases h40 : hd q = 40
        · rw [if_pos h40, if_pos h40]
          unfold brackF
          cases fA with
          | none =>
            cases fB with
            | none => exact trivial
            | some g => exact hr.elim
          | some f =>
            cases fB with
            | none => exact hr.elim
            | some g =>
              have h1 : RelR (txP n) (f q.tail) (g (sub (txP n) q.tail)) := hr q.tail
              show RelR (txP n) (closeF (f q.tail)) (closeF (g (sub (txP n) q).tail))
              rw [tail_sub h40 (by decide) (by decide)]
              cases ef : f q.tail with
              | no q1 x1 =>
                cases eg : g (sub (txP n) q.tail) with
                | no q2 x2 => exact trivial
                | ok t2 q2 => rw [ef, eg] at h1; exact h1.elim
              | ok t1 q1 =>
                cases eg : g (sub (txP n) q.tail) with
                | no q2 x2 =>
                  rw [ef, eg] at h1
                  have h6 : x2 = 6 := h1
                  show RelR (txP n) (if hd (skip q1) = 41 then Res.ok t1 (skip q1).tail else Res.no (skip q1) 4) (Res.no q2 x2)
                  split
                  · exact h6
                  · exact trivial
                | ok t2 q2 =>
                  rw [ef, eg] at h1
                  obtain ⟨rfl, rfl⟩ := h1
                  show RelR (txP n) (if hd (skip q1) = 41 then Res.ok t1 (skip q1).tail else Res.no (skip q1) 4) (if hd (skip (sub (txP n) q1)) = 41 then Res.ok t1 (skip (sub (txP n) q1)).tail else Res.no (skip (sub (txP n) q1)) 4)
                  rw [sub_skip]
                  by_cases h41 : hd (skip q1) = 41
                  · rw [if_pos h41, if_pos ((hd_sub_of (by decide) (by decide)).2 h41), tail_sub h41 (by decide) (by decide)]
                    exact ⟨rfl, rfl⟩
                  · rw [if_neg h41, if_neg (fun e => h41 ((hd_sub_of (by decide) (by decide)).1 e))]
                    exact trivial
        · rw [if_neg h40, if_neg h40]
          exact trivial
theorem sign_rel (t : PT) (q : Bs) : RelR (txP n) (oftenSign t q) (oftenSign t (sub (txP n) q)) := by
  unfold oftenSign
  by_cases h1 : hd q = 42
  · rw [if_pos h1, if_pos ((hd_sub_of (by decide) (by decide)).2 h1), tail_sub h1 (by decide) (by decide)]; exact ⟨rfl, rfl⟩
  · rw [if_neg h1, if_neg (fun e => h1 ((hd_sub_of (by decide) (by decide)).1 e))]
    by_cases h2 : hd q = 43
    · rw [if_pos h2, if_pos ((hd_sub_of (by decide) (by decide)).2 h2), tail_sub h2 (by decide) (by decide)]; exact ⟨rfl, rfl⟩
    · rw [if_neg h2, if_neg (fun e => h2 ((hd_sub_of (by decide) (by decide)).1 e))]
      by_cases h3 : hd q = 63
      · rw [if_pos h3, if_pos ((hd_sub_of (by decide) (by decide)).2 h3), tail_sub h3 (by decide) (by decide)]; exact ⟨rfl, rfl⟩
      · rw [if_neg h3, if_neg (fun e => h3 ((hd_sub_of (by decide) (by decide)).1 e))]; exact ⟨rfl, rfl⟩
theorem often_sign_ok (t : PT) (q : Bs) : ∃ u r, oftenSign t q = .ok u r := by
  unfold oftenSign
  repeat' split
  all_goals exact ⟨_, _, rfl⟩
theorem often_rel (hx : mA [120] = some n) (ho : ∀ b, b ≠ [120] → mA b = none) (hn : fitsP true n = true) (hr : AltsRel n fA fB) (hb : Back fB) (l : Bs) : RelR (txP n) (oftenF numB mA fA l) (oftenF numB nomac fB (sub (txP n) l)) := by
  have h := atom_rel hx ho hn hr hb l
  unfold oftenF
  cases ea : atomF numB mA fA l with
  | no q1 x1 =>
    cases eb : atomF numB nomac fB (sub (txP n) l) with
    | no q2 x2 => exact trivial
    | ok t2 q2 => rw [ea, eb] at h; exact h.elim
  | ok t1 q1 =>
    cases eb : atomF numB nomac fB (sub (txP n) l) with
    | no q2 x2 =>
      rw [ea, eb] at h
      obtain ⟨u, r, e⟩ := often_sign_ok t1 (skip q1)
      show RelR (txP n) (oftenSign t1 (skip q1)) (Res.no q2 x2)
      rw [e]
      exact h
    | ok t2 q2 =>
      rw [ea, eb] at h
      obtain ⟨rfl, rfl⟩ := h
      show RelR (txP n) (oftenSign t1 (skip q1)) (oftenSign t1 (skip (sub (txP n) q1)))
      rw [sub_skip]
      exact sign_rel t1 (skip q1)
end
/-- Parts, one by one. -/
theorem parts_rel {n : PT} {oneA oneB : Bs → Res PT} {more : Nat → Bool} {next : Bs → Bs} (hA : Short oneA) (hB : Short oneB) (hn : ∀ l, (next l).length ≤ l.length) (h : ∀ l, RelR (txP n) (oneA l) (oneB (sub (txP n) l)))
    (hm : ∀ q, more (hd (sub (txP n) q)) = more (hd q)) (hx : ∀ q, more (hd q) = true → next (sub (txP n) q) = sub (txP n) (next q)) :
    ∀ (k : Nat) (l : Bs), l.length ≤ k → RelR (txP n) (partsR oneA more next l) (partsR oneB more next (sub (txP n) l)) := by
  intro k
  induction k with
  | zero =>
    intro l hl
    rw [partsR_eq hA hn, partsR_eq hB hn]
    have h1 := h l
    cases ea : oneA l with
    | no q1 x1 =>
      cases eb : oneB (sub (txP n) l) with
      | no q2 x2 => exact trivial
      | ok t2 q2 => rw [ea, eb] at h1; exact h1.elim
    | ok t1 q1 => have := hA _ _ _ ea; omega
  | succ k ih =>
    intro l hl
    rw [partsR_eq hA hn, partsR_eq hB hn]
    have h1 := h l
    cases ea : oneA l with
    | no q1 x1 =>
      cases eb : oneB (sub (txP n) l) with
      | no q2 x2 => exact trivial
      | ok t2 q2 => rw [ea, eb] at h1; exact h1.elim
    | ok t1 q1 =>
      have hlt := hA _ _ _ ea
      cases eb : oneB (sub (txP n) l) with
      | no q2 x2 =>
        rw [ea, eb] at h1
        have h6 : x2 = 6 := h1
        show RelR (txP n) (appR [t1] (goR oneA more next q1)) (Res.no q2 x2)
        cases goR oneA more next q1 with
        | no _ _ => exact trivial
        | ok _ _ => exact h6
      | ok t2 q2 =>
        rw [ea, eb] at h1
        obtain ⟨rfl, rfl⟩ := h1
        show RelR (txP n) (appR [t1] (goR oneA more next q1)) (appR [t1] (goR oneB more next (sub (txP n) q1)))
        have hgo : RelR (txP n) (goR oneA more next q1) (goR oneB more next (sub (txP n) q1)) := by
          unfold goR
          rw [sub_skip, hm]
          by_cases hmm : more (hd (skip q1)) = true
          · rw [if_pos hmm, if_pos hmm, hx _ hmm]
            refine ih _ ?_
            have h2 := hn (skip q1)
            have h3 := skip_len q1
            omega
          · rw [if_neg hmm, if_neg hmm]
            exact ⟨rfl, rfl⟩
        cases e1 : goR oneA more next q1 with
        | no q3 x3 =>
          cases e2 : goR oneB more next (sub (txP n) q1) with
          | no q4 x4 => exact trivial
          | ok t4 q4 => rw [e1, e2] at hgo; exact hgo.elim
        | ok t3 q3 =>
          cases e2 : goR oneB more next (sub (txP n) q1) with
          | no q4 x4 => rw [e1, e2] at hgo; exact hgo
          | ok t4 q4 =>
            rw [e1, e2] at hgo
            obtain ⟨rfl, rfl⟩ := hgo
            exact ⟨rfl, rfl⟩
theorem one_rel {n : PT} {k : Int} {a b : Res (List PT)} (h : RelR (txP n) a b) : RelR (txP n) (oneR k a) (oneR k b) := by
  cases a with
  | no q1 x1 =>
    cases b with
    | no q2 x2 => exact trivial
    | ok t2 q2 => exact h.elim
  | ok t1 q1 =>
    cases b with
    | no q2 x2 => exact h
    | ok t2 q2 => obtain ⟨rfl, rfl⟩ := h; exact ⟨rfl, rfl⟩
section
variable {n : PT} {mA : Bs → Option PT} {fA fB : Option (Bs → Res PT)}
theorem seq_rel (hx : mA [120] = some n) (ho : ∀ b, b ≠ [120] → mA b = none) (hn : fitsP true n = true) (hr : AltsRel n fA fB) (hb : Back fB) (ha : ∀ f, fA = some f → Short f) (l : Bs) : RelR (txP n) (seqF numB mA fA l) (seqF numB nomac fB (sub (txP n) l)) := by
  rw [seqF_eq, seqF_eq]
  exact one_rel (parts_rel (next := id) (often_short ha) (often_short (back_short hb)) (fun _ => Nat.le_refl _) (often_rel hx ho hn hr hb) (fun q => begins_sub q) (fun q _ => rfl) l.length l (Nat.le_refl _))
theorem alts_rel (hx : mA [120] = some n) (ho : ∀ b, b ≠ [120] → mA b = none) (hn : fitsP true n = true) (hr : AltsRel n fA fB) (hb : Back fB) (ha : ∀ f, fA = some f → Short f) (l : Bs) : RelR (txP n) (altsF numB mA fA l) (altsF numB nomac fB (sub (txP n) l)) := by
  rw [altsF_eq, altsF_eq]
  refine one_rel (parts_rel (seq_short ha) (seq_short (back_short hb)) tail_len (seq_rel hx ho hn hr hb ha) (fun q => ?_) (fun q hq => ?_) l.length l (Nat.le_refl _))
  · have := hd_sub_of (n := n) (c := 124) (l := q) (by decide) (by decide)
    by_cases h : hd q = 124
    · rw [h, this.2 h]
    · have h2 : hd (sub (txP n) q) ≠ 124 := fun e => h (this.1 e)
      rw [show (hd (sub (txP n) q) == 124) = false by simpa using h2, show (hd q == 124) = false by simpa using h]
  · exact tail_sub (by simpa using hq) (by decide) (by decide)
theorem back_level (d : Nat) : Back (some (pAlts numB nomac d)) := fun f e => by
  injection e with e
  rw [← e]
  exact ⟨pAlts_short numB nomac d, fun p hp r hr => round_trip d p hp r hr⟩
theorem level_rel (hx : mA [120] = some n) (ho : ∀ b, b ≠ [120] → mA b = none) (hn : fitsP true n = true) : ∀ (d : Nat) (l : Bs), RelR (txP n) (pAlts numB mA d l) (pAlts numB nomac d (sub (txP n) l))
  | 0, l => alts_rel (fA := none) (fB := none) hx ho hn trivial (fun f e => by cases e) (fun f e => by cases e) l
  | d + 1, l => alts_rel (fA := some (pAlts numB mA d)) (fB := some (pAlts numB nomac d)) hx ho hn (fun l => level_rel hx ho hn d l) (back_level d) (fun f e => by injection e with e; rw [← e]; exact pAlts_short numB mA d) l
theorem sub_nil {l : Bs} : sub (txP n) l = [] ↔ l = [] := by
  cases l with
  | nil => exact ⟨fun _ => rfl, fun _ => rfl⟩
  | cons c r =>
    refine ⟨fun e => ?_, fun e => by cases e⟩
    by_cases h : c = 120 ∧ isL (hd r) = false
    · obtain ⟨rfl, h⟩ := h; rw [sub_x h] at e; cases e
    · rw [sub_c h] at e; cases e
theorem top_rel (hx : mA [120] = some n) (ho : ∀ b, b ≠ [120] → mA b = none) (hn : fitsP true n = true) (l : Bs) :
    match pTop numB mA l, pTop numB nomac (sub (txP n) l) with
    | .ok a _, .ok b _ => a = b
    | .ok _ _, .no _ e => e = 6
    | .no _ _, .no _ _ => True
    | .no _ _, .ok _ _ => False := by
  have h := level_rel hx ho hn 20 l
  unfold pTop
  cases ea : pAlts numB mA 20 l with
  | no q1 x1 =>
    cases eb : pAlts numB nomac 20 (sub (txP n) l) with
    | no q2 x2 => exact trivial
    | ok t2 q2 => rw [ea, eb] at h; exact h.elim
  | ok t1 q1 =>
    cases eb : pAlts numB nomac 20 (sub (txP n) l) with
    | no q2 x2 =>
      rw [ea, eb] at h
      by_cases hs : skip q1 = []
      · simp only [if_pos hs]; exact h
      · simp only [if_neg hs]
    | ok t2 q2 =>
      rw [ea, eb] at h
      obtain ⟨rfl, rfl⟩ := h
      by_cases hs : skip q1 = []
      · simp only [sub_skip, if_pos hs, if_pos (sub_nil.2 hs)]
      · simp only [sub_skip, if_neg hs, if_neg (fun e => hs (sub_nil.1 e))]
end
/-- The law: what a text with macros is read as, and what the text with the macro's text in their place is. -/
theorem macros_law {ms : List (ByteArray × PT)} {n : PT} {s t : ByteArray} (hx : macsOf rightP ms [120] = some n) (ho : ∀ b, b ≠ [120] → macsOf rightP ms b = none) (hn : fitsP true n = true) (hs : s.size ≤ 4096) (ht : bsOf t = sub (txP n) (bsOf s)) :
    match parseF ms s, parseF [] t with
    | .ok a, .ok b => a = b
    | .ok _, .no _ e => e = 6 ∨ e = 3
    | .no _ _, .no _ _ => True
    | .no _ _, .ok _ => False := by
  have h := top_rel hx ho hn (bsOf s)
  have hnil : macsOf rightP [] = nomac := by funext b; rfl
  unfold parseF
  rw [if_neg (by omega), hnil, ht]
  by_cases hl : 4096 < t.size
  · rw [if_pos hl]
    cases pTop numB (macsOf rightP ms) (bsOf s) with
    | no q x => exact trivial
    | ok a q =>
      by_cases hc : 2000 < cntP a
      · simp only [if_pos hc]
      · simp only [if_neg hc]; exact .inr trivial
  · rw [if_neg hl]
    cases ea : pTop numB (macsOf rightP ms) (bsOf s) with
    | no q1 x1 =>
      cases eb : pTop numB nomac (sub (txP n) (bsOf s)) with
      | no q2 x2 => exact trivial
      | ok b q2 => rw [ea, eb] at h; exact h.elim
    | ok a q1 =>
      cases eb : pTop numB nomac (sub (txP n) (bsOf s)) with
      | no q2 x2 =>
        rw [ea, eb] at h
        have h6 : x2 = 6 := h
        by_cases hc : 2000 < cntP a
        · simp only [if_pos hc]
        · simp only [if_neg hc]; exact .inl (by rw [h6]; rfl)
      | ok b q2 =>
        rw [ea, eb] at h
        have hab : a = b := h
        subst hab
        by_cases hc : 2000 < cntP a
        · simp only [if_pos hc]
        · simp only [if_neg hc]
end Go.Proofs.Ytjcdcmeclnihbaa
namespace Go.Proofs.Ytjcdcmeclnihbaa
open Go.RowKit
set_option linter.unusedSimpArgs false
def SameC (d : Nat) : Prop := ∀ (S S' : Nat → Prop) (v v' : Value) (t : Tr d) (w : World), IsTr w S d v t → IsTr w S' d v' t → cnt d t ≤ 2000 →
  Calls Try.prog 33 #[v, v'] w fun e w' => e = .returned (.bool true) ∧ Below w.heap.size w w'
set_option maxRecDepth 100000 in
set_option maxHeartbeats 1000000 in
theorem equal_of {d : Nat} (H : SameC d) {S S2 : Nat → Prop} {A B : Option Addr} {cA cB : Nat} {l : List (Tr d)} {w : World} (hA : Row3 (IsTr w S d) w S A l) (hB : Row3 (IsTr w S2 d) w S2 B l) (hn : cntL (fun k => cnt d k) l ≤ 1999) :
    Calls Try.prog 57 #[.slice A l.length cA, .slice B l.length cB, .func (.func 33) #[] #[]] w fun e w' => e = .returned (.bool true) ∧ Below w.heap.size w w' := by
  have HA := hid hA
  have HB := hid hB
  have HH := hid H
  have HM := hid hn
  have hlen : l.length ≤ 1999 := Nat.le_trans (cntL_len (fun x => cnt_pos d x) l) hn
  obtain ⟨N, hN⟩ : ∃ N, N = l.length := ⟨_, rfl⟩
  have HN := hid hN
  rw [← hN] at hlen ⊢
  clear hA hB H hn hN
  go_enter Try.func57, Try.ntmps57
  go_wp2_with fail
  go_loopw [17] (fun s17 wr => ∃ k : Nat, k ≤ N ∧ s17 = .int .i64 k ∧ Hid (Below w.heap.size w wr)) (fun s17 _ => N - (intOf s17).toNat)
  case atStart => exact ⟨0, by omega, rfl, hid (Below.refl _ _)⟩
  case round =>
    obtain ⟨k, hk, rfl, HW⟩ := hrel
    by_cases hlt : k < N
    · have hkl : k < l.length := by rw [← HN.out]; exact hlt
      obtain ⟨b, o, v0, v1, v2, rfl, -, hbs, c0, c1, c2, ht⟩ := HA.out.at (List.getElem?_eq_getElem hkl)
      obtain ⟨k0, k1, A2, n2, cp2, rfl, rfl, rfl⟩ := ht.cells
      obtain ⟨b', o', u0, u1, u2, rfl, -, hbs', e0, e1, e2, ht'⟩ := HB.out.at (List.getElem?_eq_getElem hkl)
      obtain ⟨j0, j1, B2, m2, cq2, rfl, rfl, rfl⟩ := ht'.cells
      have hbw : wr.heap[b]? = w.heap[b]? := HW.out.block b hbs
      have d0 := (cell_same hbw).trans c0
      have d1 := (cell_same hbw).trans c1
      have d2 := (cell_same hbw).trans c2
      have HBV := hid (HW.out.alloc HW.out.size (.cells #[.int .i64 k0, .int .i64 k1, .slice A2 n2 cp2] 45))
      have hbw' : (wr.alloc (.cells #[.int .i64 k0, .int .i64 k1, .slice A2 n2 cp2] 45)).heap[b']? = w.heap[b']? := HBV.out.block b' hbs'
      have g0 := (cell_same hbw').trans e0
      have g1 := (cell_same hbw').trans e1
      have g2 := (cell_same hbw').trans e2
      obtain ⟨V, hV⟩ : ∃ V, V = (wr.alloc (.cells #[.int .i64 k0, .int .i64 k1, .slice A2 n2 cp2] 45)).alloc (.cells #[.int .i64 j0, .int .i64 j1, .slice B2 m2 cq2] 45) := ⟨_, rfl⟩
      have HV := hid hV
      have HBV2 := hid (show Below w.heap.size w V by rw [hV]; exact HBV.out.alloc HBV.out.size _)
      have HCk := hid (show cnt d l[k] ≤ 2000 by have h1 := cntL_mem (f := fun k => cnt d k) (List.getElem_mem hkl); have h2 := HM.out; omega)
      have HC := hid (HH.out S S2 _ _ l[k] V (ht.below HBV2.out) (ht'.below HBV2.out) HCk.out)
      clear hV hbw hbw' c0 c1 c2 e0 e1 e2 ht ht'
      go_wp2_with fail
      rw [← HV.out]
      refine HC.out.mono ?_
      rintro e w1 ⟨rfl, hb1⟩
      have HB1 := hid (HBV2.out.trans (hb1.mono HBV2.out.size))
      clear hb1
      go_wp2_with fail
      go_roundw
      case rel => exact ⟨k + 1, by omega, by go_num, HB1⟩
      case measure => simp [intOf]; omega
    · go_wp2_with fail
      go_ret
      exact ⟨rfl, HW.out⟩
set_option maxRecDepth 100000 in
set_option maxHeartbeats 1000000 in
theorem same_all : ∀ d, SameC d := by
  intro d
  induction d with
  | zero => intro S S' v v' t; exact t.elim
  | succ d ih =>
    intro S S' v v' t w h h' hn
    obtain ⟨A, c, rfl, hle, hA⟩ := h.open
    obtain ⟨B, c', rfl, -, hB⟩ := h'.open
    obtain ⟨kd, hkd⟩ : ∃ kd, kd = Tr.kind t := ⟨_, rfl⟩
    obtain ⟨cl, hcl⟩ : ∃ cl, cl = Tr.cls t := ⟨_, rfl⟩
    obtain ⟨l, hl⟩ : ∃ l, l = Tr.kids t := ⟨_, rfl⟩
    have HM := hid (show cntL (fun k => cnt d k) l ≤ 1999 by rw [hl]; simp only [cnt] at hn; omega)
    rw [← hkd, ← hcl, ← hl]
    rw [← hl] at hA hB
    obtain ⟨W, hW⟩ : ∃ W, W = (w.alloc (.cells #[.int .i64 kd, .int .i64 cl, .slice A l.length c] 45)).alloc (.cells #[.int .i64 kd, .int .i64 cl, .slice B l.length c'] 45) := ⟨_, rfl⟩
    have HW := hid hW
    have hb1 : Below w.heap.size w (w.alloc (.cells #[.int .i64 kd, .int .i64 cl, .slice A l.length c] 45)) := (Below.refl _ _).alloc (Nat.le_refl _) _
    have HBW := hid (show Below w.heap.size w W by rw [hW]; exact hb1.alloc hb1.size _)
    have HC := hid (equal_of ih (cA := c) (cB := c') (hA.below HBW.out) (hB.below HBW.out) HM.out)
    clear hkd hcl hl h h' hn hle hA hB hW hb1 ih
    go_enter Try.func33, Try.ntmps33
    go_wp2_with fail
    rw [← HW.out]
    refine HC.out.mono ?_
    rintro e w1 ⟨rfl, hb1⟩
    have HB1 := hid (HBW.out.trans (hb1.mono HBW.out.size))
    clear hb1
    go_wp2_with fail
    go_ret
    exact ⟨rfl, HB1.out⟩
theorem sameP_any {w : World} {S S' : Nat → Prop} {v v' : Value} {p : PT} (h : IsP w S v p) (h' : IsP w S' v' p) (hn : cntP p ≤ 2000) : Calls Try.prog 33 #[v, v'] w fun e w' => e = .returned (.bool true) ∧ Below w.heap.size w w' := by
  obtain ⟨d, t, h1, rfl⟩ := h
  rw [cntP_toP] at hn
  exact same_all d S S' v v' t w h1 (h'.tr rfl) hn
end Go.Proofs.Ytjcdcmeclnihbaa
namespace Go.Proofs.Ytjcdcmeclnihbaa
open Go.RowKit
/-- A new variable of any type. -/
theorem wp_alloc_of {P : Program} {o : Oper} {a : Act} {w : World} {K : Act → World → Prop} {Q : Exit → Act → World → Prop} (t : TypeId) (hop : o.op = .alloc t) (z : Value) (hz : (P.info? t).map (·.zero) = some (some z))
    (h : K (a.put o.dst (.pointer (some ⟨w.heap.size, 0, none⟩))) (w.alloc (.cells z.cells t))) : Oper.wp P o a w K Q := by
  cases hi : P.info? t with
  | none => rw [hi] at hz; cases hz
  | some i =>
    rw [hi] at hz
    have hz' : i.zero = some z := by simpa using hz
    unfold Oper.wp execOp
    simp [hop, Instr.alloc, zeroValue, typeInfo, hi, hz', newVar, newRow]
    exact h
theorem alloc_named {a w : World} (h : Below a.heap.size a w) (cs : Array Value) (t : Nat) : ∃ U g, U = w.alloc (.cells cs t) ∧ g = w.heap.size ∧ Below a.heap.size a U ∧ Below w.heap.size w U ∧ a.heap.size ≤ g ∧ g < U.heap.size ∧ U.heap[g]? = some (.cells cs t (0, 0)) :=
  ⟨_, _, rfl, rfl, h.alloc h.size _, (Below.refl _ _).alloc (Nat.le_refl _) _, h.size, by simp, heap_alloc_new _ _⟩
/-- What comes of reading: the node's three cells, the place, the error. -/
def Came (g : Got) (sz : Nat) (w' : World) (v : Value) (x : Int) : Prop :=
  (∀ p, g = .ok p → x = 0 ∧ cntP p ≤ 2000 ∧ IsP w' (fun b => sz ≤ b) v p) ∧ ∀ b e, g = .no b e → x = e ∧ x ≠ 0
theorem ok_small {ms : List (ByteArray × PT)} {s : ByteArray} {p : PT} (h : parseF ms s = .ok p) : cntP p ≤ 2000 := by
  unfold parseF at h
  split at h
  · cases h
  · split at h
    · cases h
    · split at h
      · cases h
      · injection h with h; rw [← h]; omega
theorem came_of {w w' : World} {ms : List (ByteArray × PT)} {s : ByteArray} {e : Ending} (h : PostG w (parseF ms s) e w') : ∃ ka ca : Int, ∃ A n cp, ∃ bad x : Int, e = .returned (.tuple #[.agg #[.int .i64 ka, .int .i64 ca, .slice A n cp], .int .i64 bad, .int .i64 x]) ∧ Below w.heap.size w w' ∧
    Came (parseF ms s) w.heap.size w' (.agg #[.int .i64 ka, .int .i64 ca, .slice A n cp]) x := by
  obtain ⟨hb, h⟩ := h
  cases hg : parseF ms s with
  | ok p =>
    have hc := ok_small hg
    rw [hg] at h
    obtain ⟨v, e1, hi⟩ := h
    obtain ⟨A, c, rfl⟩ := hi.form
    exact ⟨_, _, _, _, _, _, _, e1, hb, fun p' e => by injection e with e; subst e; exact ⟨rfl, hc, hi⟩, fun b e e' => by cases e'⟩
  | no b x =>
    rw [hg] at h
    refine ⟨_, _, _, _, _, _, _, h.2, hb, ?_, ?_⟩
    · intro p' e; cases e
    · intro b' e' e; injection e with e1 e2; subst e2; exact ⟨rfl, h.1⟩
/-- What comes of reading, away from a block. -/
def OffC (g : Got) (gb : Nat) (w' : World) (v : Value) (x : Int) : Prop :=
  (∀ p, g = .ok p → x = 0 ∧ cntP p ≤ 2000 ∧ IsP w' (fun b => b ≠ gb) v p) ∧ ∀ b e, g = .no b e → x = e ∧ x ≠ 0
theorem came_off {g : Got} {sz gb : Nat} {w' : World} {v : Value} {x : Int} (h : Came g sz w' v x) (hg : gb < sz) : OffC g gb w' v x :=
  ⟨fun p e => ⟨(h.1 p e).1, (h.1 p e).2.1, (h.1 p e).2.2.mono fun _ hb _ => by omega⟩, h.2⟩
theorem came_new {g : Got} {sz gb : Nat} {w' U : World} {v : Value} {x : Int} (h : Came g sz w' v x) (hb : Below w'.heap.size w' U) (hg : gb = w'.heap.size) : OffC g gb U v x :=
  ⟨fun p e => ⟨(h.1 p e).1, (h.1 p e).2.1, ((h.1 p e).2.2.mono (S' := fun b => b ≠ gb) fun _ _ hlt => by omega).below hb⟩, h.2⟩
theorem put_named {a w : World} (h : Below a.heap.size a w) {g : Nat} (hg : a.heap.size ≤ g) (hrow : w.heap[g]? = some (.cells nodeC 45 (0, 0))) (u0 u1 u2 : Value) {G : Got} {v : Value} {x : Int} (hp : OffC G g w v x) :
    ∃ Z, Z = ((w.setCell ⟨g, 0, none⟩ u0).setCell ⟨g, 1, none⟩ u1).setCell ⟨g, 2, none⟩ u2 ∧ Below a.heap.size a Z ∧ Z.heap[g]? = some (.cells #[u0, u1, u2] 45 (0, 0)) ∧ OffC G g Z v x :=
  ⟨_, rfl, below_put3 h hg u0 u1 u2, Go.Proofs.Ytjcdcmeclnihbaa.put3 u0 u1 u2 hrow, ⟨fun p e => ⟨(hp.1 p e).1, (hp.1 p e).2.1, (hp.1 p e).2.2.put3 (fun _ hb => hb) u0 u1 u2⟩, hp.2⟩⟩
theorem macs_two {w : World} {g : Nat} {x : ByteArray} {a0 a1 a2 b0 b1 b2 : Value} {p p' : PT} (hrow : w.heap[g]? = some (.cells #[.string x, a0, a1, a2, .string x, b0, b1, b2] 64 (0, 0))) (ha : IsP w Any (.agg #[a0, a1, a2]) p) (hb : IsP w Any (.agg #[b0, b1, b2]) p') :
    IsMacs w (fun b => b < w.heap.size) w.heap.size (.slice (some ⟨g, 0, none⟩) 2 2) [(x, p), (x, p')] := by
  have hlt : g < w.heap.size := (Array.getElem?_eq_some_iff.1 hrow).1
  refine ⟨some ⟨g, 0, none⟩, 2, fun _ => .string x, fun k => if k = 0 then a0 else b0, fun k => if k = 0 then a1 else b1, fun k => if k = 0 then a2 else b2, rfl, fun k hk => ?_, fun b o e => ?_, fun k m hm => ?_⟩
  · have hk2 : k = 0 ∨ k = 1 := by have : k < 2 := hk; omega
    refine ⟨g, 0, rfl, hlt, ?_⟩
    rcases hk2 with rfl | rfl
    · exact ⟨by rw [cell_of_row _ _ _ _ _ _ hrow]; rfl, by rw [cell_of_row _ _ _ _ _ _ hrow]; rfl, by rw [cell_of_row _ _ _ _ _ _ hrow]; rfl, by rw [cell_of_row _ _ _ _ _ _ hrow]; rfl⟩
    · exact ⟨by rw [cell_of_row _ _ _ _ _ _ hrow]; rfl, by rw [cell_of_row _ _ _ _ _ _ hrow]; rfl, by rw [cell_of_row _ _ _ _ _ _ hrow]; rfl, by rw [cell_of_row _ _ _ _ _ _ hrow]; rfl⟩
  · injection e with e; injection e with e1 e2; rw [← e1]; exact hlt
  · have hk2 : k = 0 ∨ k = 1 := by have := (List.getElem?_eq_some_iff.1 hm).1; simp at this; omega
    rcases hk2 with rfl | rfl
    · simp at hm; subst hm; exact ⟨rfl, ha.mono fun b _ hlt => hlt⟩
    · simp at hm; subst hm; exact ⟨rfl, hb.mono fun b _ hlt => hlt⟩
theorem parse_two {w : World} {g : Nat} {x s : ByteArray} {a0 a1 a2 b0 b1 b2 : Value} {p p' : PT} (hrow : w.heap[g]? = some (.cells #[.string x, a0, a1, a2, .string x, b0, b1, b2] 64 (0, 0))) (ha : IsP w Any (.agg #[a0, a1, a2]) p) (hb : IsP w Any (.agg #[b0, b1, b2]) p') :
    Calls Try.prog 32 #[.string s, .slice (some ⟨g, 0, none⟩) 2 2] w fun e w' => ∃ ka ca : Int, ∃ A n cp, ∃ bad x' : Int, e = .returned (.tuple #[.agg #[.int .i64 ka, .int .i64 ca, .slice A n cp], .int .i64 bad, .int .i64 x']) ∧ Below w.heap.size w w' ∧
      Came (parseF [(x, p), (x, p')] s) w.heap.size w' (.agg #[.int .i64 ka, .int .i64 ca, .slice A n cp]) x' :=
  (parse_any (Sm := fun b => b < w.heap.size) (s := s) (by simp) (macs_two hrow ha hb) (fun b hb => hb)).mono fun _ _ h => came_of h
theorem parse_none {w : World} {s : ByteArray} :
    Calls Try.prog 32 #[.string s, .slice none 0 0] w fun e w' => ∃ ka ca : Int, ∃ A n cp, ∃ bad x' : Int, e = .returned (.tuple #[.agg #[.int .i64 ka, .int .i64 ca, .slice A n cp], .int .i64 bad, .int .i64 x']) ∧ Below w.heap.size w w' ∧
      Came (parseF [] s) w.heap.size w' (.agg #[.int .i64 ka, .int .i64 ca, .slice A n cp]) x' :=
  (parse_any (s := s) (by decide) (macs_nil w) (fun b hb => hb.elim)).mono fun _ _ h => came_of h
theorem macs_x {o p : PT} (hp : rightP p = true) (hk : p.kind ≠ 9) : macsOf rightP [(⟨#[120]⟩, o), (⟨#[120]⟩, p)] [120] = some p ∧ ∀ b, b ≠ [120] → macsOf rightP [(⟨#[120]⟩, o), (⟨#[120]⟩, p)] b = none := by
  have e : bsOf ⟨#[120]⟩ = [120] := rfl
  have hk2 : (p.kind == 9) = false := by simpa using hk
  constructor
  · unfold macsOf
    simp [e, hp, hk2]
  · intro b hb
    unfold macsOf
    have hb2 : ([120] == b) = false := by simpa using fun h => hb h.symm
    simp [e, hb2]
end Go.Proofs.Ytjcdcmeclnihbaa
