/- All numbers in what is built are ones of what there is; how many leaves there are; where expressions end. No conditions. -/
import Derived.Test.YthdhbkngbmjjkaaKw
import Derived.Test.YthdhbkngbmjjkaaLv
import Derived.Test.YthdhbkngbmjjkaaNf
import Derived.Test.YthdhbkngbmjjkaaRr
namespace Go.Proofs.Ythdhbkngbmjjkaa
theorem kn_out {ks : List Kn} {i : Nat} (h : ks.length ≤ i) : kn ks i = ⟨[], [], 0⟩ := by unfold kn; rw [List.getElem?_eq_none h]; rfl
theorem Bs.ok.knot {s : Bs} (h : s.ok) : s.knot.ok := by
  refine ⟨fun i z hz => ?_, fun i z hz => ?_, fun x hx => ?_⟩
  · rw [knot_len]
    have hz' : z ∈ (kn (s.kns ++ [⟨[], [], 0⟩]) i).free := hz
    rw [kn_snoc] at hz'
    by_cases e : i < s.kns.length
    · rw [if_pos e] at hz'; have := h.1 i z hz'; omega
    · rw [if_neg e] at hz'; split at hz' <;> simp at hz'
  · have hz' : z ∈ (kn (s.kns ++ [⟨[], [], 0⟩]) i).lv := hz
    rw [kn_snoc] at hz'
    by_cases e : i < s.kns.length
    · rw [if_pos e] at hz'; exact h.2.1 i z hz'
    · rw [if_neg e] at hz'; split at hz' <;> simp at hz'
  · rw [knot_len]; have := h.2.2 x hx; omega
theorem Bs.ok.arrow {s : Bs} {f t : Nat} (h : s.ok) (hf : f < s.kns.length) (ht : t < s.kns.length) : (s.arrow f t).ok := by
  refine ⟨fun i z hz => ?_, fun i z hz => ?_, fun x hx => ?_⟩
  · rw [arrow_len]
    have hz' : z ∈ (kn (s.kns.set f ⟨(kn s.kns f).free ++ [(t : Int)], (kn s.kns f).lv, (kn s.kns f).fin⟩) i).free := hz
    rw [kn_set hf] at hz'
    split at hz'
    · rcases List.mem_append.1 hz' with h1 | h1
      · exact h.1 f z h1
      · have : z = t := by simpa using h1
        omega
    · exact h.1 i z hz'
  · have hz' : z ∈ (kn (s.kns.set f ⟨(kn s.kns f).free ++ [(t : Int)], (kn s.kns f).lv, (kn s.kns f).fin⟩) i).lv := hz
    rw [kn_set hf] at hz'
    split at hz'
    · exact h.2.1 f z hz'
    · exact h.2.1 i z hz'
  · rw [arrow_len]; exact h.2.2 x hx
theorem Bs.ok.leaf {s : Bs} {f t : Nat} {k c : Int} (h : s.ok) (hf : f < s.kns.length) (ht : t < s.kns.length) : (s.leaf k c f t).ok := by
  have hl : (s.leaf k c f t).lfs.length = s.lfs.length + 1 := by simp [Bs.leaf]
  refine ⟨fun i z hz => ?_, fun i z hz => ?_, fun x hx => ?_⟩
  · rw [leaf_len]
    have hz' : z ∈ (kn (s.kns.set f ⟨(kn s.kns f).free, (kn s.kns f).lv ++ [((s.lfs.length + 1 : Nat) : Int)], (kn s.kns f).fin⟩) i).free := hz
    rw [kn_set hf] at hz'
    split at hz'
    · exact h.1 f z hz'
    · exact h.1 i z hz'
  · rw [hl]
    have hz' : z ∈ (kn (s.kns.set f ⟨(kn s.kns f).free, (kn s.kns f).lv ++ [((s.lfs.length + 1 : Nat) : Int)], (kn s.kns f).fin⟩) i).lv := hz
    rw [kn_set hf] at hz'
    split at hz'
    · rcases List.mem_append.1 hz' with h1 | h1
      · have := h.2.1 f z h1; omega
      · have : z = ((s.lfs.length + 1 : Nat) : Int) := by simpa using h1
        omega
    · have := h.2.1 i z hz'; omega
  · rw [leaf_len]
    have hx' : x ∈ s.lfs ++ [(k, c, (t : Int))] := hx
    rcases List.mem_append.1 hx' with h1 | h1
    · exact h.2.2 x h1
    · have : x = (k, c, (t : Int)) := by simpa using h1
      subst this
      simp only
      omega
theorem Bs.ok.fin {s : Bs} {k : Nat} {e : Int} (h : s.ok) (hk : k < s.kns.length) : (s.fin k e).ok := by
  have hl : (s.fin k e).kns.length = s.kns.length := by simp [Bs.fin]
  refine ⟨fun i z hz => ?_, fun i z hz => ?_, fun x hx => ?_⟩
  · rw [hl]
    have hz' : z ∈ (kn (s.kns.set k ⟨(kn s.kns k).free, (kn s.kns k).lv, e⟩) i).free := hz
    rw [kn_set hk] at hz'
    split at hz'
    · exact h.1 k z hz'
    · exact h.1 i z hz'
  · have hz' : z ∈ (kn (s.kns.set k ⟨(kn s.kns k).free, (kn s.kns k).lv, e⟩) i).lv := hz
    rw [kn_set hk] at hz'
    split at hz'
    · exact h.2.1 k z hz'
    · exact h.2.1 i z hz'
  · rw [hl]; exact h.2.2 x hx
/-- What laying keeps: all numbers stand for something, no end is told, so many leaves more. -/
def LayKeeps (f : Nat → Nat → Bs → Bs) (n : Nat) : Prop := ∀ frm to (s : Bs), frm < s.kns.length → to < s.kns.length →
  (s.ok → (f frm to s).ok) ∧ (∀ i, (kn (f frm to s).kns i).fin = (kn s.kns i).fin) ∧ (f frm to s).lfs.length = s.lfs.length + n ∧ s.kns.length ≤ (f frm to s).kns.length
theorem knot_fin (s : Bs) (i : Nat) : (kn s.knot.kns i).fin = (kn s.kns i).fin := by
  show (kn (s.kns ++ [⟨[], [], 0⟩]) i).fin = _
  rw [kn_snoc]
  by_cases e : i < s.kns.length
  · rw [if_pos e]
  · rw [if_neg e, kn_out (by omega)]; split <;> rfl
theorem arrow_fin {s : Bs} {f t : Nat} (hf : f < s.kns.length) (i : Nat) : (kn (s.arrow f t).kns i).fin = (kn s.kns i).fin := by
  show (kn (s.kns.set f _) i).fin = _
  rw [kn_set hf]
  split
  · rename_i e; rw [e]
  · rfl
theorem leaf_fin {s : Bs} {f t : Nat} {k c : Int} (hf : f < s.kns.length) (i : Nat) : (kn (s.leaf k c f t).kns i).fin = (kn s.kns i).fin := by
  show (kn (s.kns.set f _) i).fin = _
  rw [kn_set hf]
  split
  · rename_i e; rw [e]
  · rfl
theorem layS_keeps {T : Type} {f : T → Nat → Nat → Bs → Bs} {c : T → Nat} : ∀ (l : List T) frm to (s : Bs), (∀ k ∈ l, LayKeeps (f k) (c k)) → frm < s.kns.length → to < s.kns.length →
    (s.ok → (layS f l frm to s).ok) ∧ (∀ i, (kn (layS f l frm to s).kns i).fin = (kn s.kns i).fin) ∧ (layS f l frm to s).lfs.length = s.lfs.length + sumL c l ∧ s.kns.length ≤ (layS f l frm to s).kns.length
  | [], _, _, _, _, _, _ => ⟨fun h => h, fun _ => rfl, rfl, Nat.le_refl _⟩
  | [k], frm, to, s, hf, h1, h2 => by
    obtain ⟨a, b, c', d⟩ := hf k (List.mem_cons_self ..) frm to s h1 h2
    exact ⟨a, b, by simp only [sumL]; exact c', d⟩
  | k :: k2 :: r, frm, to, s, hf, h1, h2 => by
    have hk := knot_len s
    obtain ⟨a, b, c', d⟩ := hf k (List.mem_cons_self ..) frm s.kns.length s.knot (by omega) (by omega)
    obtain ⟨a2, b2, c2, d2⟩ := layS_keeps (k2 :: r) s.kns.length to (f k frm s.kns.length s.knot) (fun x hx => hf x (List.mem_cons_of_mem _ hx)) (by omega) (by omega)
    refine ⟨fun h => a2 (a h.knot), fun i => ?_, ?_, ?_⟩
    · exact (b2 i).trans ((b i).trans (knot_fin s i))
    · show (layS f (k2 :: r) s.kns.length to (f k frm s.kns.length s.knot)).lfs.length = _
      rw [c2, c']
      have e : s.knot.lfs.length = s.lfs.length := rfl
      rw [e]
      show _ = s.lfs.length + (c k + sumL c (k2 :: r))
      omega
    · show _ ≤ (layS f (k2 :: r) s.kns.length to (f k frm s.kns.length s.knot)).kns.length; omega
theorem layA_keeps {T : Type} {f : T → Nat → Nat → Bs → Bs} {c : T → Nat} : ∀ (l : List T) frm to (s : Bs), (∀ k ∈ l, LayKeeps (f k) (c k)) → frm < s.kns.length → to < s.kns.length →
    (s.ok → (l.foldl (fun s k => f k frm to s) s).ok) ∧ (∀ i, (kn (l.foldl (fun s k => f k frm to s) s).kns i).fin = (kn s.kns i).fin) ∧ (l.foldl (fun s k => f k frm to s) s).lfs.length = s.lfs.length + sumL c l ∧ s.kns.length ≤ (l.foldl (fun s k => f k frm to s) s).kns.length
  | [], _, _, _, _, _, _ => ⟨fun h => h, fun _ => rfl, rfl, Nat.le_refl _⟩
  | k :: r, frm, to, s, hf, h1, h2 => by
    obtain ⟨a, b, c', d⟩ := hf k (List.mem_cons_self ..) frm to s h1 h2
    obtain ⟨a2, b2, c2, d2⟩ := layA_keeps r frm to (f k frm to s) (fun x hx => hf x (List.mem_cons_of_mem _ hx)) (by omega) (by omega)
    refine ⟨fun h => a2 (a h), fun i => (b2 i).trans (b i), ?_, ?_⟩
    · show (r.foldl (fun s k => f k frm to s) (f k frm to s)).lfs.length = _
      rw [c2, c']
      simp only [sumL]
      omega
    · show _ ≤ (r.foldl (fun s k => f k frm to s) (f k frm to s)).kns.length; omega
theorem often_keeps {kd : Int} {f : Nat → Nat → Bs → Bs} {c : Nat} (hf : LayKeeps f c) : LayKeeps (oftenB kd f) c := by
  intro frm to s h1 h2
  have k2 : s.knot.knot.kns.length = s.kns.length + 2 := by rw [knot_len, knot_len]
  obtain ⟨a, b, c', d⟩ := hf s.kns.length (s.kns.length + 1) ((s.knot.knot.arrow frm s.kns.length).arrow (s.kns.length + 1) to) (by rw [arrow_len, arrow_len]; omega) (by rw [arrow_len, arrow_len]; omega)
  rw [arrow_len, arrow_len] at d
  have hb : ∀ i, (kn (f s.kns.length (s.kns.length + 1) ((s.knot.knot.arrow frm s.kns.length).arrow (s.kns.length + 1) to)).kns i).fin = (kn s.kns i).fin := fun i =>
    (b i).trans ((arrow_fin (by rw [arrow_len]; omega) i).trans ((arrow_fin (by omega) i).trans ((knot_fin _ i).trans (knot_fin _ i))))
  have ha : s.ok → (f s.kns.length (s.kns.length + 1) ((s.knot.knot.arrow frm s.kns.length).arrow (s.kns.length + 1) to)).ok := fun h =>
    a ((h.knot.knot.arrow (by omega) (by omega)).arrow (by rw [arrow_len]; omega) (by rw [arrow_len]; omega))
  have hc : (f s.kns.length (s.kns.length + 1) ((s.knot.knot.arrow frm s.kns.length).arrow (s.kns.length + 1) to)).lfs.length = s.lfs.length + c := c'
  obtain ⟨s5, hs5⟩ : ∃ s5, s5 = f s.kns.length (s.kns.length + 1) ((s.knot.knot.arrow frm s.kns.length).arrow (s.kns.length + 1) to) := ⟨_, rfl⟩
  rw [← hs5] at hb ha hc d
  have e : oftenB kd f frm to s = (let s2 := if kd = 7 then s5 else s5.arrow s.kns.length (s.kns.length + 1); if kd = 8 then s2 else s2.arrow (s.kns.length + 1) s.kns.length) := by rw [hs5]; rfl
  rw [e]
  by_cases h7 : kd = 7
  · have h8 : ¬ kd = 8 := by omega
    simp only [if_pos h7, if_neg h8]
    exact ⟨fun h => (ha h).arrow (by omega) (by omega), fun i => (arrow_fin (by omega) i).trans (hb i), hc, by rw [arrow_len]; omega⟩
  · by_cases h8 : kd = 8
    · simp only [if_neg h7, if_pos h8]
      exact ⟨fun h => (ha h).arrow (by omega) (by omega), fun i => (arrow_fin (by omega) i).trans (hb i), hc, by rw [arrow_len]; omega⟩
    · simp only [if_neg h7, if_neg h8]
      exact ⟨fun h => ((ha h).arrow (by omega) (by omega)).arrow (by rw [arrow_len]; omega) (by rw [arrow_len]; omega), fun i => (arrow_fin (by rw [arrow_len]; omega) i).trans ((arrow_fin (by omega) i).trans (hb i)), hc, by rw [arrow_len, arrow_len]; omega⟩
theorem fit_kids {d : Nat} {wi : Bool} {t : Tr (d + 1)} (h : fitsT (d + 1) wi t = true) : (Tr.kids t = [] ↔ ¬ (Tr.kind t = 4 ∨ Tr.kind t = 5 ∨ Tr.kind t = 6 ∨ Tr.kind t = 7 ∨ Tr.kind t = 8)) ∧ (Tr.kind t = 6 ∨ Tr.kind t = 7 ∨ Tr.kind t = 8 → (Tr.kids t).length = 1) ∧ ∀ k ∈ Tr.kids t, fitsT d true k = true := by
  simp only [fitsT, Bool.and_eq_true, fitB, decide_eq_true_eq, List.all_eq_true] at h
  have h1 := h.1.1.2
  have h2 := h.2
  clear h
  generalize Tr.kids t = l at *
  generalize Tr.kind t = kd at *
  unfold least most at h1
  refine ⟨⟨fun e hk => ?_, fun hk => ?_⟩, fun hk => ?_, h2⟩
  · subst e
    simp only [List.length_nil] at h1
    split at h1
    · first | omega | (split at h1 <;> omega)
    · first | omega | (split at h1 <;> omega)
  · apply List.eq_nil_of_length_eq_zero
    split at h1
    · first | omega | (split at h1 <;> omega)
    · first | omega | (split at h1 <;> omega)
  · split at h1
    · first | omega | (split at h1 <;> omega)
    · first | omega | (split at h1 <;> omega)
theorem layB_keeps : ∀ (d : Nat) (wi : Bool) (t : Tr d), fitsT d wi t = true → LayKeeps (fun f o s => layB d t f o s) (leavesT d t)
  | 0, _, t, _ => t.elim
  | d + 1, wi, t, hfit => by
    intro frm to s h1 h2
    obtain ⟨hnil, hone, hkids⟩ := fit_kids hfit
    have hlen : (Tr.kids t).length = 0 ↔ Tr.kids t = [] := List.length_eq_zero_iff
    have ih : ∀ k ∈ Tr.kids t, LayKeeps (fun f o s => layB d k f o s) (leavesT d k) := fun k hk => layB_keeps d true k (hkids k hk)
    simp only [layB, leavesT]
    by_cases e4 : Tr.kind t = 4
    · rw [if_pos e4, if_neg (fun h => by have := hnil.1 (hlen.1 h.1); omega)]
      exact layS_keeps (f := fun k f o s => layB d k f o s) (c := fun k => leavesT d k) (Tr.kids t) frm to s ih h1 h2
    rw [if_neg e4]
    by_cases e5 : Tr.kind t = 5
    · rw [if_pos e5, if_neg (fun h => by have := hnil.1 (hlen.1 h.1); omega)]
      exact layA_keeps (f := fun k f o s => layB d k f o s) (c := fun k => leavesT d k) (Tr.kids t) frm to s ih h1 h2
    rw [if_neg e5]
    by_cases e6 : Tr.kind t = 6 ∨ Tr.kind t = 7 ∨ Tr.kind t = 8
    · rw [if_pos e6, if_neg (fun h => by have := hnil.1 (hlen.1 h.1); omega)]
      have ho := hone e6
      cases hk : Tr.kids t with
      | nil => rw [hk] at ho; simp at ho
      | cons k r =>
        rw [hk] at ho
        have hr : r = [] := List.eq_nil_of_length_eq_zero (by simpa using ho)
        subst hr
        simp only [sumL, Nat.add_zero]
        exact often_keeps (ih k (by rw [hk]; exact List.mem_cons_self ..)) frm to s h1 h2
    rw [if_neg e6]
    have hn : Tr.kids t = [] := hnil.2 (by omega)
    have hn0 := hlen.2 hn
    by_cases e9 : Tr.kind t = 9
    · rw [if_pos e9, if_neg (fun h => h.2 e9), hn]
      exact ⟨fun h => h.arrow h1 h2, arrow_fin h1, rfl, by rw [arrow_len]; exact Nat.le_refl _⟩
    · rw [if_neg e9, if_pos ⟨hn0, e9⟩]
      exact ⟨fun h => h.leaf h1 h2, leaf_fin h1, by simp [Bs.leaf], by rw [leaf_len]; exact Nat.le_refl _⟩
end Go.Proofs.Ythdhbkngbmjjkaa
namespace Go.Proofs.Ythdhbkngbmjjkaa
open Go.RowKit
def expB {d : Nat} (i : Nat) (t : Tr d) (s : Bs) : Bs := layB d t (s.kns.length + 1) s.kns.length (((s.knot.fin s.kns.length ((i + 1 : Nat) : Int)).knot).arrow 0 (s.kns.length + 1))
def buildL {d : Nat} : Nat → List (Tr d) → Bs → Bs
  | _, [], s => s
  | i, t :: r, s => buildL (i + 1) r (expB i t s)
def startB : Bs := ⟨[], [⟨[], [], 0⟩]⟩
def builtB {d : Nat} (l : List (Tr d)) : Bs := buildL 0 l startB
def Bs.fin64 (s : Bs) : Prop := ∀ i, 0 ≤ (kn s.kns i).fin ∧ (kn s.kns i).fin ≤ 64
theorem fin_len (s : Bs) (k : Nat) (e : Int) : (s.fin k e).kns.length = s.kns.length := by simp [Bs.fin]
theorem Bs.le.fin {s : Bs} {m k : Nat} {e : Int} (h : s.le m) (hk : k < s.kns.length) : (s.fin k e).le m := by
  refine ⟨h.1, by rw [fin_len]; exact h.2.1, fun i => ?_⟩
  show (kn (s.kns.set k _) i).free.length ≤ m ∧ (kn (s.kns.set k _) i).lv.length ≤ m
  rw [kn_set hk]
  split
  · exact h.2.2 k
  · exact h.2.2 i
theorem cnt_of_right {d : Nat} {t : Tr d} (h : rightT d t = true) : cnt d t ≤ 2000 ∧ fitsT d false t = true := by
  unfold rightT at h
  rw [Bool.and_eq_true, decide_eq_true_eq] at h
  have := (sizeT_le (d := d) (t := t) (most := 2000) (by omega)).1 h.1
  exact ⟨by omega, h.2⟩
/-- What the steps before the laying give. -/
theorem exp_pre {s : Bs} {i m : Nat} (ho : s.ok) (hf : s.fin64) (hl : s.le m) (h0 : 0 < s.kns.length) (hi : i < 40) (s4 : Bs) (h4 : s4 = ((s.knot.fin s.kns.length ((i + 1 : Nat) : Int)).knot).arrow 0 (s.kns.length + 1)) :
    s4.ok ∧ s4.fin64 ∧ s4.le (m + 3) ∧ s4.kns.length = s.kns.length + 2 ∧ s4.lfs = s.lfs := by
  have k1 := knot_len s
  have k2 := fin_len s.knot s.kns.length ((i + 1 : Nat) : Int)
  have k3 := knot_len (s.knot.fin s.kns.length ((i + 1 : Nat) : Int))
  have k4 : s4.kns.length = s.kns.length + 2 := by rw [h4, arrow_len]; omega
  refine ⟨?_, fun j => ?_, ?_, k4, by rw [h4]; rfl⟩
  · rw [h4]; exact ((ho.knot.fin (by omega)).knot).arrow (by omega) (by omega)
  · rw [h4, arrow_fin (by omega), knot_fin]
    show 0 ≤ (kn (s.knot.kns.set s.kns.length _) j).fin ∧ (kn (s.knot.kns.set s.kns.length _) j).fin ≤ 64
    rw [kn_set (by omega)]
    split
    · simp only; omega
    · rw [knot_fin]; exact hf j
  · rw [h4]
    exact (((hl.knot.fin (by omega)).knot).arrow (by omega)).mono (by omega)
theorem expB_keeps {d : Nat} {t : Tr d} {s : Bs} {i m : Nat} (ho : s.ok) (hf : s.fin64) (hl : s.le m) (h0 : 0 < s.kns.length) (hi : i < 40) (ht : rightT d t = true) :
    (expB i t s).ok ∧ (expB i t s).fin64 ∧ (expB i t s).le (m + 12 * cnt d t) ∧ 0 < (expB i t s).kns.length ∧ (expB i t s).lfs.length = s.lfs.length + leavesT d t := by
  obtain ⟨a, b, c, e, f⟩ := exp_pre ho hf hl h0 hi _ rfl
  obtain ⟨p, q, r, u⟩ := layB_keeps d false t (cnt_of_right ht).2 (s.kns.length + 1) s.kns.length _ (by rw [e]; omega) (by rw [e]; omega)
  obtain ⟨x, y⟩ := layB_ok d t (s.kns.length + 1) s.kns.length _ _ (by rw [e]; omega) (by rw [e]; omega) c
  simp only at q y
  have hc := cnt_pos' d t
  refine ⟨p a, fun j => ?_, ?_, ?_, ?_⟩
  · have := q j
    have := b j
    show 0 ≤ (kn (layB d t _ _ _).kns j).fin ∧ (kn (layB d t _ _ _).kns j).fin ≤ 64
    omega
  · exact Bs.le.mono x (by omega)
  · show 0 < (layB d t _ _ _).kns.length
    omega
  · rw [← f]; exact r
theorem startB_ok : startB.ok ∧ startB.fin64 ∧ startB.le 1 := by
  have h : ∀ i, (kn startB.kns i) = ⟨[], [], 0⟩ := fun i => by
    show kn ([] ++ [⟨[], [], 0⟩]) i = _
    rw [kn_snoc]
    split
    · simp [kn]
    · split <;> rfl
  refine ⟨⟨fun i z hz => ?_, fun i z hz => ?_, fun x hx => ?_⟩, fun i => ?_, ⟨by decide, by decide, fun i => ?_⟩⟩
  · rw [h] at hz; simp at hz
  · rw [h] at hz; simp at hz
  · simp [startB] at hx
  · rw [h]; simp
  · rw [h]; simp
theorem buildL_keeps {d : Nat} : ∀ (l : List (Tr d)) (i m : Nat) (s : Bs), s.ok → s.fin64 → s.le m → 0 < s.kns.length → i + l.length ≤ 40 → (∀ t ∈ l, rightT d t = true) →
    (buildL i l s).ok ∧ (buildL i l s).fin64 ∧ (buildL i l s).le (m + 24000 * l.length) ∧ 0 < (buildL i l s).kns.length ∧ (buildL i l s).lfs.length = s.lfs.length + sumL (fun t => leavesT d t) l
  | [], _, _, _, h1, h2, h3, h4, _, _ => ⟨h1, h2, h3.mono (by omega), h4, rfl⟩
  | t :: r, i, m, s, h1, h2, h3, h4, h5, h6 => by
    have hr := h6 t (List.mem_cons_self ..)
    have hc := (cnt_of_right hr).1
    rw [List.length_cons] at h5
    obtain ⟨a, b, c, e, f⟩ := expB_keeps (i := i) h1 h2 h3 h4 (by omega) hr
    obtain ⟨p, q, u, v, x⟩ := buildL_keeps r (i + 1) _ _ a b c e (by omega) (fun y hy => h6 y (List.mem_cons_of_mem _ hy))
    refine ⟨p, q, Bs.le.mono u (by rw [List.length_cons]; omega), v, ?_⟩
    simp only [buildL, sumL]
    rw [x, f]
    omega
theorem buildL_take {d : Nat} {l : List (Tr d)} {k : Nat} (h : k < l.length) : ∀ {i : Nat} {s : Bs}, buildL i (l.take (k + 1)) s = expB (i + k) l[k] (buildL i (l.take k) s) := by
  induction l generalizing k with
  | nil => simp at h
  | cons t r ih =>
    intro i s
    cases k with
    | zero => rfl
    | succ k =>
      have := ih (k := k) (by simpa using h) (i := i + 1) (s := expB i t s)
      rw [show i + 1 + k = i + (k + 1) by omega] at this
      exact this
/-- An end told: a store into a knot. -/
theorem NB.tell {w : World} {g B kb n kc k : Nat} {search : Bool} {lv m1 m2 : Value} {s : Bs} {V : Nat → Value} {e : Int} (hB : B ≤ g) (hg : w.heap[g]? = some (.cells #[.bool search, lv, .slice (some ⟨kb, 0, none⟩) n kc, m1, m2] 85 (0, 0)))
    (hl : LfAt w B lv s.lfs) (ho : w.ownsRow B 87 3 (.slice (some ⟨kb, 0, none⟩) n kc) n (flat3 n (knC V s.kns))) (hn : n = s.kns.length) (hr : Rows3 w B (2 * n) V (knZ s.kns)) (hk : k < n) :
    NB (w.setCell ⟨kb, k * 3 + 2, none⟩ (.int .i64 e)) g B search m1 m2 (s.fin k e) ∧ Below B w (w.setCell ⟨kb, k * 3 + 2, none⟩ (.int .i64 e)) ∧ Kp w (w.setCell ⟨kb, k * 3 + 2, none⟩ (.int .i64 e)) ∧
      w.cell? ⟨kb, k * 3 + 2, none⟩ = some (.int .i64 (kn s.kns k).fin) ∧ w.frozen? ⟨kb, k * 3 + 2, none⟩ = false ∧ w.cell? ⟨g, 2, none⟩ = some (.slice (some ⟨kb, 0, none⟩) n kc) := by
  have hkg : kb ≠ g := by
    have h1 := own_blk_ne ho hg (by decide)
    intro e; exact h1 (by rw [e]; rfl)
  have hkB : B ≤ kb := (ho.lt kb rfl).1
  obtain ⟨g', cap', cur', e1, -, hh, -⟩ := id (ho.2.resolve_left (by simp))
  simp only [Value.slice.injEq, Option.some.injEq, Addr.mk.injEq, and_true] at e1
  rw [← e1.1] at hh
  have hst := (ho.stored (k * 3 + 2) (.int .i64 e)).1
  have hgs : (w.setCell ⟨kb, k * 3 + 2, none⟩ (.int .i64 e)).heap[g]? = _ := (heap_setCell_other _ _ _ _ (fun e => hkg e.symm)).trans hg
  have hne : ∀ (b : Nat) (cs : Array Value) (T : TypeId), T ≠ 87 → w.heap[b]? = some (.cells cs T (0, 0)) → (w.setCell ⟨kb, k * 3 + 2, none⟩ (.int .i64 e)).heap[b]? = w.heap[b]? := fun b cs T hT hb => heap_setCell_other _ _ _ _ (fun e => by
      have e' : b = kb := e
      rw [e', hh] at hb
      injection hb with hb
      injection hb with _ hb
      exact hT hb.symm)
  have hcc := ho.cellAt (k * 3 + 2) (by omega)
  have hfl := flat3_at (f := knC V s.kns) (n := n) (i := k) (j := 2) hk (by omega)
  refine ⟨⟨hB, lv, _, hgs, hl.keep fun b cs hb => hne b cs 91 (by decide) hb, V, ?_, ?_⟩, (Below.refl _ _).setCell (p := ⟨kb, k * 3 + 2, none⟩) hkB _, Kp.set hh (by simp), hcc.trans hfl, ho.frozenAt _, (slot5 hg).2.2.1⟩
  · rw [fin_len, ← hn]
    rw [flat3_set hk (by omega)] at hst
    refine (flat3_congr (f := _) fun i hi => ?_) ▸ hst
    show _ = knC V (s.kns.set k ⟨(kn s.kns k).free, (kn s.kns k).lv, e⟩) i
    simp only [knC]
    rw [kn_set (by omega)]
    by_cases e : i = k
    · subst e; simp
    · rw [if_neg e, if_neg (Ne.symm e)]
  · rw [fin_len, ← hn]
    refine Rows3.congr (hr.keep fun b cs hb => hne b cs 3 (by decide) hb) (fun _ _ => rfl) fun a ha => ?_
    show knZ s.kns a = knZ (s.kns.set k _) a
    unfold knZ
    rw [kn_set (by omega)]
    by_cases e : k = a / 2
    · rw [if_pos e, ← e]
    · rw [if_neg e]
end Go.Proofs.Ythdhbkngbmjjkaa
