/- The automaton of a list of right expressions: behind each place stands just what the expressions say. Plain. No conditions. -/
import Derived.Test.YthdhbkngbmjjkaaG3
namespace Go.Proofs.Ythdhbkngbmjjkaa
set_option linter.unusedVariables false
theorem lays_tree : ∀ (d : Nat) (wi : Bool) (t : Tr d), fitsT d wi t = true → Lays (fun f o s => layB d t f o s) (leavesT d t) (fun o => glk d t o)
  | 0, _, t, _ => t.elim
  | d + 1, wi, t, h => by
    obtain ⟨h1, h2, h3⟩ := fit_kids h
    have ih := fun (k : Tr d) (hk : k ∈ Tr.kids t) => lays_tree d true k (h3 k hk)
    by_cases h9 : Tr.kind t = 9
    · have e1 : (fun f o s => layB (d + 1) t f o s) = fun frm to s => s.arrow frm to := by
        funext f o s
        simp only [layB]
        rw [if_neg (by omega), if_neg (by omega), if_neg (by omega), if_pos h9]
      have e2 : (fun o => glk (d + 1) t o) = fun _ => gOne := by funext o; exact if_pos h9
      have e3 : leavesT (d + 1) t = 0 := by
        have hk : Tr.kids t = [] := h1.2 (by omega)
        simp only [leavesT]
        rw [if_neg (fun h => h.2 h9), hk]
        rfl
      rw [e1, e2, e3]
      exact lays_arrow
    by_cases hk : Tr.kids t = []
    · have hn := h1.1 hk
      have e1 : (fun f o s => layB (d + 1) t f o s) = fun frm to s => s.leaf (Tr.kind t) (Tr.cls t) frm to := by
        funext f o s
        simp only [layB]
        rw [if_neg (by omega), if_neg (by omega), if_neg (by omega), if_neg h9]
      have hl : (Tr.kids t).length = 0 := by rw [hk]; rfl
      have e2 : (fun o => glk (d + 1) t o) = fun o => gLeaf (o + 1) := by funext o; simp only [glk]; rw [if_neg h9, if_pos hl]
      have e3 : leavesT (d + 1) t = 1 := if_pos ⟨hl, h9⟩
      rw [e1, e2, e3]
      exact lays_leaf _ _
    have hk4 : Tr.kind t = 4 ∨ Tr.kind t = 5 ∨ Tr.kind t = 6 ∨ Tr.kind t = 7 ∨ Tr.kind t = 8 := Decidable.byContradiction fun hc => hk (h1.2 hc)
    have hl : (Tr.kids t).length ≠ 0 := fun e => hk (List.length_eq_zero_iff.1 e)
    have e3 : leavesT (d + 1) t = sumL (fun k => leavesT d k) (Tr.kids t) := if_neg (fun h => hl h.1)
    by_cases h4 : Tr.kind t = 4
    · have e1 : (fun f o s => layB (d + 1) t f o s) = layS (fun k f o s => layB d k f o s) (Tr.kids t) := by
        funext f o s
        simp only [layB]
        rw [if_pos h4]
      have e2 : (fun o => glk (d + 1) t o) = seqG (fun k o => glk d k o) (fun k => leavesT d k) (Tr.kids t) := by funext o; simp only [glk]; rw [if_neg h9, if_neg hl, if_pos h4]
      rw [e1, e2, e3]
      exact lays_seq _ hk ih
    have e2 : (fun o => glk (d + 1) t o) = fun o => gOft (Tr.kind t) (altG (fun k o => glk d k o) (fun k => leavesT d k) (Tr.kids t) o) := by funext o; simp only [glk]; rw [if_neg h9, if_neg hl, if_neg h4]
    by_cases h5 : Tr.kind t = 5
    · have e1 : (fun f o s => layB (d + 1) t f o s) = fun frm to s => (Tr.kids t).foldl (fun s k => layB d k frm to s) s := by
        funext f o s
        simp only [layB]
        rw [if_neg h4, if_pos h5]
      have e4 : ∀ a : GS, gOft (Tr.kind t) a = a := fun a => GS.same (by simp only [gOft]; rw [h5]; simp) (by simp [gOft]) (by simp [gOft]) (by simp only [gOft]; rw [h5]; simp)
      rw [e1, e2, e3]
      simp only [e4]
      exact lays_alt (f := fun k f o s => layB d k f o s) _ ih
    have h6 : Tr.kind t = 6 ∨ Tr.kind t = 7 ∨ Tr.kind t = 8 := by omega
    obtain ⟨k, hk1⟩ := List.length_eq_one_iff.1 (h2 h6)
    have e1 : (fun f o s => layB (d + 1) t f o s) = oftenB (Tr.kind t) (fun f o s => layB d k f o s) := by
      funext f o s
      simp only [layB]
      rw [if_neg h4, if_neg h5, if_pos h6, hk1]
    rw [e1, e2, e3, hk1]
    have e5 : ∀ o, altG (fun k o => glk d k o) (fun k => leavesT d k) [k] o = glk d k o := fun o => gAlt_nil _
    simp only [e5]
    exact lays_often h6 (ih k (by rw [hk1]; exact List.mem_cons_self))
/-- What comes first in a list of expressions; what behind a place; ends are below 0. -/
def AllInto {d : Nat} : List (Tr d) → Nat → Nat → Int → Prop
  | [], _, _, _ => False
  | t :: r, o, i, x => Into (glk d t o) (fun y => y = -((i + 1 : Nat) : Int)) x ∨ AllInto r (o + leavesT d t) (i + 1) x
def AllAfter {d : Nat} : List (Tr d) → Nat → Nat → Nat → Int → Prop
  | [], _, _, _, _ => False
  | t :: r, o, i, p, x => After (glk d t o) p (fun y => y = -((i + 1 : Nat) : Int)) x ∨ AllAfter r (o + leavesT d t) (i + 1) p x
theorem fin_kn {s : Bs} {f : Nat} (e : Int) (hf : f < s.kns.length) (k : Nat) : kn (s.fin f e).kns k = if f = k then ⟨(kn s.kns f).free, (kn s.kns f).lv, e⟩ else kn s.kns k := kn_set hf
/-- The steps ahead of laying an expression. -/
theorem pre_facts {s : Bs} (h0 : 0 < s.kns.length) (e : Int) (he : 0 < e) : ∃ p, p = ((s.knot.fin s.kns.length e).knot).arrow 0 (s.kns.length + 1) ∧ p.kns.length = s.kns.length + 2 ∧ p.lfs = s.lfs ∧ Sub s p ∧ (s.ok → p.ok) ∧
    ((s.kns.length + 1 : Nat) : Int) ∈ (kn p.kns 0).free ∧ (kn p.kns s.kns.length).fin = e ∧
    ∀ lab, s.ok → Inv s lab → ∀ L, (∀ x, L x → lab 0 x) → ∃ lab', (∀ k, k < s.kns.length → lab' k = lab k) ∧ lab' s.kns.length = (fun x => x = -e) ∧ lab' (s.kns.length + 1) = L ∧ Inv p lab' := by
  have k1 := knot_len s
  have k2 := fin_len s.knot s.kns.length e
  have k3 := knot_len (s.knot.fin s.kns.length e)
  have hn : s.kns.length < s.knot.kns.length := by omega
  have h0' : 0 < (s.knot.fin s.kns.length e).knot.kns.length := by omega
  have hsf : Sub s.knot (s.knot.fin s.kns.length e) := ⟨fun _ _ => rfl, by rw [k2]; exact Nat.le_refl _, fun k => by
    rw [fin_kn e hn]
    split
    · rename_i h
      subst h
      rw [knot_kn, kn_out (Nat.le_refl _)]
      exact ⟨fun _ h => h, fun _ h => h, fun h => by simp at h⟩
    · exact ⟨fun _ h => h, fun _ h => h, fun _ => rfl⟩⟩
  refine ⟨_, rfl, by rw [arrow_len]; omega, rfl, ((Sub.knot s).trans hsf).trans ((Sub.knot _).trans (Sub.arrow h0')), fun h => ((h.knot.fin hn).knot).arrow h0' (by omega), ?_, ?_, fun lab ho hi L hL => ?_⟩
  · rw [arrow_kn _ h0', if_pos rfl]
    exact List.mem_append.2 (.inr (List.mem_singleton.2 rfl))
  · rw [arrow_kn _ h0', if_neg (by omega), knot_kn, fin_kn e hn, if_pos rfl]
  · have i1 := hi.knot ho (fun x => x = -e)
    have i2 : Inv (s.knot.fin s.kns.length e) (upd lab s.kns.length (fun x => x = -e)) := fun a => by
      unfold Gives
      rw [fin_kn e hn]
      split
      · rename_i h
        subst h
        refine ⟨fun x hx => ?_, fun b hb x hx => ?_⟩
        · rw [upd_same]
          rcases hx with hx | ⟨_, hx⟩
          · rw [knot_kn, kn_out (Nat.le_refl _)] at hx
            simp at hx
          · exact hx
        · rw [knot_kn, kn_out (Nat.le_refl _)] at hb
          simp at hb
      · exact i1 a
    have i3 := i2.knot (ho.knot.fin hn) L
    have e1 : (s.knot.fin s.kns.length e).kns.length = s.kns.length + 1 := by omega
    rw [e1] at i3
    refine ⟨_, fun k hk => (upd_other (by omega)).trans (upd_other (by omega)), (upd_other (by omega)).trans (upd_same _ _ _), upd_same _ _ _, i3.arrow h0' fun x hx => ?_⟩
    rw [upd_same] at hx
    rw [upd_other (by omega), upd_other (by omega)]
    exact hL x hx
theorem build_sub {d : Nat} : ∀ (l : List (Tr d)) (i : Nat) (s : Bs), 0 < s.kns.length → (∀ t ∈ l, fitsT d false t = true) → Sub s (buildL i l s)
  | [], _, s, _, _ => Sub.refl s
  | t :: r, i, s, h0, hf => by
    obtain ⟨p, hp, plen, plfs, psub, -, -, -, -⟩ := pre_facts h0 ((i + 1 : Nat) : Int) (by omega)
    have hk := lays_tree d false t (hf t List.mem_cons_self)
    have h1 := hk.sub (s.kns.length + 1) s.kns.length p (by omega) (by omega)
    have e : expB i t s = layB d t (s.kns.length + 1) s.kns.length p := by rw [hp]; rfl
    have h2 : 0 < (expB i t s).kns.length := by rw [e]; have := h1.2.1; omega
    have h3 := build_sub r (i + 1) (expB i t s) h2 fun x hx => hf x (List.mem_cons_of_mem _ hx)
    rw [e] at h3
    show Sub s (buildL (i + 1) r (expB i t s))
    rw [e]
    exact (psub.trans h1).trans h3
theorem build_compl {d : Nat} : ∀ (l : List (Tr d)) (i : Nat) (s H : Bs), 0 < s.kns.length → (∀ t ∈ l, fitsT d false t = true) → Sub (buildL i l s) H →
    (∀ x, AllInto l s.lfs.length i x → Yields H 0 x) ∧ ∀ p x, AllAfter l s.lfs.length i p x → Yields H (placeK H p) x
  | [], _, _, _, _, _, _ => ⟨fun _ h => h.elim, fun _ _ h => h.elim⟩
  | t :: r, i, s, H, h0, hf, hs => by
    obtain ⟨p, hp, plen, plfs, psub, -, pf1, pf2, -⟩ := pre_facts h0 ((i + 1 : Nat) : Int) (by omega)
    have hk := lays_tree d false t (hf t List.mem_cons_self)
    have hf' : ∀ x ∈ r, fitsT d false x = true := fun x hx => hf x (List.mem_cons_of_mem _ hx)
    have h1 := hk.sub (s.kns.length + 1) s.kns.length p (by omega) (by omega)
    have e : expB i t s = layB d t (s.kns.length + 1) s.kns.length p := by rw [hp]; rfl
    have hs' : Sub (buildL (i + 1) r (expB i t s)) H := hs
    rw [e] at hs'
    have h2 : 0 < (layB d t (s.kns.length + 1) s.kns.length p).kns.length := by have := h1.2.1; omega
    have h3 := (build_sub r (i + 1) _ h2 hf').trans hs'
    obtain ⟨a1, a2⟩ := hk.compl (s.kns.length + 1) s.kns.length p H (by omega) (by omega) h3
    obtain ⟨b1, b2⟩ := build_compl r (i + 1) _ H h2 hf' hs'
    have hl := hk.len (s.kns.length + 1) s.kns.length p (by omega) (by omega)
    try simp only at hl
    rw [plfs] at hl a1 a2
    rw [hl] at b1 b2
    have hpH : Sub p H := h1.trans h3
    have hY : ∀ x, x = -((i + 1 : Nat) : Int) → Yields H s.kns.length x := fun x hx => ⟨_, .refl _, .inr (by
      have := (hpH.2.2 s.kns.length).2.2 (by rw [pf2]; omega)
      rw [this, pf2]
      exact ⟨by omega, hx⟩)⟩
    refine ⟨fun x hx => ?_, fun q x hx => ?_⟩
    · rcases hx with hx | hx
      · exact (a1 x (into_mono hY hx)).via (.step (.refl _) ((hpH.2.2 _).1 _ pf1))
      · exact b1 x hx
    · rcases hx with hx | hx
      · exact a2 q x (after_mono hY hx)
      · exact b2 q x hx
theorem build_sound {d : Nat} : ∀ (l : List (Tr d)) (i : Nat) (s : Bs) (lab : Nat → Int → Prop), 0 < s.kns.length → (∀ t ∈ l, fitsT d false t = true) → s.ok → Inv s lab → (∀ x, AllInto l s.lfs.length i x → lab 0 x) →
    ∃ lab', (∀ k, k < s.kns.length → lab' k = lab k) ∧ Inv (buildL i l s) lab' ∧ ∀ p, s.lfs.length < p → p ≤ s.lfs.length + sumL (fun t => leavesT d t) l → ∀ x, lab' (placeK (buildL i l s) p) x → AllAfter l s.lfs.length i p x
  | [], _, s, lab, _, _, _, hi, _ => ⟨lab, fun _ _ => rfl, hi, fun p a b => by simp only [sumL] at b; omega⟩
  | t :: r, i, s, lab, h0, hf, ho, hi, hl => by
    obtain ⟨p, hp, plen, plfs, psub, pok, pf1, pf2, pinv⟩ := pre_facts h0 ((i + 1 : Nat) : Int) (by omega)
    have hk := lays_tree d false t (hf t List.mem_cons_self)
    have hf' : ∀ x ∈ r, fitsT d false x = true := fun x hx => hf x (List.mem_cons_of_mem _ hx)
    have h1 := hk.sub (s.kns.length + 1) s.kns.length p (by omega) (by omega)
    have e : expB i t s = layB d t (s.kns.length + 1) s.kns.length p := by rw [hp]; rfl
    have h2 : 0 < (layB d t (s.kns.length + 1) s.kns.length p).kns.length := by have := h1.2.1; omega
    have hlen := hk.len (s.kns.length + 1) s.kns.length p (by omega) (by omega)
    have hok := hk.ok (s.kns.length + 1) s.kns.length p (by omega) (by omega) (pok ho)
    try simp only at hlen hok h1
    rw [plfs] at hlen
    obtain ⟨lab1, a1, a2, a3, a4⟩ := pinv lab ho hi (Into (glk d t s.lfs.length) (fun y => y = -((i + 1 : Nat) : Int))) fun x hx => hl x (.inl hx)
    obtain ⟨lab2, b1, b2, b3⟩ := hk.sound (s.kns.length + 1) s.kns.length p lab1 (by omega) (by omega) (pok ho) a4 (by rw [plfs, a2, a3]; exact fun x h => h)
    rw [plfs, a2] at b3
    try simp only at b2 b3
    obtain ⟨lab3, c1, c2, c3⟩ := build_sound r (i + 1) _ lab2 h2 hf' hok b2 (by
      rw [hlen, b1 0 (by omega), a1 0 h0]
      exact fun x hx => hl x (.inr hx))
    rw [hlen] at c3
    have eb : buildL i (t :: r) s = buildL (i + 1) r (layB d t (s.kns.length + 1) s.kns.length p) := by rw [← e]; rfl
    rw [eb]
    refine ⟨lab3, fun k hk' => ?_, c2, fun q hq1 hq2 x hx => ?_⟩
    · rw [c1 k (by have := h1.2.1; omega), b1 k (by omega), a1 k hk']
    · simp only [sumL] at hq2
      by_cases hq : q ≤ s.lfs.length + leavesT d t
      · rw [(build_sub r (i + 1) _ h2 hf').place (by omega) (by omega), c1 _ (place_lt hok (by omega) (by omega))] at hx
        exact .inl (b3 q hq1 hq x hx)
      · exact .inr (c3 q (by omega) (by omega) x hx)
/-- THE AUTOMATON: what comes of the beginning, and of each place, is what the expressions say. -/
theorem built_yields {d : Nat} {l : List (Tr d)} (hf : ∀ t ∈ l, fitsT d false t = true) :
    (∀ x, Yields (builtB l) 0 x ↔ AllInto l 0 0 x) ∧ ∀ p, 0 < p → p ≤ sumL (fun t => leavesT d t) l → ∀ x, Yields (builtB l) (placeK (builtB l) p) x ↔ AllAfter l 0 0 p x := by
  have h0 : 0 < startB.kns.length := by simp [startB]
  obtain ⟨c1, c2⟩ := build_compl l 0 startB (builtB l) h0 hf (Sub.refl _)
  have hk : ∀ a, kn startB.kns a = ⟨[], [], 0⟩ := fun a => by
    by_cases e : a = 0
    · subst e; rfl
    · exact kn_out (by simp [startB]; omega)
  obtain ⟨lab, a1, a2, a3⟩ := build_sound l 0 startB (fun _ => AllInto l 0 0) h0 hf startB_ok.1 (fun a => by
    unfold Gives
    rw [hk]
    exact ⟨fun x hx => by simp at hx, fun b hb => by simp at hb⟩) (fun x hx => hx)
  refine ⟨fun x => ⟨fun h => ?_, c1 x⟩, fun p hp1 hp2 x => ⟨fun h => ?_, c2 p x⟩⟩
  · have := a2.yields h
    rw [a1 0 h0] at this
    exact this
  · exact a3 p hp1 (by show p ≤ 0 + _; omega) x (a2.yields h)
end Go.Proofs.Ythdhbkngbmjjkaa
