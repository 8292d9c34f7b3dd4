/- No place is behind another one more often than there are places: plain. No conditions. -/
import Derived.Test.YthdhbkngbmjjkaaVb
import Derived.Test.YthdhbkngbmjjkaaNa
namespace Go.Proofs.Ythdhbkngbmjjkaa
open Go.RowKit
def lvSum (ks : List Kn) : Nat := sumL (fun k : Kn => k.lv.length) ks
theorem sumL_append {T : Type} (f : T → Nat) : ∀ a b : List T, sumL f (a ++ b) = sumL f a + sumL f b
  | [], b => by simp [sumL]
  | x :: a, b => by simp only [List.cons_append, sumL]; rw [sumL_append f a b]; omega
theorem lvSum_set {k : Kn} : ∀ {ks : List Kn} {i : Nat}, i < ks.length → lvSum (ks.set i k) + (kn ks i).lv.length = lvSum ks + k.lv.length
  | [], _, h => by simp at h
  | x :: ks, 0, _ => by simp [lvSum, sumL, kn]; omega
  | x :: ks, i + 1, h => by
    have := lvSum_set (k := k) (ks := ks) (i := i) (by simpa using h)
    have e : kn (x :: ks) (i + 1) = kn ks i := by simp [kn]
    rw [e]
    simp only [List.set_cons_succ]
    simp only [lvSum, sumL] at *
    omega
def Bs.tot (s : Bs) : Prop := lvSum s.kns = s.lfs.length
theorem Bs.tot.knot {s : Bs} (h : s.tot) : s.knot.tot := by
  show lvSum (s.kns ++ [⟨[], [], 0⟩]) = s.lfs.length
  unfold lvSum
  rw [sumL_append]
  have h' : sumL (fun k : Kn => k.lv.length) s.kns = s.lfs.length := h
  simp [sumL, h']
theorem Bs.tot.arrow {s : Bs} {f t : Nat} (h : s.tot) (hf : f < s.kns.length) : (s.arrow f t).tot := by
  have := lvSum_set (k := ⟨(kn s.kns f).free ++ [(t : Int)], (kn s.kns f).lv, (kn s.kns f).fin⟩) hf
  have h' : lvSum s.kns = s.lfs.length := h
  show lvSum (s.kns.set f _) = s.lfs.length
  simp only at this
  omega
theorem Bs.tot.fin {s : Bs} {f : Nat} {e : Int} (h : s.tot) (hf : f < s.kns.length) : (s.fin f e).tot := by
  have := lvSum_set (k := ⟨(kn s.kns f).free, (kn s.kns f).lv, e⟩) hf
  have h' : lvSum s.kns = s.lfs.length := h
  show lvSum (s.kns.set f _) = s.lfs.length
  simp only at this
  omega
theorem Bs.tot.leaf {s : Bs} {f t : Nat} {k c : Int} (h : s.tot) (hf : f < s.kns.length) : (s.leaf k c f t).tot := by
  have := lvSum_set (k := ⟨(kn s.kns f).free, (kn s.kns f).lv ++ [((s.lfs.length + 1 : Nat) : Int)], (kn s.kns f).fin⟩) hf
  have h' : lvSum s.kns = s.lfs.length := h
  show lvSum (s.kns.set f _) = (s.lfs ++ [(k, c, (t : Int))]).length
  simp only [List.length_append, List.length_singleton] at this ⊢
  omega
/-- What all the steps of building keep, laying keeps. -/
structure Shut (P : Bs → Prop) : Prop where
  knot : ∀ s, P s → P s.knot
  arrow : ∀ s f t, P s → f < s.kns.length → t < s.kns.length → P (s.arrow f t)
  leaf : ∀ s k c f t, P s → f < s.kns.length → t < s.kns.length → P (s.leaf k c f t)
def LayShut (P : Bs → Prop) (f : Nat → Nat → Bs → Bs) : Prop := ∀ frm to (s : Bs), frm < s.kns.length → to < s.kns.length → P s → P (f frm to s) ∧ s.kns.length ≤ (f frm to s).kns.length
theorem layS_shut {P : Bs → Prop} (H : Shut P) {T : Type} {f : T → Nat → Nat → Bs → Bs} (hf : ∀ k, LayShut P (f k)) : ∀ (l : List T), LayShut P (layS f l)
  | [], _, _, _, _, _, h => ⟨h, Nat.le_refl _⟩
  | [k], frm, to, s, h1, h2, h => hf k frm to s h1 h2 h
  | k :: k2 :: r, frm, to, s, h1, h2, h => by
    have hk := knot_len s
    obtain ⟨a, b⟩ := hf k frm s.kns.length s.knot (by omega) (by omega) (H.knot _ h)
    obtain ⟨a2, b2⟩ := layS_shut H hf (k2 :: r) s.kns.length to (f k frm s.kns.length s.knot) (by omega) (by omega) a
    exact ⟨a2, show _ ≤ (layS f (k2 :: r) s.kns.length to (f k frm s.kns.length s.knot)).kns.length by omega⟩
theorem layA_shut {P : Bs → Prop} {T : Type} {f : T → Nat → Nat → Bs → Bs} (hf : ∀ k, LayShut P (f k)) : ∀ (l : List T) frm to (s : Bs), frm < s.kns.length → to < s.kns.length → P s → P (l.foldl (fun s k => f k frm to s) s) ∧ s.kns.length ≤ (l.foldl (fun s k => f k frm to s) s).kns.length
  | [], _, _, _, _, _, h => ⟨h, Nat.le_refl _⟩
  | k :: r, frm, to, s, h1, h2, h => by
    obtain ⟨a, b⟩ := hf k frm to s h1 h2 h
    obtain ⟨a2, b2⟩ := layA_shut hf r frm to (f k frm to s) (by omega) (by omega) a
    exact ⟨a2, show _ ≤ (r.foldl (fun s k => f k frm to s) (f k frm to s)).kns.length by omega⟩
theorem often_shut {P : Bs → Prop} (H : Shut P) {kd : Int} {f : Nat → Nat → Bs → Bs} (hf : LayShut P f) : LayShut P (oftenB kd f) := by
  intro frm to s h1 h2 h
  have k2 : s.knot.knot.kns.length = s.kns.length + 2 := by rw [knot_len, knot_len]
  obtain ⟨a, b⟩ := hf s.kns.length (s.kns.length + 1) ((s.knot.knot.arrow frm s.kns.length).arrow (s.kns.length + 1) to) (by rw [arrow_len, arrow_len]; omega) (by rw [arrow_len, arrow_len]; omega)
    (H.arrow _ _ _ (H.arrow _ _ _ (H.knot _ (H.knot _ h)) (by omega) (by omega)) (by rw [arrow_len]; omega) (by rw [arrow_len]; omega))
  rw [arrow_len, arrow_len] at b
  obtain ⟨s5, hs5⟩ : ∃ s5, s5 = f s.kns.length (s.kns.length + 1) ((s.knot.knot.arrow frm s.kns.length).arrow (s.kns.length + 1) to) := ⟨_, rfl⟩
  rw [← hs5] at a b
  have e : oftenB kd f frm to s = (let s2 := if kd = 7 then s5 else s5.arrow s.kns.length (s.kns.length + 1); if kd = 8 then s2 else s2.arrow (s.kns.length + 1) s.kns.length) := by rw [hs5]; rfl
  rw [e]
  by_cases h7 : kd = 7
  · have h8 : ¬ kd = 8 := by omega
    simp only [if_pos h7, if_neg h8]
    exact ⟨H.arrow _ _ _ a (by omega) (by omega), by rw [arrow_len]; omega⟩
  · by_cases h8 : kd = 8
    · simp only [if_neg h7, if_pos h8]
      exact ⟨H.arrow _ _ _ a (by omega) (by omega), by rw [arrow_len]; omega⟩
    · simp only [if_neg h7, if_neg h8]
      exact ⟨H.arrow _ _ _ (H.arrow _ _ _ a (by omega) (by omega)) (by rw [arrow_len]; omega) (by rw [arrow_len]; omega), by rw [arrow_len, arrow_len]; omega⟩
theorem layB_shut {P : Bs → Prop} (H : Shut P) : ∀ (d : Nat) (t : Tr d), LayShut P (fun f o s => layB d t f o s)
  | 0, t => t.elim
  | d + 1, t => by
    have ih := layB_shut H d
    intro frm to s h1 h2 h
    simp only [layB]
    split
    · exact layS_shut H ih (Tr.kids t) frm to s h1 h2 h
    split
    · exact layA_shut ih (Tr.kids t) frm to s h1 h2 h
    split
    · cases Tr.kids t with
      | nil => exact ⟨h, Nat.le_refl _⟩
      | cons k r => exact often_shut H (ih k) frm to s h1 h2 h
    split
    · exact ⟨H.arrow _ _ _ h h1 h2, by rw [arrow_len]; exact Nat.le_refl _⟩
    · exact ⟨H.leaf _ _ _ _ _ h h1 h2, by rw [leaf_len]; exact Nat.le_refl _⟩
theorem tot_shut : Shut Bs.tot := ⟨fun _ h => h.knot, fun _ _ _ h hf _ => h.arrow hf, fun _ _ _ _ _ h hf _ => h.leaf hf⟩
/-- What building keeps that the telling of ends keeps too. -/
theorem buildL_shut {P : Bs → Prop} (H : Shut P) (hfin : ∀ s k e, P s → k < s.kns.length → P (s.fin k e)) {d : Nat} : ∀ (l : List (Tr d)) (i : Nat) (s : Bs), 0 < s.kns.length → P s → P (buildL i l s) ∧ 0 < (buildL i l s).kns.length
  | [], _, _, h0, h => ⟨h, h0⟩
  | t :: r, i, s, h0, h => by
    have k1 := knot_len s
    have k2 := fin_len s.knot s.kns.length ((i + 1 : Nat) : Int)
    have k3 := knot_len (s.knot.fin s.kns.length ((i + 1 : Nat) : Int))
    obtain ⟨a, b⟩ := layB_shut H d t (s.kns.length + 1) s.kns.length (((s.knot.fin s.kns.length ((i + 1 : Nat) : Int)).knot).arrow 0 (s.kns.length + 1)) (by rw [arrow_len]; omega) (by rw [arrow_len]; omega)
      (H.arrow _ _ _ (H.knot _ (hfin _ _ _ (H.knot _ h) (by omega))) (by omega) (by omega))
    rw [arrow_len] at b
    exact buildL_shut H hfin r (i + 1) _ (show 0 < (layB d t _ _ _).kns.length by simp only at b; omega) a
theorem built_tot {d : Nat} (l : List (Tr d)) : (builtB l).tot := (buildL_shut tot_shut (fun _ _ _ h hk => h.fin hk) l 0 startB (by simp [startB]) (by simp [Bs.tot, startB, lvSum, sumL])).1
/-- Distinct ones of all: their sum is no more. -/
theorem range_split {f : Nat → Nat} {x : Nat} : ∀ {n : Nat}, x < n → ((List.range n).map f).sum = ((List.range n).map fun y => if y = x then 0 else f y).sum + f x
  | 0, h => by omega
  | n + 1, h => by
    rw [List.range_succ, List.map_append, List.map_append, List.sum_append, List.sum_append]
    by_cases e : x = n
    · subst e
      have : (List.range x).map f = (List.range x).map fun y => if y = x then 0 else f y := List.map_congr_left fun y hy => by
        have := List.mem_range.1 hy
        rw [if_neg (by omega)]
      rw [this]
      simp
    · rw [range_split (f := f) (x := x) (n := n) (by omega)]
      simp only [List.map_cons, List.map_nil, List.sum_cons, List.sum_nil]
      rw [if_neg (Ne.symm e)]
      omega
theorem sum_nodup {n : Nat} : ∀ (l : List Nat) (f : Nat → Nat), l.Nodup → (∀ x ∈ l, x < n) → (l.map f).sum ≤ ((List.range n).map f).sum
  | [], _, _, _ => by simp
  | x :: r, f, h, hx => by
    obtain ⟨h1, h2⟩ := List.nodup_cons.1 h
    have := sum_nodup r (fun y => if y = x then 0 else f y) h2 (fun y hy => hx y (List.mem_cons_of_mem _ hy))
    have e : r.map f = r.map fun y => if y = x then 0 else f y := List.map_congr_left fun y hy => by
      rw [if_neg]; rintro rfl; exact h1 hy
    rw [List.map_cons, List.sum_cons, range_split (hx x (List.mem_cons_self ..)), e]
    omega
theorem lvSum_range : ∀ ks : List Kn, lvSum ks = ((List.range ks.length).map fun i => (kn ks i).lv.length).sum
  | [] => rfl
  | x :: ks => by
    rw [List.length_cons, List.range_succ_eq_map, List.map_cons, List.sum_cons, List.map_map]
    have ih := lvSum_range ks
    have e : ((fun i => (kn (x :: ks) i).lv.length) ∘ Nat.succ) = fun i => (kn ks i).lv.length := by
      funext i; simp [kn]
    rw [e, ← ih]
    simp [lvSum, sumL, kn]
theorem next_len {s : Bs} (ho : s.ok) (ht : s.tot) (h0 : 0 < s.kns.length) (z : Int) : (nextOf s z).length ≤ s.lfs.length := by
  unfold nextOf
  split
  · rename_i hz
    have hpl : placeK s z.toNat < s.kns.length := by
      by_cases e : z.toNat = 0
      · unfold placeK; rw [if_pos e]; exact h0
      · have := (placeK_lt (k := z.toNat - 1) ho h0 (by omega)).1
        rw [show z.toNat - 1 + 1 = z.toNat by omega] at this
        exact this
    obtain ⟨h1, h2⟩ := reachL_rch ho hpl
    unfold lvsOf
    rw [List.length_flatMap]
    have e : (reachL s.kns (placeK s z.toNat)).map (fun z => (kn s.kns z.toNat).lv.length) = ((reachL s.kns (placeK s z.toNat)).map Int.toNat).map (fun i => (kn s.kns i).lv.length) := by rw [List.map_map]; rfl
    rw [e]
    have h3 := sum_nodup (n := s.kns.length) ((reachL s.kns (placeK s z.toNat)).map Int.toNat) (fun i => (kn s.kns i).lv.length) (by
      unfold List.Nodup
      rw [List.pairwise_map]
      refine List.Pairwise.imp_of_mem ?_ h1
      intro a b ha hb hab e
      have := h2 a ha
      have := h2 b hb
      omega) (fun x hx => by
      obtain ⟨y, hy, rfl⟩ := List.mem_map.1 hx
      have := h2 y hy
      omega)
    rw [← lvSum_range] at h3
    have h4 : lvSum s.kns = s.lfs.length := ht
    omega
  · simp
end Go.Proofs.Ythdhbkngbmjjkaa
