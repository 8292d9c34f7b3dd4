/- How much the document's walk over a tree notes. Plain. No conditions. -/
import Derived.Test.YthdhbkngbmjjkaaRm
namespace Go.Proofs.Ythdhbkngbmjjkaa
/-- What a tree's walk may come to. -/
structure Bd (L c : Nat) (s : Rs) (r : Pt × Rs) : Prop where
  fst : r.1.fst.length ≤ L
  lst : r.1.lst.length ≤ L
  lv : r.2.lv.length ≤ s.lv.length + L
  of : r.2.of.length ≤ s.of.length + L
  prs : L ≤ 160 → r.2.prs.length + 25600 ≤ s.prs.length + 51200 * c
theorem pair_le {l m : List Int} (hl : l.length ≤ 160) (hm : m.length ≤ 160) : (pairP l m).length ≤ 25600 := by
  rw [pairP_len]
  have := Nat.mul_le_mul hl hm
  omega
/-- Kids, one after another. -/
theorem fold_bd {T : Type} {f : T → Rs → Pt × Rs} {n c : T → Nat} {kd : Int} : ∀ (l : List T), (∀ k ∈ l, ∀ s, Bd (n k) (c k) s (f k s)) → ∀ (o : Pt) (s : Rs) (a : Nat), o.fst.length ≤ a → o.lst.length ≤ a →
    (l.foldl (fun o k => stepK kd o.1 (f k o.2)) (o, s)).1.fst.length ≤ a + sumL n l ∧ (l.foldl (fun o k => stepK kd o.1 (f k o.2)) (o, s)).1.lst.length ≤ a + sumL n l ∧
    (l.foldl (fun o k => stepK kd o.1 (f k o.2)) (o, s)).2.lv.length ≤ s.lv.length + sumL n l ∧ (l.foldl (fun o k => stepK kd o.1 (f k o.2)) (o, s)).2.of.length ≤ s.of.length + sumL n l ∧
    (a + sumL n l ≤ 160 → (l.foldl (fun o k => stepK kd o.1 (f k o.2)) (o, s)).2.prs.length ≤ s.prs.length + 51200 * cntL c l)
  | [], _, o, s, a, h1, h2 => by simp [sumL, cntL, h1, h2]
  | k :: r, h, o, s, a, h1, h2 => by
    have hb := h k List.mem_cons_self s
    obtain ⟨q, hq⟩ : ∃ q, q = f k s := ⟨_, rfl⟩
    rw [← hq] at hb
    have key : (stepK kd o q).1.fst.length ≤ a + n k ∧ (stepK kd o q).1.lst.length ≤ a + n k ∧ (stepK kd o q).2.lv.length ≤ s.lv.length + n k ∧ (stepK kd o q).2.of.length ≤ s.of.length + n k ∧ (a + n k ≤ 160 → (stepK kd o q).2.prs.length ≤ s.prs.length + 51200 * c k) := by
      have b1 := hb.fst
      have b2 := hb.lst
      have b3 := hb.lv
      have b4 := hb.of
      unfold stepK
      split
      · refine ⟨?_, ?_, b3, b4, fun ha => ?_⟩
        · show (if o.emp = true then o.fst ++ q.1.fst else o.fst).length ≤ _
          split
          · rw [List.length_append]; omega
          · omega
        · show (if q.1.emp = true then o.lst ++ q.1.lst else q.1.lst).length ≤ _
          split
          · rw [List.length_append]; omega
          · omega
        · have b5 := hb.prs (by omega)
          have b6 := pair_le (l := o.lst) (m := q.1.fst) (by omega) (by omega)
          show (q.2.prs ++ pairP o.lst q.1.fst).length ≤ _
          rw [List.length_append]; omega
      · refine ⟨by show (o.fst ++ q.1.fst).length ≤ _; rw [List.length_append]; omega, by show (o.lst ++ q.1.lst).length ≤ _; rw [List.length_append]; omega, b3, b4, fun ha => by have b5 := hb.prs (by omega); show q.2.prs.length ≤ _; omega⟩
    obtain ⟨k1, k2, k3, k4, k5⟩ := key
    obtain ⟨i1, i2, i3, i4, i5⟩ := fold_bd (kd := kd) r (fun x hx => h x (List.mem_cons_of_mem _ hx)) (stepK kd o q).1 (stepK kd o q).2 (a + n k) k1 k2
    simp only [List.foldl_cons, sumL, cntL]
    rw [← hq]
    rw [show ((stepK kd o q).1, (stepK kd o q).2) = stepK kd o q from rfl] at i1 i2 i3 i4 i5
    exact ⟨by omega, by omega, by omega, by omega, fun ha => by have := i5 (by omega); have := k5 (by omega); omega⟩
theorem look_bd : ∀ (d : Nat) (t : Tr d) (of : Int) (s : Rs), Bd (leavesT d t) (cnt d t) s (lookP d t of s)
  | 0, t, _, _ => t.elim
  | d + 1, t, of, s => by
    have ih := fun (k : Tr d) (_ : k ∈ Tr.kids t) (s : Rs) => look_bd d k of s
    have hc : cnt (d + 1) t = 1 + cntL (fun k => cnt d k) (Tr.kids t) := rfl
    simp only [lookP]
    by_cases h9 : Tr.kind t = 9
    · rw [if_pos h9]
      exact ⟨Nat.zero_le _, Nat.zero_le _, by simp, by simp, fun _ => by show s.prs.length + 25600 ≤ _; omega⟩
    rw [if_neg h9]
    by_cases hk : (Tr.kids t).length = 0
    · have hl : leavesT (d + 1) t = 1 := by simp only [leavesT]; rw [if_pos ⟨hk, h9⟩]
      rw [if_pos hk, hl]
      exact ⟨by simp, by simp, by simp, by simp, fun _ => by show s.prs.length + 25600 ≤ _; omega⟩
    · have hl : leavesT (d + 1) t = sumL (fun k => leavesT d k) (Tr.kids t) := by simp only [leavesT]; rw [if_neg fun h => hk h.1]
      rw [if_neg hk, hl, hc]
      obtain ⟨i1, i2, i3, i4, i5⟩ := fold_bd (n := fun k => leavesT d k) (c := fun k => cnt d k) (kd := Tr.kind t) (Tr.kids t) ih ⟨decide (Tr.kind t = 4), [], []⟩ s 0 (Nat.zero_le _) (Nat.zero_le _)
      rw [Nat.zero_add] at i1 i2
      obtain ⟨r, hr⟩ : ∃ r, r = (Tr.kids t).foldl (fun o k => stepK (Tr.kind t) o.1 (lookP d k of o.2)) (⟨decide (Tr.kind t = 4), [], []⟩, s) := ⟨_, rfl⟩
      rw [← hr] at i1 i2 i3 i4 i5 ⊢
      unfold endK
      split
      · refine ⟨i1, i2, i3, i4, fun ha => ?_⟩
        have b5 := i5 (by omega)
        have b6 := pair_le (l := r.1.lst) (m := r.1.fst) (by omega) (by omega)
        show (r.2.prs ++ pairP r.1.lst r.1.fst).length + 25600 ≤ _
        rw [List.length_append]; omega
      · exact ⟨i1, i2, i3, i4, fun ha => by have b5 := i5 (by omega); show r.2.prs.length + 25600 ≤ _; omega⟩
/-- Room for a tree's walk. -/
def Room (d : Nat) (t : Tr d) (s : Rs) : Prop := leavesT d t ≤ 160 ∧ s.lv.length + leavesT d t ≤ 1000 ∧ s.of.length + leavesT d t ≤ 1000 ∧ s.prs.length + 51200 * cnt d t ≤ 20000000
theorem sumL_take {T : Type} (f : T → Nat) : ∀ (l : List T) (i : Nat) (k : T), l[i]? = some k → sumL f (l.take i) + f k ≤ sumL f l
  | [], i, k, h => by simp at h
  | x :: r, 0, k, h => by simp at h; subst h; simp [sumL]
  | x :: r, i + 1, k, h => by
    have := sumL_take f r i k (by simpa using h)
    simp only [List.take_succ_cons, sumL]; omega
theorem cntL_take {T : Type} (f : T → Nat) : ∀ (l : List T) (i : Nat) (k : T), l[i]? = some k → cntL f (l.take i) + f k ≤ cntL f l
  | [], i, k, h => by simp at h
  | x :: r, 0, k, h => by simp at h; subst h; simp [cntL]
  | x :: r, i + 1, k, h => by
    have := cntL_take f r i k (by simpa using h)
    simp only [List.take_succ_cons, cntL]; omega
/-- So far in a tree's walk. -/
def foldK (d : Nat) (t : Tr (d + 1)) (of : Int) (s : Rs) (i : Nat) : Pt × Rs := ((Tr.kids t).take i).foldl (fun o k => stepK (Tr.kind t) o.1 (lookP d k of o.2)) (⟨decide (Tr.kind t = 4), [], []⟩, s)
theorem foldK_succ {d : Nat} {t : Tr (d + 1)} {of : Int} {s : Rs} {i : Nat} {k : Tr d} (h : (Tr.kids t)[i]? = some k) : foldK d t of s (i + 1) = stepK (Tr.kind t) (foldK d t of s i).1 (lookP d k of (foldK d t of s i).2) := by
  unfold foldK
  obtain ⟨hi, e⟩ := List.getElem?_eq_some_iff.1 h
  rw [List.take_succ_eq_append_getElem hi, List.foldl_append, e]
  rfl
theorem foldK_look {d : Nat} {t : Tr (d + 1)} {of : Int} {s : Rs} (h9 : Tr.kind t ≠ 9) (hk : (Tr.kids t).length ≠ 0) : lookP (d + 1) t of s = endK (Tr.kind t) (foldK d t of s (Tr.kids t).length) := by
  simp only [lookP, foldK]
  rw [if_neg h9, if_neg hk, List.take_length]
theorem foldK_bd {d : Nat} {t : Tr (d + 1)} {of : Int} {s : Rs} {i : Nat} {k : Tr d} (hR : Room (d + 1) t s) (hk : (Tr.kids t)[i]? = some k) : Room d k (foldK d t of s i).2 ∧ (foldK d t of s i).1.fst.length + (lookP d k of (foldK d t of s i).2).1.fst.length ≤ 160 ∧
    (foldK d t of s i).1.lst.length + (lookP d k of (foldK d t of s i).2).1.lst.length ≤ 160 ∧ (lookP d k of (foldK d t of s i).2).2.prs.length ≤ 20000000 := by
  have hi := (List.getElem?_eq_some_iff.1 hk).1
  have hl : leavesT (d + 1) t = sumL (fun k => leavesT d k) (Tr.kids t) := by simp only [leavesT]; rw [if_neg fun h => by omega]
  have hc : cnt (d + 1) t = 1 + cntL (fun k => cnt d k) (Tr.kids t) := rfl
  obtain ⟨r1, r2, r3, r4⟩ := hR
  rw [hl] at r1 r2 r3
  rw [hc] at r4
  have s1 := sumL_take (fun k => leavesT d k) _ _ _ hk
  have s2 := cntL_take (fun k => cnt d k) _ _ _ hk
  obtain ⟨i1, i2, i3, i4, i5⟩ := fold_bd (n := fun k => leavesT d k) (c := fun k => cnt d k) (kd := Tr.kind t) ((Tr.kids t).take i) (fun (k : Tr d) _ s => look_bd d k of s) ⟨decide (Tr.kind t = 4), [], []⟩ s 0 (Nat.zero_le _) (Nat.zero_le _)
  rw [Nat.zero_add] at i1 i2
  have e : ((Tr.kids t).take i).foldl (fun o k => stepK (Tr.kind t) o.1 (lookP d k of o.2)) (⟨decide (Tr.kind t = 4), [], []⟩, s) = foldK d t of s i := rfl
  rw [e] at i1 i2 i3 i4 i5
  have hb := look_bd d k of (foldK d t of s i).2
  have b1 := hb.fst
  have b2 := hb.lst
  have b5 := hb.prs (by omega)
  have i6 := i5 (by omega)
  exact ⟨⟨by omega, by omega, by omega, by omega⟩, by omega, by omega, by omega⟩
theorem foldK_end {d : Nat} {t : Tr (d + 1)} {of : Int} {s : Rs} (hR : Room (d + 1) t s) (hk : (Tr.kids t).length ≠ 0) : (foldK d t of s (Tr.kids t).length).1.fst.length ≤ 160 ∧ (foldK d t of s (Tr.kids t).length).1.lst.length ≤ 160 ∧ (foldK d t of s (Tr.kids t).length).2.prs.length ≤ 20000000 := by
  have hl : leavesT (d + 1) t = sumL (fun k => leavesT d k) (Tr.kids t) := by simp only [leavesT]; rw [if_neg fun h => hk h.1]
  have hc : cnt (d + 1) t = 1 + cntL (fun k => cnt d k) (Tr.kids t) := rfl
  obtain ⟨r1, r2, r3, r4⟩ := hR
  rw [hl] at r1
  rw [hc] at r4
  obtain ⟨i1, i2, i3, i4, i5⟩ := fold_bd (n := fun k => leavesT d k) (c := fun k => cnt d k) (kd := Tr.kind t) (Tr.kids t) (fun (k : Tr d) _ s => look_bd d k of s) ⟨decide (Tr.kind t = 4), [], []⟩ s 0 (Nat.zero_le _) (Nat.zero_le _)
  unfold foldK
  rw [List.take_length]
  have := i5 (by omega)
  exact ⟨by omega, by omega, by omega⟩
end Go.Proofs.Ythdhbkngbmjjkaa
