/- What the document's Make comes to: plain. Conditions: right expressions. -/
import Derived.Test.YthdhbkngbmjjkaaRq
namespace Go.Proofs.Ythdhbkngbmjjkaa
/-- The document's places, so far. -/
structure Mk8 where
  fst : List Int
  lst : List Int
  emp : Nat
  s : Rs
def makeI {d : Nat} (l : List (Tr d)) : Nat → Mk8
  | 0 => ⟨[], [], 0, ⟨[], [], []⟩⟩
  | i + 1 => match l[i]? with
    | some t => ⟨(makeI l i).fst ++ (lookP d t (i : Int) (makeI l i).s).1.fst, (makeI l i).lst ++ (lookP d t (i : Int) (makeI l i).s).1.lst, if (lookP d t (i : Int) (makeI l i).s).1.emp = true then (makeI l i).emp ||| 1 <<< i else (makeI l i).emp, (lookP d t (i : Int) (makeI l i).s).2⟩
    | none => makeI l i
theorem makeI_succ {d : Nat} {l : List (Tr d)} {i : Nat} {t : Tr d} (h : l[i]? = some t) : makeI l (i + 1) = ⟨(makeI l i).fst ++ (lookP d t (i : Int) (makeI l i).s).1.fst, (makeI l i).lst ++ (lookP d t (i : Int) (makeI l i).s).1.lst, if (lookP d t (i : Int) (makeI l i).s).1.emp = true then (makeI l i).emp ||| 1 <<< i else (makeI l i).emp, (lookP d t (i : Int) (makeI l i).s).2⟩ := by
  rw [makeI, h]
theorem leaves_cnt (d : Nat) (t : Tr d) : leavesT d t ≤ cnt d t := leavesT_le d t
structure MBd (L c : Nat) (m : Mk8) : Prop where
  fst : m.fst.length ≤ L
  lst : m.lst.length ≤ L
  lv : m.s.lv.length ≤ L
  of : m.s.of.length ≤ L
  prs : m.s.prs.length ≤ 51200 * c
theorem take_sum {T : Type} (f : T → Nat) (l : List T) (i : Nat) (t : T) (h : l[i]? = some t) : sumL f (l.take (i + 1)) = sumL f (l.take i) + f t := by
  obtain ⟨hi, e⟩ := List.getElem?_eq_some_iff.1 h
  rw [List.take_succ_eq_append_getElem hi, sumL_append, e]
  simp [sumL]
theorem cntL_append {T : Type} (f : T → Nat) : ∀ a b : List T, cntL f (a ++ b) = cntL f a + cntL f b
  | [], b => by simp [cntL]
  | x :: r, b => by simp only [List.cons_append, cntL]; rw [cntL_append f r b]; omega
theorem take_cnt {T : Type} (f : T → Nat) (l : List T) (i : Nat) (t : T) (h : l[i]? = some t) : cntL f (l.take (i + 1)) = cntL f (l.take i) + f t := by
  obtain ⟨hi, e⟩ := List.getElem?_eq_some_iff.1 h
  rw [List.take_succ_eq_append_getElem hi, cntL_append, e]
  simp [cntL]
theorem makeI_bd {d : Nat} {l : List (Tr d)} (h : cntE d l ≤ 160) : ∀ i, i ≤ l.length → MBd (sumL (fun t => leavesT d t) (l.take i)) (cntL (fun t => cnt d t) (l.take i)) (makeI l i)
  | 0, _ => ⟨Nat.zero_le _, Nat.zero_le _, Nat.zero_le _, Nat.zero_le _, Nat.zero_le _⟩
  | i + 1, hi => by
    have ht : l[i]? = some l[i] := List.getElem?_eq_getElem (by omega)
    have ih := makeI_bd h i (by omega)
    have hb := look_bd d l[i] (i : Int) (makeI l i).s
    have e1 := take_sum (fun t => leavesT d t) l i _ ht
    have e2 := take_cnt (fun t => cnt d t) l i _ ht
    have e3 : leavesT d l[i] ≤ 160 := by
      have h1 := leaves_cnt d l[i]
      have h2 := cntL_mem (f := fun t => cnt d t) (List.getElem_mem (show i < l.length by omega))
      unfold cntE at h
      omega
    rw [makeI_succ ht, e1, e2]
    have b1 := ih.fst
    have b2 := ih.lst
    have b3 := ih.lv
    have b4 := ih.of
    have b5 := ih.prs
    have c1 := hb.fst
    have c2 := hb.lst
    have c3 := hb.lv
    have c4 := hb.of
    have c5 := hb.prs e3
    exact ⟨by dsimp only; rw [List.length_append]; omega, by dsimp only; rw [List.length_append]; omega, by dsimp only; omega, by dsimp only; omega, by dsimp only; omega⟩
/-- Room for the next expression. -/
theorem makeI_room {d : Nat} {l : List (Tr d)} (h : cntE d l ≤ 160) {i : Nat} {t : Tr d} (ht : l[i]? = some t) : Room d t (makeI l i).s ∧ (makeI l i).fst.length + (lookP d t (i : Int) (makeI l i).s).1.fst.length ≤ 160 ∧ (makeI l i).lst.length + (lookP d t (i : Int) (makeI l i).s).1.lst.length ≤ 160 := by
  have hi := (List.getElem?_eq_some_iff.1 ht).1
  have hb := makeI_bd h i (by omega)
  have s1 := sumL_take (fun t => leavesT d t) _ _ _ ht
  have s2 := cntL_take (fun t => cnt d t) _ _ _ ht
  have s3 := sumL_le (f := fun t => leavesT d t) (c := fun t => cnt d t) (fun k => leaves_cnt d k) l
  have lb := look_bd d t (i : Int) (makeI l i).s
  have b1 := hb.fst
  have b2 := hb.lst
  have b3 := hb.lv
  have b4 := hb.of
  have b5 := hb.prs
  have c1 := lb.fst
  have c2 := lb.lst
  unfold cntE at h
  exact ⟨⟨by omega, by omega, by omega, by omega⟩, by omega, by omega⟩
theorem makeI_emp {d : Nat} (l : List (Tr d)) : ∀ i, (makeI l i).emp < 2 ^ i
  | 0 => by simp [makeI]
  | i + 1 => by
    have ih := makeI_emp l i
    have h2 : (2 : Nat) ^ i < 2 ^ (i + 1) := Nat.pow_lt_pow_right (by decide) (by omega)
    cases h : l[i]? with
    | none => rw [makeI, h]; exact Nat.lt_trans ih h2
    | some t =>
      rw [makeI_succ h]
      dsimp only
      split
      · exact Nat.or_lt_two_pow (Nat.lt_trans ih h2) (by rw [Nat.one_shiftLeft]; exact h2)
      · exact Nat.lt_trans ih h2
end Go.Proofs.Ythdhbkngbmjjkaa
