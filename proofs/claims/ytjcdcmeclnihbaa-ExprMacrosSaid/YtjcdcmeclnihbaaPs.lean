/- Expressions as plain trees; what a text is read as, by what is left of it. Plain. No conditions. -/
import Derived.Test.YtjcdcmeclnihbaaBaseA
namespace Go.Proofs.Ytjcdcmeclnihbaa
/-- An expression: its kind, its class, its parts. -/
inductive PT where
  | mk (kind cls : Int) (kids : List PT)
def PT.kind : PT → Int
  | .mk k _ _ => k
def PT.cls : PT → Int
  | .mk _ c _ => c
def PT.kids : PT → List PT
  | .mk _ _ l => l
/-- Bytes, as numbers. -/
abbrev Bs := List Nat
def isL (c : Nat) : Bool := (decide (65 ≤ c) && decide (c ≤ 90)) || (decide (97 ≤ c) && decide (c ≤ 122))
def skip : Bs → Bs
  | [] => []
  | c :: l => if c = 32 then skip l else c :: l
/-- The byte that is looked at; 0: there is none. -/
def hd (l : Bs) : Nat := l.headD 0
def nmOf : Bs → Bs
  | [] => []
  | c :: l => if isL c then c :: nmOf l else []
def rsOf : Bs → Bs
  | [] => []
  | c :: l => if isL c then rsOf l else c :: l
/-- What comes of reading: an expression and what is left; or where it is wrong, and why. -/
inductive Res (α : Type) where
  | ok (t : α) (rest : Bs)
  | no (rest : Bs) (e : Nat)
def beginsB (c : Nat) : Bool := isL c || c == 126 || c == 94 || c == 40
section
variable (nums : Bs → Option Int) (macs : Bs → Option PT)
/-- A name: any, a macro's, or a class's. -/
def namedF (l : Bs) : Res PT :=
  if nmOf l = [97, 110, 121] then .ok (.mk 1 0 []) (rsOf l) else
  match macs (nmOf l) with
  | some m => .ok m (rsOf l)
  | none => match nums (nmOf l) with
    | some c => .ok (.mk 0 c []) (rsOf l)
    | none => .no l 5
/-- A class's name, and what it is of. -/
def classF (k : Int) (l : Bs) : Res PT :=
  if isL (hd (skip l)) then
    match nums (nmOf (skip l)) with
    | some c => .ok (.mk k c []) (rsOf (skip l))
    | none => .no (skip l) 5
  else .no (skip l) 4
/-- What follows an open bracket. -/
def closeF : Res PT → Res PT
  | .no q e => .no q e
  | .ok t q => if hd (skip q) = 41 then .ok t (skip q).tail else .no (skip q) 4
variable (alts : Option (Bs → Res PT))
def brackF (l : Bs) : Res PT := match alts with
  | none => .no l 6
  | some f => closeF (f l.tail)
def atomF (l : Bs) : Res PT :=
  let q := skip l
  if isL (hd q) then namedF nums macs q
  else if hd q = 126 then classF nums 2 q.tail
  else if hd q = 94 then .ok (.mk 3 0 []) q.tail
  else if hd q = 40 then brackF alts q
  else .no q 4
def oftenSign (t : PT) (q : Bs) : Res PT :=
  if hd q = 42 then .ok (.mk 6 0 [t]) q.tail
  else if hd q = 43 then .ok (.mk 7 0 [t]) q.tail
  else if hd q = 63 then .ok (.mk 8 0 [t]) q.tail
  else .ok t q
def oftenF (l : Bs) : Res PT := match atomF nums macs alts l with
  | .no q e => .no q e
  | .ok t q => oftenSign t (skip q)
/-- Parts, one by one, while there are more; at most so many. -/
def partsF (one : Bs → Res PT) (more : Nat → Bool) (next : Bs → Bs) : Nat → Bs → Res (List PT)
  | 0, l => .no l 99
  | n + 1, l => match one l with
    | .no q e => .no q e
    | .ok t q => if more (hd (skip q)) then
        match partsF one more next n (next (skip q)) with
        | .no q' e => .no q' e
        | .ok ts q' => .ok (t :: ts) q'
      else .ok [t] (skip q)
def oneP (k : Int) : List PT → PT
  | [t] => t
  | l => .mk k 0 l
def oneR (k : Int) : Res (List PT) → Res PT
  | .no q e => .no q e
  | .ok l q => .ok (oneP k l) q
def seqF (l : Bs) : Res PT := oneR 4 (partsF (oftenF nums macs alts) beginsB id (l.length + 1) l)
def altsF (l : Bs) : Res PT := oneR 5 (partsF (seqF nums macs alts) (fun c => c == 124) List.tail (l.length + 1) l)
end
section
variable (nums : Bs → Option Int) (macs : Bs → Option PT)
/-- Brackets may stand so deep in one another. -/
def pAlts : Nat → Bs → Res PT
  | 0 => altsF nums macs none
  | d + 1 => altsF nums macs (some (pAlts d))
def pTop (l : Bs) : Res PT := match pAlts nums macs 20 l with
  | .no q e => .no q e
  | .ok t q => if skip q = [] then .ok t [] else .no (skip q) 4
end
theorem skip_cons (c : Nat) (l : Bs) : skip (c :: l) = if c = 32 then skip l else c :: l := rfl
theorem hd_skip (l : Bs) : hd (skip l) ≠ 32 := by
  induction l with
  | nil => decide
  | cons c l ih =>
    rw [skip_cons]
    by_cases h : c = 32
    · rw [if_pos h]; exact ih
    · rw [if_neg h]; exact h
theorem skip_of {l : Bs} (h : hd l ≠ 32) : skip l = l := by
  cases l with
  | nil => rfl
  | cons c l =>
    rw [skip_cons, if_neg (show ¬ c = 32 from h)]
theorem skip_skip (l : Bs) : skip (skip l) = skip l := skip_of (hd_skip l)
theorem nm_rs (l : Bs) : nmOf l ++ rsOf l = l := by
  induction l with
  | nil => rfl
  | cons c l ih =>
    unfold nmOf rsOf
    by_cases h : isL c = true
    · rw [if_pos h, if_pos h, List.cons_append, ih]
    · rw [if_neg h, if_neg h]; rfl
/-- What is left is a part of what was there. -/
theorem skip_suf (l : Bs) : ∃ k, k ≤ l.length ∧ skip l = l.drop k := by
  induction l with
  | nil => exact ⟨0, Nat.le_refl _, rfl⟩
  | cons c l ih =>
    unfold skip
    by_cases h : c = 32
    · obtain ⟨k, hk, e⟩ := ih
      rw [if_pos h]
      exact ⟨k + 1, by simp; omega, by rw [e]; rfl⟩
    · rw [if_neg h]; exact ⟨0, by omega, rfl⟩
theorem rs_suf (l : Bs) : rsOf l = l.drop (nmOf l).length := by
  have h : (nmOf l ++ rsOf l).drop (nmOf l).length = rsOf l := by simp
  rw [nm_rs] at h
  exact h.symm
end Go.Proofs.Ytjcdcmeclnihbaa
namespace Go.Proofs.Ytjcdcmeclnihbaa
def Short {α : Type} (f : Bs → Res α) : Prop := ∀ l t q, f l = .ok t q → q.length < l.length
theorem skip_len (l : Bs) : (skip l).length ≤ l.length := by
  induction l with
  | nil => exact Nat.le_refl _
  | cons c l ih =>
    rw [skip_cons]
    split
    · exact Nat.le_succ_of_le ih
    · exact Nat.le_refl _
theorem rs_len (l : Bs) : (rsOf l).length ≤ l.length := by
  induction l with
  | nil => exact Nat.le_refl _
  | cons c l ih =>
    unfold rsOf
    split
    · exact Nat.le_succ_of_le ih
    · exact Nat.le_refl _
theorem rs_lt {l : Bs} (h : isL (hd l) = true) : (rsOf l).length < l.length := by
  cases l with
  | nil => cases h
  | cons c l =>
    have : isL c = true := h
    unfold rsOf
    rw [if_pos this]
    exact Nat.lt_succ_of_le (rs_len l)
theorem tail_len (l : Bs) : l.tail.length ≤ l.length := by rw [List.length_tail]; omega
theorem tail_lt {l : Bs} (h : hd l ≠ 0) : l.tail.length < l.length := by
  cases l with
  | nil => exact absurd rfl h
  | cons c l => exact Nat.lt_succ_self _
section
variable {nums : Bs → Option Int} {macs : Bs → Option PT} {alts : Option (Bs → Res PT)}
theorem named_short {l q : Bs} {t : PT} (h : isL (hd l) = true) (e : namedF nums macs l = .ok t q) : q.length < l.length := by
  unfold namedF at e
  split at e
  · injection e with _ e; rw [← e]; exact rs_lt h
  · split at e
    · injection e with _ e; rw [← e]; exact rs_lt h
    · split at e
      · injection e with _ e; rw [← e]; exact rs_lt h
      · cases e
theorem class_short {k : Int} {l q : Bs} {t : PT} (e : classF nums k l = .ok t q) : q.length ≤ l.length := by
  unfold classF at e
  split at e
  · split at e
    · injection e with _ e; rw [← e]; exact Nat.le_trans (rs_len _) (skip_len _)
    · cases e
  · cases e
theorem brack_short (ha : ∀ f, alts = some f → Short f) {l q : Bs} {t : PT} (e : brackF alts l = .ok t q) : q.length ≤ l.length := by
  unfold brackF at e
  cases alts with
  | none => cases e
  | some f =>
    simp only at e
    cases hf : f l.tail with
    | no q' x => rw [hf] at e; cases e
    | ok t' q' =>
      rw [hf] at e
      unfold closeF at e
      simp only at e
      split at e
      · injection e with _ e
        have := ha f rfl _ _ _ hf
        have h1 := tail_len l
        have h2 := skip_len q'
        have h3 := tail_len (skip q')
        rw [← e]
        omega
      · cases e
theorem brack_lt (ha : ∀ f, alts = some f → Short f) {l q : Bs} {t : PT} (hl : hd l ≠ 0) (e : brackF alts l = .ok t q) : q.length < l.length := by
  unfold brackF at e
  cases alts with
  | none => cases e
  | some f =>
    simp only at e
    cases hf : f l.tail with
    | no q' x => rw [hf] at e; cases e
    | ok t' q' =>
      rw [hf] at e
      unfold closeF at e
      simp only at e
      split at e
      · injection e with _ e
        have := ha f rfl _ _ _ hf
        have h1 := tail_lt hl
        have h2 := skip_len q'
        have h3 := tail_len (skip q')
        rw [← e]
        omega
      · cases e
theorem atom_short (ha : ∀ f, alts = some f → Short f) : Short (atomF nums macs alts) := fun l t q e => by
  have hsk := skip_len l
  unfold atomF at e
  simp only at e
  split at e
  · next h => exact Nat.lt_of_lt_of_le (named_short h e) hsk
  · split at e
    · next h => exact Nat.lt_of_lt_of_le (Nat.lt_of_le_of_lt (class_short e) (tail_lt (by rw [h]; decide))) hsk
    · split at e
      · next h => injection e with _ e; rw [← e]; exact Nat.lt_of_lt_of_le (tail_lt (by rw [h]; decide)) hsk
      · split at e
        · next h => exact Nat.lt_of_lt_of_le (brack_lt ha (by rw [h]; decide) e) hsk
        · cases e
theorem sign_short {p t : PT} {l q : Bs} (e : oftenSign p l = .ok t q) : q.length ≤ l.length := by
  unfold oftenSign at e
  have := tail_len l
  repeat' split at e
  all_goals (injection e with _ e; rw [← e]; omega)
theorem often_short (ha : ∀ f, alts = some f → Short f) : Short (oftenF nums macs alts) := fun l t q e => by
  unfold oftenF at e
  cases h : atomF nums macs alts l with
  | no q' x => rw [h] at e; cases e
  | ok t' q' =>
    rw [h] at e
    have h1 := atom_short ha _ _ _ h
    have h2 := sign_short e
    have h3 := skip_len q'
    omega
end
section
variable {one : Bs → Res PT} {more : Nat → Bool} {next : Bs → Bs}
theorem parts_short (h1 : Short one) (hn : ∀ l, (next l).length ≤ l.length) : ∀ n, Short (partsF one more next n)
  | 0 => fun l t q e => by cases e
  | n + 1 => fun l t q e => by
    unfold partsF at e
    cases ho : one l with
    | no q' x => rw [ho] at e; cases e
    | ok t' q' =>
      rw [ho] at e
      simp only at e
      have h2 := h1 _ _ _ ho
      have h3 := skip_len q'
      split at e
      · cases hp : partsF one more next n (next (skip q')) with
        | no q2 x => rw [hp] at e; cases e
        | ok ts q2 =>
          rw [hp] at e
          injection e with _ e
          have h4 := parts_short h1 hn n _ _ _ hp
          have h5 := hn (skip q')
          rw [← e]
          omega
      · injection e with _ e
        rw [← e]
        omega
theorem parts_fuel (h1 : Short one) (hn : ∀ l, (next l).length ≤ l.length) : ∀ (n m : Nat) (l : Bs), l.length < n → l.length < m → partsF one more next n l = partsF one more next m l
  | 0, _, l, h, _ => by omega
  | _, 0, l, _, h => by omega
  | n + 1, m + 1, l, hn1, hm1 => by
    unfold partsF
    cases ho : one l with
    | no q x => rfl
    | ok t q =>
      have h2 := h1 _ _ _ ho
      have h3 := skip_len q
      have h4 := hn (skip q)
      simp only
      rw [parts_fuel h1 hn n m (next (skip q)) (by omega) (by omega)]
def partsR (one : Bs → Res PT) (more : Nat → Bool) (next : Bs → Bs) (l : Bs) : Res (List PT) := partsF one more next (l.length + 1) l
def goR (one : Bs → Res PT) (more : Nat → Bool) (next : Bs → Bs) (q : Bs) : Res (List PT) := if more (hd (skip q)) then partsR one more next (next (skip q)) else .ok [] (skip q)
def appR (ts : List PT) : Res (List PT) → Res (List PT)
  | .no q e => .no q e
  | .ok us q => .ok (ts ++ us) q
def thenR (one : Bs → Res PT) (more : Nat → Bool) (next : Bs → Bs) : Res PT → Res (List PT)
  | .no q e => .no q e
  | .ok t q => appR [t] (goR one more next q)
theorem appR_appR (ts us : List PT) (r : Res (List PT)) : appR ts (appR us r) = appR (ts ++ us) r := by
  cases r with
  | no q e => rfl
  | ok l q => simp [appR]
theorem partsR_eq (h1 : Short one) (hn : ∀ l, (next l).length ≤ l.length) (l : Bs) : partsR one more next l = thenR one more next (one l) := by
  unfold partsR
  rw [show l.length + 1 = l.length + 1 from rfl]
  conv => lhs; unfold partsF
  cases ho : one l with
  | no q x => rfl
  | ok t q =>
    have h2 := h1 _ _ _ ho
    have h3 := skip_len q
    have h4 := hn (skip q)
    simp only [thenR, goR]
    by_cases hm : more (hd (skip q)) = true
    · rw [if_pos hm, if_pos hm]
      rw [parts_fuel h1 hn l.length ((next (skip q)).length + 1) _ (by omega) (by omega)]
      unfold partsR
      cases partsF one more next ((next (skip q)).length + 1) (next (skip q)) with
      | no _ _ => rfl
      | ok _ _ => rfl
    · rw [if_neg hm, if_neg hm]
      rfl
theorem goR_more (h1 : Short one) (hn : ∀ l, (next l).length ≤ l.length) {q : Bs} (h : more (hd (skip q)) = true) : goR one more next q = thenR one more next (one (next (skip q))) := by
  unfold goR
  rw [if_pos h, partsR_eq h1 hn]
theorem goR_end {q : Bs} (h : more (hd (skip q)) = false) : goR one more next q = .ok [] (skip q) := by
  unfold goR
  rw [h]
  rfl
theorem oneR_short {k : Int} {f : Bs → Res (List PT)} (h : Short f) : Short fun l => oneR k (f l) := fun l t q e => by
  simp only at e
  cases hf : f l with
  | no q' x => rw [hf] at e; cases e
  | ok ts q' =>
    rw [hf] at e
    injection e with _ e
    rw [← e]
    exact h _ _ _ hf
end
section
variable {nums : Bs → Option Int} {macs : Bs → Option PT} {alts : Option (Bs → Res PT)}
theorem seqF_eq (l : Bs) : seqF nums macs alts l = oneR 4 (partsR (oftenF nums macs alts) beginsB id l) := rfl
theorem altsF_eq (l : Bs) : altsF nums macs alts l = oneR 5 (partsR (seqF nums macs alts) (fun c => c == 124) List.tail l) := rfl
theorem seq_short (ha : ∀ f, alts = some f → Short f) : Short (seqF nums macs alts) := fun l t q e => by
  rw [seqF_eq] at e
  cases hf : partsR (oftenF nums macs alts) beginsB id l with
  | no q' x => rw [hf] at e; cases e
  | ok ts q' =>
    rw [hf] at e
    injection e with _ e
    rw [← e]
    exact parts_short (often_short ha) (fun _ => Nat.le_refl _) _ _ _ _ hf
theorem alts_short (ha : ∀ f, alts = some f → Short f) : Short (altsF nums macs alts) := fun l t q e => by
  rw [altsF_eq] at e
  cases hf : partsR (seqF nums macs alts) (fun c => c == 124) List.tail l with
  | no q' x => rw [hf] at e; cases e
  | ok ts q' =>
    rw [hf] at e
    injection e with _ e
    rw [← e]
    exact parts_short (seq_short ha) tail_len _ _ _ _ hf
theorem pAlts_short (nums : Bs → Option Int) (macs : Bs → Option PT) : ∀ d, Short (pAlts nums macs d)
  | 0 => alts_short fun f e => by cases e
  | d + 1 => alts_short fun f e => by injection e with e; rw [← e]; exact pAlts_short nums macs d
end
end Go.Proofs.Ytjcdcmeclnihbaa
