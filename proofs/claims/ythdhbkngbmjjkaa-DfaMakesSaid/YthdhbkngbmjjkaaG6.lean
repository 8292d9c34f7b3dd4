/- The leaves of expressions, in their order; lists of expressions side by side. Plain. No conditions. -/
import Derived.Test.YthdhbkngbmjjkaaG5
import Derived.Test.YthdhbkngbmjjkaaUn
namespace Go.Proofs.Ythdhbkngbmjjkaa
set_option linter.unusedVariables false
def leafL : (d : Nat) → Tr d → List (Int × Int)
  | 0, t => t.elim
  | d + 1, t => if (Tr.kids t).length = 0 ∧ Tr.kind t ≠ 9 then [(Tr.kind t, Tr.cls t)] else (Tr.kids t).flatMap fun k => leafL d k
theorem leafL_len : ∀ (d : Nat) (t : Tr d), (leafL d t).length = leavesT d t
  | 0, t => t.elim
  | d + 1, t => by
    simp only [leafL, leavesT]
    split
    · rfl
    · have : ∀ l : List (Tr d), (l.flatMap fun k => leafL d k).length = sumL (fun k => leavesT d k) l := fun l => by
        induction l with
        | nil => rfl
        | cons k r ih => simp only [List.flatMap_cons, List.length_append, sumL]; rw [ih, leafL_len d k]
      exact this _
def leafs (s : Bs) : List (Int × Int) := s.lfs.map fun x => (x.1, x.2.1)
def LayLf (f : Nat → Nat → Bs → Bs) (L : List (Int × Int)) : Prop := ∀ frm to s, leafs (f frm to s) = leafs s ++ L
theorem layS_lf {T : Type} {f : T → Nat → Nat → Bs → Bs} {L : T → List (Int × Int)} : ∀ (l : List T), (∀ k ∈ l, LayLf (f k) (L k)) → LayLf (layS f l) (l.flatMap L)
  | [], _ => fun _ _ s => by simp [layS]
  | [k], h => fun frm to s => by
    rw [show layS f [k] frm to s = f k frm to s from rfl, h k List.mem_cons_self]
    simp
  | k :: k2 :: r, h => fun frm to s => by
    rw [show layS f (k :: k2 :: r) frm to s = layS f (k2 :: r) s.kns.length to (f k frm s.kns.length s.knot) from rfl, layS_lf (k2 :: r) (fun x hx => h x (List.mem_cons_of_mem _ hx)), h k List.mem_cons_self, List.flatMap_cons, List.append_assoc]
    rfl
theorem layA_lf {T : Type} {f : T → Nat → Nat → Bs → Bs} {L : T → List (Int × Int)} : ∀ (l : List T), (∀ k ∈ l, LayLf (f k) (L k)) → LayLf (fun frm to s => l.foldl (fun s k => f k frm to s) s) (l.flatMap L)
  | [], _ => fun _ _ s => by simp
  | k :: r, h => fun frm to s => by
    have h1 := layA_lf r (fun x hx => h x (List.mem_cons_of_mem _ hx)) frm to (f k frm to s)
    show leafs (r.foldl (fun s k => f k frm to s) (f k frm to s)) = _
    rw [h1, h k List.mem_cons_self, List.flatMap_cons, List.append_assoc]
theorem back_lf (kd : Int) (i o : Nat) (s : Bs) : leafs (backB kd i o s) = leafs s := by
  unfold backB
  dsimp only
  split <;> split <;> rfl
theorem layB_lf : ∀ (d : Nat) (wi : Bool) (t : Tr d), fitsT d wi t = true → LayLf (fun f o s => layB d t f o s) (leafL d t)
  | 0, _, t, _ => t.elim
  | d + 1, wi, t, h => by
    obtain ⟨h1, h2, h3⟩ := fit_kids h
    have ih := fun (k : Tr d) (hk : k ∈ Tr.kids t) => layB_lf d true k (h3 k hk)
    intro frm to s
    simp only [layB, leafL]
    by_cases hk : Tr.kids t = []
    · have hn := h1.1 hk
      rw [if_neg (by omega), if_neg (by omega), if_neg (by omega), hk]
      by_cases h9 : Tr.kind t = 9
      · rw [if_pos h9, if_neg (fun h => h.2 h9)]
        simp [leafs, Bs.arrow]
      · rw [if_neg h9, if_pos ⟨rfl, h9⟩]
        simp [leafs, Bs.leaf]
    · have hl : ¬ ((Tr.kids t).length = 0 ∧ Tr.kind t ≠ 9) := fun h => hk (List.length_eq_zero_iff.1 h.1)
      rw [if_neg hl]
      by_cases h4 : Tr.kind t = 4
      · rw [if_pos h4]
        exact layS_lf (f := fun k f o s => layB d k f o s) _ ih frm to s
      rw [if_neg h4]
      by_cases h5 : Tr.kind t = 5
      · rw [if_pos h5]
        exact layA_lf (f := fun k f o s => layB d k f o s) _ ih frm to s
      rw [if_neg h5]
      have h6 : Tr.kind t = 6 ∨ Tr.kind t = 7 ∨ Tr.kind t = 8 := Decidable.byContradiction fun hc => hk (h1.2 (by omega))
      obtain ⟨k, hk1⟩ := List.length_eq_one_iff.1 (h2 h6)
      rw [if_pos h6, hk1]
      show leafs (oftenB _ _ _ _ _) = _
      rw [often_back, back_lf, ih k (by rw [hk1]; exact List.mem_cons_self)]
      simp [leafs, Bs.arrow, Bs.knot]
theorem buildL_lf {d : Nat} : ∀ (l : List (Tr d)) (i : Nat) (s : Bs), (∀ t ∈ l, fitsT d false t = true) → leafs (buildL i l s) = leafs s ++ l.flatMap fun t => leafL d t
  | [], _, s, _ => by simp [buildL]
  | t :: r, i, s, h => by
    show leafs (buildL (i + 1) r (expB i t s)) = _
    rw [buildL_lf r (i + 1) _ fun x hx => h x (List.mem_cons_of_mem _ hx)]
    have h1 := layB_lf d false t (h t List.mem_cons_self) (s.kns.length + 1) s.kns.length (((s.knot.fin s.kns.length ((i + 1 : Nat) : Int)).knot).arrow 0 (s.kns.length + 1))
    rw [show leafs (expB i t s) = leafs s ++ leafL d t from h1, List.flatMap_cons, List.append_assoc]
theorem built_leafs {d : Nat} {l : List (Tr d)} (h : ∀ t ∈ l, fitsT d false t = true) : leafs (builtB l) = l.flatMap fun t => leafL d t := by
  show leafs (buildL 0 l startB) = _
  rw [buildL_lf l 0 startB h]
  rfl
/-- Whether a place's leaf takes a mark: by the leaves alone. -/
def takesK (L : List (Int × Int)) (m q : Int) : Bool := takesB (L[(q - 1).toNat]?.getD (0, 0)).1 (L[(q - 1).toNat]?.getD (0, 0)).2 m
theorem takesAt_leafs (s : Bs) (m q : Int) : takesAt s m q = takesK (leafs s) m q := by
  unfold takesAt takesK leafs
  rw [List.getElem?_map]
  cases s.lfs[(q - 1).toNat]? <;> rfl
/-! ### side by side -/
theorem sumL_app {T : Type} (f : T → Nat) (a b : List T) : sumL f (a ++ b) = sumL f a + sumL f b := sumL_append f a b
theorem allG_app {d : Nat} : ∀ (l m : List (Tr d)) (o : Nat), allG (l ++ m) o = gAlt (allG l o) (allG m (o + sumL (fun t => leavesT d t) l))
  | [], m, o => (nil_gAlt _).symm
  | t :: r, m, o => by
    show gAlt (glk d t o) (allG (r ++ m) (o + leavesT d t)) = gAlt (gAlt (glk d t o) (allG r (o + leavesT d t))) _
    rw [allG_app r m, gAlt_assoc]
    simp only [sumL]
    rw [Nat.add_assoc]
theorem allG_shift {d : Nat} (l : List (Tr d)) (o k : Nat) : allG l (o + k) = gShift k (allG l o) := altG_shift (fun t o k => glk_shift d t o k) l o k
theorem endE_app {d : Nat} : ∀ (l m : List (Tr d)) (i j : Nat), endE (l ++ m) i j ↔ endE l i j ∨ endE m (i + l.length) j
  | [], m, i, j => by simp [endE]
  | t :: r, m, i, j => by
    show (_ ∨ endE (r ++ m) (i + 1) j) ↔ (_ ∨ endE r (i + 1) j) ∨ _
    rw [endE_app r m, or_assoc, List.length_cons, show i + 1 + r.length = i + (r.length + 1) by omega]
theorem endE_shift {d : Nat} : ∀ (l : List (Tr d)) (i k j : Nat), endE l (i + k) (j + k) ↔ endE l i j
  | [], _, _, _ => Iff.rfl
  | t :: r, i, k, j => by
    show (_ ∨ endE r (i + k + 1) (j + k)) ↔ (_ ∨ endE r (i + 1) j)
    rw [show i + k + 1 = i + 1 + k by omega, endE_shift r]
    exact or_congr (and_congr (by omega) Iff.rfl) Iff.rfl
theorem endL_app {d : Nat} : ∀ (l m : List (Tr d)) (o i p j : Nat), endL (l ++ m) o i p j ↔ endL l o i p j ∨ endL m (o + sumL (fun t => leavesT d t) l) (i + l.length) p j
  | [], m, o, i, p, j => by simp [endL, sumL]
  | t :: r, m, o, i, p, j => by
    show (_ ∨ endL (r ++ m) (o + leavesT d t) (i + 1) p j) ↔ (_ ∨ endL r (o + leavesT d t) (i + 1) p j) ∨ _
    rw [endL_app r m, or_assoc, List.length_cons, show i + 1 + r.length = i + (r.length + 1) by omega]
    simp only [sumL]
    rw [Nat.add_assoc o]
theorem endL_shift {d : Nat} : ∀ (l : List (Tr d)) (o a i k p j : Nat), endL l (o + a) (i + k) (p + a) (j + k) ↔ endL l o i p j
  | [], _, _, _, _, _, _ => Iff.rfl
  | t :: r, o, a, i, k, p, j => by
    show (_ ∨ endL r (o + a + leavesT d t) (i + k + 1) (p + a) (j + k)) ↔ (_ ∨ endL r (o + leavesT d t) (i + 1) p j)
    rw [show i + k + 1 = i + 1 + k by omega, show o + a + leavesT d t = o + leavesT d t + a by omega, endL_shift r, glk_shift]
    refine or_congr (and_congr (by omega) ⟨fun h => ?_, fun h => ⟨p, rfl, h⟩⟩) Iff.rfl
    obtain ⟨x, e, h⟩ := h
    rw [show p = x by omega]
    exact h
/-- Three sets: the first two side by side are the third. -/
def Beside (n : Nat) (X Y Z : List Int) : Prop := ((0 : Int) ∈ Z ↔ (0 : Int) ∈ X) ∧ ((0 : Int) ∈ Z ↔ (0 : Int) ∈ Y) ∧ (∀ p : Nat, 0 < p → p ≤ n → ((p : Int) ∈ Z ↔ (p : Int) ∈ X)) ∧ ∀ p : Nat, 0 < p → (((p + n : Nat) : Int) ∈ Z ↔ (p : Int) ∈ Y)
section
variable {d : Nat} {l m : List (Tr d)}
theorem fst_pos {o : Nat} {l : List (Tr d)} {q : Nat} (h : (allG l o).fst q) : o < q ∧ q ≤ o + sumL (fun t => leavesT d t) l := (allG_within l o).1 q h
theorem prs_pos {o : Nat} {l : List (Tr d)} {p q : Nat} (h : (allG l o).prs p q) : (o < p ∧ p ≤ o + sumL (fun t => leavesT d t) l) ∧ o < q ∧ q ≤ o + sumL (fun t => leavesT d t) l := (allG_within l o).2.2 p q h
theorem takes_left (hl : Fine l) (hm : Fine m) (hc : Fine (l ++ m)) {a : Int} {q : Nat} (h0 : 0 < q) (hq : q ≤ sumL (fun t => leavesT d t) l) : takesAt (builtB (l ++ m)) a q = takesAt (builtB l) a q := by
  rw [takesAt_leafs, takesAt_leafs, built_leafs hc.fits, built_leafs hl.fits, List.flatMap_append]
  unfold takesK
  rw [List.getElem?_append_left]
  rw [← built_leafs hl.fits]
  unfold leafs
  rw [List.length_map, hl.len]
  omega
theorem takes_right (hl : Fine l) (hm : Fine m) (hc : Fine (l ++ m)) {a : Int} {q : Nat} (h0 : 0 < q) : takesAt (builtB (l ++ m)) a ((q + sumL (fun t => leavesT d t) l : Nat) : Int) = takesAt (builtB m) a q := by
  rw [takesAt_leafs, takesAt_leafs, built_leafs hc.fits, built_leafs hm.fits, List.flatMap_append]
  have e : (l.flatMap fun t => leafL d t).length = sumL (fun t => leavesT d t) l := by
    rw [← built_leafs hl.fits]
    unfold leafs
    rw [List.length_map, hl.len]
  unfold takesK
  rw [List.getElem?_append_right (by rw [e]; omega), e]
  rw [show (((q + sumL (fun t => leavesT d t) l : Nat) : Int) - 1).toNat - sumL (fun t => leavesT d t) l = ((q : Int) - 1).toNat by omega]
theorem beside_step (hl : Fine l) (hm : Fine m) (hc : Fine (l ++ m)) {search : Bool} {a : Int} {X Y Z : List Int} (h : Beside (sumL (fun t => leavesT d t) l) X Y Z) :
    Beside (sumL (fun t => leavesT d t) l) (stepB search (builtB l) a X) (stepB search (builtB m) a Y) (stepB search (builtB (l ++ m)) a Z) := by
  obtain ⟨h1, h2, h3, h4⟩ := h
  have g : allG (l ++ m) 0 = gAlt (allG l 0) (gShift (sumL (fun t => leavesT d t) l) (allG m 0)) := by
    rw [allG_app, ← allG_shift]
  have z0 : ∀ (k : List (Tr d)) (hk : Fine k) (W : List Int), (0 : Int) ∈ stepB search (builtB k) a W ↔ search = true := fun k hk W => by
    rw [hk.step]
    constructor
    · rintro (h | h)
      · exact h.1
      · omega
    · exact fun h => .inl ⟨h, rfl⟩
  refine ⟨by rw [z0 _ hc, z0 _ hl], by rw [z0 _ hc, z0 _ hm], fun q hq0 hq => ?_, fun q hq0 => ?_⟩
  · rw [hc.step, hl.step, takes_left hl hm hc hq0 hq, g]
    refine or_congr Iff.rfl (and_congr_right fun _ => and_congr_right fun _ => or_congr (and_congr h1 ?_) ?_)
    · constructor
      · rintro (h | ⟨x, e, h⟩)
        · exact h
        · have := fst_pos h; omega
      · exact .inl
    · constructor
      · rintro ⟨p, hp, hpz, h | ⟨x, y, e1, e2, h⟩⟩
        · exact ⟨p, hp, (h3 p hp (by have := prs_pos h; omega)).1 hpz, h⟩
        · have := prs_pos h; omega
      · rintro ⟨p, hp, hpx, h⟩
        exact ⟨p, hp, (h3 p hp (by have := prs_pos h; omega)).2 hpx, .inl h⟩
  · rw [hc.step, hm.step, takes_right hl hm hc hq0, g]
    refine or_congr (and_congr Iff.rfl (by omega)) (and_congr (by omega) (and_congr_right fun _ => or_congr (and_congr h2 ?_) ?_))
    · constructor
      · rintro (h | ⟨x, e, h⟩)
        · have := fst_pos h; omega
        · rw [show (q : Int).toNat = x by omega]; exact h
      · exact fun h => .inr ⟨q, by omega, h⟩
    · constructor
      · rintro ⟨p, hp, hpz, h | ⟨x, y, e1, e2, h⟩⟩
        · have := prs_pos h; omega
        · have h5 := prs_pos h
          subst e1
          exact ⟨x, by omega, (h4 x (by omega)).1 hpz, by rw [show (q : Int).toNat = y by omega]; exact h⟩
      · rintro ⟨p, hp, hpy, h⟩
        exact ⟨p + sumL (fun t => leavesT d t) l, by omega, (h4 p hp).2 hpy, .inr ⟨p, q, rfl, by omega, h⟩⟩
theorem beside_tells (hl : Fine l) (hm : Fine m) (hc : Fine (l ++ m)) {X Y Z : List Int} (h : Beside (sumL (fun t => leavesT d t) l) X Y Z) :
    tellsB (builtB (l ++ m)) Z = tellsB (builtB l) X ||| (tellsB (builtB m) Y <<< l.length) := by
  obtain ⟨h1, h2, h3, h4⟩ := h
  refine Nat.eq_of_testBit_eq fun j => ?_
  rw [Bool.eq_iff_iff, Nat.testBit_or, Bool.or_eq_true, Nat.testBit_shiftLeft, Bool.and_eq_true, decide_eq_true_eq, hc.tells, hl.tells, hm.tells, endE_app, h1]
  rw [← h1, h2]
  rw [← h2]
  constructor
  · rintro (⟨hz, h | h⟩ | ⟨p, hp, hpz, h⟩)
    · exact .inl (.inl ⟨hz, h⟩)
    · have := endE_range _ _ _ h
      refine .inr ⟨by omega, .inl ⟨hz, ?_⟩⟩
      rw [← endE_shift m 0 l.length, Nat.sub_add_cancel (by omega)]
      exact h
    · rcases (endL_app l m 0 0 p j).1 h with h | h
      · have := endL_range _ _ _ _ _ h
        exact .inl (.inr ⟨p, hp, (h3 p hp (by omega)).1 hpz, h⟩)
      · have r1 := endL_range _ _ _ _ _ h
        have r2 := endL_index _ _ _ _ _ h
        obtain ⟨x, rfl⟩ : ∃ x, p = x + sumL (fun t => leavesT d t) l := ⟨p - sumL (fun t => leavesT d t) l, by omega⟩
        refine .inr ⟨by omega, .inr ⟨x, by omega, (h4 x (by omega)).1 hpz, ?_⟩⟩
        rw [← endL_shift m 0 (sumL (fun t => leavesT d t) l) 0 l.length, Nat.sub_add_cancel (by omega)]
        exact h
  · rintro ((⟨hz, h⟩ | ⟨p, hp, hpx, h⟩) | ⟨hj, ⟨hz, h⟩ | ⟨p, hp, hpy, h⟩⟩)
    · exact .inl ⟨hz, .inl h⟩
    · have := endL_range _ _ _ _ _ h
      exact .inr ⟨p, hp, (h3 p hp (by omega)).2 hpx, (endL_app l m 0 0 p j).2 (.inl h)⟩
    · refine .inl ⟨hz, .inr ?_⟩
      rw [← endE_shift m 0 l.length, Nat.sub_add_cancel hj] at h
      exact h
    · refine .inr ⟨p + sumL (fun t => leavesT d t) l, by omega, (h4 p hp).2 hpy, (endL_app l m 0 0 _ j).2 (.inr ?_)⟩
      rw [← endL_shift m 0 (sumL (fun t => leavesT d t) l) 0 l.length, Nat.sub_add_cancel hj] at h
      exact h
theorem tells_small (hl : Fine l) (X : List Int) : tellsB (builtB l) X < 2 ^ l.length := by
  refine Nat.lt_pow_two_of_testBit _ fun j hj => ?_
  rw [Bool.eq_false_iff]
  intro h
  rcases hl.tells.1 h with ⟨_, h⟩ | ⟨p, _, _, h⟩
  · have := endE_range _ _ _ h; omega
  · have := endL_index _ _ _ _ _ h; omega
end
end Go.Proofs.Ythdhbkngbmjjkaa
