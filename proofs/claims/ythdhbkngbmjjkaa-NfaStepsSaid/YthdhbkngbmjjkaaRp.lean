/- The document's places of expressions, as its walk finds them: which come first, last, one behind the other; against the places of a tree. Plain. No conditions but right trees. -/
import Derived.Test.YthdhbkngbmjjkaaG6
namespace Go.Proofs.Ythdhbkngbmjjkaa
set_option linter.unusedVariables false
/-- What the walk has noted: the leaves, of which expression each is, the pairs. -/
structure Rs where
  lv : List (Int × Int)
  of : List Int
  prs : List (Int × Int)
/-- What is known of a part. -/
structure Pt where
  emp : Bool
  fst : List Int
  lst : List Int
def pairP (l m : List Int) : List (Int × Int) := l.flatMap fun x => m.map fun y => (x, y)
/-- A kid is joined to what stands ahead of it. -/
def stepK (kd : Int) (o : Pt) (r : Pt × Rs) : Pt × Rs :=
  if kd = 4 then (⟨o.emp && r.1.emp, if o.emp = true then o.fst ++ r.1.fst else o.fst, if r.1.emp = true then o.lst ++ r.1.lst else r.1.lst⟩, ⟨r.2.lv, r.2.of, r.2.prs ++ pairP o.lst r.1.fst⟩)
  else (⟨o.emp || r.1.emp, o.fst ++ r.1.fst, o.lst ++ r.1.lst⟩, r.2)
def endK (kd : Int) (r : Pt × Rs) : Pt × Rs :=
  (⟨r.1.emp || decide (kd = 6) || decide (kd = 8), r.1.fst, r.1.lst⟩, if kd = 6 ∨ kd = 7 then ⟨r.2.lv, r.2.of, r.2.prs ++ pairP r.1.lst r.1.fst⟩ else r.2)
def lookP : (d : Nat) → Tr d → Int → Rs → Pt × Rs
  | 0, t, _, _ => t.elim
  | d + 1, t, of, s => if Tr.kind t = 9 then (⟨true, [], []⟩, s)
    else if (Tr.kids t).length = 0 then (⟨false, [((s.lv.length + 1 : Nat) : Int)], [((s.lv.length + 1 : Nat) : Int)]⟩, ⟨s.lv ++ [(Tr.kind t, Tr.cls t)], s.of ++ [of], s.prs⟩)
    else endK (Tr.kind t) ((Tr.kids t).foldl (fun o k => stepK (Tr.kind t) o.1 (lookP d k of o.2)) (⟨decide (Tr.kind t = 4), [], []⟩, s))
/-- A list of numbers, and of pairs, as places. -/
def LikeF (l : List Int) (f : Nat → Prop) : Prop := (∀ q : Nat, (q : Int) ∈ l ↔ f q) ∧ ∀ z ∈ l, ∃ q : Nat, z = q
def LikeP (l : List (Int × Int)) (f : Nat → Nat → Prop) : Prop := (∀ p q : Nat, ((p : Int), (q : Int)) ∈ l ↔ f p q) ∧ ∀ z ∈ l, ∃ p q : Nat, z = ((p : Int), (q : Int))
/-- A part is as the places say. -/
structure PtIs (p : Pt) (g : GS) : Prop where
  emp : p.emp = true ↔ g.emp
  fst : LikeF p.fst g.fst
  lst : LikeF p.lst g.lst
theorem LikeF.app {a b : List Int} {f g : Nat → Prop} (h : LikeF a f) (k : LikeF b g) : LikeF (a ++ b) fun q => f q ∨ g q :=
  ⟨fun q => by rw [List.mem_append, h.1, k.1], fun z hz => (List.mem_append.1 hz).elim (h.2 z) (k.2 z)⟩
theorem LikeF.congr {a : List Int} {f g : Nat → Prop} (h : LikeF a f) (e : ∀ q, f q ↔ g q) : LikeF a g := ⟨fun q => (h.1 q).trans (e q), h.2⟩
theorem LikeP.congr {a : List (Int × Int)} {f g : Nat → Nat → Prop} (h : LikeP a f) (e : ∀ p q, f p q ↔ g p q) : LikeP a g := ⟨fun p q => (h.1 p q).trans (e p q), h.2⟩
theorem LikeP.app {a b : List (Int × Int)} {f g : Nat → Nat → Prop} (h : LikeP a f) (k : LikeP b g) : LikeP (a ++ b) fun p q => f p q ∨ g p q :=
  ⟨fun p q => by rw [List.mem_append, h.1, k.1], fun z hz => (List.mem_append.1 hz).elim (h.2 z) (k.2 z)⟩
theorem pairP_mem {l m : List Int} {z : Int × Int} : z ∈ pairP l m ↔ z.1 ∈ l ∧ z.2 ∈ m := by
  unfold pairP
  rw [List.mem_flatMap]
  constructor
  · rintro ⟨x, hx, hz⟩
    obtain ⟨y, hy, rfl⟩ := List.mem_map.1 hz
    exact ⟨hx, hy⟩
  · rintro ⟨h1, h2⟩
    exact ⟨z.1, h1, List.mem_map.2 ⟨z.2, h2, rfl⟩⟩
theorem pairP_like {l m : List Int} {f g : Nat → Prop} (h : LikeF l f) (k : LikeF m g) : LikeP (pairP l m) fun p q => f p ∧ g q :=
  ⟨fun p q => by rw [pairP_mem]; exact and_congr (h.1 p) (k.1 q), fun z hz => by
    obtain ⟨h1, h2⟩ := pairP_mem.1 hz
    obtain ⟨p, e1⟩ := h.2 _ h1
    obtain ⟨q, e2⟩ := k.2 _ h2
    exact ⟨p, q, by rw [← e1, ← e2]⟩⟩
/-- Behind a walk: what has come to the notes. -/
structure Noted (s s' : Rs) (L : List (Int × Int)) (of : Int) (f : Nat → Nat → Prop) : Prop where
  lv : s'.lv = s.lv ++ L
  of : s'.of = s.of ++ List.replicate L.length of
  prs : ∃ ps, s'.prs = s.prs ++ ps ∧ LikeP ps f
theorem Noted.refl (s : Rs) (of : Int) : Noted s s [] of fun _ _ => False := ⟨by simp, by simp, [], by simp, ⟨fun p q => by simp, fun z hz => by cases hz⟩⟩
theorem Noted.trans {s s1 s2 : Rs} {L M : List (Int × Int)} {of : Int} {f g : Nat → Nat → Prop} (h : Noted s s1 L of f) (k : Noted s1 s2 M of g) : Noted s s2 (L ++ M) of fun p q => f p q ∨ g p q := by
  obtain ⟨ps, e1, l1⟩ := h.prs
  obtain ⟨qs, e2, l2⟩ := k.prs
  exact ⟨by rw [k.lv, h.lv, List.append_assoc], by rw [k.of, h.of, List.append_assoc, List.length_append, List.replicate_append_replicate], ps ++ qs, by rw [e2, e1, List.append_assoc], l1.app l2⟩
theorem Noted.more {s s1 : Rs} {L : List (Int × Int)} {of : Int} {f g : Nat → Nat → Prop} {ps : List (Int × Int)} (h : Noted s s1 L of f) (k : LikeP ps g) : Noted s ⟨s1.lv, s1.of, s1.prs ++ ps⟩ L of fun p q => f p q ∨ g p q := by
  obtain ⟨qs, e1, l1⟩ := h.prs
  exact ⟨h.lv, h.of, qs ++ ps, by show s1.prs ++ ps = _; rw [e1, List.append_assoc], l1.app k⟩
theorem Noted.congr {s s1 : Rs} {L : List (Int × Int)} {of : Int} {f g : Nat → Nat → Prop} (h : Noted s s1 L of f) (e : ∀ p q, f p q ↔ g p q) : Noted s s1 L of g := by
  obtain ⟨qs, e1, l1⟩ := h.prs
  exact ⟨h.lv, h.of, qs, e1, l1.congr e⟩
/-- The kids, one after another, as parts that follow each other. -/
theorem seq_noted {T : Type} {f : T → Rs → Pt × Rs} {g : T → Nat → GS} {n : T → Nat} {L : T → List (Int × Int)} {of : Int} {kd : Int} (h4 : kd = 4) : ∀ (l : List T), (∀ k ∈ l, ∀ s : Rs, PtIs (f k s).1 (g k s.lv.length) ∧ Noted s (f k s).2 (L k) of (g k s.lv.length).prs ∧ (L k).length = n k) →
    ∀ (o : Pt) (s0 s : Rs) (G : GS) (M : List (Int × Int)), PtIs o G → Noted s0 s M of G.prs →
      PtIs (l.foldl (fun o k => stepK kd o.1 (f k o.2)) (o, s)).1 (gSeq G (seqG g n l s.lv.length)) ∧ Noted s0 (l.foldl (fun o k => stepK kd o.1 (f k o.2)) (o, s)).2 (M ++ l.flatMap L) of (gSeq G (seqG g n l s.lv.length)).prs
  | [], _, o, s0, s, G, M, h1, h2 => by
    simp only [List.foldl_nil, seqG, List.flatMap_nil, List.append_nil]
    rw [gSeq_one]
    exact ⟨h1, h2⟩
  | k :: r, h, o, s0, s, G, M, h1, h2 => by
    obtain ⟨p1, p2, p3⟩ := h k List.mem_cons_self s
    obtain ⟨r1, hr1⟩ : ∃ r1, r1 = f k s := ⟨_, rfl⟩
    have e : stepK kd o (f k s) = (⟨o.emp && r1.1.emp, if o.emp = true then o.fst ++ r1.1.fst else o.fst, if r1.1.emp = true then o.lst ++ r1.1.lst else r1.1.lst⟩, ⟨r1.2.lv, r1.2.of, r1.2.prs ++ pairP o.lst r1.1.fst⟩) := by
      rw [hr1]; unfold stepK; rw [if_pos h4]
    rw [← hr1] at p1 p2
    have hl : r1.2.lv.length = s.lv.length + n k := by rw [p2.lv, List.length_append, p3]
    have ih := seq_noted h4 r (fun x hx => h x (List.mem_cons_of_mem _ hx)) (stepK kd o (f k s)).1 s0 (stepK kd o (f k s)).2 (gSeq G (g k s.lv.length)) (M ++ L k) (by
      rw [e]
      refine ⟨by rw [Bool.and_eq_true, h1.emp, p1.emp]; rfl, ?_, ?_⟩
      · show LikeF (if o.emp = true then _ else _) _
        by_cases he : o.emp = true
        · rw [if_pos he]
          exact (h1.fst.app p1.fst).congr fun q => ⟨fun h => h.elim .inl fun h => .inr ⟨h1.emp.1 he, h⟩, fun h => h.elim .inl fun h => .inr h.2⟩
        · rw [if_neg he]
          exact h1.fst.congr fun q => ⟨.inl, fun h => h.elim id fun h => absurd (h1.emp.2 h.1) he⟩
      · show LikeF (if r1.1.emp = true then _ else _) _
        by_cases he : r1.1.emp = true
        · rw [if_pos he]
          exact (h1.lst.app p1.lst).congr fun q => ⟨fun h => h.elim (fun h => .inl ⟨p1.emp.1 he, h⟩) .inr, fun h => h.elim (fun h => .inl h.2) .inr⟩
        · rw [if_neg he]
          exact p1.lst.congr fun q => ⟨.inr, fun h => h.elim (fun h => absurd (p1.emp.2 h.1) he) id⟩) (by
      rw [e]
      exact ((h2.trans p2).more (pairP_like h1.lst p1.fst)).congr fun p q => by show (_ ∨ _) ∨ _ ↔ _; exact or_assoc)
    have el : (stepK kd o (f k s)).2.lv.length = s.lv.length + n k := by rw [e]; exact hl
    rw [el, gSeq_assoc] at ih
    simp only [List.foldl_cons, List.flatMap_cons, seqG]
    rw [← List.append_assoc]
    exact ih
theorem alt_noted {T : Type} {f : T → Rs → Pt × Rs} {g : T → Nat → GS} {n : T → Nat} {L : T → List (Int × Int)} {of : Int} {kd : Int} (h4 : ¬ kd = 4) : ∀ (l : List T), (∀ k ∈ l, ∀ s : Rs, PtIs (f k s).1 (g k s.lv.length) ∧ Noted s (f k s).2 (L k) of (g k s.lv.length).prs ∧ (L k).length = n k) →
    ∀ (o : Pt) (s0 s : Rs) (G : GS) (M : List (Int × Int)), PtIs o G → Noted s0 s M of G.prs →
      PtIs (l.foldl (fun o k => stepK kd o.1 (f k o.2)) (o, s)).1 (gAlt G (altG g n l s.lv.length)) ∧ Noted s0 (l.foldl (fun o k => stepK kd o.1 (f k o.2)) (o, s)).2 (M ++ l.flatMap L) of (gAlt G (altG g n l s.lv.length)).prs
  | [], _, o, s0, s, G, M, h1, h2 => by
    simp only [List.foldl_nil, altG, List.flatMap_nil, List.append_nil]
    rw [gAlt_nil]
    exact ⟨h1, h2⟩
  | k :: r, h, o, s0, s, G, M, h1, h2 => by
    obtain ⟨p1, p2, p3⟩ := h k List.mem_cons_self s
    obtain ⟨r1, hr1⟩ : ∃ r1, r1 = f k s := ⟨_, rfl⟩
    have e : stepK kd o (f k s) = (⟨o.emp || r1.1.emp, o.fst ++ r1.1.fst, o.lst ++ r1.1.lst⟩, r1.2) := by
      rw [hr1]; unfold stepK; rw [if_neg h4]
    rw [← hr1] at p1 p2
    have hl : r1.2.lv.length = s.lv.length + n k := by rw [p2.lv, List.length_append, p3]
    have ih := alt_noted h4 r (fun x hx => h x (List.mem_cons_of_mem _ hx)) (stepK kd o (f k s)).1 s0 (stepK kd o (f k s)).2 (gAlt G (g k s.lv.length)) (M ++ L k) (by
      rw [e]
      exact ⟨by rw [Bool.or_eq_true, h1.emp, p1.emp]; rfl, h1.fst.app p1.fst, h1.lst.app p1.lst⟩) (by
      rw [e]
      exact h2.trans p2)
    have el : (stepK kd o (f k s)).2.lv.length = s.lv.length + n k := by rw [e]; exact hl
    rw [el, gAlt_assoc] at ih
    simp only [List.foldl_cons, List.flatMap_cons, altG]
    rw [← List.append_assoc]
    exact ih
/-- A tree's walk notes just its places. -/
theorem look_noted : ∀ (d : Nat) (wi : Bool) (t : Tr d) (of : Int) (s : Rs), fitsT d wi t = true → PtIs (lookP d t of s).1 (glk d t s.lv.length) ∧ Noted s (lookP d t of s).2 (leafL d t) of (glk d t s.lv.length).prs
  | 0, _, t, _, _, _ => t.elim
  | d + 1, wi, t, of, s, h => by
    obtain ⟨h1, h2, h3⟩ := fit_kids h
    have ih := fun (k : Tr d) (hk : k ∈ Tr.kids t) (s : Rs) => look_noted d true k of s (h3 k hk)
    have ih' : ∀ k ∈ Tr.kids t, ∀ s : Rs, PtIs (lookP d k of s).1 (glk d k s.lv.length) ∧ Noted s (lookP d k of s).2 (leafL d k) of (glk d k s.lv.length).prs ∧ (leafL d k).length = leavesT d k := fun k hk s => ⟨(ih k hk s).1, (ih k hk s).2, leafL_len d k⟩
    simp only [lookP, glk, leafL]
    by_cases h9 : Tr.kind t = 9
    · have hk0 : Tr.kids t = [] := h1.2 (by omega)
      rw [if_pos h9, if_pos h9, if_neg (fun h => h.2 h9), hk0]
      exact ⟨⟨⟨fun _ => trivial, fun _ => rfl⟩, ⟨fun q => ⟨(fun h => by cases h), fun h => h.elim⟩, fun z hz => by cases hz⟩, ⟨fun q => ⟨(fun h => by cases h), fun h => h.elim⟩, fun z hz => by cases hz⟩⟩, Noted.refl s of⟩
    rw [if_neg h9, if_neg h9]
    by_cases hk : (Tr.kids t).length = 0
    · rw [if_pos hk, if_pos hk, if_pos ⟨hk, h9⟩]
      have hone : LikeF [((s.lv.length + 1 : Nat) : Int)] fun q => q = s.lv.length + 1 := ⟨fun q => by rw [List.mem_singleton]; omega, fun z hz => ⟨_, List.mem_singleton.1 hz⟩⟩
      exact ⟨⟨⟨(fun h => by cases h), fun h => h.elim⟩, hone, hone⟩, ⟨rfl, rfl, [], by simp, ⟨fun p q => ⟨(fun h => by cases h), fun h => h.elim⟩, fun z hz => by cases hz⟩⟩⟩
    rw [if_neg hk, if_neg hk, if_neg (show ¬ ((Tr.kids t).length = 0 ∧ Tr.kind t ≠ 9) from fun h => hk h.1)]
    have hnil : LikeF [] fun _ => False := ⟨fun q => ⟨(fun h => by cases h), fun h => h.elim⟩, fun z hz => by cases hz⟩
    by_cases h4 : Tr.kind t = 4
    · obtain ⟨a, b⟩ := seq_noted (of := of) h4 (Tr.kids t) ih' ⟨decide (Tr.kind t = 4), [], []⟩ s s gOne [] ⟨by simp [h4, gOne], hnil, hnil⟩ (Noted.refl s of)
      rw [if_pos h4]
      rw [one_gSeq] at a b
      rw [List.nil_append] at b
      obtain ⟨r, hr⟩ : ∃ r, r = (Tr.kids t).foldl (fun o k => stepK (Tr.kind t) o.1 (lookP d k of o.2)) (⟨decide (Tr.kind t = 4), [], []⟩, s) := ⟨_, rfl⟩
      rw [← hr] at a b ⊢
      unfold endK
      rw [if_neg (by omega), decide_eq_false (by omega : ¬ Tr.kind t = 6), decide_eq_false (by omega : ¬ Tr.kind t = 8)]
      exact ⟨⟨by rw [Bool.or_false, Bool.or_false]; exact a.emp, a.fst, a.lst⟩, b⟩
    · obtain ⟨a, b⟩ := alt_noted (of := of) h4 (Tr.kids t) ih' ⟨decide (Tr.kind t = 4), [], []⟩ s s gNil [] ⟨by simp [h4, gNil], hnil, hnil⟩ (Noted.refl s of)
      rw [if_neg h4]
      rw [nil_gAlt] at a b
      rw [List.nil_append] at b
      obtain ⟨r, hr⟩ : ∃ r, r = (Tr.kids t).foldl (fun o k => stepK (Tr.kind t) o.1 (lookP d k of o.2)) (⟨decide (Tr.kind t = 4), [], []⟩, s) := ⟨_, rfl⟩
      rw [← hr] at a b ⊢
      unfold endK
      refine ⟨⟨?_, a.fst, a.lst⟩, ?_⟩
      · show (r.1.emp || _ || _) = true ↔ (_ ∨ Tr.kind t = 6 ∨ Tr.kind t = 8)
        rw [Bool.or_eq_true, Bool.or_eq_true, a.emp, decide_eq_true_eq, decide_eq_true_eq, or_assoc]
      · by_cases h67 : Tr.kind t = 6 ∨ Tr.kind t = 7
        · rw [if_pos h67]
          exact (b.more (pairP_like a.lst a.fst)).congr fun p q => ⟨fun h => h.elim .inl fun h => .inr ⟨h67, h⟩, fun h => h.elim .inl fun h => .inr h.2⟩
        · rw [if_neg h67]
          exact b.congr fun p q => ⟨.inl, fun h => h.elim id fun h => absurd h.1 h67⟩
end Go.Proofs.Ythdhbkngbmjjkaa
