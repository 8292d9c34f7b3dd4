/- The document's places of expressions, as its walk finds them: which come first, last, one behind the other; against the places of a tree. Plain. No conditions but right trees. -/
import Derived.Test.YthdhbkngbmjjkaaG6
import Derived.Deep.RegionHeld3
namespace Go.Proofs.Ythdhbkngbmjjkaa
set_option linter.unusedVariables false
/-- What the walk has noted: the leaves, of which expression each is, the pairs. -/
structure Rs where
  lv : List (Int × Int)
  of : List Int
  prs : List (Int × Int)
/-- What is known of a part. -/
structure Pt where
  emp : Bool
  fst : List Int
  lst : List Int
def pairP (l m : List Int) : List (Int × Int) := l.flatMap fun x => m.map fun y => (x, y)
/-- A kid is joined to what stands ahead of it. -/
def stepK (kd : Int) (o : Pt) (r : Pt × Rs) : Pt × Rs :=
  if kd = 4 then (⟨o.emp && r.1.emp, if o.emp = true then o.fst ++ r.1.fst else o.fst, if r.1.emp = true then o.lst ++ r.1.lst else r.1.lst⟩, ⟨r.2.lv, r.2.of, r.2.prs ++ pairP o.lst r.1.fst⟩)
  else (⟨o.emp || r.1.emp, o.fst ++ r.1.fst, o.lst ++ r.1.lst⟩, r.2)
def endK (kd : Int) (r : Pt × Rs) : Pt × Rs :=
  (⟨r.1.emp || decide (kd = 6) || decide (kd = 8), r.1.fst, r.1.lst⟩, if kd = 6 ∨ kd = 7 then ⟨r.2.lv, r.2.of, r.2.prs ++ pairP r.1.lst r.1.fst⟩ else r.2)
def lookP : (d : Nat) → Tr d → Int → Rs → Pt × Rs
  | 0, t, _, _ => t.elim
  | d + 1, t, of, s => if Tr.kind t = 9 then (⟨true, [], []⟩, s)
    else if (Tr.kids t).length = 0 then (⟨false, [((s.lv.length + 1 : Nat) : Int)], [((s.lv.length + 1 : Nat) : Int)]⟩, ⟨s.lv ++ [(Tr.kind t, Tr.cls t)], s.of ++ [of], s.prs⟩)
    else endK (Tr.kind t) ((Tr.kids t).foldl (fun o k => stepK (Tr.kind t) o.1 (lookP d k of o.2)) (⟨decide (Tr.kind t = 4), [], []⟩, s))
/-- A list of numbers, and of pairs, as places. -/
def LikeF (l : List Int) (f : Nat → Prop) : Prop := (∀ q : Nat, (q : Int) ∈ l ↔ f q) ∧ ∀ z ∈ l, ∃ q : Nat, z = q
def LikeP (l : List (Int × Int)) (f : Nat → Nat → Prop) : Prop := (∀ p q : Nat, ((p : Int), (q : Int)) ∈ l ↔ f p q) ∧ ∀ z ∈ l, ∃ p q : Nat, z = ((p : Int), (q : Int))
/-- A part is as the places say. -/
structure PtIs (p : Pt) (g : GS) : Prop where
  emp : p.emp = true ↔ g.emp
  fst : LikeF p.fst g.fst
  lst : LikeF p.lst g.lst
theorem LikeF.app {a b : List Int} {f g : Nat → Prop} (h : LikeF a f) (k : LikeF b g) : LikeF (a ++ b) fun q => f q ∨ g q :=
  ⟨fun q => by rw [List.mem_append, h.1, k.1], fun z hz => (List.mem_append.1 hz).elim (h.2 z) (k.2 z)⟩
theorem LikeF.congr {a : List Int} {f g : Nat → Prop} (h : LikeF a f) (e : ∀ q, f q ↔ g q) : LikeF a g := ⟨fun q => (h.1 q).trans (e q), h.2⟩
theorem LikeP.congr {a : List (Int × Int)} {f g : Nat → Nat → Prop} (h : LikeP a f) (e : ∀ p q, f p q ↔ g p q) : LikeP a g := ⟨fun p q => (h.1 p q).trans (e p q), h.2⟩
theorem LikeP.app {a b : List (Int × Int)} {f g : Nat → Nat → Prop} (h : LikeP a f) (k : LikeP b g) : LikeP (a ++ b) fun p q => f p q ∨ g p q :=
  ⟨fun p q => by rw [List.mem_append, h.1, k.1], fun z hz => (List.mem_append.1 hz).elim (h.2 z) (k.2 z)⟩
theorem pairP_mem {l m : List Int} {z : Int × Int} : z ∈ pairP l m ↔ z.1 ∈ l ∧ z.2 ∈ m := by
  unfold pairP
  rw [List.mem_flatMap]
  constructor
  · rintro ⟨x, hx, hz⟩
    obtain ⟨y, hy, rfl⟩ := List.mem_map.1 hz
    exact ⟨hx, hy⟩
  · rintro ⟨h1, h2⟩
    exact ⟨z.1, h1, List.mem_map.2 ⟨z.2, h2, rfl⟩⟩
theorem pairP_like {l m : List Int} {f g : Nat → Prop} (h : LikeF l f) (k : LikeF m g) : LikeP (pairP l m) fun p q => f p ∧ g q :=
  ⟨fun p q => by rw [pairP_mem]; exact and_congr (h.1 p) (k.1 q), fun z hz => by
    obtain ⟨h1, h2⟩ := pairP_mem.1 hz
    obtain ⟨p, e1⟩ := h.2 _ h1
    obtain ⟨q, e2⟩ := k.2 _ h2
    exact ⟨p, q, by rw [← e1, ← e2]⟩⟩
/-- Behind a walk: what has come to the notes. -/
structure Noted (s s' : Rs) (L : List (Int × Int)) (of : Int) (f : Nat → Nat → Prop) : Prop where
  lv : s'.lv = s.lv ++ L
  of : s'.of = s.of ++ List.replicate L.length of
  prs : ∃ ps, s'.prs = s.prs ++ ps ∧ LikeP ps f
theorem Noted.refl (s : Rs) (of : Int) : Noted s s [] of fun _ _ => False := ⟨by simp, by simp, [], by simp, ⟨fun p q => by simp, fun z hz => by cases hz⟩⟩
theorem Noted.trans {s s1 s2 : Rs} {L M : List (Int × Int)} {of : Int} {f g : Nat → Nat → Prop} (h : Noted s s1 L of f) (k : Noted s1 s2 M of g) : Noted s s2 (L ++ M) of fun p q => f p q ∨ g p q := by
  obtain ⟨ps, e1, l1⟩ := h.prs
  obtain ⟨qs, e2, l2⟩ := k.prs
  exact ⟨by rw [k.lv, h.lv, List.append_assoc], by rw [k.of, h.of, List.append_assoc, List.length_append, List.replicate_append_replicate], ps ++ qs, by rw [e2, e1, List.append_assoc], l1.app l2⟩
theorem Noted.more {s s1 : Rs} {L : List (Int × Int)} {of : Int} {f g : Nat → Nat → Prop} {ps : List (Int × Int)} (h : Noted s s1 L of f) (k : LikeP ps g) : Noted s ⟨s1.lv, s1.of, s1.prs ++ ps⟩ L of fun p q => f p q ∨ g p q := by
  obtain ⟨qs, e1, l1⟩ := h.prs
  exact ⟨h.lv, h.of, qs ++ ps, by show s1.prs ++ ps = _; rw [e1, List.append_assoc], l1.app k⟩
theorem Noted.congr {s s1 : Rs} {L : List (Int × Int)} {of : Int} {f g : Nat → Nat → Prop} (h : Noted s s1 L of f) (e : ∀ p q, f p q ↔ g p q) : Noted s s1 L of g := by
  obtain ⟨qs, e1, l1⟩ := h.prs
  exact ⟨h.lv, h.of, qs, e1, l1.congr e⟩
/-- The kids, one after another, as parts that follow each other. -/
theorem seq_noted {T : Type} {f : T → Rs → Pt × Rs} {g : T → Nat → GS} {n : T → Nat} {L : T → List (Int × Int)} {of : Int} {kd : Int} (h4 : kd = 4) : ∀ (l : List T), (∀ k ∈ l, ∀ s : Rs, PtIs (f k s).1 (g k s.lv.length) ∧ Noted s (f k s).2 (L k) of (g k s.lv.length).prs ∧ (L k).length = n k) →
    ∀ (o : Pt) (s0 s : Rs) (G : GS) (M : List (Int × Int)), PtIs o G → Noted s0 s M of G.prs →
      PtIs (l.foldl (fun o k => stepK kd o.1 (f k o.2)) (o, s)).1 (gSeq G (seqG g n l s.lv.length)) ∧ Noted s0 (l.foldl (fun o k => stepK kd o.1 (f k o.2)) (o, s)).2 (M ++ l.flatMap L) of (gSeq G (seqG g n l s.lv.length)).prs
  | [], _, o, s0, s, G, M, h1, h2 => by
    simp only [List.foldl_nil, seqG, List.flatMap_nil, List.append_nil]
    rw [gSeq_one]
    exact ⟨h1, h2⟩
  | k :: r, h, o, s0, s, G, M, h1, h2 => by
    obtain ⟨p1, p2, p3⟩ := h k List.mem_cons_self s
    obtain ⟨r1, hr1⟩ : ∃ r1, r1 = f k s := ⟨_, rfl⟩
    have e : stepK kd o (f k s) = (⟨o.emp && r1.1.emp, if o.emp = true then o.fst ++ r1.1.fst else o.fst, if r1.1.emp = true then o.lst ++ r1.1.lst else r1.1.lst⟩, ⟨r1.2.lv, r1.2.of, r1.2.prs ++ pairP o.lst r1.1.fst⟩) := by
      rw [hr1]; unfold stepK; rw [if_pos h4]
    rw [← hr1] at p1 p2
    have hl : r1.2.lv.length = s.lv.length + n k := by rw [p2.lv, List.length_append, p3]
    have ih := seq_noted h4 r (fun x hx => h x (List.mem_cons_of_mem _ hx)) (stepK kd o (f k s)).1 s0 (stepK kd o (f k s)).2 (gSeq G (g k s.lv.length)) (M ++ L k) (by
      rw [e]
      refine ⟨by rw [Bool.and_eq_true, h1.emp, p1.emp]; rfl, ?_, ?_⟩
      · show LikeF (if o.emp = true then _ else _) _
        by_cases he : o.emp = true
        · rw [if_pos he]
          exact (h1.fst.app p1.fst).congr fun q => ⟨fun h => h.elim .inl fun h => .inr ⟨h1.emp.1 he, h⟩, fun h => h.elim .inl fun h => .inr h.2⟩
        · rw [if_neg he]
          exact h1.fst.congr fun q => ⟨.inl, fun h => h.elim id fun h => absurd (h1.emp.2 h.1) he⟩
      · show LikeF (if r1.1.emp = true then _ else _) _
        by_cases he : r1.1.emp = true
        · rw [if_pos he]
          exact (h1.lst.app p1.lst).congr fun q => ⟨fun h => h.elim (fun h => .inl ⟨p1.emp.1 he, h⟩) .inr, fun h => h.elim (fun h => .inl h.2) .inr⟩
        · rw [if_neg he]
          exact p1.lst.congr fun q => ⟨.inr, fun h => h.elim (fun h => absurd (p1.emp.2 h.1) he) id⟩) (by
      rw [e]
      exact ((h2.trans p2).more (pairP_like h1.lst p1.fst)).congr fun p q => by show (_ ∨ _) ∨ _ ↔ _; exact or_assoc)
    have el : (stepK kd o (f k s)).2.lv.length = s.lv.length + n k := by rw [e]; exact hl
    rw [el, gSeq_assoc] at ih
    simp only [List.foldl_cons, List.flatMap_cons, seqG]
    rw [← List.append_assoc]
    exact ih
theorem alt_noted {T : Type} {f : T → Rs → Pt × Rs} {g : T → Nat → GS} {n : T → Nat} {L : T → List (Int × Int)} {of : Int} {kd : Int} (h4 : ¬ kd = 4) : ∀ (l : List T), (∀ k ∈ l, ∀ s : Rs, PtIs (f k s).1 (g k s.lv.length) ∧ Noted s (f k s).2 (L k) of (g k s.lv.length).prs ∧ (L k).length = n k) →
    ∀ (o : Pt) (s0 s : Rs) (G : GS) (M : List (Int × Int)), PtIs o G → Noted s0 s M of G.prs →
      PtIs (l.foldl (fun o k => stepK kd o.1 (f k o.2)) (o, s)).1 (gAlt G (altG g n l s.lv.length)) ∧ Noted s0 (l.foldl (fun o k => stepK kd o.1 (f k o.2)) (o, s)).2 (M ++ l.flatMap L) of (gAlt G (altG g n l s.lv.length)).prs
  | [], _, o, s0, s, G, M, h1, h2 => by
    simp only [List.foldl_nil, altG, List.flatMap_nil, List.append_nil]
    rw [gAlt_nil]
    exact ⟨h1, h2⟩
  | k :: r, h, o, s0, s, G, M, h1, h2 => by
    obtain ⟨p1, p2, p3⟩ := h k List.mem_cons_self s
    obtain ⟨r1, hr1⟩ : ∃ r1, r1 = f k s := ⟨_, rfl⟩
    have e : stepK kd o (f k s) = (⟨o.emp || r1.1.emp, o.fst ++ r1.1.fst, o.lst ++ r1.1.lst⟩, r1.2) := by
      rw [hr1]; unfold stepK; rw [if_neg h4]
    rw [← hr1] at p1 p2
    have hl : r1.2.lv.length = s.lv.length + n k := by rw [p2.lv, List.length_append, p3]
    have ih := alt_noted h4 r (fun x hx => h x (List.mem_cons_of_mem _ hx)) (stepK kd o (f k s)).1 s0 (stepK kd o (f k s)).2 (gAlt G (g k s.lv.length)) (M ++ L k) (by
      rw [e]
      exact ⟨by rw [Bool.or_eq_true, h1.emp, p1.emp]; rfl, h1.fst.app p1.fst, h1.lst.app p1.lst⟩) (by
      rw [e]
      exact h2.trans p2)
    have el : (stepK kd o (f k s)).2.lv.length = s.lv.length + n k := by rw [e]; exact hl
    rw [el, gAlt_assoc] at ih
    simp only [List.foldl_cons, List.flatMap_cons, altG]
    rw [← List.append_assoc]
    exact ih
/-- A tree's walk notes just its places. -/
theorem look_noted : ∀ (d : Nat) (wi : Bool) (t : Tr d) (of : Int) (s : Rs), fitsT d wi t = true → PtIs (lookP d t of s).1 (glk d t s.lv.length) ∧ Noted s (lookP d t of s).2 (leafL d t) of (glk d t s.lv.length).prs
  | 0, _, t, _, _, _ => t.elim
  | d + 1, wi, t, of, s, h => by
    obtain ⟨h1, h2, h3⟩ := fit_kids h
    have ih := fun (k : Tr d) (hk : k ∈ Tr.kids t) (s : Rs) => look_noted d true k of s (h3 k hk)
    have ih' : ∀ k ∈ Tr.kids t, ∀ s : Rs, PtIs (lookP d k of s).1 (glk d k s.lv.length) ∧ Noted s (lookP d k of s).2 (leafL d k) of (glk d k s.lv.length).prs ∧ (leafL d k).length = leavesT d k := fun k hk s => ⟨(ih k hk s).1, (ih k hk s).2, leafL_len d k⟩
    simp only [lookP, glk, leafL]
    by_cases h9 : Tr.kind t = 9
    · have hk0 : Tr.kids t = [] := h1.2 (by omega)
      rw [if_pos h9, if_pos h9, if_neg (fun h => h.2 h9), hk0]
      exact ⟨⟨⟨fun _ => trivial, fun _ => rfl⟩, ⟨fun q => ⟨(fun h => by cases h), fun h => h.elim⟩, fun z hz => by cases hz⟩, ⟨fun q => ⟨(fun h => by cases h), fun h => h.elim⟩, fun z hz => by cases hz⟩⟩, Noted.refl s of⟩
    rw [if_neg h9, if_neg h9]
    by_cases hk : (Tr.kids t).length = 0
    · rw [if_pos hk, if_pos hk, if_pos ⟨hk, h9⟩]
      have hone : LikeF [((s.lv.length + 1 : Nat) : Int)] fun q => q = s.lv.length + 1 := ⟨fun q => by rw [List.mem_singleton]; omega, fun z hz => ⟨_, List.mem_singleton.1 hz⟩⟩
      exact ⟨⟨⟨(fun h => by cases h), fun h => h.elim⟩, hone, hone⟩, ⟨rfl, rfl, [], by simp, ⟨fun p q => ⟨(fun h => by cases h), fun h => h.elim⟩, fun z hz => by cases hz⟩⟩⟩
    rw [if_neg hk, if_neg hk, if_neg (show ¬ ((Tr.kids t).length = 0 ∧ Tr.kind t ≠ 9) from fun h => hk h.1)]
    have hnil : LikeF [] fun _ => False := ⟨fun q => ⟨(fun h => by cases h), fun h => h.elim⟩, fun z hz => by cases hz⟩
    by_cases h4 : Tr.kind t = 4
    · obtain ⟨a, b⟩ := seq_noted (of := of) h4 (Tr.kids t) ih' ⟨decide (Tr.kind t = 4), [], []⟩ s s gOne [] ⟨by simp [h4, gOne], hnil, hnil⟩ (Noted.refl s of)
      rw [if_pos h4]
      rw [one_gSeq] at a b
      rw [List.nil_append] at b
      obtain ⟨r, hr⟩ : ∃ r, r = (Tr.kids t).foldl (fun o k => stepK (Tr.kind t) o.1 (lookP d k of o.2)) (⟨decide (Tr.kind t = 4), [], []⟩, s) := ⟨_, rfl⟩
      rw [← hr] at a b ⊢
      unfold endK
      rw [if_neg (by omega), decide_eq_false (by omega : ¬ Tr.kind t = 6), decide_eq_false (by omega : ¬ Tr.kind t = 8)]
      exact ⟨⟨by rw [Bool.or_false, Bool.or_false]; exact a.emp, a.fst, a.lst⟩, b⟩
    · obtain ⟨a, b⟩ := alt_noted (of := of) h4 (Tr.kids t) ih' ⟨decide (Tr.kind t = 4), [], []⟩ s s gNil [] ⟨by simp [h4, gNil], hnil, hnil⟩ (Noted.refl s of)
      rw [if_neg h4]
      rw [nil_gAlt] at a b
      rw [List.nil_append] at b
      obtain ⟨r, hr⟩ : ∃ r, r = (Tr.kids t).foldl (fun o k => stepK (Tr.kind t) o.1 (lookP d k of o.2)) (⟨decide (Tr.kind t = 4), [], []⟩, s) := ⟨_, rfl⟩
      rw [← hr] at a b ⊢
      unfold endK
      refine ⟨⟨?_, a.fst, a.lst⟩, ?_⟩
      · show (r.1.emp || _ || _) = true ↔ (_ ∨ Tr.kind t = 6 ∨ Tr.kind t = 8)
        rw [Bool.or_eq_true, Bool.or_eq_true, a.emp, decide_eq_true_eq, decide_eq_true_eq, or_assoc]
      · by_cases h67 : Tr.kind t = 6 ∨ Tr.kind t = 7
        · rw [if_pos h67]
          exact (b.more (pairP_like a.lst a.fst)).congr fun p q => ⟨fun h => h.elim .inl fun h => .inr ⟨h67, h⟩, fun h => h.elim .inl fun h => .inr h.2⟩
        · rw [if_neg h67]
          exact b.congr fun p q => ⟨.inl, fun h => h.elim id fun h => absurd h.1 h67⟩
end Go.Proofs.Ythdhbkngbmjjkaa
namespace Go.Proofs.Ythdhbkngbmjjkaa
open Go.RowKit
set_option linter.unusedSimpArgs false
def lfR (L : List (Int × Int)) (f : Nat → Option Addr × Nat × Nat) (i : Nat) : Value × Value × Value := (.int .i64 (L[i]?.getD (0, 0)).1, .int .i64 (L[i]?.getD (0, 0)).2, .slice (f i).1 (f i).2.1 (f i).2.2)
def twoV (z : Int × Int) : List Value := [.int .i64 z.1, .int .i64 z.2]
/-- The document's places while they are found: a struct of seven cells, three rows of one's own. -/
def RA (w : World) (B a : Nat) (v1 v2 v5 : Value) (H : Value × Value × Value × Value) (s : Rs) : Prop :=
  B ≤ a ∧ w.heap[a]? = some (.cells #[H.1, v1, v2, H.2.1, H.2.2.1, v5, H.2.2.2] 39 (0, 0)) ∧ (∃ f, w.ownsRow B 48 3 v1 s.lv.length (flat3 s.lv.length (lfR s.lv f))) ∧ w.ownsRow B 3 1 v2 s.of.length (s.of.map (.int .i64)) ∧ w.ownsRow B 101 2 v5 s.prs.length (s.prs.flatMap twoV)
/-- The blocks that are written. -/
def Tch (a : Nat) (v1 v2 v5 : Value) (b : Nat) : Prop := b = a ∨ v1.ownBlock = some b ∨ v2.ownBlock = some b ∨ v5.ownBlock = some b
/-- All but some blocks is as it was. -/
def Keeps (T : Nat → Prop) (w w' : World) : Prop := Below 0 w w' ∧ ∀ b, b < w.heap.size → ¬ T b → w'.heap[b]? = w.heap[b]?
theorem Keeps.refl (T : Nat → Prop) (w : World) : Keeps T w w := ⟨Below.refl _ _, fun _ _ _ => rfl⟩
theorem Keeps.trans {T T1 : Nat → Prop} {w w1 w2 : World} (h : Keeps T w w1) (k : Keeps T1 w1 w2) (hT : ∀ b, T1 b → T b ∨ w.heap.size ≤ b) : Keeps T w w2 :=
  ⟨h.1.trans k.1, fun b hb hn => (k.2 b (Nat.lt_of_lt_of_le hb h.1.size) fun e => by rcases hT b e with e | e; exact hn e; omega).trans (h.2 b hb hn)⟩
theorem Keeps.of_below {T : Nat → Prop} {w w' : World} (h : Below w.heap.size w w') : Keeps T w w' := ⟨h.mono (Nat.zero_le _), fun b hb _ => h.block b hb⟩
theorem Keeps.below {T : Nat → Prop} {B : Nat} {w w' : World} (h : Keeps T w w') (hT : ∀ b, T b → B ≤ b) (hB : B ≤ w.heap.size) : Below B w w' :=
  ⟨h.1.os, h.1.tape, h.1.output, h.1.size, fun b hb => h.2 b (by omega) fun e => by have := hT b e; omega⟩
theorem Keeps.nums {T S : Nat → Prop} {w w' : World} {v : Value} {l : List Int} (h : Keeps T w w') (hv : IsNums .i64 w S v l) (hS : ∀ b, S b → b < w.heap.size → ¬ T b) : IsNums .i64 w' S v l := hv.keep fun b hb hlt => h.2 b hlt (hS b hb hlt)
section
variable {w : World} {B a : Nat} {v1 v2 v5 : Value} {H : Value × Value × Value × Value} {s : Rs}
theorem RA.lt (h : RA w B a v1 v2 v5 H s) : ∀ b, Tch a v1 v2 v5 b → B ≤ b ∧ b < w.heap.size := fun b hb => by
  obtain ⟨h1, h2, ⟨f, h3⟩, h4, h5⟩ := h
  rcases hb with rfl | e | e | e
  · exact ⟨h1, (Array.getElem?_eq_some_iff.1 h2).1⟩
  · exact h3.lt b e
  · exact h4.lt b e
  · exact h5.lt b e
theorem RA.below {w' : World} (h : RA w B a v1 v2 v5 H s) (hb : Below w.heap.size w w') : RA w' B a v1 v2 v5 H s := by
  obtain ⟨h1, h2, ⟨f, h3⟩, h4, h5⟩ := h
  exact ⟨h1, (hb.block a (Array.getElem?_eq_some_iff.1 h2).1).trans h2, ⟨f, h3.kept (grown_of_below hb none) (Classical.em _)⟩, h4.kept (grown_of_below hb none) (Classical.em _), h5.kept (grown_of_below hb none) (Classical.em _)⟩
theorem slot7 {Y : World} {p : Nat} {a b c d e f g : Value} {t : TypeId} (h : Y.heap[p]? = some (.cells #[a, b, c, d, e, f, g] t (0, 0))) :
    Y.cell? ⟨p, 0, none⟩ = some a ∧ Y.cell? ⟨p, 1, none⟩ = some b ∧ Y.cell? ⟨p, 2, none⟩ = some c ∧ Y.cell? ⟨p, 3, none⟩ = some d ∧ Y.cell? ⟨p, 4, none⟩ = some e ∧ Y.cell? ⟨p, 5, none⟩ = some f ∧ Y.cell? ⟨p, 6, none⟩ = some g ∧ ∀ j, Y.frozen? ⟨p, j, none⟩ = false := by
  refine ⟨?_, ?_, ?_, ?_, ?_, ?_, ?_, fun _ => frozen_of_row _ _ _ _ _ h⟩ <;> (rw [cell_of_row _ _ _ _ _ _ h]; rfl)
theorem src_new2 (w : World) (a b : Value) (T : TypeId) : Src (w.alloc (.cells #[a, b] T)) 2 (some ⟨w.heap.size, 0, none⟩) 1 [a, b] :=
  ⟨rfl, fun _ => ⟨_, rfl, fun j u hu => by
    have hb : (w.alloc (.cells #[a, b] T)).heap[w.heap.size]? = some (.cells #[a, b] T (0, 0)) := heap_alloc_new w _
    rw [Addr.add_lit, Nat.zero_add, cell_of_row _ _ j _ _ _ hb, ← Array.getElem?_toList]; exact hu⟩⟩
theorem prs_snoc (l : List (Int × Int)) (x y : Int) : (l ++ [(x, y)]).flatMap twoV = l.flatMap twoV ++ [.int .i64 x, .int .i64 y] := by simp [twoV]
/-- A pair more. -/
theorem RA.addPair {X w1 w2 : World} {v5' : Value} {x y : Int} {N : Nat} (h : RA w B a v1 v2 v5 H s) (hX : Below w.heap.size w X) (hN : N = s.prs.length) (ho : w1.ownsRow B 101 2 v5' (N + 1) (s.prs.flatMap twoV ++ [.int .i64 x, .int .i64 y])) (hg : X.grownBy w1 v5.ownBlock)
    (hv : v5'.ownBlock = v5.ownBlock ∨ v5'.ownBlock = some X.heap.size) (h2 : w2 = w1.setCell ⟨a, 5, none⟩ v5') :
    (w1.heap[a]? = some (.cells #[H.1, v1, v2, H.2.1, H.2.2.1, v5, H.2.2.2] 39 (0, 0)) ∧ ∀ b, b < w.heap.size → ¬ Tch a v1 v2 v5 b → w1.heap[b]? = w.heap[b]?) ∧
    RA w2 B a v1 v2 v5' H ⟨s.lv, s.of, s.prs ++ [(x, y)]⟩ ∧ Keeps (Tch a v1 v2 v5) w w2 ∧ ∀ b, Tch a v1 v2 v5' b → Tch a v1 v2 v5 b ∨ w.heap.size ≤ b := by
  subst hN
  have hb0 := hX.size
  have hT := h.lt
  obtain ⟨r1, r2, ⟨f, r3⟩, r4, r5⟩ := h
  have hal := (Array.getElem?_eq_some_iff.1 r2).1
  have n5a : v5.ownBlock ≠ some a := own_blk_ne r5 r2 (by decide)
  have h1 : ∀ b, b < w.heap.size → v5.ownBlock ≠ some b → w1.heap[b]? = w.heap[b]? := fun b hb hn => (hg.block b (by omega) fun e => hn e.symm).trans (hX.block b hb)
  have ha1 := (h1 a hal n5a).trans r2
  have hset := heap_setCell_same w1 a 5 _ 39 v5' ha1
  have hoth : ∀ b, b ≠ a → w2.heap[b]? = w1.heap[b]? := fun b hb => by rw [h2]; exact heap_setCell_other _ _ _ _ hb
  have e3 : w2.ownsRow B 48 3 v1 s.lv.length (flat3 s.lv.length (lfR s.lv f)) := by
    have k1 := r3.kept (grown_of_below hX none) (Classical.em _)
    have k2 := k1.kept hg (own_own k1 (r5.kept (grown_of_below hX none) (Classical.em _)) (by decide))
    rw [h2]
    exact ownsRow_setCell_other k2 (own_blk_ne k2 ha1 (by decide)) _
  have e4 : w2.ownsRow B 3 1 v2 s.of.length (s.of.map (.int .i64)) := by
    have k1 := r4.kept (grown_of_below hX none) (Classical.em _)
    have k2 := k1.kept hg (own_own k1 (r5.kept (grown_of_below hX none) (Classical.em _)) (by decide))
    rw [h2]
    exact ownsRow_setCell_other k2 (own_blk_ne k2 ha1 (by decide)) _
  have e5 : w2.ownsRow B 101 2 v5' (s.prs ++ [(x, y)]).length ((s.prs ++ [(x, y)]).flatMap twoV) := by
    rw [prs_snoc, List.length_append, List.length_singleton, h2]
    exact ownsRow_setCell_other ho (own_blk_ne ho ha1 (by decide)) _
  have hlt1 : X.heap.size ≤ w1.heap.size := hg.size
  refine ⟨⟨ha1, fun b hb hn => h1 b hb fun e => hn (.inr (.inr (.inr e)))⟩, ⟨r1, by rw [h2]; exact hset, ⟨f, e3⟩, e4, e5⟩, ⟨?_, fun b hb hn => (hoth b fun e => hn (.inl e)).trans (h1 b hb fun e => hn (.inr (.inr (.inr e))))⟩, fun b hb => ?_⟩
  · rw [h2]
    exact (((hX.mono (Nat.zero_le _)).trans ⟨hg.os, hg.tape, hg.output, hg.size, fun b hb => by omega⟩ : Below 0 w w1)).setCell (p := ⟨a, 5, none⟩) (Nat.zero_le _) _
  · rcases hb with e | e | e | e
    · exact .inl (.inl e)
    · exact .inl (.inr (.inl e))
    · exact .inl (.inr (.inr (.inl e)))
    · rcases hv with hv | hv
      · exact .inl (.inr (.inr (.inr (hv ▸ e))))
      · rw [hv] at e; injection e with e; exact .inr (by omega)
end
theorem info101 : (Try.prog.info? 101).map (fun i => (i.zero, i.size, i.bytes)) = some (some (.agg #[.int .i64 0, .int .i64 0]), 2, 16) := by kernel_rfl
set_option maxRecDepth 100000 in
set_option maxHeartbeats 4000000 in
/-- Two lists joined. -/
theorem join_any (S S' : Nat → Prop) (va vb : Value) (x y : List Int) (w : World) (ha : IsNums .i64 w S va x) (hb : IsNums .i64 w S' vb y) (hl : x.length + y.length ≤ 1000000) :
    Calls Try.prog 52 #[va, vb] w fun e w' => ∃ v', e = .returned v' ∧ IsNums .i64 w' (fun b => w.heap.size ≤ b) v' (x ++ y) ∧ Below w.heap.size w w' := by
  obtain ⟨A, c, rfl⟩ := ha.form
  obtain ⟨A', c', rfl⟩ := hb.form
  obtain ⟨W, hW⟩ : ∃ W, W = w.alloc (.cells #[] 3) := ⟨_, rfl⟩
  have HWB := hid (show Below w.heap.size w W by rw [hW]; exact (Below.refl _ _).alloc (Nat.le_refl _) _)
  have HO := hid (show W.ownsRow w.heap.size 3 1 (.slice (some ⟨w.heap.size, 0, none⟩) 0 0) ([] : List Int).length (([] : List Int).map (.int .i64)) from ⟨rfl, .inr ⟨w.heap.size, 0, #[], rfl, Nat.le_refl _, by rw [hW]; exact heap_alloc_new _ _, Nat.le_refl _, by decide, rfl, rfl⟩⟩)
  have HA := hid (ha.below HWB.out)
  have HB := hid ((hb.mono (S' := fun b => S' b ∧ b < w.heap.size) fun b h1 h2 => ⟨h1, h2⟩).below HWB.out)
  have hl1 : ([] : List Int).length + x.length ≤ 1000000 := by simp; omega
  have hl2 : ([] ++ x).length + y.length ≤ 1000000 := by simpa using hl
  have HL1 := hid hl1
  have HL2 := hid hl2
  have HWS := hid HWB.out.size
  clear ha hb hl hl1 hl2
  go_enter Try.func52, Try.ntmps52
  go_wp2_with (first
    | (at_builtin; rw [← hW]; clear hW; refine wpList_app_nums rfl (.tmp 5) (.tmp 6) rfl (xs := []) rfl HO.out rfl HA.out HL1.out HWS.out ?_; intro v6 w6 ho6 hb6 hs6; have HO6 := hid ho6; have HB6 := hid (HWB.out.trans hb6); have HV6 := hid (HB.out.keep (w' := w6) fun b hb _ => hb6.block b hb.2); have HS6 := hid hs6; clear ho6 hb6 hs6)
    | (at_builtin; refine wpList_app_nums rfl (.tmp 7) (.tmp 8) rfl (xs := [] ++ x) rfl HO6.out rfl HV6.out HL2.out HS6.out ?_; intro v7 w7 ho7 hb7 hs7; have HN7 := hid (own_nums ho7); have HB7 := hid (HB6.out.trans hb7); clear ho7 hb7 hs7)
    | fail)
  go_ret
  exact ⟨_, rfl, HN7.out.mono fun b hb _ => hb.1, HB7.out⟩
/-- The places with some pairs more. -/
def PairAt (w wr : World) (B a : Nat) (v1 v2 v5 : Value) (H : Value × Value × Value × Value) (s : Rs) (ps : List (Int × Int)) : Prop :=
  ∃ v5', RA wr B a v1 v2 v5' H ⟨s.lv, s.of, s.prs ++ ps⟩ ∧ Keeps (Tch a v1 v2 v5) w wr ∧ ∀ b, Tch a v1 v2 v5' b → Tch a v1 v2 v5 b ∨ w.heap.size ≤ b
theorem pairP_row {l m : List Int} {i : Nat} (hi : i < l.length) : pairP (l.take (i + 1)) m = pairP (l.take i) m ++ m.map fun y => (nth l i, y) := by
  unfold pairP
  rw [take_nth hi, List.flatMap_append]
  simp
theorem pairP_len (l m : List Int) : (pairP l m).length = l.length * m.length := by
  unfold pairP
  induction l with
  | nil => simp
  | cons x r ih => rw [List.flatMap_cons, List.length_append, ih, List.length_map, List.length_cons, Nat.succ_mul]; omega
theorem pair_few {l m : List Int} (hl : l.length ≤ 160) (hm : m.length ≤ 160) {i k : Nat} (hi : i ≤ l.length) : (pairP (l.take i) m ++ (m.take k).map fun y => (nth l i, y)).length ≤ 25760 := by
  rw [List.length_append, pairP_len, List.length_map, List.length_take, List.length_take]
  have h1 : min i l.length * m.length ≤ 160 * 160 := Nat.mul_le_mul (by omega) hm
  omega
theorem map_take_snoc {m : List Int} {k : Nat} (f : Int → Int × Int) (h : k < m.length) : (m.take (k + 1)).map f = (m.take k).map f ++ [f (nth m k)] := by rw [take_nth h]; simp
set_option maxRecDepth 100000 in
set_option maxHeartbeats 8000000 in
theorem pair_any {w : World} {B a : Nat} {v1 v2 v5 : Value} {H : Value × Value × Value × Value} {s : Rs} {va vb : Value} {l m : List Int} (h : RA w B a v1 v2 v5 H s) (ha : IsNums .i64 w (fun b => ¬ Tch a v1 v2 v5 b) va l) (hb : IsNums .i64 w (fun b => ¬ Tch a v1 v2 v5 b) vb m)
    (hl : l.length ≤ 160) (hm : m.length ≤ 160) (hs : s.prs.length ≤ 20000000) :
    Calls Try.prog 76 #[.pointer (some ⟨a, 0, none⟩), va, vb] w fun e w' => e = .returned (.tuple #[]) ∧ PairAt w w' B a v1 v2 v5 H s (pairP l m) := by
  obtain ⟨i0, hi0, hz0, hz1, hz2⟩ := info_parts info101
  obtain ⟨A, c, rfl⟩ := ha.form
  obtain ⟨A', c', rfl⟩ := hb.form
  have HRA := hid h
  have HA := hid ha
  have HBV := hid hb
  have HP0 := hid (show PairAt w w B a v1 v2 v5 H s [] from ⟨v5, by rw [List.append_nil]; exact h, Keeps.refl _ _, fun b hb => .inl hb⟩)
  have HSL := hid hs
  have HBA := hid h.1
  clear h ha hb hs
  go_enter Try.func76, Try.ntmps76
  go_wp2_with fail
  go_loopw [6] (fun s6 wr => ∃ (i : Nat), i ≤ l.length ∧ s6 = .int .i64 i ∧ Hid (PairAt w wr B a v1 v2 v5 H s (pairP (l.take i) m))) (fun s6 _ => l.length - (intOf s6).toNat)
  case atStart => exact ⟨0, by omega, rfl, HP0⟩
  case round =>
    clear HP0
    obtain ⟨i, hi, rfl, HP⟩ := hrel
    by_cases hlt : i < l.length
    · have HP1 := hid (show PairAt w wr B a v1 v2 v5 H s (pairP (l.take i) m ++ (m.take 0).map fun y => (nth l i, y)) by simpa using HP.out)
      have HROW := hid (pairP_row (m := m) hlt)
      clear HP
      go_wp2_with fail
      go_loopw [7] (fun s7 wk => ∃ (k : Nat), k ≤ m.length ∧ s7 = .int .i64 k ∧ Hid (PairAt w wk B a v1 v2 v5 H s (pairP (l.take i) m ++ (m.take k).map fun y => (nth l i, y)))) (fun s7 _ => m.length - (intOf s7).toNat)
      case atStart => exact ⟨0, by omega, rfl, HP1⟩
      case round =>
        clear HP1
        obtain ⟨k, hk, rfl, HP⟩ := hrel
        have HFEW := hid (pair_few (k := k) hl hm hi)
        obtain ⟨ps, hps⟩ : ∃ ps, ps = pairP (l.take i) m ++ (m.take k).map fun y => (nth l i, y) := ⟨_, rfl⟩
        rw [← hps] at HP HFEW
        have HPS := hid hps
        clear hps
        by_cases hkt : k < m.length
        · have HSN := hid (map_take_snoc (m := m) (fun y => (nth l i, y)) hkt)
          obtain ⟨v5k, hra, hke, hgr⟩ := HP.out
          obtain ⟨pA, pc, rfl, -⟩ := own_arr hra.2.2.2.2
          obtain ⟨np, hnp⟩ : ∃ np, np = (s.prs ++ ps).length := ⟨_, rfl⟩
          have hnpl : np ≤ 20025760 := by
            have h1 := HFEW.out
            have h2 := HSL.out
            rw [hnp, List.length_append]; omega
          have HNP := hid hnp
          rw [show (Rs.mk s.lv s.of (s.prs ++ ps)).prs.length = np from hnp.symm] at hra hgr
          have HWK := hid hke
          obtain ⟨lb, lo, lc, el, hlb1, hlb2, lx⟩ := (hke.nums HA.out fun b hb _ => hb).at hlt
          obtain ⟨rfl, rfl⟩ : A = some ⟨lb, lo, none⟩ ∧ c = lc := by simpa using el
          obtain ⟨mb, mo, mc, em, hmb1, hmb2, my⟩ := (hke.nums HBV.out fun b hb _ => hb).at hkt
          obtain ⟨rfl, rfl⟩ : A' = some ⟨mb, mo, none⟩ ∧ c' = mc := by simpa using em
          obtain ⟨x, hx⟩ : ∃ x, x = nth l i := ⟨_, rfl⟩
          obtain ⟨y, hy⟩ : ∃ y, y = nth m k := ⟨_, rfl⟩
          rw [← hx] at lx
          rw [← hy] at my
          have HXY := hid (And.intro hx hy)
          have hlw : lb < w.heap.size := by
            obtain ⟨b, o, c2, e2, -, h2, -⟩ := HA.out.at hlt
            obtain ⟨⟨rfl, -⟩, -⟩ : (lb = b ∧ lo = o) ∧ c = c2 := by simpa using e2
            exact h2
          have hmw : mb < w.heap.size := by
            obtain ⟨b, o, c2, e2, -, h2, -⟩ := HBV.out.at hkt
            obtain ⟨⟨rfl, -⟩, -⟩ : (mb = b ∧ mo = o) ∧ c' = c2 := by simpa using e2
            exact h2
          have hlk : ¬ Tch a v1 v2 (.slice pA np pc) lb := fun e => by rcases hgr _ e with e | e; exact hlb1 e; omega
          have hmk : ¬ Tch a v1 v2 (.slice pA np pc) mb := fun e => by rcases hgr _ e with e | e; exact hmb1 e; omega
          obtain ⟨X, hX⟩ : ∃ X, X = (wr.alloc (.cells #[.int .i64 x, .int .i64 y] 101)).drew := ⟨_, rfl⟩
          have HBW := hid (show Below wr.heap.size wr X by rw [hX]; exact ((Below.refl _ _).alloc (Nat.le_refl _) _).drew)
          have hq5 := (slot7 hra.2.1).2.2.2.2.2.1
          have hal := (Array.getElem?_eq_some_iff.1 hra.2.1).1
          have HC5 := hid hq5
          have HC5b := hid (show (wr.alloc (.cells #[.int .i64 x, .int .i64 y] 101)).cell? ⟨a, 5, none⟩ = some (.slice pA np pc) by
            have := (cell_same (HBW.out.block a hal)).trans hq5
            rw [hX] at this; exact this)
          have HS0 := hid (And.intro lx my)
          have HSF := hid (show ∀ Y : World, (∀ b, b < wr.heap.size → ¬ Tch a v1 v2 (.slice pA np pc) b → Y.heap[b]? = wr.heap[b]?) → Y.cell? ⟨lb, lo + i, none⟩ = some (.int .i64 x) ∧ Y.cell? ⟨mb, mo + k, none⟩ = some (.int .i64 y) from fun Y hY =>
            ⟨(cell_same (hY lb hlb2 hlk)).trans lx, (cell_same (hY mb hmb2 hmk)).trans my⟩)
          have HS1 := hid (HSF.out X fun b hb _ => HBW.out.block b hb)
          obtain ⟨pcs, hpcs⟩ : ∃ pcs, pcs = (s.prs ++ ps).flatMap twoV := ⟨_, rfl⟩
          have HOX := hid (show X.ownsRow B 101 2 (.slice pA np pc) np pcs by
            rw [hX, hpcs]
            have h1 := hra.2.2.2.2
            rw [show (Rs.mk s.lv s.of (s.prs ++ ps)).prs.length = np from hnp.symm] at h1
            exact (h1.alloc _).drew)
          have HBX := hid (show B ≤ X.heap.size by have h1 := HBW.out.size; have h2 := hra.1; omega)
          have HC3f := hid (fun (v' : Value) (w' : World) (hown : w'.ownsRow B 101 2 v' (np + 1) (pcs ++ [.int .i64 x, .int .i64 y])) (hgrow : X.grownBy w' (Value.slice pA np pc).ownBlock) (hat : v'.ownBlock = (Value.slice pA np pc).ownBlock ∨ v'.ownBlock = some X.heap.size) => show (w'.cell? ⟨lb, lo + i, none⟩ = some (.int .i64 x) ∧ w'.cell? ⟨mb, mo + k, none⟩ = some (.int .i64 y)) ∧ (∃ u, w'.cell? ⟨a, 5, none⟩ = some u ∧ w'.frozen? ⟨a, 5, none⟩ = false) ∧
              ((w'.setCell ⟨a, 5, none⟩ v').cell? ⟨lb, lo + i, none⟩ = some (.int .i64 x) ∧ (w'.setCell ⟨a, 5, none⟩ v').cell? ⟨mb, mo + k, none⟩ = some (.int .i64 y)) ∧ PairAt w (w'.setCell ⟨a, 5, none⟩ v') B a v1 v2 v5 H s (ps ++ [(x, y)]) from by
            rw [hpcs] at hown
            obtain ⟨⟨q1, q2⟩, q3, q4, q5⟩ := hra.addPair (x := x) (y := y) (N := np) HBW.out hnp hown hgrow hat rfl
            refine ⟨HSF.out _ q2, ⟨_, (slot7 q1).2.2.2.2.2.1, (slot7 q1).2.2.2.2.2.2.2 5⟩, HSF.out _ q4.2, ⟨v', ?_, hke.trans q4 hgr, fun b hb => ?_⟩⟩
            · rw [← List.append_assoc]; exact q3
            · rcases q5 b hb with e | e
              · exact hgr b e
              · exact .inr (Nat.le_trans hke.1.size e))
          clear hra hke hgr hnp el em hlb1 hlb2 hmb1 hmb2 lx my hx hy hlw hmw hlk hmk hq5 hal hpcs
          have hi' : (i : Int) < (l.length : Int) := by omega
          have hk' : (k : Int) < (m.length : Int) := by omega
          go_wp2_with fail
          refine wp_region_held_drew (S := (fun Y => Y.cell? ⟨lb, lo + i, none⟩ = some (.int .i64 x) ∧ Y.cell? ⟨mb, mo + k, none⟩ = some (.int .i64 y))) (by kernel_rfl) (by exact HS0.out) (fun hHeld => ?_)
          refine wpAnyH_take (i := 0) (oi := { dst := some 20, op := Op.move (Operand.tmp 0), type := _, pos := _, after := _, guard := none }) (v := ?_) rfl (by kernel_rfl) (by kernel_rfl) (by kernel_rfl) (fun _ _ _ h => h) (Or.inl ⟨by rfl, ?_⟩) (by assumption) ?_
          rotate_left
          · intro w hSw; (try dsimp only at hSw); go_simp; try with_reducible rfl
          try simp only [Act.put, List.setIfInBounds_toArray, List.set_cons_zero, List.set_cons_succ]
          refine wpAnyH_take (i := 1) (oi := { dst := some 21, op := Op.move (Operand.tmp 0), type := _, pos := _, after := _, guard := none }) (v := ?_) rfl (by kernel_rfl) (by kernel_rfl) (by kernel_rfl) (fun _ _ _ h => h) (Or.inl ⟨by rfl, ?_⟩) (by assumption) ?_
          rotate_left
          · intro w hSw; (try dsimp only at hSw); go_simp; try with_reducible rfl
          try simp only [Act.put, List.setIfInBounds_toArray, List.set_cons_zero, List.set_cons_succ]
          refine wpAnyH_take (i := 2) (oi := { dst := some 22, op := Op.nilCheck (Operand.tmp 21), type := _, pos := _, after := _, guard := none }) (v := ?_) rfl (by kernel_rfl) (by kernel_rfl) (by kernel_rfl) (fun _ _ _ h => h) (Or.inl ⟨by rfl, ?_⟩) (by assumption) ?_
          rotate_left
          · intro w hSw; (try dsimp only at hSw); go_simp; try with_reducible rfl
          try simp only [Act.put, List.setIfInBounds_toArray, List.set_cons_zero, List.set_cons_succ]
          refine wpAnyH_take (i := 3) (oi := { dst := some 23, op := Op.fieldAddr 39 (Operand.tmp 22) 5, type := _, pos := _, after := _, guard := none }) (v := ?_) rfl (by kernel_rfl) (by kernel_rfl) (by kernel_rfl) (fun _ _ _ h => h) (Or.inl ⟨by rfl, ?_⟩) (by assumption) ?_
          rotate_left
          · intro w hSw; (try dsimp only at hSw); go_simp; try with_reducible rfl
          try simp only [Act.put, List.setIfInBounds_toArray, List.set_cons_zero, List.set_cons_succ]
          refine wpAnyH_take (i := 5) (oi := { dst := some 25, op := Op.move (Operand.tmp 1), type := _, pos := _, after := _, guard := none }) (v := ?_) rfl (by kernel_rfl) (by kernel_rfl) (by kernel_rfl) (fun _ _ _ h => h) (Or.inl ⟨by rfl, ?_⟩) (by assumption) ?_
          rotate_left
          · intro w hSw; (try dsimp only at hSw); go_simp; try with_reducible rfl
          try simp only [Act.put, List.setIfInBounds_toArray, List.set_cons_zero, List.set_cons_succ]
          refine wpAnyH_take (i := 6) (oi := { dst := some 26, op := Op.move (Operand.tmp 6), type := _, pos := _, after := _, guard := none }) (v := ?_) rfl (by kernel_rfl) (by kernel_rfl) (by kernel_rfl) (fun _ _ _ h => h) (Or.inl ⟨by rfl, ?_⟩) (by assumption) ?_
          rotate_left
          · intro w hSw; (try dsimp only at hSw); go_simp; try with_reducible rfl
          try simp only [Act.put, List.setIfInBounds_toArray, List.set_cons_zero, List.set_cons_succ]
          refine wpAnyH_take (i := 7) (oi := { dst := some 27, op := Op.indexAddr 23 (Operand.tmp 25) (Operand.tmp 26), type := _, pos := _, after := _, guard := none }) (v := ?_) rfl (by kernel_rfl) (by kernel_rfl) (by kernel_rfl) (fun _ _ _ h => h) (Or.inl ⟨by rfl, ?_⟩) (by assumption) ?_
          rotate_left
          · intro w hSw; (try dsimp only at hSw); go_simp; try with_reducible rfl
          try simp only [Act.put, List.setIfInBounds_toArray, List.set_cons_zero, List.set_cons_succ]
          refine wpAnyH_take (i := 8) (oi := { dst := some 28, op := Op.load 3 (Operand.tmp 27), type := _, pos := _, after := _, guard := none }) (v := ?_) rfl (by kernel_rfl) (by kernel_rfl) (by kernel_rfl) (fun _ _ _ h => h) (Or.inl ⟨by rfl, ?_⟩) (by assumption) ?_
          rotate_left
          · intro w hSw; (try dsimp only at hSw); go_simp; try with_reducible rfl
          try simp only [Act.put, List.setIfInBounds_toArray, List.set_cons_zero, List.set_cons_succ]
          refine wpAnyH_take (i := 9) (oi := { dst := some 29, op := Op.move (Operand.tmp 2), type := _, pos := _, after := _, guard := none }) (v := ?_) rfl (by kernel_rfl) (by kernel_rfl) (by kernel_rfl) (fun _ _ _ h => h) (Or.inl ⟨by rfl, ?_⟩) (by assumption) ?_
          rotate_left
          · intro w hSw; (try dsimp only at hSw); go_simp; try with_reducible rfl
          try simp only [Act.put, List.setIfInBounds_toArray, List.set_cons_zero, List.set_cons_succ]
          refine wpAnyH_take (i := 10) (oi := { dst := some 30, op := Op.move (Operand.tmp 7), type := _, pos := _, after := _, guard := none }) (v := ?_) rfl (by kernel_rfl) (by kernel_rfl) (by kernel_rfl) (fun _ _ _ h => h) (Or.inl ⟨by rfl, ?_⟩) (by assumption) ?_
          rotate_left
          · intro w hSw; (try dsimp only at hSw); go_simp; try with_reducible rfl
          try simp only [Act.put, List.setIfInBounds_toArray, List.set_cons_zero, List.set_cons_succ]
          refine wpAnyH_take (i := 11) (oi := { dst := some 31, op := Op.indexAddr 23 (Operand.tmp 29) (Operand.tmp 30), type := _, pos := _, after := _, guard := none }) (v := ?_) rfl (by kernel_rfl) (by kernel_rfl) (by kernel_rfl) (fun _ _ _ h => h) (Or.inl ⟨by rfl, ?_⟩) (by assumption) ?_
          rotate_left
          · intro w hSw; (try dsimp only at hSw); go_simp; try with_reducible rfl
          try simp only [Act.put, List.setIfInBounds_toArray, List.set_cons_zero, List.set_cons_succ]
          refine wpAnyH_take (i := 12) (oi := { dst := some 32, op := Op.load 3 (Operand.tmp 31), type := _, pos := _, after := _, guard := none }) (v := ?_) rfl (by kernel_rfl) (by kernel_rfl) (by kernel_rfl) (fun _ _ _ h => h) (Or.inl ⟨by rfl, ?_⟩) (by assumption) ?_
          rotate_left
          · intro w hSw; (try dsimp only at hSw); go_simp; try with_reducible rfl
          try simp only [Act.put, List.setIfInBounds_toArray, List.set_cons_zero, List.set_cons_succ]
          refine wpAnyH_take (i := 13) (oi := { dst := some 33, op := Op.build 101 #[(0, Operand.tmp 28), (1, Operand.tmp 32)], type := _, pos := _, after := _, guard := none }) (v := ?_) rfl (by kernel_rfl) (by kernel_rfl) (by kernel_rfl) (fun _ _ _ h => h) (Or.inl ⟨by rfl, ?_⟩) (by assumption) ?_
          rotate_left
          · intro w hSw; (try dsimp only at hSw); go_simp; try with_reducible rfl
          try simp only [Act.put, List.setIfInBounds_toArray, List.set_cons_zero, List.set_cons_succ]
          refine wpAnyH_ready (rs := [4, 14]) (by kernel_rfl) (by simp) ?_
          refine AllReadyH.cons (o := { dst := some 24, op := Op.load 36 (Operand.tmp 23), type := _, pos := _, after := _, guard := none }) rfl ?legA1n1 (AllReadyH.cons (o := { dst := some 34, op := Op.buildSlice 36 1 #[(0, Operand.tmp 33)], type := _, pos := _, after := _, guard := none }) rfl ?legB1n1 AllReadyH.nil)
          case' legA1n1 =>
            intro K hK
            go_simp
            first | rw [HC5.out] | rw [HC5b.out]
            go_simp
            try rw [← hX]
            refine hK.out _ _ (by first | exact HS0.out | exact HS1.out) (fun hHeld => ?_)
            clear hK K
            try simp only [Act.put, List.setIfInBounds_toArray, List.set_cons_zero, List.set_cons_succ]
            refine wpAnyH_ready (rs := [14]) (by kernel_rfl) (by simp) ?_
            refine AllReadyH.cons (o := { dst := some 34, op := Op.buildSlice 36 1 #[(0, Operand.tmp 33)], type := _, pos := _, after := _, guard := none }) rfl (fun K hK => ?_) AllReadyH.nil
            go_simp
            rw [← hX]
            refine hK.out _ _ (by exact HS1.out) (fun hHeld => ?_)
            clear hK K
            try simp only [Act.put, List.setIfInBounds_toArray, List.set_cons_zero, List.set_cons_succ]
            refine wpAnyH_ready (rs := [15]) (by kernel_rfl) (by simp) ?_
            refine AllReadyH.cons (o := { dst := some 35, op := Op.call { callee := Callee.builtin Builtin.append, args := #[Operand.tmp 24, Operand.tmp 34], argTypes := #[36, 36] }, type := _, pos := _, after := _, guard := none }) rfl (fun K hK => ?_) AllReadyH.nil
            rw [if_pos (by rfl)]
            try rw [← hX]
            refine wp_app X (.tmp 24) (.tmp 34) 36 rfl B 101 i0 _ 2 16 Try.underlying36 hi0 hz0 hz1 hz2 rfl (by decide) _ np pcs rfl HOX.out _ 1 1 [.int .i64 x, .int .i64 y] rfl (by rw [hX]; exact src_new2 wr (.int .i64 x) (.int .i64 y) 101) (by intro u hu; simp at hu; rcases hu with rfl | rfl <;> rfl) (by simp only [maxLen]; omega) (by omega) HBX.out ?_
            intro v' w' hown hgrow hat
            obtain ⟨A5, c5, rfl, -⟩ := own_arr hown
            have HC3 := hid (HC3f.out _ w' hown hgrow hat)
            have HC2b := hid HC3.out.1
            obtain ⟨u5, hu5, hf5⟩ := HC3.out.2.1
            clear hown hgrow hat
            refine hK.out _ _ (by exact HC2b.out) (fun hHeld => ?_)
            clear hK K
            try simp only [Act.put, List.setIfInBounds_toArray, List.set_cons_zero, List.set_cons_succ]
            refine wpAnyH_take (i := 16) (oi := { dst := some 36, op := Op.nilCheck (Operand.tmp 20), type := _, pos := _, after := _, guard := none }) (v := ?_) rfl (by kernel_rfl) (by kernel_rfl) (by kernel_rfl) (fun _ _ _ h => h) (Or.inl ⟨by rfl, ?_⟩) (by assumption) ?_
            rotate_left
            · intro w hSw; (try dsimp only at hSw); go_simp; try with_reducible rfl
            try simp only [Act.put, List.setIfInBounds_toArray, List.set_cons_zero, List.set_cons_succ]
            refine wpAnyH_take (i := 17) (oi := { dst := some 37, op := Op.fieldAddr 39 (Operand.tmp 36) 5, type := _, pos := _, after := _, guard := none }) (v := ?_) rfl (by kernel_rfl) (by kernel_rfl) (by kernel_rfl) (fun _ _ _ h => h) (Or.inl ⟨by rfl, ?_⟩) (by assumption) ?_
            rotate_left
            · intro w hSw; (try dsimp only at hSw); go_simp; try with_reducible rfl
            try simp only [Act.put, List.setIfInBounds_toArray, List.set_cons_zero, List.set_cons_succ]
            refine wpAnyH_ready (rs := [18]) (by kernel_rfl) (by simp) ?_
            refine AllReadyH.cons (o := { dst := none, op := Op.store 36 (Operand.tmp 37) (Operand.tmp 35), type := _, pos := _, after := _, guard := none }) rfl (fun K hK => ?_) AllReadyH.nil
            go_simp
            refine hK.out _ _ (by exact HC3.out.2.2.1) (fun hHeld => ?_)
            clear hK K
            try simp only [Act.put, List.setIfInBounds_toArray, List.set_cons_zero, List.set_cons_succ]
            refine wpAnyH_done (by kernel_rfl) ?_ _
          case' legB1n1 =>
            intro K hK
            go_simp
            rw [← hX]
            refine hK.out _ _ (by exact HS1.out) (fun hHeld => ?_)
            clear hK K
            try simp only [Act.put, List.setIfInBounds_toArray, List.set_cons_zero, List.set_cons_succ]
            refine wpAnyH_ready (rs := [4]) (by kernel_rfl) (by simp) ?_
            refine AllReadyH.cons (o := { dst := some 24, op := Op.load 36 (Operand.tmp 23), type := _, pos := _, after := _, guard := none }) rfl (fun K hK => ?_) AllReadyH.nil
            go_simp
            first | rw [HC5.out] | rw [HC5b.out]
            go_simp
            try rw [← hX]
            refine hK.out _ _ (by first | exact HS0.out | exact HS1.out) (fun hHeld => ?_)
            clear hK K
            try simp only [Act.put, List.setIfInBounds_toArray, List.set_cons_zero, List.set_cons_succ]
            refine wpAnyH_ready (rs := [15]) (by kernel_rfl) (by simp) ?_
            refine AllReadyH.cons (o := { dst := some 35, op := Op.call { callee := Callee.builtin Builtin.append, args := #[Operand.tmp 24, Operand.tmp 34], argTypes := #[36, 36] }, type := _, pos := _, after := _, guard := none }) rfl (fun K hK => ?_) AllReadyH.nil
            rw [if_pos (by rfl)]
            try rw [← hX]
            refine wp_app X (.tmp 24) (.tmp 34) 36 rfl B 101 i0 _ 2 16 Try.underlying36 hi0 hz0 hz1 hz2 rfl (by decide) _ np pcs rfl HOX.out _ 1 1 [.int .i64 x, .int .i64 y] rfl (by rw [hX]; exact src_new2 wr (.int .i64 x) (.int .i64 y) 101) (by intro u hu; simp at hu; rcases hu with rfl | rfl <;> rfl) (by simp only [maxLen]; omega) (by omega) HBX.out ?_
            intro v' w' hown hgrow hat
            obtain ⟨A5, c5, rfl, -⟩ := own_arr hown
            have HC3 := hid (HC3f.out _ w' hown hgrow hat)
            have HC2b := hid HC3.out.1
            obtain ⟨u5, hu5, hf5⟩ := HC3.out.2.1
            clear hown hgrow hat
            refine hK.out _ _ (by exact HC2b.out) (fun hHeld => ?_)
            clear hK K
            try simp only [Act.put, List.setIfInBounds_toArray, List.set_cons_zero, List.set_cons_succ]
            refine wpAnyH_take (i := 16) (oi := { dst := some 36, op := Op.nilCheck (Operand.tmp 20), type := _, pos := _, after := _, guard := none }) (v := ?_) rfl (by kernel_rfl) (by kernel_rfl) (by kernel_rfl) (fun _ _ _ h => h) (Or.inl ⟨by rfl, ?_⟩) (by assumption) ?_
            rotate_left
            · intro w hSw; (try dsimp only at hSw); go_simp; try with_reducible rfl
            try simp only [Act.put, List.setIfInBounds_toArray, List.set_cons_zero, List.set_cons_succ]
            refine wpAnyH_take (i := 17) (oi := { dst := some 37, op := Op.fieldAddr 39 (Operand.tmp 36) 5, type := _, pos := _, after := _, guard := none }) (v := ?_) rfl (by kernel_rfl) (by kernel_rfl) (by kernel_rfl) (fun _ _ _ h => h) (Or.inl ⟨by rfl, ?_⟩) (by assumption) ?_
            rotate_left
            · intro w hSw; (try dsimp only at hSw); go_simp; try with_reducible rfl
            try simp only [Act.put, List.setIfInBounds_toArray, List.set_cons_zero, List.set_cons_succ]
            refine wpAnyH_ready (rs := [18]) (by kernel_rfl) (by simp) ?_
            refine AllReadyH.cons (o := { dst := none, op := Op.store 36 (Operand.tmp 37) (Operand.tmp 35), type := _, pos := _, after := _, guard := none }) rfl (fun K hK => ?_) AllReadyH.nil
            go_simp
            refine hK.out _ _ (by exact HC3.out.2.2.1) (fun hHeld => ?_)
            clear hK K
            try simp only [Act.put, List.setIfInBounds_toArray, List.set_cons_zero, List.set_cons_succ]
            refine wpAnyH_done (by kernel_rfl) ?_ _
          all_goals
            go_wp2_with fail
            go_roundw
            case rel => exact ⟨k + 1, by omega, by go_num, hid (by rw [HSN.out, ← List.append_assoc, ← HPS.out, ← HXY.out.1, ← HXY.out.2]; exact HC3.out.2.2.2)⟩
            case measure => simp [intOf]; omega
        · obtain rfl : k = m.length := by omega
          have HPN := hid (show PairAt w wr B a v1 v2 v5 H s (pairP (l.take (i + 1)) m) by rw [HROW.out]; have h := HP.out; rw [HPS.out, List.take_length] at h; exact h)
          go_wp2_with fail
          go_roundw
          case rel => exact ⟨i + 1, by omega, by go_num, HPN⟩
          case measure => simp [intOf]; omega
    · obtain rfl : i = l.length := by omega
      have HPF := hid (show PairAt w wr B a v1 v2 v5 H s (pairP l m) by have h := HP.out; rw [List.take_length] at h; exact h)
      go_wp2_with fail
      go_end0
      exact ⟨rfl, HPF.out⟩
end Go.Proofs.Ythdhbkngbmjjkaa
namespace Go.Proofs.Ythdhbkngbmjjkaa
/-- What a tree's walk may come to. -/
structure Bd (L c : Nat) (s : Rs) (r : Pt × Rs) : Prop where
  fst : r.1.fst.length ≤ L
  lst : r.1.lst.length ≤ L
  lv : r.2.lv.length ≤ s.lv.length + L
  of : r.2.of.length ≤ s.of.length + L
  prs : L ≤ 160 → r.2.prs.length + 25600 ≤ s.prs.length + 51200 * c
theorem pair_le {l m : List Int} (hl : l.length ≤ 160) (hm : m.length ≤ 160) : (pairP l m).length ≤ 25600 := by
  rw [pairP_len]
  have := Nat.mul_le_mul hl hm
  omega
/-- Kids, one after another. -/
theorem fold_bd {T : Type} {f : T → Rs → Pt × Rs} {n c : T → Nat} {kd : Int} : ∀ (l : List T), (∀ k ∈ l, ∀ s, Bd (n k) (c k) s (f k s)) → ∀ (o : Pt) (s : Rs) (a : Nat), o.fst.length ≤ a → o.lst.length ≤ a →
    (l.foldl (fun o k => stepK kd o.1 (f k o.2)) (o, s)).1.fst.length ≤ a + sumL n l ∧ (l.foldl (fun o k => stepK kd o.1 (f k o.2)) (o, s)).1.lst.length ≤ a + sumL n l ∧
    (l.foldl (fun o k => stepK kd o.1 (f k o.2)) (o, s)).2.lv.length ≤ s.lv.length + sumL n l ∧ (l.foldl (fun o k => stepK kd o.1 (f k o.2)) (o, s)).2.of.length ≤ s.of.length + sumL n l ∧
    (a + sumL n l ≤ 160 → (l.foldl (fun o k => stepK kd o.1 (f k o.2)) (o, s)).2.prs.length ≤ s.prs.length + 51200 * cntL c l)
  | [], _, o, s, a, h1, h2 => by simp [sumL, cntL, h1, h2]
  | k :: r, h, o, s, a, h1, h2 => by
    have hb := h k List.mem_cons_self s
    obtain ⟨q, hq⟩ : ∃ q, q = f k s := ⟨_, rfl⟩
    rw [← hq] at hb
    have key : (stepK kd o q).1.fst.length ≤ a + n k ∧ (stepK kd o q).1.lst.length ≤ a + n k ∧ (stepK kd o q).2.lv.length ≤ s.lv.length + n k ∧ (stepK kd o q).2.of.length ≤ s.of.length + n k ∧ (a + n k ≤ 160 → (stepK kd o q).2.prs.length ≤ s.prs.length + 51200 * c k) := by
      have b1 := hb.fst
      have b2 := hb.lst
      have b3 := hb.lv
      have b4 := hb.of
      unfold stepK
      split
      · refine ⟨?_, ?_, b3, b4, fun ha => ?_⟩
        · show (if o.emp = true then o.fst ++ q.1.fst else o.fst).length ≤ _
          split
          · rw [List.length_append]; omega
          · omega
        · show (if q.1.emp = true then o.lst ++ q.1.lst else q.1.lst).length ≤ _
          split
          · rw [List.length_append]; omega
          · omega
        · have b5 := hb.prs (by omega)
          have b6 := pair_le (l := o.lst) (m := q.1.fst) (by omega) (by omega)
          show (q.2.prs ++ pairP o.lst q.1.fst).length ≤ _
          rw [List.length_append]; omega
      · refine ⟨by show (o.fst ++ q.1.fst).length ≤ _; rw [List.length_append]; omega, by show (o.lst ++ q.1.lst).length ≤ _; rw [List.length_append]; omega, b3, b4, fun ha => by have b5 := hb.prs (by omega); show q.2.prs.length ≤ _; omega⟩
    obtain ⟨k1, k2, k3, k4, k5⟩ := key
    obtain ⟨i1, i2, i3, i4, i5⟩ := fold_bd (kd := kd) r (fun x hx => h x (List.mem_cons_of_mem _ hx)) (stepK kd o q).1 (stepK kd o q).2 (a + n k) k1 k2
    simp only [List.foldl_cons, sumL, cntL]
    rw [← hq]
    rw [show ((stepK kd o q).1, (stepK kd o q).2) = stepK kd o q from rfl] at i1 i2 i3 i4 i5
    exact ⟨by omega, by omega, by omega, by omega, fun ha => by have := i5 (by omega); have := k5 (by omega); omega⟩
theorem look_bd : ∀ (d : Nat) (t : Tr d) (of : Int) (s : Rs), Bd (leavesT d t) (cnt d t) s (lookP d t of s)
  | 0, t, _, _ => t.elim
  | d + 1, t, of, s => by
    have ih := fun (k : Tr d) (_ : k ∈ Tr.kids t) (s : Rs) => look_bd d k of s
    have hc : cnt (d + 1) t = 1 + cntL (fun k => cnt d k) (Tr.kids t) := rfl
    simp only [lookP]
    by_cases h9 : Tr.kind t = 9
    · rw [if_pos h9]
      exact ⟨Nat.zero_le _, Nat.zero_le _, by simp, by simp, fun _ => by show s.prs.length + 25600 ≤ _; omega⟩
    rw [if_neg h9]
    by_cases hk : (Tr.kids t).length = 0
    · have hl : leavesT (d + 1) t = 1 := by simp only [leavesT]; rw [if_pos ⟨hk, h9⟩]
      rw [if_pos hk, hl]
      exact ⟨by simp, by simp, by simp, by simp, fun _ => by show s.prs.length + 25600 ≤ _; omega⟩
    · have hl : leavesT (d + 1) t = sumL (fun k => leavesT d k) (Tr.kids t) := by simp only [leavesT]; rw [if_neg fun h => hk h.1]
      rw [if_neg hk, hl, hc]
      obtain ⟨i1, i2, i3, i4, i5⟩ := fold_bd (n := fun k => leavesT d k) (c := fun k => cnt d k) (kd := Tr.kind t) (Tr.kids t) ih ⟨decide (Tr.kind t = 4), [], []⟩ s 0 (Nat.zero_le _) (Nat.zero_le _)
      rw [Nat.zero_add] at i1 i2
      obtain ⟨r, hr⟩ : ∃ r, r = (Tr.kids t).foldl (fun o k => stepK (Tr.kind t) o.1 (lookP d k of o.2)) (⟨decide (Tr.kind t = 4), [], []⟩, s) := ⟨_, rfl⟩
      rw [← hr] at i1 i2 i3 i4 i5 ⊢
      unfold endK
      split
      · refine ⟨i1, i2, i3, i4, fun ha => ?_⟩
        have b5 := i5 (by omega)
        have b6 := pair_le (l := r.1.lst) (m := r.1.fst) (by omega) (by omega)
        show (r.2.prs ++ pairP r.1.lst r.1.fst).length + 25600 ≤ _
        rw [List.length_append]; omega
      · exact ⟨i1, i2, i3, i4, fun ha => by have b5 := i5 (by omega); show r.2.prs.length + 25600 ≤ _; omega⟩
/-- Room for a tree's walk. -/
def Room (d : Nat) (t : Tr d) (s : Rs) : Prop := leavesT d t ≤ 160 ∧ s.lv.length + leavesT d t ≤ 1000 ∧ s.of.length + leavesT d t ≤ 1000 ∧ s.prs.length + 51200 * cnt d t ≤ 20000000
theorem sumL_take {T : Type} (f : T → Nat) : ∀ (l : List T) (i : Nat) (k : T), l[i]? = some k → sumL f (l.take i) + f k ≤ sumL f l
  | [], i, k, h => by simp at h
  | x :: r, 0, k, h => by simp at h; subst h; simp [sumL]
  | x :: r, i + 1, k, h => by
    have := sumL_take f r i k (by simpa using h)
    simp only [List.take_succ_cons, sumL]; omega
theorem cntL_take {T : Type} (f : T → Nat) : ∀ (l : List T) (i : Nat) (k : T), l[i]? = some k → cntL f (l.take i) + f k ≤ cntL f l
  | [], i, k, h => by simp at h
  | x :: r, 0, k, h => by simp at h; subst h; simp [cntL]
  | x :: r, i + 1, k, h => by
    have := cntL_take f r i k (by simpa using h)
    simp only [List.take_succ_cons, cntL]; omega
/-- So far in a tree's walk. -/
def foldK (d : Nat) (t : Tr (d + 1)) (of : Int) (s : Rs) (i : Nat) : Pt × Rs := ((Tr.kids t).take i).foldl (fun o k => stepK (Tr.kind t) o.1 (lookP d k of o.2)) (⟨decide (Tr.kind t = 4), [], []⟩, s)
theorem foldK_succ {d : Nat} {t : Tr (d + 1)} {of : Int} {s : Rs} {i : Nat} {k : Tr d} (h : (Tr.kids t)[i]? = some k) : foldK d t of s (i + 1) = stepK (Tr.kind t) (foldK d t of s i).1 (lookP d k of (foldK d t of s i).2) := by
  unfold foldK
  obtain ⟨hi, e⟩ := List.getElem?_eq_some_iff.1 h
  rw [List.take_succ_eq_append_getElem hi, List.foldl_append, e]
  rfl
theorem foldK_look {d : Nat} {t : Tr (d + 1)} {of : Int} {s : Rs} (h9 : Tr.kind t ≠ 9) (hk : (Tr.kids t).length ≠ 0) : lookP (d + 1) t of s = endK (Tr.kind t) (foldK d t of s (Tr.kids t).length) := by
  simp only [lookP, foldK]
  rw [if_neg h9, if_neg hk, List.take_length]
theorem foldK_bd {d : Nat} {t : Tr (d + 1)} {of : Int} {s : Rs} {i : Nat} {k : Tr d} (hR : Room (d + 1) t s) (hk : (Tr.kids t)[i]? = some k) : Room d k (foldK d t of s i).2 ∧ (foldK d t of s i).1.fst.length + (lookP d k of (foldK d t of s i).2).1.fst.length ≤ 160 ∧
    (foldK d t of s i).1.lst.length + (lookP d k of (foldK d t of s i).2).1.lst.length ≤ 160 ∧ (lookP d k of (foldK d t of s i).2).2.prs.length ≤ 20000000 := by
  have hi := (List.getElem?_eq_some_iff.1 hk).1
  have hl : leavesT (d + 1) t = sumL (fun k => leavesT d k) (Tr.kids t) := by simp only [leavesT]; rw [if_neg fun h => by omega]
  have hc : cnt (d + 1) t = 1 + cntL (fun k => cnt d k) (Tr.kids t) := rfl
  obtain ⟨r1, r2, r3, r4⟩ := hR
  rw [hl] at r1 r2 r3
  rw [hc] at r4
  have s1 := sumL_take (fun k => leavesT d k) _ _ _ hk
  have s2 := cntL_take (fun k => cnt d k) _ _ _ hk
  obtain ⟨i1, i2, i3, i4, i5⟩ := fold_bd (n := fun k => leavesT d k) (c := fun k => cnt d k) (kd := Tr.kind t) ((Tr.kids t).take i) (fun (k : Tr d) _ s => look_bd d k of s) ⟨decide (Tr.kind t = 4), [], []⟩ s 0 (Nat.zero_le _) (Nat.zero_le _)
  rw [Nat.zero_add] at i1 i2
  have e : ((Tr.kids t).take i).foldl (fun o k => stepK (Tr.kind t) o.1 (lookP d k of o.2)) (⟨decide (Tr.kind t = 4), [], []⟩, s) = foldK d t of s i := rfl
  rw [e] at i1 i2 i3 i4 i5
  have hb := look_bd d k of (foldK d t of s i).2
  have b1 := hb.fst
  have b2 := hb.lst
  have b5 := hb.prs (by omega)
  have i6 := i5 (by omega)
  exact ⟨⟨by omega, by omega, by omega, by omega⟩, by omega, by omega, by omega⟩
theorem foldK_end {d : Nat} {t : Tr (d + 1)} {of : Int} {s : Rs} (hR : Room (d + 1) t s) (hk : (Tr.kids t).length ≠ 0) : (foldK d t of s (Tr.kids t).length).1.fst.length ≤ 160 ∧ (foldK d t of s (Tr.kids t).length).1.lst.length ≤ 160 ∧ (foldK d t of s (Tr.kids t).length).2.prs.length ≤ 20000000 := by
  have hl : leavesT (d + 1) t = sumL (fun k => leavesT d k) (Tr.kids t) := by simp only [leavesT]; rw [if_neg fun h => hk h.1]
  have hc : cnt (d + 1) t = 1 + cntL (fun k => cnt d k) (Tr.kids t) := rfl
  obtain ⟨r1, r2, r3, r4⟩ := hR
  rw [hl] at r1
  rw [hc] at r4
  obtain ⟨i1, i2, i3, i4, i5⟩ := fold_bd (n := fun k => leavesT d k) (c := fun k => cnt d k) (kd := Tr.kind t) (Tr.kids t) (fun (k : Tr d) _ s => look_bd d k of s) ⟨decide (Tr.kind t = 4), [], []⟩ s 0 (Nat.zero_le _) (Nat.zero_le _)
  unfold foldK
  rw [List.take_length]
  have := i5 (by omega)
  exact ⟨by omega, by omega, by omega⟩
end Go.Proofs.Ythdhbkngbmjjkaa
namespace Go.Proofs.Ythdhbkngbmjjkaa
/-- The document's places, so far. -/
structure Mk8 where
  fst : List Int
  lst : List Int
  emp : Nat
  s : Rs
def makeI {d : Nat} (l : List (Tr d)) : Nat → Mk8
  | 0 => ⟨[], [], 0, ⟨[], [], []⟩⟩
  | i + 1 => match l[i]? with
    | some t => ⟨(makeI l i).fst ++ (lookP d t (i : Int) (makeI l i).s).1.fst, (makeI l i).lst ++ (lookP d t (i : Int) (makeI l i).s).1.lst, if (lookP d t (i : Int) (makeI l i).s).1.emp = true then (makeI l i).emp ||| 1 <<< i else (makeI l i).emp, (lookP d t (i : Int) (makeI l i).s).2⟩
    | none => makeI l i
theorem makeI_succ {d : Nat} {l : List (Tr d)} {i : Nat} {t : Tr d} (h : l[i]? = some t) : makeI l (i + 1) = ⟨(makeI l i).fst ++ (lookP d t (i : Int) (makeI l i).s).1.fst, (makeI l i).lst ++ (lookP d t (i : Int) (makeI l i).s).1.lst, if (lookP d t (i : Int) (makeI l i).s).1.emp = true then (makeI l i).emp ||| 1 <<< i else (makeI l i).emp, (lookP d t (i : Int) (makeI l i).s).2⟩ := by
  rw [makeI, h]
theorem leaves_cnt (d : Nat) (t : Tr d) : leavesT d t ≤ cnt d t := leavesT_le d t
structure MBd (L c : Nat) (m : Mk8) : Prop where
  fst : m.fst.length ≤ L
  lst : m.lst.length ≤ L
  lv : m.s.lv.length ≤ L
  of : m.s.of.length ≤ L
  prs : m.s.prs.length ≤ 51200 * c
theorem take_sum {T : Type} (f : T → Nat) (l : List T) (i : Nat) (t : T) (h : l[i]? = some t) : sumL f (l.take (i + 1)) = sumL f (l.take i) + f t := by
  obtain ⟨hi, e⟩ := List.getElem?_eq_some_iff.1 h
  rw [List.take_succ_eq_append_getElem hi, sumL_append, e]
  simp [sumL]
theorem cntL_append {T : Type} (f : T → Nat) : ∀ a b : List T, cntL f (a ++ b) = cntL f a + cntL f b
  | [], b => by simp [cntL]
  | x :: r, b => by simp only [List.cons_append, cntL]; rw [cntL_append f r b]; omega
theorem take_cnt {T : Type} (f : T → Nat) (l : List T) (i : Nat) (t : T) (h : l[i]? = some t) : cntL f (l.take (i + 1)) = cntL f (l.take i) + f t := by
  obtain ⟨hi, e⟩ := List.getElem?_eq_some_iff.1 h
  rw [List.take_succ_eq_append_getElem hi, cntL_append, e]
  simp [cntL]
theorem makeI_bd {d : Nat} {l : List (Tr d)} (h : cntE d l ≤ 160) : ∀ i, i ≤ l.length → MBd (sumL (fun t => leavesT d t) (l.take i)) (cntL (fun t => cnt d t) (l.take i)) (makeI l i)
  | 0, _ => ⟨Nat.zero_le _, Nat.zero_le _, Nat.zero_le _, Nat.zero_le _, Nat.zero_le _⟩
  | i + 1, hi => by
    have ht : l[i]? = some l[i] := List.getElem?_eq_getElem (by omega)
    have ih := makeI_bd h i (by omega)
    have hb := look_bd d l[i] (i : Int) (makeI l i).s
    have e1 := take_sum (fun t => leavesT d t) l i _ ht
    have e2 := take_cnt (fun t => cnt d t) l i _ ht
    have e3 : leavesT d l[i] ≤ 160 := by
      have h1 := leaves_cnt d l[i]
      have h2 := cntL_mem (f := fun t => cnt d t) (List.getElem_mem (show i < l.length by omega))
      unfold cntE at h
      omega
    rw [makeI_succ ht, e1, e2]
    have b1 := ih.fst
    have b2 := ih.lst
    have b3 := ih.lv
    have b4 := ih.of
    have b5 := ih.prs
    have c1 := hb.fst
    have c2 := hb.lst
    have c3 := hb.lv
    have c4 := hb.of
    have c5 := hb.prs e3
    exact ⟨by dsimp only; rw [List.length_append]; omega, by dsimp only; rw [List.length_append]; omega, by dsimp only; omega, by dsimp only; omega, by dsimp only; omega⟩
/-- Room for the next expression. -/
theorem makeI_room {d : Nat} {l : List (Tr d)} (h : cntE d l ≤ 160) {i : Nat} {t : Tr d} (ht : l[i]? = some t) : Room d t (makeI l i).s ∧ (makeI l i).fst.length + (lookP d t (i : Int) (makeI l i).s).1.fst.length ≤ 160 ∧ (makeI l i).lst.length + (lookP d t (i : Int) (makeI l i).s).1.lst.length ≤ 160 := by
  have hi := (List.getElem?_eq_some_iff.1 ht).1
  have hb := makeI_bd h i (by omega)
  have s1 := sumL_take (fun t => leavesT d t) _ _ _ ht
  have s2 := cntL_take (fun t => cnt d t) _ _ _ ht
  have s3 := sumL_le (f := fun t => leavesT d t) (c := fun t => cnt d t) (fun k => leaves_cnt d k) l
  have lb := look_bd d t (i : Int) (makeI l i).s
  have b1 := hb.fst
  have b2 := hb.lst
  have b3 := hb.lv
  have b4 := hb.of
  have b5 := hb.prs
  have c1 := lb.fst
  have c2 := lb.lst
  unfold cntE at h
  exact ⟨⟨by omega, by omega, by omega, by omega⟩, by omega, by omega⟩
theorem makeI_emp {d : Nat} (l : List (Tr d)) : ∀ i, (makeI l i).emp < 2 ^ i
  | 0 => by simp [makeI]
  | i + 1 => by
    have ih := makeI_emp l i
    have h2 : (2 : Nat) ^ i < 2 ^ (i + 1) := Nat.pow_lt_pow_right (by decide) (by omega)
    cases h : l[i]? with
    | none => rw [makeI, h]; exact Nat.lt_trans ih h2
    | some t =>
      rw [makeI_succ h]
      dsimp only
      split
      · exact Nat.or_lt_two_pow (Nat.lt_trans ih h2) (by rw [Nat.one_shiftLeft]; exact h2)
      · exact Nat.lt_trans ih h2
end Go.Proofs.Ythdhbkngbmjjkaa
