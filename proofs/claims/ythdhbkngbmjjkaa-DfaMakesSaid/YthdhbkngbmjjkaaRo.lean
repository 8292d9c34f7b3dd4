/- The document's walk over a tree. Conditions: not too many leaves. -/
import Derived.Test.YthdhbkngbmjjkaaRn
import Derived.Test.YthdhbkngbmjjkaaRp
namespace Go.Proofs.Ythdhbkngbmjjkaa
open Go.RowKit
set_option linter.unusedSimpArgs false
/-- A part in memory; its lists lie in none of some blocks. -/
def Part (w : World) (T : Nat → Prop) (q : Nat) (pt : Pt) : Prop :=
  ∃ F L, w.heap[q]? = some (.cells #[.bool pt.emp, F, L] 95 (0, 0)) ∧ IsNums .i64 w (fun b => ¬ T b) F pt.fst ∧ IsNums .i64 w (fun b => ¬ T b) L pt.lst
theorem nums_past {w w' : World} {T T' K : Nat → Prop} {v : Value} {l : List Int} (h : IsNums .i64 w (fun b => ¬ T b) v l) (k : Keeps K w w') (hK : ∀ b, b < w.heap.size → K b → T b) (hT : ∀ b, T' b → T b ∨ w.heap.size ≤ b) : IsNums .i64 w' (fun b => ¬ T' b) v l :=
  (k.nums (h.mono (S' := fun b => ¬ T b ∧ b < w.heap.size) fun b h1 h2 => ⟨h1, h2⟩) fun b hb hlt e => hb.1 (hK b hlt e)).mono fun b hb _ e => by
    rcases hT b e with e | e
    · exact hb.1 e
    · omega
theorem Part.past {w w' : World} {T T' K : Nat → Prop} {q : Nat} {pt : Pt} (h : Part w T q pt) (k : Keeps K w w') (hK : ∀ b, b < w.heap.size → K b → T b) (hq : ¬ K q) (hT : ∀ b, T' b → T b ∨ w.heap.size ≤ b) : Part w' T' q pt := by
  obtain ⟨F, L, h1, h2, h3⟩ := h
  exact ⟨F, L, (k.2 q (Array.getElem?_eq_some_iff.1 h1).1 hq).trans h1, nums_past h2 k hK hT, nums_past h3 k hK hT⟩
theorem nums_set {w : World} {T : Nat → Prop} {v : Value} {l : List Int} (h : IsNums .i64 w (fun b => ¬ T b) v l) {q : Nat} (hq : T q) (j : Nat) (u : Value) : IsNums .i64 (w.setCell ⟨q, j, none⟩ u) (fun b => ¬ T b) v l :=
  h.keep fun _ hb _ => heap_setCell_other _ _ _ _ fun e => hb (e ▸ hq)
theorem Part.other {w : World} {T : Nat → Prop} {q p : Nat} {pt : Pt} (h : Part w T p pt) (hq : T q) (hpq : p ≠ q) (j : Nat) (u : Value) : Part (w.setCell ⟨q, j, none⟩ u) T p pt := by
  obtain ⟨F, L, h1, h2, h3⟩ := h
  exact ⟨F, L, (heap_setCell_other _ _ _ _ hpq).trans h1, nums_set h2 hq _ _, nums_set h3 hq _ _⟩
theorem Part.setE {w : World} {T : Nat → Prop} {q : Nat} {pt : Pt} (h : Part w T q pt) (hq : T q) (e : Bool) : Part (w.setCell ⟨q, 0, none⟩ (.bool e)) T q ⟨e, pt.fst, pt.lst⟩ := by
  obtain ⟨F, L, h1, h2, h3⟩ := h
  exact ⟨F, L, heap_setCell_same w q 0 _ 95 _ h1, nums_set h2 hq _ _, nums_set h3 hq _ _⟩
theorem Part.setF {w : World} {T : Nat → Prop} {q : Nat} {pt : Pt} {F' : Value} {l : List Int} (h : Part w T q pt) (hq : T q) (hF : IsNums .i64 w (fun b => ¬ T b) F' l) : Part (w.setCell ⟨q, 1, none⟩ F') T q ⟨pt.emp, l, pt.lst⟩ := by
  obtain ⟨F, L, h1, h2, h3⟩ := h
  exact ⟨F', L, heap_setCell_same w q 1 _ 95 _ h1, nums_set hF hq _ _, nums_set h3 hq _ _⟩
theorem Part.setL {w : World} {T : Nat → Prop} {q : Nat} {pt : Pt} {L' : Value} {l : List Int} (h : Part w T q pt) (hq : T q) (hL : IsNums .i64 w (fun b => ¬ T b) L' l) : Part (w.setCell ⟨q, 2, none⟩ L') T q ⟨pt.emp, pt.fst, l⟩ := by
  obtain ⟨F, L, h1, h2, h3⟩ := h
  exact ⟨F, L', heap_setCell_same w q 2 _ 95 _ h1, nums_set h2 hq _ _, nums_set hL hq _ _⟩
/-- The blocks that are written, and two boxes. -/
def TT (a : Nat) (v1 v2 v5 : Value) (q p : Nat) (b : Nat) : Prop := Tch a v1 v2 v5 b ∨ b ≤ q ∨ b = p
/-- In the midst of a walk: the notes, the part so far at q, a kid's part at p. -/
def LkS (W wr : World) (B a : Nat) (v1 v2 v5 : Value) (H : Value × Value × Value × Value) (q p : Nat) (s : Rs) (out pt : Pt) : Prop :=
  ∃ u1 u2 u5, RA wr B a u1 u2 u5 H s ∧ Part wr (TT a u1 u2 u5 q p) q out ∧ Part wr (TT a u1 u2 u5 q p) p pt ∧ Keeps (fun b => Tch a v1 v2 v5 b ∨ b = q) W wr ∧ (∀ b, Tch a u1 u2 u5 b → Tch a v1 v2 v5 b ∨ W.heap.size ≤ b) ∧ q ≠ p ∧ ¬ Tch a u1 u2 u5 q ∧ ¬ Tch a u1 u2 u5 p ∧ W.heap.size ≤ p ∧ q < W.heap.size
/-- At a round's head: the notes, and the part so far. -/
def LkH (W wr : World) (B a : Nat) (v1 v2 v5 : Value) (H : Value × Value × Value × Value) (q : Nat) (s : Rs) (out : Pt) : Prop :=
  ∃ u1 u2 u5, RA wr B a u1 u2 u5 H s ∧ Part wr (TT a u1 u2 u5 q q) q out ∧ Keeps (fun b => Tch a v1 v2 v5 b ∨ b = q) W wr ∧ (∀ b, Tch a u1 u2 u5 b → Tch a v1 v2 v5 b ∨ W.heap.size ≤ b) ∧ ¬ Tch a u1 u2 u5 q ∧ q < W.heap.size
section
variable {W wr w' : World} {B a q p : Nat} {v1 v2 v5 : Value} {H : Value × Value × Value × Value} {s : Rs} {out pt : Pt}
theorem LkS.head (h : LkS W wr B a v1 v2 v5 H q p s out pt) : LkH W wr B a v1 v2 v5 H q s out := by
  obtain ⟨u1, u2, u5, h1, ⟨F, L, h2, h3, h4⟩, h5, h6, h7, h8, h9, h10, h11, h12⟩ := h
  exact ⟨u1, u2, u5, h1, ⟨F, L, h2, h3.mono fun b hb _ e => hb (e.imp id fun e => .inl (by omega)), h4.mono fun b hb _ e => hb (e.imp id fun e => .inl (by omega))⟩, h6, h7, h9, h12⟩
theorem LkS.below (h : LkS W wr B a v1 v2 v5 H q p s out pt) (hb : Below wr.heap.size wr w') : LkS W w' B a v1 v2 v5 H q p s out pt := by
  obtain ⟨u1, u2, u5, h1, h2, h3, h4, h5, h6, h7, h8, h9, h10⟩ := h
  have k : Keeps (fun _ => False) wr w' := Keeps.of_below hb
  exact ⟨u1, u2, u5, h1.below hb, h2.past k (fun b _ e => e.elim) (fun e => e) (fun b e => .inl e), h3.past k (fun b _ e => e.elim) (fun e => e) (fun b e => .inl e), h4.trans k fun b e => e.elim, h5, h6, h7, h8, h9, h10⟩
theorem LkH.below (h : LkH W wr B a v1 v2 v5 H q s out) (hb : Below wr.heap.size wr w') : LkH W w' B a v1 v2 v5 H q s out := by
  obtain ⟨u1, u2, u5, h1, h2, h4, h5, h7, h10⟩ := h
  have k : Keeps (fun _ => False) wr w' := Keeps.of_below hb
  exact ⟨u1, u2, u5, h1.below hb, h2.past k (fun b _ e => e.elim) (fun e => e) (fun b e => .inl e), h4.trans k fun b e => e.elim, h5, h7, h10⟩
/-- Behind a kid's walk, and its box. -/
theorem LkH.kid {w1 w2 : World} {u1 u2 u5 n1 n2 n5 F L : Value} {r : Pt × Rs} (hW : Keeps (fun b => Tch a v1 v2 v5 b ∨ b = q) W wr) (hG : ∀ b, Tch a u1 u2 u5 b → Tch a v1 v2 v5 b ∨ W.heap.size ≤ b) (hO : Part wr (TT a u1 u2 u5 q q) q out) (hq : ¬ Tch a u1 u2 u5 q) (hqW : q < W.heap.size)
    (hR : RA w1 B a n1 n2 n5 H r.2) (hk : Keeps (Tch a u1 u2 u5) wr w1) (hg : ∀ b, Tch a n1 n2 n5 b → Tch a u1 u2 u5 b ∨ wr.heap.size ≤ b) (hF : IsNums .i64 w1 (fun b => ¬ Tch a n1 n2 n5 b ∧ wr.heap.size ≤ b) F r.1.fst) (hL : IsNums .i64 w1 (fun b => ¬ Tch a n1 n2 n5 b ∧ wr.heap.size ≤ b) L r.1.lst)
    (h2 : w2 = w1.alloc (.cells #[.bool r.1.emp, F, L] 95)) : LkS W w2 B a v1 v2 v5 H q w1.heap.size r.2 out r.1 := by
  have hb2 : Below w1.heap.size w1 w2 := by rw [h2]; exact (Below.refl _ _).alloc (Nat.le_refl _) _
  have k2 : Keeps (fun _ => False) w1 w2 := Keeps.of_below hb2
  have hlt := hR.lt
  have hqlt : q < wr.heap.size := Nat.lt_of_lt_of_le hqW hW.1.size
  have hnq : ¬ Tch a n1 n2 n5 q := fun e => by rcases hg q e with e | e; exact hq e; omega
  have hww := hk.1.size
  refine ⟨n1, n2, n5, hR.below hb2, ?_, ⟨F, L, by rw [h2]; exact heap_alloc_new _ _, ?_, ?_⟩, ?_, fun b e => ?_, by omega, hnq, fun e => by have := (hlt _ e).2; omega, Nat.le_trans hW.1.size hww, hqW⟩
  · refine hO.past (hk.trans k2 fun b e => e.elim) (fun b _ e => .inl e) hq fun b e => ?_
    rcases e with e | e | e
    · exact (hg b e).imp .inl id
    · exact .inl (.inr (.inl e))
    · exact .inr (by omega)
  · exact ((k2.nums (hF.mono (S' := fun b => (¬ Tch a n1 n2 n5 b ∧ wr.heap.size ≤ b) ∧ b < w1.heap.size) fun b h1 h2 => ⟨h1, h2⟩) fun b _ _ e => e)).mono fun b hb _ e => by
      rcases e with e | e | e
      · exact hb.1.1 e
      · have := hb.1.2; omega
      · have := hb.2; omega
  · exact ((k2.nums (hL.mono (S' := fun b => (¬ Tch a n1 n2 n5 b ∧ wr.heap.size ≤ b) ∧ b < w1.heap.size) fun b h1 h2 => ⟨h1, h2⟩) fun b _ _ e => e)).mono fun b hb _ e => by
      rcases e with e | e | e
      · exact hb.1.1 e
      · have := hb.1.2; omega
      · have := hb.2; omega
  · exact (hW.trans hk fun b e => (hG b e).imp .inl id).trans k2 fun b e => e.elim
  · rcases hg b e with e | e
    · exact hG b e
    · exact .inr (Nat.le_trans hW.1.size e)
/-- Some pairs more. -/
theorem LkS.pair {u1 u2 u5 : Value} {ps : List (Int × Int)} (hO : Part wr (TT a u1 u2 u5 q p) q out) (hP : Part wr (TT a u1 u2 u5 q p) p pt) (hK : Keeps (fun b => Tch a v1 v2 v5 b ∨ b = q) W wr) (hG : ∀ b, Tch a u1 u2 u5 b → Tch a v1 v2 v5 b ∨ W.heap.size ≤ b) (hqp : q ≠ p) (hq : ¬ Tch a u1 u2 u5 q) (hp : ¬ Tch a u1 u2 u5 p) (hpW : W.heap.size ≤ p) (hqW : q < W.heap.size)
    (hA : PairAt wr w' B a u1 u2 u5 H s ps) : LkS W w' B a v1 v2 v5 H q p ⟨s.lv, s.of, s.prs ++ ps⟩ out pt := by
  obtain ⟨n5, r1, r2, r3⟩ := hA
  obtain ⟨F, L, e1, -, -⟩ := id hO
  obtain ⟨F', L', e2, -, -⟩ := id hP
  have hqlt := (Array.getElem?_eq_some_iff.1 e1).1
  have hplt := (Array.getElem?_eq_some_iff.1 e2).1
  have hT : ∀ b, TT a u1 u2 n5 q p b → TT a u1 u2 u5 q p b ∨ wr.heap.size ≤ b := fun b e => by
    rcases e with e | e
    · exact (r3 b e).imp .inl id
    · exact .inl (.inr e)
  exact ⟨u1, u2, n5, r1, hO.past r2 (fun b _ e => .inl e) hq hT, hP.past r2 (fun b _ e => .inl e) hp hT, hK.trans r2 fun b e => (hG b e).imp .inl id, fun b e => by
    rcases r3 b e with e | e
    · exact hG b e
    · exact .inr (Nat.le_trans hK.1.size e), hqp, fun e => by rcases r3 q e with e | e; exact hq e; omega, fun e => by rcases r3 p e with e | e; exact hp e; omega, hpW, hqW⟩
theorem LkS.setE (h : LkS W wr B a v1 v2 v5 H q p s out pt) (e : Bool) : LkS W (wr.setCell ⟨q, 0, none⟩ (.bool e)) B a v1 v2 v5 H q p s ⟨e, out.fst, out.lst⟩ pt := by
  obtain ⟨u1, u2, u5, h1, h2, h3, h4, h5, h6, h7, h8, h9, h10⟩ := h
  exact ⟨u1, u2, u5, h1.other h7 _ _, h2.setE (.inr (.inl (Nat.le_refl _))) e, h3.other (.inr (.inl (Nat.le_refl _))) (Ne.symm h6) _ _, h4.set (.inr (.inr rfl)) _ _, h5, h6, h7, h8, h9, h10⟩
/-- A list made behind, for what stands at q. -/
theorem LkS.fresh {w0 : World} {V : Value} {l : List Int} (h : LkS W w0 B a v1 v2 v5 H q p s out pt) (hb : Below w0.heap.size w0 wr) (hV : IsNums .i64 wr (fun b => w0.heap.size ≤ b) V l) :
    LkS W (wr.setCell ⟨q, 1, none⟩ V) B a v1 v2 v5 H q p s ⟨out.emp, l, out.lst⟩ pt ∧ LkS W (wr.setCell ⟨q, 2, none⟩ V) B a v1 v2 v5 H q p s ⟨out.emp, out.fst, l⟩ pt := by
  obtain ⟨F', L', e2, -, -⟩ := h.choose_spec.choose_spec.choose_spec.2.2.1
  have hplt := (Array.getElem?_eq_some_iff.1 e2).1
  have hlt := h.choose_spec.choose_spec.choose_spec.1.lt
  have hk := h.choose_spec.choose_spec.choose_spec.2.2.2.1.1.size
  obtain ⟨u1, u2, u5, h1, h2, h3, h4, h5, h6, h7, h8, h9, h10⟩ := h
  have hplt' : p < w0.heap.size := by
    obtain ⟨_, _, e2, -, -⟩ := id h3
    exact (Array.getElem?_eq_some_iff.1 e2).1
  have hlt' := h1.lt
  have hh : LkS W wr B a v1 v2 v5 H q p s out pt := LkS.below ⟨u1, u2, u5, h1, h2, h3, h4, h5, h6, h7, h8, h9, h10⟩ hb
  have hb' := hb
  have hVT : IsNums .i64 wr (fun b => ¬ TT a u1 u2 u5 q p b) V l := hV.mono fun b hb _ e => by
    rcases e with e | e | e
    · have := (hlt' b e).2; omega
    · have := h4.1.size; omega
    · omega
  have k : Keeps (fun _ => False) w0 wr := Keeps.of_below hb'
  have g2 : Part wr (TT a u1 u2 u5 q p) q out := h2.past k (fun b _ e => e.elim) (fun e => e) (fun b e => .inl e)
  have g3 : Part wr (TT a u1 u2 u5 q p) p pt := h3.past k (fun b _ e => e.elim) (fun e => e) (fun b e => .inl e)
  have g4 := h4.trans k fun b e => e.elim
  exact ⟨⟨u1, u2, u5, (h1.below hb').other h7 _ _, g2.setF (.inr (.inl (Nat.le_refl _))) hVT, g3.other (.inr (.inl (Nat.le_refl _))) (Ne.symm h6) _ _, g4.set (.inr (.inr rfl)) _ _, h5, h6, h7, h8, h9, h10⟩,
    ⟨u1, u2, u5, (h1.below hb').other h7 _ _, g2.setL (.inr (.inl (Nat.le_refl _))) hVT, g3.other (.inr (.inl (Nat.le_refl _))) (Ne.symm h6) _ _, g4.set (.inr (.inr rfl)) _ _, h5, h6, h7, h8, h9, h10⟩⟩
/-- The kid's last ones become the part's. -/
theorem LkS.lastOf (h : LkS W wr B a v1 v2 v5 H q p s out pt) {Fp Lp : Value} (hc : wr.heap[p]? = some (.cells #[.bool pt.emp, Fp, Lp] 95 (0, 0))) : LkS W (wr.setCell ⟨q, 2, none⟩ Lp) B a v1 v2 v5 H q p s ⟨out.emp, out.fst, pt.lst⟩ pt := by
  obtain ⟨u1, u2, u5, h1, h2, h3, h4, h5, h6, h7, h8, h9, h10⟩ := h
  obtain ⟨F', L', e2, e3, e4⟩ := id h3
  have : L' = Lp := by
    rw [hc] at e2
    injection e2 with e2
    injection e2 with e2
    simp at e2
    exact e2.2.symm
  subst this
  exact ⟨u1, u2, u5, h1.other h7 _ _, h2.setL (.inr (.inl (Nat.le_refl _))) e4, h3.other (.inr (.inl (Nat.le_refl _))) (Ne.symm h6) _ _, h4.set (.inr (.inr rfl)) _ _, h5, h6, h7, h8, h9, h10⟩
theorem LkS.join2 {w0 : World} {V1 V2 : Value} {l1 l2 : List Int} (h : LkS W w0 B a v1 v2 v5 H q p s out pt) (hb : Below w0.heap.size w0 wr) (hV1 : IsNums .i64 wr (fun b => w0.heap.size ≤ b) V1 l1) (hV2 : IsNums .i64 wr (fun b => w0.heap.size ≤ b) V2 l2) (e : Bool) :
    LkS W (((wr.setCell ⟨q, 0, none⟩ (.bool e)).setCell ⟨q, 1, none⟩ V1).setCell ⟨q, 2, none⟩ V2) B a v1 v2 v5 H q p s ⟨e, l1, l2⟩ pt := by
  obtain ⟨u1, u2, u5, h1, h2, h3, h4, h5, h6, h7, h8, h9, h10⟩ := h
  have hplt : p < w0.heap.size := by
    obtain ⟨_, _, e2, -, -⟩ := id h3
    exact (Array.getElem?_eq_some_iff.1 e2).1
  have hlt := h1.lt
  have hT : ∀ {V : Value} {l : List Int}, IsNums .i64 wr (fun b => w0.heap.size ≤ b) V l → IsNums .i64 wr (fun b => ¬ TT a u1 u2 u5 q p b) V l := fun hV => hV.mono fun b hb _ e => by
    rcases e with e | e | e
    · have := (hlt b e).2; omega
    · have := h4.1.size; omega
    · omega
  have hqT : TT a u1 u2 u5 q p q := .inr (.inl (Nat.le_refl _))
  have k : Keeps (fun _ => False) w0 wr := Keeps.of_below hb
  have g2 : Part wr (TT a u1 u2 u5 q p) q out := h2.past k (fun b _ e => e.elim) (fun e => e) (fun b e => .inl e)
  have g3 : Part wr (TT a u1 u2 u5 q p) p pt := h3.past k (fun b _ e => e.elim) (fun e => e) (fun b e => .inl e)
  have g4 := h4.trans k fun b e => e.elim
  exact ⟨u1, u2, u5, (((h1.below hb).other h7 _ _).other h7 _ _).other h7 _ _, ((g2.setE hqT e).setF hqT (nums_set (hT hV1) hqT _ _)).setL hqT (nums_set (nums_set (hT hV2) hqT _ _) hqT _ _),
    ((g3.other hqT (Ne.symm h6) _ _).other hqT (Ne.symm h6) _ _).other hqT (Ne.symm h6) _ _, ((g4.set (.inr (.inr rfl)) _ _).set (.inr (.inr rfl)) _ _).set (.inr (.inr rfl)) _ _, h5, h6, h7, h8, h9, h10⟩
end
theorem sl_form {k : IntKind} {w : World} {S : Nat → Prop} {v : Value} {l : List Int} (h : IsNums k w S v l) : ∃ A n c, v = .slice A n c := by
  obtain ⟨A, c, e⟩ := h.form
  exact ⟨A, _, c, e⟩
theorem join_sl (S S' : Nat → Prop) (va vb : Value) (x y : List Int) (w : World) (ha : IsNums .i64 w S va x) (hb : IsNums .i64 w S' vb y) (hl : x.length + y.length ≤ 1000000) :
    Calls Try.prog 52 #[va, vb] w fun e w' => ∃ A n c, e = .returned (.slice A n c) ∧ IsNums .i64 w' (fun b => w.heap.size ≤ b) (.slice A n c) (x ++ y) ∧ Below w.heap.size w w' := by
  refine (join_any S S' va vb x y w ha hb hl).mono ?_
  rintro e w' ⟨v, rfl, hv, hb⟩
  obtain ⟨A, n, c, rfl⟩ := sl_form hv
  exact ⟨A, n, c, rfl, hv, hb⟩
theorem stepK_alt {kd : Int} (h : kd ≠ 4) (o : Pt) (r : Pt × Rs) : stepK kd o r = (⟨o.emp || r.1.emp, o.fst ++ r.1.fst, o.lst ++ r.1.lst⟩, r.2) := by unfold stepK; rw [if_neg h]
theorem stepK_seq {kd : Int} (h : kd = 4) (o : Pt) (r : Pt × Rs) : stepK kd o r = (⟨o.emp && r.1.emp, if o.emp = true then o.fst ++ r.1.fst else o.fst, if r.1.emp = true then o.lst ++ r.1.lst else r.1.lst⟩, ⟨r.2.lv, r.2.of, r.2.prs ++ pairP o.lst r.1.fst⟩) := by unfold stepK; rw [if_pos h]
section
variable {W wr w' : World} {B a q : Nat} {v1 v2 v5 : Value} {H : Value × Value × Value × Value} {s : Rs} {out : Pt}
theorem LkH.pair {u1 u2 u5 : Value} {ps : List (Int × Int)} (hO : Part wr (TT a u1 u2 u5 q q) q out) (hK : Keeps (fun b => Tch a v1 v2 v5 b ∨ b = q) W wr) (hG : ∀ b, Tch a u1 u2 u5 b → Tch a v1 v2 v5 b ∨ W.heap.size ≤ b) (hq : ¬ Tch a u1 u2 u5 q) (hqW : q < W.heap.size)
    (hA : PairAt wr w' B a u1 u2 u5 H s ps) : LkH W w' B a v1 v2 v5 H q ⟨s.lv, s.of, s.prs ++ ps⟩ out := by
  obtain ⟨n5, r1, r2, r3⟩ := hA
  obtain ⟨F, L, e1, -, -⟩ := id hO
  have hqlt := (Array.getElem?_eq_some_iff.1 e1).1
  have hT : ∀ b, TT a u1 u2 n5 q q b → TT a u1 u2 u5 q q b ∨ wr.heap.size ≤ b := fun b e => by
    rcases e with e | e
    · exact (r3 b e).imp .inl id
    · exact .inl (.inr e)
  exact ⟨u1, u2, n5, r1, hO.past r2 (fun b _ e => .inl e) hq hT, hK.trans r2 fun b e => (hG b e).imp .inl id, fun b e => by
    rcases r3 b e with e | e
    · exact hG b e
    · exact .inr (Nat.le_trans hK.1.size e), fun e => by rcases r3 q e with e | e; exact hq e; omega, hqW⟩
theorem LkH.setE (h : LkH W wr B a v1 v2 v5 H q s out) (e : Bool) : LkH W (wr.setCell ⟨q, 0, none⟩ (.bool e)) B a v1 v2 v5 H q s ⟨e, out.fst, out.lst⟩ := by
  obtain ⟨u1, u2, u5, h1, h2, h4, h5, h7, h10⟩ := h
  exact ⟨u1, u2, u5, h1.other h7 _ _, h2.setE (.inr (.inl (Nat.le_refl _))) e, h4.set (.inr (.inr rfl)) _ _, h5, h7, h10⟩
/-- The answer, laid at the result's place. -/
theorem LkH.ans {w : World} {q6 : Nat} {F L x y z : Value} (h : LkH W wr B a v1 v2 v5 H q s out) (hW : Below w.heap.size w W) (hc : wr.heap[q]? = some (.cells #[.bool out.emp, F, L] 95 (0, 0))) (hq6 : q6 < q) (h6 : w.heap.size ≤ q6) (hT : ∀ b, Tch a v1 v2 v5 b → b < q6) :
    LookAns w B a v1 v2 v5 H (out, s) (.returned (.agg #[.bool out.emp, F, L])) (((wr.setCell ⟨q6, 0, none⟩ x).setCell ⟨q6, 1, none⟩ y).setCell ⟨q6, 2, none⟩ z) := by
  obtain ⟨u1, u2, u5, h1, ⟨F', L', e2, h2, h3⟩, h4, h5, h7, h10⟩ := h
  obtain ⟨e3, e4⟩ : F' = F ∧ L' = L := by
    rw [hc] at e2
    injection e2 with e2
    injection e2 with e2
    simp at e2
    exact ⟨e2.1.symm, e2.2.symm⟩
  subst e3 e4
  have hn6 : ¬ Tch a u1 u2 u5 q6 := fun e => by
    rcases h5 q6 e with e | e
    · have := hT _ e; omega
    · omega
  have hk : Keeps (Tch a v1 v2 v5) w wr := (Keeps.of_below hW).trans h4 fun b e => by
    rcases e with e | e
    · exact .inl e
    · exact .inr (by omega)
  have hh : ∀ {V : Value} {l : List Int}, IsNums .i64 wr (fun b => ¬ TT a u1 u2 u5 q q b) V l → IsNums .i64 (((wr.setCell ⟨q6, 0, none⟩ x).setCell ⟨q6, 1, none⟩ y).setCell ⟨q6, 2, none⟩ z) (fun b => ¬ Tch a u1 u2 u5 b ∧ w.heap.size ≤ b) V l := fun {V l} hV => by
    have g := nums_set (nums_set (nums_set hV (q := q6) (.inr (.inl (by omega))) 0 x) (q := q6) (.inr (.inl (by omega))) 1 y) (q := q6) (.inr (.inl (by omega))) 2 z
    exact g.mono fun b hb _ => ⟨fun e => hb (.inl e), by
      have : ¬ b ≤ q := fun e => hb (.inr (.inl e))
      omega⟩
  exact ⟨_, _, u1, u2, u5, rfl, ((h1.other hn6 _ _).other hn6 _ _).other hn6 _ _, ((hk.set (.inl h6) _ _).set (.inl h6) _ _).set (.inl h6) _ _, fun b e => (h5 b e).imp id fun e => Nat.le_trans hW.size e, hh h2, hh h3⟩
end
/-- A kid's walk, by what is known of smaller trees. -/
def LookIH (B : Nat) (H : Value × Value × Value × Value) (d : Nat) : Prop := ∀ (t : Tr d) (v : Value) (of : Int) (s : Rs) (w : World) (a : Nat) (v1 v2 v5 : Value), RA w B a v1 v2 v5 H s → IsTr w (fun b => b < B) d v t → Room d t s →
  Calls Try.prog 51 #[.pointer (some ⟨a, 0, none⟩), v, .int .i64 of] w (LookAns w B a v1 v2 v5 H (lookP d t of s))
set_option maxRecDepth 100000 in
set_option maxHeartbeats 16000000 in
theorem look_alt {B : Nat} {H : Value × Value × Value × Value} {d : Nat} (ih : LookIH B H d) (t : Tr (d + 1)) (KA : Option Addr) (kn kc : Nat) (kd cl of : Int) (s : Rs) (w : World) (a : Nat) (v1 v2 v5 : Value) (hR : RA w B a v1 v2 v5 H s) (hkd : kd = Tr.kind t) (hkn : kn = (Tr.kids t).length) (hrow : Row3 (IsTr w (fun b => b < B) d) w (fun b => b < B) KA (Tr.kids t))
    (hRm : Room (d + 1) t s) (h9 : kd ≠ 9) (h4 : kd ≠ 4) (hk0 : kn ≠ 0) (hkl : kn ≤ 9223372036854775807) :
    Calls Try.prog 51 #[.pointer (some ⟨a, 0, none⟩), .agg #[.int .i64 kd, .int .i64 cl, .slice KA kn kc], .int .i64 of] w (LookAns w B a v1 v2 v5 H (endK kd (foldK d t of s kn))) := by
  have IH := hid ih
  have HKD := hid hkd
  have HKN := hid hkn
  have HRM := hid hRm
  have hB : B ≤ w.heap.size := by have := (hR.lt a (.inl rfl)); omega
  obtain ⟨q4, hq4⟩ : ∃ q4, q4 = w.heap.size := ⟨_, rfl⟩
  obtain ⟨q, hq⟩ : ∃ q, q = q4 + 2 := ⟨_, rfl⟩
  obtain ⟨b4, hb4, hb4v⟩ : ∃ b4, b4 = decide (kd = 4) ∧ b4 = false := ⟨_, rfl, decide_eq_false h4⟩
  obtain ⟨W, hW⟩ : ∃ W, W = ((w.alloc (.cells #[.int .i64 kd, .int .i64 cl, .slice KA kn kc] 48)).alloc (.cells #[.bool false, .slice none 0 0, .slice none 0 0] 95)).alloc (.cells #[.bool b4, .slice none 0 0, .slice none 0 0] 95) := ⟨_, rfl⟩
  have HWB := hid (show Below w.heap.size w W by rw [hW]; exact (((Below.refl _ _).alloc (Nat.le_refl _) _).alloc (by simp) _).alloc (by simp; omega) _)
  have hsz : W.heap.size = q4 + 3 := by rw [hW, hq4]; simp
  have HB4 := hid (show W.heap[q4]? = some (.cells #[.int .i64 kd, .int .i64 cl, .slice KA kn kc] 48 (0, 0)) by rw [hW, hq4, heap_alloc_old _ _ (by simp; omega), heap_alloc_old _ _ (by simp)]; exact heap_alloc_new _ _)
  have HB6 := hid (show W.heap[q4 + 1]? = some (.cells #[.bool false, .slice none 0 0, .slice none 0 0] 95 (0, 0)) by
    have h := heap_alloc_new (w.alloc (.cells #[.int .i64 kd, .int .i64 cl, .slice KA kn kc] 48)) (.cells #[.bool false, .slice none 0 0, .slice none 0 0] 95)
    rw [World.size_alloc] at h
    rw [hW, hq4, heap_alloc_old _ _ (by simp)]; exact h)
  have HB8 := hid (show W.heap[q]? = some (.cells #[.bool b4, .slice none 0 0, .slice none 0 0] 95 (0, 0)) by
    have h := heap_alloc_new ((w.alloc (.cells #[.int .i64 kd, .int .i64 cl, .slice KA kn kc] 48)).alloc (.cells #[.bool false, .slice none 0 0, .slice none 0 0] 95)) (.cells #[.bool b4, .slice none 0 0, .slice none 0 0] 95)
    rw [World.size_alloc, World.size_alloc] at h
    rw [hW, hq, hq4]; exact h)
  have HT := hid (show ∀ b, Tch a v1 v2 v5 b → B ≤ b ∧ b < q4 from fun b e => by rw [hq4]; exact hR.lt b e)
  have HROW := hid (hrow.below HWB.out)
  have HH0 := hid (show LkH W W B a v1 v2 v5 H q (foldK d t of s 0).2 (foldK d t of s 0).1 from by
    have e : foldK d t of s 0 = (⟨b4, [], []⟩, s) := by rw [hb4, HKD.out]; rfl
    rw [e]
    exact ⟨v1, v2, v5, hR.below HWB.out, ⟨_, _, HB8.out, nums_nil _ _, nums_nil _ _⟩, Keeps.refl _ _, fun b e => .inl e, fun e => by have := (HT.out _ e).2; omega, by omega⟩)
  have HKEEP := hid (show ∀ Y, Keeps (fun b => Tch a v1 v2 v5 b ∨ b = q) W Y → (Y.heap[q4]? = some (.cells #[.int .i64 kd, .int .i64 cl, .slice KA kn kc] 48 (0, 0)) ∧ Y.heap[q4 + 1]? = some (.cells #[.bool false, .slice none 0 0, .slice none 0 0] 95 (0, 0)) ∧ Row3 (IsTr Y (fun b => b < B) d) Y (fun b => b < B) KA (Tr.kids t)) from fun Y hY => by
    refine ⟨(hY.2 q4 (by omega) fun e => by rcases e with e | e; have := (HT.out _ e).2; omega; omega).trans HB4.out, (hY.2 (q4 + 1) (by omega) fun e => by rcases e with e | e; have := (HT.out _ e).2; omega; omega).trans HB6.out, HROW.out.keep fun b hb hlt => hY.2 b hlt fun e => ?_⟩
    have hb' : b < B := hb
    rcases e with e | e
    · have := (HT.out _ e).1; omega
    · omega)
  obtain ⟨f0, f1, f2, -⟩ := slot3 HB4.out
  have hne9 : (kd == 9) = false := ieq_false h9
  have hn0 : ((kn : Int) == 0) = false := ieq_false (by omega)
  have hkp : 0 < kn := by omega
  have HBQ := hid (show B ≤ q4 by omega)
  have HSZ := hid hsz
  have HQ4 := hid hq4
  have HR := hid hR
  have h4a : (kd == 4) = false := ieq_false h4
  have h4b : (kd != 4) = true := ine_true h4
  have H4 := hid h4
  subst hb4v
  have hq2 : q4 + 1 + 1 = q := by omega
  have HQB := hid (show w.heap.size ≤ q4 ∧ q4 + 2 = q ∧ q4 + 3 = W.heap.size from ⟨by omega, by omega, by omega⟩)
  clear hb4 h4 hkd hkn hRm hR hrow h9 hk0 ih hB hsz hq
  go_enter Try.func51, Try.ntmps51
  go_wp2_with fail
  rw [← hW, ← hq4, hq2]
  clear hW hq4 f0 f1 f2 hq2
  go_loopw [9] (fun s9 wr => ∃ (i : Nat), i ≤ kn ∧ s9 = .int .i64 i ∧ Hid (LkH W wr B a v1 v2 v5 H q (foldK d t of s i).2 (foldK d t of s i).1)) (fun s9 _ => kn - (intOf s9).toNat)
  case atStart => exact ⟨0, by omega, rfl, HH0⟩
  case round =>
    clear HH0
    obtain ⟨i, hi, rfl, HH⟩ := hrel
    obtain ⟨o, hoo⟩ : ∃ o, o = foldK d t of s i := ⟨_, rfl⟩
    have HO := hid hoo
    rw [← hoo] at HH
    obtain ⟨u1, u2, u5, r1, r2, r3, r4, r5, r6⟩ := HH.out
    obtain ⟨c4, c6, crow⟩ := HKEEP.out _ r3
    obtain ⟨f0, f1, f2, -⟩ := slot3 c4
    by_cases hlt : i < kn
    · have hik : i < (Tr.kids t).length := by rw [← HKN.out]; exact hlt
      obtain ⟨bl, ol, x0, x1, x2, rfl, -, -, k0, k1, k2, htr⟩ := crow.at (List.getElem?_eq_getElem hik)
      obtain ⟨e0, e1, KA2, nn2, cp2, rfl, rfl, rfl⟩ := htr.cells
      obtain ⟨kid, hkid⟩ : ∃ kid, kid = (Tr.kids t)[i] := ⟨_, rfl⟩
      rw [← hkid] at htr
      have hget : (Tr.kids t)[i]? = some kid := by rw [hkid]; exact List.getElem?_eq_getElem hik
      have hbd := foldK_bd (of := of) HRM.out hget
      rw [← hoo] at hbd
      obtain ⟨r, hr⟩ : ∃ r, r = lookP d kid of o.2 := ⟨_, rfl⟩
      have HSUCC := hid (show foldK d t of s (i + 1) = stepK kd o.1 r by rw [foldK_succ hget, HKD.out, ← hoo, ← hr])
      have HCALL := hid (IH.out kid _ of o.2 wr a u1 u2 u5 r1 htr hbd.1)
      rw [← hr] at HCALL hbd
      have HBD := hid hbd.2
      have HR2 := hid r2
      have HR3 := hid r3
      have HR4 := hid r4
      have HR5 := hid (And.intro r5 r6)
      clear hoo HH r1 r2 r3 r4 r5 r6 crow htr hkid hget hbd hr c4 c6
      go_wp2_with fail
      refine HCALL.out.mono ?_
      rintro e w1 ⟨F1, L1, n1, n2, n5, rfl, g1, g2, g3, g4, g5⟩
      clear k0 k1 k2 f0 f1 f2
      obtain ⟨FA, nF, fc, eF⟩ := sl_form g4
      obtain ⟨LA, nL, lc, eL⟩ := sl_form g5
      subst eF eL
      obtain ⟨w2, hw2⟩ : ∃ w2, w2 = w1.alloc (.cells #[.bool r.1.emp, .slice FA nF fc, .slice LA nL lc] 95) := ⟨_, rfl⟩
      obtain ⟨p, hp⟩ : ∃ p, p = w1.heap.size := ⟨_, rfl⟩
      have HS := hid (LkH.kid HR3.out HR4.out HR2.out HR5.out.1 HR5.out.2 g1 g2 g3 g4 g5 hw2)
      rw [← hp] at HS
      clear g1 g2 g3 g4 g5 HR2 HR3 HR4 HR5
      have HS2 := HS
      obtain ⟨m1, m2, m5, -, ⟨F, L, hqb, hF, hL⟩, ⟨Fp, Lp, hpb, hFp, hLp⟩, hke, -, hqp, -, -, -, -⟩ := HS2.out
      obtain ⟨c4, -, -⟩ := HKEEP.out _ hke
      obtain ⟨f0, -, -, -⟩ := slot3 c4
      rw [hw2] at f0
      have HNF := hid hF
      have HNL := hid hL
      have HNFp := hid hFp
      have HNLp := hid hLp
      have HQP := hid hqp
      obtain ⟨pe, hpe⟩ : ∃ pe, pe = r.1.emp := ⟨_, rfl⟩
      have HPE := hid hpe
      have HQL := hid (show ∀ Y, Below w2.heap.size w2 Y → Y.cell? ⟨q, 0, none⟩ = some (.bool o.1.emp) ∧ Y.cell? ⟨q, 1, none⟩ = some F ∧ Y.cell? ⟨q, 2, none⟩ = some L ∧ ∀ j, Y.frozen? ⟨q, j, none⟩ = false from fun Y hY => slot3 ((hY.block q (Array.getElem?_eq_some_iff.1 hqb).1).trans hqb))
      have HPC := hid (show ∀ Y, Below w2.heap.size w2 Y → Y.cell? ⟨p, 0, none⟩ = some (.bool pe) ∧ Y.cell? ⟨p, 1, none⟩ = some Fp ∧ Y.cell? ⟨p, 2, none⟩ = some Lp from fun Y hY => by
        obtain ⟨a0, a1, a2, -⟩ := slot3 ((hY.block p (Array.getElem?_eq_some_iff.1 hpb).1).trans hpb)
        exact ⟨by rw [hpe]; exact a0, a1, a2⟩)
      have HPS := hid (show ∀ Y, Below w2.heap.size w2 Y → ∀ x y z, (((Y.setCell ⟨q, 0, none⟩ x).setCell ⟨q, 1, none⟩ y).setCell ⟨q, 2, none⟩ z).cell? ⟨p, 0, none⟩ = some (.bool pe) ∧ (((Y.setCell ⟨q, 0, none⟩ x).setCell ⟨q, 1, none⟩ y).setCell ⟨q, 2, none⟩ z).cell? ⟨p, 1, none⟩ = some Fp ∧ (((Y.setCell ⟨q, 0, none⟩ x).setCell ⟨q, 1, none⟩ y).setCell ⟨q, 2, none⟩ z).cell? ⟨p, 2, none⟩ = some Lp from fun Y hY x y z => by
        have h1 : (((Y.setCell ⟨q, 0, none⟩ x).setCell ⟨q, 1, none⟩ y).setCell ⟨q, 2, none⟩ z).heap[p]? = Y.heap[p]? := by
          rw [heap_setCell_other _ _ _ _ (Ne.symm hqp), heap_setCell_other _ _ _ _ (Ne.symm hqp), heap_setCell_other _ _ _ _ (Ne.symm hqp)]
        obtain ⟨a0, a1, a2⟩ := HPC.out Y hY
        exact ⟨(cell_same h1).trans a0, (cell_same h1).trans a1, (cell_same h1).trans a2⟩)
      have HQC := hid (show w2.cell? ⟨q, 0, none⟩ = some (.bool o.1.emp) ∧ w2.cell? ⟨q, 1, none⟩ = some F ∧ w2.cell? ⟨q, 2, none⟩ = some L from by
        obtain ⟨a0, a1, a2, -⟩ := HQL.out w2 (Below.refl _ _)
        exact ⟨a0, a1, a2⟩)
      have HS0 := hid (HPC.out w2 (Below.refl _ _))
      have HLN := hid (show o.1.fst.length + r.1.fst.length ≤ 1000000 ∧ o.1.lst.length + r.1.lst.length ≤ 1000000 from ⟨by have := HBD.out.1; omega, by have := HBD.out.2.1; omega⟩)
      have HZ := hid (Below.refl w2.heap.size w2)
      clear hqb hpb hF hL hFp hLp hke hqp c4 hpe HS2
      go_wp2_with fail
      rw [← hw2, ← hp]
      clear hw2 hp f0
      cases hoe : o.1.emp with
      | true =>
        rw [hoe] at HQC HQL
        have HOE := hid hoe
        clear hoe
        refine wp_region_held_drew (S := (fun Y => Y.cell? ⟨p, 0, none⟩ = some (.bool pe) ∧ Y.cell? ⟨p, 1, none⟩ = some Fp ∧ Y.cell? ⟨p, 2, none⟩ = some Lp)) (by kernel_rfl) (by exact HS0.out) (fun hHeld => ?_)
        refine wpAnyH_take (i := 0) (oi := { dst := some 72, op := Op.fieldAddr 95 (Operand.tmp 8) 0, type := _, pos := _, after := _, guard := none }) (v := ?_) rfl (by kernel_rfl) (by kernel_rfl) (by kernel_rfl) (fun _ _ _ h => h) (Or.inl ⟨by rfl, ?_⟩) (by assumption) ?_
        rotate_left
        · intro w hSw; (try dsimp only at hSw); go_simp; try with_reducible rfl
        try simp only [Act.put, List.setIfInBounds_toArray, List.set_cons_zero, List.set_cons_succ]
        refine wpAnyH_take (i := 6) (oi := { dst := some 78, op := Op.fieldAddr 95 (Operand.tmp 8) 1, type := _, pos := _, after := _, guard := none }) (v := ?_) rfl (by kernel_rfl) (by kernel_rfl) (by kernel_rfl) (fun _ _ _ h => h) (Or.inl ⟨by rfl, ?_⟩) (by assumption) ?_
        rotate_left
        · intro w hSw; (try dsimp only at hSw); go_simp; try with_reducible rfl
        try simp only [Act.put, List.setIfInBounds_toArray, List.set_cons_zero, List.set_cons_succ]
        refine wpAnyH_take (i := 8) (oi := { dst := some 80, op := Op.fieldAddr 95 (Operand.tmp 10) 1, type := _, pos := _, after := _, guard := none }) (v := ?_) rfl (by kernel_rfl) (by kernel_rfl) (by kernel_rfl) (fun _ _ _ h => h) (Or.inl ⟨by rfl, ?_⟩) (by assumption) ?_
        rotate_left
        · intro w hSw; (try dsimp only at hSw); go_simp; try with_reducible rfl
        try simp only [Act.put, List.setIfInBounds_toArray, List.set_cons_zero, List.set_cons_succ]
        refine wpAnyH_take (i := 9) (oi := { dst := some 81, op := Op.load 23 (Operand.tmp 80), type := _, pos := _, after := _, guard := none }) (v := ?_) rfl (by kernel_rfl) (by kernel_rfl) (by kernel_rfl) (fun _ _ _ h => h) (Or.inl ⟨by rfl, ?_⟩) (by assumption) ?_
        rotate_left
        · intro w hSw; (try dsimp only at hSw); go_simp; try with_reducible rfl
        try simp only [Act.put, List.setIfInBounds_toArray, List.set_cons_zero, List.set_cons_succ]
        refine wpAnyH_take (i := 11) (oi := { dst := some 83, op := Op.fieldAddr 95 (Operand.tmp 8) 2, type := _, pos := _, after := _, guard := none }) (v := ?_) rfl (by kernel_rfl) (by kernel_rfl) (by kernel_rfl) (fun _ _ _ h => h) (Or.inl ⟨by rfl, ?_⟩) (by assumption) ?_
        rotate_left
        · intro w hSw; (try dsimp only at hSw); go_simp; try with_reducible rfl
        try simp only [Act.put, List.setIfInBounds_toArray, List.set_cons_zero, List.set_cons_succ]
        refine wpAnyH_take (i := 13) (oi := { dst := some 85, op := Op.fieldAddr 95 (Operand.tmp 10) 2, type := _, pos := _, after := _, guard := none }) (v := ?_) rfl (by kernel_rfl) (by kernel_rfl) (by kernel_rfl) (fun _ _ _ h => h) (Or.inl ⟨by rfl, ?_⟩) (by assumption) ?_
        rotate_left
        · intro w hSw; (try dsimp only at hSw); go_simp; try with_reducible rfl
        try simp only [Act.put, List.setIfInBounds_toArray, List.set_cons_zero, List.set_cons_succ]
        refine wpAnyH_take (i := 14) (oi := { dst := some 86, op := Op.load 23 (Operand.tmp 85), type := _, pos := _, after := _, guard := none }) (v := ?_) rfl (by kernel_rfl) (by kernel_rfl) (by kernel_rfl) (fun _ _ _ h => h) (Or.inl ⟨by rfl, ?_⟩) (by assumption) ?_
        rotate_left
        · intro w hSw; (try dsimp only at hSw); go_simp; try with_reducible rfl
        try simp only [Act.put, List.setIfInBounds_toArray, List.set_cons_zero, List.set_cons_succ]
        refine wpAnyH_ready (rs := [1, 7, 12]) (by kernel_rfl) (by simp) ?_
        refine AllReadyH.cons (o := { dst := some 73, op := Op.load 4 (Operand.tmp 72), type := _, pos := _, after := _, guard := none }) rfl ?legA1n1 (AllReadyH.cons (o := { dst := some 79, op := Op.load 23 (Operand.tmp 78), type := _, pos := _, after := _, guard := none }) rfl ?legB1n1 (AllReadyH.cons (o := { dst := some 84, op := Op.load 23 (Operand.tmp 83), type := _, pos := _, after := _, guard := none }) rfl ?legC1n1 AllReadyH.nil))
        case' legA1n1 =>
          intro K hK
          go_simp
          first | rw [HQC.out.1] | rw [(HQL.out _ HZ.out).1]
          go_simp
          refine hK.out _ _ (by first | exact HS0.out | exact HPC.out _ HZ.out) (fun hHeld => ?_)
          clear hK K
          try simp only [Act.put, List.setIfInBounds_toArray, List.set_cons_zero, List.set_cons_succ]
          refine wpAnyH_take (i := 2) (oi := { dst := some 74, op := Op.move (Operand.tmp 73), type := _, pos := _, after := _, guard := none }) (v := ?_) rfl (by kernel_rfl) (by kernel_rfl) (by kernel_rfl) (fun _ _ _ h => h) (Or.inl ⟨by rfl, ?_⟩) (by assumption) ?_
          rotate_left
          · intro w hSw; (try dsimp only at hSw); go_simp; try with_reducible rfl
          try simp only [Act.put, List.setIfInBounds_toArray, List.set_cons_zero, List.set_cons_succ]
          refine wpAnyH_take (i := 3) (oi := { dst := some 75, op := Op.fieldAddr 95 (Operand.tmp 10) 0, type := _, pos := _, after := _, guard := some (2, false) }) (v := undef) rfl (by kernel_rfl) (by kernel_rfl) (by kernel_rfl) (fun _ _ _ h => h) (Or.inr ⟨by rfl, rfl⟩) (by assumption) ?_
          try simp only [Act.put, List.setIfInBounds_toArray, List.set_cons_zero, List.set_cons_succ]
          refine wpAnyH_take (i := 4) (oi := { dst := some 76, op := Op.load 4 (Operand.tmp 75), type := _, pos := _, after := _, guard := some (2, false) }) (v := undef) rfl (by kernel_rfl) (by kernel_rfl) (by kernel_rfl) (fun _ _ _ h => h) (Or.inr ⟨by rfl, rfl⟩) (by assumption) ?_
          try simp only [Act.put, List.setIfInBounds_toArray, List.set_cons_zero, List.set_cons_succ]
          refine wpAnyH_take (i := 5) (oi := { dst := some 77, op := Op.pick (Operand.tmp 74) (Operand.const (Value.bool true)) (Operand.tmp 76), type := _, pos := _, after := _, guard := none }) (v := ?_) rfl (by kernel_rfl) (by kernel_rfl) (by kernel_rfl) (fun _ _ _ h => h) (Or.inl ⟨by rfl, ?_⟩) (by assumption) ?_
          rotate_left
          · intro w hSw; (try dsimp only at hSw); go_simp; try with_reducible rfl
          try simp only [Act.put, List.setIfInBounds_toArray, List.set_cons_zero, List.set_cons_succ]
          refine wpAnyH_ready (rs := [7, 12]) (by kernel_rfl) (by simp) ?_
          refine AllReadyH.cons (o := { dst := some 79, op := Op.load 23 (Operand.tmp 78), type := _, pos := _, after := _, guard := none }) rfl ?legA1n2 (AllReadyH.cons (o := { dst := some 84, op := Op.load 23 (Operand.tmp 83), type := _, pos := _, after := _, guard := none }) rfl ?legB1n2 AllReadyH.nil)
          case' legA1n2 =>
            intro K hK
            go_simp
            first | rw [HQC.out.2.1] | rw [(HQL.out _ HZ.out).2.1]
            go_simp
            refine hK.out _ _ (by first | exact HS0.out | exact HPC.out _ HZ.out) (fun hHeld => ?_)
            clear hK K
            try simp only [Act.put, List.setIfInBounds_toArray, List.set_cons_zero, List.set_cons_succ]
            refine wpAnyH_ready (rs := [10, 12]) (by kernel_rfl) (by simp) ?_
            refine AllReadyH.cons (o := { dst := some 82, op := Op.call { callee := Callee.value (Operand.func 52), args := #[Operand.tmp 79, Operand.tmp 81], argTypes := #[23, 23] }, type := _, pos := _, after := _, guard := none }) rfl ?legA1n3 (AllReadyH.cons (o := { dst := some 84, op := Op.load 23 (Operand.tmp 83), type := _, pos := _, after := _, guard := none }) rfl ?legB1n3 AllReadyH.nil)
            case' legA1n3 =>
              intro K hK
              go_simp
              refine (join_sl _ _ _ _ _ _ _ (by first | exact HNF.out.below HZ.out | exact HNF.out.below HZ.out.drew) (by first | exact HNFp.out.below HZ.out | exact HNFp.out.below HZ.out.drew) HLN.out.1).mono ?_
              rintro e w3 ⟨A1, n1, c1, rfl, hv, hb⟩
              have HV1 := hid hv
              (first | replace HZ := hid (HZ.out.trans (hb.mono HZ.out.size)) | replace HZ := hid (HZ.out.drew.trans (hb.mono HZ.out.drew.size)))
              have HZ3 := HZ
              clear hv hb
              refine hK.out _ _ (by exact HPC.out _ HZ.out) (fun hHeld => ?_)
              clear hK K
              try simp only [Act.put, List.setIfInBounds_toArray, List.set_cons_zero, List.set_cons_succ]
              refine wpAnyH_ready (rs := [12]) (by kernel_rfl) (by simp) ?_
              refine AllReadyH.cons (o := { dst := some 84, op := Op.load 23 (Operand.tmp 83), type := _, pos := _, after := _, guard := none }) rfl (fun K hK => ?_) AllReadyH.nil
              go_simp
              first | rw [HQC.out.2.2] | rw [(HQL.out _ HZ.out).2.2.1]
              go_simp
              refine hK.out _ _ (by first | exact HS0.out | exact HPC.out _ HZ.out) (fun hHeld => ?_)
              clear hK K
              try simp only [Act.put, List.setIfInBounds_toArray, List.set_cons_zero, List.set_cons_succ]
              refine wpAnyH_ready (rs := [15]) (by kernel_rfl) (by simp) ?_
              refine AllReadyH.cons (o := { dst := some 87, op := Op.call { callee := Callee.value (Operand.func 52), args := #[Operand.tmp 84, Operand.tmp 86], argTypes := #[23, 23] }, type := _, pos := _, after := _, guard := none }) rfl (fun K hK => ?_) AllReadyH.nil
              go_simp
              refine (join_sl _ _ _ _ _ _ _ (HNL.out.below HZ.out) (HNLp.out.below HZ.out) HLN.out.2).mono ?_
              rintro e w4 ⟨A2, n2, c2, rfl, hv, hb⟩
              have HV2 := hid (hv.mono (S' := fun b => w2.heap.size ≤ b) fun b h1 _ => Nat.le_trans HZ.out.size h1)
              replace HV1 := hid ((HV1.out.mono (S' := fun b => w2.heap.size ≤ b) fun b h1 _ => h1).below hb)
              replace HZ := hid (HZ.out.trans (hb.mono HZ.out.size))
              have HQW := hid (HQL.out _ HZ.out)
              clear hv hb
              refine hK.out _ _ (by exact HPC.out _ HZ.out) (fun hHeld => ?_)
              clear hK K
              try simp only [Act.put, List.setIfInBounds_toArray, List.set_cons_zero, List.set_cons_succ]
              refine wpAnyH_take (i := 16) (oi := { dst := some 88, op := Op.build 95 #[(0, Operand.tmp 77), (1, Operand.tmp 82), (2, Operand.tmp 87)], type := _, pos := _, after := _, guard := none }) (v := ?_) rfl (by kernel_rfl) (by kernel_rfl) (by kernel_rfl) (fun _ _ _ h => h) (Or.inl ⟨by rfl, ?_⟩) (by assumption) ?_
              rotate_left
              · intro w hSw; (try dsimp only at hSw); go_simp; try with_reducible rfl
              try simp only [Act.put, List.setIfInBounds_toArray, List.set_cons_zero, List.set_cons_succ]
              refine wpAnyH_ready (rs := [17]) (by kernel_rfl) (by simp) ?_
              refine AllReadyH.cons (o := { dst := none, op := Op.store 95 (Operand.tmp 8) (Operand.tmp 88), type := _, pos := _, after := _, guard := none }) rfl (fun K hK => ?_) AllReadyH.nil
              obtain ⟨z0, z1, z2, zf⟩ := HQW.out
              have zf0 := zf 0
              have zf1 := zf 1
              have zf2 := zf 2
              clear zf
              go_simp
              refine hK.out _ _ (by exact HPS.out _ HZ.out _ _ _) (fun hHeld => ?_)
              clear hK K
              try simp only [Act.put, List.setIfInBounds_toArray, List.set_cons_zero, List.set_cons_succ]
              refine wpAnyH_done (by kernel_rfl) ?_ _
            case' legB1n3 =>
              intro K hK
              go_simp
              first | rw [HQC.out.2.2] | rw [(HQL.out _ HZ.out).2.2.1]
              go_simp
              refine hK.out _ _ (by first | exact HS0.out | exact HPC.out _ HZ.out) (fun hHeld => ?_)
              clear hK K
              try simp only [Act.put, List.setIfInBounds_toArray, List.set_cons_zero, List.set_cons_succ]
              refine wpAnyH_ready (rs := [10]) (by kernel_rfl) (by simp) ?_
              refine AllReadyH.cons (o := { dst := some 82, op := Op.call { callee := Callee.value (Operand.func 52), args := #[Operand.tmp 79, Operand.tmp 81], argTypes := #[23, 23] }, type := _, pos := _, after := _, guard := none }) rfl (fun K hK => ?_) AllReadyH.nil
              go_simp
              refine (join_sl _ _ _ _ _ _ _ (by first | exact HNF.out.below HZ.out | exact HNF.out.below HZ.out.drew) (by first | exact HNFp.out.below HZ.out | exact HNFp.out.below HZ.out.drew) HLN.out.1).mono ?_
              rintro e w3 ⟨A1, n1, c1, rfl, hv, hb⟩
              have HV1 := hid hv
              (first | replace HZ := hid (HZ.out.trans (hb.mono HZ.out.size)) | replace HZ := hid (HZ.out.drew.trans (hb.mono HZ.out.drew.size)))
              have HZ3 := HZ
              clear hv hb
              refine hK.out _ _ (by exact HPC.out _ HZ.out) (fun hHeld => ?_)
              clear hK K
              try simp only [Act.put, List.setIfInBounds_toArray, List.set_cons_zero, List.set_cons_succ]
              refine wpAnyH_ready (rs := [15]) (by kernel_rfl) (by simp) ?_
              refine AllReadyH.cons (o := { dst := some 87, op := Op.call { callee := Callee.value (Operand.func 52), args := #[Operand.tmp 84, Operand.tmp 86], argTypes := #[23, 23] }, type := _, pos := _, after := _, guard := none }) rfl (fun K hK => ?_) AllReadyH.nil
              go_simp
              refine (join_sl _ _ _ _ _ _ _ (HNL.out.below HZ.out) (HNLp.out.below HZ.out) HLN.out.2).mono ?_
              rintro e w4 ⟨A2, n2, c2, rfl, hv, hb⟩
              have HV2 := hid (hv.mono (S' := fun b => w2.heap.size ≤ b) fun b h1 _ => Nat.le_trans HZ.out.size h1)
              replace HV1 := hid ((HV1.out.mono (S' := fun b => w2.heap.size ≤ b) fun b h1 _ => h1).below hb)
              replace HZ := hid (HZ.out.trans (hb.mono HZ.out.size))
              have HQW := hid (HQL.out _ HZ.out)
              clear hv hb
              refine hK.out _ _ (by exact HPC.out _ HZ.out) (fun hHeld => ?_)
              clear hK K
              try simp only [Act.put, List.setIfInBounds_toArray, List.set_cons_zero, List.set_cons_succ]
              refine wpAnyH_take (i := 16) (oi := { dst := some 88, op := Op.build 95 #[(0, Operand.tmp 77), (1, Operand.tmp 82), (2, Operand.tmp 87)], type := _, pos := _, after := _, guard := none }) (v := ?_) rfl (by kernel_rfl) (by kernel_rfl) (by kernel_rfl) (fun _ _ _ h => h) (Or.inl ⟨by rfl, ?_⟩) (by assumption) ?_
              rotate_left
              · intro w hSw; (try dsimp only at hSw); go_simp; try with_reducible rfl
              try simp only [Act.put, List.setIfInBounds_toArray, List.set_cons_zero, List.set_cons_succ]
              refine wpAnyH_ready (rs := [17]) (by kernel_rfl) (by simp) ?_
              refine AllReadyH.cons (o := { dst := none, op := Op.store 95 (Operand.tmp 8) (Operand.tmp 88), type := _, pos := _, after := _, guard := none }) rfl (fun K hK => ?_) AllReadyH.nil
              obtain ⟨z0, z1, z2, zf⟩ := HQW.out
              have zf0 := zf 0
              have zf1 := zf 1
              have zf2 := zf 2
              clear zf
              go_simp
              refine hK.out _ _ (by exact HPS.out _ HZ.out _ _ _) (fun hHeld => ?_)
              clear hK K
              try simp only [Act.put, List.setIfInBounds_toArray, List.set_cons_zero, List.set_cons_succ]
              refine wpAnyH_done (by kernel_rfl) ?_ _
          case' legB1n2 =>
            intro K hK
            go_simp
            first | rw [HQC.out.2.2] | rw [(HQL.out _ HZ.out).2.2.1]
            go_simp
            refine hK.out _ _ (by first | exact HS0.out | exact HPC.out _ HZ.out) (fun hHeld => ?_)
            clear hK K
            try simp only [Act.put, List.setIfInBounds_toArray, List.set_cons_zero, List.set_cons_succ]
            refine wpAnyH_ready (rs := [7]) (by kernel_rfl) (by simp) ?_
            refine AllReadyH.cons (o := { dst := some 79, op := Op.load 23 (Operand.tmp 78), type := _, pos := _, after := _, guard := none }) rfl (fun K hK => ?_) AllReadyH.nil
            go_simp
            first | rw [HQC.out.2.1] | rw [(HQL.out _ HZ.out).2.1]
            go_simp
            refine hK.out _ _ (by first | exact HS0.out | exact HPC.out _ HZ.out) (fun hHeld => ?_)
            clear hK K
            try simp only [Act.put, List.setIfInBounds_toArray, List.set_cons_zero, List.set_cons_succ]
            refine wpAnyH_ready (rs := [10]) (by kernel_rfl) (by simp) ?_
            refine AllReadyH.cons (o := { dst := some 82, op := Op.call { callee := Callee.value (Operand.func 52), args := #[Operand.tmp 79, Operand.tmp 81], argTypes := #[23, 23] }, type := _, pos := _, after := _, guard := none }) rfl (fun K hK => ?_) AllReadyH.nil
            go_simp
            refine (join_sl _ _ _ _ _ _ _ (by first | exact HNF.out.below HZ.out | exact HNF.out.below HZ.out.drew) (by first | exact HNFp.out.below HZ.out | exact HNFp.out.below HZ.out.drew) HLN.out.1).mono ?_
            rintro e w3 ⟨A1, n1, c1, rfl, hv, hb⟩
            have HV1 := hid hv
            (first | replace HZ := hid (HZ.out.trans (hb.mono HZ.out.size)) | replace HZ := hid (HZ.out.drew.trans (hb.mono HZ.out.drew.size)))
            have HZ3 := HZ
            clear hv hb
            refine hK.out _ _ (by exact HPC.out _ HZ.out) (fun hHeld => ?_)
            clear hK K
            try simp only [Act.put, List.setIfInBounds_toArray, List.set_cons_zero, List.set_cons_succ]
            refine wpAnyH_ready (rs := [15]) (by kernel_rfl) (by simp) ?_
            refine AllReadyH.cons (o := { dst := some 87, op := Op.call { callee := Callee.value (Operand.func 52), args := #[Operand.tmp 84, Operand.tmp 86], argTypes := #[23, 23] }, type := _, pos := _, after := _, guard := none }) rfl (fun K hK => ?_) AllReadyH.nil
            go_simp
            refine (join_sl _ _ _ _ _ _ _ (HNL.out.below HZ.out) (HNLp.out.below HZ.out) HLN.out.2).mono ?_
            rintro e w4 ⟨A2, n2, c2, rfl, hv, hb⟩
            have HV2 := hid (hv.mono (S' := fun b => w2.heap.size ≤ b) fun b h1 _ => Nat.le_trans HZ.out.size h1)
            replace HV1 := hid ((HV1.out.mono (S' := fun b => w2.heap.size ≤ b) fun b h1 _ => h1).below hb)
            replace HZ := hid (HZ.out.trans (hb.mono HZ.out.size))
            have HQW := hid (HQL.out _ HZ.out)
            clear hv hb
            refine hK.out _ _ (by exact HPC.out _ HZ.out) (fun hHeld => ?_)
            clear hK K
            try simp only [Act.put, List.setIfInBounds_toArray, List.set_cons_zero, List.set_cons_succ]
            refine wpAnyH_take (i := 16) (oi := { dst := some 88, op := Op.build 95 #[(0, Operand.tmp 77), (1, Operand.tmp 82), (2, Operand.tmp 87)], type := _, pos := _, after := _, guard := none }) (v := ?_) rfl (by kernel_rfl) (by kernel_rfl) (by kernel_rfl) (fun _ _ _ h => h) (Or.inl ⟨by rfl, ?_⟩) (by assumption) ?_
            rotate_left
            · intro w hSw; (try dsimp only at hSw); go_simp; try with_reducible rfl
            try simp only [Act.put, List.setIfInBounds_toArray, List.set_cons_zero, List.set_cons_succ]
            refine wpAnyH_ready (rs := [17]) (by kernel_rfl) (by simp) ?_
            refine AllReadyH.cons (o := { dst := none, op := Op.store 95 (Operand.tmp 8) (Operand.tmp 88), type := _, pos := _, after := _, guard := none }) rfl (fun K hK => ?_) AllReadyH.nil
            obtain ⟨z0, z1, z2, zf⟩ := HQW.out
            have zf0 := zf 0
            have zf1 := zf 1
            have zf2 := zf 2
            clear zf
            go_simp
            refine hK.out _ _ (by exact HPS.out _ HZ.out _ _ _) (fun hHeld => ?_)
            clear hK K
            try simp only [Act.put, List.setIfInBounds_toArray, List.set_cons_zero, List.set_cons_succ]
            refine wpAnyH_done (by kernel_rfl) ?_ _
        case' legB1n1 =>
          intro K hK
          go_simp
          first | rw [HQC.out.2.1] | rw [(HQL.out _ HZ.out).2.1]
          go_simp
          refine hK.out _ _ (by first | exact HS0.out | exact HPC.out _ HZ.out) (fun hHeld => ?_)
          clear hK K
          try simp only [Act.put, List.setIfInBounds_toArray, List.set_cons_zero, List.set_cons_succ]
          refine wpAnyH_ready (rs := [1, 12]) (by kernel_rfl) (by simp) ?_
          refine AllReadyH.cons (o := { dst := some 73, op := Op.load 4 (Operand.tmp 72), type := _, pos := _, after := _, guard := none }) rfl ?legA1n4 (AllReadyH.cons (o := { dst := some 84, op := Op.load 23 (Operand.tmp 83), type := _, pos := _, after := _, guard := none }) rfl ?legB1n4 AllReadyH.nil)
          case' legA1n4 =>
            intro K hK
            go_simp
            first | rw [HQC.out.1] | rw [(HQL.out _ HZ.out).1]
            go_simp
            refine hK.out _ _ (by first | exact HS0.out | exact HPC.out _ HZ.out) (fun hHeld => ?_)
            clear hK K
            try simp only [Act.put, List.setIfInBounds_toArray, List.set_cons_zero, List.set_cons_succ]
            refine wpAnyH_take (i := 2) (oi := { dst := some 74, op := Op.move (Operand.tmp 73), type := _, pos := _, after := _, guard := none }) (v := ?_) rfl (by kernel_rfl) (by kernel_rfl) (by kernel_rfl) (fun _ _ _ h => h) (Or.inl ⟨by rfl, ?_⟩) (by assumption) ?_
            rotate_left
            · intro w hSw; (try dsimp only at hSw); go_simp; try with_reducible rfl
            try simp only [Act.put, List.setIfInBounds_toArray, List.set_cons_zero, List.set_cons_succ]
            refine wpAnyH_take (i := 3) (oi := { dst := some 75, op := Op.fieldAddr 95 (Operand.tmp 10) 0, type := _, pos := _, after := _, guard := some (2, false) }) (v := undef) rfl (by kernel_rfl) (by kernel_rfl) (by kernel_rfl) (fun _ _ _ h => h) (Or.inr ⟨by rfl, rfl⟩) (by assumption) ?_
            try simp only [Act.put, List.setIfInBounds_toArray, List.set_cons_zero, List.set_cons_succ]
            refine wpAnyH_take (i := 4) (oi := { dst := some 76, op := Op.load 4 (Operand.tmp 75), type := _, pos := _, after := _, guard := some (2, false) }) (v := undef) rfl (by kernel_rfl) (by kernel_rfl) (by kernel_rfl) (fun _ _ _ h => h) (Or.inr ⟨by rfl, rfl⟩) (by assumption) ?_
            try simp only [Act.put, List.setIfInBounds_toArray, List.set_cons_zero, List.set_cons_succ]
            refine wpAnyH_take (i := 5) (oi := { dst := some 77, op := Op.pick (Operand.tmp 74) (Operand.const (Value.bool true)) (Operand.tmp 76), type := _, pos := _, after := _, guard := none }) (v := ?_) rfl (by kernel_rfl) (by kernel_rfl) (by kernel_rfl) (fun _ _ _ h => h) (Or.inl ⟨by rfl, ?_⟩) (by assumption) ?_
            rotate_left
            · intro w hSw; (try dsimp only at hSw); go_simp; try with_reducible rfl
            try simp only [Act.put, List.setIfInBounds_toArray, List.set_cons_zero, List.set_cons_succ]
            refine wpAnyH_ready (rs := [10, 12]) (by kernel_rfl) (by simp) ?_
            refine AllReadyH.cons (o := { dst := some 82, op := Op.call { callee := Callee.value (Operand.func 52), args := #[Operand.tmp 79, Operand.tmp 81], argTypes := #[23, 23] }, type := _, pos := _, after := _, guard := none }) rfl ?legA1n5 (AllReadyH.cons (o := { dst := some 84, op := Op.load 23 (Operand.tmp 83), type := _, pos := _, after := _, guard := none }) rfl ?legB1n5 AllReadyH.nil)
            case' legA1n5 =>
              intro K hK
              go_simp
              refine (join_sl _ _ _ _ _ _ _ (by first | exact HNF.out.below HZ.out | exact HNF.out.below HZ.out.drew) (by first | exact HNFp.out.below HZ.out | exact HNFp.out.below HZ.out.drew) HLN.out.1).mono ?_
              rintro e w3 ⟨A1, n1, c1, rfl, hv, hb⟩
              have HV1 := hid hv
              (first | replace HZ := hid (HZ.out.trans (hb.mono HZ.out.size)) | replace HZ := hid (HZ.out.drew.trans (hb.mono HZ.out.drew.size)))
              have HZ3 := HZ
              clear hv hb
              refine hK.out _ _ (by exact HPC.out _ HZ.out) (fun hHeld => ?_)
              clear hK K
              try simp only [Act.put, List.setIfInBounds_toArray, List.set_cons_zero, List.set_cons_succ]
              refine wpAnyH_ready (rs := [12]) (by kernel_rfl) (by simp) ?_
              refine AllReadyH.cons (o := { dst := some 84, op := Op.load 23 (Operand.tmp 83), type := _, pos := _, after := _, guard := none }) rfl (fun K hK => ?_) AllReadyH.nil
              go_simp
              first | rw [HQC.out.2.2] | rw [(HQL.out _ HZ.out).2.2.1]
              go_simp
              refine hK.out _ _ (by first | exact HS0.out | exact HPC.out _ HZ.out) (fun hHeld => ?_)
              clear hK K
              try simp only [Act.put, List.setIfInBounds_toArray, List.set_cons_zero, List.set_cons_succ]
              refine wpAnyH_ready (rs := [15]) (by kernel_rfl) (by simp) ?_
              refine AllReadyH.cons (o := { dst := some 87, op := Op.call { callee := Callee.value (Operand.func 52), args := #[Operand.tmp 84, Operand.tmp 86], argTypes := #[23, 23] }, type := _, pos := _, after := _, guard := none }) rfl (fun K hK => ?_) AllReadyH.nil
              go_simp
              refine (join_sl _ _ _ _ _ _ _ (HNL.out.below HZ.out) (HNLp.out.below HZ.out) HLN.out.2).mono ?_
              rintro e w4 ⟨A2, n2, c2, rfl, hv, hb⟩
              have HV2 := hid (hv.mono (S' := fun b => w2.heap.size ≤ b) fun b h1 _ => Nat.le_trans HZ.out.size h1)
              replace HV1 := hid ((HV1.out.mono (S' := fun b => w2.heap.size ≤ b) fun b h1 _ => h1).below hb)
              replace HZ := hid (HZ.out.trans (hb.mono HZ.out.size))
              have HQW := hid (HQL.out _ HZ.out)
              clear hv hb
              refine hK.out _ _ (by exact HPC.out _ HZ.out) (fun hHeld => ?_)
              clear hK K
              try simp only [Act.put, List.setIfInBounds_toArray, List.set_cons_zero, List.set_cons_succ]
              refine wpAnyH_take (i := 16) (oi := { dst := some 88, op := Op.build 95 #[(0, Operand.tmp 77), (1, Operand.tmp 82), (2, Operand.tmp 87)], type := _, pos := _, after := _, guard := none }) (v := ?_) rfl (by kernel_rfl) (by kernel_rfl) (by kernel_rfl) (fun _ _ _ h => h) (Or.inl ⟨by rfl, ?_⟩) (by assumption) ?_
              rotate_left
              · intro w hSw; (try dsimp only at hSw); go_simp; try with_reducible rfl
              try simp only [Act.put, List.setIfInBounds_toArray, List.set_cons_zero, List.set_cons_succ]
              refine wpAnyH_ready (rs := [17]) (by kernel_rfl) (by simp) ?_
              refine AllReadyH.cons (o := { dst := none, op := Op.store 95 (Operand.tmp 8) (Operand.tmp 88), type := _, pos := _, after := _, guard := none }) rfl (fun K hK => ?_) AllReadyH.nil
              obtain ⟨z0, z1, z2, zf⟩ := HQW.out
              have zf0 := zf 0
              have zf1 := zf 1
              have zf2 := zf 2
              clear zf
              go_simp
              refine hK.out _ _ (by exact HPS.out _ HZ.out _ _ _) (fun hHeld => ?_)
              clear hK K
              try simp only [Act.put, List.setIfInBounds_toArray, List.set_cons_zero, List.set_cons_succ]
              refine wpAnyH_done (by kernel_rfl) ?_ _
            case' legB1n5 =>
              intro K hK
              go_simp
              first | rw [HQC.out.2.2] | rw [(HQL.out _ HZ.out).2.2.1]
              go_simp
              refine hK.out _ _ (by first | exact HS0.out | exact HPC.out _ HZ.out) (fun hHeld => ?_)
              clear hK K
              try simp only [Act.put, List.setIfInBounds_toArray, List.set_cons_zero, List.set_cons_succ]
              refine wpAnyH_ready (rs := [10]) (by kernel_rfl) (by simp) ?_
              refine AllReadyH.cons (o := { dst := some 82, op := Op.call { callee := Callee.value (Operand.func 52), args := #[Operand.tmp 79, Operand.tmp 81], argTypes := #[23, 23] }, type := _, pos := _, after := _, guard := none }) rfl (fun K hK => ?_) AllReadyH.nil
              go_simp
              refine (join_sl _ _ _ _ _ _ _ (by first | exact HNF.out.below HZ.out | exact HNF.out.below HZ.out.drew) (by first | exact HNFp.out.below HZ.out | exact HNFp.out.below HZ.out.drew) HLN.out.1).mono ?_
              rintro e w3 ⟨A1, n1, c1, rfl, hv, hb⟩
              have HV1 := hid hv
              (first | replace HZ := hid (HZ.out.trans (hb.mono HZ.out.size)) | replace HZ := hid (HZ.out.drew.trans (hb.mono HZ.out.drew.size)))
              have HZ3 := HZ
              clear hv hb
              refine hK.out _ _ (by exact HPC.out _ HZ.out) (fun hHeld => ?_)
              clear hK K
              try simp only [Act.put, List.setIfInBounds_toArray, List.set_cons_zero, List.set_cons_succ]
              refine wpAnyH_ready (rs := [15]) (by kernel_rfl) (by simp) ?_
              refine AllReadyH.cons (o := { dst := some 87, op := Op.call { callee := Callee.value (Operand.func 52), args := #[Operand.tmp 84, Operand.tmp 86], argTypes := #[23, 23] }, type := _, pos := _, after := _, guard := none }) rfl (fun K hK => ?_) AllReadyH.nil
              go_simp
              refine (join_sl _ _ _ _ _ _ _ (HNL.out.below HZ.out) (HNLp.out.below HZ.out) HLN.out.2).mono ?_
              rintro e w4 ⟨A2, n2, c2, rfl, hv, hb⟩
              have HV2 := hid (hv.mono (S' := fun b => w2.heap.size ≤ b) fun b h1 _ => Nat.le_trans HZ.out.size h1)
              replace HV1 := hid ((HV1.out.mono (S' := fun b => w2.heap.size ≤ b) fun b h1 _ => h1).below hb)
              replace HZ := hid (HZ.out.trans (hb.mono HZ.out.size))
              have HQW := hid (HQL.out _ HZ.out)
              clear hv hb
              refine hK.out _ _ (by exact HPC.out _ HZ.out) (fun hHeld => ?_)
              clear hK K
              try simp only [Act.put, List.setIfInBounds_toArray, List.set_cons_zero, List.set_cons_succ]
              refine wpAnyH_take (i := 16) (oi := { dst := some 88, op := Op.build 95 #[(0, Operand.tmp 77), (1, Operand.tmp 82), (2, Operand.tmp 87)], type := _, pos := _, after := _, guard := none }) (v := ?_) rfl (by kernel_rfl) (by kernel_rfl) (by kernel_rfl) (fun _ _ _ h => h) (Or.inl ⟨by rfl, ?_⟩) (by assumption) ?_
              rotate_left
              · intro w hSw; (try dsimp only at hSw); go_simp; try with_reducible rfl
              try simp only [Act.put, List.setIfInBounds_toArray, List.set_cons_zero, List.set_cons_succ]
              refine wpAnyH_ready (rs := [17]) (by kernel_rfl) (by simp) ?_
              refine AllReadyH.cons (o := { dst := none, op := Op.store 95 (Operand.tmp 8) (Operand.tmp 88), type := _, pos := _, after := _, guard := none }) rfl (fun K hK => ?_) AllReadyH.nil
              obtain ⟨z0, z1, z2, zf⟩ := HQW.out
              have zf0 := zf 0
              have zf1 := zf 1
              have zf2 := zf 2
              clear zf
              go_simp
              refine hK.out _ _ (by exact HPS.out _ HZ.out _ _ _) (fun hHeld => ?_)
              clear hK K
              try simp only [Act.put, List.setIfInBounds_toArray, List.set_cons_zero, List.set_cons_succ]
              refine wpAnyH_done (by kernel_rfl) ?_ _
          case' legB1n4 =>
            intro K hK
            go_simp
            first | rw [HQC.out.2.2] | rw [(HQL.out _ HZ.out).2.2.1]
            go_simp
            refine hK.out _ _ (by first | exact HS0.out | exact HPC.out _ HZ.out) (fun hHeld => ?_)
            clear hK K
            try simp only [Act.put, List.setIfInBounds_toArray, List.set_cons_zero, List.set_cons_succ]
            refine wpAnyH_ready (rs := [1]) (by kernel_rfl) (by simp) ?_
            refine AllReadyH.cons (o := { dst := some 73, op := Op.load 4 (Operand.tmp 72), type := _, pos := _, after := _, guard := none }) rfl (fun K hK => ?_) AllReadyH.nil
            go_simp
            first | rw [HQC.out.1] | rw [(HQL.out _ HZ.out).1]
            go_simp
            refine hK.out _ _ (by first | exact HS0.out | exact HPC.out _ HZ.out) (fun hHeld => ?_)
            clear hK K
            try simp only [Act.put, List.setIfInBounds_toArray, List.set_cons_zero, List.set_cons_succ]
            refine wpAnyH_take (i := 2) (oi := { dst := some 74, op := Op.move (Operand.tmp 73), type := _, pos := _, after := _, guard := none }) (v := ?_) rfl (by kernel_rfl) (by kernel_rfl) (by kernel_rfl) (fun _ _ _ h => h) (Or.inl ⟨by rfl, ?_⟩) (by assumption) ?_
            rotate_left
            · intro w hSw; (try dsimp only at hSw); go_simp; try with_reducible rfl
            try simp only [Act.put, List.setIfInBounds_toArray, List.set_cons_zero, List.set_cons_succ]
            refine wpAnyH_take (i := 3) (oi := { dst := some 75, op := Op.fieldAddr 95 (Operand.tmp 10) 0, type := _, pos := _, after := _, guard := some (2, false) }) (v := undef) rfl (by kernel_rfl) (by kernel_rfl) (by kernel_rfl) (fun _ _ _ h => h) (Or.inr ⟨by rfl, rfl⟩) (by assumption) ?_
            try simp only [Act.put, List.setIfInBounds_toArray, List.set_cons_zero, List.set_cons_succ]
            refine wpAnyH_take (i := 4) (oi := { dst := some 76, op := Op.load 4 (Operand.tmp 75), type := _, pos := _, after := _, guard := some (2, false) }) (v := undef) rfl (by kernel_rfl) (by kernel_rfl) (by kernel_rfl) (fun _ _ _ h => h) (Or.inr ⟨by rfl, rfl⟩) (by assumption) ?_
            try simp only [Act.put, List.setIfInBounds_toArray, List.set_cons_zero, List.set_cons_succ]
            refine wpAnyH_take (i := 5) (oi := { dst := some 77, op := Op.pick (Operand.tmp 74) (Operand.const (Value.bool true)) (Operand.tmp 76), type := _, pos := _, after := _, guard := none }) (v := ?_) rfl (by kernel_rfl) (by kernel_rfl) (by kernel_rfl) (fun _ _ _ h => h) (Or.inl ⟨by rfl, ?_⟩) (by assumption) ?_
            rotate_left
            · intro w hSw; (try dsimp only at hSw); go_simp; try with_reducible rfl
            try simp only [Act.put, List.setIfInBounds_toArray, List.set_cons_zero, List.set_cons_succ]
            refine wpAnyH_ready (rs := [10]) (by kernel_rfl) (by simp) ?_
            refine AllReadyH.cons (o := { dst := some 82, op := Op.call { callee := Callee.value (Operand.func 52), args := #[Operand.tmp 79, Operand.tmp 81], argTypes := #[23, 23] }, type := _, pos := _, after := _, guard := none }) rfl (fun K hK => ?_) AllReadyH.nil
            go_simp
            refine (join_sl _ _ _ _ _ _ _ (by first | exact HNF.out.below HZ.out | exact HNF.out.below HZ.out.drew) (by first | exact HNFp.out.below HZ.out | exact HNFp.out.below HZ.out.drew) HLN.out.1).mono ?_
            rintro e w3 ⟨A1, n1, c1, rfl, hv, hb⟩
            have HV1 := hid hv
            (first | replace HZ := hid (HZ.out.trans (hb.mono HZ.out.size)) | replace HZ := hid (HZ.out.drew.trans (hb.mono HZ.out.drew.size)))
            have HZ3 := HZ
            clear hv hb
            refine hK.out _ _ (by exact HPC.out _ HZ.out) (fun hHeld => ?_)
            clear hK K
            try simp only [Act.put, List.setIfInBounds_toArray, List.set_cons_zero, List.set_cons_succ]
            refine wpAnyH_ready (rs := [15]) (by kernel_rfl) (by simp) ?_
            refine AllReadyH.cons (o := { dst := some 87, op := Op.call { callee := Callee.value (Operand.func 52), args := #[Operand.tmp 84, Operand.tmp 86], argTypes := #[23, 23] }, type := _, pos := _, after := _, guard := none }) rfl (fun K hK => ?_) AllReadyH.nil
            go_simp
            refine (join_sl _ _ _ _ _ _ _ (HNL.out.below HZ.out) (HNLp.out.below HZ.out) HLN.out.2).mono ?_
            rintro e w4 ⟨A2, n2, c2, rfl, hv, hb⟩
            have HV2 := hid (hv.mono (S' := fun b => w2.heap.size ≤ b) fun b h1 _ => Nat.le_trans HZ.out.size h1)
            replace HV1 := hid ((HV1.out.mono (S' := fun b => w2.heap.size ≤ b) fun b h1 _ => h1).below hb)
            replace HZ := hid (HZ.out.trans (hb.mono HZ.out.size))
            have HQW := hid (HQL.out _ HZ.out)
            clear hv hb
            refine hK.out _ _ (by exact HPC.out _ HZ.out) (fun hHeld => ?_)
            clear hK K
            try simp only [Act.put, List.setIfInBounds_toArray, List.set_cons_zero, List.set_cons_succ]
            refine wpAnyH_take (i := 16) (oi := { dst := some 88, op := Op.build 95 #[(0, Operand.tmp 77), (1, Operand.tmp 82), (2, Operand.tmp 87)], type := _, pos := _, after := _, guard := none }) (v := ?_) rfl (by kernel_rfl) (by kernel_rfl) (by kernel_rfl) (fun _ _ _ h => h) (Or.inl ⟨by rfl, ?_⟩) (by assumption) ?_
            rotate_left
            · intro w hSw; (try dsimp only at hSw); go_simp; try with_reducible rfl
            try simp only [Act.put, List.setIfInBounds_toArray, List.set_cons_zero, List.set_cons_succ]
            refine wpAnyH_ready (rs := [17]) (by kernel_rfl) (by simp) ?_
            refine AllReadyH.cons (o := { dst := none, op := Op.store 95 (Operand.tmp 8) (Operand.tmp 88), type := _, pos := _, after := _, guard := none }) rfl (fun K hK => ?_) AllReadyH.nil
            obtain ⟨z0, z1, z2, zf⟩ := HQW.out
            have zf0 := zf 0
            have zf1 := zf 1
            have zf2 := zf 2
            clear zf
            go_simp
            refine hK.out _ _ (by exact HPS.out _ HZ.out _ _ _) (fun hHeld => ?_)
            clear hK K
            try simp only [Act.put, List.setIfInBounds_toArray, List.set_cons_zero, List.set_cons_succ]
            refine wpAnyH_done (by kernel_rfl) ?_ _
        case' legC1n1 =>
          intro K hK
          go_simp
          first | rw [HQC.out.2.2] | rw [(HQL.out _ HZ.out).2.2.1]
          go_simp
          refine hK.out _ _ (by first | exact HS0.out | exact HPC.out _ HZ.out) (fun hHeld => ?_)
          clear hK K
          try simp only [Act.put, List.setIfInBounds_toArray, List.set_cons_zero, List.set_cons_succ]
          refine wpAnyH_ready (rs := [1, 7]) (by kernel_rfl) (by simp) ?_
          refine AllReadyH.cons (o := { dst := some 73, op := Op.load 4 (Operand.tmp 72), type := _, pos := _, after := _, guard := none }) rfl ?legA1n6 (AllReadyH.cons (o := { dst := some 79, op := Op.load 23 (Operand.tmp 78), type := _, pos := _, after := _, guard := none }) rfl ?legB1n6 AllReadyH.nil)
          case' legA1n6 =>
            intro K hK
            go_simp
            first | rw [HQC.out.1] | rw [(HQL.out _ HZ.out).1]
            go_simp
            refine hK.out _ _ (by first | exact HS0.out | exact HPC.out _ HZ.out) (fun hHeld => ?_)
            clear hK K
            try simp only [Act.put, List.setIfInBounds_toArray, List.set_cons_zero, List.set_cons_succ]
            refine wpAnyH_take (i := 2) (oi := { dst := some 74, op := Op.move (Operand.tmp 73), type := _, pos := _, after := _, guard := none }) (v := ?_) rfl (by kernel_rfl) (by kernel_rfl) (by kernel_rfl) (fun _ _ _ h => h) (Or.inl ⟨by rfl, ?_⟩) (by assumption) ?_
            rotate_left
            · intro w hSw; (try dsimp only at hSw); go_simp; try with_reducible rfl
            try simp only [Act.put, List.setIfInBounds_toArray, List.set_cons_zero, List.set_cons_succ]
            refine wpAnyH_take (i := 3) (oi := { dst := some 75, op := Op.fieldAddr 95 (Operand.tmp 10) 0, type := _, pos := _, after := _, guard := some (2, false) }) (v := undef) rfl (by kernel_rfl) (by kernel_rfl) (by kernel_rfl) (fun _ _ _ h => h) (Or.inr ⟨by rfl, rfl⟩) (by assumption) ?_
            try simp only [Act.put, List.setIfInBounds_toArray, List.set_cons_zero, List.set_cons_succ]
            refine wpAnyH_take (i := 4) (oi := { dst := some 76, op := Op.load 4 (Operand.tmp 75), type := _, pos := _, after := _, guard := some (2, false) }) (v := undef) rfl (by kernel_rfl) (by kernel_rfl) (by kernel_rfl) (fun _ _ _ h => h) (Or.inr ⟨by rfl, rfl⟩) (by assumption) ?_
            try simp only [Act.put, List.setIfInBounds_toArray, List.set_cons_zero, List.set_cons_succ]
            refine wpAnyH_take (i := 5) (oi := { dst := some 77, op := Op.pick (Operand.tmp 74) (Operand.const (Value.bool true)) (Operand.tmp 76), type := _, pos := _, after := _, guard := none }) (v := ?_) rfl (by kernel_rfl) (by kernel_rfl) (by kernel_rfl) (fun _ _ _ h => h) (Or.inl ⟨by rfl, ?_⟩) (by assumption) ?_
            rotate_left
            · intro w hSw; (try dsimp only at hSw); go_simp; try with_reducible rfl
            try simp only [Act.put, List.setIfInBounds_toArray, List.set_cons_zero, List.set_cons_succ]
            refine wpAnyH_ready (rs := [7]) (by kernel_rfl) (by simp) ?_
            refine AllReadyH.cons (o := { dst := some 79, op := Op.load 23 (Operand.tmp 78), type := _, pos := _, after := _, guard := none }) rfl (fun K hK => ?_) AllReadyH.nil
            go_simp
            first | rw [HQC.out.2.1] | rw [(HQL.out _ HZ.out).2.1]
            go_simp
            refine hK.out _ _ (by first | exact HS0.out | exact HPC.out _ HZ.out) (fun hHeld => ?_)
            clear hK K
            try simp only [Act.put, List.setIfInBounds_toArray, List.set_cons_zero, List.set_cons_succ]
            refine wpAnyH_ready (rs := [10]) (by kernel_rfl) (by simp) ?_
            refine AllReadyH.cons (o := { dst := some 82, op := Op.call { callee := Callee.value (Operand.func 52), args := #[Operand.tmp 79, Operand.tmp 81], argTypes := #[23, 23] }, type := _, pos := _, after := _, guard := none }) rfl (fun K hK => ?_) AllReadyH.nil
            go_simp
            refine (join_sl _ _ _ _ _ _ _ (by first | exact HNF.out.below HZ.out | exact HNF.out.below HZ.out.drew) (by first | exact HNFp.out.below HZ.out | exact HNFp.out.below HZ.out.drew) HLN.out.1).mono ?_
            rintro e w3 ⟨A1, n1, c1, rfl, hv, hb⟩
            have HV1 := hid hv
            (first | replace HZ := hid (HZ.out.trans (hb.mono HZ.out.size)) | replace HZ := hid (HZ.out.drew.trans (hb.mono HZ.out.drew.size)))
            have HZ3 := HZ
            clear hv hb
            refine hK.out _ _ (by exact HPC.out _ HZ.out) (fun hHeld => ?_)
            clear hK K
            try simp only [Act.put, List.setIfInBounds_toArray, List.set_cons_zero, List.set_cons_succ]
            refine wpAnyH_ready (rs := [15]) (by kernel_rfl) (by simp) ?_
            refine AllReadyH.cons (o := { dst := some 87, op := Op.call { callee := Callee.value (Operand.func 52), args := #[Operand.tmp 84, Operand.tmp 86], argTypes := #[23, 23] }, type := _, pos := _, after := _, guard := none }) rfl (fun K hK => ?_) AllReadyH.nil
            go_simp
            refine (join_sl _ _ _ _ _ _ _ (HNL.out.below HZ.out) (HNLp.out.below HZ.out) HLN.out.2).mono ?_
            rintro e w4 ⟨A2, n2, c2, rfl, hv, hb⟩
            have HV2 := hid (hv.mono (S' := fun b => w2.heap.size ≤ b) fun b h1 _ => Nat.le_trans HZ.out.size h1)
            replace HV1 := hid ((HV1.out.mono (S' := fun b => w2.heap.size ≤ b) fun b h1 _ => h1).below hb)
            replace HZ := hid (HZ.out.trans (hb.mono HZ.out.size))
            have HQW := hid (HQL.out _ HZ.out)
            clear hv hb
            refine hK.out _ _ (by exact HPC.out _ HZ.out) (fun hHeld => ?_)
            clear hK K
            try simp only [Act.put, List.setIfInBounds_toArray, List.set_cons_zero, List.set_cons_succ]
            refine wpAnyH_take (i := 16) (oi := { dst := some 88, op := Op.build 95 #[(0, Operand.tmp 77), (1, Operand.tmp 82), (2, Operand.tmp 87)], type := _, pos := _, after := _, guard := none }) (v := ?_) rfl (by kernel_rfl) (by kernel_rfl) (by kernel_rfl) (fun _ _ _ h => h) (Or.inl ⟨by rfl, ?_⟩) (by assumption) ?_
            rotate_left
            · intro w hSw; (try dsimp only at hSw); go_simp; try with_reducible rfl
            try simp only [Act.put, List.setIfInBounds_toArray, List.set_cons_zero, List.set_cons_succ]
            refine wpAnyH_ready (rs := [17]) (by kernel_rfl) (by simp) ?_
            refine AllReadyH.cons (o := { dst := none, op := Op.store 95 (Operand.tmp 8) (Operand.tmp 88), type := _, pos := _, after := _, guard := none }) rfl (fun K hK => ?_) AllReadyH.nil
            obtain ⟨z0, z1, z2, zf⟩ := HQW.out
            have zf0 := zf 0
            have zf1 := zf 1
            have zf2 := zf 2
            clear zf
            go_simp
            refine hK.out _ _ (by exact HPS.out _ HZ.out _ _ _) (fun hHeld => ?_)
            clear hK K
            try simp only [Act.put, List.setIfInBounds_toArray, List.set_cons_zero, List.set_cons_succ]
            refine wpAnyH_done (by kernel_rfl) ?_ _
          case' legB1n6 =>
            intro K hK
            go_simp
            first | rw [HQC.out.2.1] | rw [(HQL.out _ HZ.out).2.1]
            go_simp
            refine hK.out _ _ (by first | exact HS0.out | exact HPC.out _ HZ.out) (fun hHeld => ?_)
            clear hK K
            try simp only [Act.put, List.setIfInBounds_toArray, List.set_cons_zero, List.set_cons_succ]
            refine wpAnyH_ready (rs := [1]) (by kernel_rfl) (by simp) ?_
            refine AllReadyH.cons (o := { dst := some 73, op := Op.load 4 (Operand.tmp 72), type := _, pos := _, after := _, guard := none }) rfl (fun K hK => ?_) AllReadyH.nil
            go_simp
            first | rw [HQC.out.1] | rw [(HQL.out _ HZ.out).1]
            go_simp
            refine hK.out _ _ (by first | exact HS0.out | exact HPC.out _ HZ.out) (fun hHeld => ?_)
            clear hK K
            try simp only [Act.put, List.setIfInBounds_toArray, List.set_cons_zero, List.set_cons_succ]
            refine wpAnyH_take (i := 2) (oi := { dst := some 74, op := Op.move (Operand.tmp 73), type := _, pos := _, after := _, guard := none }) (v := ?_) rfl (by kernel_rfl) (by kernel_rfl) (by kernel_rfl) (fun _ _ _ h => h) (Or.inl ⟨by rfl, ?_⟩) (by assumption) ?_
            rotate_left
            · intro w hSw; (try dsimp only at hSw); go_simp; try with_reducible rfl
            try simp only [Act.put, List.setIfInBounds_toArray, List.set_cons_zero, List.set_cons_succ]
            refine wpAnyH_take (i := 3) (oi := { dst := some 75, op := Op.fieldAddr 95 (Operand.tmp 10) 0, type := _, pos := _, after := _, guard := some (2, false) }) (v := undef) rfl (by kernel_rfl) (by kernel_rfl) (by kernel_rfl) (fun _ _ _ h => h) (Or.inr ⟨by rfl, rfl⟩) (by assumption) ?_
            try simp only [Act.put, List.setIfInBounds_toArray, List.set_cons_zero, List.set_cons_succ]
            refine wpAnyH_take (i := 4) (oi := { dst := some 76, op := Op.load 4 (Operand.tmp 75), type := _, pos := _, after := _, guard := some (2, false) }) (v := undef) rfl (by kernel_rfl) (by kernel_rfl) (by kernel_rfl) (fun _ _ _ h => h) (Or.inr ⟨by rfl, rfl⟩) (by assumption) ?_
            try simp only [Act.put, List.setIfInBounds_toArray, List.set_cons_zero, List.set_cons_succ]
            refine wpAnyH_take (i := 5) (oi := { dst := some 77, op := Op.pick (Operand.tmp 74) (Operand.const (Value.bool true)) (Operand.tmp 76), type := _, pos := _, after := _, guard := none }) (v := ?_) rfl (by kernel_rfl) (by kernel_rfl) (by kernel_rfl) (fun _ _ _ h => h) (Or.inl ⟨by rfl, ?_⟩) (by assumption) ?_
            rotate_left
            · intro w hSw; (try dsimp only at hSw); go_simp; try with_reducible rfl
            try simp only [Act.put, List.setIfInBounds_toArray, List.set_cons_zero, List.set_cons_succ]
            refine wpAnyH_ready (rs := [10]) (by kernel_rfl) (by simp) ?_
            refine AllReadyH.cons (o := { dst := some 82, op := Op.call { callee := Callee.value (Operand.func 52), args := #[Operand.tmp 79, Operand.tmp 81], argTypes := #[23, 23] }, type := _, pos := _, after := _, guard := none }) rfl (fun K hK => ?_) AllReadyH.nil
            go_simp
            refine (join_sl _ _ _ _ _ _ _ (by first | exact HNF.out.below HZ.out | exact HNF.out.below HZ.out.drew) (by first | exact HNFp.out.below HZ.out | exact HNFp.out.below HZ.out.drew) HLN.out.1).mono ?_
            rintro e w3 ⟨A1, n1, c1, rfl, hv, hb⟩
            have HV1 := hid hv
            (first | replace HZ := hid (HZ.out.trans (hb.mono HZ.out.size)) | replace HZ := hid (HZ.out.drew.trans (hb.mono HZ.out.drew.size)))
            have HZ3 := HZ
            clear hv hb
            refine hK.out _ _ (by exact HPC.out _ HZ.out) (fun hHeld => ?_)
            clear hK K
            try simp only [Act.put, List.setIfInBounds_toArray, List.set_cons_zero, List.set_cons_succ]
            refine wpAnyH_ready (rs := [15]) (by kernel_rfl) (by simp) ?_
            refine AllReadyH.cons (o := { dst := some 87, op := Op.call { callee := Callee.value (Operand.func 52), args := #[Operand.tmp 84, Operand.tmp 86], argTypes := #[23, 23] }, type := _, pos := _, after := _, guard := none }) rfl (fun K hK => ?_) AllReadyH.nil
            go_simp
            refine (join_sl _ _ _ _ _ _ _ (HNL.out.below HZ.out) (HNLp.out.below HZ.out) HLN.out.2).mono ?_
            rintro e w4 ⟨A2, n2, c2, rfl, hv, hb⟩
            have HV2 := hid (hv.mono (S' := fun b => w2.heap.size ≤ b) fun b h1 _ => Nat.le_trans HZ.out.size h1)
            replace HV1 := hid ((HV1.out.mono (S' := fun b => w2.heap.size ≤ b) fun b h1 _ => h1).below hb)
            replace HZ := hid (HZ.out.trans (hb.mono HZ.out.size))
            have HQW := hid (HQL.out _ HZ.out)
            clear hv hb
            refine hK.out _ _ (by exact HPC.out _ HZ.out) (fun hHeld => ?_)
            clear hK K
            try simp only [Act.put, List.setIfInBounds_toArray, List.set_cons_zero, List.set_cons_succ]
            refine wpAnyH_take (i := 16) (oi := { dst := some 88, op := Op.build 95 #[(0, Operand.tmp 77), (1, Operand.tmp 82), (2, Operand.tmp 87)], type := _, pos := _, after := _, guard := none }) (v := ?_) rfl (by kernel_rfl) (by kernel_rfl) (by kernel_rfl) (fun _ _ _ h => h) (Or.inl ⟨by rfl, ?_⟩) (by assumption) ?_
            rotate_left
            · intro w hSw; (try dsimp only at hSw); go_simp; try with_reducible rfl
            try simp only [Act.put, List.setIfInBounds_toArray, List.set_cons_zero, List.set_cons_succ]
            refine wpAnyH_ready (rs := [17]) (by kernel_rfl) (by simp) ?_
            refine AllReadyH.cons (o := { dst := none, op := Op.store 95 (Operand.tmp 8) (Operand.tmp 88), type := _, pos := _, after := _, guard := none }) rfl (fun K hK => ?_) AllReadyH.nil
            obtain ⟨z0, z1, z2, zf⟩ := HQW.out
            have zf0 := zf 0
            have zf1 := zf 1
            have zf2 := zf 2
            clear zf
            go_simp
            refine hK.out _ _ (by exact HPS.out _ HZ.out _ _ _) (fun hHeld => ?_)
            clear hK K
            try simp only [Act.put, List.setIfInBounds_toArray, List.set_cons_zero, List.set_cons_succ]
            refine wpAnyH_done (by kernel_rfl) ?_ _
        all_goals
          go_wp2_with fail
          refine ⟨⟨i + 1, by omega, by go_num, hid (by have h := (HS.out.join2 HZ.out HV1.out HV2.out true).head; rw [HSUCC.out, stepK_alt H4.out, HOE.out, Bool.true_or]; exact h)⟩, by simp [intOf]; omega⟩
      | false =>
        rw [hoe] at HQC HQL
        have HOE := hid hoe
        clear hoe
        refine wp_region_held_drew (S := (fun Y => Y.cell? ⟨p, 0, none⟩ = some (.bool pe) ∧ Y.cell? ⟨p, 1, none⟩ = some Fp ∧ Y.cell? ⟨p, 2, none⟩ = some Lp)) (by kernel_rfl) (by exact HS0.out) (fun hHeld => ?_)
        refine wpAnyH_take (i := 0) (oi := { dst := some 72, op := Op.fieldAddr 95 (Operand.tmp 8) 0, type := _, pos := _, after := _, guard := none }) (v := ?_) rfl (by kernel_rfl) (by kernel_rfl) (by kernel_rfl) (fun _ _ _ h => h) (Or.inl ⟨by rfl, ?_⟩) (by assumption) ?_
        rotate_left
        · intro w hSw; (try dsimp only at hSw); go_simp; try with_reducible rfl
        try simp only [Act.put, List.setIfInBounds_toArray, List.set_cons_zero, List.set_cons_succ]
        refine wpAnyH_take (i := 6) (oi := { dst := some 78, op := Op.fieldAddr 95 (Operand.tmp 8) 1, type := _, pos := _, after := _, guard := none }) (v := ?_) rfl (by kernel_rfl) (by kernel_rfl) (by kernel_rfl) (fun _ _ _ h => h) (Or.inl ⟨by rfl, ?_⟩) (by assumption) ?_
        rotate_left
        · intro w hSw; (try dsimp only at hSw); go_simp; try with_reducible rfl
        try simp only [Act.put, List.setIfInBounds_toArray, List.set_cons_zero, List.set_cons_succ]
        refine wpAnyH_take (i := 8) (oi := { dst := some 80, op := Op.fieldAddr 95 (Operand.tmp 10) 1, type := _, pos := _, after := _, guard := none }) (v := ?_) rfl (by kernel_rfl) (by kernel_rfl) (by kernel_rfl) (fun _ _ _ h => h) (Or.inl ⟨by rfl, ?_⟩) (by assumption) ?_
        rotate_left
        · intro w hSw; (try dsimp only at hSw); go_simp; try with_reducible rfl
        try simp only [Act.put, List.setIfInBounds_toArray, List.set_cons_zero, List.set_cons_succ]
        refine wpAnyH_take (i := 9) (oi := { dst := some 81, op := Op.load 23 (Operand.tmp 80), type := _, pos := _, after := _, guard := none }) (v := ?_) rfl (by kernel_rfl) (by kernel_rfl) (by kernel_rfl) (fun _ _ _ h => h) (Or.inl ⟨by rfl, ?_⟩) (by assumption) ?_
        rotate_left
        · intro w hSw; (try dsimp only at hSw); go_simp; try with_reducible rfl
        try simp only [Act.put, List.setIfInBounds_toArray, List.set_cons_zero, List.set_cons_succ]
        refine wpAnyH_take (i := 11) (oi := { dst := some 83, op := Op.fieldAddr 95 (Operand.tmp 8) 2, type := _, pos := _, after := _, guard := none }) (v := ?_) rfl (by kernel_rfl) (by kernel_rfl) (by kernel_rfl) (fun _ _ _ h => h) (Or.inl ⟨by rfl, ?_⟩) (by assumption) ?_
        rotate_left
        · intro w hSw; (try dsimp only at hSw); go_simp; try with_reducible rfl
        try simp only [Act.put, List.setIfInBounds_toArray, List.set_cons_zero, List.set_cons_succ]
        refine wpAnyH_take (i := 13) (oi := { dst := some 85, op := Op.fieldAddr 95 (Operand.tmp 10) 2, type := _, pos := _, after := _, guard := none }) (v := ?_) rfl (by kernel_rfl) (by kernel_rfl) (by kernel_rfl) (fun _ _ _ h => h) (Or.inl ⟨by rfl, ?_⟩) (by assumption) ?_
        rotate_left
        · intro w hSw; (try dsimp only at hSw); go_simp; try with_reducible rfl
        try simp only [Act.put, List.setIfInBounds_toArray, List.set_cons_zero, List.set_cons_succ]
        refine wpAnyH_take (i := 14) (oi := { dst := some 86, op := Op.load 23 (Operand.tmp 85), type := _, pos := _, after := _, guard := none }) (v := ?_) rfl (by kernel_rfl) (by kernel_rfl) (by kernel_rfl) (fun _ _ _ h => h) (Or.inl ⟨by rfl, ?_⟩) (by assumption) ?_
        rotate_left
        · intro w hSw; (try dsimp only at hSw); go_simp; try with_reducible rfl
        try simp only [Act.put, List.setIfInBounds_toArray, List.set_cons_zero, List.set_cons_succ]
        refine wpAnyH_ready (rs := [1, 7, 12]) (by kernel_rfl) (by simp) ?_
        refine AllReadyH.cons (o := { dst := some 73, op := Op.load 4 (Operand.tmp 72), type := _, pos := _, after := _, guard := none }) rfl ?legA2n1 (AllReadyH.cons (o := { dst := some 79, op := Op.load 23 (Operand.tmp 78), type := _, pos := _, after := _, guard := none }) rfl ?legB2n1 (AllReadyH.cons (o := { dst := some 84, op := Op.load 23 (Operand.tmp 83), type := _, pos := _, after := _, guard := none }) rfl ?legC2n1 AllReadyH.nil))
        case' legA2n1 =>
          intro K hK
          go_simp
          first | rw [HQC.out.1] | rw [(HQL.out _ HZ.out).1]
          go_simp
          refine hK.out _ _ (by first | exact HS0.out | exact HPC.out _ HZ.out) (fun hHeld => ?_)
          clear hK K
          try simp only [Act.put, List.setIfInBounds_toArray, List.set_cons_zero, List.set_cons_succ]
          refine wpAnyH_take (i := 2) (oi := { dst := some 74, op := Op.move (Operand.tmp 73), type := _, pos := _, after := _, guard := none }) (v := ?_) rfl (by kernel_rfl) (by kernel_rfl) (by kernel_rfl) (fun _ _ _ h => h) (Or.inl ⟨by rfl, ?_⟩) (by assumption) ?_
          rotate_left
          · intro w hSw; (try dsimp only at hSw); go_simp; try with_reducible rfl
          try simp only [Act.put, List.setIfInBounds_toArray, List.set_cons_zero, List.set_cons_succ]
          refine wpAnyH_take (i := 3) (oi := { dst := some 75, op := Op.fieldAddr 95 (Operand.tmp 10) 0, type := _, pos := _, after := _, guard := some (2, false) }) (v := ?_) rfl (by kernel_rfl) (by kernel_rfl) (by kernel_rfl) (fun _ _ _ h => h) (Or.inl ⟨by rfl, ?_⟩) (by assumption) ?_
          rotate_left
          · intro w hSw; (try dsimp only at hSw); go_simp; try with_reducible rfl
          try simp only [Act.put, List.setIfInBounds_toArray, List.set_cons_zero, List.set_cons_succ]
          refine wpAnyH_take (i := 4) (oi := { dst := some 76, op := Op.load 4 (Operand.tmp 75), type := _, pos := _, after := _, guard := some (2, false) }) (v := ?_) rfl (by kernel_rfl) (by kernel_rfl) (by kernel_rfl) (fun _ _ _ h => h) (Or.inl ⟨by rfl, ?_⟩) (by assumption) ?_
          rotate_left
          · intro w hSw; (try dsimp only at hSw); go_simp; try with_reducible rfl
          try simp only [Act.put, List.setIfInBounds_toArray, List.set_cons_zero, List.set_cons_succ]
          refine wpAnyH_take (i := 5) (oi := { dst := some 77, op := Op.pick (Operand.tmp 74) (Operand.const (Value.bool true)) (Operand.tmp 76), type := _, pos := _, after := _, guard := none }) (v := ?_) rfl (by kernel_rfl) (by kernel_rfl) (by kernel_rfl) (fun _ _ _ h => h) (Or.inl ⟨by rfl, ?_⟩) (by assumption) ?_
          rotate_left
          · intro w hSw; (try dsimp only at hSw); go_simp; try with_reducible rfl
          try simp only [Act.put, List.setIfInBounds_toArray, List.set_cons_zero, List.set_cons_succ]
          refine wpAnyH_ready (rs := [7, 12]) (by kernel_rfl) (by simp) ?_
          refine AllReadyH.cons (o := { dst := some 79, op := Op.load 23 (Operand.tmp 78), type := _, pos := _, after := _, guard := none }) rfl ?legA2n2 (AllReadyH.cons (o := { dst := some 84, op := Op.load 23 (Operand.tmp 83), type := _, pos := _, after := _, guard := none }) rfl ?legB2n2 AllReadyH.nil)
          case' legA2n2 =>
            intro K hK
            go_simp
            first | rw [HQC.out.2.1] | rw [(HQL.out _ HZ.out).2.1]
            go_simp
            refine hK.out _ _ (by first | exact HS0.out | exact HPC.out _ HZ.out) (fun hHeld => ?_)
            clear hK K
            try simp only [Act.put, List.setIfInBounds_toArray, List.set_cons_zero, List.set_cons_succ]
            refine wpAnyH_ready (rs := [10, 12]) (by kernel_rfl) (by simp) ?_
            refine AllReadyH.cons (o := { dst := some 82, op := Op.call { callee := Callee.value (Operand.func 52), args := #[Operand.tmp 79, Operand.tmp 81], argTypes := #[23, 23] }, type := _, pos := _, after := _, guard := none }) rfl ?legA2n3 (AllReadyH.cons (o := { dst := some 84, op := Op.load 23 (Operand.tmp 83), type := _, pos := _, after := _, guard := none }) rfl ?legB2n3 AllReadyH.nil)
            case' legA2n3 =>
              intro K hK
              go_simp
              refine (join_sl _ _ _ _ _ _ _ (by first | exact HNF.out.below HZ.out | exact HNF.out.below HZ.out.drew) (by first | exact HNFp.out.below HZ.out | exact HNFp.out.below HZ.out.drew) HLN.out.1).mono ?_
              rintro e w3 ⟨A1, n1, c1, rfl, hv, hb⟩
              have HV1 := hid hv
              (first | replace HZ := hid (HZ.out.trans (hb.mono HZ.out.size)) | replace HZ := hid (HZ.out.drew.trans (hb.mono HZ.out.drew.size)))
              have HZ3 := HZ
              clear hv hb
              refine hK.out _ _ (by exact HPC.out _ HZ.out) (fun hHeld => ?_)
              clear hK K
              try simp only [Act.put, List.setIfInBounds_toArray, List.set_cons_zero, List.set_cons_succ]
              refine wpAnyH_ready (rs := [12]) (by kernel_rfl) (by simp) ?_
              refine AllReadyH.cons (o := { dst := some 84, op := Op.load 23 (Operand.tmp 83), type := _, pos := _, after := _, guard := none }) rfl (fun K hK => ?_) AllReadyH.nil
              go_simp
              first | rw [HQC.out.2.2] | rw [(HQL.out _ HZ.out).2.2.1]
              go_simp
              refine hK.out _ _ (by first | exact HS0.out | exact HPC.out _ HZ.out) (fun hHeld => ?_)
              clear hK K
              try simp only [Act.put, List.setIfInBounds_toArray, List.set_cons_zero, List.set_cons_succ]
              refine wpAnyH_ready (rs := [15]) (by kernel_rfl) (by simp) ?_
              refine AllReadyH.cons (o := { dst := some 87, op := Op.call { callee := Callee.value (Operand.func 52), args := #[Operand.tmp 84, Operand.tmp 86], argTypes := #[23, 23] }, type := _, pos := _, after := _, guard := none }) rfl (fun K hK => ?_) AllReadyH.nil
              go_simp
              refine (join_sl _ _ _ _ _ _ _ (HNL.out.below HZ.out) (HNLp.out.below HZ.out) HLN.out.2).mono ?_
              rintro e w4 ⟨A2, n2, c2, rfl, hv, hb⟩
              have HV2 := hid (hv.mono (S' := fun b => w2.heap.size ≤ b) fun b h1 _ => Nat.le_trans HZ.out.size h1)
              replace HV1 := hid ((HV1.out.mono (S' := fun b => w2.heap.size ≤ b) fun b h1 _ => h1).below hb)
              replace HZ := hid (HZ.out.trans (hb.mono HZ.out.size))
              have HQW := hid (HQL.out _ HZ.out)
              clear hv hb
              refine hK.out _ _ (by exact HPC.out _ HZ.out) (fun hHeld => ?_)
              clear hK K
              try simp only [Act.put, List.setIfInBounds_toArray, List.set_cons_zero, List.set_cons_succ]
              refine wpAnyH_take (i := 16) (oi := { dst := some 88, op := Op.build 95 #[(0, Operand.tmp 77), (1, Operand.tmp 82), (2, Operand.tmp 87)], type := _, pos := _, after := _, guard := none }) (v := ?_) rfl (by kernel_rfl) (by kernel_rfl) (by kernel_rfl) (fun _ _ _ h => h) (Or.inl ⟨by rfl, ?_⟩) (by assumption) ?_
              rotate_left
              · intro w hSw; (try dsimp only at hSw); go_simp; try with_reducible rfl
              try simp only [Act.put, List.setIfInBounds_toArray, List.set_cons_zero, List.set_cons_succ]
              refine wpAnyH_ready (rs := [17]) (by kernel_rfl) (by simp) ?_
              refine AllReadyH.cons (o := { dst := none, op := Op.store 95 (Operand.tmp 8) (Operand.tmp 88), type := _, pos := _, after := _, guard := none }) rfl (fun K hK => ?_) AllReadyH.nil
              obtain ⟨z0, z1, z2, zf⟩ := HQW.out
              have zf0 := zf 0
              have zf1 := zf 1
              have zf2 := zf 2
              clear zf
              go_simp
              refine hK.out _ _ (by exact HPS.out _ HZ.out _ _ _) (fun hHeld => ?_)
              clear hK K
              try simp only [Act.put, List.setIfInBounds_toArray, List.set_cons_zero, List.set_cons_succ]
              refine wpAnyH_done (by kernel_rfl) ?_ _
            case' legB2n3 =>
              intro K hK
              go_simp
              first | rw [HQC.out.2.2] | rw [(HQL.out _ HZ.out).2.2.1]
              go_simp
              refine hK.out _ _ (by first | exact HS0.out | exact HPC.out _ HZ.out) (fun hHeld => ?_)
              clear hK K
              try simp only [Act.put, List.setIfInBounds_toArray, List.set_cons_zero, List.set_cons_succ]
              refine wpAnyH_ready (rs := [10]) (by kernel_rfl) (by simp) ?_
              refine AllReadyH.cons (o := { dst := some 82, op := Op.call { callee := Callee.value (Operand.func 52), args := #[Operand.tmp 79, Operand.tmp 81], argTypes := #[23, 23] }, type := _, pos := _, after := _, guard := none }) rfl (fun K hK => ?_) AllReadyH.nil
              go_simp
              refine (join_sl _ _ _ _ _ _ _ (by first | exact HNF.out.below HZ.out | exact HNF.out.below HZ.out.drew) (by first | exact HNFp.out.below HZ.out | exact HNFp.out.below HZ.out.drew) HLN.out.1).mono ?_
              rintro e w3 ⟨A1, n1, c1, rfl, hv, hb⟩
              have HV1 := hid hv
              (first | replace HZ := hid (HZ.out.trans (hb.mono HZ.out.size)) | replace HZ := hid (HZ.out.drew.trans (hb.mono HZ.out.drew.size)))
              have HZ3 := HZ
              clear hv hb
              refine hK.out _ _ (by exact HPC.out _ HZ.out) (fun hHeld => ?_)
              clear hK K
              try simp only [Act.put, List.setIfInBounds_toArray, List.set_cons_zero, List.set_cons_succ]
              refine wpAnyH_ready (rs := [15]) (by kernel_rfl) (by simp) ?_
              refine AllReadyH.cons (o := { dst := some 87, op := Op.call { callee := Callee.value (Operand.func 52), args := #[Operand.tmp 84, Operand.tmp 86], argTypes := #[23, 23] }, type := _, pos := _, after := _, guard := none }) rfl (fun K hK => ?_) AllReadyH.nil
              go_simp
              refine (join_sl _ _ _ _ _ _ _ (HNL.out.below HZ.out) (HNLp.out.below HZ.out) HLN.out.2).mono ?_
              rintro e w4 ⟨A2, n2, c2, rfl, hv, hb⟩
              have HV2 := hid (hv.mono (S' := fun b => w2.heap.size ≤ b) fun b h1 _ => Nat.le_trans HZ.out.size h1)
              replace HV1 := hid ((HV1.out.mono (S' := fun b => w2.heap.size ≤ b) fun b h1 _ => h1).below hb)
              replace HZ := hid (HZ.out.trans (hb.mono HZ.out.size))
              have HQW := hid (HQL.out _ HZ.out)
              clear hv hb
              refine hK.out _ _ (by exact HPC.out _ HZ.out) (fun hHeld => ?_)
              clear hK K
              try simp only [Act.put, List.setIfInBounds_toArray, List.set_cons_zero, List.set_cons_succ]
              refine wpAnyH_take (i := 16) (oi := { dst := some 88, op := Op.build 95 #[(0, Operand.tmp 77), (1, Operand.tmp 82), (2, Operand.tmp 87)], type := _, pos := _, after := _, guard := none }) (v := ?_) rfl (by kernel_rfl) (by kernel_rfl) (by kernel_rfl) (fun _ _ _ h => h) (Or.inl ⟨by rfl, ?_⟩) (by assumption) ?_
              rotate_left
              · intro w hSw; (try dsimp only at hSw); go_simp; try with_reducible rfl
              try simp only [Act.put, List.setIfInBounds_toArray, List.set_cons_zero, List.set_cons_succ]
              refine wpAnyH_ready (rs := [17]) (by kernel_rfl) (by simp) ?_
              refine AllReadyH.cons (o := { dst := none, op := Op.store 95 (Operand.tmp 8) (Operand.tmp 88), type := _, pos := _, after := _, guard := none }) rfl (fun K hK => ?_) AllReadyH.nil
              obtain ⟨z0, z1, z2, zf⟩ := HQW.out
              have zf0 := zf 0
              have zf1 := zf 1
              have zf2 := zf 2
              clear zf
              go_simp
              refine hK.out _ _ (by exact HPS.out _ HZ.out _ _ _) (fun hHeld => ?_)
              clear hK K
              try simp only [Act.put, List.setIfInBounds_toArray, List.set_cons_zero, List.set_cons_succ]
              refine wpAnyH_done (by kernel_rfl) ?_ _
          case' legB2n2 =>
            intro K hK
            go_simp
            first | rw [HQC.out.2.2] | rw [(HQL.out _ HZ.out).2.2.1]
            go_simp
            refine hK.out _ _ (by first | exact HS0.out | exact HPC.out _ HZ.out) (fun hHeld => ?_)
            clear hK K
            try simp only [Act.put, List.setIfInBounds_toArray, List.set_cons_zero, List.set_cons_succ]
            refine wpAnyH_ready (rs := [7]) (by kernel_rfl) (by simp) ?_
            refine AllReadyH.cons (o := { dst := some 79, op := Op.load 23 (Operand.tmp 78), type := _, pos := _, after := _, guard := none }) rfl (fun K hK => ?_) AllReadyH.nil
            go_simp
            first | rw [HQC.out.2.1] | rw [(HQL.out _ HZ.out).2.1]
            go_simp
            refine hK.out _ _ (by first | exact HS0.out | exact HPC.out _ HZ.out) (fun hHeld => ?_)
            clear hK K
            try simp only [Act.put, List.setIfInBounds_toArray, List.set_cons_zero, List.set_cons_succ]
            refine wpAnyH_ready (rs := [10]) (by kernel_rfl) (by simp) ?_
            refine AllReadyH.cons (o := { dst := some 82, op := Op.call { callee := Callee.value (Operand.func 52), args := #[Operand.tmp 79, Operand.tmp 81], argTypes := #[23, 23] }, type := _, pos := _, after := _, guard := none }) rfl (fun K hK => ?_) AllReadyH.nil
            go_simp
            refine (join_sl _ _ _ _ _ _ _ (by first | exact HNF.out.below HZ.out | exact HNF.out.below HZ.out.drew) (by first | exact HNFp.out.below HZ.out | exact HNFp.out.below HZ.out.drew) HLN.out.1).mono ?_
            rintro e w3 ⟨A1, n1, c1, rfl, hv, hb⟩
            have HV1 := hid hv
            (first | replace HZ := hid (HZ.out.trans (hb.mono HZ.out.size)) | replace HZ := hid (HZ.out.drew.trans (hb.mono HZ.out.drew.size)))
            have HZ3 := HZ
            clear hv hb
            refine hK.out _ _ (by exact HPC.out _ HZ.out) (fun hHeld => ?_)
            clear hK K
            try simp only [Act.put, List.setIfInBounds_toArray, List.set_cons_zero, List.set_cons_succ]
            refine wpAnyH_ready (rs := [15]) (by kernel_rfl) (by simp) ?_
            refine AllReadyH.cons (o := { dst := some 87, op := Op.call { callee := Callee.value (Operand.func 52), args := #[Operand.tmp 84, Operand.tmp 86], argTypes := #[23, 23] }, type := _, pos := _, after := _, guard := none }) rfl (fun K hK => ?_) AllReadyH.nil
            go_simp
            refine (join_sl _ _ _ _ _ _ _ (HNL.out.below HZ.out) (HNLp.out.below HZ.out) HLN.out.2).mono ?_
            rintro e w4 ⟨A2, n2, c2, rfl, hv, hb⟩
            have HV2 := hid (hv.mono (S' := fun b => w2.heap.size ≤ b) fun b h1 _ => Nat.le_trans HZ.out.size h1)
            replace HV1 := hid ((HV1.out.mono (S' := fun b => w2.heap.size ≤ b) fun b h1 _ => h1).below hb)
            replace HZ := hid (HZ.out.trans (hb.mono HZ.out.size))
            have HQW := hid (HQL.out _ HZ.out)
            clear hv hb
            refine hK.out _ _ (by exact HPC.out _ HZ.out) (fun hHeld => ?_)
            clear hK K
            try simp only [Act.put, List.setIfInBounds_toArray, List.set_cons_zero, List.set_cons_succ]
            refine wpAnyH_take (i := 16) (oi := { dst := some 88, op := Op.build 95 #[(0, Operand.tmp 77), (1, Operand.tmp 82), (2, Operand.tmp 87)], type := _, pos := _, after := _, guard := none }) (v := ?_) rfl (by kernel_rfl) (by kernel_rfl) (by kernel_rfl) (fun _ _ _ h => h) (Or.inl ⟨by rfl, ?_⟩) (by assumption) ?_
            rotate_left
            · intro w hSw; (try dsimp only at hSw); go_simp; try with_reducible rfl
            try simp only [Act.put, List.setIfInBounds_toArray, List.set_cons_zero, List.set_cons_succ]
            refine wpAnyH_ready (rs := [17]) (by kernel_rfl) (by simp) ?_
            refine AllReadyH.cons (o := { dst := none, op := Op.store 95 (Operand.tmp 8) (Operand.tmp 88), type := _, pos := _, after := _, guard := none }) rfl (fun K hK => ?_) AllReadyH.nil
            obtain ⟨z0, z1, z2, zf⟩ := HQW.out
            have zf0 := zf 0
            have zf1 := zf 1
            have zf2 := zf 2
            clear zf
            go_simp
            refine hK.out _ _ (by exact HPS.out _ HZ.out _ _ _) (fun hHeld => ?_)
            clear hK K
            try simp only [Act.put, List.setIfInBounds_toArray, List.set_cons_zero, List.set_cons_succ]
            refine wpAnyH_done (by kernel_rfl) ?_ _
        case' legB2n1 =>
          intro K hK
          go_simp
          first | rw [HQC.out.2.1] | rw [(HQL.out _ HZ.out).2.1]
          go_simp
          refine hK.out _ _ (by first | exact HS0.out | exact HPC.out _ HZ.out) (fun hHeld => ?_)
          clear hK K
          try simp only [Act.put, List.setIfInBounds_toArray, List.set_cons_zero, List.set_cons_succ]
          refine wpAnyH_ready (rs := [1, 12]) (by kernel_rfl) (by simp) ?_
          refine AllReadyH.cons (o := { dst := some 73, op := Op.load 4 (Operand.tmp 72), type := _, pos := _, after := _, guard := none }) rfl ?legA2n4 (AllReadyH.cons (o := { dst := some 84, op := Op.load 23 (Operand.tmp 83), type := _, pos := _, after := _, guard := none }) rfl ?legB2n4 AllReadyH.nil)
          case' legA2n4 =>
            intro K hK
            go_simp
            first | rw [HQC.out.1] | rw [(HQL.out _ HZ.out).1]
            go_simp
            refine hK.out _ _ (by first | exact HS0.out | exact HPC.out _ HZ.out) (fun hHeld => ?_)
            clear hK K
            try simp only [Act.put, List.setIfInBounds_toArray, List.set_cons_zero, List.set_cons_succ]
            refine wpAnyH_take (i := 2) (oi := { dst := some 74, op := Op.move (Operand.tmp 73), type := _, pos := _, after := _, guard := none }) (v := ?_) rfl (by kernel_rfl) (by kernel_rfl) (by kernel_rfl) (fun _ _ _ h => h) (Or.inl ⟨by rfl, ?_⟩) (by assumption) ?_
            rotate_left
            · intro w hSw; (try dsimp only at hSw); go_simp; try with_reducible rfl
            try simp only [Act.put, List.setIfInBounds_toArray, List.set_cons_zero, List.set_cons_succ]
            refine wpAnyH_take (i := 3) (oi := { dst := some 75, op := Op.fieldAddr 95 (Operand.tmp 10) 0, type := _, pos := _, after := _, guard := some (2, false) }) (v := ?_) rfl (by kernel_rfl) (by kernel_rfl) (by kernel_rfl) (fun _ _ _ h => h) (Or.inl ⟨by rfl, ?_⟩) (by assumption) ?_
            rotate_left
            · intro w hSw; (try dsimp only at hSw); go_simp; try with_reducible rfl
            try simp only [Act.put, List.setIfInBounds_toArray, List.set_cons_zero, List.set_cons_succ]
            refine wpAnyH_take (i := 4) (oi := { dst := some 76, op := Op.load 4 (Operand.tmp 75), type := _, pos := _, after := _, guard := some (2, false) }) (v := ?_) rfl (by kernel_rfl) (by kernel_rfl) (by kernel_rfl) (fun _ _ _ h => h) (Or.inl ⟨by rfl, ?_⟩) (by assumption) ?_
            rotate_left
            · intro w hSw; (try dsimp only at hSw); go_simp; try with_reducible rfl
            try simp only [Act.put, List.setIfInBounds_toArray, List.set_cons_zero, List.set_cons_succ]
            refine wpAnyH_take (i := 5) (oi := { dst := some 77, op := Op.pick (Operand.tmp 74) (Operand.const (Value.bool true)) (Operand.tmp 76), type := _, pos := _, after := _, guard := none }) (v := ?_) rfl (by kernel_rfl) (by kernel_rfl) (by kernel_rfl) (fun _ _ _ h => h) (Or.inl ⟨by rfl, ?_⟩) (by assumption) ?_
            rotate_left
            · intro w hSw; (try dsimp only at hSw); go_simp; try with_reducible rfl
            try simp only [Act.put, List.setIfInBounds_toArray, List.set_cons_zero, List.set_cons_succ]
            refine wpAnyH_ready (rs := [10, 12]) (by kernel_rfl) (by simp) ?_
            refine AllReadyH.cons (o := { dst := some 82, op := Op.call { callee := Callee.value (Operand.func 52), args := #[Operand.tmp 79, Operand.tmp 81], argTypes := #[23, 23] }, type := _, pos := _, after := _, guard := none }) rfl ?legA2n5 (AllReadyH.cons (o := { dst := some 84, op := Op.load 23 (Operand.tmp 83), type := _, pos := _, after := _, guard := none }) rfl ?legB2n5 AllReadyH.nil)
            case' legA2n5 =>
              intro K hK
              go_simp
              refine (join_sl _ _ _ _ _ _ _ (by first | exact HNF.out.below HZ.out | exact HNF.out.below HZ.out.drew) (by first | exact HNFp.out.below HZ.out | exact HNFp.out.below HZ.out.drew) HLN.out.1).mono ?_
              rintro e w3 ⟨A1, n1, c1, rfl, hv, hb⟩
              have HV1 := hid hv
              (first | replace HZ := hid (HZ.out.trans (hb.mono HZ.out.size)) | replace HZ := hid (HZ.out.drew.trans (hb.mono HZ.out.drew.size)))
              have HZ3 := HZ
              clear hv hb
              refine hK.out _ _ (by exact HPC.out _ HZ.out) (fun hHeld => ?_)
              clear hK K
              try simp only [Act.put, List.setIfInBounds_toArray, List.set_cons_zero, List.set_cons_succ]
              refine wpAnyH_ready (rs := [12]) (by kernel_rfl) (by simp) ?_
              refine AllReadyH.cons (o := { dst := some 84, op := Op.load 23 (Operand.tmp 83), type := _, pos := _, after := _, guard := none }) rfl (fun K hK => ?_) AllReadyH.nil
              go_simp
              first | rw [HQC.out.2.2] | rw [(HQL.out _ HZ.out).2.2.1]
              go_simp
              refine hK.out _ _ (by first | exact HS0.out | exact HPC.out _ HZ.out) (fun hHeld => ?_)
              clear hK K
              try simp only [Act.put, List.setIfInBounds_toArray, List.set_cons_zero, List.set_cons_succ]
              refine wpAnyH_ready (rs := [15]) (by kernel_rfl) (by simp) ?_
              refine AllReadyH.cons (o := { dst := some 87, op := Op.call { callee := Callee.value (Operand.func 52), args := #[Operand.tmp 84, Operand.tmp 86], argTypes := #[23, 23] }, type := _, pos := _, after := _, guard := none }) rfl (fun K hK => ?_) AllReadyH.nil
              go_simp
              refine (join_sl _ _ _ _ _ _ _ (HNL.out.below HZ.out) (HNLp.out.below HZ.out) HLN.out.2).mono ?_
              rintro e w4 ⟨A2, n2, c2, rfl, hv, hb⟩
              have HV2 := hid (hv.mono (S' := fun b => w2.heap.size ≤ b) fun b h1 _ => Nat.le_trans HZ.out.size h1)
              replace HV1 := hid ((HV1.out.mono (S' := fun b => w2.heap.size ≤ b) fun b h1 _ => h1).below hb)
              replace HZ := hid (HZ.out.trans (hb.mono HZ.out.size))
              have HQW := hid (HQL.out _ HZ.out)
              clear hv hb
              refine hK.out _ _ (by exact HPC.out _ HZ.out) (fun hHeld => ?_)
              clear hK K
              try simp only [Act.put, List.setIfInBounds_toArray, List.set_cons_zero, List.set_cons_succ]
              refine wpAnyH_take (i := 16) (oi := { dst := some 88, op := Op.build 95 #[(0, Operand.tmp 77), (1, Operand.tmp 82), (2, Operand.tmp 87)], type := _, pos := _, after := _, guard := none }) (v := ?_) rfl (by kernel_rfl) (by kernel_rfl) (by kernel_rfl) (fun _ _ _ h => h) (Or.inl ⟨by rfl, ?_⟩) (by assumption) ?_
              rotate_left
              · intro w hSw; (try dsimp only at hSw); go_simp; try with_reducible rfl
              try simp only [Act.put, List.setIfInBounds_toArray, List.set_cons_zero, List.set_cons_succ]
              refine wpAnyH_ready (rs := [17]) (by kernel_rfl) (by simp) ?_
              refine AllReadyH.cons (o := { dst := none, op := Op.store 95 (Operand.tmp 8) (Operand.tmp 88), type := _, pos := _, after := _, guard := none }) rfl (fun K hK => ?_) AllReadyH.nil
              obtain ⟨z0, z1, z2, zf⟩ := HQW.out
              have zf0 := zf 0
              have zf1 := zf 1
              have zf2 := zf 2
              clear zf
              go_simp
              refine hK.out _ _ (by exact HPS.out _ HZ.out _ _ _) (fun hHeld => ?_)
              clear hK K
              try simp only [Act.put, List.setIfInBounds_toArray, List.set_cons_zero, List.set_cons_succ]
              refine wpAnyH_done (by kernel_rfl) ?_ _
            case' legB2n5 =>
              intro K hK
              go_simp
              first | rw [HQC.out.2.2] | rw [(HQL.out _ HZ.out).2.2.1]
              go_simp
              refine hK.out _ _ (by first | exact HS0.out | exact HPC.out _ HZ.out) (fun hHeld => ?_)
              clear hK K
              try simp only [Act.put, List.setIfInBounds_toArray, List.set_cons_zero, List.set_cons_succ]
              refine wpAnyH_ready (rs := [10]) (by kernel_rfl) (by simp) ?_
              refine AllReadyH.cons (o := { dst := some 82, op := Op.call { callee := Callee.value (Operand.func 52), args := #[Operand.tmp 79, Operand.tmp 81], argTypes := #[23, 23] }, type := _, pos := _, after := _, guard := none }) rfl (fun K hK => ?_) AllReadyH.nil
              go_simp
              refine (join_sl _ _ _ _ _ _ _ (by first | exact HNF.out.below HZ.out | exact HNF.out.below HZ.out.drew) (by first | exact HNFp.out.below HZ.out | exact HNFp.out.below HZ.out.drew) HLN.out.1).mono ?_
              rintro e w3 ⟨A1, n1, c1, rfl, hv, hb⟩
              have HV1 := hid hv
              (first | replace HZ := hid (HZ.out.trans (hb.mono HZ.out.size)) | replace HZ := hid (HZ.out.drew.trans (hb.mono HZ.out.drew.size)))
              have HZ3 := HZ
              clear hv hb
              refine hK.out _ _ (by exact HPC.out _ HZ.out) (fun hHeld => ?_)
              clear hK K
              try simp only [Act.put, List.setIfInBounds_toArray, List.set_cons_zero, List.set_cons_succ]
              refine wpAnyH_ready (rs := [15]) (by kernel_rfl) (by simp) ?_
              refine AllReadyH.cons (o := { dst := some 87, op := Op.call { callee := Callee.value (Operand.func 52), args := #[Operand.tmp 84, Operand.tmp 86], argTypes := #[23, 23] }, type := _, pos := _, after := _, guard := none }) rfl (fun K hK => ?_) AllReadyH.nil
              go_simp
              refine (join_sl _ _ _ _ _ _ _ (HNL.out.below HZ.out) (HNLp.out.below HZ.out) HLN.out.2).mono ?_
              rintro e w4 ⟨A2, n2, c2, rfl, hv, hb⟩
              have HV2 := hid (hv.mono (S' := fun b => w2.heap.size ≤ b) fun b h1 _ => Nat.le_trans HZ.out.size h1)
              replace HV1 := hid ((HV1.out.mono (S' := fun b => w2.heap.size ≤ b) fun b h1 _ => h1).below hb)
              replace HZ := hid (HZ.out.trans (hb.mono HZ.out.size))
              have HQW := hid (HQL.out _ HZ.out)
              clear hv hb
              refine hK.out _ _ (by exact HPC.out _ HZ.out) (fun hHeld => ?_)
              clear hK K
              try simp only [Act.put, List.setIfInBounds_toArray, List.set_cons_zero, List.set_cons_succ]
              refine wpAnyH_take (i := 16) (oi := { dst := some 88, op := Op.build 95 #[(0, Operand.tmp 77), (1, Operand.tmp 82), (2, Operand.tmp 87)], type := _, pos := _, after := _, guard := none }) (v := ?_) rfl (by kernel_rfl) (by kernel_rfl) (by kernel_rfl) (fun _ _ _ h => h) (Or.inl ⟨by rfl, ?_⟩) (by assumption) ?_
              rotate_left
              · intro w hSw; (try dsimp only at hSw); go_simp; try with_reducible rfl
              try simp only [Act.put, List.setIfInBounds_toArray, List.set_cons_zero, List.set_cons_succ]
              refine wpAnyH_ready (rs := [17]) (by kernel_rfl) (by simp) ?_
              refine AllReadyH.cons (o := { dst := none, op := Op.store 95 (Operand.tmp 8) (Operand.tmp 88), type := _, pos := _, after := _, guard := none }) rfl (fun K hK => ?_) AllReadyH.nil
              obtain ⟨z0, z1, z2, zf⟩ := HQW.out
              have zf0 := zf 0
              have zf1 := zf 1
              have zf2 := zf 2
              clear zf
              go_simp
              refine hK.out _ _ (by exact HPS.out _ HZ.out _ _ _) (fun hHeld => ?_)
              clear hK K
              try simp only [Act.put, List.setIfInBounds_toArray, List.set_cons_zero, List.set_cons_succ]
              refine wpAnyH_done (by kernel_rfl) ?_ _
          case' legB2n4 =>
            intro K hK
            go_simp
            first | rw [HQC.out.2.2] | rw [(HQL.out _ HZ.out).2.2.1]
            go_simp
            refine hK.out _ _ (by first | exact HS0.out | exact HPC.out _ HZ.out) (fun hHeld => ?_)
            clear hK K
            try simp only [Act.put, List.setIfInBounds_toArray, List.set_cons_zero, List.set_cons_succ]
            refine wpAnyH_ready (rs := [1]) (by kernel_rfl) (by simp) ?_
            refine AllReadyH.cons (o := { dst := some 73, op := Op.load 4 (Operand.tmp 72), type := _, pos := _, after := _, guard := none }) rfl (fun K hK => ?_) AllReadyH.nil
            go_simp
            first | rw [HQC.out.1] | rw [(HQL.out _ HZ.out).1]
            go_simp
            refine hK.out _ _ (by first | exact HS0.out | exact HPC.out _ HZ.out) (fun hHeld => ?_)
            clear hK K
            try simp only [Act.put, List.setIfInBounds_toArray, List.set_cons_zero, List.set_cons_succ]
            refine wpAnyH_take (i := 2) (oi := { dst := some 74, op := Op.move (Operand.tmp 73), type := _, pos := _, after := _, guard := none }) (v := ?_) rfl (by kernel_rfl) (by kernel_rfl) (by kernel_rfl) (fun _ _ _ h => h) (Or.inl ⟨by rfl, ?_⟩) (by assumption) ?_
            rotate_left
            · intro w hSw; (try dsimp only at hSw); go_simp; try with_reducible rfl
            try simp only [Act.put, List.setIfInBounds_toArray, List.set_cons_zero, List.set_cons_succ]
            refine wpAnyH_take (i := 3) (oi := { dst := some 75, op := Op.fieldAddr 95 (Operand.tmp 10) 0, type := _, pos := _, after := _, guard := some (2, false) }) (v := ?_) rfl (by kernel_rfl) (by kernel_rfl) (by kernel_rfl) (fun _ _ _ h => h) (Or.inl ⟨by rfl, ?_⟩) (by assumption) ?_
            rotate_left
            · intro w hSw; (try dsimp only at hSw); go_simp; try with_reducible rfl
            try simp only [Act.put, List.setIfInBounds_toArray, List.set_cons_zero, List.set_cons_succ]
            refine wpAnyH_take (i := 4) (oi := { dst := some 76, op := Op.load 4 (Operand.tmp 75), type := _, pos := _, after := _, guard := some (2, false) }) (v := ?_) rfl (by kernel_rfl) (by kernel_rfl) (by kernel_rfl) (fun _ _ _ h => h) (Or.inl ⟨by rfl, ?_⟩) (by assumption) ?_
            rotate_left
            · intro w hSw; (try dsimp only at hSw); go_simp; try with_reducible rfl
            try simp only [Act.put, List.setIfInBounds_toArray, List.set_cons_zero, List.set_cons_succ]
            refine wpAnyH_take (i := 5) (oi := { dst := some 77, op := Op.pick (Operand.tmp 74) (Operand.const (Value.bool true)) (Operand.tmp 76), type := _, pos := _, after := _, guard := none }) (v := ?_) rfl (by kernel_rfl) (by kernel_rfl) (by kernel_rfl) (fun _ _ _ h => h) (Or.inl ⟨by rfl, ?_⟩) (by assumption) ?_
            rotate_left
            · intro w hSw; (try dsimp only at hSw); go_simp; try with_reducible rfl
            try simp only [Act.put, List.setIfInBounds_toArray, List.set_cons_zero, List.set_cons_succ]
            refine wpAnyH_ready (rs := [10]) (by kernel_rfl) (by simp) ?_
            refine AllReadyH.cons (o := { dst := some 82, op := Op.call { callee := Callee.value (Operand.func 52), args := #[Operand.tmp 79, Operand.tmp 81], argTypes := #[23, 23] }, type := _, pos := _, after := _, guard := none }) rfl (fun K hK => ?_) AllReadyH.nil
            go_simp
            refine (join_sl _ _ _ _ _ _ _ (by first | exact HNF.out.below HZ.out | exact HNF.out.below HZ.out.drew) (by first | exact HNFp.out.below HZ.out | exact HNFp.out.below HZ.out.drew) HLN.out.1).mono ?_
            rintro e w3 ⟨A1, n1, c1, rfl, hv, hb⟩
            have HV1 := hid hv
            (first | replace HZ := hid (HZ.out.trans (hb.mono HZ.out.size)) | replace HZ := hid (HZ.out.drew.trans (hb.mono HZ.out.drew.size)))
            have HZ3 := HZ
            clear hv hb
            refine hK.out _ _ (by exact HPC.out _ HZ.out) (fun hHeld => ?_)
            clear hK K
            try simp only [Act.put, List.setIfInBounds_toArray, List.set_cons_zero, List.set_cons_succ]
            refine wpAnyH_ready (rs := [15]) (by kernel_rfl) (by simp) ?_
            refine AllReadyH.cons (o := { dst := some 87, op := Op.call { callee := Callee.value (Operand.func 52), args := #[Operand.tmp 84, Operand.tmp 86], argTypes := #[23, 23] }, type := _, pos := _, after := _, guard := none }) rfl (fun K hK => ?_) AllReadyH.nil
            go_simp
            refine (join_sl _ _ _ _ _ _ _ (HNL.out.below HZ.out) (HNLp.out.below HZ.out) HLN.out.2).mono ?_
            rintro e w4 ⟨A2, n2, c2, rfl, hv, hb⟩
            have HV2 := hid (hv.mono (S' := fun b => w2.heap.size ≤ b) fun b h1 _ => Nat.le_trans HZ.out.size h1)
            replace HV1 := hid ((HV1.out.mono (S' := fun b => w2.heap.size ≤ b) fun b h1 _ => h1).below hb)
            replace HZ := hid (HZ.out.trans (hb.mono HZ.out.size))
            have HQW := hid (HQL.out _ HZ.out)
            clear hv hb
            refine hK.out _ _ (by exact HPC.out _ HZ.out) (fun hHeld => ?_)
            clear hK K
            try simp only [Act.put, List.setIfInBounds_toArray, List.set_cons_zero, List.set_cons_succ]
            refine wpAnyH_take (i := 16) (oi := { dst := some 88, op := Op.build 95 #[(0, Operand.tmp 77), (1, Operand.tmp 82), (2, Operand.tmp 87)], type := _, pos := _, after := _, guard := none }) (v := ?_) rfl (by kernel_rfl) (by kernel_rfl) (by kernel_rfl) (fun _ _ _ h => h) (Or.inl ⟨by rfl, ?_⟩) (by assumption) ?_
            rotate_left
            · intro w hSw; (try dsimp only at hSw); go_simp; try with_reducible rfl
            try simp only [Act.put, List.setIfInBounds_toArray, List.set_cons_zero, List.set_cons_succ]
            refine wpAnyH_ready (rs := [17]) (by kernel_rfl) (by simp) ?_
            refine AllReadyH.cons (o := { dst := none, op := Op.store 95 (Operand.tmp 8) (Operand.tmp 88), type := _, pos := _, after := _, guard := none }) rfl (fun K hK => ?_) AllReadyH.nil
            obtain ⟨z0, z1, z2, zf⟩ := HQW.out
            have zf0 := zf 0
            have zf1 := zf 1
            have zf2 := zf 2
            clear zf
            go_simp
            refine hK.out _ _ (by exact HPS.out _ HZ.out _ _ _) (fun hHeld => ?_)
            clear hK K
            try simp only [Act.put, List.setIfInBounds_toArray, List.set_cons_zero, List.set_cons_succ]
            refine wpAnyH_done (by kernel_rfl) ?_ _
        case' legC2n1 =>
          intro K hK
          go_simp
          first | rw [HQC.out.2.2] | rw [(HQL.out _ HZ.out).2.2.1]
          go_simp
          refine hK.out _ _ (by first | exact HS0.out | exact HPC.out _ HZ.out) (fun hHeld => ?_)
          clear hK K
          try simp only [Act.put, List.setIfInBounds_toArray, List.set_cons_zero, List.set_cons_succ]
          refine wpAnyH_ready (rs := [1, 7]) (by kernel_rfl) (by simp) ?_
          refine AllReadyH.cons (o := { dst := some 73, op := Op.load 4 (Operand.tmp 72), type := _, pos := _, after := _, guard := none }) rfl ?legA2n6 (AllReadyH.cons (o := { dst := some 79, op := Op.load 23 (Operand.tmp 78), type := _, pos := _, after := _, guard := none }) rfl ?legB2n6 AllReadyH.nil)
          case' legA2n6 =>
            intro K hK
            go_simp
            first | rw [HQC.out.1] | rw [(HQL.out _ HZ.out).1]
            go_simp
            refine hK.out _ _ (by first | exact HS0.out | exact HPC.out _ HZ.out) (fun hHeld => ?_)
            clear hK K
            try simp only [Act.put, List.setIfInBounds_toArray, List.set_cons_zero, List.set_cons_succ]
            refine wpAnyH_take (i := 2) (oi := { dst := some 74, op := Op.move (Operand.tmp 73), type := _, pos := _, after := _, guard := none }) (v := ?_) rfl (by kernel_rfl) (by kernel_rfl) (by kernel_rfl) (fun _ _ _ h => h) (Or.inl ⟨by rfl, ?_⟩) (by assumption) ?_
            rotate_left
            · intro w hSw; (try dsimp only at hSw); go_simp; try with_reducible rfl
            try simp only [Act.put, List.setIfInBounds_toArray, List.set_cons_zero, List.set_cons_succ]
            refine wpAnyH_take (i := 3) (oi := { dst := some 75, op := Op.fieldAddr 95 (Operand.tmp 10) 0, type := _, pos := _, after := _, guard := some (2, false) }) (v := ?_) rfl (by kernel_rfl) (by kernel_rfl) (by kernel_rfl) (fun _ _ _ h => h) (Or.inl ⟨by rfl, ?_⟩) (by assumption) ?_
            rotate_left
            · intro w hSw; (try dsimp only at hSw); go_simp; try with_reducible rfl
            try simp only [Act.put, List.setIfInBounds_toArray, List.set_cons_zero, List.set_cons_succ]
            refine wpAnyH_take (i := 4) (oi := { dst := some 76, op := Op.load 4 (Operand.tmp 75), type := _, pos := _, after := _, guard := some (2, false) }) (v := ?_) rfl (by kernel_rfl) (by kernel_rfl) (by kernel_rfl) (fun _ _ _ h => h) (Or.inl ⟨by rfl, ?_⟩) (by assumption) ?_
            rotate_left
            · intro w hSw; (try dsimp only at hSw); go_simp; try with_reducible rfl
            try simp only [Act.put, List.setIfInBounds_toArray, List.set_cons_zero, List.set_cons_succ]
            refine wpAnyH_take (i := 5) (oi := { dst := some 77, op := Op.pick (Operand.tmp 74) (Operand.const (Value.bool true)) (Operand.tmp 76), type := _, pos := _, after := _, guard := none }) (v := ?_) rfl (by kernel_rfl) (by kernel_rfl) (by kernel_rfl) (fun _ _ _ h => h) (Or.inl ⟨by rfl, ?_⟩) (by assumption) ?_
            rotate_left
            · intro w hSw; (try dsimp only at hSw); go_simp; try with_reducible rfl
            try simp only [Act.put, List.setIfInBounds_toArray, List.set_cons_zero, List.set_cons_succ]
            refine wpAnyH_ready (rs := [7]) (by kernel_rfl) (by simp) ?_
            refine AllReadyH.cons (o := { dst := some 79, op := Op.load 23 (Operand.tmp 78), type := _, pos := _, after := _, guard := none }) rfl (fun K hK => ?_) AllReadyH.nil
            go_simp
            first | rw [HQC.out.2.1] | rw [(HQL.out _ HZ.out).2.1]
            go_simp
            refine hK.out _ _ (by first | exact HS0.out | exact HPC.out _ HZ.out) (fun hHeld => ?_)
            clear hK K
            try simp only [Act.put, List.setIfInBounds_toArray, List.set_cons_zero, List.set_cons_succ]
            refine wpAnyH_ready (rs := [10]) (by kernel_rfl) (by simp) ?_
            refine AllReadyH.cons (o := { dst := some 82, op := Op.call { callee := Callee.value (Operand.func 52), args := #[Operand.tmp 79, Operand.tmp 81], argTypes := #[23, 23] }, type := _, pos := _, after := _, guard := none }) rfl (fun K hK => ?_) AllReadyH.nil
            go_simp
            refine (join_sl _ _ _ _ _ _ _ (by first | exact HNF.out.below HZ.out | exact HNF.out.below HZ.out.drew) (by first | exact HNFp.out.below HZ.out | exact HNFp.out.below HZ.out.drew) HLN.out.1).mono ?_
            rintro e w3 ⟨A1, n1, c1, rfl, hv, hb⟩
            have HV1 := hid hv
            (first | replace HZ := hid (HZ.out.trans (hb.mono HZ.out.size)) | replace HZ := hid (HZ.out.drew.trans (hb.mono HZ.out.drew.size)))
            have HZ3 := HZ
            clear hv hb
            refine hK.out _ _ (by exact HPC.out _ HZ.out) (fun hHeld => ?_)
            clear hK K
            try simp only [Act.put, List.setIfInBounds_toArray, List.set_cons_zero, List.set_cons_succ]
            refine wpAnyH_ready (rs := [15]) (by kernel_rfl) (by simp) ?_
            refine AllReadyH.cons (o := { dst := some 87, op := Op.call { callee := Callee.value (Operand.func 52), args := #[Operand.tmp 84, Operand.tmp 86], argTypes := #[23, 23] }, type := _, pos := _, after := _, guard := none }) rfl (fun K hK => ?_) AllReadyH.nil
            go_simp
            refine (join_sl _ _ _ _ _ _ _ (HNL.out.below HZ.out) (HNLp.out.below HZ.out) HLN.out.2).mono ?_
            rintro e w4 ⟨A2, n2, c2, rfl, hv, hb⟩
            have HV2 := hid (hv.mono (S' := fun b => w2.heap.size ≤ b) fun b h1 _ => Nat.le_trans HZ.out.size h1)
            replace HV1 := hid ((HV1.out.mono (S' := fun b => w2.heap.size ≤ b) fun b h1 _ => h1).below hb)
            replace HZ := hid (HZ.out.trans (hb.mono HZ.out.size))
            have HQW := hid (HQL.out _ HZ.out)
            clear hv hb
            refine hK.out _ _ (by exact HPC.out _ HZ.out) (fun hHeld => ?_)
            clear hK K
            try simp only [Act.put, List.setIfInBounds_toArray, List.set_cons_zero, List.set_cons_succ]
            refine wpAnyH_take (i := 16) (oi := { dst := some 88, op := Op.build 95 #[(0, Operand.tmp 77), (1, Operand.tmp 82), (2, Operand.tmp 87)], type := _, pos := _, after := _, guard := none }) (v := ?_) rfl (by kernel_rfl) (by kernel_rfl) (by kernel_rfl) (fun _ _ _ h => h) (Or.inl ⟨by rfl, ?_⟩) (by assumption) ?_
            rotate_left
            · intro w hSw; (try dsimp only at hSw); go_simp; try with_reducible rfl
            try simp only [Act.put, List.setIfInBounds_toArray, List.set_cons_zero, List.set_cons_succ]
            refine wpAnyH_ready (rs := [17]) (by kernel_rfl) (by simp) ?_
            refine AllReadyH.cons (o := { dst := none, op := Op.store 95 (Operand.tmp 8) (Operand.tmp 88), type := _, pos := _, after := _, guard := none }) rfl (fun K hK => ?_) AllReadyH.nil
            obtain ⟨z0, z1, z2, zf⟩ := HQW.out
            have zf0 := zf 0
            have zf1 := zf 1
            have zf2 := zf 2
            clear zf
            go_simp
            refine hK.out _ _ (by exact HPS.out _ HZ.out _ _ _) (fun hHeld => ?_)
            clear hK K
            try simp only [Act.put, List.setIfInBounds_toArray, List.set_cons_zero, List.set_cons_succ]
            refine wpAnyH_done (by kernel_rfl) ?_ _
          case' legB2n6 =>
            intro K hK
            go_simp
            first | rw [HQC.out.2.1] | rw [(HQL.out _ HZ.out).2.1]
            go_simp
            refine hK.out _ _ (by first | exact HS0.out | exact HPC.out _ HZ.out) (fun hHeld => ?_)
            clear hK K
            try simp only [Act.put, List.setIfInBounds_toArray, List.set_cons_zero, List.set_cons_succ]
            refine wpAnyH_ready (rs := [1]) (by kernel_rfl) (by simp) ?_
            refine AllReadyH.cons (o := { dst := some 73, op := Op.load 4 (Operand.tmp 72), type := _, pos := _, after := _, guard := none }) rfl (fun K hK => ?_) AllReadyH.nil
            go_simp
            first | rw [HQC.out.1] | rw [(HQL.out _ HZ.out).1]
            go_simp
            refine hK.out _ _ (by first | exact HS0.out | exact HPC.out _ HZ.out) (fun hHeld => ?_)
            clear hK K
            try simp only [Act.put, List.setIfInBounds_toArray, List.set_cons_zero, List.set_cons_succ]
            refine wpAnyH_take (i := 2) (oi := { dst := some 74, op := Op.move (Operand.tmp 73), type := _, pos := _, after := _, guard := none }) (v := ?_) rfl (by kernel_rfl) (by kernel_rfl) (by kernel_rfl) (fun _ _ _ h => h) (Or.inl ⟨by rfl, ?_⟩) (by assumption) ?_
            rotate_left
            · intro w hSw; (try dsimp only at hSw); go_simp; try with_reducible rfl
            try simp only [Act.put, List.setIfInBounds_toArray, List.set_cons_zero, List.set_cons_succ]
            refine wpAnyH_take (i := 3) (oi := { dst := some 75, op := Op.fieldAddr 95 (Operand.tmp 10) 0, type := _, pos := _, after := _, guard := some (2, false) }) (v := ?_) rfl (by kernel_rfl) (by kernel_rfl) (by kernel_rfl) (fun _ _ _ h => h) (Or.inl ⟨by rfl, ?_⟩) (by assumption) ?_
            rotate_left
            · intro w hSw; (try dsimp only at hSw); go_simp; try with_reducible rfl
            try simp only [Act.put, List.setIfInBounds_toArray, List.set_cons_zero, List.set_cons_succ]
            refine wpAnyH_take (i := 4) (oi := { dst := some 76, op := Op.load 4 (Operand.tmp 75), type := _, pos := _, after := _, guard := some (2, false) }) (v := ?_) rfl (by kernel_rfl) (by kernel_rfl) (by kernel_rfl) (fun _ _ _ h => h) (Or.inl ⟨by rfl, ?_⟩) (by assumption) ?_
            rotate_left
            · intro w hSw; (try dsimp only at hSw); go_simp; try with_reducible rfl
            try simp only [Act.put, List.setIfInBounds_toArray, List.set_cons_zero, List.set_cons_succ]
            refine wpAnyH_take (i := 5) (oi := { dst := some 77, op := Op.pick (Operand.tmp 74) (Operand.const (Value.bool true)) (Operand.tmp 76), type := _, pos := _, after := _, guard := none }) (v := ?_) rfl (by kernel_rfl) (by kernel_rfl) (by kernel_rfl) (fun _ _ _ h => h) (Or.inl ⟨by rfl, ?_⟩) (by assumption) ?_
            rotate_left
            · intro w hSw; (try dsimp only at hSw); go_simp; try with_reducible rfl
            try simp only [Act.put, List.setIfInBounds_toArray, List.set_cons_zero, List.set_cons_succ]
            refine wpAnyH_ready (rs := [10]) (by kernel_rfl) (by simp) ?_
            refine AllReadyH.cons (o := { dst := some 82, op := Op.call { callee := Callee.value (Operand.func 52), args := #[Operand.tmp 79, Operand.tmp 81], argTypes := #[23, 23] }, type := _, pos := _, after := _, guard := none }) rfl (fun K hK => ?_) AllReadyH.nil
            go_simp
            refine (join_sl _ _ _ _ _ _ _ (by first | exact HNF.out.below HZ.out | exact HNF.out.below HZ.out.drew) (by first | exact HNFp.out.below HZ.out | exact HNFp.out.below HZ.out.drew) HLN.out.1).mono ?_
            rintro e w3 ⟨A1, n1, c1, rfl, hv, hb⟩
            have HV1 := hid hv
            (first | replace HZ := hid (HZ.out.trans (hb.mono HZ.out.size)) | replace HZ := hid (HZ.out.drew.trans (hb.mono HZ.out.drew.size)))
            have HZ3 := HZ
            clear hv hb
            refine hK.out _ _ (by exact HPC.out _ HZ.out) (fun hHeld => ?_)
            clear hK K
            try simp only [Act.put, List.setIfInBounds_toArray, List.set_cons_zero, List.set_cons_succ]
            refine wpAnyH_ready (rs := [15]) (by kernel_rfl) (by simp) ?_
            refine AllReadyH.cons (o := { dst := some 87, op := Op.call { callee := Callee.value (Operand.func 52), args := #[Operand.tmp 84, Operand.tmp 86], argTypes := #[23, 23] }, type := _, pos := _, after := _, guard := none }) rfl (fun K hK => ?_) AllReadyH.nil
            go_simp
            refine (join_sl _ _ _ _ _ _ _ (HNL.out.below HZ.out) (HNLp.out.below HZ.out) HLN.out.2).mono ?_
            rintro e w4 ⟨A2, n2, c2, rfl, hv, hb⟩
            have HV2 := hid (hv.mono (S' := fun b => w2.heap.size ≤ b) fun b h1 _ => Nat.le_trans HZ.out.size h1)
            replace HV1 := hid ((HV1.out.mono (S' := fun b => w2.heap.size ≤ b) fun b h1 _ => h1).below hb)
            replace HZ := hid (HZ.out.trans (hb.mono HZ.out.size))
            have HQW := hid (HQL.out _ HZ.out)
            clear hv hb
            refine hK.out _ _ (by exact HPC.out _ HZ.out) (fun hHeld => ?_)
            clear hK K
            try simp only [Act.put, List.setIfInBounds_toArray, List.set_cons_zero, List.set_cons_succ]
            refine wpAnyH_take (i := 16) (oi := { dst := some 88, op := Op.build 95 #[(0, Operand.tmp 77), (1, Operand.tmp 82), (2, Operand.tmp 87)], type := _, pos := _, after := _, guard := none }) (v := ?_) rfl (by kernel_rfl) (by kernel_rfl) (by kernel_rfl) (fun _ _ _ h => h) (Or.inl ⟨by rfl, ?_⟩) (by assumption) ?_
            rotate_left
            · intro w hSw; (try dsimp only at hSw); go_simp; try with_reducible rfl
            try simp only [Act.put, List.setIfInBounds_toArray, List.set_cons_zero, List.set_cons_succ]
            refine wpAnyH_ready (rs := [17]) (by kernel_rfl) (by simp) ?_
            refine AllReadyH.cons (o := { dst := none, op := Op.store 95 (Operand.tmp 8) (Operand.tmp 88), type := _, pos := _, after := _, guard := none }) rfl (fun K hK => ?_) AllReadyH.nil
            obtain ⟨z0, z1, z2, zf⟩ := HQW.out
            have zf0 := zf 0
            have zf1 := zf 1
            have zf2 := zf 2
            clear zf
            go_simp
            refine hK.out _ _ (by exact HPS.out _ HZ.out _ _ _) (fun hHeld => ?_)
            clear hK K
            try simp only [Act.put, List.setIfInBounds_toArray, List.set_cons_zero, List.set_cons_succ]
            refine wpAnyH_done (by kernel_rfl) ?_ _
        all_goals
          go_wp2_with fail
          refine ⟨⟨i + 1, by omega, by go_num, hid (by have h := (HS.out.join2 HZ.out HV1.out HV2.out pe).head; rw [HSUCC.out, stepK_alt H4.out, HOE.out, Bool.false_or, ← HPE.out]; exact h)⟩, by simp [intOf]; omega⟩
    · obtain rfl : i = kn := by omega
      have HE := hid (foldK_end (of := of) HRM.out (by rw [← HKN.out]; omega))
      rw [← HKN.out, ← HO.out] at HE
      have HH := HH
      obtain ⟨F, L, hqb, hF, hL⟩ := id r2
      obtain ⟨FA, nF, fc, rfl⟩ := sl_form hF
      obtain ⟨LA, nL, lc, rfl⟩ := sl_form hL
      have HPA := hid (pair_any (vb := .slice FA nF fc) (va := .slice LA nL lc) r1 (hL.mono fun b hb _ e => hb (.inl e)) (hF.mono fun b hb _ e => hb (.inl e)) HE.out.2.1 HE.out.1 HE.out.2.2)
      have HR2 := hid r2
      have HR3 := hid r3
      have HR4 := hid r4
      have HR5 := hid (And.intro r5 r6)
      have HC6 := hid c6
      obtain ⟨z0, z1, z2, zf⟩ := slot3 hqb
      have zf0 := zf 0
      obtain ⟨y0, y1, y2, yf⟩ := slot3 c6
      have HQB6 := hid (show q4 + 1 ≠ q by have := HQB.out; omega)
      clear hF hL zf hoo r1 r2 r3 r4 r5 r6 crow c4 c6
      by_cases h6 : kd = 6
      · have H6 := hid h6
        have h6a : (kd == 6) = true := ieq_true h6
        clear h6
        have HEK := hid (show endK kd (foldK d t of s i) = (⟨true, o.1.fst, o.1.lst⟩, ⟨o.2.lv, o.2.of, o.2.prs ++ pairP o.1.lst o.1.fst⟩) from by rw [← HO.out]; unfold endK; rw [if_pos (.inl H6.out), decide_eq_true H6.out, Bool.or_true, Bool.true_or])
        go_wp2_with fail
        refine HPA.out.mono ?_
        rintro e w1 ⟨rfl, hpr⟩
        have HP := hid (LkH.pair HR2.out HR3.out HR4.out HR5.out.1 HR5.out.2 hpr)
        clear hpr z0 z1 z2 zf0 y0 y1 y2 yf f0 f1 f2
        obtain ⟨m1, m2, m5, -, ⟨F', L', hqb, hF, hL⟩, hke, -, -, -⟩ := HP.out
        obtain ⟨A1, n1, c1, rfl⟩ := sl_form hF
        obtain ⟨A2, n2, c2, rfl⟩ := sl_form hL
        obtain ⟨c4, c6, -⟩ := HKEEP.out _ hke
        obtain ⟨f0, -, f2, -⟩ := slot3 c4
        obtain ⟨y0, y1, y2, yf⟩ := slot3 c6
        have yf0 := yf 0
        have yf1 := yf 1
        have yf2 := yf 2
        obtain ⟨z0, z1, z2, zf⟩ := slot3 hqb
        have zf0 := zf 0
        have HQBL := hid hqb
        have hq6 := HQB6.out
        have hq6' := Ne.symm HQB6.out
        clear c4 c6 hqb hF hL hke yf zf
        cases hoe : o.1.emp with
        | true =>
          rw [hoe] at z0
          have HOE := hid hoe
          clear hoe
          go_wp2_with fail
          have HFIN := hid (LkH.ans (x := .bool true) (y := .slice A1 n1 c1) (z := .slice A2 n2 c2) (q6 := q4 + 1) (F := .slice A1 n1 c1) (L := .slice A2 n2 c2) (HP.out.setE true) HWB.out (heap_setCell_same _ q 0 _ 95 (.bool true) HQBL.out) (by have := HQB.out; omega) (by have := HQB.out; omega) fun b hb => by have := (HT.out b hb).2; omega)
          refine bodyPost_ret (v := .agg #[.bool true, .slice A1 n1 c1, .slice A2 n2 c2]) (by simp [results, Try.results51, go_sem, y0, y1, y2, yf0, yf1, yf2, hq6, hq6']) rfl ?_
          rw [HEK.out]
          exact HFIN.out
        | false =>
          rw [hoe] at z0
          have HOE := hid hoe
          clear hoe
          go_wp2_with fail
          have HFIN := hid (LkH.ans (x := .bool true) (y := .slice A1 n1 c1) (z := .slice A2 n2 c2) (q6 := q4 + 1) (F := .slice A1 n1 c1) (L := .slice A2 n2 c2) (HP.out.setE true) HWB.out (heap_setCell_same _ q 0 _ 95 (.bool true) HQBL.out) (by have := HQB.out; omega) (by have := HQB.out; omega) fun b hb => by have := (HT.out b hb).2; omega)
          refine bodyPost_ret (v := .agg #[.bool true, .slice A1 n1 c1, .slice A2 n2 c2]) (by simp [results, Try.results51, go_sem, y0, y1, y2, yf0, yf1, yf2, hq6, hq6']) rfl ?_
          rw [HEK.out]
          exact HFIN.out
      by_cases h7 : kd = 7
      · have H7 := hid h7
        have h6a : (kd == 6) = false := ieq_false h6
        have h7a : (kd == 7) = true := ieq_true h7
        have h8a : (kd == 8) = false := ieq_false (by omega)
        clear h6 h7
        have HEK := hid (show endK kd (foldK d t of s i) = (⟨o.1.emp, o.1.fst, o.1.lst⟩, ⟨o.2.lv, o.2.of, o.2.prs ++ pairP o.1.lst o.1.fst⟩) from by rw [← HO.out]; unfold endK; rw [if_pos (.inr H7.out), decide_eq_false (by have := H7.out; omega : ¬ kd = 6), decide_eq_false (by have := H7.out; omega : ¬ kd = 8), Bool.or_false, Bool.or_false])
        go_wp2_with fail
        refine HPA.out.mono ?_
        rintro e w1 ⟨rfl, hpr⟩
        have HP := hid (LkH.pair HR2.out HR3.out HR4.out HR5.out.1 HR5.out.2 hpr)
        clear hpr z0 z1 z2 zf0 y0 y1 y2 yf f0 f1 f2
        obtain ⟨m1, m2, m5, -, ⟨F', L', hqb, hF, hL⟩, hke, -, -, -⟩ := HP.out
        obtain ⟨A1, n1, c1, rfl⟩ := sl_form hF
        obtain ⟨A2, n2, c2, rfl⟩ := sl_form hL
        obtain ⟨c4, c6, -⟩ := HKEEP.out _ hke
        obtain ⟨f0, -, f2, -⟩ := slot3 c4
        obtain ⟨y0, y1, y2, yf⟩ := slot3 c6
        have yf0 := yf 0
        have yf1 := yf 1
        have yf2 := yf 2
        obtain ⟨z0, z1, z2, zf⟩ := slot3 hqb
        have zf0 := zf 0
        have HQBL := hid hqb
        have hq6 := HQB6.out
        have hq6' := Ne.symm HQB6.out
        clear c4 c6 hqb hF hL hke yf zf
        cases hoe : o.1.emp with
        | true =>
          rw [hoe] at z0
          have HOE := hid hoe
          clear hoe
          go_wp2_with fail
          have HFIN := hid (LkH.ans (x := .bool true) (y := .slice A1 n1 c1) (z := .slice A2 n2 c2) (q6 := q4 + 1) (F := .slice A1 n1 c1) (L := .slice A2 n2 c2) (HP.out.setE true) HWB.out (heap_setCell_same _ q 0 _ 95 (.bool true) HQBL.out) (by have := HQB.out; omega) (by have := HQB.out; omega) fun b hb => by have := (HT.out b hb).2; omega)
          refine bodyPost_ret (v := .agg #[.bool true, .slice A1 n1 c1, .slice A2 n2 c2]) (by simp [results, Try.results51, go_sem, y0, y1, y2, yf0, yf1, yf2, hq6, hq6']) rfl ?_
          rw [HEK.out, HOE.out]
          exact HFIN.out
        | false =>
          rw [hoe] at z0
          have HOE := hid hoe
          clear hoe
          go_wp2_with fail
          have HFIN := hid (LkH.ans (x := .bool false) (y := .slice A1 n1 c1) (z := .slice A2 n2 c2) (q6 := q4 + 1) (F := .slice A1 n1 c1) (L := .slice A2 n2 c2) (HP.out.setE false) HWB.out (heap_setCell_same _ q 0 _ 95 (.bool false) HQBL.out) (by have := HQB.out; omega) (by have := HQB.out; omega) fun b hb => by have := (HT.out b hb).2; omega)
          refine bodyPost_ret (v := .agg #[.bool false, .slice A1 n1 c1, .slice A2 n2 c2]) (by simp [results, Try.results51, go_sem, y0, y1, y2, yf0, yf1, yf2, hq6, hq6']) rfl ?_
          rw [HEK.out, HOE.out]
          exact HFIN.out
      by_cases h8 : kd = 8
      · have H8 := hid h8
        have h6a : (kd == 6) = false := ieq_false h6
        have h7a : (kd == 7) = false := ieq_false h7
        have h8a : (kd == 8) = true := ieq_true h8
        clear h6 h7 h8
        have HEK := hid (show endK kd (foldK d t of s i) = (⟨true, o.1.fst, o.1.lst⟩, o.2) from by rw [← HO.out]; unfold endK; rw [if_neg (by have := H8.out; omega), decide_eq_true H8.out, Bool.or_true])
        have HP := HH
        clear z0 z1 z2 zf0 y0 y1 y2 yf f0 f1 f2
        obtain ⟨m1, m2, m5, -, ⟨F', L', hqb, hF, hL⟩, hke, -, -, -⟩ := HP.out
        obtain ⟨A1, n1, c1, rfl⟩ := sl_form hF
        obtain ⟨A2, n2, c2, rfl⟩ := sl_form hL
        obtain ⟨c4, c6, -⟩ := HKEEP.out _ hke
        obtain ⟨f0, -, f2, -⟩ := slot3 c4
        obtain ⟨y0, y1, y2, yf⟩ := slot3 c6
        have yf0 := yf 0
        have yf1 := yf 1
        have yf2 := yf 2
        obtain ⟨z0, z1, z2, zf⟩ := slot3 hqb
        have zf0 := zf 0
        have HQBL := hid hqb
        have hq6 := HQB6.out
        have hq6' := Ne.symm HQB6.out
        clear c4 c6 hqb hF hL hke yf zf
        cases hoe : o.1.emp with
        | true =>
          rw [hoe] at z0
          have HOE := hid hoe
          clear hoe
          go_wp2_with fail
          have HFIN := hid (LkH.ans (x := .bool true) (y := .slice A1 n1 c1) (z := .slice A2 n2 c2) (q6 := q4 + 1) (F := .slice A1 n1 c1) (L := .slice A2 n2 c2) (HP.out.setE true) HWB.out (heap_setCell_same _ q 0 _ 95 (.bool true) HQBL.out) (by have := HQB.out; omega) (by have := HQB.out; omega) fun b hb => by have := (HT.out b hb).2; omega)
          refine bodyPost_ret (v := .agg #[.bool true, .slice A1 n1 c1, .slice A2 n2 c2]) (by simp [results, Try.results51, go_sem, y0, y1, y2, yf0, yf1, yf2, hq6, hq6']) rfl ?_
          rw [HEK.out]
          exact HFIN.out
        | false =>
          rw [hoe] at z0
          have HOE := hid hoe
          clear hoe
          go_wp2_with fail
          have HFIN := hid (LkH.ans (x := .bool true) (y := .slice A1 n1 c1) (z := .slice A2 n2 c2) (q6 := q4 + 1) (F := .slice A1 n1 c1) (L := .slice A2 n2 c2) (HP.out.setE true) HWB.out (heap_setCell_same _ q 0 _ 95 (.bool true) HQBL.out) (by have := HQB.out; omega) (by have := HQB.out; omega) fun b hb => by have := (HT.out b hb).2; omega)
          refine bodyPost_ret (v := .agg #[.bool true, .slice A1 n1 c1, .slice A2 n2 c2]) (by simp [results, Try.results51, go_sem, y0, y1, y2, yf0, yf1, yf2, hq6, hq6']) rfl ?_
          rw [HEK.out]
          exact HFIN.out
      have H678 := hid (And.intro h6 (And.intro h7 h8))
      have h6a : (kd == 6) = false := ieq_false h6
      have h7a : (kd == 7) = false := ieq_false h7
      have h8a : (kd == 8) = false := ieq_false h8
      clear h6 h7 h8
      have HEK := hid (show endK kd (foldK d t of s i) = (⟨o.1.emp, o.1.fst, o.1.lst⟩, o.2) from by rw [← HO.out]; unfold endK; rw [if_neg (by have := H678.out; omega), decide_eq_false H678.out.1, decide_eq_false H678.out.2.2, Bool.or_false, Bool.or_false])
      have HP := HH
      clear z0 z1 z2 zf0 y0 y1 y2 yf f0 f1 f2
      obtain ⟨m1, m2, m5, -, ⟨F', L', hqb, hF, hL⟩, hke, -, -, -⟩ := HP.out
      obtain ⟨A1, n1, c1, rfl⟩ := sl_form hF
      obtain ⟨A2, n2, c2, rfl⟩ := sl_form hL
      obtain ⟨c4, c6, -⟩ := HKEEP.out _ hke
      obtain ⟨f0, -, f2, -⟩ := slot3 c4
      obtain ⟨y0, y1, y2, yf⟩ := slot3 c6
      have yf0 := yf 0
      have yf1 := yf 1
      have yf2 := yf 2
      obtain ⟨z0, z1, z2, zf⟩ := slot3 hqb
      have zf0 := zf 0
      have HQBL := hid hqb
      have hq6 := HQB6.out
      have hq6' := Ne.symm HQB6.out
      clear c4 c6 hqb hF hL hke yf zf
      cases hoe : o.1.emp with
      | true =>
        rw [hoe] at z0
        have HOE := hid hoe
        clear hoe
        go_wp2_with fail
        have HFIN := hid (LkH.ans (x := .bool true) (y := .slice A1 n1 c1) (z := .slice A2 n2 c2) (q6 := q4 + 1) (F := .slice A1 n1 c1) (L := .slice A2 n2 c2) (HP.out.setE true) HWB.out (heap_setCell_same _ q 0 _ 95 (.bool true) HQBL.out) (by have := HQB.out; omega) (by have := HQB.out; omega) fun b hb => by have := (HT.out b hb).2; omega)
        refine bodyPost_ret (v := .agg #[.bool true, .slice A1 n1 c1, .slice A2 n2 c2]) (by simp [results, Try.results51, go_sem, y0, y1, y2, yf0, yf1, yf2, hq6, hq6']) rfl ?_
        rw [HEK.out, HOE.out]
        exact HFIN.out
      | false =>
        rw [hoe] at z0
        have HOE := hid hoe
        clear hoe
        go_wp2_with fail
        have HFIN := hid (LkH.ans (x := .bool false) (y := .slice A1 n1 c1) (z := .slice A2 n2 c2) (q6 := q4 + 1) (F := .slice A1 n1 c1) (L := .slice A2 n2 c2) (HP.out.setE false) HWB.out (heap_setCell_same _ q 0 _ 95 (.bool false) HQBL.out) (by have := HQB.out; omega) (by have := HQB.out; omega) fun b hb => by have := (HT.out b hb).2; omega)
        refine bodyPost_ret (v := .agg #[.bool false, .slice A1 n1 c1, .slice A2 n2 c2]) (by simp [results, Try.results51, go_sem, y0, y1, y2, yf0, yf1, yf2, hq6, hq6']) rfl ?_
        rw [HEK.out, HOE.out]
        exact HFIN.out
end Go.Proofs.Ythdhbkngbmjjkaa
