/- Expressions in memory, said by plain trees; how deep they are does not matter. Conditions: none. -/
import Derived.Test.YtjcdcmeclnihbaaPs
import Derived.Test.YtjcdcmeclnihbaaTo
namespace Go.Proofs.Ytjcdcmeclnihbaa
open Go.RowKit
def toP : (d : Nat) → Tr d → PT
  | 0, t => t.elim
  | d + 1, t => .mk (Tr.kind t) (Tr.cls t) ((Tr.kids t).map (toP d))
theorem toP_succ {d : Nat} (t : Tr (d + 1)) : toP (d + 1) t = .mk (Tr.kind t) (Tr.cls t) ((Tr.kids t).map (toP d)) := rfl
/-- What lies in memory is one tree by whatever depth it is read. -/
theorem IsTr.turn {w : World} {S : Nat → Prop} : ∀ (d : Nat) {d' : Nat} {v : Value} {t : Tr d} {t' : Tr d'}, IsTr w S d v t → toP d t = toP d' t' → IsTr w S d' v t'
  | 0, _, _, t, _, _, _ => t.elim
  | d + 1, 0, _, _, t', _, _ => t'.elim
  | d + 1, d' + 1, v, t, t', h, e => by
    rw [toP_succ, toP_succ] at e
    injection e with e1 e2 e3
    obtain ⟨A, c, ev, h1, h2, h3⟩ := h
    have hl : (Tr.kids t).length = (Tr.kids t').length := by have := congrArg List.length e3; simpa using this
    refine ⟨A, c, by rw [ev, e1, e2, hl], by omega, h2, fun k u hu => ?_⟩
    have hk : k < (Tr.kids t).length := by have := (List.getElem?_eq_some_iff.1 hu).1; omega
    obtain ⟨b, o, v0, v1, v2, a1, a2, a3, a4, a5, a6, a7⟩ := h3 k _ (List.getElem?_eq_getElem hk)
    refine ⟨b, o, v0, v1, v2, a1, a2, a3, a4, a5, a6, IsTr.turn d a7 ?_⟩
    have e4 := congrArg (fun l => l[k]?) e3
    simp only [List.getElem?_map, List.getElem?_eq_getElem hk, hu, Option.map_some] at e4
    exact Option.some.inj e4
/-- A tree that is one deeper at most. -/
def up1 : (d : Nat) → Tr d → Tr (d + 1)
  | 0, t => t.elim
  | d + 1, t => (Tr.kind t, Tr.cls t, (Tr.kids t).map (up1 d))
theorem toP_up1 : ∀ (d : Nat) (t : Tr d), toP (d + 1) (up1 d t) = toP d t
  | 0, t => t.elim
  | d + 1, t => by
    rw [toP_succ, toP_succ]
    show PT.mk (Tr.kind t) (Tr.cls t) (((Tr.kids t).map (up1 d)).map (toP (d + 1))) = _
    rw [List.map_map]
    congr 1
    exact List.map_congr_left fun x _ => toP_up1 d x
def ups (d : Nat) : (k : Nat) → Tr d → Tr (d + k)
  | 0, t => t
  | k + 1, t => up1 (d + k) (ups d k t)
theorem toP_ups (d : Nat) : ∀ (k : Nat) (t : Tr d), toP (d + k) (ups d k t) = toP d t
  | 0, _ => rfl
  | k + 1, t => (toP_up1 (d + k) _).trans (toP_ups d k t)
theorem toP_le {d e : Nat} (h : d ≤ e) (t : Tr d) : ∃ t' : Tr e, toP e t' = toP d t := by
  obtain ⟨k, rfl⟩ : ∃ k, e = d + k := ⟨e - d, by omega⟩
  exact ⟨ups d k t, toP_ups d k t⟩
theorem toPs_le {d e : Nat} (h : d ≤ e) (l : List (Tr d)) : ∃ l' : List (Tr e), l'.map (toP e) = l.map (toP d) := by
  obtain ⟨k, rfl⟩ : ∃ k, e = d + k := ⟨e - d, by omega⟩
  exact ⟨l.map (ups d k), by rw [List.map_map]; exact List.map_congr_left fun x _ => toP_ups d k x⟩
/-- An expression in memory. -/
def IsP (w : World) (S : Nat → Prop) (v : Value) (p : PT) : Prop := ∃ d, ∃ t : Tr d, IsTr w S d v t ∧ toP d t = p
section
variable {w w' : World} {S S' : Nat → Prop} {v : Value} {p : PT}
theorem IsP.imp (h : IsP w S v p) (hk : ∀ b, S b → b < w.heap.size → w'.heap[b]? = w.heap[b]?) (hS : ∀ b, S b → b < w.heap.size → S' b) : IsP w' S' v p := by
  obtain ⟨d, t, h1, h2⟩ := h
  exact ⟨d, t, IsTr.imp hk hS d v t h1, h2⟩
theorem IsP.below (h : IsP w S v p) (hb : Below w.heap.size w w') : IsP w' S v p := h.imp (fun b _ hlt => hb.block b hlt) fun _ h _ => h
theorem IsP.mono (h : IsP w S v p) (hS : ∀ b, S b → b < w.heap.size → S' b) : IsP w S' v p := h.imp (fun _ _ _ => rfl) hS
theorem IsP.tr {d : Nat} {t : Tr d} (h : IsP w S v p) (e : toP d t = p) : IsTr w S d v t := by
  obtain ⟨d', t', h1, h2⟩ := h
  exact h1.turn d' (h2.trans e.symm)
theorem IsP.form (h : IsP w S v p) : ∃ A c, v = .agg #[.int .i64 p.kind, .int .i64 p.cls, .slice A p.kids.length c] := by
  obtain ⟨d, t, h1, rfl⟩ := h
  cases d with
  | zero => exact t.elim
  | succ d =>
    obtain ⟨A, c, e, -⟩ := h1
    refine ⟨A, c, ?_⟩
    rw [e, toP_succ]
    simp only [PT.kind, PT.cls, PT.kids, List.length_map]
theorem IsP.leaf (w : World) (S : Nat → Prop) (k c : Int) : IsP w S (.agg #[.int .i64 k, .int .i64 c, .slice none 0 0]) (.mk k c []) :=
  ⟨1, ((k, c, []) : Tr 1), ⟨none, 0, rfl, Nat.le_refl _, Nat.zero_le _, fun k t h => by simp [Tr.kids] at h⟩, rfl⟩
end
theorem IsTr.plain {w : World} {S : Nat → Prop} {v : Value} {d : Nat} {t : Tr d} (h : IsTr w S d v t) : IsP w S v (toP d t) := ⟨d, t, h, rfl⟩
/-- Expressions of one's own, as a slice. -/
def BP (w : World) (B : Nat) (v : Value) (l : List PT) : Prop := ∃ d, ∃ ts : List (Tr d), BTr w B d v ts ∧ ts.map (toP d) = l
section
variable {w w' : World} {B : Nat} {v : Value} {l : List PT}
theorem BTr.turn {d d' : Nat} {ts : List (Tr d)} {ts' : List (Tr d')} (h : BTr w B d v ts) (e : ts.map (toP d) = ts'.map (toP d')) : BTr w B d' v ts' := by
  obtain ⟨xs, ho, hx1, hx2⟩ := h
  have hl : ts.length = ts'.length := by have := congrArg List.length e; simpa using this
  refine ⟨xs, by rw [← hl]; exact ho, by rw [← hl]; exact hx1, fun k t ht => ?_⟩
  have hk : k < ts.length := by have := (List.getElem?_eq_some_iff.1 ht).1; omega
  obtain ⟨v0, v1, v2, e0, e1, e2, hr⟩ := hx2 k _ (List.getElem?_eq_getElem hk)
  refine ⟨v0, v1, v2, e0, e1, e2, hr.turn d ?_⟩
  have e4 := congrArg (fun l => l[k]?) e
  simp only [List.getElem?_map, List.getElem?_eq_getElem hk, ht, Option.map_some] at e4
  exact Option.some.inj e4
/-- Said by the same depth. -/
theorem BP.with {p : PT} {S : Nat → Prop} {u : Value} (h : BP w B v l) (hp : IsP w S u p) : ∃ d, ∃ ts : List (Tr d), ∃ t : Tr d, BTr w B d v ts ∧ ts.map (toP d) = l ∧ IsTr w S d u t ∧ toP d t = p := by
  obtain ⟨d, ts, h1, h2⟩ := h
  obtain ⟨e, t, g1, g2⟩ := hp
  obtain ⟨ts', e1⟩ := toPs_le (Nat.le_max_left d e) ts
  obtain ⟨t', e2⟩ := toP_le (Nat.le_max_right d e) t
  exact ⟨max d e, ts', t', h1.turn e1.symm, e1.trans h2, g1.turn e e2.symm, e2.trans g2⟩
theorem BP.form (h : BP w B v l) : ∃ A c, v = .slice A l.length c := by
  obtain ⟨d, ts, h1, rfl⟩ := h
  obtain ⟨A, c, e, -⟩ := h1.form
  exact ⟨A, c, by rw [e, List.length_map]⟩
theorem BP.below (h : BP w B v l) (hb : Below w.heap.size w w') : BP w' B v l := by
  obtain ⟨d, ts, h1, h2⟩ := h
  exact ⟨d, ts, h1.below hb, h2⟩
theorem BP.keep (h : BP w B v l) (hk : ∀ b, B ≤ b → b < w.heap.size → w'.heap[b]? = w.heap[b]?) : BP w' B v l := by
  obtain ⟨d, ts, h1, h2⟩ := h
  exact ⟨d, ts, h1.keep hk, h2⟩
/-- The slice is a node's parts. -/
theorem BP.node (h : BP w B v l) (k c : Int) : IsP w (fun b => B ≤ b) (.agg #[.int .i64 k, .int .i64 c, v]) (.mk k c l) := by
  obtain ⟨d, ts, h1, h2⟩ := h
  exact ⟨d + 1, ((k, c, ts) : Tr (d + 1)), h1.tree rfl rfl rfl, by show PT.mk k c (ts.map (toP d)) = _; rw [h2]⟩
end
end Go.Proofs.Ytjcdcmeclnihbaa
