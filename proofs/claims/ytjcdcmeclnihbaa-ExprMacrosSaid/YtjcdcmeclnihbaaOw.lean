/- Slices of trees of one's own. No conditions. -/
import Derived.Test.YtjcdcmeclnihbaaCn
import Derived.Test.YtjcdcmeclnihbaaBaseB
namespace Go.Proofs.Ytjcdcmeclnihbaa
open Go.RowKit
/-- Trees in cells, one behind the other. -/
def Laid3 (w : World) (S : Nat → Prop) (d : Nat) (xs : List Value) (l : List (Tr d)) : Prop :=
  xs.length = l.length * 3 ∧ ∀ (k : Nat) (t : Tr d), l[k]? = some t → ∃ v0 v1 v2, xs[k * 3]? = some v0 ∧ xs[k * 3 + 1]? = some v1 ∧ xs[k * 3 + 2]? = some v2 ∧ IsTr w S d (.agg #[v0, v1, v2]) t
theorem Laid3.imp {w w' : World} {S S' : Nat → Prop} {d : Nat} {xs : List Value} {l : List (Tr d)} (h : Laid3 w S d xs l) (hk : ∀ b, S b → b < w.heap.size → w'.heap[b]? = w.heap[b]?) (hS : ∀ b, S b → b < w.heap.size → S' b) : Laid3 w' S' d xs l :=
  ⟨h.1, fun k t ht => by
    obtain ⟨v0, v1, v2, e0, e1, e2, hr⟩ := h.2 k t ht
    exact ⟨v0, v1, v2, e0, e1, e2, IsTr.imp hk hS d _ _ hr⟩⟩
theorem Laid3.snoc {w : World} {S : Nat → Prop} {d : Nat} {xs : List Value} {l : List (Tr d)} {v0 v1 v2 : Value} {t : Tr d} (h : Laid3 w S d xs l) (ht : IsTr w S d (.agg #[v0, v1, v2]) t) : Laid3 w S d (xs ++ [v0, v1, v2]) (l ++ [t]) := by
  refine ⟨by simp [h.1]; omega, fun k u hu => ?_⟩
  by_cases hk : k < l.length
  · rw [List.getElem?_append_left hk] at hu
    obtain ⟨a0, a1, a2, e0, e1, e2, hr⟩ := h.2 k u hu
    refine ⟨a0, a1, a2, ?_, ?_, ?_, hr⟩
    · rw [List.getElem?_append_left (by rw [h.1]; omega)]; exact e0
    · rw [List.getElem?_append_left (by rw [h.1]; omega)]; exact e1
    · rw [List.getElem?_append_left (by rw [h.1]; omega)]; exact e2
  · have hk2 : k = l.length := by
      have := (List.getElem?_eq_some_iff.1 hu).1
      simp at this; omega
    subst hk2
    simp at hu
    subst hu
    refine ⟨v0, v1, v2, ?_, ?_, ?_, ht⟩
    · rw [List.getElem?_append_right (by rw [h.1]; omega), h.1, show l.length * 3 - l.length * 3 = 0 by omega]; rfl
    · rw [List.getElem?_append_right (by rw [h.1]; omega), h.1, show l.length * 3 + 1 - l.length * 3 = 1 by omega]; rfl
    · rw [List.getElem?_append_right (by rw [h.1]; omega), h.1, show l.length * 3 + 2 - l.length * 3 = 2 by omega]; rfl
/-- A slice of trees of one's own. -/
def BTr (w : World) (B : Nat) (d : Nat) (v : Value) (l : List (Tr d)) : Prop := ∃ xs, w.ownsRow B 45 3 v l.length xs ∧ Laid3 w (fun b => B ≤ b ∧ v.ownBlock ≠ some b) d xs l
section
variable {w w' : World} {B d : Nat} {v v' : Value} {l : List (Tr d)}
theorem BTr.nil (w : World) (B d : Nat) : BTr w B d (.slice none 0 0) [] := ⟨[], World.ownsRow_nil _ _ _ _, rfl, fun k t h => by simp at h⟩
theorem BTr.keep (h : BTr w B d v l) (hk : ∀ b, B ≤ b → b < w.heap.size → w'.heap[b]? = w.heap[b]?) : BTr w' B d v l := by
  obtain ⟨xs, ho, hl⟩ := h
  refine ⟨xs, ?_, hl.imp (fun b hb hlt => hk b hb.1 hlt) fun _ h _ => h⟩
  obtain ⟨h1, h2 | ⟨g, cap, cur, e, hg, hh, h3, h4, h5, h6⟩⟩ := ho
  · exact ⟨h1, .inl h2⟩
  · exact ⟨h1, .inr ⟨g, cap, cur, e, hg, (hk g hg (Array.getElem?_eq_some_iff.1 hh).1).trans hh, h3, h4, h5, h6⟩⟩
theorem BTr.below (h : BTr w B d v l) (hb : Below w.heap.size w w') : BTr w' B d v l := h.keep fun b _ hlt => hb.block b hlt
theorem BTr.form (h : BTr w B d v l) : ∃ A c, v = .slice A l.length c ∧ l.length ≤ c ∧ c ≤ maxLen := by
  obtain ⟨xs, ho, _⟩ := h
  obtain ⟨A, c, e, h1, h2, _⟩ := own_arr ho
  exact ⟨A, c, e, h1, h2⟩
theorem BTr.lt (h : BTr w B d v l) : ∀ k, v.ownBlock = some k → B ≤ k ∧ k < w.heap.size := by
  obtain ⟨xs, ho, _⟩ := h
  exact fun k hk => ho.lt k hk
/-- The slice is a node's parts. -/
theorem BTr.tree (h : BTr w B d v l) {k c : Int} {t : Tr (d + 1)} (hk : Tr.kind t = k) (hc : Tr.cls t = c) (hl : Tr.kids t = l) : IsTr w (fun b => B ≤ b) (d + 1) (.agg #[.int .i64 k, .int .i64 c, v]) t := by
  obtain ⟨xs, ho, hx⟩ := h
  obtain ⟨A, cp, rfl, h1, h2, h3⟩ := own_arr ho
  subst hl
  refine ⟨A, cp, by rw [hk, hc], h1, h2, fun j u hu => ?_⟩
  obtain ⟨v0, v1, v2, e0, e1, e2, hr⟩ := hx.2 j u hu
  obtain ⟨b, o, eA, ⟨hB, _⟩, hlt, c0⟩ := h3.at e0
  obtain ⟨b', o', eA', _, _, c1⟩ := h3.at e1
  obtain ⟨b'', o'', eA'', _, _, c2⟩ := h3.at e2
  rw [eA] at eA' eA''
  cases eA'
  cases eA''
  exact ⟨b, o, v0, v1, v2, eA, hB, hlt, c0, by rw [Nat.add_assoc]; exact c1, by rw [Nat.add_assoc]; exact c2, hr.mono fun _ h _ => h.1⟩
theorem info45 : (Try.prog.info? 45).map (fun i => (i.zero, i.size, i.bytes)) = some (some (.agg #[.int .i64 0, .int .i64 0, .slice none 0 0]), 3, 40) := by kernel_rfl
theorem one3 {w : World} {S : Nat → Prop} {v0 v1 v2 : Value} {t : Tr d} (h : IsTr w S d (.agg #[v0, v1, v2]) t) : ∀ u ∈ [v0, v1, v2], u.oneCell' = true := by
  obtain ⟨k, c, A, n, cp, rfl, rfl, rfl⟩ := h.cells
  intro u hu
  simp at hu
  rcases hu with rfl | rfl | rfl <;> rfl
/-- 'append(row, t)' of trees, the new tree's cells made just before. -/
theorem wp_app_tr {o : Oper} {a : Act} {Kn : Act → World → Prop} {Q : Exit → Act → World → Prop} (s x : Operand) (hop : o.op = .call { callee := .builtin .append, args := #[s, x], argTypes := #[43, 43] }) {w0 : World} {v0 v1 v2 : Value} {t : Tr d}
    (hw : w = w0.alloc (.cells #[v0, v1, v2] 45)) (hs : a.eval s = v) (h : BTr w0 B d v l) (hx : a.eval x = .slice (some ⟨w0.heap.size, 0, none⟩) 1 1) (ht : IsTr w0 (fun b => B ≤ b ∧ v.ownBlock ≠ some b) d (.agg #[v0, v1, v2]) t) (hl : l.length ≤ 1000000) (hB : B ≤ w0.heap.size)
    (hk : ∀ v' w', BTr w' B d v' (l ++ [t]) → w.grownBy w' v.ownBlock → Kn (a.put o.dst v') w') : Oper.wp Try.prog o a w Kn Q := by
  obtain ⟨i0, hi0, hz0, hz1, hz2⟩ := info_parts info45
  have hb0 : Below w0.heap.size w0 w := by rw [hw]; exact (Below.refl _ _).alloc (Nat.le_refl _) _
  obtain ⟨xs, ho, hlx⟩ := h.below hb0
  have hnew : w.heap[w0.heap.size]? = some (.cells #[v0, v1, v2] 45 (0, 0)) := by rw [hw]; exact heap_alloc_new _ _
  have hsrc : Src w 3 (some ⟨w0.heap.size, 0, none⟩) 1 [v0, v1, v2] := ⟨rfl, fun _ => ⟨_, rfl, fun j u hu => by
    rw [Addr.add_lit, Nat.zero_add, cell_of_row _ _ j _ _ _ hnew, ← Array.getElem?_toList]; exact hu⟩⟩
  refine wp_app w s x 43 hop B 45 i0 _ 3 40 Try.underlying43 hi0 hz0 hz1 hz2 (by rfl) (by omega) v l.length xs hs ho (some ⟨w0.heap.size, 0, none⟩) 1 1 [v0, v1, v2] hx hsrc (one3 ht) (by unfold maxLen; omega) (by omega) (Nat.le_trans hB hb0.size) ?_
  intro v' w' ho' hg hv
  refine hk v' w' ⟨xs ++ [v0, v1, v2], by simpa using ho', ?_⟩ hg
  refine Laid3.imp (w := w) (S := fun b => B ≤ b ∧ v.ownBlock ≠ some b) (hlx.snoc (ht.below hb0)) (fun b hb hlt => hg.block b hlt fun e => hb.2 e.symm) fun b hb hlt => ⟨hb.1, fun e => ?_⟩
  rcases hv with hv | hv
  · rw [hv] at e; exact hb.2 e
  · rw [hv] at e; injection e with e; omega
end
theorem grown_later {a w w' : World} {g : Nat} {r : Option Nat} (h : a.grownBy w (some g)) (hg : w.grownBy w' r) (hr : ∀ k, r = some k → a.heap.size ≤ k) : a.grownBy w' (some g) :=
  ⟨hg.os.trans h.os, hg.tape.trans h.tape, hg.output.trans h.output, Nat.le_trans h.size hg.size, fun i hi hne => (hg.block i (Nat.lt_of_lt_of_le hi h.size) fun e => by have := hr i e.symm; omega).trans (h.block i hi hne)⟩
end Go.Proofs.Ytjcdcmeclnihbaa
