/- Ranges and entries of the call's own; append to them. Conditions: none. -/
import Derived.Test.YtehchnagjdmdgaaMe
import Derived.Deep.RegionHeld3
namespace Go.Proofs.Ytehchnagjdmdgaa
open Go.RowKit
def flatV (ps : List (Value × Value)) : List Value := ps.flatMap fun p => [p.1, p.2]
theorem flatV_len (ps : List (Value × Value)) : (flatV ps).length = 2 * ps.length := by
  induction ps with
  | nil => rfl
  | cons p ps ih => simp only [flatV, List.flatMap_cons, List.length_append, List.length_cons, List.length_nil] at ih ⊢; omega
theorem flatV_snoc (ps : List (Value × Value)) (p : Value × Value) : flatV (ps ++ [p]) = flatV ps ++ [p.1, p.2] := by simp [flatV]
theorem flatV_get : ∀ (ps : List (Value × Value)) (k : Nat) (p : Value × Value), ps[k]? = some p → (flatV ps)[k * 2]? = some p.1 ∧ (flatV ps)[k * 2 + 1]? = some p.2
  | [], k, p, h => by simp at h
  | q :: ps, 0, p, h => by
    have : q = p := by simpa using h
    subst this
    exact ⟨rfl, rfl⟩
  | q :: ps, k + 1, p, h => by
    have h' : ps[k]? = some p := by simpa using h
    have := flatV_get ps k p h'
    have e : flatV (q :: ps) = q.1 :: q.2 :: flatV ps := rfl
    rw [e, show (k + 1) * 2 = k * 2 + 2 by omega]
    exact this
section
variable {w w' w0 : World} {B : Nat} {S : Nat → Prop}
/-- An own row of structs of two cells, by its cells. -/
theorem own_two {e n : Nat} {v : Value} {ps : List (Value × Value)} (h : w.ownsRow B e 2 v n (flatV ps)) : ∃ A c, v = .slice A n c ∧ n = ps.length ∧ n ≤ c ∧ c ≤ maxLen ∧
    ∀ k p, ps[k]? = some p → ∃ b o, A = some ⟨b, o, none⟩ ∧ (B ≤ b ∧ v.ownBlock = some b) ∧ b < w.heap.size ∧ w.cell? ⟨b, o + k * 2, none⟩ = some p.1 ∧ w.cell? ⟨b, o + k * 2 + 1, none⟩ = some p.2 := by
  obtain ⟨A, c, e1, h1, h2, h3⟩ := own_arr h
  have hl := h.1
  rw [flatV_len] at hl
  refine ⟨A, c, e1, by omega, h1, h2, fun k p hp => ?_⟩
  obtain ⟨g0, g1⟩ := flatV_get ps k p hp
  obtain ⟨b, o, ea, hs, hlt, c0⟩ := h3.at g0
  obtain ⟨b', o', ea', -, -, c1⟩ := h3.at g1
  rw [ea] at ea'
  obtain ⟨rfl, rfl⟩ : b = b' ∧ o = o' := by simpa using ea'
  exact ⟨b, o, ea, hs, hlt, c0, by rw [Nat.add_assoc]; exact c1⟩
def pairR (x : Rng) : Value × Value := (.int .i32 x.1, .int .i32 x.2)
/-- Ranges of the call's own. -/
def OwnR (w : World) (B : Nat) (v : Value) (l : List Rng) : Prop := w.ownsRow B 56 2 v l.length (flatV (l.map pairR)) ∧ ∀ x ∈ l, r32 x
theorem OwnR.nil (w : World) (B : Nat) : OwnR w B (.slice none 0 0) [] := ⟨World.ownsRow_nil _ _ _ _, fun x hx => by cases hx⟩
theorem OwnR.is {v : Value} {l : List Rng} (h : OwnR w B v l) : IsRngs w (fun b => B ≤ b ∧ v.ownBlock = some b) v l := by
  obtain ⟨A, c, e, -, h1, h2, h3⟩ := own_two h.1
  refine ⟨A, c, e, h1, h2, fun k x hx => ?_⟩
  obtain ⟨b, o, ea, hs, hlt, c0, c1⟩ := h3 k (pairR x) (by rw [List.getElem?_map, hx]; rfl)
  exact ⟨b, o, _, _, ea, hs, hlt, c0, c1, rfl, rfl, h.2 x (List.mem_of_getElem? hx)⟩
theorem src_two (w : World) (v0 v1 : Value) (e : TypeId) : Src (w.alloc (.cells #[v0, v1] e)) 2 (some ⟨w.heap.size, 0, none⟩) 1 [v0, v1] :=
  ⟨rfl, fun _ => ⟨_, rfl, fun j u hu => by
    rw [Addr.add_lit, Nat.zero_add, cell_of_row _ _ j _ _ _ (heap_alloc_new w (.cells #[v0, v1] e)), ← Array.getElem?_toList]; exact hu⟩⟩
theorem info56 : (Try.prog.info? 56).map (fun i => (i.zero, i.size, i.bytes)) = some (some (.agg #[.int .i32 0, .int .i32 0]), 2, 8) := by kernel_rfl
theorem info58 : (Try.prog.info? 58).map (fun i => (i.zero, i.size, i.bytes)) = some (some (.agg #[.slice none 0 0, .int .i64 0]), 2, 32) := by kernel_rfl
/-- 'append(s, range)', the new one's cells made just before. -/
theorem wp_app_rng {o : Oper} {a : Act} {Kn : Act → World → Prop} {Q : Exit → Act → World → Prop} (s x : Operand) (hop : o.op = .call { callee := .builtin .append, args := #[s, x], argTypes := #[43, 43] }) {v : Value} {l : List Rng} {y : Rng}
    (hw : w = w0.alloc (.cells #[.int .i32 y.1, .int .i32 y.2] 56)) (hs : a.eval s = v) (hown : OwnR w0 B v l) (hx : a.eval x = .slice (some ⟨w0.heap.size, 0, none⟩) 1 1) (hy : r32 y) (hn : l.length ≤ 1000000) (hB : B ≤ w0.heap.size)
    (h : ∀ A' c' w', OwnR w' B (.slice A' (l.length + 1) c') (l ++ [y]) → w.grownBy w' v.ownBlock → ((Value.slice A' (l.length + 1) c').ownBlock = v.ownBlock ∨ (Value.slice A' (l.length + 1) c').ownBlock = some w.heap.size) → Kn (a.put o.dst (.slice A' (l.length + 1) c')) w') : Oper.wp Try.prog o a w Kn Q := by
  obtain ⟨i0, hi0, hz0, hz1, hz2⟩ := info_parts info56
  subst hw
  refine wp_app _ s x 43 hop B 56 i0 _ 2 8 Try.underlying43 hi0 hz0 hz1 hz2 rfl (by decide) v _ _ hs (hown.1.alloc _) (some ⟨w0.heap.size, 0, none⟩) 1 1 _ hx (src_two w0 _ _ 56) (by simp [Value.oneCell']) (by simp only [maxLen]; omega) (by omega) (by simp; omega) fun v' w' h1 h2 h3 => ?_
  obtain ⟨A', c', e, _⟩ := own_arr h1
  subst e
  refine h A' c' w' ⟨?_, fun z hz => ?_⟩ h2 h3
  · rw [List.length_append, List.length_singleton, List.map_append, List.map_cons, List.map_nil, flatV_snoc]; exact h1
  · rcases List.mem_append.1 hz with hz | hz
    · exact hown.2 z hz
    · rw [List.mem_singleton.1 hz]; exact hy
/-- Entries of the call's own. -/
def OwnE (w : World) (B : Nat) (v : Value) (es : List Ent) : Prop := ∃ us : List (Value × Value), w.ownsRow B 58 2 v es.length (flatV us) ∧ us.length = es.length ∧
  ∀ (k : Nat) (e : Ent), es[k]? = some e → ∃ u : Value × Value, us[k]? = some u ∧ IsEnt w (fun b => B ≤ b ∧ v.ownBlock ≠ some b) u.1 u.2 e
theorem OwnE.nil (w : World) (B : Nat) : OwnE w B (.slice none 0 0) [] := ⟨[], World.ownsRow_nil _ _ _ _, rfl, fun k e h => by simp at h⟩
theorem OwnE.is {v : Value} {es : List Ent} (h : OwnE w B v es) : IsEnts w (fun b => B ≤ b) v es := by
  obtain ⟨us, h1, h2, h3⟩ := h
  obtain ⟨A, c, e, -, h4, h5, h6⟩ := own_two h1
  refine ⟨A, c, e, h4, h5, fun k x hx => ?_⟩
  obtain ⟨u, hu, hu2⟩ := h3 k x hx
  obtain ⟨b, o, ea, hs, hlt, c0, c1⟩ := h6 k u hu
  exact ⟨b, o, _, _, ea, hs.1, hlt, c0, c1, hu2.1.imp (fun _ _ _ => rfl) fun b hb _ => hb.1, hu2.2⟩
theorem OwnE.lt {v : Value} {es : List Ent} (h : OwnE w B v es) : ∀ b, v.ownBlock = some b → B ≤ b ∧ b < w.heap.size := by
  obtain ⟨us, h1, -⟩ := h
  exact h1.lt
theorem OwnE.below {v : Value} {es : List Ent} (h : OwnE w B v es) (hb : Below w.heap.size w w') : OwnE w' B v es := by
  obtain ⟨us, h1, h2, h3⟩ := h
  refine ⟨us, h1.kept (grown_of_below hb none) (Classical.em _), h2, fun k e he => ?_⟩
  obtain ⟨u, hu, hu2⟩ := h3 k e he
  exact ⟨u, hu, hu2.1.below hb, hu2.2⟩
theorem wp_app_ent {o : Oper} {a : Act} {Kn : Act → World → Prop} {Q : Exit → Act → World → Prop} (s x : Operand) (hop : o.op = .call { callee := .builtin .append, args := #[s, x], argTypes := #[30, 30] }) {v u : Value} {es : List Ent} {e : Ent}
    (hw : w = w0.alloc (.cells #[u, .int .i64 e.2] 58)) (hs : a.eval s = v) (hown : OwnE w0 B v es) (hx : a.eval x = .slice (some ⟨w0.heap.size, 0, none⟩) 1 1) (hu : IsEnt w0 (fun b => B ≤ b ∧ v.ownBlock ≠ some b) u (.int .i64 e.2) e) (hn : es.length ≤ 1000000) (hB : B ≤ w0.heap.size)
    (h : ∀ A' c' w', OwnE w' B (.slice A' (es.length + 1) c') (es ++ [e]) → w.grownBy w' v.ownBlock → Kn (a.put o.dst (.slice A' (es.length + 1) c')) w') : Oper.wp Try.prog o a w Kn Q := by
  obtain ⟨i0, hi0, hz0, hz1, hz2⟩ := info_parts info58
  subst hw
  have hb0 : Below w0.heap.size w0 (w0.alloc (.cells #[u, .int .i64 e.2] 58)) := (Below.refl _ _).alloc (Nat.le_refl _) _
  obtain ⟨us, g1, g2, g3⟩ := hown
  obtain ⟨uA, uc, hue⟩ := hu.1.form
  refine wp_app _ s x 30 hop B 58 i0 _ 2 32 Try.underlying30 hi0 hz0 hz1 hz2 rfl (by decide) v _ _ hs (g1.alloc _) (some ⟨w0.heap.size, 0, none⟩) 1 1 _ hx (src_two w0 _ _ 58) (by rw [hue]; simp [Value.oneCell']) (by simp only [maxLen]; omega) (by omega) (by simp; omega) fun v' w' h1 h2 h3 => ?_
  obtain ⟨A', c', ev, _⟩ := own_arr h1
  subst ev
  refine h A' c' w' ⟨us ++ [(u, .int .i64 e.2)], ?_, by simp [g2], fun k y hy => ?_⟩ h2
  · rw [List.length_append, List.length_singleton, flatV_snoc]; exact h1
  · have hk : ∀ b, (B ≤ b ∧ v.ownBlock ≠ some b) → b < w0.heap.size → w'.heap[b]? = w0.heap[b]? := fun b hb hl =>
      (h2.block b (Nat.lt_of_lt_of_le hl hb0.size) fun e => hb.2 e.symm).trans (hb0.block b hl)
    have hS : ∀ b, (B ≤ b ∧ v.ownBlock ≠ some b) → b < w0.heap.size → B ≤ b ∧ (Value.slice A' (es.length + 1) c').ownBlock ≠ some b := fun b hb hl => ⟨hb.1, fun e => by
      rcases h3 with h3 | h3
      · rw [h3] at e; exact hb.2 e
      · rw [h3] at e; injection e with e; have := hb0.size; omega⟩
    by_cases hke : k < es.length
    · rw [List.getElem?_append_left hke] at hy
      obtain ⟨q, hq, hq2⟩ := g3 k y hy
      exact ⟨q, by rw [List.getElem?_append_left (by omega)]; exact hq, hq2.1.imp hk hS, hq2.2⟩
    · rw [List.getElem?_append_right (by omega)] at hy
      have : k = es.length := by
        have := (List.getElem?_eq_some_iff.1 hy).1
        simp at this; omega
      subst this
      rw [Nat.sub_self] at hy
      have : e = y := by simpa using hy
      subst this
      exact ⟨(u, .int .i64 e.2), by rw [List.getElem?_append_right (by omega), g2, Nat.sub_self]; rfl, hu.1.imp hk hS, hu.2⟩
end
end Go.Proofs.Ytehchnagjdmdgaa
