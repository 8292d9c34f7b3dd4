/- The document's ranges of the call's own; append to them. Conditions: none. -/
import Derived.Test.YtehchnagjdmdgaaP3
import Derived.Test.YtehchnagjdmdgaaDt
namespace Go.Proofs.Ytehchnagjdmdgaa
open Go.RowKit
section
variable {w w' w0 : World} {B : Nat} {S : Nat → Prop}
def OwnQ (w : World) (B : Nat) (v : Value) (l : List Rng) : Prop := w.ownsRow B 40 2 v l.length (flatV (l.map pairR)) ∧ ∀ x ∈ l, r32 x
theorem info40 : (Try.prog.info? 40).map (fun i => (i.zero, i.size, i.bytes)) = some (some (.agg #[.int .i32 0, .int .i32 0]), 2, 8) := by kernel_rfl
theorem OwnQ.nil (w : World) (B : Nat) : OwnQ w B (.slice none 0 0) [] := ⟨World.ownsRow_nil _ _ _ _, fun x hx => by cases hx⟩
theorem OwnQ.is {v : Value} {l : List Rng} (h : OwnQ w B v l) : IsRngs w (fun b => B ≤ b ∧ v.ownBlock = some b) v l := by
  obtain ⟨A, c, e, -, h1, h2, h3⟩ := own_two h.1
  refine ⟨A, c, e, h1, h2, fun k x hx => ?_⟩
  obtain ⟨b, o, ea, hs, hlt, c0, c1⟩ := h3 k (pairR x) (by rw [List.getElem?_map, hx]; rfl)
  exact ⟨b, o, _, _, ea, hs, hlt, c0, c1, rfl, rfl, h.2 x (List.mem_of_getElem? hx)⟩
theorem OwnQ.below {v : Value} {l : List Rng} (h : OwnQ w B v l) (hb : Below w.heap.size w w') : OwnQ w' B v l := ⟨h.1.kept (grown_of_below hb none) (Classical.em _), h.2⟩
theorem OwnQ.setLast {g n c : Nat} {i : List Rng} {x : Rng} {z : Int} (h : OwnQ w B (.slice (some ⟨g, 0, none⟩) n c) (i ++ [x])) (hn : n = i.length + 1) (hz : -2147483648 ≤ z ∧ z ≤ 2147483647) : OwnQ (w.setCell ⟨g, i.length * 2 + 1, none⟩ (.int .i32 z)) B (.slice (some ⟨g, 0, none⟩) n c) (i ++ [(x.1, z)]) := by
  obtain ⟨h1, h2⟩ := h
  have hl : (i ++ [x]).length = n := by simp [hn]
  have hl2 : (i ++ [(x.1, z)]).length = n := by simp [hn]
  rw [hl] at h1
  refine ⟨?_, fun y hy => ?_⟩
  · rw [hl2, ← flat_last]
    exact own_set h1 _
  · rcases List.mem_append.1 hy with hy | hy
    · exact h2 y (List.mem_append_left _ hy)
    · rw [List.mem_singleton.1 hy]
      exact ⟨(h2 x (by simp)).1, hz⟩
theorem rngs_src {A : Option Addr} {n c : Nat} {l : List Rng} (h : IsRngs w S (.slice A n c) l) : Src w 2 A n (flatV (l.map pairR)) := by
  obtain ⟨A', c', e, h1, h2, h3⟩ := h
  obtain ⟨rfl, rfl, rfl⟩ : A = A' ∧ n = l.length ∧ c = c' := by injection e with e1 e2 e3; exact ⟨e1, e2, e3⟩
  refine ⟨by rw [flatV_len, List.length_map]; omega, fun hn => ?_⟩
  obtain ⟨b, o, v0, v1, e2, hs, hlt, c0, c1, -⟩ := h3 0 _ (List.getElem?_eq_getElem (by omega))
  refine ⟨_, e2, fun j u hu => ?_⟩
  have hj : j / 2 < l.length := by
    have := (List.getElem?_eq_some_iff.1 hu).1
    rw [flatV_len, List.length_map] at this
    omega
  obtain ⟨b', o', v0', v1', e2', hs', hlt', c0', c1', r0, r1, -⟩ := h3 (j / 2) _ (List.getElem?_eq_getElem hj)
  obtain ⟨rfl, rfl⟩ : b = b' ∧ o = o' := by rw [e2] at e2'; injection e2' with e2'; injection e2' with x y; exact ⟨x, y⟩
  obtain ⟨f0, f1⟩ := flatV_get (l.map pairR) (j / 2) (pairR l[j / 2]) (by rw [List.getElem?_map, List.getElem?_eq_getElem hj]; rfl)
  rw [Addr.add_lit]
  by_cases hp : j % 2 = 0
  · have ej : j / 2 * 2 = j := by omega
    rw [ej] at f0 c0'
    rw [hu] at f0
    rw [c0', r0]
    exact f0.symm
  · have ej : j / 2 * 2 + 1 = j := by omega
    rw [ej] at f1
    rw [Nat.add_assoc, ej] at c1'
    rw [hu] at f1
    rw [c1', r1]
    exact f1.symm
/-- 'append(x, y...)' of ranges, x of one's own. -/
theorem wp_appQ {w : World} {o : Oper} {a : Act} {Kn : Act → World → Prop} {Q : Exit → Act → World → Prop} (s x : Operand) (hop : o.op = .call { callee := .builtin .append, args := #[s, x], argTypes := #[36, 36] }) {v : Value} {l m : List Rng} {A : Option Addr} {n c : Nat}
    (hs : a.eval s = v) (hown : OwnQ w B v l) (hx : a.eval x = .slice A n c) (hn : n = m.length) (hm : IsRngs w S (.slice A n c) m) (hl : l.length + m.length ≤ 1000000) (hB : B ≤ w.heap.size)
    (h : ∀ A' c' w', OwnQ w' B (.slice A' (l ++ m).length c') (l ++ m) → w.grownBy w' v.ownBlock → Kn (a.put o.dst (.slice A' (l ++ m).length c')) w') : Oper.wp Try.prog o a w Kn Q := by
  obtain ⟨i0, hi0, hz0, hz1, hz2⟩ := info_parts info40
  subst hn
  have hr32 : ∀ y ∈ m, r32 y := fun y hy => by
    obtain ⟨A', c', e, h1, h2, h3⟩ := hm
    obtain ⟨k, hk, rfl⟩ := List.mem_iff_getElem.1 hy
    obtain ⟨-, -, -, -, -, -, -, -, -, -, -, h4⟩ := h3 k _ (List.getElem?_eq_getElem hk)
    exact h4
  have hone : ∀ u ∈ flatV (m.map pairR), u.oneCell' = true := fun u hu => by
    obtain ⟨p, hp, hu⟩ := List.mem_flatMap.1 hu
    obtain ⟨y, -, rfl⟩ := List.mem_map.1 hp
    simp only [pairR, List.mem_cons, List.not_mem_nil, or_false] at hu
    rcases hu with hu | hu <;> rw [hu] <;> rfl
  refine wp_app w s x 36 hop B 40 i0 _ 2 8 Try.underlying36 hi0 hz0 hz1 hz2 rfl (by decide) v l.length (flatV (l.map pairR)) hs hown.1 A m.length c (flatV (m.map pairR)) hx (rngs_src hm) hone (by simp only [maxLen]; omega) (by omega) hB fun v' w' h1 h2 h3 => ?_
  obtain ⟨A', c', ev, _⟩ := own_arr h1
  subst ev
  rw [← List.length_append] at h1 ⊢
  refine h A' c' w' ⟨?_, fun y hy => ?_⟩ h2
  · rw [List.map_append, flatV_append]; exact h1
  · rcases List.mem_append.1 hy with hy | hy
    · exact hown.2 y hy
    · exact hr32 y hy
/-- 'append(s, range)', the new one's cells made just before. -/
theorem wp_appQ1 {o : Oper} {a : Act} {Kn : Act → World → Prop} {Q : Exit → Act → World → Prop} (s x : Operand) (hop : o.op = .call { callee := .builtin .append, args := #[s, x], argTypes := #[36, 36] }) {v : Value} {l : List Rng} {y : Rng}
    (hw : w = w0.alloc (.cells #[.int .i32 y.1, .int .i32 y.2] 40)) (hs : a.eval s = v) (hown : OwnQ w0 B v l) (hx : a.eval x = .slice (some ⟨w0.heap.size, 0, none⟩) 1 1) (hy : r32 y) (hn : l.length ≤ 1000000) (hB : B ≤ w0.heap.size)
    (h : ∀ A' c' w', OwnQ w' B (.slice A' (l.length + 1) c') (l ++ [y]) → w.grownBy w' v.ownBlock → Kn (a.put o.dst (.slice A' (l.length + 1) c')) w') : Oper.wp Try.prog o a w Kn Q := by
  obtain ⟨i0, hi0, hz0, hz1, hz2⟩ := info_parts info40
  subst hw
  refine wp_app _ s x 36 hop B 40 i0 _ 2 8 Try.underlying36 hi0 hz0 hz1 hz2 rfl (by decide) v _ _ hs (hown.1.alloc _) (some ⟨w0.heap.size, 0, none⟩) 1 1 _ hx (src_two w0 _ _ 40) (by simp [Value.oneCell']) (by simp only [maxLen]; omega) (by omega) (by simp; omega) fun v' w' h1 h2 h3 => ?_
  obtain ⟨A', c', e, _⟩ := own_arr h1
  subst e
  refine h A' c' w' ⟨?_, fun z hz => ?_⟩ h2
  · rw [List.length_append, List.length_singleton, List.map_append, List.map_cons, List.map_nil, flatV_snoc]; exact h1
  · rcases List.mem_append.1 hz with hz | hz
    · exact hown.2 z hz
    · rw [List.mem_singleton.1 hz]; exact hy
theorem wpList_appQ {w : World} {ops : Array Oper} {rest : List Oper} {o : Oper} {a : Act} {Q : Exit → Act → World → Prop} (hg : o.guard = none) (s x : Operand) (hop : o.op = .call { callee := .builtin .append, args := #[s, x], argTypes := #[36, 36] }) {v : Value} {l m : List Rng} {A : Option Addr} {n c : Nat}
    (hs : a.eval s = v) (hown : OwnQ w B v l) (hx : a.eval x = .slice A n c) (hn : n = m.length) (hm : IsRngs w S (.slice A n c) m) (hl : l.length + m.length ≤ 1000000) (hB : B ≤ w.heap.size)
    (h : ∀ A' c' w', OwnQ w' B (.slice A' (l ++ m).length c') (l ++ m) → w.grownBy w' v.ownBlock → wpList Try.prog ops Q rest (a.put o.dst (.slice A' (l ++ m).length c')) w') : wpList Try.prog ops Q (o :: rest) a w :=
  wpList_plain hg fun _ hK => wp_appQ s x hop hs hown hx hn hm hl hB fun A' c' w' h1 h2 => hK _ _ (h A' c' w' h1 h2)
theorem OwnQ.base {B' : Nat} {v : Value} {l : List Rng} (h : OwnQ w B v l) (hb : B' ≤ B) : OwnQ w B' v l := by
  obtain ⟨⟨h0, h1 | ⟨q, cap, cur, e1, hq, hh, r2⟩⟩, h2⟩ := h
  · exact ⟨⟨h0, .inl h1⟩, h2⟩
  · exact ⟨⟨h0, .inr ⟨q, cap, cur, e1, Nat.le_trans hb hq, hh, r2⟩⟩, h2⟩
theorem empty_Q (w : World) : OwnQ (w.alloc (.cells #[] 40)) w.heap.size (.slice (some ⟨w.heap.size, 0, none⟩) 0 0) [] :=
  ⟨⟨rfl, .inr ⟨w.heap.size, 0, #[], rfl, Nat.le_refl _, heap_alloc_new _ _, Nat.le_refl _, Nat.zero_le _, rfl, rfl⟩⟩, fun x hx => by cases hx⟩
theorem nil_rngs (w : World) (S : Nat → Prop) : IsRngs w S (.slice none 0 0) [] := ⟨none, 0, rfl, Nat.le_refl _, Nat.zero_le _, Row2.nil⟩
end
end Go.Proofs.Ytehchnagjdmdgaa
