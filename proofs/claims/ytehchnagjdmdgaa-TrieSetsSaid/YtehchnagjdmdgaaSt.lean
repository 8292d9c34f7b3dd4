/- A set's own ranges while they are made: the last one grows. Conditions: none. -/
import Derived.Test.YtehchnagjdmdgaaRl
import Derived.Test.YtehchnagjdmdgaaGe
namespace Go.Proofs.Ytehchnagjdmdgaa
open Go.RowKit
set_option linter.unusedSimpArgs false
theorem own_set {w : World} {B e size n g c i : Nat} {xs : List Value} (h : w.ownsRow B e size (.slice (some ⟨g, 0, none⟩) n c) n xs) (u : Value) : (w.setCell ⟨g, i, none⟩ u).ownsRow B e size (.slice (some ⟨g, 0, none⟩) n c) n (xs.set i u) := by
  obtain ⟨hl, ⟨e1, -⟩ | ⟨g', cap, cur, e1, hb, hh, h1, h2, h3, h4⟩⟩ := h
  · cases e1
  · obtain ⟨rfl, rfl⟩ : g = g' ∧ c = cap := by injection e1 with a b d; exact ⟨by injection a with a; injection a, d⟩
    refine ⟨by rw [List.length_set]; exact hl, .inr ⟨g, c, _, rfl, hb, heap_setCell_same w g i _ _ u hh, h1, h2, by simp [h3], ?_⟩⟩
    rw [← h4]
    simp only [Array.toList_setIfInBounds]
    rw [List.take_set]
theorem flat_last (i : List Rng) (x : Rng) (z : Int) : (flatV ((i ++ [x]).map pairR)).set (i.length * 2 + 1) (.int .i32 z) = flatV ((i ++ [(x.1, z)]).map pairR) := by
  have hl : (flatV (i.map pairR)).length = i.length * 2 := by rw [flatV_len, List.length_map]; omega
  rw [List.map_append, List.map_append, List.map_cons, List.map_cons, List.map_nil, flatV_snoc, flatV_snoc, List.set_append, if_neg (by omega), hl]
  simp [pairR]
/-- The last range's end is turned. -/
theorem OwnR.setLast {w : World} {B g n c : Nat} {i : List Rng} {x : Rng} {z : Int} (h : OwnR w B (.slice (some ⟨g, 0, none⟩) n c) (i ++ [x])) (hn : n = i.length + 1) (hz : -2147483648 ≤ z ∧ z ≤ 2147483647) : OwnR (w.setCell ⟨g, i.length * 2 + 1, none⟩ (.int .i32 z)) B (.slice (some ⟨g, 0, none⟩) n c) (i ++ [(x.1, z)]) := by
  obtain ⟨h1, h2⟩ := h
  have hl : (i ++ [x]).length = n := by simp [hn]
  have hl2 : (i ++ [(x.1, z)]).length = n := by simp [hn]
  rw [hl] at h1
  refine ⟨?_, fun y hy => ?_⟩
  · rw [hl2, ← flat_last]
    exact own_set h1 _
  · rcases List.mem_append.1 hy with hy | hy
    · exact h2 y (List.mem_append_left _ hy)
    · rw [List.mem_singleton.1 hy]
      exact ⟨(h2 x (by simp)).1, hz⟩
theorem UpR.len2 : ∀ {l : List Rng} {m : Int}, UpR m l → m + 2 * l.length ≤ endR m l
  | [], m, _ => by simp [endR]
  | x :: l, m, ⟨h1, h2, h3⟩ => by
    have := UpR.len2 h3
    simp only [endR, List.length_cons]
    omega
theorem runs_len (P : Int → Bool) (k : Nat) : 2 * (runsTo P k).length ≤ k + 1 := by
  obtain ⟨h1, -, h3⟩ := runs_is P k
  have := h1.len2
  omega
theorem OwnR.below {w w' : World} {B : Nat} {v : Value} {l : List Rng} (h : OwnR w B v l) (hb : Below w.heap.size w w') : OwnR w' B v l := ⟨h.1.kept (grown_of_below hb none) (Classical.em _), h.2⟩
theorem wpList_app_rng {w w0 : World} {B : Nat} {ops : Array Oper} {rest : List Oper} {o : Oper} {a : Act} {Q : Exit → Act → World → Prop} (hg : o.guard = none) (s x : Operand) (hop : o.op = .call { callee := .builtin .append, args := #[s, x], argTypes := #[43, 43] }) {v : Value} {l : List Rng} {y : Rng}
    (hw : w = w0.alloc (.cells #[.int .i32 y.1, .int .i32 y.2] 56)) (hs : a.eval s = v) (hown : OwnR w0 B v l) (hx : a.eval x = .slice (some ⟨w0.heap.size, 0, none⟩) 1 1) (hy : r32 y) (hn : l.length ≤ 1000000) (hB : B ≤ w0.heap.size)
    (h : ∀ A' c' w', OwnR w' B (.slice A' (l.length + 1) c') (l ++ [y]) → w.grownBy w' v.ownBlock → ((Value.slice A' (l.length + 1) c').ownBlock = v.ownBlock ∨ (Value.slice A' (l.length + 1) c').ownBlock = some w.heap.size) → wpList Try.prog ops Q rest (a.put o.dst (.slice A' (l.length + 1) c')) w') : wpList Try.prog ops Q (o :: rest) a w :=
  wpList_plain hg fun _ hK => wp_app_rng s x hop hw hs hown hx hy hn hB fun A' c' w' h1 h2 h3 => hK _ _ (h A' c' w' h1 h2 h3)
end Go.Proofs.Ytehchnagjdmdgaa
