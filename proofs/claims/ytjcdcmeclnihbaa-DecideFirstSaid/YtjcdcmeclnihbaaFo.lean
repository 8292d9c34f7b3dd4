/- Rules behind rules, as slices of one's own: 'append(rules, more...)'. Condition: at most a thousand rules. -/
import Derived.Test.YtjcdcmeclnihbaaFp
namespace Go.Proofs.Ytjcdcmeclnihbaa
open Go.RowKit
theorem Row7.laid {w : World} {S : Nat → Prop} {d : Nat} {A : Option Addr} {l : List (Rl d)} (h : Row7 w S d A l) : ∃ xs, Arr w S A xs ∧ Laid7 w S d xs l := by
  by_cases hl : 0 < l.length
  · obtain ⟨b, o, v0, v1, v2, u0, u1, u2, hA, hs, -⟩ := h 0 _ (List.getElem?_eq_getElem hl)
    have hc : ∀ (k : Nat) (r : Rl d), l[k]? = some r → ∃ v0 v1 v2 u0 u1 u2, w.cell? ⟨b, o + (k * 7 + 0), none⟩ = some v0 ∧ w.cell? ⟨b, o + (k * 7 + 1), none⟩ = some v1 ∧ w.cell? ⟨b, o + (k * 7 + 2), none⟩ = some v2 ∧
        w.cell? ⟨b, o + (k * 7 + 3), none⟩ = some u0 ∧ w.cell? ⟨b, o + (k * 7 + 4), none⟩ = some u1 ∧ w.cell? ⟨b, o + (k * 7 + 5), none⟩ = some u2 ∧ w.cell? ⟨b, o + (k * 7 + 6), none⟩ = some (.bool r.br) ∧ IsTr w S d (.agg #[v0, v1, v2]) r.L ∧ IsTr w S d (.agg #[u0, u1, u2]) r.R := fun k r hr => by
      obtain ⟨b', o', v0, v1, v2, u0, u1, u2, hA', -, -, c0, c1, c2, c3, c4, c5, c6, hL, hR⟩ := h k r hr
      rw [hA] at hA'
      simp only [Option.some.injEq, Addr.mk.injEq, and_true] at hA'
      obtain ⟨rfl, rfl⟩ := hA'
      simp only [Nat.add_assoc] at c0 c1 c2 c3 c4 c5 c6
      exact ⟨v0, v1, v2, u0, u1, u2, c0, c1, c2, c3, c4, c5, c6, hL, hR⟩
    have hx : ∀ i, i < l.length * 7 → ((List.range (l.length * 7)).map (fun i => (w.cell? ⟨b, o + i, none⟩).getD (.bool false)))[i]? = some ((w.cell? ⟨b, o + i, none⟩).getD (.bool false)) := fun i hi => by simp [hi]
    have hcell : ∀ i, i < l.length * 7 → ∃ v, w.cell? ⟨b, o + i, none⟩ = some v := fun i hi => by
      obtain ⟨v0, v1, v2, u0, u1, u2, c0, c1, c2, c3, c4, c5, c6, -, -⟩ := hc (i / 7) _ (List.getElem?_eq_getElem (by omega))
      have hi7 : i = i / 7 * 7 + i % 7 := by omega
      have hm : i % 7 = 0 ∨ i % 7 = 1 ∨ i % 7 = 2 ∨ i % 7 = 3 ∨ i % 7 = 4 ∨ i % 7 = 5 ∨ i % 7 = 6 := by omega
      rcases hm with e | e | e | e | e | e | e <;> (rw [e] at hi7; rw [hi7])
      · exact ⟨_, c0⟩
      · exact ⟨_, c1⟩
      · exact ⟨_, c2⟩
      · exact ⟨_, c3⟩
      · exact ⟨_, c4⟩
      · exact ⟨_, c5⟩
      · exact ⟨_, c6⟩
    refine ⟨(List.range (l.length * 7)).map (fun i => (w.cell? ⟨b, o + i, none⟩).getD (.bool false)), fun _ => ⟨b, o, hA, hs, fun i u hu => ?_⟩, by simp, fun k r hr => ?_⟩
    · have hi : i < l.length * 7 := by have := (List.getElem?_eq_some_iff.1 hu).1; simpa using this
      rw [hx i hi] at hu
      obtain ⟨v, hv⟩ := hcell i hi
      rw [hv] at hu ⊢
      exact hu
    · have hk := (List.getElem?_eq_some_iff.1 hr).1
      obtain ⟨v0, v1, v2, u0, u1, u2, c0, c1, c2, c3, c4, c5, c6, hL, hR⟩ := hc k r hr
      have hg : ∀ j v, j < 7 → w.cell? ⟨b, o + (k * 7 + j), none⟩ = some v → ((List.range (l.length * 7)).map (fun i => (w.cell? ⟨b, o + i, none⟩).getD (.bool false)))[k * 7 + j]? = some v := fun j v hj hv => by
        rw [hx _ (by omega), hv]; rfl
      exact ⟨v0, v1, v2, u0, u1, u2, hg 0 _ (by omega) c0, hg 1 _ (by omega) c1, hg 2 _ (by omega) c2, hg 3 _ (by omega) c3, hg 4 _ (by omega) c4, hg 5 _ (by omega) c5, hg 6 _ (by omega) c6, hL, hR⟩
  · have : l = [] := List.eq_nil_of_length_eq_zero (by omega)
    subst this
    exact ⟨[], Arr.nil, rfl, fun k r hr => by simp at hr⟩
theorem Laid7.append {w : World} {S : Nat → Prop} {d : Nat} {xs ys : List Value} {l m : List (Rl d)} (h : Laid7 w S d xs l) (k : Laid7 w S d ys m) : Laid7 w S d (xs ++ ys) (l ++ m) := by
  refine ⟨by simp [h.1, k.1]; omega, fun i r hr => ?_⟩
  by_cases hi : i < l.length
  · rw [List.getElem?_append_left hi] at hr
    obtain ⟨a0, a1, a2, a3, a4, a5, e0, e1, e2, e3, e4, e5, e6, hx⟩ := h.2 i r hr
    have hg : ∀ j, j < 7 → (xs ++ ys)[i * 7 + j]? = xs[i * 7 + j]? := fun j hj => List.getElem?_append_left (by rw [h.1]; omega)
    exact ⟨a0, a1, a2, a3, a4, a5, (hg 0 (by omega)).trans e0, (hg 1 (by omega)).trans e1, (hg 2 (by omega)).trans e2, (hg 3 (by omega)).trans e3, (hg 4 (by omega)).trans e4, (hg 5 (by omega)).trans e5, (hg 6 (by omega)).trans e6, hx⟩
  · rw [List.getElem?_append_right (by omega)] at hr
    obtain ⟨a0, a1, a2, a3, a4, a5, e0, e1, e2, e3, e4, e5, e6, hx⟩ := k.2 (i - l.length) r hr
    have hg : ∀ j, (xs ++ ys)[i * 7 + j]? = ys[(i - l.length) * 7 + j]? := fun j => by
      rw [List.getElem?_append_right (by rw [h.1]; omega), h.1, show i * 7 + j - l.length * 7 = (i - l.length) * 7 + j by omega]
    exact ⟨a0, a1, a2, a3, a4, a5, (hg 0).trans e0, (hg 1).trans e1, (hg 2).trans e2, (hg 3).trans e3, (hg 4).trans e4, (hg 5).trans e5, (hg 6).trans e6, hx⟩
theorem Laid7.one {w : World} {S : Nat → Prop} {d : Nat} {xs : List Value} {l : List (Rl d)} (h : Laid7 w S d xs l) : ∀ u ∈ xs, u.oneCell' = true := by
  intro u hu
  obtain ⟨i, hi, rfl⟩ := List.getElem_of_mem hu
  have hil : i < l.length * 7 := by rw [← h.1]; exact hi
  obtain ⟨v0, v1, v2, u0, u1, u2, e0, e1, e2, e3, e4, e5, e6, hL, hR⟩ := h.2 (i / 7) _ (List.getElem?_eq_getElem (by omega))
  have h1 := one3 hL
  have h2 := one3 hR
  have hi7 : i = i / 7 * 7 + i % 7 := by omega
  have hm : i % 7 = 0 ∨ i % 7 = 1 ∨ i % 7 = 2 ∨ i % 7 = 3 ∨ i % 7 = 4 ∨ i % 7 = 5 ∨ i % 7 = 6 := by omega
  have key : ∀ v, xs[i / 7 * 7 + i % 7]? = some v → xs[i] = v := fun v hv => by
    rw [← hi7, List.getElem?_eq_getElem hi] at hv
    injection hv
  rcases hm with e | e | e | e | e | e | e <;> rw [e] at key
  · rw [key _ e0]; exact h1 _ (by simp)
  · rw [key _ e1]; exact h1 _ (by simp)
  · rw [key _ e2]; exact h1 _ (by simp)
  · rw [key _ e3]; exact h2 _ (by simp)
  · rw [key _ e4]; exact h2 _ (by simp)
  · rw [key _ e5]; exact h2 _ (by simp)
  · rw [key _ e6]; rfl
theorem own_keepL {w w' : World} {B e size n : Nat} {v : Value} {xs : List Value} (h : w.ownsRow B e size v n xs) (hk : ∀ k, v.ownBlock = some k → w'.heap[k]? = w.heap[k]?) : w'.ownsRow B e size v n xs := by
  obtain ⟨h1, h2 | ⟨g, cap, cur, e, hg, hh, r⟩⟩ := h
  · exact ⟨h1, .inl h2⟩
  · exact ⟨h1, .inr ⟨g, cap, cur, e, hg, (hk g (by rw [e]; rfl)).trans hh, r⟩⟩
/-- Rules of one's own, from B on; their expressions lie below T. -/
def OwnRl (w : World) (B T : Nat) (d : Nat) (v : Value) (l : List (Rl d)) : Prop := ∃ xs, w.ownsRow B 47 7 v l.length xs ∧ Laid7 w (fun b => b < T) d xs l
section
variable {w w' : World} {B T d : Nat} {v v' : Value} {l m : List (Rl d)}
theorem OwnRl.keep (h : OwnRl w B T d v l) (hT : ∀ b, b < T → b < w.heap.size → w'.heap[b]? = w.heap[b]?) (hO : ∀ b, B ≤ b → b < w.heap.size → w'.heap[b]? = w.heap[b]?) : OwnRl w' B T d v l := by
  obtain ⟨xs, ho, hl⟩ := h
  exact ⟨xs, own_keepL ho (fun k hk => hO k (ho.lt k hk).1 (ho.lt k hk).2), hl.imp hT fun _ h _ => h⟩
theorem OwnRl.below (h : OwnRl w B T d v l) (hb : Below w.heap.size w w') : OwnRl w' B T d v l := h.keep (fun b _ hlt => hb.block b hlt) fun b _ hlt => hb.block b hlt
theorem OwnRl.rows (h : OwnRl w B T d v l) : ∃ A c, v = .slice A l.length c ∧ l.length ≤ c ∧ c ≤ maxLen ∧ Row7 w Any d A l := by
  obtain ⟨xs, ho, hx⟩ := h
  obtain ⟨A, cp, rfl, h1, h2, h3⟩ := own_arr ho
  refine ⟨A, cp, rfl, h1, h2, fun j u hu => ?_⟩
  obtain ⟨v0, v1, v2, u0, u1, u2, e0, e1, e2, e3, e4, e5, e6, hL, hR⟩ := hx.2 j u hu
  obtain ⟨b, o, eA, _, hlt, c0⟩ := h3.at e0
  have hc : ∀ i v, xs[j * 7 + i]? = some v → w.cell? ⟨b, o + j * 7 + i, none⟩ = some v := fun i v hv => by
    obtain ⟨b', o', eA', _, _, c1⟩ := h3.at hv
    rw [eA] at eA'
    cases eA'
    rw [Nat.add_assoc]; exact c1
  exact ⟨b, o, v0, v1, v2, u0, u1, u2, eA, trivial, hlt, c0, hc 1 _ e1, hc 2 _ e2, hc 3 _ e3, hc 4 _ e4, hc 5 _ e5, hc 6 _ e6, hL.mono fun _ _ _ => trivial, hR.mono fun _ _ _ => trivial⟩
/-- 'append(rules, more...)'. -/
theorem wp_app_rls {o : Oper} {a : Act} {Kn : Act → World → Prop} {Q : Exit → Act → World → Prop} (s x : Operand) (hop : o.op = .call { callee := .builtin .append, args := #[s, x], argTypes := #[31, 31] }) {A : Option Addr} {c n : Nat} {ys : List Value}
    (hs : a.eval s = v) (h : OwnRl w B T d v l) (hx : a.eval x = .slice A n c) (hn : n = m.length) (hr : Src w 7 A n ys) (hy : Laid7 w (fun b => b < T) d ys m) (hl : l.length + m.length ≤ 1000) (hB : B ≤ w.heap.size) (hTB : T ≤ B)
    (hk : ∀ v' w', OwnRl w' B T d v' (l ++ m) → w.grownBy w' v.ownBlock → (∀ k, v.ownBlock = some k → B ≤ k) → Kn (a.put o.dst v') w') : Oper.wp Try.prog o a w Kn Q := by
  obtain ⟨i0, hi0, hz0, hz1, hz2⟩ := info_parts info47
  obtain ⟨xs, ho, hlx⟩ := h
  subst hn
  refine wp_app w s x 31 hop B 47 i0 _ 7 88 Try.underlying31 hi0 hz0 hz1 hz2 (by rfl) (by omega) v l.length xs hs ho A m.length c ys hx hr hy.one (by unfold maxLen; omega) (by omega) hB ?_
  intro v' w' ho' hg hv
  have hlt := ho.lt
  refine hk v' w' ⟨xs ++ ys, by simpa using ho', ?_⟩ hg fun k hk => (hlt k hk).1
  exact (hlx.append hy).imp (fun b hb hb' => hg.block b hb' fun e => by have := (hlt b e.symm).1; omega) fun _ h _ => h
/-- The rule that always applies, in a block of its own. -/
theorem always_laid (w : World) (T d : Nat) (br : Bool) : Laid7 w (fun b => b < T) (d + 1) [.int .i64 9, .int .i64 0, .slice none 0 0, .int .i64 9, .int .i64 0, .slice none 0 0, .bool br] [always d br] := by
  have ht : IsTr w (fun b => b < T) (d + 1) (.agg #[.int .i64 9, .int .i64 0, .slice none 0 0]) ((9, 0, []) : Int × Int × List (Tr d)) := ⟨none, 0, rfl, Nat.le_refl _, Nat.zero_le _, fun k t h => by simp [Tr.kids] at h⟩
  refine ⟨rfl, fun k r hr => ?_⟩
  cases k with
  | zero =>
    have e : always d br = r := by simpa using hr
    subst e
    exact ⟨_, _, _, _, _, _, rfl, rfl, rfl, rfl, rfl, rfl, rfl, ht, ht⟩
  | succ k => simp at hr
theorem always_own (w : World) (T d : Nat) (br : Bool) : OwnRl (w.alloc (.cells #[.int .i64 9, .int .i64 0, .slice none 0 0, .int .i64 9, .int .i64 0, .slice none 0 0, .bool br] 47)) w.heap.size T (d + 1) (.slice (some ⟨w.heap.size, 0, none⟩) 1 1) [always d br] :=
  ⟨_, ⟨rfl, .inr ⟨_, 1, _, rfl, Nat.le_refl _, heap_alloc_new _ _, Nat.le_refl _, by unfold maxLen; omega, rfl, rfl⟩⟩, always_laid _ T d br⟩
theorem always_src (w : World) (br : Bool) : Src (w.alloc (.cells #[.int .i64 9, .int .i64 0, .slice none 0 0, .int .i64 9, .int .i64 0, .slice none 0 0, .bool br] 47)) 7 (some ⟨w.heap.size, 0, none⟩) 1 [.int .i64 9, .int .i64 0, .slice none 0 0, .int .i64 9, .int .i64 0, .slice none 0 0, .bool br] :=
  ⟨rfl, fun _ => ⟨_, rfl, fun j u hu => by
    have hb : (w.alloc (.cells #[.int .i64 9, .int .i64 0, .slice none 0 0, .int .i64 9, .int .i64 0, .slice none 0 0, .bool br] 47)).heap[w.heap.size]? = some (.cells #[.int .i64 9, .int .i64 0, .slice none 0 0, .int .i64 9, .int .i64 0, .slice none 0 0, .bool br] 47 (0, 0)) := heap_alloc_new w _
    rw [Addr.add_lit, Nat.zero_add, cell_of_row _ _ j _ _ _ hb, ← Array.getElem?_toList]; exact hu⟩⟩
end
end Go.Proofs.Ytjcdcmeclnihbaa
