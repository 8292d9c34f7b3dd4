/- Rules and meanings in memory; slices of rules of one's own. No conditions. -/
import Derived.Test.YtjcdcmeclnihbaaOw
namespace Go.Proofs.Ytjcdcmeclnihbaa
open Go.RowKit
/-- A rule: two expressions, and whether there is a break. -/
structure Rl (d : Nat) where
  L : Tr d
  R : Tr d
  br : Bool
/-- Rules, seven cells each. -/
def Row7 (w : World) (S : Nat → Prop) (d : Nat) (A : Option Addr) (l : List (Rl d)) : Prop :=
  ∀ (k : Nat) (r : Rl d), l[k]? = some r → ∃ b o v0 v1 v2 u0 u1 u2, A = some ⟨b, o, none⟩ ∧ S b ∧ b < w.heap.size ∧ w.cell? ⟨b, o + k * 7, none⟩ = some v0 ∧ w.cell? ⟨b, o + k * 7 + 1, none⟩ = some v1 ∧ w.cell? ⟨b, o + k * 7 + 2, none⟩ = some v2 ∧
    w.cell? ⟨b, o + k * 7 + 3, none⟩ = some u0 ∧ w.cell? ⟨b, o + k * 7 + 4, none⟩ = some u1 ∧ w.cell? ⟨b, o + k * 7 + 5, none⟩ = some u2 ∧ w.cell? ⟨b, o + k * 7 + 6, none⟩ = some (.bool r.br) ∧ IsTr w S d (.agg #[v0, v1, v2]) r.L ∧ IsTr w S d (.agg #[u0, u1, u2]) r.R
/-- What a rule text means. -/
structure Tx (d : Nat) where
  ig : List Int
  kp : List Int
  rs : List (Rl d)
def IsTx (w : World) (S : Nat → Prop) (d : Nat) (v : Value) (t : Tx d) : Prop :=
  ∃ iv kv A c, v = .agg #[iv, kv, .slice A t.rs.length c] ∧ IsNums .i64 w S iv t.ig ∧ IsNums .i64 w S kv t.kp ∧ t.rs.length ≤ c ∧ c ≤ maxLen ∧ Row7 w S d A t.rs
/-- A rule as a value. -/
def IsRl (w : World) (S : Nat → Prop) (d : Nat) (v : Value) (r : Rl d) : Prop :=
  ∃ v0 v1 v2 u0 u1 u2, v = .agg #[v0, v1, v2, u0, u1, u2, .bool r.br] ∧ IsTr w S d (.agg #[v0, v1, v2]) r.L ∧ IsTr w S d (.agg #[u0, u1, u2]) r.R
section
variable {w w' : World} {S S' : Nat → Prop} {d : Nat}
theorem Row7.imp {A : Option Addr} {l : List (Rl d)} (h : Row7 w S d A l) (hk : ∀ b, S b → b < w.heap.size → w'.heap[b]? = w.heap[b]?) (hS : ∀ b, S b → b < w.heap.size → S' b) : Row7 w' S' d A l := fun k r hr => by
  obtain ⟨b, o, v0, v1, v2, u0, u1, u2, e, hs, hlt, c0, c1, c2, c3, c4, c5, c6, hL, hR⟩ := h k r hr
  have hh := hk b hs hlt
  have hlt' : b < w'.heap.size := by
    have h1 : w'.heap[b]? = some w.heap[b] := hh.trans (Array.getElem?_eq_getElem hlt)
    exact (Array.getElem?_eq_some_iff.1 h1).1
  have hc : ∀ j, w'.cell? ⟨b, j, none⟩ = w.cell? ⟨b, j, none⟩ := fun j => World.cell?_of_block (a := ⟨b, j, none⟩) hh
  exact ⟨b, o, v0, v1, v2, u0, u1, u2, e, hS b hs hlt, hlt', (hc _).trans c0, (hc _).trans c1, (hc _).trans c2, (hc _).trans c3, (hc _).trans c4, (hc _).trans c5, (hc _).trans c6, IsTr.imp hk hS _ _ _ hL, IsTr.imp hk hS _ _ _ hR⟩
theorem Row7.below {A : Option Addr} {l : List (Rl d)} (h : Row7 w S d A l) (hb : Below w.heap.size w w') : Row7 w' S d A l := h.imp (fun b _ hlt => hb.block b hlt) fun _ h _ => h
theorem IsTx.imp {v : Value} {t : Tx d} (h : IsTx w S d v t) (hk : ∀ b, S b → b < w.heap.size → w'.heap[b]? = w.heap[b]?) (hS : ∀ b, S b → b < w.heap.size → S' b) : IsTx w' S' d v t := by
  obtain ⟨iv, kv, A, c, e, h1, h2, h3, h4, h5⟩ := h
  refine ⟨iv, kv, A, c, e, ?_, ?_, h3, h4, h5.imp hk hS⟩
  · exact (h1.mono (S' := fun b => S b ∧ S' b) fun b hs hlt => ⟨hs, hS b hs hlt⟩).keep (fun b hs hlt => hk b hs.1 hlt) |>.mono fun b hs _ => hs.2
  · exact (h2.mono (S' := fun b => S b ∧ S' b) fun b hs hlt => ⟨hs, hS b hs hlt⟩).keep (fun b hs hlt => hk b hs.1 hlt) |>.mono fun b hs _ => hs.2
theorem IsTx.below {v : Value} {t : Tx d} (h : IsTx w S d v t) (hb : Below w.heap.size w w') : IsTx w' S d v t := h.imp (fun b _ hlt => hb.block b hlt) fun _ h _ => h
theorem IsTx.open {v : Value} {t : Tx d} (h : IsTx w S d v t) : ∃ I ic K kc A c, v = .agg #[.slice I t.ig.length ic, .slice K t.kp.length kc, .slice A t.rs.length c] ∧
    IsNums .i64 w S (.slice I t.ig.length ic) t.ig ∧ IsNums .i64 w S (.slice K t.kp.length kc) t.kp ∧ t.ig.length ≤ 9223372036854775807 ∧ t.kp.length ≤ 9223372036854775807 ∧ t.rs.length ≤ 9223372036854775807 ∧ Row7 w S d A t.rs := by
  obtain ⟨iv, kv, A, c, e, h1, h2, h3, h4, h5⟩ := h
  obtain ⟨I, ic, rfl⟩ := h1.form
  obtain ⟨K, kc, rfl⟩ := h2.form
  exact ⟨I, ic, K, kc, A, c, e, h1, h2, h1.le, h2.le, by unfold maxLen at h4; omega, h5⟩
theorem IsRl.imp {v : Value} {r : Rl d} (h : IsRl w S d v r) (hk : ∀ b, S b → b < w.heap.size → w'.heap[b]? = w.heap[b]?) (hS : ∀ b, S b → b < w.heap.size → S' b) : IsRl w' S' d v r := by
  obtain ⟨v0, v1, v2, u0, u1, u2, e, hL, hR⟩ := h
  exact ⟨v0, v1, v2, u0, u1, u2, e, IsTr.imp hk hS _ _ _ hL, IsTr.imp hk hS _ _ _ hR⟩
theorem IsRl.below {v : Value} {r : Rl d} (h : IsRl w S d v r) (hb : Below w.heap.size w w') : IsRl w' S d v r := h.imp (fun b _ hlt => hb.block b hlt) fun _ h _ => h
/-- A rule: its cells, spelled. -/
theorem Row7.at {A : Option Addr} {l : List (Rl d)} (h : Row7 w S d A l) {k : Nat} {r : Rl d} (hr : l[k]? = some r) : ∃ b o k0 k1 A0 n0 p0 j0 j1 A1 n1 p1, A = some ⟨b, o, none⟩ ∧ S b ∧ b < w.heap.size ∧
    w.cell? ⟨b, o + k * 7, none⟩ = some (.int .i64 k0) ∧ w.cell? ⟨b, o + k * 7 + 1, none⟩ = some (.int .i64 k1) ∧ w.cell? ⟨b, o + k * 7 + 2, none⟩ = some (.slice A0 n0 p0) ∧
    w.cell? ⟨b, o + k * 7 + 3, none⟩ = some (.int .i64 j0) ∧ w.cell? ⟨b, o + k * 7 + 4, none⟩ = some (.int .i64 j1) ∧ w.cell? ⟨b, o + k * 7 + 5, none⟩ = some (.slice A1 n1 p1) ∧ w.cell? ⟨b, o + k * 7 + 6, none⟩ = some (.bool r.br) ∧
    IsTr w S d (.agg #[.int .i64 k0, .int .i64 k1, .slice A0 n0 p0]) r.L ∧ IsTr w S d (.agg #[.int .i64 j0, .int .i64 j1, .slice A1 n1 p1]) r.R := by
  obtain ⟨b, o, v0, v1, v2, u0, u1, u2, e, hs, hlt, c0, c1, c2, c3, c4, c5, c6, hL, hR⟩ := h k r hr
  obtain ⟨k0, k1, A0, n0, p0, rfl, rfl, rfl⟩ := hL.cells
  obtain ⟨j0, j1, A1, n1, p1, rfl, rfl, rfl⟩ := hR.cells
  exact ⟨b, o, k0, k1, A0, n0, p0, j0, j1, A1, n1, p1, e, hs, hlt, c0, c1, c2, c3, c4, c5, c6, hL, hR⟩
/-- A rule as a value, spelled. -/
theorem IsRl.open {v : Value} {r : Rl d} (h : IsRl w S d v r) : ∃ k0 k1 A0 n0 p0 j0 j1 A1 n1 p1, v = .agg #[.int .i64 k0, .int .i64 k1, .slice A0 n0 p0, .int .i64 j0, .int .i64 j1, .slice A1 n1 p1, .bool r.br] ∧
    IsTr w S d (.agg #[.int .i64 k0, .int .i64 k1, .slice A0 n0 p0]) r.L ∧ IsTr w S d (.agg #[.int .i64 j0, .int .i64 j1, .slice A1 n1 p1]) r.R := by
  obtain ⟨v0, v1, v2, u0, u1, u2, e, hL, hR⟩ := h
  obtain ⟨k0, k1, A0, n0, p0, rfl, rfl, rfl⟩ := hL.cells
  obtain ⟨j0, j1, A1, n1, p1, rfl, rfl, rfl⟩ := hR.cells
  exact ⟨k0, k1, A0, n0, p0, j0, j1, A1, n1, p1, e, hL, hR⟩
/-- A rule in a box of its own. -/
theorem box7 {W : World} {a0 a1 a2 a3 a4 a5 a6 : Value} {T : Nat} (hW : W = w.alloc (.cells #[a0, a1, a2, a3, a4, a5, a6] T)) : Below w.heap.size w W ∧
    ∀ Y, Below W.heap.size W Y → Y.cell? ⟨w.heap.size, 0, none⟩ = some a0 ∧ Y.cell? ⟨w.heap.size, 1, none⟩ = some a1 ∧ Y.cell? ⟨w.heap.size, 2, none⟩ = some a2 ∧ Y.cell? ⟨w.heap.size, 3, none⟩ = some a3 ∧ Y.cell? ⟨w.heap.size, 4, none⟩ = some a4 ∧ Y.cell? ⟨w.heap.size, 5, none⟩ = some a5 ∧ Y.cell? ⟨w.heap.size, 6, none⟩ = some a6 := by
  have hb : Below w.heap.size w W := by rw [hW]; exact (Below.refl _ _).alloc (Nat.le_refl _) _
  have q0 : W.heap[w.heap.size]? = some (.cells #[a0, a1, a2, a3, a4, a5, a6] T (0, 0)) := by rw [hW]; exact heap_alloc_new _ _
  refine ⟨hb, fun Y hY => ?_⟩
  have h2 := (hY.block _ (by rw [hW]; simp)).trans q0
  refine ⟨?_, ?_, ?_, ?_, ?_, ?_, ?_⟩ <;> (rw [cell_of_row _ _ _ _ _ _ h2]; rfl)
end
/-! ### rules of one's own -/
def Laid7 (w : World) (S : Nat → Prop) (d : Nat) (xs : List Value) (l : List (Rl d)) : Prop :=
  xs.length = l.length * 7 ∧ ∀ (k : Nat) (r : Rl d), l[k]? = some r → ∃ v0 v1 v2 u0 u1 u2, xs[k * 7]? = some v0 ∧ xs[k * 7 + 1]? = some v1 ∧ xs[k * 7 + 2]? = some v2 ∧ xs[k * 7 + 3]? = some u0 ∧ xs[k * 7 + 4]? = some u1 ∧ xs[k * 7 + 5]? = some u2 ∧ xs[k * 7 + 6]? = some (.bool r.br) ∧
    IsTr w S d (.agg #[v0, v1, v2]) r.L ∧ IsTr w S d (.agg #[u0, u1, u2]) r.R
theorem Laid7.imp {w w' : World} {S S' : Nat → Prop} {d : Nat} {xs : List Value} {l : List (Rl d)} (h : Laid7 w S d xs l) (hk : ∀ b, S b → b < w.heap.size → w'.heap[b]? = w.heap[b]?) (hS : ∀ b, S b → b < w.heap.size → S' b) : Laid7 w' S' d xs l :=
  ⟨h.1, fun k t ht => by
    obtain ⟨v0, v1, v2, u0, u1, u2, e0, e1, e2, e3, e4, e5, e6, hL, hR⟩ := h.2 k t ht
    exact ⟨v0, v1, v2, u0, u1, u2, e0, e1, e2, e3, e4, e5, e6, IsTr.imp hk hS d _ _ hL, IsTr.imp hk hS d _ _ hR⟩⟩
theorem Laid7.snoc {w : World} {S : Nat → Prop} {d : Nat} {xs : List Value} {l : List (Rl d)} {v0 v1 v2 u0 u1 u2 : Value} {r : Rl d} (h : Laid7 w S d xs l) (hL : IsTr w S d (.agg #[v0, v1, v2]) r.L) (hR : IsTr w S d (.agg #[u0, u1, u2]) r.R) :
    Laid7 w S d (xs ++ [v0, v1, v2, u0, u1, u2, .bool r.br]) (l ++ [r]) := by
  refine ⟨by simp [h.1]; omega, fun k u hu => ?_⟩
  by_cases hk : k < l.length
  · rw [List.getElem?_append_left hk] at hu
    obtain ⟨a0, a1, a2, a3, a4, a5, e0, e1, e2, e3, e4, e5, e6, hr⟩ := h.2 k u hu
    have hx : ∀ j, k * 7 + j < l.length * 7 → (xs ++ [v0, v1, v2, u0, u1, u2, .bool r.br])[k * 7 + j]? = xs[k * 7 + j]? := fun j hj => List.getElem?_append_left (by rw [h.1]; exact hj)
    exact ⟨a0, a1, a2, a3, a4, a5, (hx 0 (by omega)).trans e0, (hx 1 (by omega)).trans e1, (hx 2 (by omega)).trans e2, (hx 3 (by omega)).trans e3, (hx 4 (by omega)).trans e4, (hx 5 (by omega)).trans e5, (hx 6 (by omega)).trans e6, hr⟩
  · have hk2 : k = l.length := by
      have := (List.getElem?_eq_some_iff.1 hu).1
      simp at this; omega
    subst hk2
    simp at hu
    subst hu
    have hx : ∀ j, (xs ++ [v0, v1, v2, u0, u1, u2, .bool r.br])[l.length * 7 + j]? = [v0, v1, v2, u0, u1, u2, .bool r.br][j]? := fun j => by
      rw [List.getElem?_append_right (by rw [h.1]; omega), h.1, show l.length * 7 + j - l.length * 7 = j by omega]
    exact ⟨v0, v1, v2, u0, u1, u2, hx 0, hx 1, hx 2, hx 3, hx 4, hx 5, hx 6, hL, hR⟩
def BRl (w : World) (B : Nat) (d : Nat) (v : Value) (l : List (Rl d)) : Prop := ∃ xs, w.ownsRow B 47 7 v l.length xs ∧ Laid7 w (fun b => B ≤ b ∧ v.ownBlock ≠ some b) d xs l
section
variable {w w' : World} {B d : Nat} {v v' : Value} {l : List (Rl d)}
theorem BRl.nil (w : World) (B d : Nat) : BRl w B d (.slice none 0 0) [] := ⟨[], World.ownsRow_nil _ _ _ _, rfl, fun k t h => by simp at h⟩
theorem BRl.keep (h : BRl w B d v l) (hk : ∀ b, B ≤ b → b < w.heap.size → w'.heap[b]? = w.heap[b]?) : BRl w' B d v l := by
  obtain ⟨xs, ho, hl⟩ := h
  refine ⟨xs, ?_, hl.imp (fun b hb hlt => hk b hb.1 hlt) fun _ h _ => h⟩
  obtain ⟨h1, h2 | ⟨g, cap, cur, e, hg, hh, h3, h4, h5, h6⟩⟩ := ho
  · exact ⟨h1, .inl h2⟩
  · exact ⟨h1, .inr ⟨g, cap, cur, e, hg, (hk g hg (Array.getElem?_eq_some_iff.1 hh).1).trans hh, h3, h4, h5, h6⟩⟩
theorem BRl.below (h : BRl w B d v l) (hb : Below w.heap.size w w') : BRl w' B d v l := h.keep fun b _ hlt => hb.block b hlt
theorem BRl.form (h : BRl w B d v l) : ∃ A c, v = .slice A l.length c ∧ l.length ≤ c ∧ c ≤ maxLen := by
  obtain ⟨xs, ho, _⟩ := h
  obtain ⟨A, c, e, h1, h2, _⟩ := own_arr ho
  exact ⟨A, c, e, h1, h2⟩
theorem BRl.lt (h : BRl w B d v l) : ∀ k, v.ownBlock = some k → B ≤ k ∧ k < w.heap.size := by
  obtain ⟨xs, ho, _⟩ := h
  exact fun k hk => ho.lt k hk
/-- The slice of rules, as one that is read. -/
theorem BRl.rows (h : BRl w B d v l) : ∃ A c, v = .slice A l.length c ∧ l.length ≤ c ∧ c ≤ maxLen ∧ Row7 w (fun b => B ≤ b) d A l := by
  obtain ⟨xs, ho, hx⟩ := h
  obtain ⟨A, cp, rfl, h1, h2, h3⟩ := own_arr ho
  refine ⟨A, cp, rfl, h1, h2, fun j u hu => ?_⟩
  obtain ⟨v0, v1, v2, u0, u1, u2, e0, e1, e2, e3, e4, e5, e6, hL, hR⟩ := hx.2 j u hu
  obtain ⟨b, o, eA, ⟨hB, _⟩, hlt, c0⟩ := h3.at e0
  have hc : ∀ i v, xs[j * 7 + i]? = some v → w.cell? ⟨b, o + j * 7 + i, none⟩ = some v := fun i v hv => by
    obtain ⟨b', o', eA', _, _, c1⟩ := h3.at hv
    rw [eA] at eA'
    cases eA'
    rw [Nat.add_assoc]; exact c1
  exact ⟨b, o, v0, v1, v2, u0, u1, u2, eA, hB, hlt, c0, hc 1 _ e1, hc 2 _ e2, hc 3 _ e3, hc 4 _ e4, hc 5 _ e5, hc 6 _ e6, hL.mono fun _ h _ => h.1, hR.mono fun _ h _ => h.1⟩
theorem info47 : (Try.prog.info? 47).map (fun i => (i.zero, i.size, i.bytes)) = some (some (.agg #[.int .i64 0, .int .i64 0, .slice none 0 0, .int .i64 0, .int .i64 0, .slice none 0 0, .bool false]), 7, 88) := by kernel_rfl
/-- 'append(rules, r)', the new rule's cells made just before. -/
theorem wp_app_rl {o : Oper} {a : Act} {Kn : Act → World → Prop} {Q : Exit → Act → World → Prop} (s x : Operand) (hop : o.op = .call { callee := .builtin .append, args := #[s, x], argTypes := #[31, 31] }) {w0 : World} {v0 v1 v2 u0 u1 u2 : Value} {r : Rl d}
    (hw : w = w0.alloc (.cells #[v0, v1, v2, u0, u1, u2, .bool r.br] 47)) (hs : a.eval s = v) (h : BRl w0 B d v l) (hx : a.eval x = .slice (some ⟨w0.heap.size, 0, none⟩) 1 1) (hL : IsTr w0 (fun b => B ≤ b ∧ v.ownBlock ≠ some b) d (.agg #[v0, v1, v2]) r.L)
    (hR : IsTr w0 (fun b => B ≤ b ∧ v.ownBlock ≠ some b) d (.agg #[u0, u1, u2]) r.R) (hl : l.length ≤ 1000000) (hB : B ≤ w0.heap.size)
    (hk : ∀ v' w', BRl w' B d v' (l ++ [r]) → w.grownBy w' v.ownBlock → Kn (a.put o.dst v') w') : Oper.wp Try.prog o a w Kn Q := by
  obtain ⟨i0, hi0, hz0, hz1, hz2⟩ := info_parts info47
  have hb0 : Below w0.heap.size w0 w := by rw [hw]; exact (Below.refl _ _).alloc (Nat.le_refl _) _
  obtain ⟨xs, ho, hlx⟩ := h.below hb0
  have hnew : w.heap[w0.heap.size]? = some (.cells #[v0, v1, v2, u0, u1, u2, .bool r.br] 47 (0, 0)) := by rw [hw]; exact heap_alloc_new _ _
  have hsrc : Src w 7 (some ⟨w0.heap.size, 0, none⟩) 1 [v0, v1, v2, u0, u1, u2, .bool r.br] := ⟨rfl, fun _ => ⟨_, rfl, fun j u hu => by
    rw [Addr.add_lit, Nat.zero_add, cell_of_row _ _ j _ _ _ hnew, ← Array.getElem?_toList]; exact hu⟩⟩
  have hone : ∀ u ∈ [v0, v1, v2, u0, u1, u2, .bool r.br], u.oneCell' = true := by
    intro u hu
    have h1 := one3 hL
    have h2 := one3 hR
    simp at hu h1 h2
    rcases hu with rfl | rfl | rfl | rfl | rfl | rfl | rfl
    · exact h1.1
    · exact h1.2.1
    · exact h1.2.2
    · exact h2.1
    · exact h2.2.1
    · exact h2.2.2
    · rfl
  refine wp_app w s x 31 hop B 47 i0 _ 7 88 Try.underlying31 hi0 hz0 hz1 hz2 (by rfl) (by omega) v l.length xs hs ho (some ⟨w0.heap.size, 0, none⟩) 1 1 _ hx hsrc hone (by unfold maxLen; omega) (by omega) (Nat.le_trans hB hb0.size) ?_
  intro v' w' ho' hg hv
  refine hk v' w' ⟨xs ++ [v0, v1, v2, u0, u1, u2, .bool r.br], by simpa using ho', ?_⟩ hg
  refine Laid7.imp (w := w) (S := fun b => B ≤ b ∧ v.ownBlock ≠ some b) (hlx.snoc (hL.below hb0) (hR.below hb0)) (fun b hb hlt => hg.block b hlt fun e => hb.2 e.symm) fun b hb hlt => ⟨hb.1, fun e => ?_⟩
  rcases hv with hv | hv
  · rw [hv] at e; exact hb.2 e
  · rw [hv] at e; injection e with e; omega
end
end Go.Proofs.Ytjcdcmeclnihbaa
