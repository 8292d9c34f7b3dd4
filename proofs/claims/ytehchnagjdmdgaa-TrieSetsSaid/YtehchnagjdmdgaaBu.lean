/- Runes of the call's own, put together in any order. Conditions: none. -/
import Derived.Test.YtehchnagjdmdgaaPt
import Derived.Test.YtehchnagjdmdgaaCw
namespace Go.Proofs.Ytehchnagjdmdgaa
open Go.RowKit
def i32r (z : Int) : Prop := -2147483648 ≤ z ∧ z ≤ 2147483647
abbrev OwnJ (w : World) (B : Nat) (v : Value) (l : List Int) : Prop := w.ownsRow B 21 1 v l.length (l.map (.int .i32))
theorem info21 : (Try.prog.info? 21).map (fun i => (i.zero, i.size, i.bytes)) = some (some (.int .i32 0), 1, 4) := by kernel_rfl
section
variable {w w' : World} {S : Nat → Prop} {A : Option Addr} {l : List Int} {c n : Nat} {k : IntKind}
theorem nums_take (h : IsNums k w S (.slice A l.length c) l) (hn : n ≤ l.length) : IsNums k w S (.slice A n c) (l.take n) := by
  obtain ⟨A', c', e, h1, h2, h3⟩ := h
  obtain ⟨rfl, rfl⟩ : A = A' ∧ c = c' := by injection e with e1 e2 e3; exact ⟨e1, e3⟩
  have hl : (l.take n).length = n := by rw [List.length_take]; omega
  refine ⟨A, c, by rw [hl], by omega, h2, fun hne => ?_⟩
  obtain ⟨b, o, ea, hs, hc⟩ := h3 (by rw [List.length_map] at hne ⊢; omega)
  refine ⟨b, o, ea, hs, fun j v hj => hc j v ?_⟩
  have hjl : j < (l.take n).length := by have := (List.getElem?_eq_some_iff.1 hj).1; simpa using this
  rw [List.getElem?_map, List.getElem?_take, if_pos (by omega)] at hj
  rw [List.getElem?_map]; exact hj
theorem nums_drop (h : IsNums k w S (.slice A l.length c) l) (hn : n ≤ l.length) : IsNums k w S (.slice (if c = n then A else Option.map (fun x => x.add n) A) (l.length - n) (c - n)) (l.drop n) := by
  obtain ⟨A', c', e, h1, h2, h3⟩ := h
  obtain ⟨rfl, rfl⟩ : A = A' ∧ c = c' := by injection e with e1 e2 e3; exact ⟨e1, e3⟩
  refine ⟨_, _, by rw [List.length_drop], by rw [List.length_drop]; omega, by omega, fun hne => ?_⟩
  have hnl : n < l.length := by
    rcases Nat.lt_or_ge n l.length with h | h
    · exact h
    · rw [List.drop_eq_nil_of_le h] at hne; simp at hne
  obtain ⟨b, o, ea, hs, hc⟩ := h3 (by rw [List.length_map]; omega)
  subst ea
  refine ⟨b, o + n, ?_, hs, fun j v hj => ?_⟩
  · rw [if_neg (by omega), Option.map_some, Addr.add_lit]
  · rw [List.getElem?_map, List.getElem?_drop] at hj
    rw [Nat.add_assoc]
    exact hc (n + j) v (by rw [List.getElem?_map]; exact hj)
end
/-- What is put together so far: runes of one's own; one rune's own cell. -/
structure Bun (B : Nat) (W0 W : World) (r : Int) (ov : Option (Value × List Int)) (os : Option Nat) : Prop where
  bel : Below B W0 W
  le : B ≤ W.heap.size
  own : ∀ v xs, ov = some (v, xs) → OwnJ W B v xs
  src : ∀ g, os = some g → B ≤ g ∧ W.heap[g]? = some (.cells #[.int .i32 r] 21 (0, 0)) ∧ ∀ v xs, ov = some (v, xs) → v.ownBlock ≠ some g
section
variable {B : Nat} {W0 W : World} {r : Int} {ov : Option (Value × List Int)} {os : Option Nat}
theorem Bun.start (h : Below B W0 W) (hB : B ≤ W.heap.size) : Bun B W0 W r none none := ⟨h, hB, fun _ _ e => (by cases e), fun _ e => (by cases e)⟩
/-- '[]rune{}'. -/
theorem Bun.mk0 (h : Bun B W0 W r none os) : Bun B W0 (W.alloc (.cells #[] 21)) r (some (.slice (some ⟨W.heap.size, 0, none⟩) 0 0, [])) os := by
  refine ⟨h.bel.alloc h.le _, by have := h.le; simp; omega, fun v xs e => ?_, fun g e => ?_⟩
  · injection e with e
    injection e with e1 e2
    subst e1; subst e2
    exact IntBlk.own (l := []) (show (W.alloc (.cells #[] 21)).heap[W.heap.size]? = _ from heap_alloc_new _ _) h.le (by decide)
  · obtain ⟨h1, h2, -⟩ := h.src g e
    have hlt := (Array.getElem?_eq_some_iff.1 h2).1
    refine ⟨h1, (((Below.refl W.heap.size W).alloc (Nat.le_refl _) _).block g hlt).trans h2, fun v xs e => ?_⟩
    injection e with e
    injection e with e1 e2
    subst e1
    intro e3
    have : W.heap.size = g := by simpa [Value.ownBlock] using e3
    omega
/-- '[]rune{r}'. -/
theorem Bun.mk1 (h : Bun B W0 W r ov none) : Bun B W0 (W.alloc (.cells #[.int .i32 r] 21)) r ov (some W.heap.size) := by
  refine ⟨h.bel.alloc h.le _, by have := h.le; simp; omega, fun v xs e => (h.own v xs e).alloc _, fun g e => ?_⟩
  injection e with e
  subst e
  exact ⟨h.le, heap_alloc_new _ _, fun v xs e e2 => by have := (h.own v xs e).lt _ e2; omega⟩
theorem Bun.grown {W' : World} {v v' : Value} {xs ys : List Int} (h : Bun B W0 W r (some (v, xs)) os) (ho : OwnJ W' B v' ys) (hg : W.grownBy W' v.ownBlock) (hv : v'.ownBlock = v.ownBlock ∨ v'.ownBlock = some W.heap.size) : Bun B W0 W' r (some (v', ys)) os := by
  have hlt := (h.own v xs rfl).lt
  refine ⟨h.bel.grown hg h.le fun k e => (hlt k e).1, Nat.le_trans h.le hg.size, fun v2 xs2 e => ?_, fun g e => ?_⟩
  · injection e with e
    injection e with e1 e2
    subst e1; subst e2; exact ho
  · obtain ⟨h1, h2, h3⟩ := h.src g e
    have hgl := (Array.getElem?_eq_some_iff.1 h2).1
    refine ⟨h1, (hg.block g hgl fun e => h3 v xs rfl e.symm).trans h2, fun v2 xs2 e => ?_⟩
    injection e with e
    injection e with e1 e2
    subst e1
    rcases hv with hv | hv
    · rw [hv]; exact h3 v xs rfl
    · rw [hv]; intro e; injection e with e; omega
/-- 'append(x, y...)', y from elsewhere. -/
theorem Bun.wp_app {o : Oper} {a : Act} {Kn : Act → World → Prop} {Q : Exit → Act → World → Prop} (s x : Operand) (hop : o.op = .call { callee := .builtin .append, args := #[s, x], argTypes := #[23, 23] }) {v : Value} {xs ys : List Int} (hs : a.eval s = v) (h : Bun B W0 W r (some (v, xs)) os) {S : Nat → Prop} {A : Option Addr} {n c : Nat} (hx : a.eval x = .slice A n c) (hn : n = ys.length) (hy : IsNums .i32 W0 S (.slice A n c) ys) (hW : W0.heap.size ≤ B) (hl : xs.length + ys.length ≤ 1000000)
    (hk : ∀ v' w', Bun B W0 w' r (some (v', xs ++ ys)) os → Kn (a.put o.dst v') w') : Oper.wp Try.prog o a W Kn Q := by
  obtain ⟨i0, hi0, hz0, hz1, hz2⟩ := info_parts info21
  subst hn
  have hy' := hy.keep (w' := W) fun b _ hlt => h.bel.block b (Nat.lt_of_lt_of_le hlt hW)
  obtain ⟨A', c', e, -, -, hA⟩ := hy'
  obtain ⟨rfl, rfl⟩ : A = A' ∧ c = c' := by injection e with e1 e2 e3; exact ⟨e1, e3⟩
  refine Go.Proofs.Ytehchnagjdmdgaa.wp_app W s x 23 hop B 21 i0 _ 1 4 Try.underlying23 hi0 hz0 hz1 hz2 rfl (by decide) v xs.length (xs.map (.int .i32)) hs (h.own v xs rfl) A ys.length c (ys.map (.int .i32)) hx (hA.src (by simp) (by omega)) (one_nums _ ys) (by simp only [maxLen]; omega) (by omega) h.le ?_
  intro v' w' h1 h2 h3
  exact hk v' w' (h.grown (by unfold OwnJ; rw [List.length_append, List.map_append]; exact h1) h2 h3)
/-- 'append(x, r)'. -/
theorem Bun.wp_app1 {o : Oper} {a : Act} {Kn : Act → World → Prop} {Q : Exit → Act → World → Prop} (s x : Operand) (hop : o.op = .call { callee := .builtin .append, args := #[s, x], argTypes := #[23, 23] }) {v : Value} {xs : List Int} {g : Nat} (hs : a.eval s = v) (h : Bun B W0 W r (some (v, xs)) (some g)) (hx : a.eval x = .slice (some ⟨g, 0, none⟩) 1 1) (hl : xs.length + 1 ≤ 1000000)
    (hk : ∀ v' w', Bun B W0 w' r (some (v', xs ++ [r])) (some g) → Kn (a.put o.dst v') w') : Oper.wp Try.prog o a W Kn Q := by
  obtain ⟨i0, hi0, hz0, hz1, hz2⟩ := info_parts info21
  obtain ⟨-, h2, -⟩ := h.src g rfl
  have hsrc : Src W 1 (some ⟨g, 0, none⟩) 1 [.int .i32 r] := ⟨rfl, fun _ => ⟨_, rfl, fun j u hu => by
    rw [Addr.add_lit, Nat.zero_add, cell_of_row _ _ j _ _ _ h2, ← Array.getElem?_toList]; exact hu⟩⟩
  refine Go.Proofs.Ytehchnagjdmdgaa.wp_app W s x 23 hop B 21 i0 _ 1 4 Try.underlying23 hi0 hz0 hz1 hz2 rfl (by decide) v xs.length (xs.map (.int .i32)) hs (h.own v xs rfl) (some ⟨g, 0, none⟩) 1 1 _ hx hsrc (by simp [Value.oneCell']) (by simp only [maxLen]; omega) (by omega) h.le ?_
  intro v' w' h1 h2 h3
  exact hk v' w' (h.grown (by unfold OwnJ; rw [List.length_append, List.map_append]; exact h1) h2 h3)
theorem Bun.drew (h : Bun B W0 W r ov os) : Bun B W0 W.drew r ov os := ⟨h.bel.drew, h.le, h.own, h.src⟩
theorem Bun.nums {v : Value} {xs : List Int} (h : Bun B W0 W r (some (v, xs)) os) : IsNums .i32 W (fun b => B ≤ b) v xs := (own_nums (h.own v xs rfl)).mono fun _ h _ => h.1
end
end Go.Proofs.Ytehchnagjdmdgaa
