/- Two lists of entries put together; runs are right. Conditions: none. -/
import Derived.Test.YtehchnagjdmdgaaSa
import Derived.Test.YtehchnagjdmdgaaSe
namespace Go.Proofs.Ytehchnagjdmdgaa
open Go.RowKit
theorem flatV_append (a b : List (Value × Value)) : flatV (a ++ b) = flatV a ++ flatV b := by simp [flatV]
theorem rng_cons (x : Rng) (l : List Rng) (k : Nat) : rng (x :: l) (k + 1) = rng l k := by simp [rng]
theorem UpR.at : ∀ {l : List Rng} {m : Int}, UpR m l → ∀ k, k < l.length → (m ≤ (rng l k).1 ∧ (rng l k).1 ≤ (rng l k).2) ∧ (k = 0 ∨ (rng l (k - 1)).2 + 2 ≤ (rng l k).1)
  | [], _, _, k, hk => by simp at hk
  | x :: l, m, ⟨h1, h2, h3⟩, 0, _ => ⟨⟨h1, h2⟩, .inl rfl⟩
  | x :: l, m, ⟨h1, h2, h3⟩, k + 1, hk => by
    have hk' : k < l.length := by simpa using hk
    obtain ⟨⟨a, b⟩, c⟩ := h3.at k hk'
    rw [rng_cons]
    refine ⟨⟨by omega, b⟩, .inr ?_⟩
    rw [Nat.add_sub_cancel]
    cases k with
    | zero => exact a
    | succ k =>
      rw [rng_cons]
      rcases c with c | c
      · omega
      · rwa [Nat.add_sub_cancel] at c
theorem runs_right (P : Int → Bool) (K : Nat) (hK : K ≤ 1114112) : rightB (runsTo P K) = true := by
  obtain ⟨h1, h2, -⟩ := runs_is P K
  refine List.all_eq_true.2 fun k hk => ?_
  have hk := List.mem_range.1 hk
  obtain ⟨⟨a, b⟩, c⟩ := h1.at k hk
  have hin : inS (runsTo P K) (rng (runsTo P K) k).2 = true := by
    refine List.any_eq_true.2 ⟨rng (runsTo P K) k, ?_, by simp; exact b⟩
    exact List.mem_of_getElem? (i := k) (by simp [rng, List.getElem?_eq_getElem hk])
  rw [h2] at hin
  simp only [Bool.and_eq_true, decide_eq_true_eq] at hin
  unfold okAt mayB
  simp only [Bool.and_eq_true, Bool.or_eq_true, decide_eq_true_eq]
  refine ⟨⟨⟨a, b⟩, by omega⟩, ?_⟩
  rcases c with c | c
  · exact .inl c
  · exact .inr (by omega)
section
variable {w w' : World}
/-- 'append(x, y...)' of entries, both of one's own. -/
theorem wp_app_ents {o : Oper} {a : Act} {Kn : Act → World → Prop} {Q : Exit → Act → World → Prop} (s x : Operand) (hop : o.op = .call { callee := .builtin .append, args := #[s, x], argTypes := #[30, 30] }) {v : Value} {A : Option Addr} {c B1 B2 : Nat} {es fs : List Ent}
    (hs : a.eval s = v) (hown : OwnE w B1 v es) (hx : a.eval x = .slice A fs.length c) (hy : OwnE w B2 (.slice A fs.length c) fs) (hv : ∀ b, v.ownBlock = some b → b < B2) (hn : es.length + fs.length ≤ 1000000) (hB : B1 ≤ w.heap.size)
    (h : ∀ A' c' w', IsEnts w' (fun _ => True) (.slice A' (es ++ fs).length c') (es ++ fs) → w.grownBy w' v.ownBlock → Kn (a.put o.dst (.slice A' (es ++ fs).length c')) w') : Oper.wp Try.prog o a w Kn Q := by
  obtain ⟨i0, hi0, hz0, hz1, hz2⟩ := info_parts info58
  obtain ⟨us, g1, g2, g3⟩ := hown
  obtain ⟨us', k1, k2, k3⟩ := hy
  obtain ⟨A0, c0, e0, -, -, harr⟩ := own_arr k1
  obtain ⟨rfl, rfl⟩ : A = A0 ∧ c = c0 := by injection e0 with e1 e2 e3; exact ⟨e1, e3⟩
  have hone : ∀ u ∈ flatV us', u.oneCell' = true := fun u hu => by
    unfold flatV at hu
    obtain ⟨p, hp, hu⟩ := List.mem_flatMap.1 hu
    obtain ⟨k, hk, rfl⟩ := List.mem_iff_getElem.1 hp
    obtain ⟨q, hq, hq2⟩ := k3 k _ (List.getElem?_eq_getElem (by omega))
    rw [List.getElem?_eq_getElem hk] at hq
    have hq := Option.some.inj hq
    rw [← hq] at hq2
    obtain ⟨uA, uc, hue⟩ := hq2.1.form
    simp only [List.mem_cons, List.not_mem_nil, or_false] at hu
    rcases hu with hu | hu
    · rw [hu, hue]; rfl
    · rw [hu, hq2.2.1]; rfl
  refine wp_app w s x 30 hop B1 58 i0 _ 2 32 Try.underlying30 hi0 hz0 hz1 hz2 rfl (by decide) v es.length (flatV us) hs g1 A fs.length c (flatV us') hx (harr.src (by rw [flatV_len, k2]; omega) (by omega)) hone (by simp only [maxLen]; omega) (by omega) hB fun v' w' h1 h2 h3 => ?_
  obtain ⟨A', c', ev, _⟩ := own_arr h1
  subst ev
  rw [← List.length_append] at h1 ⊢
  refine h A' c' w' ?_ h2
  refine ⟨A', c', rfl, ?_, ?_, fun k y hy => ?_⟩
  · obtain ⟨A2, c2, e2, q1, q2, -⟩ := own_arr h1
    injection e2 with e1 e2 e3; rw [e3]; exact q1
  · obtain ⟨A2, c2, e2, q1, q2, -⟩ := own_arr h1
    injection e2 with e1 e2 e3; rw [e3]; exact q2
  · rw [← flatV_append] at h1
    obtain ⟨A2, c2, e2, q0, q1, q2, q3⟩ := own_two h1
    obtain ⟨rfl, rfl⟩ : A' = A2 ∧ c' = c2 := by injection e2 with e1 e2 e3; exact ⟨e1, e3⟩
    have hk : ∀ b, v.ownBlock ≠ some b → b < w.heap.size → w'.heap[b]? = w.heap[b]? := fun b hb hl => h2.block b hl fun e => hb e.symm
    by_cases hke : k < es.length
    · rw [List.getElem?_append_left hke] at hy
      obtain ⟨q, hq, hq2⟩ := g3 k y hy
      obtain ⟨b, o, ea, hs, hlt, d0, d1⟩ := q3 k q (by rw [List.getElem?_append_left (by omega)]; exact hq)
      exact ⟨b, o, _, _, ea, trivial, hlt, d0, d1, hq2.1.imp (fun b hb hl => hk b hb.2 hl) fun b _ _ => trivial, hq2.2⟩
    · rw [List.getElem?_append_right (by omega)] at hy
      obtain ⟨q, hq, hq2⟩ := k3 _ y hy
      obtain ⟨b, o, ea, hs, hlt, d0, d1⟩ := q3 k q (by rw [List.getElem?_append_right (by omega), g2]; exact hq)
      exact ⟨b, o, _, _, ea, trivial, hlt, d0, d1, hq2.1.imp (fun b hb hl => hk b (fun e => by have := hv b e; omega) hl) fun b _ _ => trivial, hq2.2⟩
theorem wpList_app_ents {ops : Array Oper} {rest : List Oper} {o : Oper} {a : Act} {Q : Exit → Act → World → Prop} (hg : o.guard = none) (s x : Operand) (hop : o.op = .call { callee := .builtin .append, args := #[s, x], argTypes := #[30, 30] }) {v : Value} {A : Option Addr} {c B1 B2 : Nat} {es fs : List Ent}
    (hs : a.eval s = v) (hown : OwnE w B1 v es) (hx : a.eval x = .slice A fs.length c) (hy : OwnE w B2 (.slice A fs.length c) fs) (hv : ∀ b, v.ownBlock = some b → b < B2) (hn : es.length + fs.length ≤ 1000000) (hB : B1 ≤ w.heap.size)
    (h : ∀ A' c' w', IsEnts w' (fun _ => True) (.slice A' (es ++ fs).length c') (es ++ fs) → w.grownBy w' v.ownBlock → wpList Try.prog ops Q rest (a.put o.dst (.slice A' (es ++ fs).length c')) w') : wpList Try.prog ops Q (o :: rest) a w :=
  wpList_plain hg fun _ hK => wp_app_ents s x hop hs hown hx hy hv hn hB fun A' c' w' h1 h2 => hK _ _ (h A' c' w' h1 h2)
end
end Go.Proofs.Ytehchnagjdmdgaa
