/- The first marks that tell two states apart, as a search finds them: plain. No program here. Conditions: none. -/
import Derived.Test.YtmdkmobcglnmgaaLo
namespace Go.Proofs.Ytmdkmobcglnmgaa
open Go.RowKit

/-- Marks as a number: shorter ones are less; of one length, as they stand. -/
def code (w : List Nat) : Nat := w.foldl (fun c m => 37 * c + m + 1) 0
theorem code_snoc (w : List Nat) (m : Nat) : code (w ++ [m]) = 37 * code w + m + 1 := by simp [code, List.foldl_append]
theorem snoc_ind {P : List Nat → Prop} (h0 : P []) (h1 : ∀ w m, P w → P (w ++ [m])) : ∀ w, P w := by
  have key : ∀ n w, w.length = n → P w := by
    intro n
    induction n with
    | zero => intro w h; rw [List.eq_nil_of_length_eq_zero h]; exact h0
    | succ n ih =>
      intro w h
      rcases List.eq_nil_or_concat w with rfl | ⟨u, m, rfl⟩
      · cases h
      · rw [List.concat_eq_append] at h ⊢; exact h1 u m (ih u (by simpa using h))
  exact fun w => key w.length w rfl
theorem code_inj : ∀ (w v : List Nat), (∀ m ∈ w, m < 37) → (∀ m ∈ v, m < 37) → code w = code v → w = v := by
  intro w
  refine snoc_ind (P := fun w => ∀ v, (∀ m ∈ w, m < 37) → (∀ m ∈ v, m < 37) → code w = code v → w = v) ?_ ?_ w
  · intro v _ hv h
    rcases List.eq_nil_or_concat v with rfl | ⟨u, m, rfl⟩
    · rfl
    · rw [List.concat_eq_append, code_snoc] at h; simp [code] at h
  · intro w m ih v hw hv h
    rcases List.eq_nil_or_concat v with rfl | ⟨u, k, rfl⟩
    · rw [code_snoc] at h; simp [code] at h
    · rw [List.concat_eq_append] at hv ⊢ h
      rw [code_snoc, code_snoc] at h
      have h1 := hw m (by simp)
      have h2 := hv k (by simp)
      obtain rfl : m = k := by omega
      rw [ih u (fun x hx => hw x (by simp [hx])) (fun x hx => hv x (by simp [hx])) (by omega)]
/-- Two tables' states, told apart by marks. -/
def sep (A B : D) (p q : Nat) (w : List Nat) : Prop := nth A.tells (goW A.next p w) ≠ nth B.tells (goW B.next q w)
structure FirstW (A B : D) (p q : Nat) (w : List Nat) : Prop where
  ok : ∀ m ∈ w, m < 37
  sep : sep A B p q w
  least : ∀ v, (∀ m ∈ v, m < 37) → Proofs.Ytmdkmobcglnmgaa.sep A B p q v → code w ≤ code v
theorem FirstW.uniq {A B : D} {p q : Nat} {w v : List Nat} (h : FirstW A B p q w) (k : FirstW A B p q v) : w = v :=
  code_inj w v h.ok k.ok (Nat.le_antisymm (h.least v k.ok k.sep) (k.least w h.ok h.sep))
theorem goW_snoc (rs : List (List Int)) : ∀ (w : List Nat) (p m : Nat), goW rs p (w ++ [m]) = stp rs (goW rs p w) m
  | [], _, _ => rfl
  | _ :: w, _, m => goW_snoc rs w _ m

/-- A pair that was met: from which one, and by which mark. -/
structure En where
  p : Nat
  q : Nat
  by_ : Int
  mark : Nat
def ent (es : List En) (j : Nat) : En := es[j]?.getD ⟨0, 0, 0, 0⟩
def wrd (ws : List (List Nat)) (j : Nat) : List Nat := ws[j]?.getD []
theorem ent_left {es : List En} {e : En} {j : Nat} (h : j < es.length) : ent (es ++ [e]) j = ent es j := by simp [ent, List.getElem?_append_left h]
theorem ent_last {es : List En} {e : En} : ent (es ++ [e]) es.length = e := by simp [ent]
theorem wrd_left {ws : List (List Nat)} {e : List Nat} {j : Nat} (h : j < ws.length) : wrd (ws ++ [e]) j = wrd ws j := by simp [wrd, List.getElem?_append_left h]
theorem wrd_last {ws : List (List Nat)} {e : List Nat} : wrd (ws ++ [e]) ws.length = e := by simp [wrd]
theorem some_ent {es : List En} {j : Nat} (h : j < es.length) : es[j]? = some (ent es j) := by simp [ent, List.getElem?_eq_getElem h]
def prs (es : List En) : List (Int × Int) := es.map fun e => ((e.p : Int), (e.q : Int))
/-- A pair is met, or is there. -/
def bStep (A B : D) (i : Nat) (es : List En) (m : Nat) : List En :=
  if (((stp A.next (ent es i).p m : Nat) : Int), ((stp B.next (ent es i).q m : Nat) : Int)) ∈ prs es then es else es ++ [⟨stp A.next (ent es i).p m, stp B.next (ent es i).q m, i, m⟩]
/-- What is known in the midst of the search. -/
structure BF (A B : D) (p0 q0 : Nat) (es : List En) (ws : List (List Nat)) (i m : Nat) : Prop where
  len : ws.length = es.length
  pos : 0 < es.length
  z : (ent es 0).p = p0 ∧ (ent es 0).q = q0 ∧ (ent es 0).by_ = -1 ∧ wrd ws 0 = []
  st : ∀ j, j < es.length → (ent es j).p < A.next.length ∧ (ent es j).q < B.next.length
  par : ∀ j, 0 < j → j < es.length → ∃ b : Nat, (ent es j).by_ = b ∧ b < j ∧ (ent es j).mark < 37 ∧ wrd ws j = wrd ws b ++ [(ent es j).mark] ∧ (b < i ∨ b = i ∧ (ent es j).mark < m)
  run : ∀ j, j < es.length → goW A.next p0 (wrd ws j) = (ent es j).p ∧ goW B.next q0 (wrd ws j) = (ent es j).q ∧ ∀ k ∈ wrd ws j, k < 37
  ord : ∀ j k, j < k → k < es.length → code (wrd ws j) < code (wrd ws k)
  exp : ∀ j n, j < es.length → n < 37 → (j < i ∨ j = i ∧ n < m) → ∃ k, k < es.length ∧ (ent es k).p = stp A.next (ent es j).p n ∧ (ent es k).q = stp B.next (ent es j).q n ∧ code (wrd ws k) ≤ 37 * code (wrd ws j) + n + 1
  nod : (prs es).Nodup
  nos : ∀ j, j < i → j < es.length → nth A.tells (ent es j).p = nth B.tells (ent es j).q
theorem prs_at {es : List En} {x y : Nat} : ((x : Int), (y : Int)) ∈ prs es ↔ ∃ k, k < es.length ∧ (ent es k).p = x ∧ (ent es k).q = y := by
  unfold prs
  rw [List.mem_map]
  constructor
  · rintro ⟨e, he, h⟩
    obtain ⟨k, hk⟩ := List.getElem?_of_mem he
    have hlt := (List.getElem?_eq_some_iff.1 hk).1
    refine ⟨k, hlt, ?_⟩
    rw [show ent es k = e by simp [ent, hk]]
    have h1 := congrArg Prod.fst h
    have h2 := congrArg Prod.snd h
    simp only at h1 h2
    omega
  · rintro ⟨k, hk, h1, h2⟩
    exact ⟨ent es k, List.mem_of_getElem? (some_ent hk), by rw [h1, h2]⟩
section
variable {A B : D} {p0 q0 : Nat} {es : List En} {ws : List (List Nat)} {i m : Nat}
theorem BF.start (hp : p0 < A.next.length) (hq : q0 < B.next.length) : BF A B p0 q0 [⟨p0, q0, -1, 0⟩] [[]] 0 0 := by
  have e0 : ∀ j, j < 1 → j = 0 := fun j hj => by omega
  refine ⟨rfl, by simp, ⟨rfl, rfl, rfl, rfl⟩, fun j hj => ?_, fun j h1 h2 => ?_, fun j hj => ?_, fun j k h1 h2 => ?_, fun j n h1 h2 h3 => by omega, ?_, fun j hj => by omega⟩
  · rw [e0 j hj]; exact ⟨hp, hq⟩
  · simp at h2; omega
  · rw [e0 j hj]; exact ⟨rfl, rfl, fun k hk => by simp [wrd] at hk⟩
  · simp at h2; omega
  · simp [prs]
theorem BF.next (h : BF A B p0 q0 es ws i 37) (hne : nth A.tells (ent es i).p = nth B.tells (ent es i).q) : BF A B p0 q0 es ws (i + 1) 0 :=
  { h with
    par := fun j h1 h2 => by
      obtain ⟨b, a1, a2, a3, a4, a5⟩ := h.par j h1 h2
      exact ⟨b, a1, a2, a3, a4, by omega⟩
    exp := fun j n h1 h2 h3 => h.exp j n h1 h2 (by omega)
    nos := fun j h1 h2 => by
      by_cases e : j = i
      · rw [e]; exact hne
      · exact h.nos j (by omega) h2 }
/-- One more mark of the i-th pair. -/
theorem BF.step (h : BF A B p0 q0 es ws i m) (hA : RT A.next A.next.length) (hB : RT B.next B.next.length) (hi : i < es.length) (hm : m < 37) : ∃ ws', BF A B p0 q0 (bStep A B i es m) ws' i (m + 1) := by
  obtain ⟨hp, hq⟩ := h.st i hi
  unfold bStep
  by_cases hmem : (((stp A.next (ent es i).p m : Nat) : Int), ((stp B.next (ent es i).q m : Nat) : Int)) ∈ prs es
  · rw [if_pos hmem]
    obtain ⟨k, k1, k2, k3⟩ := prs_at.1 hmem
    refine ⟨ws, { h with par := fun j h1 h2 => ?_, exp := fun j n h1 h2 h3 => ?_ }⟩
    · obtain ⟨b, a1, a2, a3, a4, a5⟩ := h.par j h1 h2
      exact ⟨b, a1, a2, a3, a4, by omega⟩
    · by_cases e : j = i ∧ n = m
      · obtain ⟨rfl, rfl⟩ := e
        refine ⟨k, k1, k2, k3, ?_⟩
        by_cases hk0 : k = 0
        · rw [hk0, h.z.2.2.2]; simp [code]
        · obtain ⟨b, a1, a2, a3, a4, a5⟩ := h.par k (by omega) k1
          rw [a4, code_snoc]
          rcases a5 with a5 | ⟨a5, a6⟩
          · have := h.ord b j a5 hi
            omega
          · rw [a5]; omega
      · exact h.exp j n h1 h2 (by omega)
  · rw [if_neg hmem]
    have hl : ws.length = es.length := h.len
    have hpn := (hA.at hp hm).1
    have hqn := (hB.at hq hm).1
    have cl : ∀ j, j < (es ++ [(⟨stp A.next (ent es i).p m, stp B.next (ent es i).q m, i, m⟩ : En)]).length → j < es.length ∨ j = es.length := fun j hj => by simp at hj; omega
    obtain ⟨e, he⟩ : ∃ e : En, e = ⟨stp A.next (ent es i).p m, stp B.next (ent es i).q m, i, m⟩ := ⟨_, rfl⟩
    rw [← he] at cl ⊢
    have e1 : e.p = stp A.next (ent es i).p m := by rw [he]
    have e2 : e.q = stp B.next (ent es i).q m := by rw [he]
    have e3 : e.by_ = i := by rw [he]
    have e4 : e.mark = m := by rw [he]
    have wl : wrd (ws ++ [wrd ws i ++ [m]]) es.length = wrd ws i ++ [m] := by rw [← hl]; exact wrd_last
    have wn : ∀ j, j < es.length → wrd (ws ++ [wrd ws i ++ [m]]) j = wrd ws j := fun j hj => wrd_left (by omega)
    refine ⟨ws ++ [wrd ws i ++ [m]], ⟨by simp [hl], by simp, ?_, fun j hj => ?_, fun j h0 hj => ?_, fun j hj => ?_, fun j k hjk hk => ?_, fun j n hj hn hx => ?_, ?_, fun j hji hj => ?_⟩⟩
    · rw [ent_left h.pos, wn 0 h.pos]; exact h.z
    · rcases cl j hj with hj | rfl
      · rw [ent_left hj]; exact h.st j hj
      · rw [ent_last, e1, e2]; exact ⟨hpn, hqn⟩
    · rcases cl j hj with hj | rfl
      · obtain ⟨b, a1, a2, a3, a4, a5⟩ := h.par j h0 hj
        refine ⟨b, ?_, a2, ?_, ?_, ?_⟩
        · rw [ent_left hj]; exact a1
        · rw [ent_left hj]; exact a3
        · rw [ent_left hj, wn j hj, wn b (by omega)]; exact a4
        · rw [ent_left hj]; omega
      · refine ⟨i, ?_, hi, ?_, ?_, ?_⟩
        · rw [ent_last, e3]
        · rw [ent_last, e4]; exact hm
        · rw [ent_last, e4, wl, wn i hi]
        · rw [ent_last, e4]; exact .inr ⟨rfl, Nat.lt_succ_self _⟩
    · rcases cl j hj with hj | rfl
      · rw [ent_left hj, wn j hj]; exact h.run j hj
      · obtain ⟨a, b, c⟩ := h.run i hi
        rw [ent_last, wl, goW_snoc, goW_snoc, a, b, e1, e2]
        refine ⟨rfl, rfl, fun k hk => ?_⟩
        rcases List.mem_append.1 hk with hk | hk
        · exact c k hk
        · rw [List.mem_singleton.1 hk]; exact hm
    · rcases cl k hk with hk | rfl
      · rw [wn j (by omega), wn k hk]; exact h.ord j k hjk hk
      · rw [wn j hjk, wl, code_snoc]
        by_cases hj0 : j = 0
        · rw [hj0, h.z.2.2.2]; simp [code]
        · obtain ⟨b, a1, a2, a3, a4, a5⟩ := h.par j (by omega) hjk
          rw [a4, code_snoc]
          rcases a5 with a5 | ⟨a5, a6⟩
          · have := h.ord b i a5 hi
            omega
          · rw [a5]; omega
    · have hji : j < es.length := by omega
      by_cases ee : j = i ∧ n = m
      · obtain ⟨rfl, rfl⟩ := ee
        refine ⟨es.length, by simp, ?_, ?_, ?_⟩
        · rw [ent_last, ent_left hji, e1]
        · rw [ent_last, ent_left hji, e2]
        · rw [wl, wn j hji, code_snoc]; omega
      · obtain ⟨k, k1, k2, k3, k4⟩ := h.exp j n hji hn (by omega)
        refine ⟨k, by simp; omega, ?_, ?_, ?_⟩
        · rw [ent_left k1, ent_left hji]; exact k2
        · rw [ent_left k1, ent_left hji]; exact k3
        · rw [wn k k1, wn j hji]; exact k4
    · unfold prs at hmem ⊢
      rw [List.map_append, List.nodup_append]
      refine ⟨h.nod, by simp, fun a ha b hb => ?_⟩
      simp only [List.map_cons, List.map_nil, List.mem_singleton] at hb
      rw [hb, e1, e2]
      exact fun e => hmem (e ▸ ha)
    · rcases cl j hj with hj | rfl
      · rw [ent_left hj]; exact h.nos j hji hj
      · omega
/-- Any marks lead to a pair that was met ahead of the i-th, by marks that are not greater; or are no less than the i-th's. -/
theorem BF.all (h : BF A B p0 q0 es ws i 0) : ∀ w : List Nat, (∀ m ∈ w, m < 37) → (∃ k, k < i ∧ k < es.length ∧ (ent es k).p = goW A.next p0 w ∧ (ent es k).q = goW B.next q0 w ∧ code (wrd ws k) ≤ code w) ∨ (i < es.length ∧ code (wrd ws i) ≤ code w) := by
  refine snoc_ind ?_ ?_
  · intro _
    by_cases hi : i = 0
    · right
      rw [hi, h.z.2.2.2]
      exact ⟨h.pos, Nat.le_refl _⟩
    · left
      refine ⟨0, by omega, h.pos, h.z.1, h.z.2.1, ?_⟩
      rw [h.z.2.2.2]; exact Nat.le_refl _
  · intro w m ih hw
    have hm := hw m (by simp)
    rcases ih (fun x hx => hw x (by simp [hx])) with ⟨j, j1, j2, j3, j4, j5⟩ | ⟨h1, h2⟩
    · obtain ⟨k, k1, k2, k3, k4⟩ := h.exp j m j2 hm (.inl j1)
      rw [code_snoc]
      by_cases hki : k < i
      · refine .inl ⟨k, hki, k1, ?_, ?_, by omega⟩
        · rw [k2, j3, goW_snoc]
        · rw [k3, j4, goW_snoc]
      · right
        refine ⟨by omega, ?_⟩
        by_cases e : k = i
        · rw [← e]; omega
        · have := h.ord i k (by omega) k1
          omega
    · rw [code_snoc]
      exact .inr ⟨h1, by omega⟩
theorem BF.found (h : BF A B p0 q0 es ws i 0) (hi : i < es.length) (hne : nth A.tells (ent es i).p ≠ nth B.tells (ent es i).q) : FirstW A B p0 q0 (wrd ws i) := by
  obtain ⟨a, b, c⟩ := h.run i hi
  refine ⟨c, ?_, fun v hv hs => ?_⟩
  · unfold sep; rw [a, b]; exact hne
  · rcases h.all v hv with ⟨k, k1, k2, k3, k4, k5⟩ | ⟨_, h2⟩
    · exfalso
      unfold sep at hs
      rw [← k3, ← k4] at hs
      exact hs (h.nos k k1 k2)
    · exact h2
theorem BF.none (h : BF A B p0 q0 es ws es.length 0) : ∀ v, (∀ m ∈ v, m < 37) → ¬ sep A B p0 q0 v := fun v hv hs => by
  rcases h.all v hv with ⟨k, k1, k2, k3, k4, k5⟩ | ⟨h1, _⟩
  · unfold sep at hs
    rw [← k3, ← k4] at hs
    exact hs (h.nos k k1 k2)
  · omega
theorem BF.size (h : BF A B p0 q0 es ws i m) : es.length ≤ A.next.length * B.next.length := by
  have h1 := nodup_len h.nod (k := (List.range A.next.length).flatMap fun (p : Nat) => (List.range B.next.length).map fun (q : Nat) => ((p : Int), (q : Int))) fun x hx => by
    obtain ⟨e, he, rfl⟩ := List.mem_map.1 hx
    obtain ⟨k, hk⟩ := List.getElem?_of_mem he
    have hlt := (List.getElem?_eq_some_iff.1 hk).1
    obtain ⟨a, b⟩ := h.st k hlt
    rw [show ent es k = e by simp [ent, hk]] at a b
    exact List.mem_flatMap.2 ⟨e.p, List.mem_range.2 a, List.mem_map.2 ⟨e.q, List.mem_range.2 b, rfl⟩⟩
  rw [len_flat _ B.next.length (fun b => by simp)] at h1
  simpa [prs] using h1
end
end Go.Proofs.Ytmdkmobcglnmgaa
namespace Go.Proofs.Ytmdkmobcglnmgaa
open Go.RowKit

theorem code_cons (m : Nat) : ∀ w : List Nat, code (m :: w) = (m + 1) * 37 ^ w.length + code w := by
  refine snoc_ind ?_ ?_
  · simp [code]
  · intro w x ih
    rw [← List.cons_append, code_snoc, ih, code_snoc, List.length_append, List.length_singleton, Nat.pow_succ]
    generalize 37 ^ w.length = P
    have : (m + 1) * (P * 37) = 37 * ((m + 1) * P) := by rw [← Nat.mul_assoc, Nat.mul_comm]
    rw [this]; omega
theorem code_len : ∀ (n : Nat) (w v : List Nat), w.length = n → w.length < v.length → (∀ m ∈ w, m < 37) → code w < code v := by
  intro n
  induction n with
  | zero =>
    intro w v h1 h2 _
    rw [List.eq_nil_of_length_eq_zero h1] at h2 ⊢
    rcases List.eq_nil_or_concat v with rfl | ⟨u, k, rfl⟩
    · simp at h2
    · rw [List.concat_eq_append, code_snoc]; simp [code]
  | succ n ih =>
    intro w v h1 h2 hw
    rcases List.eq_nil_or_concat w with rfl | ⟨w', m, rfl⟩
    · cases h1
    rcases List.eq_nil_or_concat v with rfl | ⟨v', k, rfl⟩
    · simp at h2
    rw [List.concat_eq_append] at h1 h2 hw ⊢
    rw [List.concat_eq_append] at h2 ⊢
    have := ih w' v' (by simpa using h1) (by simpa using h2) (fun x hx => hw x (by simp [hx]))
    have hm := hw m (by simp)
    rw [code_snoc, code_snoc]; omega
theorem code_head : ∀ (n : Nat) (w v : List Nat) (a b : Nat), w.length = n → v.length = n → a < b → (∀ m ∈ w, m < 37) → code (a :: w) < code (b :: v) := by
  intro n
  induction n with
  | zero =>
    intro w v a b h1 h2 hab _
    rw [List.eq_nil_of_length_eq_zero h1, List.eq_nil_of_length_eq_zero h2]
    simp [code]; omega
  | succ n ih =>
    intro w v a b h1 h2 hab hw
    rcases List.eq_nil_or_concat w with rfl | ⟨w', m, rfl⟩
    · cases h1
    rcases List.eq_nil_or_concat v with rfl | ⟨v', k, rfl⟩
    · cases h2
    rw [List.concat_eq_append] at h1 hw ⊢
    rw [List.concat_eq_append] at h2 ⊢
    have := ih w' v' a b (by simpa using h1) (by simpa using h2) hab (fun x hx => hw x (by simp [hx]))
    have hm := hw m (by simp)
    rw [← List.cons_append, ← List.cons_append, code_snoc, code_snoc]; omega
/-- The least mark that leads one nearer. -/
inductive Greedy (rs : List (List Int)) (M : Nat → Nat → Int) : Nat → Nat → List Nat → Prop
  | nil {p q : Nat} : M p q = 0 → Greedy rs M p q []
  | cons {p q k m : Nat} {w : List Nat} : M p q = ((k + 1 : Nat) : Int) → m < 37 → M (stp rs p m) (stp rs q m) = (k : Int) → (∀ j, j < m → M (stp rs p j) (stp rs q j) ≠ (k : Int)) → Greedy rs M (stp rs p m) (stp rs q m) w → Greedy rs M p q (m :: w)
theorem greedy_first {d : D} {n : Nat} {M : Nat → Nat → Int} (hr : RT d.next n) (hA : ∀ p q, p < n → q < n → APart d.next d.tells n p q (M p q)) : ∀ (w : List Nat) (p q : Nat), p < n → q < n → Greedy d.next M p q w → FirstW d d p q w ∧ M p q = (w.length : Int) := by
  intro w
  induction w with
  | nil =>
    intro p q hp hq hg
    cases hg with
    | nil h0 =>
      refine ⟨⟨(fun m h => by cases h), ?_, fun v _ _ => by simp [code]⟩, by simpa using h0⟩
      rcases hA p q hp hq with ⟨h1, _⟩ | ⟨k, _, h1, h2, _⟩
      · omega
      · obtain rfl : k = 0 := by omega
        exact h2
  | cons m w ih =>
    intro p q hp hq hg
    cases hg with
    | @cons _ _ k _ _ h1 hm h2 h3 h4 =>
      obtain ⟨i1, i2⟩ := ih _ _ (hr.at hp hm).1 (hr.at hq hm).1 h4
      have hlen : w.length = k := by rw [h2] at i2; omega
      refine ⟨⟨fun x hx => ?_, i1.sep, fun v hv hs => ?_⟩, by rw [h1]; simp [hlen]⟩
      · rcases List.mem_cons.1 hx with rfl | hx
        · exact hm
        · exact i1.ok x hx
      · have hmin : ∀ j, j < k + 1 → ¬ dk d.next d.tells j p q := by
          rcases hA p q hp hq with ⟨e, _⟩ | ⟨k', _, e, _, e2⟩
          · rw [h1] at e; omega
          · obtain rfl : k' = k + 1 := by rw [h1] at e; omega
            exact e2
        have hvl : k + 1 ≤ v.length := by
          refine Nat.le_of_not_lt fun hlt => hmin v.length (by omega) (dk_word.2 ⟨v, hv, Nat.le_refl _, hs⟩)
        cases v with
        | nil => simp at hvl
        | cons m' v =>
          have hm' := hv m' List.mem_cons_self
          have hv' : ∀ x ∈ v, x < 37 := fun x hx => hv x (List.mem_cons_of_mem _ hx)
          have hs' : sep d d (stp d.next p m') (stp d.next q m') v := hs
          have hok : ∀ x ∈ m :: w, x < 37 := fun x hx => by
            rcases List.mem_cons.1 hx with rfl | hx
            · exact hm
            · exact i1.ok x hx
          simp only [List.length_cons] at hvl
          by_cases hL : k < v.length
          · exact Nat.le_of_lt (code_len (k + 1) _ _ (by simp [hlen]) (by simp; omega) hok)
          · have hvk : v.length = k := by omega
            have hM : M (stp d.next p m') (stp d.next q m') = (k : Int) := by
              have hdk : dk d.next d.tells k (stp d.next p m') (stp d.next q m') := dk_word.2 ⟨v, hv', by omega, hs'⟩
              have ha := hA _ _ (hr.at hp hm').1 (hr.at hq hm').1
              rcases ha with ⟨_, e⟩ | ⟨j, e1, e2, e3, e4⟩
              · exfalso
                by_cases hkn : k ≤ n
                · exact e (dk_mono hkn hdk)
                · have hpq := hA p q hp hq
                  rcases hpq with ⟨e', _⟩ | ⟨k', e5, e', _, _⟩
                  · rw [h1] at e'; omega
                  · rw [h1] at e'; omega
              · have hjk : ¬ j < k := fun hlt => hmin (j + 1) (by omega) (.inr ⟨m', hm', e3⟩)
                have hkj : ¬ k < j := fun hlt => e4 k hlt hdk
                rw [e2]; omega
            have hmm : m ≤ m' := Nat.le_of_not_lt fun hlt => h3 m' hlt hM
            rcases Nat.lt_or_eq_of_le hmm with hlt | rfl
            · exact Nat.le_of_lt (code_head k _ _ _ _ hlen hvk hlt i1.ok)
            · rw [code_cons, code_cons, hlen, hvk]
              have := i1.least v hv' hs'
              omega
theorem greedy_none {d : D} {n : Nat} {M : Nat → Nat → Int} (hr : RT d.next n) (hn : 1 ≤ n) (hA : ∀ p q, p < n → q < n → APart d.next d.tells n p q (M p q)) {p q : Nat} (hp : p < n) (hq : q < n) : M p q < 0 ↔ ∀ v, (∀ m ∈ v, m < 37) → ¬ sep d d p q v := by
  rw [(hA p q hp hq).alk hr hn hp hq]
  exact ⟨fun h v hv hs => hs (h v hv), fun h v hv => Classical.byContradiction fun hc => h v hv hc⟩
/-- Tables alike: by no marks are their first states told apart. -/
def AlkT (A B : D) : Prop := ∀ v, (∀ m ∈ v, m < 37) → ¬ sep A B 0 0 v
theorem AlkT.symm {A B : D} (h : AlkT A B) : AlkT B A := fun v hv hs => h v hv (Ne.symm hs)
theorem AlkT.refl (A : D) : AlkT A A := fun _ _ hs => hs rfl
theorem AlkT.trans {A B C : D} (h : AlkT A B) (k : AlkT B C) : AlkT A C := fun v hv hs => hs ((Classical.byContradiction fun hc => h v hv hc : nth A.tells _ = nth B.tells _).trans (Classical.byContradiction fun hc => k v hv hc))
theorem LeastIs.alkT {d y : D} {F : List Int} (h : LeastIs d F y) (hr : RT d.next d.next.length) : AlkT d y := fun v hv hs => by
  have := h.tell hr h.z.2 hv
  rw [h.z.1] at this
  exact hs this.symm
theorem LeastIs.u64 {d y : D} {F : List Int} (h : LeastIs d F y) (ht : d.tells.length = d.next.length) (hu : ∀ z ∈ d.tells, u64ok z) : ∀ z ∈ y.tells, u64ok z := fun z hz => by
  obtain ⟨j, hj⟩ := List.getElem?_of_mem hz
  have hlt := (List.getElem?_eq_some_iff.1 hj).1
  rw [h.len.2.1] at hlt
  have h1 := (h.row j hlt).2.1
  rw [nth_some hj] at h1
  obtain ⟨q, hq, hqn⟩ := h.st j hlt
  rw [hq] at h1
  rw [h1]
  exact hu _ (nth_mem (by show q < _; omega))
end Go.Proofs.Ytmdkmobcglnmgaa
