/- Ranges and entries in memory. No conditions but what lies in memory. -/
import Derived.Test.YtehchnagjdmdgaaBaseC
import Derived.Test.YtehchnagjdmdgaaPl
import Derived.Test.YtehchnagjdmdgaaProg
namespace Go.Proofs.Ytehchnagjdmdgaa
open Go.RowKit
/-- Structs of two cells, one after another, each of which reads as R says. -/
def Row2 {T : Type} (R : Value → Value → T → Prop) (w : World) (S : Nat → Prop) (A : Option Addr) (l : List T) : Prop :=
  ∀ (k : Nat) (t : T), l[k]? = some t → ∃ b o v0 v1, A = some ⟨b, o, none⟩ ∧ S b ∧ b < w.heap.size ∧ w.cell? ⟨b, o + k * 2, none⟩ = some v0 ∧ w.cell? ⟨b, o + k * 2 + 1, none⟩ = some v1 ∧ R v0 v1 t
def r32 (x : Rng) : Prop := (-2147483648 ≤ x.1 ∧ x.1 ≤ 2147483647) ∧ (-2147483648 ≤ x.2 ∧ x.2 ≤ 2147483647)
def IsRng (v0 v1 : Value) (x : Rng) : Prop := v0 = .int .i32 x.1 ∧ v1 = .int .i32 x.2 ∧ r32 x
/-- A slice of ranges. -/
def IsRngs (w : World) (S : Nat → Prop) (v : Value) (l : List Rng) : Prop := ∃ A c, v = .slice A l.length c ∧ l.length ≤ c ∧ c ≤ maxLen ∧ Row2 IsRng w S A l
def IsEnt (w : World) (S : Nat → Prop) (v0 v1 : Value) (e : Ent) : Prop := IsRngs w S v0 e.1 ∧ v1 = .int .i64 e.2 ∧ -9223372036854775808 ≤ e.2 ∧ e.2 ≤ 9223372036854775807
/-- A slice of entries. -/
def IsEnts (w : World) (S : Nat → Prop) (v : Value) (es : List Ent) : Prop := ∃ A c, v = .slice A es.length c ∧ es.length ≤ c ∧ c ≤ maxLen ∧ Row2 (IsEnt w S) w S A es
section
variable {w w' : World} {S S' : Nat → Prop}
theorem Row2.imp {T : Type} {R R' : Value → Value → T → Prop} {A : Option Addr} {l : List T} (h : Row2 R w S A l) (hk : ∀ b, S b → b < w.heap.size → w'.heap[b]? = w.heap[b]?)
    (hS : ∀ b, S b → b < w.heap.size → S' b) (hR : ∀ v u t, t ∈ l → R v u t → R' v u t) : Row2 R' w' S' A l := fun k t ht => by
  obtain ⟨b, o, v0, v1, e, hs, hlt, c0, c1, hr⟩ := h k t ht
  have hh := hk b hs hlt
  have hlt' : b < w'.heap.size := by
    have h1 : w'.heap[b]? = some w.heap[b] := hh.trans (Array.getElem?_eq_getElem hlt)
    exact (Array.getElem?_eq_some_iff.1 h1).1
  exact ⟨b, o, v0, v1, e, hS b hs hlt, hlt', (World.cell?_of_block (a := ⟨b, _, none⟩) hh).trans c0, (World.cell?_of_block (a := ⟨b, _, none⟩) hh).trans c1, hR _ _ t (List.mem_of_getElem? ht) hr⟩
theorem Row2.nil {T : Type} {R : Value → Value → T → Prop} {A : Option Addr} : Row2 R w S A [] := fun k t h => by simp at h
theorem IsRngs.imp {v : Value} {l : List Rng} (h : IsRngs w S v l) (hk : ∀ b, S b → b < w.heap.size → w'.heap[b]? = w.heap[b]?) (hS : ∀ b, S b → b < w.heap.size → S' b) : IsRngs w' S' v l := by
  obtain ⟨A, c, e, h1, h2, h3⟩ := h
  exact ⟨A, c, e, h1, h2, h3.imp hk hS fun _ _ _ _ h => h⟩
theorem IsRngs.below {v : Value} {l : List Rng} (h : IsRngs w S v l) (hb : Below w.heap.size w w') : IsRngs w' S v l := h.imp (fun b _ hl => hb.block b hl) fun _ h _ => h
theorem IsRngs.any {v : Value} {l : List Rng} (h : IsRngs w S v l) : IsRngs w Any v l := h.imp (fun _ _ _ => rfl) fun _ _ _ => trivial
theorem IsEnts.imp {v : Value} {es : List Ent} (h : IsEnts w S v es) (hk : ∀ b, S b → b < w.heap.size → w'.heap[b]? = w.heap[b]?) (hS : ∀ b, S b → b < w.heap.size → S' b) : IsEnts w' S' v es := by
  obtain ⟨A, c, e, h1, h2, h3⟩ := h
  exact ⟨A, c, e, h1, h2, h3.imp hk hS fun _ _ _ _ h => ⟨h.1.imp hk hS, h.2⟩⟩
theorem IsEnts.below {v : Value} {es : List Ent} (h : IsEnts w S v es) (hb : Below w.heap.size w w') : IsEnts w' S v es := h.imp (fun b _ hl => hb.block b hl) fun _ h _ => h
theorem IsEnts.any {v : Value} {es : List Ent} (h : IsEnts w S v es) : IsEnts w Any v es := h.imp (fun _ _ _ => rfl) fun _ _ _ => trivial
theorem IsRngs.form {v : Value} {l : List Rng} (h : IsRngs w S v l) : ∃ A c, v = .slice A l.length c := by
  obtain ⟨A, c, e, _⟩ := h
  exact ⟨A, c, e⟩
theorem IsEnts.form {v : Value} {es : List Ent} (h : IsEnts w S v es) : ∃ A c, v = .slice A es.length c := by
  obtain ⟨A, c, e, _⟩ := h
  exact ⟨A, c, e⟩
theorem IsRngs.le {v : Value} {l : List Rng} (h : IsRngs w S v l) : l.length ≤ 9223372036854775807 := by
  obtain ⟨A, c, e, h1, h2, _⟩ := h
  unfold maxLen at h2; omega
theorem IsEnts.le {v : Value} {es : List Ent} (h : IsEnts w S v es) : es.length ≤ 9223372036854775807 := by
  obtain ⟨A, c, e, h1, h2, _⟩ := h
  unfold maxLen at h2; omega
/-- The k-th range. -/
def rng (l : List Rng) (k : Nat) : Rng := l[k]?.getD (0, 0)
theorem rng_some {l : List Rng} {k : Nat} (h : k < l.length) : l[k]? = some (rng l k) := by simp [rng, List.getElem?_eq_getElem h]
theorem rng_mem {l : List Rng} {k : Nat} (h : k < l.length) : rng l k ∈ l := List.mem_of_getElem? (rng_some h)
theorem take_rng {l : List Rng} {k : Nat} (h : k < l.length) : l.take (k + 1) = l.take k ++ [rng l k] := by
  rw [List.take_add_one, rng_some h]; rfl
/-- The k-th range's cells. -/
theorem IsRngs.at {A : Option Addr} {n c : Nat} {l : List Rng} (h : IsRngs w S (.slice A n c) l) {k : Nat} (hk : k < l.length) :
    ∃ b o, A = some ⟨b, o, none⟩ ∧ S b ∧ b < w.heap.size ∧ w.cell? ⟨b, o + k * 2, none⟩ = some (.int .i32 (rng l k).1) ∧ w.cell? ⟨b, o + k * 2 + 1, none⟩ = some (.int .i32 (rng l k).2) ∧ r32 (rng l k) := by
  obtain ⟨A', c', e, _, _, h3⟩ := h
  obtain ⟨b, o, v0, v1, e2, hs, hlt, c0, c1, rfl, rfl, h4⟩ := h3 k _ (rng_some hk)
  injection e with e1
  exact ⟨b, o, e1.trans e2, hs, hlt, c0, c1, h4⟩
/-- The k-th entry's cells. -/
theorem IsEnts.at {A : Option Addr} {n c : Nat} {es : List Ent} (h : IsEnts w S (.slice A n c) es) {k : Nat} (hk : k < es.length) :
    ∃ b o B d, A = some ⟨b, o, none⟩ ∧ S b ∧ b < w.heap.size ∧ w.cell? ⟨b, o + k * 2, none⟩ = some (.slice B (ent es k).1.length d) ∧ w.cell? ⟨b, o + k * 2 + 1, none⟩ = some (.int .i64 (ent es k).2) ∧ IsRngs w S (.slice B (ent es k).1.length d) (ent es k).1 ∧ -9223372036854775808 ≤ (ent es k).2 ∧ (ent es k).2 ≤ 9223372036854775807 := by
  obtain ⟨A', c', e, _, _, h3⟩ := h
  obtain ⟨b, o, v0, v1, e2, hs, hlt, c0, c1, hr, rfl, h4⟩ := h3 k _ (ent_some hk)
  obtain ⟨B, d, rfl⟩ := hr.form
  injection e with e1
  exact ⟨b, o, B, d, e1.trans e2, hs, hlt, c0, c1, hr, h4⟩
end
theorem ends_true {a b c : World} (h : Below a.heap.size a b) (k : Below b.heap.size b c) : Below a.heap.size a c := h.trans (k.mono h.size)
/-- May a range be? -/
def mayB (x : Rng) : Bool := decide (0 ≤ x.1) && decide (x.1 ≤ x.2) && decide (x.2 ≤ 1114111)
/-- Does the k-th range stand as it must? -/
def okAt (l : List Rng) (k : Nat) : Bool := mayB (rng l k) && (decide (k = 0) || decide ((rng l (k - 1)).2 + 1 < (rng l k).1))
def rightB (l : List Rng) : Bool := (List.range l.length).all (okAt l)
theorem rightB_yes {l : List Rng} (h : ∀ k, k < l.length → okAt l k = true) : rightB l = true := List.all_eq_true.2 fun k hk => h k (List.mem_range.1 hk)
theorem rightB_no {l : List Rng} {k : Nat} (hk : k < l.length) (h : okAt l k = false) : rightB l = false := by
  cases e : rightB l with
  | false => rfl
  | true =>
    have := List.all_eq_true.1 e k (List.mem_range.2 hk)
    rw [h] at this; cases this
theorem rightB_at {l : List Rng} (h : rightB l = true) {k : Nat} (hk : k < l.length) : okAt l k = true := List.all_eq_true.1 h k (List.mem_range.2 hk)
theorem mayB_iff {x : Rng} : mayB x = true ↔ 0 ≤ x.1 ∧ x.1 ≤ x.2 ∧ x.2 ≤ 1114111 := by simp [mayB, and_assoc]
theorem rightB_may {l : List Rng} (h : rightB l = true) {x : Rng} (hx : x ∈ l) : mayB x = true := by
  obtain ⟨k, hk⟩ := List.getElem?_of_mem hx
  have hlt := (List.getElem?_eq_some_iff.1 hk).1
  have := rightB_at h hlt
  have e : rng l k = x := by simp [rng, hk]
  unfold okAt at this
  rw [e] at this
  exact (Bool.and_eq_true_iff.1 this).1
set_option maxRecDepth 100000 in
theorem right39 (a b : Int) (w : World) : Calls Try.prog 39 #[.agg #[.int .i32 a, .int .i32 b]] w fun e w' => e = .returned (.bool (mayB (a, b))) ∧ Below w.heap.size w w' := by
  go_enter Try.func39, Try.ntmps39
  by_cases h1 : 0 ≤ a
  · by_cases h2 : a ≤ b
    · go_wp2_with fail
      go_ret
      refine ⟨ret_bool (by simp [mayB, h1, h2]), ?_⟩
      exact (Below.refl _ _).alloc (Nat.le_refl _) _
    · go_wp2_with fail
      go_ret
      refine ⟨ret_bool (by simp [mayB]; omega), ?_⟩
      exact (Below.refl _ _).alloc (Nat.le_refl _) _
  · go_wp2_with fail
    go_ret
    refine ⟨ret_bool (by simp [mayB]; omega), ?_⟩
    exact (Below.refl _ _).alloc (Nat.le_refl _) _
set_option maxRecDepth 100000 in
theorem may41 (a b : Int) (w : World) : Calls Try.prog 41 #[.agg #[.int .i32 a, .int .i32 b]] w fun e w' => e = .returned (.bool (mayB (a, b))) ∧ Below w.heap.size w w' := by
  go_enter Try.func41, Try.ntmps41
  by_cases h1 : 0 ≤ a
  · by_cases h2 : a ≤ b
    · go_wp2_with fail
      go_ret
      refine ⟨ret_bool (by simp [mayB, h1, h2]), ?_⟩
      exact (Below.refl _ _).alloc (Nat.le_refl _) _
    · go_wp2_with fail
      go_ret
      refine ⟨ret_bool (by simp [mayB]; omega), ?_⟩
      exact (Below.refl _ _).alloc (Nat.le_refl _) _
  · go_wp2_with fail
    go_ret
    refine ⟨ret_bool (by simp [mayB]; omega), ?_⟩
    exact (Below.refl _ _).alloc (Nat.le_refl _) _
end Go.Proofs.Ytehchnagjdmdgaa
