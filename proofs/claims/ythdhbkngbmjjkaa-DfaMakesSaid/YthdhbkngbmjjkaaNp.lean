/- The automaton while it is built, as plain lists; its knots in memory. No conditions. -/
import Derived.Test.YthdhbkngbmjjkaaBaseC
import Derived.Test.YthdhbkngbmjjkaaBx
import Derived.Test.YthdhbkngbmjjkaaTo
namespace Go.Proofs.Ythdhbkngbmjjkaa
open Go.RowKit
/-- A knot: to which knots one may go without a mark, to which leaves with one; of which expression it is the end. -/
structure Kn where
  free : List Int
  lv : List Int
  fin : Int
structure Bs where
  lfs : List (Int × Int × Int)
  kns : List Kn
def kn (ks : List Kn) (i : Nat) : Kn := ks[i]?.getD ⟨[], [], 0⟩
def Bs.knot (s : Bs) : Bs := ⟨s.lfs, s.kns ++ [⟨[], [], 0⟩]⟩
def Bs.arrow (s : Bs) (frm to : Nat) : Bs := ⟨s.lfs, s.kns.set frm ⟨(kn s.kns frm).free ++ [(to : Int)], (kn s.kns frm).lv, (kn s.kns frm).fin⟩⟩
def Bs.leaf (s : Bs) (kd cl : Int) (frm to : Nat) : Bs := ⟨s.lfs ++ [(kd, cl, (to : Int))], s.kns.set frm ⟨(kn s.kns frm).free, (kn s.kns frm).lv ++ [((s.lfs.length + 1 : Nat) : Int)], (kn s.kns frm).fin⟩⟩
def Bs.fin (s : Bs) (k : Nat) (e : Int) : Bs := ⟨s.lfs, s.kns.set k ⟨(kn s.kns k).free, (kn s.kns k).lv, e⟩⟩
theorem kn_set {ks : List Kn} {i j : Nat} {k : Kn} (h : i < ks.length) : kn (ks.set i k) j = if i = j then k else kn ks j := by
  simp only [kn, List.getElem?_set]
  by_cases e : i = j
  · subst e; simp [h]
  · simp [e]
theorem kn_snoc {ks : List Kn} {k : Kn} {j : Nat} : kn (ks ++ [k]) j = if j < ks.length then kn ks j else if j = ks.length then k else ⟨[], [], 0⟩ := by
  unfold kn
  by_cases h : j < ks.length
  · rw [if_pos h, List.getElem?_append_left h]
  · rw [if_neg h, List.getElem?_append_right (by omega)]
    by_cases e : j = ks.length
    · subst e; simp
    · rw [if_neg e, List.getElem?_eq_none (by simp; omega)]; rfl
/-- Cells of elements of three cells each. -/
def flat3 (n : Nat) (f : Nat → Value × Value × Value) : List Value := (List.range n).flatMap fun i => [(f i).1, (f i).2.1, (f i).2.2]
theorem flat3_succ (n : Nat) (f : Nat → Value × Value × Value) : flat3 (n + 1) f = flat3 n f ++ [(f n).1, (f n).2.1, (f n).2.2] := by
  simp [flat3, List.range_succ]
theorem flat3_len (n : Nat) (f : Nat → Value × Value × Value) : (flat3 n f).length = n * 3 := by
  induction n with
  | zero => rfl
  | succ n ih => rw [flat3_succ, List.length_append, ih]; simp; omega
theorem flat3_at {n : Nat} {f : Nat → Value × Value × Value} {i j : Nat} (hi : i < n) (hj : j < 3) : (flat3 n f)[i * 3 + j]? = [(f i).1, (f i).2.1, (f i).2.2][j]? := by
  induction n with
  | zero => omega
  | succ n ih =>
    rw [flat3_succ]
    by_cases h : i < n
    · rw [List.getElem?_append_left (by rw [flat3_len]; omega), ih h]
    · have e : i = n := by omega
      subst e
      rw [List.getElem?_append_right (by rw [flat3_len]; omega), flat3_len, show i * 3 + j - i * 3 = j by omega]
theorem flat3_congr {n : Nat} {f g : Nat → Value × Value × Value} (h : ∀ i, i < n → f i = g i) : flat3 n f = flat3 n g := by
  induction n with
  | zero => rfl
  | succ n ih => rw [flat3_succ, flat3_succ, ih fun i hi => h i (by omega), h n (by omega)]
theorem flat3_set {n : Nat} {f : Nat → Value × Value × Value} {i j : Nat} {u : Value} (_hi : i < n) (hj : j < 3) :
    (flat3 n f).set (i * 3 + j) u = flat3 n (fun k => if k = i then (if j = 0 then u else (f i).1, if j = 1 then u else (f i).2.1, if j = 2 then u else (f i).2.2) else f k) := by
  apply List.ext_getElem?
  intro a
  by_cases ha : a < n * 3
  · rw [List.getElem?_set]
    have ea : a = a / 3 * 3 + a % 3 := by omega
    have hm : a % 3 = 0 ∨ a % 3 = 1 ∨ a % 3 = 2 := by omega
    have hl := flat3_at (f := f) (n := n) (i := a / 3) (j := a % 3) (by omega) (by omega)
    have hr := flat3_at (f := fun k => if k = i then (if j = 0 then u else (f i).1, if j = 1 then u else (f i).2.1, if j = 2 then u else (f i).2.2) else f k) (n := n) (i := a / 3) (j := a % 3) (by omega) (by omega)
    rw [← ea] at hl hr
    rw [hr]
    by_cases e : i * 3 + j = a
    · have e1 : a / 3 = i := by omega
      have e2 : a % 3 = j := by omega
      rw [if_pos e, flat3_len, if_pos (by omega), e1, e2]
      simp only [if_true]
      have hj3 : j = 0 ∨ j = 1 ∨ j = 2 := by omega
      rcases hj3 with rfl | rfl | rfl <;> rfl
    · rw [if_neg e, hl]
      by_cases e1 : a / 3 = i
      · have e2 : a % 3 ≠ j := by omega
        simp only [e1, if_true]
        rcases hm with h | h | h <;> rw [h] at e2 ⊢ <;> simp [Ne.symm e2]
      · simp only [if_neg e1]
  · rw [List.getElem?_eq_none (by rw [List.length_set, flat3_len]; omega), List.getElem?_eq_none (by rw [flat3_len]; omega)]
/-- Rows of numbers of one's own that may grow, each a block of its own. -/
def Rows3 (w : World) (B m : Nat) (V : Nat → Value) (Z : Nat → List Int) : Prop :=
  (∀ a, a < m → w.ownsRow B 3 1 (V a) (Z a).length ((Z a).map (.int .i64))) ∧ ∀ a b, a < m → b < m → a ≠ b → (V a).ownBlock = none ∨ (V a).ownBlock ≠ (V b).ownBlock
theorem Rows3.keep {w w' : World} {B m : Nat} {V : Nat → Value} {Z : Nat → List Int} (h : Rows3 w B m V Z) (hk : ∀ (g : Nat) (cs : Array Value), w.heap[g]? = some (.cells cs 3 (0, 0)) → w'.heap[g]? = w.heap[g]?) : Rows3 w' B m V Z := by
  refine ⟨fun a ha => ?_, h.2⟩
  obtain ⟨h1, h2 | ⟨g, cap, cur, e, hg, hh, r⟩⟩ := h.1 a ha
  · exact ⟨h1, .inl h2⟩
  · exact ⟨h1, .inr ⟨g, cap, cur, e, hg, (hk g cur hh).trans hh, r⟩⟩
theorem Rows3.below {w w' : World} {B m : Nat} {V : Nat → Value} {Z : Nat → List Int} (h : Rows3 w B m V Z) (hb : Below w.heap.size w w') : Rows3 w' B m V Z :=
  h.keep fun g _ hg => hb.block g (Array.getElem?_eq_some_iff.1 hg).1
/-- .. one of them appended to. -/
theorem Rows3.put {w w' : World} {B m a : Nat} {V : Nat → Value} {Z : Nat → List Int} {v' : Value} {zs : List Int} (h : Rows3 w B m V Z) (ha : a < m) (hg : w.grownBy w' (V a).ownBlock)
    (ho : w'.ownsRow B 3 1 v' zs.length (zs.map (.int .i64))) (hat : v'.ownBlock = (V a).ownBlock ∨ ∃ g, w.heap.size ≤ g ∧ v'.ownBlock = some g) :
    Rows3 w' B m (fun k => if k = a then v' else V k) (fun k => if k = a then zs else Z k) := by
  refine ⟨fun b hb => ?_, fun b c hb hc hbc => ?_⟩
  · by_cases e : b = a
    · subst e; simpa using ho
    · simp only [if_neg e]
      exact (h.1 b hb).kept hg (h.2 b a hb ha e)
  · have hfar : ∀ k, k < m → k ≠ a → (V k).ownBlock = none ∨ (V k).ownBlock ≠ v'.ownBlock := fun k hk hka => by
      rcases hat with e | ⟨g, hgs, e⟩
      · rw [e]; exact h.2 k a hk ha hka
      · cases hv : (V k).ownBlock with
        | none => exact .inl rfl
        | some g' =>
          right
          rw [e]
          intro h2
          injection h2 with h2
          have := ((h.1 k hk).lt g' hv).2
          omega
    by_cases eb : b = a
    · subst eb
      simp only [if_true, if_neg (Ne.symm hbc)]
      cases hv : v'.ownBlock with
      | none => exact .inl rfl
      | some g =>
        right
        rcases hfar c hc (Ne.symm hbc) with h0 | h0
        · rw [h0]; simp
        · rw [hv] at h0; exact Ne.symm h0
    · by_cases ec : c = a
      · subst ec
        simp only [if_true, if_neg eb]
        exact hfar b hb eb
      · simp only [if_neg eb, if_neg ec]
        exact h.2 b c hb hc hbc
theorem Rows3.congr {w : World} {B m : Nat} {V V' : Nat → Value} {Z Z' : Nat → List Int} (h : Rows3 w B m V Z) (hV : ∀ a, a < m → V a = V' a) (hZ : ∀ a, a < m → Z a = Z' a) : Rows3 w B m V' Z' :=
  ⟨fun a ha => by rw [← hV a ha, ← hZ a ha]; exact h.1 a ha, fun a b ha hb hab => by rw [← hV a ha, ← hV b hb]; exact h.2 a b ha hb hab⟩
/-- .. two more, empty ones. -/
theorem Rows3.more {w : World} {B m : Nat} {V : Nat → Value} {Z : Nat → List Int} (h : Rows3 w B m V Z) (k : Nat) : Rows3 w B (m + k) (fun a => if a < m then V a else .slice none 0 0) (fun a => if a < m then Z a else []) := by
  refine ⟨fun a _ => ?_, fun a b _ _ hab => ?_⟩
  · by_cases e : a < m
    · simp only [if_pos e]; exact h.1 a e
    · simp only [if_neg e]; exact World.ownsRow_nil _ _ _ _
  · by_cases ea : a < m
    · by_cases eb : b < m
      · simp only [if_pos ea, if_pos eb]; exact h.2 a b ea eb hab
      · simp only [if_pos ea, if_neg eb]
        cases hv : (V a).ownBlock with
        | none => exact .inl rfl
        | some g => exact .inr (by simp [Value.ownBlock])
    · simp only [if_neg ea]; exact .inl rfl
def knZ (ks : List Kn) (a : Nat) : List Int := if a % 2 = 0 then (kn ks (a / 2)).free else (kn ks (a / 2)).lv
def knC (V : Nat → Value) (ks : List Kn) (i : Nat) : Value × Value × Value := (V (2 * i), V (2 * i + 1), .int .i64 (kn ks i).fin)
/-- Knots in memory. -/
def KnAt (w : World) (B : Nat) (kv : Value) (ks : List Kn) : Prop :=
  ∃ V, w.ownsRow B 87 3 kv ks.length (flat3 ks.length (knC V ks)) ∧ Rows3 w B (2 * ks.length) V (knZ ks)
def lfC (ls : List (Int × Int × Int)) (i : Nat) : Value × Value × Value := (.int .i64 (ls[i]?.getD (0, 0, 0)).1, .int .i64 (ls[i]?.getD (0, 0, 0)).2.1, .int .i64 (ls[i]?.getD (0, 0, 0)).2.2)
/-- Leaves in memory. -/
def LfAt (w : World) (B : Nat) (lv : Value) (ls : List (Int × Int × Int)) : Prop := w.ownsRow B 91 3 lv ls.length (flat3 ls.length (lfC ls))
/-- The automaton in memory while it is built. -/
def NB (w : World) (g B : Nat) (search : Bool) (m1 m2 : Value) (s : Bs) : Prop :=
  B ≤ g ∧ ∃ lv kv, w.heap[g]? = some (.cells #[.bool search, lv, kv, m1, m2] 85 (0, 0)) ∧ LfAt w B lv s.lfs ∧ KnAt w B kv s.kns
section
variable {w w' : World} {g B : Nat} {search : Bool} {m1 m2 : Value} {s : Bs}
theorem KnAt.keep {kv : Value} {ks : List Kn} (h : KnAt w B kv ks) (hk : ∀ (b : Nat) (cs : Array Value), w.heap[b]? = some (.cells cs 3 (0, 0)) ∨ w.heap[b]? = some (.cells cs 87 (0, 0)) → w'.heap[b]? = w.heap[b]?) : KnAt w' B kv ks := by
  obtain ⟨V, ho, hr⟩ := h
  refine ⟨V, ?_, hr.keep fun b cs hb => hk b cs (.inl hb)⟩
  obtain ⟨h1, h2 | ⟨q, cap, cur, e, hg, hh, r⟩⟩ := ho
  · exact ⟨h1, .inl h2⟩
  · exact ⟨h1, .inr ⟨q, cap, cur, e, hg, (hk q cur (.inr hh)).trans hh, r⟩⟩
theorem LfAt.keep {lv : Value} {ls : List (Int × Int × Int)} (h : LfAt w B lv ls) (hk : ∀ (b : Nat) (cs : Array Value), w.heap[b]? = some (.cells cs 91 (0, 0)) → w'.heap[b]? = w.heap[b]?) : LfAt w' B lv ls := by
  obtain ⟨h1, h2 | ⟨q, cap, cur, e, hg, hh, r⟩⟩ := h
  · exact ⟨h1, .inl h2⟩
  · exact ⟨h1, .inr ⟨q, cap, cur, e, hg, (hk q cur hh).trans hh, r⟩⟩
theorem NB.below (h : NB w g B search m1 m2 s) (hb : Below w.heap.size w w') : NB w' g B search m1 m2 s := by
  obtain ⟨hB, lv, kv, hg, hl, hk⟩ := h
  exact ⟨hB, lv, kv, (hb.block g (Array.getElem?_eq_some_iff.1 hg).1).trans hg, hl.keep fun b cs hh => hb.block b (Array.getElem?_eq_some_iff.1 hh).1, hk.keep fun b cs hh => hb.block b (by rcases hh with hh | hh <;> exact (Array.getElem?_eq_some_iff.1 hh).1)⟩
theorem slot5 {Y : World} {p : Nat} {a b c d e : Value} {t : TypeId} (h : Y.heap[p]? = some (.cells #[a, b, c, d, e] t (0, 0))) :
    Y.cell? ⟨p, 0, none⟩ = some a ∧ Y.cell? ⟨p, 1, none⟩ = some b ∧ Y.cell? ⟨p, 2, none⟩ = some c ∧ Y.cell? ⟨p, 3, none⟩ = some d ∧ Y.cell? ⟨p, 4, none⟩ = some e ∧ ∀ j, Y.frozen? ⟨p, j, none⟩ = false :=
  ⟨by rw [cell_of_row _ _ _ _ _ _ h]; rfl, by rw [cell_of_row _ _ _ _ _ _ h]; rfl, by rw [cell_of_row _ _ _ _ _ _ h]; rfl, by rw [cell_of_row _ _ _ _ _ _ h]; rfl, by rw [cell_of_row _ _ _ _ _ _ h]; rfl, fun _ => frozen_of_row _ _ _ _ _ h⟩
end
/-- What the building never writes. -/
def Far (o : Obj) : Prop := ∀ cs T z, o = .cells cs T z → T ≠ 3 ∧ T ≠ 85 ∧ T ≠ 87 ∧ T ≠ 91
def Kp (w w' : World) : Prop := ∀ (b : Nat) (o : Obj), w.heap[b]? = some o → Far o → w'.heap[b]? = some o
theorem Kp.refl (w : World) : Kp w w := fun _ _ h _ => h
theorem Kp.trans {a b c : World} (h : Kp a b) (k : Kp b c) : Kp a c := fun i o hi ho => k i o (h i o hi ho) ho
theorem Kp.below {w w' : World} (h : Below w.heap.size w w') : Kp w w' := fun b _ hb _ => (h.block b (Array.getElem?_eq_some_iff.1 hb).1).trans hb
theorem Kp.grown {w w' : World} {B e sz n : Nat} {v : Value} {xs : List Value} (ho : w.ownsRow B e sz v n xs) (he : e = 3 ∨ e = 85 ∨ e = 87 ∨ e = 91) (hg : w.grownBy w' v.ownBlock) : Kp w w' := fun b o hb hf => by
  refine (hg.block b (Array.getElem?_eq_some_iff.1 hb).1 (fun e1 => ?_)).trans hb
  rcases ho.2 with ⟨e2, -⟩ | ⟨q, cap, cur, e2, -, hh, -⟩
  · rw [e2] at e1; simp [Value.ownBlock] at e1
  · rw [e2] at e1
    have e3 : b = q := by simpa [Value.ownBlock] using e1
    subst e3
    rw [hh] at hb
    injection hb with hb
    obtain ⟨q1, q2, q3, q4⟩ := hf _ _ _ hb.symm
    rcases he with h | h | h | h
    · exact q1 h
    · exact q2 h
    · exact q3 h
    · exact q4 h
theorem Kp.set {w : World} {b i T : Nat} {cs : Array Value} {u : Value} (hb : w.heap[b]? = some (.cells cs T (0, 0))) (he : T = 3 ∨ T = 85 ∨ T = 87 ∨ T = 91) : Kp w (w.setCell ⟨b, i, none⟩ u) := fun c o hc hf => by
  refine (heap_setCell_other _ _ _ _ (fun e => ?_)).trans hc
  have e' : c = b := e
  subst e'
  rw [hb] at hc
  injection hc with hc
  obtain ⟨q1, q2, q3, q4⟩ := hf _ _ _ hc.symm
  rcases he with h | h | h | h
  · exact q1 h
  · exact q2 h
  · exact q3 h
  · exact q4 h
theorem info87 : (Try.prog.info? 87).map (fun i => (i.zero, i.size, i.bytes)) = some (some (.agg #[.slice none 0 0, .slice none 0 0, .int .i64 0]), 3, 56) := by kernel_rfl
theorem info91 : (Try.prog.info? 91).map (fun i => (i.zero, i.size, i.bytes)) = some (some (.agg #[.int .i64 0, .int .i64 0, .int .i64 0]), 3, 24) := by kernel_rfl
theorem info3 : (Try.prog.info? 3).map (fun i => (i.zero, i.size, i.bytes)) = some (some (.int .i64 0), 1, 8) := by kernel_rfl
end Go.Proofs.Ythdhbkngbmjjkaa
