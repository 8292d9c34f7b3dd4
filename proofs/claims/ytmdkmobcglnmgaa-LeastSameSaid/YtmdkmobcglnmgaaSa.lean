/- The search for the first marks that tell two states apart: the walk. Conditions: right automatons, states of theirs. -/
import Derived.Test.YtmdkmobcglnmgaaBf
import Derived.Test.YtmdkmobcglnmgaaSr
namespace Go.Proofs.Ytmdkmobcglnmgaa
open Go.RowKit
set_option linter.unusedSimpArgs false

def ents (es : List En) : List Value := es.flatMap fun e => [.int .i64 e.p, .int .i64 e.q, .int .i64 e.by_, .int .i64 e.mark]
theorem ents_len (es : List En) : (ents es).length = es.length * 4 := by
  induction es with
  | nil => rfl
  | cons e es ih => simp [ents] at ih ⊢; omega
theorem ents_app (es : List En) (e : En) : ents (es ++ [e]) = ents es ++ [.int .i64 e.p, .int .i64 e.q, .int .i64 e.by_, .int .i64 e.mark] := by simp [ents]
theorem ents_at : ∀ (es : List En) (j : Nat), j < es.length → (ents es)[j * 4]? = some (.int .i64 (ent es j).p) ∧ (ents es)[j * 4 + 1]? = some (.int .i64 (ent es j).q) ∧ (ents es)[j * 4 + 2]? = some (.int .i64 (ent es j).by_) ∧ (ents es)[j * 4 + 3]? = some (.int .i64 (ent es j).mark)
  | [], j, h => by simp at h
  | e :: es, 0, _ => ⟨rfl, rfl, rfl, rfl⟩
  | e :: es, j + 1, h => by
    obtain ⟨a, b, c, d⟩ := ents_at es j (by simpa using h)
    have e1 : ent (e :: es) (j + 1) = ent es j := by simp [ent]
    have e2 : ents (e :: es) = [.int .i64 e.p, .int .i64 e.q, .int .i64 e.by_, .int .i64 e.mark] ++ ents es := by simp [ents]
    have key : ∀ k, (ents (e :: es))[(j + 1) * 4 + k]? = (ents es)[j * 4 + k]? := fun k => by
      rw [e2, List.getElem?_append_right (by simp; omega)]
      congr 1
      simp; omega
    refine ⟨?_, ?_, ?_, ?_⟩
    · have := key 0; simp only [Nat.add_zero] at this; rw [this, e1]; exact a
    · rw [key, e1]; exact b
    · rw [key, e1]; exact c
    · rw [key, e1]; exact d
abbrev OwnE (w : World) (B : Nat) (v : Value) (es : List En) : Prop := w.ownsRow B 108 4 v es.length (ents es)
theorem OwnE.at {w : World} {B : Nat} {v : Value} {es : List En} (h : OwnE w B v es) {j : Nat} (hj : j < es.length) : ∃ b o c, v = .slice (some ⟨b, o, none⟩) es.length c ∧
    w.cell? ⟨b, o + j * 4, none⟩ = some (.int .i64 (ent es j).p) ∧ w.cell? ⟨b, o + j * 4 + 1, none⟩ = some (.int .i64 (ent es j).q) ∧ w.cell? ⟨b, o + j * 4 + 2, none⟩ = some (.int .i64 (ent es j).by_) ∧ w.cell? ⟨b, o + j * 4 + 3, none⟩ = some (.int .i64 (ent es j).mark) := by
  obtain ⟨A, c, rfl, _, _, hA⟩ := own_arr h
  obtain ⟨a1, a2, a3, a4⟩ := ents_at es j hj
  obtain ⟨b, o, rfl, _, _, c1⟩ := hA.at a1
  obtain ⟨b2, o2, e2, _, _, c2⟩ := hA.at a2
  obtain ⟨b3, o3, e3, _, _, c3⟩ := hA.at a3
  obtain ⟨b4, o4, e4, _, _, c4⟩ := hA.at a4
  obtain ⟨rfl, rfl⟩ : b = b2 ∧ o = o2 := by simpa using e2
  obtain ⟨rfl, rfl⟩ : b = b3 ∧ o = o3 := by simpa using e3
  obtain ⟨rfl, rfl⟩ : b = b4 ∧ o = o4 := by simpa using e4
  exact ⟨b, o, c, rfl, c1, c2, c3, c4⟩
theorem OwnE.cellAt {w : World} {B b o n c : Nat} {es : List En} (h : OwnE w B (.slice (some ⟨b, o, none⟩) n c) es) {j : Nat} (hj : j < es.length) :
    w.cell? ⟨b, o + j * 4, none⟩ = some (.int .i64 (ent es j).p) ∧ w.cell? ⟨b, o + j * 4 + 1, none⟩ = some (.int .i64 (ent es j).q) ∧ w.cell? ⟨b, o + j * 4 + 2, none⟩ = some (.int .i64 (ent es j).by_) ∧ w.cell? ⟨b, o + j * 4 + 3, none⟩ = some (.int .i64 (ent es j).mark) := by
  obtain ⟨b', o', c', e, h1⟩ := h.at hj
  obtain ⟨⟨rfl, rfl⟩, _⟩ : (b = b' ∧ o = o') ∧ _ := by simpa using e
  exact h1
def ThIs (td : TD) (es : List En) : Prop := ∀ p, mget td p = some () ↔ p ∈ prs es
theorem ThIs.step {td : TD} {es : List En} (h : ThIs td es) (e : En) : ThIs (mset td ((e.p : Int), (e.q : Int)) ()) (es ++ [e]) := fun p => by
  rw [mget_mset]
  unfold prs
  rw [List.map_append, List.mem_append]
  by_cases hp : ((e.p : Int), (e.q : Int)) = p
  · rw [if_pos hp]
    exact ⟨fun _ => .inr (by simp [hp]), fun _ => rfl⟩
  · rw [if_neg hp, h p]
    refine ⟨fun h => .inl h, fun h => ?_⟩
    rcases h with h | h
    · exact h
    · simp only [List.map_cons, List.map_nil, List.mem_singleton] at h
      exact absurd h.symm hp
theorem info108 : (Try.prog.info? 108).map (fun i => (i.zero, i.size, i.bytes)) = some (some (.agg #[.int .i64 0, .int .i64 0, .int .i64 0, .int .i64 0]), 4, 32) := by kernel_rfl
theorem src_new4 (w : World) (cs : Array Value) (e : TypeId) (hm : cs.size = 4) : Src (w.alloc (.cells cs e)) 4 (some ⟨w.heap.size, 0, none⟩) 1 cs.toList :=
  ⟨by simp [hm], fun _ => ⟨_, rfl, fun j u hu => by
    rw [Addr.add_lit, Nat.zero_add]
    have hb : (w.alloc (.cells cs e)).heap[w.heap.size]? = some (.cells cs e (0, 0)) := heap_alloc_new w _
    rw [cell_of_row _ _ j cs e (0, 0) hb, ← Array.getElem?_toList]
    exact hu⟩⟩
/-- The search's memory: what was met, in a row of its own, and in a map. -/
structure SrM (w0 : World) (B T : Nat) (w : World) (lv : Value) (es : List En) (td : TD) : Prop where
  bel : Below B w0 w
  own : OwnE w B lv es
  map : TMap w T td
  th : ThIs td es
  lt : B ≤ T ∧ B ≤ w0.heap.size
section
variable {w0 w w' : World} {B T : Nat} {lv : Value} {es : List En} {td : TD}
theorem SrM.size (h : SrM w0 B T w lv es td) : B ≤ w.heap.size := Nat.le_trans h.lt.2 h.bel.size
theorem SrM.grown (h : SrM w0 B T w lv es td) (hb : Below w.heap.size w w') : SrM w0 B T w' lv es td :=
  ⟨h.bel.trans (hb.mono h.size), h.own.kept (grown_of_below hb none) (Classical.em _), h.map.keep (hb.block _ h.map.lt), h.th, h.lt⟩
/-- A pair is noted in the map. -/
theorem SrM.note (h : SrM w0 B T w lv es td) {td' : TD} (hm : TMap w' T td') (hg : w.grownBy w' (some T)) : Below B w0 w' ∧ OwnE w' B lv es ∧ TMap w' T td' :=
  ⟨h.bel.grown hg h.size (fun k hk => by cases hk; exact h.lt.1), h.own.kept hg (.inr (own_map_ne h.own h.map)), hm⟩
/-- Another row is written. -/
theorem SrM.other (h : SrM w0 B T w lv es td) {v : Value} {n e : Nat} {xs : List Value} (ho : w.ownsRow B e 1 v n xs) (hg : w.grownBy w' v.ownBlock) (he : 108 ≠ e) : SrM w0 B T w' lv es td :=
  ⟨below_own h.bel ho hg h.size, h.own.kept hg (own_own h.own ho he), h.map.keep (hg.block _ h.map.lt (Ne.symm (own_map_ne ho h.map))), h.th, h.lt⟩
end
/-- A row, reversed in place. -/
theorem own_holds {w : World} {B g n cap : Nat} {zs : List Int} (h : OwnI w B (.slice (some ⟨g, 0, none⟩) n cap) zs) : Go.Sort.Holds (Value.int .i64) w g 0 zs.toArray := fun j hj => by
  have hjl : j < zs.length := by simpa using hj
  obtain ⟨b, o, c, e, _, _, hc⟩ := (own_nums h).at hjl
  obtain ⟨⟨rfl, rfl⟩, _⟩ : (g = b ∧ 0 = o) ∧ _ := by simpa using e
  obtain ⟨_, ⟨e1, _⟩ | ⟨g', cap', cur, e1, _, hh, _⟩⟩ := h
  · cases e1
  · have hg : g = g' := by have := congrArg Value.ownBlock e1; simpa [Value.ownBlock] using this
    subst hg
    refine ⟨?_, frozen_of_row _ _ _ _ _ hh⟩
    rw [hc]
    simp [nth, hjl]
open Go.Sort in
theorem reverse_any (g n cap : Nat) (zs : List Int) (w : World) (hn : zs.length = n) (hH : Holds (Value.int .i64) w g 0 zs.toArray) (hsz : n ≤ 1000000) :
    Calls Try.prog 70 #[.slice (some ⟨g, 0, none⟩) n cap] w fun e w' => e = .returned (.tuple #[]) ∧ ∃ k, w' = putRow (Value.int .i64) (Sort.ahead w k) g 0 zs.reverse.toArray := by
  subst hn
  exact Try.slices_Reverse_int g 0 cap zs w hH (by omega)
theorem holds_nums {w : World} {B g cap : Nat} {zs : List Int} (h : Go.Sort.Holds (Value.int .i64) w g 0 zs.toArray) (hc : zs.length ≤ cap) (hm : cap ≤ maxLen) (hB : B ≤ g) : IsNums .i64 w (fun b => B ≤ b) (.slice (some ⟨g, 0, none⟩) zs.length cap) zs :=
  ⟨_, cap, rfl, hc, hm, fun _ => ⟨g, 0, rfl, hB, fun k v hv => by
    have hlt : k < zs.length := by have := (List.getElem?_eq_some_iff.1 hv).1; simpa using this
    have := (h k (by simpa using hlt)).1
    rw [this, ← hv]
    simp [hlt]⟩⟩
theorem below_putRow {α : Type} [Inhabited α] {B g off k : Nat} {a w : World} {enc : α → Value} {d : Array α} (h : Below B a w) (hg : B ≤ g) : Below B a (Go.Sort.putRow enc (Go.Sort.ahead w k) g off d) :=
  ⟨h.os, h.tape, h.output, by simpa [Go.Sort.putRow, Go.Sort.mapBlock, Go.Sort.ahead] using h.size, fun i hi => by
    have hne : ¬ g = i := by omega
    simp only [Go.Sort.putRow, Go.Sort.mapBlock, Go.Sort.ahead, Array.getElem?_modify, hne, if_false]
    exact h.block i hi⟩
end Go.Proofs.Ytmdkmobcglnmgaa
