/- Which states lead into a block by a mark, by their own blocks: the words. No conditions. -/
import Derived.Test.YtmdkmobcglnmgaaNx
namespace Go.Proofs.Ytmdkmobcglnmgaa
open Go.RowKit

theorem own_keep {w w' : World} {B e size n : Nat} {v : Value} {xs : List Value} (h : w.ownsRow B e size v n xs) (hk : ∀ g, v.ownBlock = some g → w'.heap[g]? = w.heap[g]?) : w'.ownsRow B e size v n xs := by
  obtain ⟨h1, h2⟩ := h
  refine ⟨h1, ?_⟩
  rcases h2 with h2 | ⟨g, cap, cur, rfl, b, c, d⟩
  · exact .inl h2
  · exact .inr ⟨g, cap, cur, rfl, b, (hk g rfl).trans c, d⟩
/-- Which states lead to which, as it is read: it lies between two blocks. -/
def FromAt (w : World) (F0 F1 : Nat) (fv : Value) (n : Nat) (rs : List (List Int)) : Prop := ∃ us, w.ownsRow F0 25 1 fv 37 us ∧ (∀ g, fv.ownBlock = some g → g < F1) ∧
  ∀ (j : Nat) (u : Value), us[j]? = some u → ∃ g vs, u = .slice (some ⟨g, 0, none⟩) n n ∧ F0 ≤ g ∧ g < F1 ∧ vs.length = n ∧ RowBlk w F0 g vs (col rs j) ∧ ∀ v ∈ vs, ∀ b, v.ownBlock = some b → b < F1
def KeepIn (F0 F1 : Nat) (w w' : World) : Prop := ∀ b, F0 ≤ b → b < F1 → w'.heap[b]? = w.heap[b]?
theorem FromAt.keep {w w' : World} {F0 F1 n : Nat} {fv : Value} {rs : List (List Int)} (h : FromAt w F0 F1 fv n rs) (hk : KeepIn F0 F1 w w') : FromAt w' F0 F1 fv n rs := by
  obtain ⟨us, h1, h2, h3⟩ := h
  refine ⟨us, own_keep h1 fun g hg => hk g (h1.lt g hg).1 (h2 g hg), h2, fun j u hj => ?_⟩
  obtain ⟨g, vs, a1, a2, a3, a4, a5, a6⟩ := h3 j u hj
  exact ⟨g, vs, a1, a2, a3, a4, ⟨(hk g a2 a3).trans a5.1, fun i v hi => own_keep (a5.2.1 i v hi) fun b hb => hk b ((a5.2.1 i v hi).lt b hb).1 (a6 v (List.mem_of_getElem? hi) b hb), a5.2.2⟩, a6⟩
theorem KeepIn.below {w w' : World} {F0 F1 : Nat} (hb : Below w.heap.size w w') (h : F1 ≤ w.heap.size) : KeepIn F0 F1 w w' := fun b _ h2 => hb.block b (by omega)
theorem FromAt.start {w : World} {F0 n : Nat} {fv : Value} {us : List Value} {rs : List (List Int)} (h1 : w.ownsRow F0 25 1 fv 37 us) (h2 : DoneTo w F0 n us rs) : FromAt w F0 w.heap.size fv n rs :=
  ⟨us, h1, fun g hg => (h1.lt g hg).2, fun j u hj => by
    obtain ⟨g, vs, a1, a2, a3, a4⟩ := h2 j u hj
    exact ⟨g, vs, a1, a2, a4.lt, a3, a4, fun v hv b hb => by
      obtain ⟨i, hi⟩ := List.getElem?_of_mem hv
      exact ((a4.2.1 i v hi).lt b hb).2⟩⟩
/-- The cells on the way to a row. -/
theorem FromAt.row {w : World} {F0 F1 n : Nat} {fv : Value} {rs : List (List Int)} (h : FromAt w F0 F1 fv n rs) {m t : Nat} (hm : m < 37) (ht : t < n) :
    ∃ fb fc g v, fv = .slice (some ⟨fb, 0, none⟩) 37 fc ∧ w.cell? ⟨fb, m, none⟩ = some (.slice (some ⟨g, 0, none⟩) n n) ∧ w.cell? ⟨g, t, none⟩ = some v ∧ OwnI w F0 v (pos (col rs m) (t : Int)) ∧ ∀ q, v.ownBlock = some q → q < F1 := by
  obtain ⟨us, h1, h2, h3⟩ := h
  have hl : us.length = 37 := by have := h1.1; omega
  obtain ⟨g, vs, a1, a2, a3, a4, a5, a6⟩ := h3 m us[m] (List.getElem?_eq_getElem (by omega))
  rcases h1.2 with ⟨_, h0⟩ | ⟨fb, fc, cur, rfl, _, hb, _, _, _, htk⟩
  · omega
  · refine ⟨fb, fc, g, vs[t], rfl, ?_, ?_, a5.2.1 t vs[t] (List.getElem?_eq_getElem (by omega)), a6 _ (List.getElem_mem _)⟩
    · rw [cell_of_row _ _ _ _ _ _ hb, ← a1]
      have h5 : (cur.toList.take (37 * 1))[m]? = us[m]? := by rw [htk]
      rw [List.getElem?_take_of_lt (by omega), Array.getElem?_toList] at h5
      rw [h5]
      exact List.getElem?_eq_getElem (by omega)
    · rw [cell_of_row _ _ _ _ _ _ a5.1]
      simp [List.getElem?_eq_getElem (show t < vs.length by omega)]

/-- The states that lead there, as they are met. -/
def comers (rs : List (List Int)) (m : Nat) (L : List Int) : List Int := L.flatMap fun t => pos (col rs m) t
theorem comers_snoc (rs : List (List Int)) (m : Nat) (L : List Int) (t : Int) : comers rs m (L ++ [t]) = comers rs m L ++ pos (col rs m) t := by simp [comers]
theorem comers_len (rs : List (List Int)) (m n : Nat) (hn : rs.length ≤ n) : ∀ L : List Int, (comers rs m L).length ≤ L.length * n := by
  intro L
  induction L with
  | nil => simp [comers]
  | cons t L ih =>
    have h1 : comers rs m (t :: L) = pos (col rs m) t ++ comers rs m L := by simp [comers]
    rw [h1, List.length_append, List.length_cons, Nat.succ_mul]
    have := pos_len (col rs m) t
    rw [col_len] at this
    omega
/-- The map of comers by their blocks. -/
def LdIs (ml : List (Int × GV)) (blk : List Int) (q : List Int) : Prop := (∀ c, lst ml c = q.filter fun i => nth blk i.toNat == c) ∧ ∀ p ∈ ml, p.2.2 ≠ []
theorem LdIs.nil (blk : List Int) : LdIs [] blk [] := ⟨fun _ => rfl, fun _ h => by cases h⟩
theorem LdIs.snoc {ml : List (Int × GV)} {blk q : List Int} (h : LdIs ml blk q) (i : Int) (v : Value) : LdIs (mset ml (nth blk i.toNat) (v, lst ml (nth blk i.toNat) ++ [i])) blk (q ++ [i]) := by
  refine ⟨fun c => ?_, fun p hp => ?_⟩
  · rw [lst_mset, List.filter_append, List.filter_cons]
    split
    · rename_i e
      subst e
      rw [h.1, if_pos (by simp)]
      rfl
    · rename_i e
      rw [h.1 c, if_neg (by simpa using e)]
      simp
  · rcases mem_mset hp with rfl | hp
    · simp
    · exact h.2 p hp
theorem LdIs.len {ml : List (Int × GV)} {blk q : List Int} (h : LdIs ml blk q) (c : Int) : (lst ml c).length ≤ q.length := by
  rw [h.1 c]
  exact List.length_filter_le _ _
end Go.Proofs.Ytmdkmobcglnmgaa
