/- The document's places: a leaf more; what a part is in memory. No conditions. -/
import Derived.Test.YthdhbkngbmjjkaaRp
namespace Go.Proofs.Ythdhbkngbmjjkaa
open Go.RowKit
set_option linter.unusedSimpArgs false
theorem own_keep {w w' : World} {B e size n : Nat} {v : Value} {xs : List Value} (h : w.ownsRow B e size v n xs) (hk : ∀ b, v.ownBlock = some b → w'.heap[b]? = w.heap[b]?) : w'.ownsRow B e size v n xs := by
  obtain ⟨r0, r1 | ⟨q, cap, cur, e1, hq, hh, r2⟩⟩ := h
  · exact ⟨r0, .inl r1⟩
  · subst e1
    exact ⟨r0, .inr ⟨q, cap, cur, rfl, hq, (hk q rfl).trans hh, r2⟩⟩
theorem own_cross {w : World} {b b' e e' size size' n n' g : Nat} {v v' : Value} {xs ys : List Value} (h : w.ownsRow b e size v n xs) (h' : w.ownsRow b' e' size' v' n' ys) (hne : e ≠ e') (hg : v.ownBlock = some g) : v'.ownBlock ≠ some g := fun e => by
  rcases own_own h h' hne with h1 | h1
  · rw [h1] at hg; cases hg
  · exact h1 (hg.trans e.symm)
section
variable {w : World} {B a : Nat} {v1 v2 v5 : Value} {H : Value × Value × Value × Value} {s : Rs}
/-- A row is written, and its place in the struct. -/
theorem RA.addOf {w1 w2 : World} {v2' : Value} {N : Nat} {z : Int} (h : RA w B a v1 v2 v5 H s) (hN : N = s.of.length) (hb0 : Below 0 w w1) (hk : ∀ b, b < w.heap.size → v2.ownBlock ≠ some b → w1.heap[b]? = w.heap[b]?) (ho : w1.ownsRow B 3 1 v2' (N + 1) (s.of.map (.int .i64) ++ [.int .i64 z]))
    (hv : ∀ b, v2'.ownBlock = some b → v2.ownBlock = some b ∨ w.heap.size ≤ b) (h2 : w2 = w1.setCell ⟨a, 2, none⟩ v2') :
    w1.heap[a]? = some (.cells #[H.1, v1, v2, H.2.1, H.2.2.1, v5, H.2.2.2] 39 (0, 0)) ∧ RA w2 B a v1 v2' v5 H ⟨s.lv, s.of ++ [z], s.prs⟩ ∧ Keeps (Tch a v1 v2 v5) w w2 ∧ ∀ b, Tch a v1 v2' v5 b → Tch a v1 v2 v5 b ∨ w.heap.size ≤ b := by
  subst hN
  obtain ⟨r1, r2, ⟨f, r3⟩, r4, r5⟩ := h
  have hal := (Array.getElem?_eq_some_iff.1 r2).1
  have n2a : v2.ownBlock ≠ some a := own_blk_ne r4 r2 (by decide)
  have ha1 := (hk a hal n2a).trans r2
  have hset := heap_setCell_same w1 a 2 _ 39 v2' ha1
  have hoth : ∀ b, b ≠ a → w2.heap[b]? = w1.heap[b]? := fun b hb => by rw [h2]; exact heap_setCell_other _ _ _ _ hb
  have e3 : w2.ownsRow B 48 3 v1 s.lv.length (flat3 s.lv.length (lfR s.lv f)) := by
    rw [h2]
    have k := own_keep r3 (w' := w1) fun b hb => hk b (r3.lt b hb).2 (own_cross r3 r4 (by decide) hb)
    exact ownsRow_setCell_other k (own_blk_ne k ha1 (by decide)) _
  have e5 : w2.ownsRow B 101 2 v5 s.prs.length (s.prs.flatMap twoV) := by
    rw [h2]
    have k := own_keep r5 (w' := w1) fun b hb => hk b (r5.lt b hb).2 (own_cross r5 r4 (by decide) hb)
    exact ownsRow_setCell_other k (own_blk_ne k ha1 (by decide)) _
  have e4 : w2.ownsRow B 3 1 v2' (s.of ++ [z]).length ((s.of ++ [z]).map (.int .i64)) := by
    rw [List.length_append, List.length_singleton, List.map_append, h2]
    exact ownsRow_setCell_other ho (own_blk_ne ho ha1 (by decide)) _
  refine ⟨ha1, ⟨r1, by rw [h2]; exact hset, ⟨f, e3⟩, e4, e5⟩, ⟨?_, fun b hb hn => (hoth b fun e => hn (.inl e)).trans (hk b hb fun e => hn (.inr (.inr (.inl e))))⟩, fun b hb => ?_⟩
  · rw [h2]; exact hb0.setCell (p := ⟨a, 2, none⟩) (Nat.zero_le _) _
  · rcases hb with e | e | e | e
    · exact .inl (.inl e)
    · exact .inl (.inr (.inl e))
    · exact (hv b e).imp (fun e => .inr (.inr (.inl e))) id
    · exact .inl (.inr (.inr (.inr e)))
theorem flat3_leaf {L : List (Int × Int)} {f : Nat → Option Addr × Nat × Nat} {x : Int × Int} {u : Option Addr × Nat × Nat} : flat3 (L ++ [x]).length (lfR (L ++ [x]) fun i => if i = L.length then u else f i) = flat3 L.length (lfR L f) ++ [.int .i64 x.1, .int .i64 x.2, .slice u.1 u.2.1 u.2.2] := by
  rw [List.length_append, List.length_singleton, flat3_succ]
  have e : flat3 L.length (lfR (L ++ [x]) fun i => if i = L.length then u else f i) = flat3 L.length (lfR L f) := flat3_congr fun i hi => by
    simp only [lfR]
    rw [List.getElem?_append_left hi, if_neg (by omega)]
  rw [e]
  simp [lfR]
theorem RA.addLeaf {w1 w2 : World} {v1' : Value} {u : Option Addr × Nat × Nat} {N : Nat} {x : Int × Int} {xs : List Value} (h : RA w B a v1 v2 v5 H s) (hN : N = s.lv.length) (hb0 : Below 0 w w1) (hk : ∀ b, b < w.heap.size → v1.ownBlock ≠ some b → w1.heap[b]? = w.heap[b]?)
    (hxs : ∀ f, w.ownsRow B 48 3 v1 s.lv.length (flat3 s.lv.length (lfR s.lv f)) → xs = flat3 s.lv.length (lfR s.lv f)) (ho : w1.ownsRow B 48 3 v1' (N + 1) (xs ++ [.int .i64 x.1, .int .i64 x.2, .slice u.1 u.2.1 u.2.2]))
    (hv : ∀ b, v1'.ownBlock = some b → v1.ownBlock = some b ∨ w.heap.size ≤ b) (h2 : w2 = w1.setCell ⟨a, 1, none⟩ v1') :
    w1.heap[a]? = some (.cells #[H.1, v1, v2, H.2.1, H.2.2.1, v5, H.2.2.2] 39 (0, 0)) ∧ RA w2 B a v1' v2 v5 H ⟨s.lv ++ [x], s.of, s.prs⟩ ∧ Keeps (Tch a v1 v2 v5) w w2 ∧ ∀ b, Tch a v1' v2 v5 b → Tch a v1 v2 v5 b ∨ w.heap.size ≤ b := by
  subst hN
  obtain ⟨r1, r2, ⟨f, r3⟩, r4, r5⟩ := h
  have hal := (Array.getElem?_eq_some_iff.1 r2).1
  have n1a : v1.ownBlock ≠ some a := own_blk_ne r3 r2 (by decide)
  have ha1 := (hk a hal n1a).trans r2
  have hset := heap_setCell_same w1 a 1 _ 39 v1' ha1
  have hoth : ∀ b, b ≠ a → w2.heap[b]? = w1.heap[b]? := fun b hb => by rw [h2]; exact heap_setCell_other _ _ _ _ hb
  have e4 : w2.ownsRow B 3 1 v2 s.of.length (s.of.map (.int .i64)) := by
    rw [h2]
    have k := own_keep r4 (w' := w1) fun b hb => hk b (r4.lt b hb).2 (own_cross r4 r3 (by decide) hb)
    exact ownsRow_setCell_other k (own_blk_ne k ha1 (by decide)) _
  have e5 : w2.ownsRow B 101 2 v5 s.prs.length (s.prs.flatMap twoV) := by
    rw [h2]
    have k := own_keep r5 (w' := w1) fun b hb => hk b (r5.lt b hb).2 (own_cross r5 r3 (by decide) hb)
    exact ownsRow_setCell_other k (own_blk_ne k ha1 (by decide)) _
  have e3 : ∃ f, w2.ownsRow B 48 3 v1' (s.lv ++ [x]).length (flat3 (s.lv ++ [x]).length (lfR (s.lv ++ [x]) f)) := by
    refine ⟨fun i => if i = s.lv.length then u else f i, ?_⟩
    rw [flat3_leaf, h2, List.length_append, List.length_singleton, ← hxs f r3]
    exact ownsRow_setCell_other ho (own_blk_ne ho ha1 (by decide)) _
  refine ⟨ha1, ⟨r1, by rw [h2]; exact hset, e3, e4, e5⟩, ⟨?_, fun b hb hn => (hoth b fun e => hn (.inl e)).trans (hk b hb fun e => hn (.inr (.inl e)))⟩, fun b hb => ?_⟩
  · rw [h2]; exact hb0.setCell (p := ⟨a, 1, none⟩) (Nat.zero_le _) _
  · rcases hb with e | e | e | e
    · exact .inl (.inl e)
    · exact (hv b e).imp (fun e => .inr (.inl e)) id
    · exact .inl (.inr (.inr (.inl e)))
    · exact .inl (.inr (.inr (.inr e)))
end
theorem setCell_comm (w : World) (a b i j : Nat) (u v : Value) (h : a ≠ b) : (w.setCell ⟨a, i, none⟩ u).setCell ⟨b, j, none⟩ v = (w.setCell ⟨b, j, none⟩ v).setCell ⟨a, i, none⟩ u := by
  unfold World.setCell
  congr 1
  apply Array.ext_getElem?
  intro k
  simp only [Array.getElem?_modify]
  by_cases e1 : a = k
  · by_cases e2 : b = k
    · exact absurd (e1.trans e2.symm) h
    · simp [e1, e2]
  · by_cases e2 : b = k
    · simp [e1, e2]
    · simp [e1, e2]
/-- A leaf has been appended to, and stored. -/
theorem leaf_step {W X : World} {B a nl c1 q4 : Nat} {A1 : Option Addr} {v2 v5 : Value} {H : Value × Value × Value × Value} {s : Rs} {pcs : List Value} {kd cl : Int} {KA : Option Addr} {k1 k2 : Nat} (hR : RA W B a (.slice A1 nl c1) v2 v5 H s) (hnl : nl = s.lv.length) (hW : Below W.heap.size W X) (h4 : q4 < W.heap.size) (h4T : ¬ Tch a (.slice A1 nl c1) v2 v5 q4)
    (hp : ∀ f, W.ownsRow B 48 3 (.slice A1 nl c1) nl (flat3 nl (lfR s.lv f)) → pcs = flat3 nl (lfR s.lv f)) (v' : Value) (w' : World) (hown : w'.ownsRow B 48 3 v' (nl + 1) (pcs ++ [.int .i64 0, .int .i64 0, .slice none 0 0]))
    (hgrow : X.grownBy w' (Value.slice A1 nl c1).ownBlock) (hat : v'.ownBlock = (Value.slice A1 nl c1).ownBlock ∨ v'.ownBlock = some X.heap.size) :
    ∃ g c, v' = .slice (some ⟨g, 0, none⟩) (nl + 1) c ∧ w'.cell? ⟨g, nl * 3, none⟩ = some (.int .i64 0) ∧ w'.cell? ⟨g, nl * 3 + 1, none⟩ = some (.int .i64 0) ∧ w'.cell? ⟨g, nl * 3 + 2, none⟩ = some (.slice none 0 0) ∧ (∀ j, w'.frozen? ⟨g, j, none⟩ = false) ∧
      w'.heap[q4]? = W.heap[q4]? ∧ (((w'.setCell ⟨g, nl * 3, none⟩ (.int .i64 kd)).setCell ⟨g, nl * 3 + 1, none⟩ (.int .i64 cl)).setCell ⟨g, nl * 3 + 2, none⟩ (.slice KA k1 k2)).heap[q4]? = W.heap[q4]? ∧
      (∃ u, (((w'.setCell ⟨g, nl * 3, none⟩ (.int .i64 kd)).setCell ⟨g, nl * 3 + 1, none⟩ (.int .i64 cl)).setCell ⟨g, nl * 3 + 2, none⟩ (.slice KA k1 k2)).cell? ⟨a, 1, none⟩ = some u ∧ (((w'.setCell ⟨g, nl * 3, none⟩ (.int .i64 kd)).setCell ⟨g, nl * 3 + 1, none⟩ (.int .i64 cl)).setCell ⟨g, nl * 3 + 2, none⟩ (.slice KA k1 k2)).frozen? ⟨a, 1, none⟩ = false) ∧
      ((((w'.setCell ⟨g, nl * 3, none⟩ (.int .i64 kd)).setCell ⟨g, nl * 3 + 1, none⟩ (.int .i64 cl)).setCell ⟨g, nl * 3 + 2, none⟩ (.slice KA k1 k2)).setCell ⟨a, 1, none⟩ v').heap[q4]? = W.heap[q4]? ∧
      (RA ((((w'.setCell ⟨g, nl * 3, none⟩ (.int .i64 kd)).setCell ⟨g, nl * 3 + 1, none⟩ (.int .i64 cl)).setCell ⟨g, nl * 3 + 2, none⟩ (.slice KA k1 k2)).setCell ⟨a, 1, none⟩ v') B a v' v2 v5 H ⟨s.lv ++ [(kd, cl)], s.of, s.prs⟩ ∧
        Keeps (Tch a (.slice A1 nl c1) v2 v5) W ((((w'.setCell ⟨g, nl * 3, none⟩ (.int .i64 kd)).setCell ⟨g, nl * 3 + 1, none⟩ (.int .i64 cl)).setCell ⟨g, nl * 3 + 2, none⟩ (.slice KA k1 k2)).setCell ⟨a, 1, none⟩ v') ∧ ∀ b, Tch a v' v2 v5 b → Tch a (.slice A1 nl c1) v2 v5 b ∨ W.heap.size ≤ b) ∧
      (∃ u, w'.cell? ⟨a, 1, none⟩ = some u ∧ w'.frozen? ⟨a, 1, none⟩ = false) ∧ g ≠ a ∧ (w'.setCell ⟨a, 1, none⟩ v').heap[q4]? = W.heap[q4]? ∧
      ((((w'.setCell ⟨g, nl * 3, none⟩ (.int .i64 kd)).setCell ⟨g, nl * 3 + 1, none⟩ (.int .i64 cl)).setCell ⟨g, nl * 3 + 2, none⟩ (.slice KA k1 k2)).setCell ⟨a, 1, none⟩ v') = ((((w'.setCell ⟨a, 1, none⟩ v').setCell ⟨g, nl * 3, none⟩ (.int .i64 kd)).setCell ⟨g, nl * 3 + 1, none⟩ (.int .i64 cl)).setCell ⟨g, nl * 3 + 2, none⟩ (.slice KA k1 k2)) := by
  obtain ⟨f, hrow⟩ := hR.2.2.1
  rw [← hnl] at hrow
  have hpf := hp f hrow
  have hlen : pcs.length = nl * 3 := by rw [hpf, flat3_len]
  obtain ⟨g, c, rfl⟩ : ∃ g c, v' = .slice (some ⟨g, 0, none⟩) (nl + 1) c := by
    rcases hown.2 with ⟨-, h0⟩ | ⟨g, c, cur, e, -⟩
    · omega
    · exact ⟨g, c, e⟩
  have hgv : g = g := rfl
  have hgo : (Value.slice (some ⟨g, 0, none⟩) (nl + 1) c).ownBlock = some g := rfl
  have hgT : ∀ b, b < W.heap.size → (Value.slice A1 nl c1).ownBlock ≠ some b → b ≠ g := fun b hb hn e => by
    subst e
    rcases hat with h | h
    · exact hn (h.symm.trans hgo)
    · rw [hgo] at h; injection h with h; have := hW.size; omega
  have hk1 : ∀ b, b < W.heap.size → (Value.slice A1 nl c1).ownBlock ≠ some b → w'.heap[b]? = W.heap[b]? := fun b hb hn => (hgrow.block b (Nat.lt_of_lt_of_le hb hW.size) fun e => hn e.symm).trans (hW.block b hb)
  have hcell : ∀ j u, ([Value.int .i64 0, Value.int .i64 0, Value.slice none 0 0] : List Value)[j]? = some u → j < 3 → w'.cell? ⟨g, nl * 3 + j, none⟩ = some u := fun j u hu hj => by
    rw [hown.cellAt (nl * 3 + j) (by omega), List.getElem?_append_right (by omega), hlen, show nl * 3 + j - nl * 3 = j by omega]
    exact hu
  obtain ⟨w3, hw3⟩ : ∃ w3, w3 = ((w'.setCell ⟨g, nl * 3, none⟩ (.int .i64 kd)).setCell ⟨g, nl * 3 + 1, none⟩ (.int .i64 cl)).setCell ⟨g, nl * 3 + 2, none⟩ (.slice KA k1 k2) := ⟨_, rfl⟩
  have s1 := hown.stored (nl * 3) (.int .i64 kd)
  have s2 := s1.1.stored (nl * 3 + 1) (.int .i64 cl)
  have s3 := s2.1.stored (nl * 3 + 2) (.slice KA k1 k2)
  have ho3 : w3.ownsRow B 48 3 (.slice (some ⟨g, 0, none⟩) (nl + 1) c) (nl + 1) (pcs ++ [.int .i64 kd, .int .i64 cl, .slice KA k1 k2]) := by
    have h := s3.1
    rw [hw3]
    have e : (((pcs ++ [Value.int .i64 0, Value.int .i64 0, Value.slice none 0 0]).set (nl * 3) (.int .i64 kd)).set (nl * 3 + 1) (.int .i64 cl)).set (nl * 3 + 2) (.slice KA k1 k2) = pcs ++ [Value.int .i64 kd, Value.int .i64 cl, Value.slice KA k1 k2] := by
      rw [← hlen]
      simp [List.set_append]
    rw [e] at h
    exact h
  have hk3 : ∀ b, b ≠ g → w3.heap[b]? = w'.heap[b]? := fun b hb => by
    rw [hw3, heap_setCell_other _ _ _ _ hb, heap_setCell_other _ _ _ _ hb, heap_setCell_other _ _ _ _ hb]
  have hkW : ∀ b, b < W.heap.size → (Value.slice A1 nl c1).ownBlock ≠ some b → w3.heap[b]? = W.heap[b]? := fun b hb hn => (hk3 b (hgT b hb hn)).trans (hk1 b hb hn)
  have hBg : B ≤ g := (hown.lt g hgo).1
  have hb0 : Below 0 W w' := (hW.mono (Nat.zero_le _)).trans ⟨hgrow.os, hgrow.tape, hgrow.output, hgrow.size, fun b hb => by omega⟩
  have hb3 : Below 0 W w3 := by
    rw [hw3]
    exact ((hb0.setCell (p := ⟨g, nl * 3, none⟩) (Nat.zero_le _) _).setCell (p := ⟨g, nl * 3 + 1, none⟩) (Nat.zero_le _) _).setCell (p := ⟨g, nl * 3 + 2, none⟩) (Nat.zero_le _) _
  have hal := (Array.getElem?_eq_some_iff.1 hR.2.1).1
  have n1a : (Value.slice A1 nl c1).ownBlock ≠ some a := own_blk_ne hrow hR.2.1 (by decide)
  have ha1 := (hk1 a hal n1a).trans hR.2.1
  have hga : g ≠ a := fun e => hgT a hal n1a e.symm
  have h4n : (Value.slice A1 nl c1).ownBlock ≠ some q4 := fun e => h4T (.inr (.inl e))
  have h4a : q4 ≠ a := fun e => h4T (.inl e)
  obtain ⟨r1, r2, r3, r4⟩ := hR.addLeaf (w1 := w3) (w2 := w3.setCell ⟨a, 1, none⟩ (.slice (some ⟨g, 0, none⟩) (nl + 1) c)) (v1' := .slice (some ⟨g, 0, none⟩) (nl + 1) c) (u := (KA, k1, k2)) (N := nl) (x := (kd, cl)) (xs := pcs) hnl hb3 hkW (fun f' hf' => by rw [← hnl] at hf' ⊢; exact hp f' hf') ho3
    (fun b hb => by
      rcases hat with h | h
      · exact .inl (h ▸ hb)
      · rw [h] at hb; injection hb with hb; exact .inr (by have := hW.size; omega)) rfl
  refine ⟨g, c, rfl, hcell 0 _ rfl (by omega), hcell 1 _ rfl (by omega), hcell 2 _ rfl (by omega), fun j => hown.frozenAt j, hk1 q4 h4 h4n, ?_, ?_, ?_, ?_, ⟨_, (slot7 ha1).2.1, (slot7 ha1).2.2.2.2.2.2.2 1⟩, hga, (heap_setCell_other _ _ _ _ h4a).trans (hk1 q4 h4 h4n), ?_⟩
  · rw [← hw3]; exact hkW q4 h4 h4n
  · rw [← hw3]; exact ⟨_, (slot7 r1).2.1, (slot7 r1).2.2.2.2.2.2.2 1⟩
  · rw [← hw3, heap_setCell_other _ _ _ _ h4a]; exact hkW q4 h4 h4n
  · rw [← hw3]; exact ⟨r2, r3, r4⟩
  · rw [setCell_comm _ g a _ _ _ _ hga, setCell_comm _ g a _ _ _ _ hga, setCell_comm _ g a _ _ _ _ hga]
theorem RA.other {w : World} {B a : Nat} {v1 v2 v5 : Value} {H : Value × Value × Value × Value} {s : Rs} (h : RA w B a v1 v2 v5 H s) {q : Nat} (hq : ¬ Tch a v1 v2 v5 q) (j : Nat) (u : Value) : RA (w.setCell ⟨q, j, none⟩ u) B a v1 v2 v5 H s := by
  obtain ⟨r1, r2, ⟨f, r3⟩, r4, r5⟩ := h
  exact ⟨r1, (heap_setCell_other _ _ _ _ fun e => hq (.inl e.symm)).trans r2, ⟨f, ownsRow_setCell_other r3 (fun e => hq (.inr (.inl e))) _⟩, ownsRow_setCell_other r4 (fun e => hq (.inr (.inr (.inl e)))) _, ownsRow_setCell_other r5 (fun e => hq (.inr (.inr (.inr e)))) _⟩
theorem Keeps.set {T : Nat → Prop} {w w' : World} (h : Keeps T w w') {q : Nat} (hq : w.heap.size ≤ q ∨ T q) (j : Nat) (u : Value) : Keeps T w (w'.setCell ⟨q, j, none⟩ u) :=
  ⟨h.1.setCell (p := ⟨q, j, none⟩) (Nat.zero_le _) _, fun b hb hn => (heap_setCell_other _ _ _ _ fun e => by subst e; rcases hq with hq | hq; omega; exact hn hq).trans (h.2 b hb hn)⟩
theorem IntBlk.at {w : World} {g : Nat} {l : List Int} {S : Nat → Prop} (h : IntBlk w g 3 .i64 l) (hl : l.length ≤ 1000) (hS : S g) : IsNums .i64 w S (.slice (some ⟨g, 0, none⟩) l.length l.length) l :=
  (h.nums (by omega)).mono fun b hb _ => hb ▸ hS
/-- The leaf's end: two lists of one number, and the part. -/
theorem leaf_end {w w6 L3 : World} {B a q : Nat} {v1 v2 v5 u1 u2 u5 x y z : Value} {H : Value × Value × Value × Value} {s : Rs} {k : Int} (hR : RA w6 B a u1 u2 u5 H s) (hK : Keeps (Tch a v1 v2 v5) w w6) (hq : w.heap.size ≤ q) (hqT : ¬ Tch a u1 u2 u5 q) (hq6 : q < w6.heap.size)
    (h3 : L3 = ((((w6.alloc (.cells #[.int .i64 k] 3)).alloc (.cells #[.int .i64 k] 3)).setCell ⟨q, 0, none⟩ x).setCell ⟨q, 1, none⟩ y).setCell ⟨q, 2, none⟩ z) :
    RA L3 B a u1 u2 u5 H s ∧ Keeps (Tch a v1 v2 v5) w L3 ∧ IsNums .i64 L3 (fun b => ¬ Tch a u1 u2 u5 b ∧ w.heap.size ≤ b) (.slice (some ⟨w6.heap.size, 0, none⟩) 1 1) [k] ∧ IsNums .i64 L3 (fun b => ¬ Tch a u1 u2 u5 b ∧ w.heap.size ≤ b) (.slice (some ⟨w6.heap.size + 1, 0, none⟩) 1 1) [k] := by
  obtain ⟨L2, h2⟩ : ∃ L2, L2 = (w6.alloc (.cells #[.int .i64 k] 3)).alloc (.cells #[.int .i64 k] 3) := ⟨_, rfl⟩
  rw [← h2] at h3
  have hb2 : Below w6.heap.size w6 L2 := by rw [h2]; exact ((Below.refl _ _).alloc (Nat.le_refl _) _).alloc (by simp) _
  have hlt := hR.lt
  have hsz : w.heap.size ≤ w6.heap.size := hK.1.size
  have b0 : L2.heap[w6.heap.size]? = some (.cells #[.int .i64 k] 3 (0, 0)) := by rw [h2, heap_alloc_old _ _ (by simp)]; exact heap_alloc_new _ _
  have b1 : L2.heap[w6.heap.size + 1]? = some (.cells #[.int .i64 k] 3 (0, 0)) := by
    have h := heap_alloc_new (w6.alloc (.cells #[.int .i64 k] 3)) (.cells #[.int .i64 k] 3)
    rw [World.size_alloc] at h
    rw [h2]; exact h
  have hoth : ∀ b, b ≠ q → L3.heap[b]? = L2.heap[b]? := fun b hb => by rw [h3, heap_setCell_other _ _ _ _ hb, heap_setCell_other _ _ _ _ hb, heap_setCell_other _ _ _ _ hb]
  refine ⟨?_, ?_, ?_, ?_⟩
  · rw [h3]; exact (((hR.below hb2).other hqT _ _).other hqT _ _).other hqT _ _
  · rw [h3]
    have hk2 : Keeps (Tch a v1 v2 v5) w L2 := hK.trans (Keeps.of_below (T := fun _ => False) hb2) fun b hb => hb.elim
    exact ((hk2.set (.inl hq) _ _).set (.inl hq) _ _).set (.inl hq) _ _
  · exact IntBlk.at (l := [k]) (show IntBlk L3 _ 3 .i64 [k] from (hoth _ (by omega)).trans b0) (by simp) ⟨fun e => by have := (hlt _ e).2; omega, hsz⟩
  · exact IntBlk.at (l := [k]) (show IntBlk L3 _ 3 .i64 [k] from (hoth _ (by omega)).trans b1) (by simp) ⟨fun e => by have := (hlt _ e).2; omega, by omega⟩
theorem own_flat {w : World} {B e size n : Nat} {v : Value} {xs ys : List Value} (h : w.ownsRow B e size v n xs) (k : w.ownsRow B e size v n ys) : xs = ys := by
  have l1 := h.1
  have l2 := k.1
  rcases h.2 with ⟨-, h0⟩ | ⟨g, c, cur, e1, -, hh, -, -, -, ht⟩
  · rw [h0, Nat.zero_mul] at l1 l2
    rw [List.eq_nil_of_length_eq_zero l1, List.eq_nil_of_length_eq_zero l2]
  · rcases k.2 with ⟨e0, -⟩ | ⟨g2, c2, cur2, e2, -, hh2, -, -, -, ht2⟩
    · rw [e1] at e0; cases e0
    · rw [e1] at e2
      injection e2 with e3
      injection e3 with e3
      injection e3 with e3
      subst e3
      rw [hh] at hh2
      injection hh2 with hh2
      injection hh2 with hh2
      rw [← ht, ← ht2, hh2]
theorem info48 : (Try.prog.info? 48).map (fun i => (i.zero, i.size, i.bytes)) = some (some (.agg #[.int .i64 0, .int .i64 0, .slice none 0 0]), 3, 40) := by kernel_rfl
/-- What a walk over a tree leaves: what is known of the part, and the notes. -/
def LookAns (w : World) (B a : Nat) (v1 v2 v5 : Value) (H : Value × Value × Value × Value) (r : Pt × Rs) (e : Ending) (w' : World) : Prop :=
  ∃ F L v1' v2' v5', e = .returned (.agg #[.bool r.1.emp, F, L]) ∧ RA w' B a v1' v2' v5' H r.2 ∧ Keeps (Tch a v1 v2 v5) w w' ∧ (∀ b, Tch a v1' v2' v5' b → Tch a v1 v2 v5 b ∨ w.heap.size ≤ b) ∧
    IsNums .i64 w' (fun b => ¬ Tch a v1' v2' v5' b ∧ w.heap.size ≤ b) F r.1.fst ∧ IsNums .i64 w' (fun b => ¬ Tch a v1' v2' v5' b ∧ w.heap.size ≤ b) L r.1.lst
theorem nums_nil (w : World) (S : Nat → Prop) : IsNums .i64 w S (.slice none 0 0) [] := ⟨none, 0, rfl, Nat.le_refl _, Nat.zero_le _, Arr.nil⟩
set_option maxRecDepth 100000 in
set_option maxHeartbeats 4000000 in
theorem look_nine {w : World} {B a : Nat} {v1 v2 v5 : Value} {H : Value × Value × Value × Value} {s : Rs} {c of : Int} {KA : Option Addr} {kn kc : Nat} (h : RA w B a v1 v2 v5 H s) :
    Calls Try.prog 51 #[.pointer (some ⟨a, 0, none⟩), .agg #[.int .i64 9, .int .i64 c, .slice KA kn kc], .int .i64 of] w (LookAns w B a v1 v2 v5 H (⟨true, [], []⟩, s)) := by
  have HRA := hid h
  have HB := hid (show ∀ x y : Obj, Below w.heap.size w ((w.alloc x).alloc y) from fun x y => ((Below.refl _ _).alloc (Nat.le_refl _) _).alloc (by simp) _)
  clear h
  go_enter Try.func51, Try.ntmps51
  go_wp2_with fail
  refine bodyPost_ret (v := .agg #[.bool true, .slice none 0 0, .slice none 0 0]) (by simp [results, Try.results51, go_sem]) rfl ?_
  exact ⟨_, _, v1, v2, v5, rfl, HRA.out.below (HB.out _ _), Keeps.of_below (HB.out _ _), fun b hb => .inl hb, nums_nil _ _, nums_nil _ _⟩
set_option maxRecDepth 100000 in
set_option maxHeartbeats 4000000 in
theorem look_leaf {w : World} {B a : Nat} {v1 v2 v5 : Value} {H : Value × Value × Value × Value} {s : Rs} {kd cl of : Int} {KA : Option Addr} {kc : Nat} (h : RA w B a v1 v2 v5 H s) (h9 : kd ≠ 9) (hs : s.lv.length ≤ 1000) (ho : s.of.length ≤ 1000) :
    Calls Try.prog 51 #[.pointer (some ⟨a, 0, none⟩), .agg #[.int .i64 kd, .int .i64 cl, .slice KA 0 kc], .int .i64 of] w (LookAns w B a v1 v2 v5 H (⟨false, [((s.lv.length + 1 : Nat) : Int)], [((s.lv.length + 1 : Nat) : Int)]⟩, ⟨s.lv ++ [(kd, cl)], s.of ++ [of], s.prs⟩)) := by
  obtain ⟨i0, hi0, hz0, hz1, hz2⟩ := info_parts info48
  obtain ⟨j0, hj0, hy0, hy1, hy2⟩ := info_parts info3
  obtain ⟨q4, hq4⟩ : ∃ q4, q4 = w.heap.size := ⟨_, rfl⟩
  obtain ⟨W, hW⟩ : ∃ W, W = (w.alloc (.cells #[.int .i64 kd, .int .i64 cl, .slice KA 0 kc] 48)).alloc (.cells #[.bool false, .slice none 0 0, .slice none 0 0] 95) := ⟨_, rfl⟩
  have HWB := hid (show Below w.heap.size w W by rw [hW]; exact ((Below.refl _ _).alloc (Nat.le_refl _) _).alloc (by simp) _)
  have hb4 : W.heap[q4]? = some (.cells #[.int .i64 kd, .int .i64 cl, .slice KA 0 kc] 48 (0, 0)) := by rw [hW, hq4, heap_alloc_old _ _ (by simp)]; exact heap_alloc_new _ _
  have HB4 := hid hb4
  obtain ⟨f0, f1, f2, -⟩ := slot3 hb4
  have HRW := hid (h.below HWB.out)
  have HQ6 := hid (show W.heap[q4 + 1]? = some (.cells #[.bool false, .slice none 0 0, .slice none 0 0] 95 (0, 0)) by
    have h := heap_alloc_new (w.alloc (.cells #[.int .i64 kd, .int .i64 cl, .slice KA 0 kc] 48)) (.cells #[.bool false, .slice none 0 0, .slice none 0 0] 95)
    rw [World.size_alloc] at h
    rw [hW, hq4]; exact h)
  have HQ4W := hid (show w.heap.size ≤ q4 by rw [hq4]; exact Nat.le_refl _)
  have hne9 : (kd == 9) = false := ieq_false h9
  obtain ⟨nl, hnl⟩ : ∃ nl, nl = s.lv.length := ⟨_, rfl⟩
  have HNL := hid hnl
  rw [← hnl] at hs ⊢
  obtain ⟨A1, c1, rfl, -⟩ := own_arr (HRW.out.2.2.1.choose_spec)
  rw [← hnl] at HRW ⊢
  clear hb4 h9 hnl
  have HH := hid h
  clear h
  go_enter Try.func51, Try.ntmps51
  go_wp2_with fail
  rw [← hW, ← hq4]
  obtain ⟨X, hX⟩ : ∃ X, X = (W.alloc (.cells #[.int .i64 0, .int .i64 0, .slice none 0 0] 48)).drew := ⟨_, rfl⟩
  have HBW := hid (show Below W.heap.size W X by rw [hX]; exact ((Below.refl _ _).alloc (Nat.le_refl _) _).drew)
  have hq1 := (slot7 HRW.out.2.1).2.1
  have hal := (Array.getElem?_eq_some_iff.1 HRW.out.2.1).1
  have HC1 := hid hq1
  have HC1b := hid (show (W.alloc (.cells #[.int .i64 0, .int .i64 0, .slice none 0 0] 48)).cell? ⟨a, 1, none⟩ = some (.slice A1 nl c1) by
    have := (cell_same (HBW.out.block a hal)).trans hq1
    rw [hX] at this; exact this)
  have HSF := hid (show ∀ Y : World, Y.heap[q4]? = W.heap[q4]? → Y.cell? ⟨q4, 0, none⟩ = some (.int .i64 kd) ∧ Y.cell? ⟨q4, 1, none⟩ = some (.int .i64 cl) ∧ Y.cell? ⟨q4, 2, none⟩ = some (.slice KA 0 kc) from fun Y hY => by
    obtain ⟨a0, a1, a2, -⟩ := slot3 (hY.trans HB4.out)
    exact ⟨a0, a1, a2⟩)
  have HS0 := hid (HSF.out W rfl)
  have h4l := (Array.getElem?_eq_some_iff.1 HB4.out).1
  have HT4 := hid (show ¬ Tch a (.slice A1 nl c1) v2 v5 q4 from fun e => by rw [HNL.out] at e; have := (HH.out.lt q4 e).2; omega)
  have HS1 := hid (HSF.out X (HBW.out.block q4 h4l))
  obtain ⟨f, hrow⟩ := HRW.out.2.2.1
  rw [← HNL.out] at hrow
  have hrow0 := hrow
  obtain ⟨pcs, hpcs⟩ : ∃ pcs, pcs = flat3 nl (lfR s.lv f) := ⟨_, rfl⟩
  rw [← hpcs] at hrow
  have HOX := hid (show X.ownsRow B 48 3 (.slice A1 nl c1) nl pcs by rw [hX]; exact (hrow.alloc _).drew)
  have HBX := hid (show B ≤ X.heap.size by have h1 := HBW.out.size; have h2 := HRW.out.1; omega)
  have HC7 := hid (fun (v' : Value) (w' : World) (hown : w'.ownsRow B 48 3 v' (nl + 1) (pcs ++ [.int .i64 0, .int .i64 0, .slice none 0 0])) (hgrow : X.grownBy w' (Value.slice A1 nl c1).ownBlock) (hat : v'.ownBlock = (Value.slice A1 nl c1).ownBlock ∨ v'.ownBlock = some X.heap.size) => show ∃ g c, v' = .slice (some ⟨g, 0, none⟩) (nl + 1) c ∧ w'.cell? ⟨g, nl * 3, none⟩ = some (.int .i64 0) ∧ w'.cell? ⟨g, nl * 3 + 1, none⟩ = some (.int .i64 0) ∧ w'.cell? ⟨g, nl * 3 + 2, none⟩ = some (.slice none 0 0) ∧ (∀ j, w'.frozen? ⟨g, j, none⟩ = false) ∧
      (w'.cell? ⟨q4, 0, none⟩ = some (.int .i64 kd) ∧ w'.cell? ⟨q4, 1, none⟩ = some (.int .i64 cl) ∧ w'.cell? ⟨q4, 2, none⟩ = some (.slice KA 0 kc)) ∧ _ ∧ _ ∧ _ ∧ _ ∧ _ ∧ _ ∧ _ ∧ _ from by
    obtain ⟨g, c, e1, e2, e3, e4, e5, e6, e7, e8, e9, e10, e11, e12, e13, e14⟩ := leaf_step (kd := kd) (cl := cl) (KA := KA) (k1 := 0) (k2 := kc) (q4 := q4) HRW.out HNL.out HBW.out h4l HT4.out (fun f' hf' => by rw [hpcs]; exact own_flat hrow0 hf') v' w' hown hgrow hat
    exact ⟨g, c, e1, e2, e3, e4, e5, HSF.out _ e6, HSF.out _ e7, e8, HSF.out _ e9, e10, e11, e12, HSF.out _ e13, e14⟩)
  have HQ5 := hid (show ¬ Tch a (.slice A1 nl c1) v2 v5 (q4 + 1) ∧ q4 + 1 < W.heap.size from ⟨fun e => by rw [HNL.out] at e; have := (HH.out.lt _ e).2; omega, (Array.getElem?_eq_some_iff.1 HQ6.out).1⟩)
  have hnn : (nl : Int) < (nl : Int) + 1 := by omega
  clear hq1 hal hrow hrow0 hpcs f0 f1 f2 h4l hW hq4
  refine wp_region_held_drew (S := (fun Y => Y.cell? ⟨q4, 0, none⟩ = some (.int .i64 kd) ∧ Y.cell? ⟨q4, 1, none⟩ = some (.int .i64 cl) ∧ Y.cell? ⟨q4, 2, none⟩ = some (.slice KA 0 kc))) (by kernel_rfl) (by exact HS0.out) (fun hHeld => ?_)
  refine wpAnyH_take (i := 0) (oi := { dst := some 19, op := Op.move (Operand.tmp 0), type := _, pos := _, after := _, guard := none }) (v := ?_) rfl (by kernel_rfl) (by kernel_rfl) (by kernel_rfl) (fun _ _ _ h => h) (Or.inl ⟨by rfl, ?_⟩) (by assumption) ?_
  rotate_left
  · intro w hSw; (try dsimp only at hSw); go_simp; try with_reducible rfl
  try simp only [Act.put, List.setIfInBounds_toArray, List.set_cons_zero, List.set_cons_succ]
  refine wpAnyH_take (i := 1) (oi := { dst := some 20, op := Op.nilCheck (Operand.tmp 19), type := _, pos := _, after := _, guard := none }) (v := ?_) rfl (by kernel_rfl) (by kernel_rfl) (by kernel_rfl) (fun _ _ _ h => h) (Or.inl ⟨by rfl, ?_⟩) (by assumption) ?_
  rotate_left
  · intro w hSw; (try dsimp only at hSw); go_simp; try with_reducible rfl
  try simp only [Act.put, List.setIfInBounds_toArray, List.set_cons_zero, List.set_cons_succ]
  refine wpAnyH_take (i := 2) (oi := { dst := some 21, op := Op.fieldAddr 39 (Operand.tmp 20) 1, type := _, pos := _, after := _, guard := none }) (v := ?_) rfl (by kernel_rfl) (by kernel_rfl) (by kernel_rfl) (fun _ _ _ h => h) (Or.inl ⟨by rfl, ?_⟩) (by assumption) ?_
  rotate_left
  · intro w hSw; (try dsimp only at hSw); go_simp; try with_reducible rfl
  try simp only [Act.put, List.setIfInBounds_toArray, List.set_cons_zero, List.set_cons_succ]
  refine wpAnyH_take (i := 4) (oi := { dst := some 23, op := Op.load 48 (Operand.tmp 4), type := _, pos := _, after := _, guard := none }) (v := ?_) rfl (by kernel_rfl) (by kernel_rfl) (by kernel_rfl) (fun _ _ _ h => h) (Or.inl ⟨by rfl, ?_⟩) (by assumption) ?_
  rotate_left
  · intro w hSw; (try dsimp only at hSw); go_simp; try with_reducible rfl
  try simp only [Act.put, List.setIfInBounds_toArray, List.set_cons_zero, List.set_cons_succ]
  refine wpAnyH_ready (rs := [3, 6]) (by kernel_rfl) (by simp) ?_
  refine AllReadyH.cons (o := { dst := some 22, op := Op.load 22 (Operand.tmp 21), type := _, pos := _, after := _, guard := none }) rfl ?legA1n1 (AllReadyH.cons (o := { dst := some 25, op := Op.buildSlice 22 1 #[(0, Operand.const (Value.agg #[Value.int IntKind.i64 0, Value.int IntKind.i64 0, Value.slice none 0 0]))], type := _, pos := _, after := _, guard := none }) rfl ?legB1n1 AllReadyH.nil)
  case' legA1n1 =>
    intro K hK
    go_simp
    first | rw [HC1.out] | rw [HC1b.out]
    go_simp
    try rw [← hX]
    refine hK.out _ _ (by first | exact HS0.out | exact HS1.out) (fun hHeld => ?_)
    clear hK K
    try simp only [Act.put, List.setIfInBounds_toArray, List.set_cons_zero, List.set_cons_succ]
    refine wpAnyH_ready (rs := [5, 6]) (by kernel_rfl) (by simp) ?_
    refine AllReadyH.cons (o := { dst := some 24, op := Op.call { callee := Callee.builtin Builtin.len, args := #[Operand.tmp 22], argTypes := #[22] }, type := _, pos := _, after := _, guard := none }) rfl ?legA1n1an2 (AllReadyH.cons (o := { dst := some 25, op := Op.buildSlice 22 1 #[(0, Operand.const (Value.agg #[Value.int IntKind.i64 0, Value.int IntKind.i64 0, Value.slice none 0 0]))], type := _, pos := _, after := _, guard := none }) rfl ?legB1n1an2 AllReadyH.nil)
    case' legA1n1an2 =>
      intro K hK
      go_simp
      try rw [← hX]
      refine hK.out _ _ (by first | exact HS0.out | exact HS1.out) (fun hHeld => ?_)
      clear hK K
      try simp only [Act.put, List.setIfInBounds_toArray, List.set_cons_zero, List.set_cons_succ]
      refine wpAnyH_ready (rs := [6]) (by kernel_rfl) (by simp) ?_
      refine AllReadyH.cons (o := { dst := some 25, op := Op.buildSlice 22 1 #[(0, Operand.const (Value.agg #[Value.int IntKind.i64 0, Value.int IntKind.i64 0, Value.slice none 0 0]))], type := _, pos := _, after := _, guard := none }) rfl (fun K hK => ?_) AllReadyH.nil
      go_simp
      try rw [← hX]
      refine hK.out _ _ (by exact HS1.out) (fun hHeld => ?_)
      clear hK K
      try simp only [Act.put, List.setIfInBounds_toArray, List.set_cons_zero, List.set_cons_succ]
      refine wpAnyH_ready (rs := [7]) (by kernel_rfl) (by simp) ?_
      refine AllReadyH.cons (o := { dst := some 26, op := Op.call { callee := Callee.builtin Builtin.append, args := #[Operand.tmp 22, Operand.tmp 25], argTypes := #[22, 22] }, type := _, pos := _, after := _, guard := none }) rfl (fun K hK => ?_) AllReadyH.nil
      rw [if_pos (by rfl)]
      try rw [← hX]
      refine wp_app X (.tmp 22) (.tmp 25) 22 rfl B 48 i0 _ 3 40 Try.underlying22 hi0 hz0 hz1 hz2 rfl (by decide) _ nl pcs rfl HOX.out _ 1 1 [.int .i64 0, .int .i64 0, .slice none 0 0] rfl (by rw [hX]; exact src_new3 _ _ _ _ _) (by intro u hu; simp at hu; rcases hu with rfl | rfl <;> rfl) (by simp only [maxLen]; omega) (by omega) HBX.out ?_
      intro v' w' hown hgrow hat
      obtain ⟨g5, c5, rfl, e0, e1, e2, ef, hs7, hs9, hd9, hs12, hfin, hd7, hga, hs7b, heq⟩ := HC7.out v' w' hown hgrow hat
      have HF7 := hid hfin
      have HS7 := hid hs7
      have HS9 := hid hs9
      have HS12 := hid hs12
      have HS7B := hid hs7b
      have HEQ := hid heq
      have HS12B := hid (heq ▸ hs12)
      obtain ⟨u9, hu9, hf9⟩ := hd9
      obtain ⟨u7, hu7, hf7⟩ := hd7
      have hga' := Ne.symm hga
      have ef0 := ef (nl * 3)
      have ef1 := ef (nl * 3 + 1)
      have ef2 := ef (nl * 3 + 2)
      clear hown hgrow hat ef hfin hs7 hs9 hs12 hs7b heq
      refine hK.out _ _ (by exact HS7.out) (fun hHeld => ?_)
      clear hK K
      try simp only [Act.put, List.setIfInBounds_toArray, List.set_cons_zero, List.set_cons_succ]
      refine wpAnyH_take (i := 8) (oi := { dst := some 27, op := Op.indexAddr 22 (Operand.tmp 26) (Operand.tmp 24), type := _, pos := _, after := _, guard := none }) (v := ?_) rfl (by kernel_rfl) (by kernel_rfl) (by kernel_rfl) (fun _ _ _ h => h) (Or.inl ⟨by rfl, ?_⟩) (by assumption) ?_
      rotate_left
      · intro w hSw; (try dsimp only at hSw); go_simp; try with_reducible rfl
      try simp only [Act.put, List.setIfInBounds_toArray, List.set_cons_zero, List.set_cons_succ]
      refine wpAnyH_take (i := 10) (oi := { dst := some 28, op := Op.nilCheck (Operand.tmp 19), type := _, pos := _, after := _, guard := none }) (v := ?_) rfl (by kernel_rfl) (by kernel_rfl) (by kernel_rfl) (fun _ _ _ h => h) (Or.inl ⟨by rfl, ?_⟩) (by assumption) ?_
      rotate_left
      · intro w hSw; (try dsimp only at hSw); go_simp; try with_reducible rfl
      try simp only [Act.put, List.setIfInBounds_toArray, List.set_cons_zero, List.set_cons_succ]
      refine wpAnyH_take (i := 11) (oi := { dst := some 29, op := Op.fieldAddr 39 (Operand.tmp 28) 1, type := _, pos := _, after := _, guard := none }) (v := ?_) rfl (by kernel_rfl) (by kernel_rfl) (by kernel_rfl) (fun _ _ _ h => h) (Or.inl ⟨by rfl, ?_⟩) (by assumption) ?_
      rotate_left
      · intro w hSw; (try dsimp only at hSw); go_simp; try with_reducible rfl
      try simp only [Act.put, List.setIfInBounds_toArray, List.set_cons_zero, List.set_cons_succ]
      refine wpAnyH_ready (rs := [9, 12]) (by kernel_rfl) (by simp) ?_
      refine AllReadyH.cons (o := { dst := none, op := Op.store 48 (Operand.tmp 27) (Operand.tmp 23), type := _, pos := _, after := _, guard := none }) rfl ?legA1n3 (AllReadyH.cons (o := { dst := none, op := Op.store 22 (Operand.tmp 29) (Operand.tmp 26), type := _, pos := _, after := _, guard := none }) rfl ?legB1n3 AllReadyH.nil)
      case' legA1n3 =>
        intro K hK
        go_simp
        refine hK.out _ _ (by first | exact HS9.out | exact HS12B.out) (fun hHeld => ?_)
        clear hK K
        try simp only [Act.put, List.setIfInBounds_toArray, List.set_cons_zero, List.set_cons_succ]
        refine wpAnyH_ready (rs := [12]) (by kernel_rfl) (by simp) ?_
        refine AllReadyH.cons (o := { dst := none, op := Op.store 22 (Operand.tmp 29) (Operand.tmp 26), type := _, pos := _, after := _, guard := none }) rfl (fun K hK => ?_) AllReadyH.nil
        go_simp
        refine hK.out _ _ (by first | exact HS7B.out | exact HS12.out) (fun hHeld => ?_)
        clear hK K
        try simp only [Act.put, List.setIfInBounds_toArray, List.set_cons_zero, List.set_cons_succ]
        refine wpAnyH_done (by kernel_rfl) ?_ _
      case' legB1n3 =>
        intro K hK
        go_simp
        refine hK.out _ _ (by first | exact HS7B.out | exact HS12.out) (fun hHeld => ?_)
        clear hK K
        try simp only [Act.put, List.setIfInBounds_toArray, List.set_cons_zero, List.set_cons_succ]
        refine wpAnyH_ready (rs := [9]) (by kernel_rfl) (by simp) ?_
        refine AllReadyH.cons (o := { dst := none, op := Op.store 48 (Operand.tmp 27) (Operand.tmp 23), type := _, pos := _, after := _, guard := none }) rfl (fun K hK => ?_) AllReadyH.nil
        go_simp
        refine hK.out _ _ (by first | exact HS9.out | exact HS12B.out) (fun hHeld => ?_)
        clear hK K
        try simp only [Act.put, List.setIfInBounds_toArray, List.set_cons_zero, List.set_cons_succ]
        refine wpAnyH_done (by kernel_rfl) ?_ _
    case' legB1n1an2 =>
      intro K hK
      go_simp
      try rw [← hX]
      refine hK.out _ _ (by exact HS1.out) (fun hHeld => ?_)
      clear hK K
      try simp only [Act.put, List.setIfInBounds_toArray, List.set_cons_zero, List.set_cons_succ]
      refine wpAnyH_ready (rs := [5]) (by kernel_rfl) (by simp) ?_
      refine AllReadyH.cons (o := { dst := some 24, op := Op.call { callee := Callee.builtin Builtin.len, args := #[Operand.tmp 22], argTypes := #[22] }, type := _, pos := _, after := _, guard := none }) rfl (fun K hK => ?_) AllReadyH.nil
      go_simp
      try rw [← hX]
      refine hK.out _ _ (by first | exact HS0.out | exact HS1.out) (fun hHeld => ?_)
      clear hK K
      try simp only [Act.put, List.setIfInBounds_toArray, List.set_cons_zero, List.set_cons_succ]
      refine wpAnyH_ready (rs := [7]) (by kernel_rfl) (by simp) ?_
      refine AllReadyH.cons (o := { dst := some 26, op := Op.call { callee := Callee.builtin Builtin.append, args := #[Operand.tmp 22, Operand.tmp 25], argTypes := #[22, 22] }, type := _, pos := _, after := _, guard := none }) rfl (fun K hK => ?_) AllReadyH.nil
      rw [if_pos (by rfl)]
      try rw [← hX]
      refine wp_app X (.tmp 22) (.tmp 25) 22 rfl B 48 i0 _ 3 40 Try.underlying22 hi0 hz0 hz1 hz2 rfl (by decide) _ nl pcs rfl HOX.out _ 1 1 [.int .i64 0, .int .i64 0, .slice none 0 0] rfl (by rw [hX]; exact src_new3 _ _ _ _ _) (by intro u hu; simp at hu; rcases hu with rfl | rfl <;> rfl) (by simp only [maxLen]; omega) (by omega) HBX.out ?_
      intro v' w' hown hgrow hat
      obtain ⟨g5, c5, rfl, e0, e1, e2, ef, hs7, hs9, hd9, hs12, hfin, hd7, hga, hs7b, heq⟩ := HC7.out v' w' hown hgrow hat
      have HF7 := hid hfin
      have HS7 := hid hs7
      have HS9 := hid hs9
      have HS12 := hid hs12
      have HS7B := hid hs7b
      have HEQ := hid heq
      have HS12B := hid (heq ▸ hs12)
      obtain ⟨u9, hu9, hf9⟩ := hd9
      obtain ⟨u7, hu7, hf7⟩ := hd7
      have hga' := Ne.symm hga
      have ef0 := ef (nl * 3)
      have ef1 := ef (nl * 3 + 1)
      have ef2 := ef (nl * 3 + 2)
      clear hown hgrow hat ef hfin hs7 hs9 hs12 hs7b heq
      refine hK.out _ _ (by exact HS7.out) (fun hHeld => ?_)
      clear hK K
      try simp only [Act.put, List.setIfInBounds_toArray, List.set_cons_zero, List.set_cons_succ]
      refine wpAnyH_take (i := 8) (oi := { dst := some 27, op := Op.indexAddr 22 (Operand.tmp 26) (Operand.tmp 24), type := _, pos := _, after := _, guard := none }) (v := ?_) rfl (by kernel_rfl) (by kernel_rfl) (by kernel_rfl) (fun _ _ _ h => h) (Or.inl ⟨by rfl, ?_⟩) (by assumption) ?_
      rotate_left
      · intro w hSw; (try dsimp only at hSw); go_simp; try with_reducible rfl
      try simp only [Act.put, List.setIfInBounds_toArray, List.set_cons_zero, List.set_cons_succ]
      refine wpAnyH_take (i := 10) (oi := { dst := some 28, op := Op.nilCheck (Operand.tmp 19), type := _, pos := _, after := _, guard := none }) (v := ?_) rfl (by kernel_rfl) (by kernel_rfl) (by kernel_rfl) (fun _ _ _ h => h) (Or.inl ⟨by rfl, ?_⟩) (by assumption) ?_
      rotate_left
      · intro w hSw; (try dsimp only at hSw); go_simp; try with_reducible rfl
      try simp only [Act.put, List.setIfInBounds_toArray, List.set_cons_zero, List.set_cons_succ]
      refine wpAnyH_take (i := 11) (oi := { dst := some 29, op := Op.fieldAddr 39 (Operand.tmp 28) 1, type := _, pos := _, after := _, guard := none }) (v := ?_) rfl (by kernel_rfl) (by kernel_rfl) (by kernel_rfl) (fun _ _ _ h => h) (Or.inl ⟨by rfl, ?_⟩) (by assumption) ?_
      rotate_left
      · intro w hSw; (try dsimp only at hSw); go_simp; try with_reducible rfl
      try simp only [Act.put, List.setIfInBounds_toArray, List.set_cons_zero, List.set_cons_succ]
      refine wpAnyH_ready (rs := [9, 12]) (by kernel_rfl) (by simp) ?_
      refine AllReadyH.cons (o := { dst := none, op := Op.store 48 (Operand.tmp 27) (Operand.tmp 23), type := _, pos := _, after := _, guard := none }) rfl ?legA1n4 (AllReadyH.cons (o := { dst := none, op := Op.store 22 (Operand.tmp 29) (Operand.tmp 26), type := _, pos := _, after := _, guard := none }) rfl ?legB1n4 AllReadyH.nil)
      case' legA1n4 =>
        intro K hK
        go_simp
        refine hK.out _ _ (by first | exact HS9.out | exact HS12B.out) (fun hHeld => ?_)
        clear hK K
        try simp only [Act.put, List.setIfInBounds_toArray, List.set_cons_zero, List.set_cons_succ]
        refine wpAnyH_ready (rs := [12]) (by kernel_rfl) (by simp) ?_
        refine AllReadyH.cons (o := { dst := none, op := Op.store 22 (Operand.tmp 29) (Operand.tmp 26), type := _, pos := _, after := _, guard := none }) rfl (fun K hK => ?_) AllReadyH.nil
        go_simp
        refine hK.out _ _ (by first | exact HS7B.out | exact HS12.out) (fun hHeld => ?_)
        clear hK K
        try simp only [Act.put, List.setIfInBounds_toArray, List.set_cons_zero, List.set_cons_succ]
        refine wpAnyH_done (by kernel_rfl) ?_ _
      case' legB1n4 =>
        intro K hK
        go_simp
        refine hK.out _ _ (by first | exact HS7B.out | exact HS12.out) (fun hHeld => ?_)
        clear hK K
        try simp only [Act.put, List.setIfInBounds_toArray, List.set_cons_zero, List.set_cons_succ]
        refine wpAnyH_ready (rs := [9]) (by kernel_rfl) (by simp) ?_
        refine AllReadyH.cons (o := { dst := none, op := Op.store 48 (Operand.tmp 27) (Operand.tmp 23), type := _, pos := _, after := _, guard := none }) rfl (fun K hK => ?_) AllReadyH.nil
        go_simp
        refine hK.out _ _ (by first | exact HS9.out | exact HS12B.out) (fun hHeld => ?_)
        clear hK K
        try simp only [Act.put, List.setIfInBounds_toArray, List.set_cons_zero, List.set_cons_succ]
        refine wpAnyH_done (by kernel_rfl) ?_ _
  case' legB1n1 =>
    intro K hK
    go_simp
    try rw [← hX]
    refine hK.out _ _ (by exact HS1.out) (fun hHeld => ?_)
    clear hK K
    try simp only [Act.put, List.setIfInBounds_toArray, List.set_cons_zero, List.set_cons_succ]
    refine wpAnyH_ready (rs := [3]) (by kernel_rfl) (by simp) ?_
    refine AllReadyH.cons (o := { dst := some 22, op := Op.load 22 (Operand.tmp 21), type := _, pos := _, after := _, guard := none }) rfl (fun K hK => ?_) AllReadyH.nil
    go_simp
    first | rw [HC1.out] | rw [HC1b.out]
    go_simp
    try rw [← hX]
    refine hK.out _ _ (by first | exact HS0.out | exact HS1.out) (fun hHeld => ?_)
    clear hK K
    try simp only [Act.put, List.setIfInBounds_toArray, List.set_cons_zero, List.set_cons_succ]
    refine wpAnyH_ready (rs := [5]) (by kernel_rfl) (by simp) ?_
    refine AllReadyH.cons (o := { dst := some 24, op := Op.call { callee := Callee.builtin Builtin.len, args := #[Operand.tmp 22], argTypes := #[22] }, type := _, pos := _, after := _, guard := none }) rfl (fun K hK => ?_) AllReadyH.nil
    go_simp
    try rw [← hX]
    refine hK.out _ _ (by first | exact HS0.out | exact HS1.out) (fun hHeld => ?_)
    clear hK K
    try simp only [Act.put, List.setIfInBounds_toArray, List.set_cons_zero, List.set_cons_succ]
    refine wpAnyH_ready (rs := [7]) (by kernel_rfl) (by simp) ?_
    refine AllReadyH.cons (o := { dst := some 26, op := Op.call { callee := Callee.builtin Builtin.append, args := #[Operand.tmp 22, Operand.tmp 25], argTypes := #[22, 22] }, type := _, pos := _, after := _, guard := none }) rfl (fun K hK => ?_) AllReadyH.nil
    rw [if_pos (by rfl)]
    try rw [← hX]
    refine wp_app X (.tmp 22) (.tmp 25) 22 rfl B 48 i0 _ 3 40 Try.underlying22 hi0 hz0 hz1 hz2 rfl (by decide) _ nl pcs rfl HOX.out _ 1 1 [.int .i64 0, .int .i64 0, .slice none 0 0] rfl (by rw [hX]; exact src_new3 _ _ _ _ _) (by intro u hu; simp at hu; rcases hu with rfl | rfl <;> rfl) (by simp only [maxLen]; omega) (by omega) HBX.out ?_
    intro v' w' hown hgrow hat
    obtain ⟨g5, c5, rfl, e0, e1, e2, ef, hs7, hs9, hd9, hs12, hfin, hd7, hga, hs7b, heq⟩ := HC7.out v' w' hown hgrow hat
    have HF7 := hid hfin
    have HS7 := hid hs7
    have HS9 := hid hs9
    have HS12 := hid hs12
    have HS7B := hid hs7b
    have HEQ := hid heq
    have HS12B := hid (heq ▸ hs12)
    obtain ⟨u9, hu9, hf9⟩ := hd9
    obtain ⟨u7, hu7, hf7⟩ := hd7
    have hga' := Ne.symm hga
    have ef0 := ef (nl * 3)
    have ef1 := ef (nl * 3 + 1)
    have ef2 := ef (nl * 3 + 2)
    clear hown hgrow hat ef hfin hs7 hs9 hs12 hs7b heq
    refine hK.out _ _ (by exact HS7.out) (fun hHeld => ?_)
    clear hK K
    try simp only [Act.put, List.setIfInBounds_toArray, List.set_cons_zero, List.set_cons_succ]
    refine wpAnyH_take (i := 8) (oi := { dst := some 27, op := Op.indexAddr 22 (Operand.tmp 26) (Operand.tmp 24), type := _, pos := _, after := _, guard := none }) (v := ?_) rfl (by kernel_rfl) (by kernel_rfl) (by kernel_rfl) (fun _ _ _ h => h) (Or.inl ⟨by rfl, ?_⟩) (by assumption) ?_
    rotate_left
    · intro w hSw; (try dsimp only at hSw); go_simp; try with_reducible rfl
    try simp only [Act.put, List.setIfInBounds_toArray, List.set_cons_zero, List.set_cons_succ]
    refine wpAnyH_take (i := 10) (oi := { dst := some 28, op := Op.nilCheck (Operand.tmp 19), type := _, pos := _, after := _, guard := none }) (v := ?_) rfl (by kernel_rfl) (by kernel_rfl) (by kernel_rfl) (fun _ _ _ h => h) (Or.inl ⟨by rfl, ?_⟩) (by assumption) ?_
    rotate_left
    · intro w hSw; (try dsimp only at hSw); go_simp; try with_reducible rfl
    try simp only [Act.put, List.setIfInBounds_toArray, List.set_cons_zero, List.set_cons_succ]
    refine wpAnyH_take (i := 11) (oi := { dst := some 29, op := Op.fieldAddr 39 (Operand.tmp 28) 1, type := _, pos := _, after := _, guard := none }) (v := ?_) rfl (by kernel_rfl) (by kernel_rfl) (by kernel_rfl) (fun _ _ _ h => h) (Or.inl ⟨by rfl, ?_⟩) (by assumption) ?_
    rotate_left
    · intro w hSw; (try dsimp only at hSw); go_simp; try with_reducible rfl
    try simp only [Act.put, List.setIfInBounds_toArray, List.set_cons_zero, List.set_cons_succ]
    refine wpAnyH_ready (rs := [9, 12]) (by kernel_rfl) (by simp) ?_
    refine AllReadyH.cons (o := { dst := none, op := Op.store 48 (Operand.tmp 27) (Operand.tmp 23), type := _, pos := _, after := _, guard := none }) rfl ?legA1n5 (AllReadyH.cons (o := { dst := none, op := Op.store 22 (Operand.tmp 29) (Operand.tmp 26), type := _, pos := _, after := _, guard := none }) rfl ?legB1n5 AllReadyH.nil)
    case' legA1n5 =>
      intro K hK
      go_simp
      refine hK.out _ _ (by first | exact HS9.out | exact HS12B.out) (fun hHeld => ?_)
      clear hK K
      try simp only [Act.put, List.setIfInBounds_toArray, List.set_cons_zero, List.set_cons_succ]
      refine wpAnyH_ready (rs := [12]) (by kernel_rfl) (by simp) ?_
      refine AllReadyH.cons (o := { dst := none, op := Op.store 22 (Operand.tmp 29) (Operand.tmp 26), type := _, pos := _, after := _, guard := none }) rfl (fun K hK => ?_) AllReadyH.nil
      go_simp
      refine hK.out _ _ (by first | exact HS7B.out | exact HS12.out) (fun hHeld => ?_)
      clear hK K
      try simp only [Act.put, List.setIfInBounds_toArray, List.set_cons_zero, List.set_cons_succ]
      refine wpAnyH_done (by kernel_rfl) ?_ _
    case' legB1n5 =>
      intro K hK
      go_simp
      refine hK.out _ _ (by first | exact HS7B.out | exact HS12.out) (fun hHeld => ?_)
      clear hK K
      try simp only [Act.put, List.setIfInBounds_toArray, List.set_cons_zero, List.set_cons_succ]
      refine wpAnyH_ready (rs := [9]) (by kernel_rfl) (by simp) ?_
      refine AllReadyH.cons (o := { dst := none, op := Op.store 48 (Operand.tmp 27) (Operand.tmp 23), type := _, pos := _, after := _, guard := none }) rfl (fun K hK => ?_) AllReadyH.nil
      go_simp
      refine hK.out _ _ (by first | exact HS9.out | exact HS12B.out) (fun hHeld => ?_)
      clear hK K
      try simp only [Act.put, List.setIfInBounds_toArray, List.set_cons_zero, List.set_cons_succ]
      refine wpAnyH_done (by kernel_rfl) ?_ _
  all_goals
    obtain ⟨W4, hW4⟩ : ∃ W4, W4 = ((((w'.setCell ⟨g5, nl * 3, none⟩ (.int .i64 kd)).setCell ⟨g5, nl * 3 + 1, none⟩ (.int .i64 cl)).setCell ⟨g5, nl * 3 + 2, none⟩ (.slice KA 0 kc)).setCell ⟨a, 1, none⟩ (.slice (some ⟨g5, 0, none⟩) (nl + 1) c5)) := ⟨_, rfl⟩
    rw [← hW4] at HF7
    first | rw [← hW4] | rw [← HEQ.out, ← hW4]
    clear hW4 e0 e1 e2 ef0 ef1 ef2 hu9 hf9 hu7 hf7 hga hga' HEQ
    obtain ⟨A2, c2, hv2, -⟩ := own_arr HF7.out.1.2.2.2.1
    obtain ⟨m, hm⟩ : ∃ m, m = s.of.length := ⟨_, rfl⟩
    have HM := hid hm
    rw [show (Rs.mk (s.lv ++ [(kd, cl)]) s.of s.prs).of.length = m from hm.symm] at hv2
    have HOF := hid (show W4.ownsRow B 3 1 v2 m (s.of.map (.int .i64)) by rw [hm]; exact HF7.out.1.2.2.2.1)
    subst hv2
    obtain ⟨X5, hX5⟩ : ∃ X5, X5 = W4.alloc (.cells #[.int .i64 of] 3) := ⟨_, rfl⟩
    have HXB5 := hid (show Below W4.heap.size W4 X5 by rw [hX5]; exact (Below.refl _ _).alloc (Nat.le_refl _) _)
    have HOX5 := hid (HOF.out.alloc (.cells #[.int .i64 of] 3))
    have HBS5 := hid (show B ≤ X5.heap.size by have h1 := HXB5.out.size; have h2 := (HF7.out.1.lt a (.inl rfl)); omega)
    obtain ⟨-, p1, p2, -, -, -, -, pf⟩ := slot7 HF7.out.1.2.1
    have ho1000 : m ≤ 1000 := by rw [hm]; exact ho
    have P2 := hid p2
    have p2' := (HXB5.out.cell (p := ⟨a, 2, none⟩) (Array.getElem?_eq_some_iff.1 HF7.out.1.2.1).1).trans p2
    rw [hX5] at p2'
    clear hm pf p1
    have HQ4 := hid (show W4.heap[q4 + 1]? = some (.cells #[.bool false, .slice none 0 0, .slice none 0 0] 95 (0, 0)) from by
      rw [HF7.out.2.1.2 (q4 + 1) HQ5.out.2 fun e => HQ5.out.1 e]; exact HQ6.out)
    have HQL := hid (show ∀ (w5 : World) (u : Value), X5.grownBy w5 (Value.slice A2 m c2).ownBlock →
        (((w5.setCell ⟨a, 2, none⟩ u).alloc (.cells #[.int .i64 ((nl : Int) + 1)] 3)).alloc (.cells #[.int .i64 ((nl : Int) + 1)] 3)).cell? ⟨q4 + 1, 0, none⟩ = some (.bool false) ∧ (((w5.setCell ⟨a, 2, none⟩ u).alloc (.cells #[.int .i64 ((nl : Int) + 1)] 3)).alloc (.cells #[.int .i64 ((nl : Int) + 1)] 3)).cell? ⟨q4 + 1, 1, none⟩ = some (.slice none 0 0) ∧
        (((w5.setCell ⟨a, 2, none⟩ u).alloc (.cells #[.int .i64 ((nl : Int) + 1)] 3)).alloc (.cells #[.int .i64 ((nl : Int) + 1)] 3)).cell? ⟨q4 + 1, 2, none⟩ = some (.slice none 0 0) ∧ ∀ j, (((w5.setCell ⟨a, 2, none⟩ u).alloc (.cells #[.int .i64 ((nl : Int) + 1)] 3)).alloc (.cells #[.int .i64 ((nl : Int) + 1)] 3)).frozen? ⟨q4 + 1, j, none⟩ = false from fun w5 u hg => by
      have h4l := (Array.getElem?_eq_some_iff.1 HQ4.out).1
      have hsz := HXB5.out.size
      have hgs := hg.size
      have hn2 : (Value.slice A2 m c2).ownBlock ≠ some (q4 + 1) := fun e => HQ5.out.1 (.inr (.inr (.inl e)))
      have hna : q4 + 1 ≠ a := fun e => HQ5.out.1 (.inl e)
      have h1 : ((w5.setCell ⟨a, 2, none⟩ u).alloc (.cells #[.int .i64 ((nl : Int) + 1)] 3)).heap[q4 + 1]? = some (.cells #[.bool false, .slice none 0 0, .slice none 0 0] 95 (0, 0)) := by
        rw [heap_alloc_old _ _ (by simp; omega), heap_setCell_other _ _ _ _ hna, hg.block _ (by omega) (fun e => hn2 e.symm), HXB5.out.block _ h4l]
        exact HQ4.out
      exact slot3 ((heap_alloc_old _ _ (by simp; omega)).trans h1))
    have HB5 := hid (show ∀ b, b < W4.heap.size → X5.heap[b]? = W4.heap[b]? from fun b hb => HXB5.out.block b hb)
    have HX50 := hid (show Below 0 W4 X5 from HXB5.out.mono (Nat.zero_le _))
    go_wp2_with (first
      | (at_builtin; refine wpList_app _ rfl (.tmp 34) (.tmp 36) 23 rfl B 3 j0 _ 1 8 Try.underlying23 hj0 hy0 hy1 hy2 rfl (by decide) _ m (s.of.map (.int .i64)) rfl HOX5.out _ 1 1 [.int .i64 of] rfl (src_new W4 #[.int .i64 of] 3 1 rfl) (one_nums .i64 [of]) (by simp only [maxLen]; omega) (by omega) (by rw [← hX5]; exact HBS5.out) ?_; rw [← hX5]; clear hX5; intro v6 w5 hown5 hgrow5 hat5; obtain ⟨A6, c6, rfl, -⟩ := own_arr hown5; have HAO := hid (HF7.out.1.addOf (w1 := w5) (w2 := w5.setCell ⟨a, 2, none⟩ (.slice A6 (m + 1) c6)) (z := of) (N := m) HM.out (HX50.out.trans ⟨hgrow5.os, hgrow5.tape, hgrow5.output, hgrow5.size, fun b hb => by omega⟩) (fun b hb hn => (hgrow5.block b (Nat.lt_of_lt_of_le hb HXB5.out.size) fun e => hn e.symm).trans (HB5.out b hb)) hown5 (fun b hb => by rcases hat5 with e | e; exact .inl (e ▸ hb); rw [e] at hb; injection hb with hb; exact .inr (by have := HXB5.out.size; omega)) rfl); obtain ⟨-, o1, o2, -, -, -, -, of5⟩ := slot7 HAO.out.1; have of52 := of5 2; obtain ⟨y0, y1, y2, yf⟩ := HQL.out w5 (.slice A6 (m + 1) c6) hgrow5; have yf0 := yf 0; have yf1 := yf 1; have yf2 := yf 2; clear hown5 hgrow5 hat5 of5 yf)
      | fail)
    have HE := hid (leaf_end (v1 := .slice A1 nl c1) (v2 := .slice A2 m c2) (v5 := v5) (w := w) (q := q4 + 1) (k := (nl : Int) + 1) (x := .bool false) (y := .slice (some ⟨w5.heap.size, 0, none⟩) 1 1) (z := .slice (some ⟨w5.heap.size + 1, 0, none⟩) 1 1) HAO.out.2.1
      (((Keeps.of_below (T := Tch a (.slice A1 nl c1) (.slice A2 m c2) v5) HWB.out).trans HF7.out.2.1 fun b hb => .inl hb).trans HAO.out.2.2.1 fun b hb => by
        rcases HF7.out.2.2 b hb with e | e
        · exact .inl e
        · exact .inr (Nat.le_trans HWB.out.size e))
      (by have := HQ4W.out; omega) (fun e => by
        rcases HAO.out.2.2.2 _ e with e | e
        · rcases HF7.out.2.2 _ e with e | e
          · exact HQ5.out.1 e
          · have := HQ5.out.2; omega
        · have := HF7.out.2.1.1.size; have := HQ5.out.2; omega)
      (by have h1 := HAO.out.2.2.1.1.size; have h2 := HF7.out.2.1.1.size; have h3 := HQ5.out.2; omega) rfl)
    have HG := hid (show ∀ b, Tch a (.slice (some ⟨g5, 0, none⟩) (nl + 1) c5) (.slice A6 (m + 1) c6) v5 b → Tch a (.slice A1 nl c1) (.slice A2 m c2) v5 b ∨ w.heap.size ≤ b from fun b hb => by
      rcases HAO.out.2.2.2 _ hb with e | e
      · rcases HF7.out.2.2 _ e with e | e
        · exact .inl e
        · exact .inr (Nat.le_trans HWB.out.size e)
      · exact .inr (Nat.le_trans HWB.out.size (Nat.le_trans HF7.out.2.1.1.size e)))
    refine bodyPost_ret (v := .agg #[.bool false, .slice (some ⟨w5.heap.size, 0, none⟩) 1 1, .slice (some ⟨w5.heap.size + 1, 0, none⟩) 1 1]) (by simp [results, Try.results51, go_sem, y0, y1, y2, yf0, yf1, yf2]) rfl ?_
    have he := HE.out
    rw [World.size_setCell] at he
    exact ⟨_, _, _, _, _, rfl, he.1, he.2.1, HG.out, he.2.2.1, he.2.2.2⟩
end Go.Proofs.Ythdhbkngbmjjkaa
