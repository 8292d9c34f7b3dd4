/- Which states lead to which, by mark: the words. No conditions. -/
import Derived.Test.YtmdkmobcglnmgaaFw
namespace Go.Proofs.Ytmdkmobcglnmgaa
open Go.RowKit

def col (rs : List (List Int)) (m : Nat) : List Int := rs.map fun r => nth r m
theorem col_len (rs : List (List Int)) (m : Nat) : (col rs m).length = rs.length := by simp [col]
theorem nth_col {rs : List (List Int)} {m i : Nat} (h : i < rs.length) : nth (col rs m) i = nth (row rs i) m := by
  unfold nth col row
  rw [List.getElem?_map, List.getElem?_eq_getElem h]
  rfl
/-- A block of rows: of each number where it stands. -/
def RowBlk (w : World) (F g : Nat) (vs : List Value) (l : List Int) : Prop := w.heap[g]? = some (.cells vs.toArray 32 (0, 0)) ∧ (∀ (i : Nat) (v : Value), vs[i]? = some v → OwnI w F v (pos l (i : Int))) ∧ vs.Pairwise Aprt
theorem RowBlk.lt {w : World} {F g : Nat} {vs : List Value} {l : List Int} (h : RowBlk w F g vs l) : g < w.heap.size := (Array.getElem?_eq_some_iff.1 h.1).1
theorem RowBlk.kept {w w' : World} {F g : Nat} {vs : List Value} {l : List Int} {r : Option Nat} (h : RowBlk w F g vs l) (hg : w.grownBy w' r) (h1 : some g ≠ r) (h2 : ∀ v ∈ vs, v.ownBlock = none ∨ v.ownBlock ≠ r) : RowBlk w' F g vs l :=
  ⟨(hg.block g h.lt h1).trans h.1, fun i v hi => (h.2.1 i v hi).kept hg (h2 v (List.mem_of_getElem? hi)), h.2.2⟩
theorem RowBlk.below {w w' : World} {F g : Nat} {vs : List Value} {l : List Int} (h : RowBlk w F g vs l) (hb : Below w.heap.size w w') : RowBlk w' F g vs l :=
  h.kept (grown_of_below hb none) (by simp) fun _ _ => Classical.em _
theorem RowBlk.start (w : World) (F n : Nat) : RowBlk (w.alloc (.cells (List.replicate n (Value.slice none 0 0)).toArray 32)) F w.heap.size (List.replicate n (.slice none 0 0)) [] := by
  refine ⟨heap_alloc_new _ _, fun i v hi => ?_, ?_⟩
  · have hv : v = .slice none 0 0 := by
      have := List.mem_of_getElem? hi
      exact (List.mem_replicate.1 this).2
    subst hv
    exact World.ownsRow_nil _ _ _ _
  · rw [List.pairwise_iff_getElem]
    intro i j hi hj _
    simp only [List.getElem_replicate]
    exact aprt_nil _
theorem RowBlk.row_ne {w : World} {F g : Nat} {vs : List Value} {l : List Int} (h : RowBlk w F g vs l) {i : Nat} {v : Value} (hi : vs[i]? = some v) : v.ownBlock ≠ some g := own_blk_ne (h.2.1 i v hi) h.1 (by decide)
/-- A number more: its row grows, and is laid into its cell. -/
theorem RowBlk.step {w w1 : World} {F g c : Nat} {vs : List Value} {l : List Int} {v v' : Value} {z : Int} (h : RowBlk w F g vs l) (hc : vs[c]? = some v) (hz : z = (c : Int)) (hg : w.grownBy w1 v.ownBlock) (hown : OwnI w1 F v' (pos l z ++ [(l.length : Int)]))
    (hat : v'.ownBlock = v.ownBlock ∨ ∃ b, v'.ownBlock = some b ∧ w.heap.size ≤ b) : RowBlk (w1.setCell ⟨g, c, none⟩ v') F g (vs.set c v') (l ++ [z]) := by
  have hlt : c < vs.length := (List.getElem?_eq_some_iff.1 hc).1
  have hb1 : w1.heap[g]? = some (.cells vs.toArray 32 (0, 0)) := (hg.block g h.lt (Ne.symm (h.row_ne hc))).trans h.1
  have hg2 : w1.grownBy (w1.setCell ⟨g, c, none⟩ v') (some g) := grown_setCell (World.grownBy.refl w1 _) c _
  have hap : ∀ (i : Nat) (u : Value), i ≠ c → vs[i]? = some u → Aprt u v := fun i u hne hi => by
    obtain ⟨hi1, hi2⟩ := List.getElem?_eq_some_iff.1 hi
    obtain ⟨hc1, hc2⟩ := List.getElem?_eq_some_iff.1 hc
    have hpw := List.pairwise_iff_getElem.1 h.2.2
    rcases Nat.lt_or_gt_of_ne hne with hl | hl
    · have := hpw i c hi1 hc1 hl; rw [hi2, hc2] at this; exact this
    · have := hpw c i hc1 hi1 hl; rw [hi2, hc2] at this; exact this.symm
  have hap' : ∀ (i : Nat) (u : Value), i ≠ c → vs[i]? = some u → Aprt u v' := fun i u hne hi b h1 h2 => by
    rcases hat with e | ⟨b', e, hb'⟩
    · exact hap i u hne hi b h1 (by rw [← e]; exact h2)
    · rw [e] at h2
      injection h2 with h2
      have := ((h.2.1 i u hi).lt b h1).2
      omega
  have hv'g : v'.ownBlock ≠ some g := own_blk_ne hown hb1 (by decide)
  refine ⟨?_, fun i u hi => ?_, ?_⟩
  · rw [heap_setCell_same w1 g c _ 32 _ hb1]; simp
  · rw [pos_snoc]
    by_cases e : i = c
    · subst e
      rw [List.getElem?_set_self hlt] at hi
      cases hi
      rw [if_pos hz, ← hz]
      exact hown.kept hg2 (.inr hv'g)
    · rw [List.getElem?_set_ne (Ne.symm e)] at hi
      rw [if_neg (by omega), List.append_nil]
      exact ((h.2.1 i u hi).kept hg (hap i u e hi).ne).kept hg2 (.inr (own_blk_ne ((h.2.1 i u hi).kept hg (hap i u e hi).ne) hb1 (by decide)))
  · rw [List.pairwise_iff_getElem]
    intro i j hi hj hij
    rw [List.length_set] at hi hj
    rw [List.getElem_set, List.getElem_set]
    split
    · rename_i e
      subst e
      rw [if_neg (by omega)]
      exact (hap' j vs[j] (by omega) (List.getElem?_eq_getElem hj)).symm
    · split
      · rename_i e1 e2
        subst e2
        exact hap' i vs[i] (by omega) (List.getElem?_eq_getElem hi)
      · exact List.pairwise_iff_getElem.1 h.2.2 i j hi hj hij
/-- One mark's rows, done. -/
def ByDone (w : World) (F : Nat) (u : Value) (n : Nat) (l : List Int) : Prop := ∃ g vs, u = .slice (some ⟨g, 0, none⟩) n n ∧ F ≤ g ∧ vs.length = n ∧ RowBlk w F g vs l
theorem ByDone.below {w w' : World} {F n : Nat} {u : Value} {l : List Int} (h : ByDone w F u n l) (hb : Below w.heap.size w w') : ByDone w' F u n l := by
  obtain ⟨g, vs, h1, h2, h3, h4⟩ := h
  exact ⟨g, vs, h1, h2, h3, h4.below hb⟩
theorem ByDone.cells {w w' : World} {F n r t : Nat} {u : Value} {l : List Int} {cs : Array Value} (h : ByDone w F u n l) (hg : w.grownBy w' (some r)) (hr : w.heap[r]? = some (.cells cs t (0, 0))) (h3 : t ≠ 3) (h32 : t ≠ 32) : ByDone w' F u n l := by
  obtain ⟨g, vs, h1, h2, h4, h5⟩ := h
  refine ⟨g, vs, h1, h2, h4, h5.kept hg (fun e => ?_) fun v hv => ?_⟩
  · injection e with e
    subst e
    rw [h5.1] at hr
    injection hr with hr
    injection hr with _ hr
    exact h32 hr.symm
  · obtain ⟨i, hi⟩ := List.getElem?_of_mem hv
    exact .inr (own_blk_ne (h5.2.1 i v hi) hr (Ne.symm h3))
theorem ByDone.own {w w' : World} {F n B e k : Nat} {u v : Value} {l : List Int} {xs : List Value} (h : ByDone w F u n l) (hg : w.grownBy w' v.ownBlock) (ho : w.ownsRow B e 1 v k xs) (h3 : e ≠ 3) (h32 : e ≠ 32) : ByDone w' F u n l := by
  cases hb : v.ownBlock with
  | none =>
    rw [hb] at hg
    obtain ⟨g, vs, h1, h2, h4, h5⟩ := h
    exact ⟨g, vs, h1, h2, h4, h5.kept hg (by simp) fun _ _ => Classical.em _⟩
  | some r =>
    rw [hb] at hg
    rcases ho.2 with ⟨h0, _⟩ | ⟨g', cap, cur, hv, _, hr, _⟩
    · subst h0; cases hb
    · subst hv
      have : r = g' := by injection hb with hb; exact hb.symm
      subst this
      exact h.cells hg hr h3 h32
theorem ownsRow_mono {w : World} {B B' e size n : Nat} {v : Value} {xs : List Value} (h : w.ownsRow B e size v n xs) (hB : B' ≤ B) : w.ownsRow B' e size v n xs := by
  obtain ⟨h1, h2⟩ := h
  refine ⟨h1, ?_⟩
  rcases h2 with h2 | ⟨g, cap, cur, a, b, c⟩
  · exact .inl h2
  · exact .inr ⟨g, cap, cur, a, Nat.le_trans hB b, c⟩
theorem RowBlk.mono {w : World} {F F' g : Nat} {vs : List Value} {l : List Int} (h : RowBlk w F g vs l) (hF : F' ≤ F) : RowBlk w F' g vs l := ⟨h.1, fun i v hi => ownsRow_mono (h.2.1 i v hi) hF, h.2.2⟩
theorem run_make_one {P : Program} (t e : TypeId) (z : Value) (bytes : Nat) (hz1 : z.cells = #[z]) (ht : P.underlying t = some (.slice e)) (hi : (P.info? e).map (fun i => (i.zero, i.size, i.bytes)) = some (some z, 1, bytes)) (n : Nat) (hn : n ≤ 1000000) (hb' : bytes ≤ 1000) (w : World) :
    (Instr.makeSlice t (.int .i64 (n : Int)) (.int .i64 (n : Int))).run P w = .ok (.slice (some ⟨w.heap.size, 0, none⟩) n n) (w.alloc (.cells (List.replicate n z).toArray e)) := by
  obtain ⟨i, hi0, hz, hs, hb⟩ := info_parts hi
  have hr := run_make (P := P) w t e i z ht hi0 hz .i64 .i64 n n (by omega) (by omega) (by rw [hb]; have := Nat.mul_le_mul hb' hn; omega) (by omega)
  simp only [Int.toNat_natCast, hs, Nat.mul_one] at hr
  rw [hr]
  congr 2
  have h2 : (madeCells z.cells n) = (List.replicate n z).toArray := by
    apply Array.ext'
    rw [hz1]
    show (madeCells #[z] n).toList = _
    rw [toList_madeCells_one]
  rw [h2]
theorem info32 : (Try.prog.info? 32).map (fun i => (i.zero, i.size, i.bytes)) = some (some (.slice none 0 0), 1, 24) := by kernel_rfl
end Go.Proofs.Ytmdkmobcglnmgaa
