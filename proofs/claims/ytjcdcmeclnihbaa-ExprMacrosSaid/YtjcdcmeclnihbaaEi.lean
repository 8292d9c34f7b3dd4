/- Tables of bools in memory; by one of both: the document's either. Condition: at most a thousand places. -/
import Derived.Test.YtjcdcmeclnihbaaEx
import Derived.Test.YtjcdcmeclnihbaaRc
namespace Go.Proofs.Ytjcdcmeclnihbaa
open Go.RowKit
set_option linter.unusedSimpArgs false
/-- A table: n rows of n bools. -/
def IsTab (w : World) (n : Nat) (v : Value) (f : Nat → Nat → Bool) : Prop :=
  ∃ g, v = .slice (some ⟨g, 0, none⟩) n n ∧ g < w.heap.size ∧ ∀ i, i < n → ∃ r, r < w.heap.size ∧ w.cell? ⟨g, i, none⟩ = some (.slice (some ⟨r, 0, none⟩) n n) ∧ ∀ j, j < n → w.cell? ⟨r, j, none⟩ = some (.bool (f i j))
theorem IsTab.below {w w' : World} {n : Nat} {v : Value} {f : Nat → Nat → Bool} (h : IsTab w n v f) (hb : Below w.heap.size w w') : IsTab w' n v f := by
  obtain ⟨g, e, hg, hr⟩ := h
  refine ⟨g, e, Nat.lt_of_lt_of_le hg hb.size, fun i hi => ?_⟩
  obtain ⟨r, hlt, hc, hj⟩ := hr i hi
  exact ⟨r, Nat.lt_of_lt_of_le hlt hb.size, (cell_same (hb.block g hg)).trans hc, fun j hj' => (cell_same (hb.block r hlt)).trans (hj j hj')⟩
theorem IsTab.congr {w : World} {n : Nat} {v : Value} {f f' : Nat → Nat → Bool} (h : IsTab w n v f) (hf : ∀ i, i < n → ∀ j, j < n → f i j = f' i j) : IsTab w n v f' := by
  obtain ⟨g, e, hg, hr⟩ := h
  refine ⟨g, e, hg, fun i hi => ?_⟩
  obtain ⟨r, hlt, hc, hj⟩ := hr i hi
  exact ⟨r, hlt, hc, fun j hj' => by rw [← hf i hi j hj']; exact hj j hj'⟩
/-- A row's bools. -/
def rowB (n : Nat) (h : Nat → Bool) : List Bool := (List.range n).map h
theorem rowB_len (n : Nat) (h : Nat → Bool) : (rowB n h).length = n := by simp [rowB]
theorem rowB_nth {n : Nat} {h : Nat → Bool} {j : Nat} (hj : j < n) : nthB (rowB n h) j = h j := by simp [rowB, nthB, hj]
theorem rowB_set {n : Nat} {h : Nat → Bool} {j : Nat} {v : Bool} : (rowB n h).set j v = rowB n (fun k => if k = j then v else h k) := by
  refine nthB_ext (by simp [rowB]) fun k hk => ?_
  rw [List.length_set, rowB_len] at hk
  by_cases e : j = k
  · subst e
    rw [nthB_set (by rw [rowB_len]; exact hk), if_pos rfl, rowB_nth hk, if_pos rfl]
  · rw [rowB_nth hk, if_neg (fun e' => e e'.symm)]
    by_cases hjn : j < n
    · rw [nthB_set (by rw [rowB_len]; exact hjn), if_neg e, rowB_nth hk]
    · rw [List.set_eq_of_length_le (by rw [rowB_len]; omega), rowB_nth hk]
theorem rowB_congr {n : Nat} {h h' : Nat → Bool} (e : ∀ j, j < n → h j = h' j) : rowB n h = rowB n h' := by
  unfold rowB
  exact List.map_congr_left fun j hj => e j (List.mem_range.1 hj)
theorem noB_row (n : Nat) : noB n = rowB n (fun _ => false) := by
  refine nthB_ext (by simp [noB, rowB]) fun k hk => ?_
  have hk' : k < n := by simpa [noB] using hk
  rw [rowB_nth hk']
  simp [noB, nthB, hk']
/-- A table that is being made: so many rows stand. -/
def OutTab (w : World) (g n i : Nat) (f : Nat → Nat → Bool) : Prop :=
  ∃ us : List Value, w.heap[g]? = some (.cells us.toArray 28 (0, 0)) ∧ us.length = n ∧ ∀ k, k < i → ∃ r, us[k]? = some (.slice (some ⟨r, 0, none⟩) n n) ∧ r ≠ g ∧ BoolBlk w r (rowB n (f k))
theorem OutTab.tab {w : World} {g n : Nat} {f : Nat → Nat → Bool} (h : OutTab w g n n f) : IsTab w n (.slice (some ⟨g, 0, none⟩) n n) f := by
  obtain ⟨us, hg, hl, hr⟩ := h
  refine ⟨g, rfl, (Array.getElem?_eq_some_iff.1 hg).1, fun i hi => ?_⟩
  obtain ⟨r, hu, _, hb⟩ := hr i hi
  refine ⟨r, hb.lt, by rw [cell_of_row _ _ _ _ _ _ hg]; simpa using hu, fun j hj => ?_⟩
  have := hb.cell (j := j) (by rw [rowB_len]; exact hj)
  rw [this, rowB_nth hj]
theorem OutTab.keep {w w' : World} {g n i : Nat} {f : Nat → Nat → Bool} (h : OutTab w g n i f) (hk : ∀ b, b < w.heap.size → w'.heap[b]? = w.heap[b]?) : OutTab w' g n i f := by
  obtain ⟨us, hg, hl, hr⟩ := h
  refine ⟨us, (hk g (Array.getElem?_eq_some_iff.1 hg).1).trans hg, hl, fun k hki => ?_⟩
  obtain ⟨r, hu, hne, hb⟩ := hr k hki
  exact ⟨r, hu, hne, hb.keep (hk r hb.lt)⟩
theorem OutTab.lt {w : World} {g n i : Nat} {f : Nat → Nat → Bool} (h : OutTab w g n i f) : g < w.heap.size := by
  obtain ⟨us, hg, _⟩ := h
  exact (Array.getElem?_eq_some_iff.1 hg).1
theorem OutTab.congr {w : World} {g n i : Nat} {f f' : Nat → Nat → Bool} (h : OutTab w g n i f) (hf : ∀ k, k < i → ∀ j, j < n → f k j = f' k j) : OutTab w g n i f' := by
  obtain ⟨us, hg, hl, hr⟩ := h
  refine ⟨us, hg, hl, fun k hki => ?_⟩
  obtain ⟨r, hu, hne, hb⟩ := hr k hki
  exact ⟨r, hu, hne, by rw [← rowB_congr (hf k hki)]; exact hb⟩
/-- A row's cell. -/
theorem OutTab.cell {w : World} {g n i : Nat} {f : Nat → Nat → Bool} (h : OutTab w g n i f) {k : Nat} (hk : k < n) : ∃ u, w.cell? ⟨g, k, none⟩ = some u ∧ w.frozen? ⟨g, k, none⟩ = false := by
  obtain ⟨us, hg, hl, _⟩ := h
  exact ⟨us[k]'(by omega), by rw [cell_of_row _ _ _ _ _ _ hg]; simp [hl, hk], frozen_of_row _ _ _ _ _ hg⟩
/-- A table in which the row i is being filled, whose block is r. -/
def OutRow (w : World) (g n i r : Nat) (f : Nat → Nat → Bool) (h : Nat → Bool) : Prop :=
  ∃ us : List Value, w.heap[g]? = some (.cells us.toArray 28 (0, 0)) ∧ us.length = n ∧ us[i]? = some (.slice (some ⟨r, 0, none⟩) n n) ∧ r ≠ g ∧ BoolBlk w r (rowB n h) ∧ ∀ k, k < i → ∃ r', us[k]? = some (.slice (some ⟨r', 0, none⟩) n n) ∧ r' ≠ g ∧ r' ≠ r ∧ BoolBlk w r' (rowB n (f k))
theorem OutRow.done {w : World} {g n i r : Nat} {f : Nat → Nat → Bool} {h : Nat → Bool} (hr : OutRow w g n i r f h) (he : ∀ j, j < n → h j = f i j) : OutTab w g n (i + 1) f := by
  obtain ⟨us, hg, hl, hi, hne, hb, hk⟩ := hr
  refine ⟨us, hg, hl, fun k hki => ?_⟩
  by_cases e : k = i
  · subst e; exact ⟨r, hi, hne, by rw [← rowB_congr he]; exact hb⟩
  · obtain ⟨r', h1, h2, _, h4⟩ := hk k (by omega)
    exact ⟨r', h1, h2, h4⟩
theorem OutRow.keep {w w' : World} {g n i r : Nat} {f : Nat → Nat → Bool} {h : Nat → Bool} (hr : OutRow w g n i r f h) (hk : ∀ b, b < w.heap.size → w'.heap[b]? = w.heap[b]?) : OutRow w' g n i r f h := by
  obtain ⟨us, hg, hl, hi, hne, hb, hrs⟩ := hr
  refine ⟨us, (hk g (Array.getElem?_eq_some_iff.1 hg).1).trans hg, hl, hi, hne, hb.keep (hk r hb.lt), fun k hki => ?_⟩
  obtain ⟨r', h1, h2, h3, h4⟩ := hrs k hki
  exact ⟨r', h1, h2, h3, h4.keep (hk r' h4.lt)⟩
theorem OutRow.lt {w : World} {g n i r : Nat} {f : Nat → Nat → Bool} {h : Nat → Bool} (hr : OutRow w g n i r f h) : g < w.heap.size ∧ r < w.heap.size := by
  obtain ⟨us, hg, _, _, _, hb, _⟩ := hr
  exact ⟨(Array.getElem?_eq_some_iff.1 hg).1, hb.lt⟩
theorem OutRow.rowCell {w : World} {g n i r : Nat} {f : Nat → Nat → Bool} {h : Nat → Bool} (hr : OutRow w g n i r f h) : w.cell? ⟨g, i, none⟩ = some (.slice (some ⟨r, 0, none⟩) n n) := by
  obtain ⟨us, hg, _, hi, _⟩ := hr
  rw [cell_of_row _ _ _ _ _ _ hg]; simpa using hi
theorem OutRow.cell {w : World} {g n i r : Nat} {f : Nat → Nat → Bool} {h : Nat → Bool} (hr : OutRow w g n i r f h) {j : Nat} (hj : j < n) : w.cell? ⟨r, j, none⟩ = some (.bool (h j)) ∧ w.frozen? ⟨r, j, none⟩ = false := by
  obtain ⟨us, _, _, _, _, hb, _⟩ := hr
  exact ⟨by rw [hb.cell (by rw [rowB_len]; exact hj), rowB_nth hj], hb.frozen j⟩
theorem OutRow.set {w : World} {g n i r : Nat} {f : Nat → Nat → Bool} {h : Nat → Bool} (hr : OutRow w g n i r f h) (j : Nat) (v : Bool) : OutRow (w.setCell ⟨r, j, none⟩ (.bool v)) g n i r f (fun k => if k = j then v else h k) := by
  obtain ⟨us, hg, hl, hi, hne, hb, hrs⟩ := hr
  refine ⟨us, (heap_setCell_other _ _ _ _ (fun e => hne e.symm)).trans hg, hl, hi, hne, by rw [← rowB_set]; exact hb.set j v, fun k hki => ?_⟩
  obtain ⟨r', h1, h2, h3, h4⟩ := hrs k hki
  exact ⟨r', h1, h2, h3, h4.keep (heap_setCell_other _ _ _ _ h3)⟩
theorem OutRow.congr {w : World} {g n i r : Nat} {f : Nat → Nat → Bool} {h h' : Nat → Bool} (hr : OutRow w g n i r f h) (e : ∀ j, j < n → h j = h' j) : OutRow w g n i r f h' := by
  obtain ⟨us, hg, hl, hi, hne, hb, hrs⟩ := hr
  exact ⟨us, hg, hl, hi, hne, by rw [← rowB_congr e]; exact hb, hrs⟩
/-- The row's block is made, and stored. -/
theorem OutTab.row {w W : World} {g n i : Nat} {f : Nat → Nat → Bool} (h : OutTab w g n i f) (hi : i < n) (hW : W = (w.alloc (.cells (Array.replicate n (Value.bool false)) 4)).setCell ⟨g, i, none⟩ (.slice (some ⟨w.heap.size, 0, none⟩) n n)) :
    OutRow W g n i w.heap.size f (fun _ => false) := by
  obtain ⟨us, hg, hl, hr⟩ := h
  have hgl := (Array.getElem?_eq_some_iff.1 hg).1
  have h0 : BoolBlk (w.alloc (.cells (Array.replicate n (Value.bool false)) 4)) w.heap.size (noB n) := by unfold BoolBlk noB; rw [rep_bools]; exact heap_alloc_new _ _
  have h1 := (heap_alloc_old w (.cells (Array.replicate n (Value.bool false)) 4) hgl).trans hg
  refine ⟨us.set i (.slice (some ⟨w.heap.size, 0, none⟩) n n), ?_, by simpa using hl, by simp [hl, hi], by omega, ?_, fun k hk => ?_⟩
  · rw [hW, heap_setCell_same _ g i _ 28 _ h1]
    simp
  · rw [hW, ← noB_row]
    exact h0.keep (heap_setCell_other _ _ _ _ (by show w.heap.size ≠ g; omega))
  · obtain ⟨r, hu, hne, hb⟩ := hr k hk
    have hlt := hb.lt
    refine ⟨r, by rw [List.getElem?_set, if_neg (by omega)]; exact hu, hne, by omega, ?_⟩
    rw [hW]
    exact (hb.keep (heap_alloc_old w _ hlt)).keep (heap_setCell_other _ _ _ _ hne)
theorem OutTab.new (w : World) (n : Nat) (f : Nat → Nat → Bool) : OutTab (w.alloc (.cells (Array.replicate n (Value.slice none 0 0)) 28)) w.heap.size n 0 f :=
  ⟨List.replicate n (.slice none 0 0), by rw [List.toArray_replicate]; exact heap_alloc_new _ _, by simp, fun k hk => by omega⟩
theorem info28 : (Try.prog.info? 28).map (fun i => (i.zero, i.size, i.bytes)) = some (some (.slice none 0 0), 1, 24) := by kernel_rfl
theorem run_make_rows (kl kc : IntKind) (n : Nat) (hn : n ≤ 1000000) (w : World) : (Instr.makeSlice 78 (.int kl (n : Int)) (.int kc (n : Int))).run Try.prog w = .ok (.slice (some ⟨w.heap.size, 0, none⟩) n n) (w.alloc (.cells (Array.replicate n (Value.slice none 0 0)) 28)) := by
  obtain ⟨i, hi0, hz, hs, hb⟩ := info_parts info28
  have hr := run_make (P := Try.prog) w 78 28 i (.slice none 0 0) Try.underlying78 hi0 hz kl kc n n (by omega) (by omega) (by rw [hb]; omega) (by omega)
  simp only [Int.toNat_natCast, hs, Nat.mul_one] at hr
  rw [hr]
  have h2 : (madeCells (Value.slice none 0 0).cells n) = Array.replicate n (Value.slice none 0 0) := by
    apply Array.ext'
    show (madeCells #[Value.slice none 0 0] n).toList = _
    rw [toList_madeCells_one]; simp
  rw [h2]
end Go.Proofs.Ytjcdcmeclnihbaa
