/- An automaton in memory, to be looked at: the program's Begin, Count, takes. No conditions. -/
import Derived.Test.YthdhbkngbmjjkaaNw
namespace Go.Proofs.Ythdhbkngbmjjkaa
open Go.RowKit
set_option linter.unusedSimpArgs false
def IsNfa (w : World) (g : Nat) (search : Bool) (s : Bs) : Prop := ∃ B H b1 b2, NB w g B search (.map (some b1)) (.map (some b2)) s ∧ Known w H b1 b2 s (s.lfs.length + 1)
theorem IsNfa.below {w w' : World} {g : Nat} {search : Bool} {s : Bs} (h : IsNfa w g search s) (hb : Below w.heap.size w w') : IsNfa w' g search s := by
  obtain ⟨B, H, b1, b2, h1, h2⟩ := h
  exact ⟨B, H, b1, b2, h1.below hb, h2.below hb⟩
theorem IsNfa.slots {w : World} {g : Nat} {search : Bool} {s : Bs} (h : IsNfa w g search s) : ∃ A c B H b1 b2, (w.cell? ⟨g, 0, none⟩ = some (.bool search) ∧ w.cell? ⟨g, 1, none⟩ = some (.slice A s.lfs.length c) ∧ w.cell? ⟨g, 3, none⟩ = some (.map (some b1)) ∧ w.cell? ⟨g, 4, none⟩ = some (.map (some b2))) ∧
    LfAt w B (.slice A s.lfs.length c) s.lfs ∧ Known w H b1 b2 s (s.lfs.length + 1) ∧ g < w.heap.size := by
  obtain ⟨B, H, b1, b2, ⟨hB, lv, kv, hg, hl, hk⟩, h2⟩ := h
  obtain ⟨A, c, rfl, -⟩ := own_arr hl
  obtain ⟨c0, c1, -, c3, c4, -⟩ := slot5 hg
  exact ⟨A, c, B, H, b1, b2, ⟨c0, c1, c3, c4⟩, hl, h2, (Array.getElem?_eq_some_iff.1 hg).1⟩
theorem nums_new (w : World) (zs : List Int) (S : Nat → Prop) (hS : S w.heap.size) (hl : zs.length ≤ maxLen) : IsNums .i64 (w.alloc (.cells (zs.map (.int .i64)).toArray 3)) S (.slice (some ⟨w.heap.size, 0, none⟩) zs.length zs.length) zs := by
  refine ⟨_, _, rfl, Nat.le_refl _, hl, fun _ => ⟨_, _, rfl, hS, fun k v hk => ?_⟩⟩
  rw [Nat.zero_add, cell_of_row _ _ k _ _ _ (heap_alloc_new w (.cells (zs.map (.int .i64)).toArray 3)), ← Array.getElem?_toList]
  exact hk
set_option maxRecDepth 100000 in
theorem begin_any (g : Nat) (w : World) : Calls Try.prog 19 #[.pointer (some ⟨g, 0, none⟩)] w fun e w' => ∃ v, e = .returned v ∧ IsNums .i64 w' (fun b => w.heap.size ≤ b) v [0] ∧ Below w.heap.size w w' := by
  go_enter Try.func19, Try.ntmps19
  go_wp2_with fail
  go_ret
  refine ⟨_, rfl, nums_new w [0] (fun b => w.heap.size ≤ b) (Nat.le_refl _) (by decide), (Below.refl _ _).alloc (Nat.le_refl _) _⟩
set_option maxRecDepth 100000 in
theorem begin_nil (w : World) : Calls Try.prog 19 #[.pointer none] w fun e w' => e = .returned (.slice none 0 0) ∧ w' = w := by
  go_enter Try.func19, Try.ntmps19
  go_wp2_with fail
  go_ret
  exact ⟨rfl, rfl⟩
set_option maxRecDepth 100000 in
theorem count_any (g : Nat) (search : Bool) (s : Bs) (w : World) (h : IsNfa w g search s) (hn : s.lfs.length ≤ 1000000) : Calls Try.prog 20 #[.pointer (some ⟨g, 0, none⟩)] w fun e w' => e = .returned (.int .i64 ((s.lfs.length + 1 : Nat) : Int)) ∧ w' = w := by
  obtain ⟨A, c, B, H, b1, b2, ⟨c0, c1, c3, c4⟩, -⟩ := h.slots
  go_enter Try.func20, Try.ntmps20
  go_wp2_with fail
  go_ret
  exact ⟨ret_int (by omega), rfl⟩
set_option maxRecDepth 100000 in
theorem count_nil (w : World) : Calls Try.prog 20 #[.pointer none] w fun e w' => e = .returned (.int .i64 0) ∧ w' = w := by
  go_enter Try.func20, Try.ntmps20
  go_wp2_with fail
  go_ret
  exact ⟨rfl, rfl⟩
/-- Does a leaf take a mark? -/
def takesB (k c m : Int) : Bool := if k = 0 then decide (0 ≤ m ∧ m < 36) && decide (m = c) else if k = 1 then decide (0 ≤ m ∧ m < 36) else if k = 2 then decide (0 ≤ m ∧ m < 36) && decide (m ≠ c) else decide (m = 36)
set_option maxRecDepth 100000 in
theorem takes_any (k c t m : Int) (w : World) : Calls Try.prog 54 #[.agg #[.int .i64 k, .int .i64 c, .int .i64 t], .int .i64 m] w fun e w' => e = .returned (.bool (takesB k c m)) ∧ Below w.heap.size w w' := by
  obtain ⟨W, hW⟩ : ∃ W, W = w.alloc (.cells #[.int .i64 k, .int .i64 c, .int .i64 t] 91) := ⟨_, rfl⟩
  have HB := hid (show Below w.heap.size w W by rw [hW]; exact (Below.refl _ _).alloc (Nat.le_refl _) _)
  obtain ⟨f0, f1, f2, -⟩ := slot3 (show W.heap[w.heap.size]? = some (.cells #[.int .i64 k, .int .i64 c, .int .i64 t] 91 (0, 0)) by rw [hW]; exact heap_alloc_new _ _)
  rw [hW] at f0 f1 f2
  unfold takesB
  have hk : k = 0 ∨ k = 1 ∨ k = 2 ∨ (k ≠ 0 ∧ k ≠ 1 ∧ k ≠ 2) := by omega
  have hm : (0 ≤ m ∧ m < 36) ∨ (0 ≤ m ∧ ¬ m < 36) ∨ ¬ 0 ≤ m := by omega
  rcases hm with ⟨h0, h36⟩ | ⟨h0, h36⟩ | h0
  · rcases hk with rfl | rfl | rfl | ⟨k0, k1, k2⟩
    · go_enter Try.func54, Try.ntmps54
      go_wp2_with fail
      rw [← hW]
      go_ret
      exact ⟨ret_bool (by first | rfl | (by_cases e : m = c <;> simp [e] <;> omega) | (simp <;> omega)), HB.out⟩
    · go_enter Try.func54, Try.ntmps54
      go_wp2_with fail
      rw [← hW]
      go_ret
      exact ⟨ret_bool (by first | rfl | (by_cases e : m = c <;> simp [e] <;> omega) | (simp <;> omega)), HB.out⟩
    · go_enter Try.func54, Try.ntmps54
      go_wp2_with fail
      rw [← hW]
      go_ret
      exact ⟨ret_bool (by first | rfl | (by_cases e : m = c <;> simp [e] <;> omega) | (simp <;> omega)), HB.out⟩
    · go_enter Try.func54, Try.ntmps54
      go_wp2_with fail
      rw [← hW]
      go_ret
      exact ⟨ret_bool (by first | rfl | (by_cases e : m = c <;> simp [e] <;> omega) | (simp <;> omega)), HB.out⟩
  · rcases hk with rfl | rfl | rfl | ⟨k0, k1, k2⟩
    · go_enter Try.func54, Try.ntmps54
      go_wp2_with fail
      rw [← hW]
      go_ret
      exact ⟨ret_bool (by first | rfl | (by_cases e : m = c <;> simp [e] <;> omega) | (simp <;> omega)), HB.out⟩
    · go_enter Try.func54, Try.ntmps54
      go_wp2_with fail
      rw [← hW]
      go_ret
      exact ⟨ret_bool (by first | rfl | (by_cases e : m = c <;> simp [e] <;> omega) | (simp <;> omega)), HB.out⟩
    · go_enter Try.func54, Try.ntmps54
      go_wp2_with fail
      rw [← hW]
      go_ret
      exact ⟨ret_bool (by first | rfl | (by_cases e : m = c <;> simp [e] <;> omega) | (simp <;> omega)), HB.out⟩
    · go_enter Try.func54, Try.ntmps54
      go_wp2_with fail
      rw [← hW]
      go_ret
      exact ⟨ret_bool (by first | rfl | (by_cases e : m = c <;> simp [e] <;> omega) | (simp <;> omega)), HB.out⟩
  · rcases hk with rfl | rfl | rfl | ⟨k0, k1, k2⟩
    · go_enter Try.func54, Try.ntmps54
      go_wp2_with fail
      rw [← hW]
      go_ret
      exact ⟨ret_bool (by first | rfl | (by_cases e : m = c <;> simp [e] <;> omega) | (simp <;> omega)), HB.out⟩
    · go_enter Try.func54, Try.ntmps54
      go_wp2_with fail
      rw [← hW]
      go_ret
      exact ⟨ret_bool (by first | rfl | (by_cases e : m = c <;> simp [e] <;> omega) | (simp <;> omega)), HB.out⟩
    · go_enter Try.func54, Try.ntmps54
      go_wp2_with fail
      rw [← hW]
      go_ret
      exact ⟨ret_bool (by first | rfl | (by_cases e : m = c <;> simp [e] <;> omega) | (simp <;> omega)), HB.out⟩
    · go_enter Try.func54, Try.ntmps54
      go_wp2_with fail
      rw [← hW]
      go_ret
      exact ⟨ret_bool (by first | rfl | (by_cases e : m = c <;> simp [e] <;> omega) | (simp <;> omega)), HB.out⟩
/-- What a number tells. -/
def tellOf (s : Bs) (z : Int) : Nat := if 0 ≤ z ∧ z ≤ s.lfs.length then bitsOf s.kns (reachL s.kns (placeK s z.toNat)) else 0
/-- What may come behind a number. -/
def nextOf (s : Bs) (z : Int) : List Int := if 0 ≤ z ∧ z ≤ s.lfs.length then lvsOf s.kns (reachL s.kns (placeK s z.toNat)) else []
def tellsB (s : Bs) (l : List Int) : Nat := l.foldl (fun b z => b ||| tellOf s z) 0
theorem tl_get {s : Bs} {z : Int} {tl : List (Int × Nat)} (h : tl = (List.range (s.lfs.length + 1)).map (fun p : Nat => ((p : Int), bitsOf s.kns (reachL s.kns (placeK s p))))) :
    (mget tl z = none ∧ tellOf s z = 0) ∨ mget tl z = some (tellOf s z) := by
  unfold tellOf
  by_cases hz : 0 ≤ z ∧ z ≤ s.lfs.length
  · right
    rw [if_pos hz]
    refine mget_at ?_ (j := z.toNat) ?_
    · rw [h]
      unfold Once
      rw [List.pairwise_map]
      exact List.Pairwise.imp (fun {a b} hab => by simp only; omega) List.pairwise_lt_range
    · rw [h, List.getElem?_map, List.getElem?_range (by omega)]
      simp only [Option.map_some, Option.some.injEq, Prod.mk.injEq, and_true]
      omega
  · left
    rw [if_neg hz]
    refine ⟨mget_none fun p hp e => hz ?_, rfl⟩
    rw [h] at hp
    obtain ⟨q, hq, rfl⟩ := List.mem_map.1 hp
    have := List.mem_range.1 hq
    simp only at e
    omega
end Go.Proofs.Ythdhbkngbmjjkaa
