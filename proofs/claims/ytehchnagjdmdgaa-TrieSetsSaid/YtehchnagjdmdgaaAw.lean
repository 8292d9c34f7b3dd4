/- The document's example of tries. Conditions: none. -/
import Derived.Test.YtehchnagjdmdgaaGe
namespace Go.Proofs.Ytehchnagjdmdgaa
open Go.RowKit
set_option linter.unusedSimpArgs false
def es0 : List Ent := [([(97, 99)], 5), ([(99, 99)], 7)]
theorem cls_far {r : Int} (h : 100 ≤ r) : cls 0 es0 r = 0 := by
  have h1 : inS [(97, 99)] r = false := by simp [inS]; omega
  have h2 : inS [(99, 99)] r = false := by simp [inS]; omega
  simp [es0, cls, h1, h2]
theorem blk_far {p : Nat} (h : 1 ≤ p) : blkOf 0 es0 p = blkOf 0 es0 1 := by
  rw [blk_is, blk_is]
  exact B256_ext fun k _ => by rw [cls_far (by omega), cls_far (by omega)]
theorem blk_ne : blkOf 0 es0 0 ≠ blkOf 0 es0 1 := fun e => by
  have h1 := blk_get 0 es0 0 (k := 97) (by decide)
  rw [e, blk_get 0 es0 1 (k := 97) (by decide), cls_far (by decide)] at h1
  have h2 : cls 0 es0 (((0 : Nat) : Int) * 256 + ((97 : Nat) : Int)) = 5 := by decide
  rw [h2] at h1
  injection h1 with h1
  exact absurd h1 (by decide)
theorem blks0 : ∀ p, blksTo 0 es0 (p + 2) = [blkOf 0 es0 0, blkOf 0 es0 1]
  | 0 => by
    have h1 : blksTo 0 es0 1 = [blkOf 0 es0 0] := rfl
    have h2 : blksTo 0 es0 2 = addB (blksTo 0 es0 1) (blkOf 0 es0 1) := rfl
    rw [h2, h1]
    unfold addB
    rw [if_neg (by simp; exact fun e => blk_ne e.symm)]
    rfl
  | p + 1 => by
    have h : blksTo 0 es0 (p + 1 + 2) = addB (blksTo 0 es0 (p + 2)) (blkOf 0 es0 (p + 2)) := rfl
    rw [h, blks0 p, blk_far (p := p + 2) (by omega)]
    unfold addB
    rw [if_pos (by simp)]
theorem blks0_len : (blksTo 0 es0 4352).length = 2 := by
  have h := blks0 4350
  rw [show 4350 + 2 = 4352 from rfl] at h
  rw [h]; rfl
set_option maxRecDepth 100000 in
theorem blocks_any {w : World} {t : Nat} {other : Int} {es : List Ent} (h : IsTrie w t other es) : Calls Try.prog 18 #[.pointer (some ⟨t, 0, none⟩)] w fun e w' => e = .returned (.int .i64 (((blksTo other es 4352).length : Nat) : Int)) ∧ Below w.heap.size w w' := by
  obtain ⟨-, VA, vc, n, cb, hn, -⟩ := h.read
  have HN := hid hn
  clear h hn
  go_enter Try.func18, Try.ntmps18
  go_wp2_with fail
  go_ret
  exact ⟨ret_int (by rw [HN.out]), Below.refl _ _⟩
theorem es0_in {w : World} {b0 b1 b2 : Nat} (h0 : w.heap[b0]? = some (.cells #[.int .i32 97, .int .i32 99] 56 (0, 0))) (h1 : w.heap[b1]? = some (.cells #[.int .i32 99, .int .i32 99] 56 (0, 0)))
    (h2 : w.heap[b2]? = some (.cells #[.slice (some ⟨b0, 0, none⟩) 1 1, .int .i64 5, .slice (some ⟨b1, 0, none⟩) 1 1, .int .i64 7] 58 (0, 0))) : IsEnts w Any (.slice (some ⟨b2, 0, none⟩) 2 2) es0 := by
  have hr : ∀ (b : Nat) (x : Rng), w.heap[b]? = some (.cells #[.int .i32 x.1, .int .i32 x.2] 56 (0, 0)) → r32 x → IsRngs w Any (.slice (some ⟨b, 0, none⟩) 1 1) [x] := fun b x hb hx =>
    ⟨_, 1, rfl, Nat.le_refl _, by decide, fun k y hy => by
      cases k with
      | succ k => simp at hy
      | zero =>
        have : x = y := by simpa using hy
        subst this
        exact ⟨b, 0, _, _, rfl, trivial, (Array.getElem?_eq_some_iff.1 hb).1, by rw [cell_of_row w b _ _ _ _ hb]; rfl, by rw [cell_of_row w b _ _ _ _ hb]; rfl, rfl, rfl, hx⟩⟩
  have r0 := hr b0 (97, 99) h0 (by unfold r32; decide)
  have r1 := hr b1 (99, 99) h1 (by unfold r32; decide)
  refine ⟨_, 2, rfl, Nat.le_refl _, by decide, fun k y hy => ?_⟩
  match k with
  | 0 =>
    have : ([((97 : Int), (99 : Int))], (5 : Int)) = y := by simpa [es0] using hy
    subst this
    exact ⟨b2, 0, _, _, rfl, trivial, (Array.getElem?_eq_some_iff.1 h2).1, by rw [cell_of_row w b2 _ _ _ _ h2]; rfl, by rw [cell_of_row w b2 _ _ _ _ h2]; rfl, r0, rfl, by decide, by decide⟩
  | 1 =>
    have : ([((99 : Int), (99 : Int))], (7 : Int)) = y := by simpa [es0] using hy
    subst this
    exact ⟨b2, 0, _, _, rfl, trivial, (Array.getElem?_eq_some_iff.1 h2).1, by rw [cell_of_row w b2 _ _ _ _ h2]; rfl, by rw [cell_of_row w b2 _ _ _ _ h2]; rfl, r1, rfl, by decide, by decide⟩
  | k + 2 => simp [es0] at hy
theorem es0_good : ∀ e ∈ es0, goodE e = true := by decide
set_option maxRecDepth 100000 in
set_option maxHeartbeats 2000000 in
theorem awake_any (w : World) : Calls Try.prog 9 #[] w fun e w' => e = .returned (.bool true) ∧ Below w.heap.size w w' := by
  obtain ⟨W1, hW1⟩ : ∃ W, W = w.alloc (.cells #[.int .i32 97, .int .i32 99] 56) := ⟨_, rfl⟩
  obtain ⟨W2, hW2⟩ : ∃ W, W = W1.alloc (.cells #[.int .i32 99, .int .i32 99] 56) := ⟨_, rfl⟩
  obtain ⟨W3, hW3⟩ : ∃ W, W = W2.alloc (.cells #[.slice (some ⟨w.heap.size, 0, none⟩) 1 1, .int .i64 5, .slice (some ⟨w.heap.size + 1, 0, none⟩) 1 1, .int .i64 7] 58) := ⟨_, rfl⟩
  have s1 : W1.heap.size = w.heap.size + 1 := by rw [hW1]; simp
  have s2 : W2.heap.size = w.heap.size + 1 + 1 := by rw [hW2]; simp [s1]
  have b1 : Below w.heap.size w W1 := by rw [hW1]; exact (Below.refl _ _).alloc (Nat.le_refl _) _
  have b2 : Below W1.heap.size W1 W2 := by rw [hW2]; exact (Below.refl _ _).alloc (Nat.le_refl _) _
  have b3 : Below W2.heap.size W2 W3 := by rw [hW3]; exact (Below.refl _ _).alloc (Nat.le_refl _) _
  have HB3 := hid (ends_true b1 (ends_true b2 b3))
  have HE := hid (show IsEnts W3 Any (.slice (some ⟨w.heap.size + 1 + 1, 0, none⟩) 2 2) es0 from es0_in (b0 := w.heap.size) (b1 := w.heap.size + 1)
    ((b3.block _ (by omega)).trans ((b2.block _ (by omega)).trans (by rw [hW1]; exact heap_alloc_new _ _)))
    ((b3.block _ (by omega)).trans (by rw [hW2, ← s1]; exact heap_alloc_new _ _))
    (by rw [hW3, ← s2]; exact heap_alloc_new _ _))
  have HW := hid (show W3 = ((w.alloc (.cells #[.int .i32 97, .int .i32 99] 56)).alloc (.cells #[.int .i32 99, .int .i32 99] 56)).alloc (.cells #[.slice (some ⟨w.heap.size, 0, none⟩) 1 1, .int .i64 5, .slice (some ⟨w.heap.size + 1, 0, none⟩) 1 1, .int .i64 7] 58) by rw [hW3, hW2, hW1])
  clear hW1 hW2 hW3 s1 s2 b1 b2 b3
  go_enter Try.func9, Try.ntmps9
  go_wp2_with fail
  rw [← HW.out]
  refine (new_right (es := es0) HE.out (by decide) (by decide)).mono ?_
  rintro e w4 ⟨t, rfl, ht, hb⟩
  have HT4 := hid ht
  have HB4 := hid (ends_true HB3.out hb)
  clear ht hb
  go_wp2_with fail
  refine (get_any (r := 98) HT4.out es0_good (by decide) (by decide)).mono ?_
  rintro e w5 ⟨rfl, hb⟩
  rw [show getB 0 es0 98 = 5 by decide]
  have HT5 := hid (HT4.out.below hb)
  have HB5 := hid (ends_true HB4.out hb)
  clear hb
  go_wp2_with fail
  refine (get_any (r := 99) HT5.out es0_good (by decide) (by decide)).mono ?_
  rintro e w6 ⟨rfl, hb⟩
  rw [show getB 0 es0 99 = 7 by decide]
  have HT6 := hid (HT5.out.below hb)
  have HB6 := hid (ends_true HB5.out hb)
  clear hb
  go_wp2_with fail
  refine (get_any (r := 100) HT6.out es0_good (by decide) (by decide)).mono ?_
  rintro e w7 ⟨rfl, hb⟩
  rw [show getB 0 es0 100 = 0 by decide]
  have HT7 := hid (HT6.out.below hb)
  have HB7 := hid (ends_true HB6.out hb)
  clear hb
  go_wp2_with fail
  refine (blocks_any HT7.out).mono ?_
  rintro e w8 ⟨rfl, hb⟩
  rw [blks0_len]
  have HB8 := hid (ends_true HB7.out hb)
  clear hb
  go_wp2_with fail
  go_ret
  exact ⟨rfl, HB8.out⟩
end Go.Proofs.Ytehchnagjdmdgaa
