/- TrieNone, walked. Conditions: none. -/
import Derived.Test.YtehchnagjdmdgaaAw
namespace Go.Proofs.Ytehchnagjdmdgaa
open Go.RowKit
set_option linter.unusedSimpArgs false
/-- Nothing, so many times. -/
def empties (n : Nat) : List Ent := List.replicate n ([], 0)
theorem empties_in (w : World) (n : Nat) (hn : n ≤ 1000) : IsEnts (w.alloc (.cells (madeCells #[.slice none 0 0, .int .i64 0] (n * 2)) 58)) Any (.slice (some ⟨w.heap.size, 0, none⟩) n n) (empties n) := by
  have hl : (empties n).length = n := List.length_replicate
  have hb : (w.alloc (.cells (madeCells #[.slice none 0 0, .int .i64 0] (n * 2)) 58)).heap[w.heap.size]? = some (.cells (madeCells #[.slice none 0 0, .int .i64 0] (n * 2)) 58 (0, 0)) := heap_alloc_new _ _
  refine ⟨some ⟨w.heap.size, 0, none⟩, n, by rw [hl], by rw [hl]; exact Nat.le_refl _, by unfold maxLen; omega, fun k e hk => ?_⟩
  have hkn : k < n := by have := (List.getElem?_eq_some_iff.1 hk).1; omega
  have he : e = ([], 0) := by
    unfold empties at hk
    rw [List.getElem?_replicate, if_pos hkn] at hk
    injection hk with hk; exact hk.symm
  subst he
  refine ⟨w.heap.size, 0, .slice none 0 0, .int .i64 0, rfl, trivial, (Array.getElem?_eq_some_iff.1 hb).1, ?_, ?_, ⟨⟨none, 0, rfl, Nat.le_refl _, Nat.zero_le _, Row2.nil⟩, rfl, by decide, by decide⟩⟩
  · rw [cell_of_row _ _ _ _ _ _ hb, Nat.zero_add]
    simp only [madeCells, Array.getElem?_map]
    rw [Array.getElem?_range, if_pos (by omega)]
    simp
  · rw [cell_of_row _ _ _ _ _ _ hb, Nat.zero_add]
    simp only [madeCells, Array.getElem?_map]
    rw [Array.getElem?_range, if_pos (by omega)]
    simp
theorem empties_good (n : Nat) : mayE 3 (empties n) = true := by
  unfold mayE
  rw [show (empties n).all goodE = true from List.all_eq_true.2 fun e he => by
    obtain ⟨-, rfl⟩ := List.mem_replicate.1 he
    decide]
  decide
theorem empties_cls (r : Int) : ∀ n, cls 3 (empties n) r = 3
  | 0 => rfl
  | n + 1 => by
    have : empties (n + 1) = ([], 0) :: empties n := rfl
    rw [this]
    exact empties_cls r n
theorem empties_blks (n : Nat) : ∀ m, (blksTo 3 (empties n) (m + 1)) = [blkOf 3 (empties n) 0]
  | 0 => rfl
  | m + 1 => by
    have h : blksTo 3 (empties n) (m + 1 + 1) = addB (blksTo 3 (empties n) (m + 1)) (blkOf 3 (empties n) (m + 1)) := rfl
    rw [h, empties_blks n m, show blkOf 3 (empties n) (m + 1) = blkOf 3 (empties n) 0 from by
      rw [blk_is, blk_is]
      exact B256_ext fun k _ => by rw [empties_cls, empties_cls]]
    unfold addB
    rw [if_pos (by simp)]
theorem empties_len (n : Nat) : (blksTo 3 (empties n) 4352).length = 1 := by
  have h := empties_blks n 4351
  rw [show 4351 + 1 = 4352 from rfl] at h
  rw [h]; rfl
section
variable (w : World)
theorem get_nil (r : Int) : Calls Try.prog 13 #[.pointer none, .int .i32 r] w fun e w' => e = .returned (.int .i64 0) ∧ w' = w := by
  go_enter Try.func13, Try.ntmps13
  go_wp2_with fail
  go_ret
  exact ⟨rfl, rfl⟩
set_option maxRecDepth 100000 in
theorem set_nil (n : Int) : Calls Try.prog 15 #[.pointer none, .int .i64 n] w fun e w' => e = .returned (.slice none 0 0) ∧ w' = w := by
  go_enter Try.func15, Try.ntmps15
  go_wp2_with fail
  go_ret
  exact ⟨rfl, rfl⟩
theorem blocks_nil : Calls Try.prog 18 #[.pointer none] w fun e w' => e = .returned (.int .i64 0) ∧ w' = w := by
  go_enter Try.func18, Try.ntmps18
  go_wp2_with fail
  go_ret
  exact ⟨rfl, rfl⟩
set_option maxRecDepth 100000 in
theorem classes_nil : Calls Try.prog 20 #[.pointer none] w fun e w' => e = .returned (.slice none 0 0) ∧ w' = w := by
  go_enter Try.func20, Try.ntmps20
  go_wp2_with fail
  go_ret
  exact ⟨rfl, rfl⟩
set_option maxRecDepth 100000 in
theorem same_nil : Calls Try.prog 21 #[.pointer none, .pointer none] w fun e w' => e = .returned (.bool true) ∧ w' = w := by
  go_enter Try.func21, Try.ntmps21
  go_wp2_with fail
  go_ret
  exact ⟨rfl, rfl⟩
set_option maxRecDepth 100000 in
theorem same_left (t : Nat) : Calls Try.prog 21 #[.pointer (some ⟨t, 0, none⟩), .pointer none] w fun e w' => e = .returned (.bool false) ∧ w' = w := by
  go_enter Try.func21, Try.ntmps21
  go_wp2_with fail
  go_ret
  exact ⟨rfl, rfl⟩
set_option maxRecDepth 100000 in
theorem same_right (t : Nat) : Calls Try.prog 21 #[.pointer none, .pointer (some ⟨t, 0, none⟩)] w fun e w' => e = .returned (.bool false) ∧ w' = w := by
  have hq : ∀ W : World, (binOp BinOp.eql 26 (Value.pointer none) (Value.pointer (some ⟨t, 0, none⟩))).run Try.prog W = .ok (.bool false) W := fun W => by kernel_rfl
  go_enter Try.func21, Try.ntmps21
  go_wp2_with fail
  go_ret
  exact ⟨rfl, rfl⟩
set_option maxRecDepth 100000 in
theorem new_long (A : Option Addr) (n c : Nat) (other : Int) (h : 200 < n) : Calls Try.prog 10 #[.int .i64 other, .slice A n c] w fun e w' => e = .returned (.tuple #[.pointer none, .int .i64 3]) ∧ w' = w := by
  go_enter Try.func10, Try.ntmps10
  go_wp2_with fail
  go_ret2
  exact ⟨rfl, rfl⟩
end
theorem run_make_ents (n : Nat) (hn : n ≤ 1000) (w : World) : (Instr.makeSlice 30 (.int .i64 (n : Int)) (.int .i64 (n : Int))).run Try.prog w = .ok (.slice (some ⟨w.heap.size, 0, none⟩) n n) (w.alloc (.cells (madeCells #[.slice none 0 0, .int .i64 0] (n * 2)) 58)) := by
  obtain ⟨i, hi0, hz, hs, hb⟩ := info_parts info58
  have hr := run_make (P := Try.prog) w 30 58 i (.agg #[.slice none 0 0, .int .i64 0]) Try.underlying30 hi0 hz .i64 .i64 n n (by omega) (by omega) (by rw [hb]; omega) (by omega)
  simp only [Int.toNat_natCast, hs] at hr
  exact hr
set_option maxRecDepth 100000 in
set_option maxHeartbeats 2000000 in
theorem none_walk (x r : Int) (w : World) (hx : 0 ≤ x ∧ x ≤ 255) (hr : -2147483648 ≤ r ∧ r ≤ 2147483647) :
    Calls Try.prog 6 #[.int .u8 x, .int .i32 r] w fun e w' => e = .returned (.bool true) ∧ Below w.heap.size w w' := by
  obtain ⟨k, hk⟩ : ∃ k : Nat, 195 + x % 10 = (k : Int) := ⟨(195 + x % 10).toNat, by omega⟩
  have hk2 : 195 ≤ k ∧ k ≤ 204 := by omega
  go_enter Try.func6, Try.ntmps6
  go_wp2_with fail
  refine (awake_any w).mono ?_
  rintro e w1 ⟨rfl, hb⟩
  have HB1 := hid hb
  clear hb
  have hmk := run_make_ents k (by omega)
  have HMK := hid (empties_in w1 k (by omega))
  obtain ⟨X, hX⟩ : ∃ X, X = w1.alloc (.cells (madeCells #[.slice none 0 0, .int .i64 0] (k * 2)) 58) := ⟨_, rfl⟩
  rw [← hX] at HMK
  have HXE := hid hX
  have HBX := hid (ends_true HB1.out (show Below w1.heap.size w1 X by rw [hX]; exact (Below.refl _ _).alloc (Nat.le_refl _) _))
  have HKE := hid hk
  clear hX
  go_wp2_with fail
  rw [← HXE.out]
  by_cases h200 : 200 < k
  · refine (new_long X _ k k 3 h200).mono ?_
    rintro e w4 ⟨rfl, h4⟩
    rw [h4]
    clear h4 w4
    go_wp2_with fail
    refine (get_nil _ r).mono ?_
    rintro e w5 ⟨rfl, h5⟩
    rw [h5]
    clear h5 w5
    go_wp2_with fail
    refine (set_nil _ 0).mono ?_
    rintro e w5 ⟨rfl, h5⟩
    rw [h5]
    clear h5 w5
    go_wp2_with fail
    refine (blocks_nil _).mono ?_
    rintro e w5 ⟨rfl, h5⟩
    rw [h5]
    clear h5 w5
    go_wp2_with fail
    refine (classes_nil _).mono ?_
    rintro e w5 ⟨rfl, h5⟩
    rw [h5]
    clear h5 w5
    go_wp2_with fail
    refine (same_nil _).mono ?_
    rintro e w5 ⟨rfl, h5⟩
    rw [h5]
    clear h5 w5
    go_wp2_with fail
    go_ret
    exact ⟨rfl, HBX.out⟩
  · have hel : (empties k).length = k := List.length_replicate
    have hn := new_right (A := some ⟨w1.heap.size, 0, none⟩) (c := k) (S := Any) (es := empties k) (other := 3) (w := X) (by rw [hel]; exact HMK.out) (by rw [hel]; omega) (empties_good k)
    rw [hel] at hn
    refine hn.mono ?_
    rintro e w4 ⟨t, rfl, ht, hb⟩
    have HT4 := hid ht
    have HB4 := hid (ends_true HBX.out hb)
    have HMP := hid (show (∀ e ∈ empties k, goodE e = true) ∧ getB 3 (empties k) r = 3 from ⟨fun e he => by obtain ⟨-, rfl⟩ := List.mem_replicate.1 he; decide, by unfold getB; rw [empties_cls]; simp⟩)
    clear hn ht hb hel
    go_wp2_with fail
    refine (get_nil _ r).mono ?_
    rintro e w5 ⟨rfl, h5⟩
    rw [h5]
    clear h5 w5
    go_wp2_with fail
    refine (set_nil _ 0).mono ?_
    rintro e w5 ⟨rfl, h5⟩
    rw [h5]
    clear h5 w5
    go_wp2_with fail
    refine (blocks_nil _).mono ?_
    rintro e w5 ⟨rfl, h5⟩
    rw [h5]
    clear h5 w5
    go_wp2_with fail
    refine (classes_nil _).mono ?_
    rintro e w5 ⟨rfl, h5⟩
    rw [h5]
    clear h5 w5
    go_wp2_with fail
    refine (same_nil _).mono ?_
    rintro e w5 ⟨rfl, h5⟩
    rw [h5]
    clear h5 w5
    go_wp2_with fail
    refine (get_any (r := r) HT4.out HMP.out.1 (by decide) hr).mono ?_
    rintro e w5 ⟨rfl, hb⟩
    rw [HMP.out.2]
    have HT5 := hid (HT4.out.below hb)
    have HB5 := hid (ends_true HB4.out hb)
    clear hb
    go_wp2_with fail
    refine (blocks_any HT5.out).mono ?_
    rintro e w6 ⟨rfl, hb⟩
    rw [empties_len]
    have HB6 := hid (ends_true HB5.out hb)
    clear hb
    go_wp2_with fail
    refine (same_left _ t).mono ?_
    rintro e w7 ⟨rfl, h7⟩
    rw [h7]
    clear h7 w7
    go_wp2_with fail
    refine (same_right _ t).mono ?_
    rintro e w7 ⟨rfl, h7⟩
    rw [h7]
    clear h7 w7
    go_wp2_with fail
    go_ret
    exact ⟨rfl, HB6.out⟩
end Go.Proofs.Ytehchnagjdmdgaa
