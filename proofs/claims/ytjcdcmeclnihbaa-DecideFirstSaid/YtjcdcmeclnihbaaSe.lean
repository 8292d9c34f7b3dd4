/- The classes of places that aren't hidden: the program's seen. Condition: at most a thousand places. -/
import Derived.Test.YtjcdcmeclnihbaaCl
import Derived.Test.YtjcdcmeclnihbaaBo
namespace Go.Proofs.Ytjcdcmeclnihbaa
open Go.RowKit
def seenTo (l : List Int) (hide : List Bool) (k : Nat) : List Int := ((List.range k).filter (fun i => !nthB hide i)).map (nth l)
theorem seenTo_len (l : List Int) (hide : List Bool) (k : Nat) : (seenTo l hide k).length ≤ k := by
  unfold seenTo
  rw [List.length_map]
  exact Nat.le_trans (List.length_filter_le _ _) (by simp)
theorem seenTo_skip {l : List Int} {hide : List Bool} {k : Nat} (h : nthB hide k = true) : seenTo l hide (k + 1) = seenTo l hide k := by
  simp [seenTo, List.range_succ, h]
theorem seenTo_put {l : List Int} {hide : List Bool} {k : Nat} (h : nthB hide k = false) : seenTo l hide (k + 1) = seenTo l hide k ++ [nth l k] := by
  simp [seenTo, List.range_succ, h]
theorem seen_below {w X w' : World} {v : Value} {n : Nat} {xs : List Value} (hb : Below w.heap.size w X) (ho : X.ownsRow w.heap.size 3 1 v n xs) (hg : X.grownBy w' v.ownBlock) : Below w.heap.size w w' := below_own hb ho hg hb.size
set_option maxRecDepth 100000 in
set_option maxHeartbeats 2000000 in
theorem seen_any (S S' : Nat → Prop) (lv hv : Value) (l : List Int) (hide : List Bool) (w : World) (h : IsNums .i64 w S lv l) (hh : IsBools w S' hv hide) (hle : l.length ≤ hide.length) (hn : l.length ≤ 1000) :
    Calls Try.prog 62 #[lv, hv] w fun e w' => ∃ v', e = .returned v' ∧ w'.ownsRow w.heap.size 3 1 v' (seenTo l hide l.length).length ((seenTo l hide l.length).map (.int .i64)) ∧ Below w.heap.size w w' := by
  obtain ⟨i0, hi0, hz0, hz1, hz2⟩ := info_parts info3
  obtain ⟨A, c, rfl, -, -, hA⟩ := h
  obtain ⟨B, cb, rfl, hbl, hB⟩ := hh.open
  have HA := hid hA
  have HB := hid hB
  have HLE := hid hle
  clear hA hB hh hle
  go_enter Try.func62, Try.ntmps62
  go_wp2_with fail
  go_loopw [5, 6, 7, 10] (fun s5 _ _ s10 wr => ∃ k : Nat, k ≤ l.length ∧ s10 = .int .i64 k ∧ Hid (wr.ownsRow w.heap.size 3 1 s5 (seenTo l hide k).length ((seenTo l hide k).map (.int .i64))) ∧ Hid (Below w.heap.size w wr)) (fun _ _ _ s10 _ => l.length - (intOf s10).toNat)
  case atStart => exact ⟨0, by omega, rfl, hid (World.ownsRow_nil _ _ _ _), hid (Below.refl _ _)⟩
  case round =>
    obtain ⟨k, hk, rfl, HO, HW⟩ := hrel
    by_cases hlt : k < l.length
    · obtain ⟨b, o, rfl, -, hbs, hc⟩ := (HA.out.below HW.out).num hlt
      have hlt2 : k < hide.length := by have := HLE.out; omega
      obtain ⟨b2, o2, rfl, -, hbs2, hc2⟩ := (HB.out.below HW.out).bool hlt2
      obtain ⟨z, hz⟩ : ∃ z, z = nth l k := ⟨_, rfl⟩
      rw [← hz] at hc
      cases hb : nthB hide k with
      | true =>
        rw [hb] at hc2
        have HN := hid (seenTo_skip (l := l) hb)
        clear hb hz
        go_wp2_with fail
        go_roundw
        case rel => exact ⟨k + 1, by omega, by go_num, hid (by rw [HN.out]; exact HO.out), HW⟩
        case measure => simp [intOf]; omega
      | false =>
        rw [hb] at hc2
        have HN := hid (show seenTo l hide (k + 1) = seenTo l hide k ++ [z] by rw [seenTo_put hb, hz])
        have HSL := hid (seenTo_len l hide k)
        have HX := hid (show Below w.heap.size w (wr.alloc (.cells #[.int .i64 z] 3)) from HW.out.alloc HW.out.size _)
        have HOX := hid (HO.out.alloc (.cells #[.int .i64 z] 3))
        clear hb hz
        go_wp2_with (at_builtin; (refine wpList_app _ rfl (.tmp 20) (.tmp 22) 22 rfl w.heap.size 3 i0 _ 1 8 Try.underlying22 hi0 hz0 hz1 hz2 rfl (by decide) _ (seenTo l hide k).length ((seenTo l hide k).map (.int .i64)) rfl ?own (some ⟨wr.heap.size, 0, none⟩) 1 1 [.int .i64 z] rfl ?src (one_nums _ [z]) (by simp only [maxLen]; have := HSL.out; omega) (by have := HSL.out; omega) (by have := HX.out.size; exact this) ?_); rotate_left 2; intro v' w' hown hgrow hat)
        case own => exact HOX.out
        case src => exact src_new wr #[.int .i64 z] 3 1 rfl
        have HO2 := hid (show w'.ownsRow w.heap.size 3 1 v' (seenTo l hide (k + 1)).length ((seenTo l hide (k + 1)).map (.int .i64)) by rw [HN.out]; simpa using hown)
        have HW2 := hid (seen_below HX.out HOX.out hgrow)
        clear hown hgrow hat
        go_roundw
        case rel => exact ⟨k + 1, by omega, by go_num, HO2, HW2⟩
        case measure => simp [intOf]; omega
    · obtain rfl : k = l.length := by omega
      go_wp2_with fail
      go_ret
      exact ⟨_, rfl, HO.out, HW.out⟩
end Go.Proofs.Ytjcdcmeclnihbaa
