/- The reference's grouping of tables: what ref.Groups returns. Condition: at most a hundred tables. -/
import Derived.Test.YtmdkmobcglnmgaaRgp
namespace Go.Proofs.Ytmdkmobcglnmgaa
open Go.RowKit

set_option maxRecDepth 100000 in
set_option maxHeartbeats 1000000 in
theorem refGroups_any (S : Nat → Prop) (v : Value) (ds : List D) (w : World) (h : IsDs w S v ds) :
    Calls Try.prog 17 #[v] w (Owned w 3 1 37 ((groupsL ds).map (.int .i64))) := by
  obtain ⟨i0, hi0, hz0, hz1, hz2⟩ := info_parts info3
  have H := hid h
  have hv : ∃ A c, v = .slice A ds.length c := by obtain ⟨A, c, vs, e, _⟩ := h; exact ⟨A, c, e⟩
  obtain ⟨A, c, rfl⟩ := hv
  clear h
  rw [← refGroupsL_eq]
  go_enter Try.func17, Try.ntmps17
  go_wp2_with fail
  go_loopw [3, 4, 5] (fun s3 s4 s5 wr => ∃ m : Nat, m ≤ 37 ∧ s5 = .int .i64 m ∧ s4 = .int .i64 (refSt (alikeB ds) m).2 ∧ wr.ownsRow w.heap.size 3 1 s3 m ((refSt (alikeB ds) m).1.map (.int .i64)) ∧ Below w.heap.size w wr) (fun _ _ s5 _ => 37 - (intOf s5).toNat)
  case atStart => exact ⟨0, by omega, rfl, rfl, World.ownsRow_nil _ _ _ _, Below.refl _ _⟩
  case round =>
    obtain ⟨m, hm, rfl, rfl, hown, hbw⟩ := hrel
    by_cases hlt : m < 37
    · have hmi : (m : Int) < 37 := by omega
      obtain ⟨b1, b2, b3, b4⟩ := refSt_bounds ds (m := m) (by omega)
      have HO := hid hown
      have HL := hid b1
      have hst1 := hid (show (refSt (alikeB ds) (m + 1)).1 = (refSt (alikeB ds) m).1 ++ [pickN (alikeB ds) (refSt (alikeB ds) m).1 (refSt (alikeB ds) m).2 m m] from rfl)
      have hst2 := hid (show (refSt (alikeB ds) (m + 1)).2 = if (refSt (alikeB ds) m).2 < pickN (alikeB ds) (refSt (alikeB ds) m).1 (refSt (alikeB ds) m).2 m m + 1 then pickN (alikeB ds) (refSt (alikeB ds) m).1 (refSt (alikeB ds) m).2 m m + 1 else (refSt (alikeB ds) m).2 from rfl)
      clear hown b1 b4
      generalize hout : (refSt (alikeB ds) m).1 = out at *
      generalize hmany : (refSt (alikeB ds) m).2 = many at *
      have Hout := hid hout
      have Hmany := hid hmany
      clear hout hmany
      go_wp2_with fail
      obtain ⟨wo, rfl⟩ : ∃ wo : World, wo = wr := ⟨_, rfl⟩
      go_loopw [6, 7] (fun s6 s7 wx => ∃ c : Nat, c ≤ m ∧ s7 = .int .i64 ((m : Int) - 1 - (c : Int)) ∧ s6 = .int .i64 (pickN (alikeB ds) out many m c) ∧ Below wo.heap.size wo wx) (fun _ s7 _ => (intOf s7 + 1).toNat)
      case atStart => exact ⟨0, by omega, by simp, rfl, Below.refl _ _⟩
      case round =>
        obtain ⟨c, hc, rfl, rfl, hbx⟩ := hrel
        by_cases hltc : c < m
        · obtain ⟨k, hkc⟩ : ∃ k : Nat, ((m : Int) - 1 - (c : Int)) = (k : Int) ∧ k = m - 1 - c ∧ k < m := ⟨m - 1 - c, by omega, rfl, by omega⟩
          obtain ⟨e1, e2, hkm⟩ := hkc
          rw [e1]
          have HE1 := hid e1
          have HE2 := hid e2
          have hki : (0 : Int) ≤ (k : Int) := by omega
          clear e1 e2
          have hbwx := hbw.trans (hbx.mono hbw.size)
          obtain ⟨b, o, c3, e0, _, hb3, hc3⟩ := (own_nums HO.out).at (j := k) (by rw [HL.out]; exact hkm)
          rw [HL.out] at e0
          obtain rfl := e0
          have hc3w : wr.cell? ⟨b, o + k, none⟩ = some (.int .i64 (nth out k)) := (hbx.cell (p := ⟨b, o + k, none⟩) hb3).trans hc3
          have hkm1 : (k : Int) < (m : Int) := by omega
          clear hc3
          cases hal : alikeB ds k m with
          | true =>
            have hpk := hid (show pickN (alikeB ds) out many m (c + 1) = nth out k by simp only [pickN]; rw [← HE2.out, if_pos hal])
            have hal' := hid hal
            clear hal
            go_wp2_with (go_at_call 48; refine (alike_any S _ ds k m _ (H.out.below hbwx) (by omega) (by omega)).mono ?_; rintro e w1 ⟨rfl, hb2⟩; rw [hal'.out]; have hc3w1 : w1.cell? ⟨b, o + k, none⟩ = some (.int .i64 (nth out k)) := (hb2.cell (p := ⟨b, o + k, none⟩) (block_lt_of_cell hc3w)).trans hc3w)
            go_roundw
            case rel => exact ⟨c + 1, by omega, by have := HE1.out; show Value.int _ _ = Value.int _ _; congr 1; omega, by rw [hpk.out], hbx.trans (hb2.mono hbx.size)⟩
            case measure => have := HE1.out; simp [intOf] <;> omega
          | false =>
            have hpk := hid (show pickN (alikeB ds) out many m (c + 1) = pickN (alikeB ds) out many m c by
              conv => lhs; unfold pickN
              rw [← HE2.out, if_neg (by rw [hal]; simp)])
            have hal' := hid hal
            clear hal
            go_wp2_with (go_at_call 48; refine (alike_any S _ ds k m _ (H.out.below hbwx) (by omega) (by omega)).mono ?_; rintro e w1 ⟨rfl, hb2⟩; rw [hal'.out])
            go_roundw
            case rel => exact ⟨c + 1, by omega, by have := HE1.out; show Value.int _ _ = Value.int _ _; congr 1; omega, by rw [hpk.out], hbx.trans (hb2.mono hbx.size)⟩
            case measure => have := HE1.out; simp [intOf] <;> omega
        · obtain rfl : c = m := by omega
          have hneg : ((c : Int) - 1 - (c : Int)) = -1 := by omega
          rw [hneg]
          clear hneg
          have hpb := pickN_bounds ds (m := c) hlt (Nat.le_refl _)
          rw [Hout.out, Hmany.out] at hpb
          obtain ⟨p1, p2⟩ := hpb
          generalize hg : pickN (alikeB ds) out many c c = g at *
          have HG := hid hg
          clear hg
          have hbz := hbx.size
          have hwz := hbw.size
          have hlo := hid (HO.out.kept (grown_of_below hbx none) (Classical.em _))
          go_wp2_with (at_builtin; refine wpList_app _ rfl (.tmp 27) (.tmp 29) 32 rfl w.heap.size 3 i0 _ 1 8 Try.underlying32 hi0 hz0 hz1 hz2 rfl (by decide) u3 _ _ rfl (hlo.out.alloc _) (some ⟨wr.heap.size, 0, none⟩) 1 1 _ rfl (src_new wr _ 3 1 rfl) (by simp [Value.oneCell']) (by simp only [maxLen]; omega) (by omega) (by simp; omega) ?_; intro v' w4 hown4 hgrow4 hat4)
          go_roundw
          case rel =>
            refine ⟨c + 1, by omega, by go_num, ?_, ?_, ?_⟩
            · rw [hst2.out]
            · rw [hst1.out, List.map_append]; exact hown4
            · exact below_own ((hbw.trans (hbx.mono hbw.size)).alloc (by omega) _) (hlo.out.alloc _) hgrow4 (by simp; omega)
          case measure => simp [intOf]; omega
    · obtain rfl : m = 37 := by omega
      go_wp2
      go_ret
      exact ⟨_, rfl, hown, hbw⟩
end Go.Proofs.Ytmdkmobcglnmgaa
