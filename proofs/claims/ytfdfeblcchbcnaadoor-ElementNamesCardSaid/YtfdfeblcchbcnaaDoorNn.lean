/- All names, each with what it is, once more: the made map holds no key that is nothing. Condition: the table of blanks as it is laid. -/
import Derived.Test.YtfdfeblcchbcnaaDoorNm
namespace Go.Proofs.YtfdfeblcchbcnaaDoor
open Go.RowKit

/-- No element is 0. -/
def Pos (m : List (ByteArray × Int)) : Prop := ∀ p ∈ m, p.2 ≠ 0
theorem pos_nil : Pos [] := fun p hp => by cases hp
theorem pos_mset {m : List (ByteArray × Int)} {k : ByteArray} {v : Int} (h : Pos m) (hv : v ≠ 0) : Pos (mset m k v) := fun p hp => by
  rcases mem_mset hp with rfl | hp
  · exact hv
  · exact h p hp
def NamesAns2 (w : World) (e : Ending) (w' : World) : Prop := ∃ b m, e = .returned (.map (some b)) ∧ w.heap.size ≤ b ∧ NMap w' b m ∧ Holds (fun x s => (nmsOf x).contains s) m ∧ Pos m ∧ Below w.heap.size w w'
set_option maxRecDepth 100000 in
set_option maxHeartbeats 2000000 in
theorem names_pos (w : World) (ht : Tab w) : Calls Tryd.prog 23 #[] w (NamesAns2 w) := by
  have hmm := @run_makeMap Tryd.prog
  have HT := hid ht
  clear ht
  go_enter Tryd.func23, Tryd.ntmps23
  go_wp2_with fail
  clear hmm
  refine (lists_any _).mono ?_
  rintro e w1 ⟨lb, rfl, hlb, hown, hb1⟩
  have hm0 : NMap (w.alloc (.map #[] 0)) w.heap.size [] := mapIs_new _ _ _ _
  have hB1 : Below w.heap.size w w1 := ((Below.refl _ _).alloc (Nat.le_refl _) _).trans (hb1.mono (by simp))
  have hm1 := hm0.below hb1
  have hlb' : w.heap.size < lb := by simp at hlb; omega
  have hz1 : w.heap.size < w1.heap.size := hm1.lt
  have HO := hid hown
  have HM1 := hid hm1
  clear hown hm0 hm1 hlb hb1
  go_wp2_with (first | (at_range; refine wpList_range_own _ rfl (.tmp 7) 62 rfl 3 9 (Maps.int_keyed Tryd.underlying3) Tryd.underlying62 (plainElem Tryd.prog 9) lb 7 listsD rfl HO.out ?_; intro w2 hrg2 hg2 hs2) | go_in)
  go_frame
  have hm2 := HM1.out.grown hg2 (by simp)
  have hB2 : Below w.heap.size w w2 := hB1.grown hg2 hB1.size (fun k hk => by cases hk)
  have hinit : Holds (fun x s => !Maps.has listsD (.int .i64 x) && (nmsOf x).contains s) [] := fun s => by
    have : (seven fun x => !Maps.has listsD (.int .i64 x) && (nmsOf x).contains s.data.toList) = seven fun _ => false := seven_congr fun b hb => by
      rcases isBit_cases hb with rfl | rfl | rfl | rfl | rfl | rfl | rfl <;> rfl
    rw [this]; rfl
  have hr1 : w.heap.size < w1.heap.size := hz1
  go_loopw [9] (fun s9 wr => ∃ (left : Lit → Bool) (cnt : Nat) (m : List (ByteArray × Int)), Hid (wr.ranges Tryd.prog 3 (plainElem Tryd.prog 9) lb w1.heap.size 7 listsD left cnt) ∧ Hid (NMap wr w.heap.size m) ∧ Hid (Holds (fun x s => !left (.int .i64 x) && (nmsOf x).contains s) m) ∧ Hid (Pos m) ∧ Below w.heap.size w wr) (fun _ wr => wr.rangeLeft lb w1.heap.size)
  case atStart => exact ⟨_, _, [], hrg2, hm2, hinit, hid pos_nil, hB2⟩
  case round =>
    clear hrg2 hm2 hinit hB2 hg2 hs2
    obtain ⟨left, cnt, m, HR, HM, HH, HP, hbw⟩ := hrel
    go_wp2_with (at_next; refine wpList_next_ranges_is _ rfl (.tmp 8) rfl 3 9 .i64 (Maps.int_keyed Tryd.underlying3) Tryd.underlying3 Tryd.underlying9 lb w1.heap.size 7 listsD left cnt rfl HR.out ?_ ?_)
    · intro hc0 hl0
      have HL := hid hl0
      clear hl0 hc0
      go_wp2_with fail
      go_ret
      refine ⟨_, m, rfl, Nat.le_refl _, HM.out, fun s => ?_, HP.out, hbw⟩
      rw [HH.out s]
      congr 2
      funext x
      simp [HL.out]
    · intro x c w3 cnt3 hwx hwc hlx hat hrg3 hlt3 hg3 hs3 hen
      obtain ⟨b, hb, rfl, hc⟩ := lists_at hat
      have HB := hid hb
      have HC := hid hc
      have HRG := hid hrg3
      have HL := hid hlx
      have HLT := hid hlt3
      have hbit := bit_le hb
      have hlen := (lenOf b).2
      have hB3 : Below w.heap.size w w3 := hbw.grown hg3 hbw.size (fun k hk => by cases hk; omega)
      have HM3 := hid (HM.out.grown hg3 (by simp; omega))
      have HRO := hid HR.out.left_eq
      have HS3 := hid hs3
      have hrl : w1.heap.size < wr.heap.size := HR.out.lt
      have hrl3 : w1.heap.size < w3.heap.size := HRG.out.lt
      have hrl4 : lb < w3.heap.size := HRG.out.owns.lt
      have hml : w.heap.size < w3.heap.size := HM3.out.lt
      clear hat hb hc hrg3 hlx hlt3 hg3 hwx hs3 HM HR
      go_wp2_with fail
      refine (fields_any c b HB.out HC.out w3 (tab_below HT.out hB3)).mono ?_
      rintro e w4 ⟨rfl, hw4⟩
      have hblk : w4.heap[w3.heap.size]? = some (.cells ((nmsOf b).map fun l => Value.string (strOf l)).toArray 9 (0, 0)) := by rw [← hw4]; exact heap_alloc_new _ _
      have hB34 : Below w3.heap.size w3 w4 := by rw [← hw4]; exact (Below.refl _ _).alloc (Nat.le_refl _) _
      have hB4 := hB3.trans (hB34.mono hB3.size)
      have hm4 := HM3.out.below hB34
      have hr4 : w4.ranges Tryd.prog 3 (plainElem (H := Unit) Tryd.prog 9) lb w1.heap.size 7 listsD (fun z => left z && !z.sameKey (.int .i64 b)) cnt3 := by rw [← hw4]; exact HRG.out.alloc _
      have hz4 : w3.heap.size < w4.heap.size := (Array.getElem?_eq_some_iff.1 hblk).1
      clear hw4 hen
      go_wp2_with fail
      obtain ⟨wo, hwo⟩ : ∃ wo : World, wo = wr := ⟨_, rfl⟩
      rw [← hwo] at HRO HS3 hrl
      go_loopw [17] (fun s17 wx => ∃ (j : Nat) (m' : List (ByteArray × Int)), j ≤ (nmsOf b).length ∧ s17 = .int .i64 j ∧ Hid (wx.ranges Tryd.prog 3 (plainElem (H := Unit) Tryd.prog 9) lb w1.heap.size 7 listsD (fun z => left z && !z.sameKey (.int .i64 b)) cnt3) ∧ Hid (NMap wx w.heap.size m') ∧
          Hid (Holds (stepF left b j) m') ∧ Hid (Pos m') ∧ Hid (wx.heap[w3.heap.size]? = some (.cells ((nmsOf b).map fun l => Value.string (strOf l)).toArray 9 (0, 0))) ∧ Below w.heap.size w wx) (fun s17 _ => (nmsOf b).length - (intOf s17).toNat)
      case atStart => exact ⟨0, m, by omega, rfl, hr4, hm4, holds_start HH.out, HP, hblk, hB4⟩
      case round =>
        clear hr4 hm4 hblk hB4 hB34 hz4
        obtain ⟨j, m', hj, rfl, HR4, HM4, HH4, HP4, HBK, hbx⟩ := hrel
        by_cases hlt : j < (nmsOf b).length
        · obtain ⟨l, hl⟩ : ∃ l, (nmsOf b)[j]? = some l := ⟨_, List.getElem?_eq_getElem hlt⟩
          have hcl : wr.cell? ⟨w3.heap.size, j, none⟩ = some (.string (strOf l)) := by rw [cell_of_row _ _ _ _ _ _ HBK.out]; simp [hl]
          have hsz : okS (strOf l) := by
            have := nms_short (List.mem_of_getElem? hl)
            show (strOf l).data.toList.length ≤ maxLen
            rw [strOf_data]; unfold maxLen; omega
          have hst := hid (holds_step HB.out hl HH4.out)
          have hval := HH4.out (strOf l)
          rw [strOf_data] at hval
          obtain ⟨N, hN⟩ : ∃ N, seven (fun x => stepF left b j x l) = N := ⟨_, rfl⟩
          have hN128 : N < 128 := by rw [← hN]; exact seven_lt _
          rw [hN] at hval hst
          have hor := or_i64 N b hN128 (by omega)
          have hbz := hbx.size
          have HSZ := hid hsz
          clear hN hl hsz
          cases hg : mget m' (strOf l) with
          | none =>
            rw [hg] at hval
            have hN0 : N = 0 := by simpa using hval.symm
            subst hN0
            have HG := hid hg
            have HOR : bits .or .i64 0 (b : Int) = (b : Int) := by have h := hor; rw [Nat.zero_or] at h; exact h
            have hst := hid (by have h := hst.out; rw [Nat.zero_or] at h; exact h)
            clear hg hval hor
            go_wp2_with (first
              | (at_lookup; refine wpList_mlookup_none false stringKey rfl (.tmp 21) (.tmp 22) 50 rfl Tryd.underlying50 _ (zero3 _) HM4.out (strOf l) HSZ.out rfl rfl HG.out ?_)
              | (at_mapUpdate; refine wpList_mupdate stringKey rfl (.tmp 21) (.tmp 22) (.tmp 25) 50 rfl Tryd.underlying50 HM4.out (strOf l) HSZ.out (b : Int) _ rfl rfl rfl rfl ?_; intro w6 hm6 hg6))
            have hb6 := hbx.grown hg6 hbz (fun k hk => by cases hk; exact Nat.le_refl _)
            have hr6 := HR4.out.kept hg6 (fun e => by injection e with e; omega) (fun e => by injection e with e; omega)
            have hk6 := (hg6.block w3.heap.size (Array.getElem?_eq_some_iff.1 HBK.out).1 (fun e => by injection e with e; omega)).trans HBK.out
            go_roundw
            case rel => exact ⟨j + 1, _, by omega, by go_num, hr6, hm6, hst.out, hid (pos_mset HP4.out (by omega)), hk6, hb6⟩
            case measure => simp [intOf]; omega
          | some v =>
            rw [hg] at hval
            have hv : v = (N : Int) := by simpa using hval
            subst hv
            have HG := hid hg
            clear hg hval
            go_wp2_with (first
              | (at_lookup; refine wpList_mlookup_some false stringKey rfl (.tmp 21) (.tmp 22) 50 rfl Tryd.underlying50 _ (zero3 _) HM4.out (strOf l) HSZ.out rfl rfl (N : Int) HG.out ?_; intro u hu; rw [hu])
              | (at_mapUpdate; refine wpList_mupdate stringKey rfl (.tmp 21) (.tmp 22) (.tmp 25) 50 rfl Tryd.underlying50 HM4.out (strOf l) HSZ.out ((N ||| b : Nat) : Int) _ rfl rfl rfl rfl ?_; intro w6 hm6 hg6))
            have hb6 := hbx.grown hg6 hbz (fun k hk => by cases hk; exact Nat.le_refl _)
            have hr6 := HR4.out.kept hg6 (fun e => by injection e with e; omega) (fun e => by injection e with e; omega)
            have hk6 := (hg6.block w3.heap.size (Array.getElem?_eq_some_iff.1 HBK.out).1 (fun e => by injection e with e; omega)).trans HBK.out
            go_roundw
            case rel => exact ⟨j + 1, _, by omega, by go_num, hr6, hm6, hst.out, hid (pos_mset HP4.out (by have : b ≤ N ||| b := Nat.right_le_or; omega)), hk6, hb6⟩
            case measure => simp [intOf]; omega
        · obtain rfl : j = (nmsOf b).length := by omega
          have hend := hid (holds_end HL.out HH4.out)
          go_wp2_with fail
          go_roundw
          case rel => exact ⟨_, cnt3, m', HR4, HM4, hend, HP4, hbx⟩
          case measure =>
            rw [← hwo, HRO.out, HR4.out.left_eq]
            exact HLT.out
end Go.Proofs.YtfdfeblcchbcnaaDoor
