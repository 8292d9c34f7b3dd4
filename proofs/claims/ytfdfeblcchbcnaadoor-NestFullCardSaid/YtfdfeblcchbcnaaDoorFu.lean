/- A count of a nest grows and falls: the statement NestFull walked. Condition: the table of blanks as it is laid. -/
import Derived.Test.YtfdfeblcchbcnaaDoorAk
namespace Go.Proofs.YtfdfeblcchbcnaaDoor
open Go.RowKit

theorem val_title : valOf [116, 105, 116, 108, 101] = 4 := by decide +kernel

/-- One of the three counts stands, the others are nothing. -/
def mkN (j : Int) (c : Int) : NS := if j = 0 then ⟨0, c, 0⟩ else if j = 1 then ⟨0, 0, c⟩ else ⟨c, 0, 0⟩
def nmN (j : Int) : ByteArray := if j = 0 then ⟨#[112, 114, 101]⟩ else if j = 1 then ⟨#[110, 111, 98, 114]⟩ else ⟨#[116, 105, 116, 108, 101]⟩
def vN (j : Int) : Nat := if j = 0 then 9 else if j = 1 then 16 else 4
theorem nmN_val (j : Int) : valOf (nmN j).data.toList = vN j := by
  unfold nmN vN
  split
  · exact val_pre
  · split
    · exact val_nobr
    · exact val_title
theorem nmN_size (j : Int) : (nmN j).size ≤ 100 := by
  unfold nmN
  split
  · decide
  · split <;> decide
theorem mkN_ok (j : Int) {c : Int} (h : 0 ≤ c ∧ c ≤ 255) : okN (mkN j c) := by
  unfold mkN okN
  split
  · exact ⟨by simp, h, by simp⟩
  · split
    · exact ⟨by simp, by simp, h⟩
    · exact ⟨h, by simp, by simp⟩
theorem mkN_zero (j : Int) : mkN j 0 = ⟨0, 0, 0⟩ := by unfold mkN; split <;> (try split) <;> rfl
theorem up_take (j : Int) {c : Int} (h : 0 ≤ c ∧ c ≤ 255) : takeS (mkN j c) 2 (vN j) false = mkN j (min (c + 1) 255) := by
  have h1 : min (max (c + 1) 0) 255 = min (c + 1) 255 := by omega
  unfold mkN vN
  by_cases h0 : j = 0
  · rw [if_pos h0, if_pos h0, if_pos h0]
    simp [takeS, startS, addS, addK, turnI, turnV, bitB, h1]
  · rw [if_neg h0, if_neg h0, if_neg h0]
    by_cases h2 : j = 1
    · rw [if_pos h2, if_pos h2, if_pos h2]
      simp [takeS, startS, addS, addK, turnI, turnV, bitB, h1]
    · rw [if_neg h2, if_neg h2, if_neg h2]
      simp [takeS, startS, addS, addK, turnI, turnV, bitB, h1]
theorem down_take (j : Int) {c : Int} (h : 0 ≤ c ∧ c ≤ 255) : takeS (mkN j c) 3 (vN j) false = mkN j (max (c - 1) 0) := by
  have h1 : min (max (c + -1) 0) 255 = max (c - 1) 0 := by omega
  unfold mkN vN
  by_cases h0 : j = 0
  · rw [if_pos h0, if_pos h0, if_pos h0]
    simp [takeS, endS, addS, addK, turnI, turnV, bitB, h1]
  · rw [if_neg h0, if_neg h0, if_neg h0]
    by_cases h2 : j = 1
    · rw [if_pos h2, if_pos h2, if_pos h2]
      simp [takeS, endS, addS, addK, turnI, turnV, bitB, h1]
    · rw [if_neg h2, if_neg h2, if_neg h2]
      simp [takeS, endS, addS, addK, turnI, turnV, bitB, h1]
/-- Take of a start tag; of an end tag. -/
def UpB (B g : Nat) (w0 : World) (s' : NS) (e : Ending) (w' : World) : Prop := (∃ f c, e = .returned (.tuple #[.bool f, .bool c])) ∧ IsNest w' g s' ∧ Below B w0 w'
theorem take_up (j k : Int) (g : Nat) (w0 w : World) (hb : Below w0.heap.size w0 w) (hg : w0.heap.size ≤ g) (hs : IsNest w g (mkN j (min k 255))) (hk : 0 ≤ k) (ht : Tab w0) :
    Calls Tryd.prog 16 #[.pointer (some ⟨g, 0, none⟩), tokV 2 0 0 (nmN j) 0 false] w (UpB w0.heap.size g w0 (mkN j (min (k + 1) 255))) := by
  have hc : 0 ≤ min k 255 ∧ min k 255 ≤ 255 := by omega
  have h2 : min (min k 255 + 1) 255 = min (k + 1) 255 := by omega
  exact (take_own w0.heap.size g w0 _ (mkN j (min (k + 1) 255)) _ _ (vN j) 2 0 0 (nmN j) 0 false w rfl hg hb hs (mkN_ok j hc) (nmN_val j) (nmN_size j) ht rfl rfl (by rw [up_take j hc, h2])).mono fun e w' ⟨h1, h3, h4⟩ => ⟨⟨_, _, h1⟩, h3, h4⟩
theorem take_down (j a k : Int) (g : Nat) (w0 w : World) (hb : Below w0.heap.size w0 w) (hg : w0.heap.size ≤ g) (hs : IsNest w g (mkN j (max (min a 255 - k) 0))) (hk : 0 ≤ k) (ha : 0 ≤ a) (ht : Tab w0) :
    Calls Tryd.prog 16 #[.pointer (some ⟨g, 0, none⟩), tokV 3 0 0 (nmN j) 0 false] w (UpB w0.heap.size g w0 (mkN j (max (min a 255 - (k + 1)) 0))) := by
  have hc : 0 ≤ max (min a 255 - k) 0 ∧ max (min a 255 - k) 0 ≤ 255 := by omega
  have h2 : max (max (min a 255 - k) 0 - 1) 0 = max (min a 255 - (k + 1)) 0 := by omega
  exact (take_own w0.heap.size g w0 _ (mkN j (max (min a 255 - (k + 1)) 0)) _ _ (vN j) 3 0 0 (nmN j) 0 false w rfl hg hb hs (mkN_ok j hc) (nmN_val j) (nmN_size j) ht rfl rfl (by rw [down_take j hc, h2])).mono fun e w' ⟨h1, h3, h4⟩ => ⟨⟨_, _, h1⟩, h3, h4⟩

abbrev threeN : Array Value := #[.string ⟨#[112, 114, 101]⟩, .string ⟨#[110, 111, 98, 114]⟩, .string ⟨#[116, 105, 116, 108, 101]⟩]
theorem three_at {j : Int} (h : 0 ≤ j ∧ j < 3) : threeN[j.toNat]? = some (.string (nmN j)) := by
  have h' : j = 0 ∨ j = 1 ∨ j = 2 := by omega
  rcases h' with rfl | rfl | rfl <;> rfl
/-- The counts, as the statement lists them. -/
def gotN (j c : Int) (k : Nat) : Int := if (k : Int) = j then c else 0
theorem got_p (j c : Int) : (mkN j c).p = gotN j c 0 := by
  unfold mkN gotN
  by_cases h0 : j = 0
  · rw [if_pos h0, if_pos (by omega)]
  · rw [if_neg h0]
    by_cases h1 : j = 1
    · rw [if_pos h1, if_neg (by omega)]
    · rw [if_neg h1, if_neg (by omega)]
theorem got_n (j c : Int) : (mkN j c).n = gotN j c 1 := by
  unfold mkN gotN
  by_cases h0 : j = 0
  · rw [if_pos h0, if_neg (by omega)]
  · rw [if_neg h0]
    by_cases h1 : j = 1
    · rw [if_pos h1, if_pos (by omega)]
    · rw [if_neg h1, if_neg (by omega)]
theorem got_h {j c : Int} (h : 0 ≤ j ∧ j < 3) : (mkN j c).h = gotN j c 2 := by
  unfold mkN gotN
  by_cases h0 : j = 0
  · rw [if_pos h0, if_neg (by omega)]
  · rw [if_neg h0]
    by_cases h1 : j = 1
    · rw [if_pos h1, if_neg (by omega)]
    · rw [if_neg h1, if_pos (by omega)]
set_option maxRecDepth 100000 in
set_option maxHeartbeats 2000000 in
theorem full_walk (up down which : Int) (hu : 0 ≤ up ∧ up ≤ 65535) (hd : 0 ≤ down ∧ down ≤ 65535) (hx : 0 ≤ which ∧ which ≤ 255) (w : World) (ht : Tab w) :
    Calls Tryd.prog 6 #[.int .u16 up, .int .u16 down, .int .u8 which] w fun e w' => e = .returned (.bool true) ∧ Below w.heap.size w w' := by
  have HT := hid ht
  clear ht
  go_enter Tryd.func6, Tryd.ntmps6
  go_wp2_with fail
  refine (nawake_any _ HT.out).mono ?_
  rintro e w1 ⟨rfl, hb1⟩
  have HB1 := hid hb1
  clear hb1
  have hj : 0 ≤ which % 3 ∧ which % 3 < 3 := by omega
  obtain ⟨hj1, hj2⟩ := hj
  have hal : (w1.alloc (.cells threeN 9)).heap[w1.heap.size]? = some (.cells threeN 9 (0, 0)) := heap_alloc_new _ _
  have hl : (w1.alloc (.cells #[.string ⟨#[112, 114, 101]⟩, .string ⟨#[110, 111, 98, 114]⟩, .string ⟨#[116, 105, 116, 108, 101]⟩] 9)).cell? ⟨w1.heap.size, (which % 3).toNat, none⟩ = some (.string (nmN (which % 3))) := by
    rw [cell_of_row _ _ _ _ _ _ hal]; exact three_at ⟨hj1, hj2⟩
  clear hal
  go_wp2_with fail
  refine (new_any _).mono ?_
  rintro e w3 ⟨rfl, hw3⟩
  obtain ⟨w2, hw2⟩ : ∃ w2, w2 = w1.alloc (.cells #[.string ⟨#[112, 114, 101]⟩, .string ⟨#[110, 111, 98, 114]⟩, .string ⟨#[116, 105, 116, 108, 101]⟩] 9) := ⟨_, rfl⟩
  rw [← hw2] at hl hw3 ⊢
  obtain ⟨g, hg⟩ : ∃ g, g = w2.heap.size := ⟨_, rfl⟩
  rw [← hg]
  have hb2 : Below w.heap.size w w2 := by rw [hw2]; exact HB1.out.alloc HB1.out.size _
  have hwg : w.heap.size ≤ g := by rw [hg]; exact hb2.size
  have HN3 := hid (show IsNest w3 g (mkN (which % 3) (min ((0 : Nat) : Int) 255)) by
    rw [show min ((0 : Nat) : Int) 255 = 0 by omega, mkN_zero, ← hw3, hg]; exact heap_alloc_new _ _)
  have HB3 := hid (show Below w.heap.size w w3 by rw [← hw3]; exact hb2.alloc hb2.size _)
  clear hw2 hw3 hg hb2 hl HB1
  have ha : 0 ≤ up % 300 ∧ up % 300 < 300 := by omega
  have hb : 0 ≤ down % 300 ∧ down % 300 < 300 := by omega
  obtain ⟨ha1, ha2⟩ := ha
  obtain ⟨hb1, hb2⟩ := hb
  go_wp2_with fail
  go_loopw [11] (fun s11 wr => ∃ k : Nat, (k : Int) ≤ up % 300 ∧ s11 = .int .i64 k ∧ Hid (IsNest wr g (mkN (which % 3) (min (k : Int) 255))) ∧ Hid (Below w.heap.size w wr)) (fun s11 _ => 300 - (intOf s11).toNat)
  case atStart => exact ⟨0, by omega, rfl, HN3, HB3⟩
  case round =>
    obtain ⟨k, hk, rfl, HN, HB⟩ := hrel
    clear HN3 HB3
    by_cases hlt : (k : Int) < up % 300
    · go_wp2_with fail
      refine (take_up (which % 3) k g w wr HB.out hwg HN.out (by omega) HT.out).mono ?_
      rintro e w4 ⟨⟨f, c, rfl⟩, hn4, hb4⟩
      have HN4 := hid hn4
      have HB4 := hid hb4
      clear hn4 hb4
      go_wp2_with fail
      go_roundw
      case rel => exact ⟨k + 1, by omega, by go_num, HN4, HB4⟩
      case measure => simp [intOf]; omega
    · have hk2 : (k : Int) = up % 300 := by omega
      have HN5 := hid (show IsNest wr g (mkN (which % 3) (max (min (up % 300) 255 - ((0 : Nat) : Int)) 0)) by
        have h := HN.out
        rw [hk2] at h
        rw [show max (min (up % 300) 255 - ((0 : Nat) : Int)) 0 = min (up % 300) 255 by omega]
        exact h)
      clear HN hk
      go_wp2_with fail
      go_loopw [12] (fun s12 wx => ∃ k : Nat, (k : Int) ≤ down % 300 ∧ s12 = .int .i64 k ∧ Hid (IsNest wx g (mkN (which % 3) (max (min (up % 300) 255 - (k : Int)) 0))) ∧ Hid (Below w.heap.size w wx)) (fun s12 _ => 300 - (intOf s12).toNat)
      case atStart => exact ⟨0, by omega, rfl, HN5, HB⟩
      case round =>
        obtain ⟨m, hm, rfl, HN, HBx⟩ := hrel
        clear HN5 HB hlt hk2
        by_cases hlt : (m : Int) < down % 300
        · go_wp2_with fail
          refine (take_down (which % 3) (up % 300) m g w _ HBx.out hwg HN.out (by omega) ha1 HT.out).mono ?_
          rintro e w4 ⟨⟨f, c, rfl⟩, hn4, hb4⟩
          have HN4 := hid hn4
          have HB4 := hid hb4
          clear hn4 hb4
          go_wp2_with fail
          go_roundw
          case rel => exact ⟨m + 1, by omega, by go_num, HN4, HB4⟩
          case measure => simp [intOf]; omega
        · have hm2 : (m : Int) = down % 300 := by omega
          have HN6 := hid (show IsNest wr g (mkN (which % 3) (max (min (up % 300) 255 - down % 300) 0)) by
            have h := HN.out
            rw [hm2] at h
            exact h)
          clear HN hm
          go_wp2_with fail
          refine (pre_any _ _ wr HN6.out).mono ?_
          rintro e w4 ⟨rfl, rfl⟩
          go_wp2_with fail
          refine (nobreak_any _ _ wr HN6.out).mono ?_
          rintro e w4 ⟨rfl, rfl⟩
          go_wp2_with fail
          refine (hidden_any _ _ wr HN6.out).mono ?_
          rintro e w4 ⟨rfl, rfl⟩
          rw [got_p, got_n, got_h ⟨hj1, hj2⟩]
          obtain ⟨c, hc⟩ : ∃ c : Int, max (min (up % 300) 255 - down % 300) 0 = c := ⟨_, rfl⟩
          rw [hc]
          have hcb : 0 ≤ c ∧ c ≤ 255 := by omega
          obtain ⟨hc1, hc2⟩ := hcb
          clear HN6 hm2
          go_wp2_with fail
          obtain ⟨gs, hgs⟩ : ∃ gs, gs = wr.heap.size := ⟨_, rfl⟩
          obtain ⟨W, hW⟩ : ∃ W, W = wr.alloc (.cells #[.int .i64 (gotN (which % 3) c 0), .int .i64 (gotN (which % 3) c 1), .int .i64 (gotN (which % 3) c 2)] 3) := ⟨_, rfl⟩
          rw [← hW, ← hgs]
          have hcell : ∀ k : Nat, k < 3 → W.cell? ⟨gs, k, none⟩ = some (.int .i64 (gotN (which % 3) c k)) := fun k hk => by
            have hb : W.heap[gs]? = some (.cells #[.int .i64 (gotN (which % 3) c 0), .int .i64 (gotN (which % 3) c 1), .int .i64 (gotN (which % 3) c 2)] 3 (0, 0)) := by rw [hW, hgs]; exact heap_alloc_new _ _
            rw [cell_of_row _ _ _ _ _ _ hb]
            have h' : k = 0 ∨ k = 1 ∨ k = 2 := by omega
            rcases h' with rfl | rfl | rfl <;> rfl
          have HBW := hid (show Below w.heap.size w W by rw [hW]; exact HBx.out.alloc HBx.out.size _)
          have HC := hid hcell
          clear hW hgs HBx hcell
          go_loopw [15] (fun s15 wr => ∃ k : Nat, k ≤ 3 ∧ s15 = .int .i64 k ∧ W = wr) (fun s15 _ => 3 - (intOf s15).toNat)
          case atStart => exact ⟨0, by omega, rfl, rfl⟩
          case round =>
            obtain ⟨k, hk, rfl, rfl⟩ := hrel
            by_cases hk3 : k < 3
            · have hck := HC.out k hk3
              by_cases hq : (k : Int) = which % 3
              · rw [show gotN (which % 3) c k = c by unfold gotN; rw [if_pos hq]] at hck
                have hq1 := ieq_true hq
                have hq2 := ine_false hq
                clear hq
                go_wp2_with fail
                go_roundw
                case rel => exact ⟨k + 1, by omega, by go_num, by first | rfl | trivial⟩
                case measure => simp [intOf]; omega
              · rw [show gotN (which % 3) c k = 0 by unfold gotN; rw [if_neg hq]] at hck
                have hq1 := ieq_false hq
                have hq2 := ine_true hq
                clear hq
                go_wp2_with fail
                go_roundw
                case rel => exact ⟨k + 1, by omega, by go_num, by first | rfl | trivial⟩
                case measure => simp [intOf]; omega
            · obtain rfl : k = 3 := by omega
              go_wp2_with fail
              go_ret
              exact ⟨rfl, HBW.out⟩
end Go.Proofs.YtfdfeblcchbcnaaDoor
