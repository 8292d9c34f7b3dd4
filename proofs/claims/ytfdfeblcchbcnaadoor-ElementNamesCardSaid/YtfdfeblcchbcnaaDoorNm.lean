/- All names, each with what it is: the map that the program's names makes. Condition: the table of blanks as it is laid. -/
import Derived.Test.YtfdfeblcchbcnaaDoorLs
import Derived.Test.YtfdfeblcchbcnaaDoorSh
import Derived.Maps.StringElems
namespace Go.Proofs.YtfdfeblcchbcnaaDoor
open Go.RowKit

theorem or_i64 (a b : Nat) (ha : a < 128) (hb : b < 128) : bits .or .i64 (a : Int) (b : Int) = ((a ||| b : Nat) : Int) := by
  have hx : a ||| b < 2 ^ 7 := Nat.or_lt_two_pow (by omega) (by omega)
  have h64 : ∀ c : Nat, c < 128 → (BitVec.ofInt 64 (c : Int)).toNat = c := fun c hc => by
    rw [BitVec.ofInt_natCast, BitVec.toNat_ofNat]; exact Nat.mod_eq_of_lt (by omega)
  show IntKind.i64.wrap ((BitVec.ofInt 64 (a : Int) ||| BitVec.ofInt 64 (b : Int)).toNat : Int) = _
  rw [BitVec.toNat_or, h64 a ha, h64 b hb]
  generalize a ||| b = c at hx
  simp [IntKind.wrap, IntKind.bits, IntKind.signed]
  omega
abbrev Tab (w : World) : Prop := Lib.TabIs Tryd.prog w "strings.asciiSpace" .u8 Lib.asciiSpaceTab
theorem tab_below {w w' : World} (h : Tab w) (hb : Below w.heap.size w w') : Tab w' := by
  have hg : Tryd.prog.globalNamed "strings.asciiSpace" = some (Tryd.lays157_ren.g 0) := by kernel_rfl
  unfold Tab Lib.TabIs World.var? at h ⊢
  rw [hg] at h ⊢
  simp only [Option.bind_some] at h ⊢
  have hlt : Tryd.lays157_ren.g 0 < w.heap.size := by
    rcases Nat.lt_or_ge (Tryd.lays157_ren.g 0) w.heap.size with h' | h'
    · exact h'
    · rw [Array.getElem?_eq_none h'] at h; cases h
  rw [hb.block _ hlt]
  exact h
theorem lists_at {x : Int} {c : ByteArray} (h : ∀ zd, listsD.atKey (.int .i64 x) zd = .lit (.string c.data.toList)) : ∃ b : Nat, isBit b = true ∧ x = (b : Int) ∧ c.data.toList = txtOf b := by
  have h0 := h .nil
  by_cases h1 : x = 1
  · subst h1; exact ⟨1, rfl, rfl, (by simpa using (show DataW.lit (Lit.string txt1) = _ from h0).symm : c.data.toList = txt1)⟩
  by_cases h2 : x = 2
  · subst h2; exact ⟨2, rfl, rfl, (by simpa using (show DataW.lit (Lit.string txt2) = _ from h0).symm : c.data.toList = txt2)⟩
  by_cases h3 : x = 4
  · subst h3; exact ⟨4, rfl, rfl, (by simpa using (show DataW.lit (Lit.string txt4) = _ from h0).symm : c.data.toList = txt4)⟩
  by_cases h4 : x = 8
  · subst h4; exact ⟨8, rfl, rfl, (by simpa using (show DataW.lit (Lit.string txt8) = _ from h0).symm : c.data.toList = txt8)⟩
  by_cases h5 : x = 16
  · subst h5; exact ⟨16, rfl, rfl, (by simpa using (show DataW.lit (Lit.string txt16) = _ from h0).symm : c.data.toList = txt16)⟩
  by_cases h6 : x = 32
  · subst h6; exact ⟨32, rfl, rfl, (by simpa using (show DataW.lit (Lit.string txt32) = _ from h0).symm : c.data.toList = txt32)⟩
  by_cases h7 : x = 64
  · subst h7; exact ⟨64, rfl, rfl, (by simpa using (show DataW.lit (Lit.string txt64) = _ from h0).symm : c.data.toList = txt64)⟩
  · exfalso
    have hs : ∀ n : Int, x ≠ n → (Lit.int .i64 n).sameKey (.int .i64 x) = false := fun n hn => by
      cases hk : (Lit.int .i64 n).sameKey (.int .i64 x) with
      | false => rfl
      | true => exact absurd (by have := WideAt.sameKey_eq hk; injection this with _ h; exact h.symm) hn
    simp [DataW.atKey, listsD, List.find?_cons, hs 1 h1, hs 2 h2, hs 4 h3, hs 8 h4, hs 16 h5, hs 32 h6, hs 64 h7] at h0

abbrev okS (s : ByteArray) : Prop := s.size ≤ maxLen
abbrev NMap (w : World) (b : Nat) (m : List (ByteArray × Int)) : Prop := MapIs w b (fun s : ByteArray => Value.string s) okS (fun (n : Int) u => u = .int .i64 n) m
theorem stringKey : MKey Tryd.prog 9 (fun s : ByteArray => Value.string s) okS :=
  ⟨fun h => by injection h, fun {s} h => ⟨_, WideMaps.keyOf_string_mk Tryd.underlying9 h⟩, Maps.string_keyed Tryd.underlying9⟩
theorem zero3 (w : World) : (zeroValue 3).run Tryd.prog w = .ok (.int .i64 0) w := by kernel_rfl
/-- What the made map holds, as some bits are gone through. -/
def Holds (f : Nat → List UInt8 → Bool) (m : List (ByteArray × Int)) : Prop := ∀ s : ByteArray, (mget m s).getD 0 = ((seven fun x => f x s.data.toList : Nat) : Int)
def NamesAns (w : World) (e : Ending) (w' : World) : Prop := ∃ b m, e = .returned (.map (some b)) ∧ w.heap.size ≤ b ∧ NMap w' b m ∧ Holds (fun x s => (nmsOf x).contains s) m ∧ Below w.heap.size w w'

abbrev strOf (l : List UInt8) : ByteArray := ⟨l.toArray⟩
theorem strOf_data (l : List UInt8) : (strOf l).data.toList = l := rfl
theorem strOf_eq {l : List UInt8} {s : ByteArray} (h : s.data.toList = l) : strOf l = s := by subst h; rfl
theorem fields_any (c : ByteArray) (b : Nat) (hb : isBit b = true) (hc : c.data.toList = txtOf b) (w : World) (ht : Tab w) :
    Calls Tryd.prog 30 #[.string c] w fun e w' => e = .returned (.slice (some ⟨w.heap.size, 0, none⟩) (nmsOf b).length (nmsOf b).length) ∧ w.alloc (.cells ((nmsOf b).map fun l => Value.string (strOf l)).toArray 9) = w' := by
  have hf : Lib.fields c.data.toList = nmsOf b := by rw [hc]; exact fieldsOf hb
  have hs : c.size = c.data.toList.length := rfl
  have h := Tryd.strings_Fields c w (by rw [hs, hc]; have := (lenOf b).1; omega) (fun j x hx => by rw [hc] at hx; exact asciiOf hb x (List.mem_of_getElem? hx)) ht
  rw [hf] at h
  exact h.mono fun e w' ⟨h1, h2⟩ => ⟨h1, h2.symm⟩
theorem all_short : ∀ l ∈ allNames, l.length ≤ 100 := by decide +kernel
theorem nms_short {b : Nat} {l : List UInt8} (h : l ∈ nmsOf b) : l.length ≤ 100 := by
  refine all_short l ?_
  unfold allNames
  unfold nmsOf at h
  simp only [List.mem_append]
  repeat (split at h; · simp [h])
  cases h
def stepF (left : Lit → Bool) (b j : Nat) (x : Nat) (s : List UInt8) : Bool := (!left (.int .i64 x) && (nmsOf x).contains s) || (x == b && ((nmsOf b).take j).contains s)
theorem holds_start {left : Lit → Bool} {b : Nat} {m : List (ByteArray × Int)} (h : Holds (fun x s => !left (.int .i64 x) && (nmsOf x).contains s) m) : Holds (stepF left b 0) m := fun s => by
  rw [h s]
  congr 2
  funext x
  simp [stepF]
theorem holds_step {left : Lit → Bool} {b j : Nat} {m : List (ByteArray × Int)} {l : List UInt8} (hb : isBit b = true) (hl : (nmsOf b)[j]? = some l) (h : Holds (stepF left b j) m) :
    Holds (stepF left b (j + 1)) (mset m (strOf l) ((seven (fun x => stepF left b j x l) ||| b : Nat) : Int)) := fun s => by
  have htk : (nmsOf b).take (j + 1) = (nmsOf b).take j ++ [l] := by rw [List.take_add_one, hl]; rfl
  rw [mget_mset]
  by_cases e : strOf l = s
  · subst e
    rw [if_pos rfl, Option.getD_some, seven_or _ hb]
    congr 2
    funext x
    simp only [stepF, htk, strOf_data]
    cases hx : (x == b) <;> simp [List.contains_append]
  · rw [if_neg e, h s]
    congr 2
    funext x
    have hne : (s.data.toList == l) = false := by
      rw [beq_eq_false_iff_ne]
      exact fun h => e (strOf_eq h)
    simp only [stepF, htk]
    have h3 : ((nmsOf b).take j ++ [l]).contains s.data.toList = ((nmsOf b).take j).contains s.data.toList := by
      rw [List.contains_eq_any_beq, List.contains_eq_any_beq, List.any_append]
      have : [l].any (fun y => s.data.toList == y) = false := by simpa using hne
      rw [this, Bool.or_false]
    rw [h3]
theorem sameKey_int (x b : Nat) : (Lit.int .i64 (x : Int)).sameKey (.int .i64 (b : Int)) = (x == b) := by
  by_cases h : x = b
  · subst h
    have : (x == x) = true := by simp
    rw [this]
    simp [Lit.sameKey]
  · have h2 : (x == b) = false := by simpa using h
    rw [h2]
    cases hk : (Lit.int .i64 (x : Int)).sameKey (.int .i64 (b : Int)) with
    | false => rfl
    | true => exact absurd (by have := WideAt.sameKey_eq hk; injection this with _ h; omega) h
theorem holds_end {left : Lit → Bool} {b : Nat} {m : List (ByteArray × Int)} (hl : left (.int .i64 b) = true) (h : Holds (stepF left b (nmsOf b).length) m) :
    Holds (fun x s => !((fun z => left z && !z.sameKey (.int .i64 b)) (.int .i64 x)) && (nmsOf x).contains s) m := fun s => by
  rw [h s]
  congr 2
  funext x
  simp only [stepF, List.take_length, sameKey_int]
  by_cases e : x = b
  · subst e; simp [hl]
  · have h2 : (x == b) = false := by simpa using e
    simp [h2]

set_option maxRecDepth 100000 in
set_option maxHeartbeats 2000000 in
theorem names_any (w : World) (ht : Tab w) : Calls Tryd.prog 23 #[] w (NamesAns w) := by
  have hmm := @run_makeMap Tryd.prog
  have HT := hid ht
  clear ht
  go_enter Tryd.func23, Tryd.ntmps23
  go_wp2_with fail
  clear hmm
  refine (lists_any _).mono ?_
  rintro e w1 ⟨lb, rfl, hlb, hown, hb1⟩
  have hm0 : NMap (w.alloc (.map #[] 0)) w.heap.size [] := mapIs_new _ _ _ _
  have hB1 : Below w.heap.size w w1 := ((Below.refl _ _).alloc (Nat.le_refl _) _).trans (hb1.mono (by simp))
  have hm1 := hm0.below hb1
  have hlb' : w.heap.size < lb := by simp at hlb; omega
  have hz1 : w.heap.size < w1.heap.size := hm1.lt
  have HO := hid hown
  have HM1 := hid hm1
  clear hown hm0 hm1 hlb hb1
  go_wp2_with (first | (at_range; refine wpList_range_own _ rfl (.tmp 7) 62 rfl 3 9 (Maps.int_keyed Tryd.underlying3) Tryd.underlying62 (plainElem Tryd.prog 9) lb 7 listsD rfl HO.out ?_; intro w2 hrg2 hg2 hs2) | go_in)
  go_frame
  have hm2 := HM1.out.grown hg2 (by simp)
  have hB2 : Below w.heap.size w w2 := hB1.grown hg2 hB1.size (fun k hk => by cases hk)
  have hinit : Holds (fun x s => !Maps.has listsD (.int .i64 x) && (nmsOf x).contains s) [] := fun s => by
    have : (seven fun x => !Maps.has listsD (.int .i64 x) && (nmsOf x).contains s.data.toList) = seven fun _ => false := seven_congr fun b hb => by
      rcases isBit_cases hb with rfl | rfl | rfl | rfl | rfl | rfl | rfl <;> rfl
    rw [this]; rfl
  have hr1 : w.heap.size < w1.heap.size := hz1
  go_loopw [9] (fun s9 wr => ∃ (left : Lit → Bool) (cnt : Nat) (m : List (ByteArray × Int)), Hid (wr.ranges Tryd.prog 3 (plainElem Tryd.prog 9) lb w1.heap.size 7 listsD left cnt) ∧ Hid (NMap wr w.heap.size m) ∧ Hid (Holds (fun x s => !left (.int .i64 x) && (nmsOf x).contains s) m) ∧ Below w.heap.size w wr) (fun _ wr => wr.rangeLeft lb w1.heap.size)
  case atStart => exact ⟨_, _, [], hrg2, hm2, hinit, hB2⟩
  case round =>
    clear hrg2 hm2 hinit hB2 hg2 hs2
    obtain ⟨left, cnt, m, HR, HM, HH, hbw⟩ := hrel
    go_wp2_with (at_next; refine wpList_next_ranges_is _ rfl (.tmp 8) rfl 3 9 .i64 (Maps.int_keyed Tryd.underlying3) Tryd.underlying3 Tryd.underlying9 lb w1.heap.size 7 listsD left cnt rfl HR.out ?_ ?_)
    · intro hc0 hl0
      have HL := hid hl0
      clear hl0 hc0
      go_wp2_with fail
      go_ret
      refine ⟨_, m, rfl, Nat.le_refl _, HM.out, fun s => ?_, hbw⟩
      rw [HH.out s]
      congr 2
      funext x
      simp [HL.out]
    · intro x c w3 cnt3 hwx hwc hlx hat hrg3 hlt3 hg3 hs3 hen
      obtain ⟨b, hb, rfl, hc⟩ := lists_at hat
      have HB := hid hb
      have HC := hid hc
      have HRG := hid hrg3
      have HL := hid hlx
      have HLT := hid hlt3
      have hbit := bit_le hb
      have hlen := (lenOf b).2
      have hB3 : Below w.heap.size w w3 := hbw.grown hg3 hbw.size (fun k hk => by cases hk; omega)
      have HM3 := hid (HM.out.grown hg3 (by simp; omega))
      have HRO := hid HR.out.left_eq
      have HS3 := hid hs3
      have hrl : w1.heap.size < wr.heap.size := HR.out.lt
      have hrl3 : w1.heap.size < w3.heap.size := HRG.out.lt
      have hrl4 : lb < w3.heap.size := HRG.out.owns.lt
      have hml : w.heap.size < w3.heap.size := HM3.out.lt
      clear hat hb hc hrg3 hlx hlt3 hg3 hwx hs3 HM HR
      go_wp2_with fail
      refine (fields_any c b HB.out HC.out w3 (tab_below HT.out hB3)).mono ?_
      rintro e w4 ⟨rfl, hw4⟩
      have hblk : w4.heap[w3.heap.size]? = some (.cells ((nmsOf b).map fun l => Value.string (strOf l)).toArray 9 (0, 0)) := by rw [← hw4]; exact heap_alloc_new _ _
      have hB34 : Below w3.heap.size w3 w4 := by rw [← hw4]; exact (Below.refl _ _).alloc (Nat.le_refl _) _
      have hB4 := hB3.trans (hB34.mono hB3.size)
      have hm4 := HM3.out.below hB34
      have hr4 : w4.ranges Tryd.prog 3 (plainElem (H := Unit) Tryd.prog 9) lb w1.heap.size 7 listsD (fun z => left z && !z.sameKey (.int .i64 b)) cnt3 := by rw [← hw4]; exact HRG.out.alloc _
      have hz4 : w3.heap.size < w4.heap.size := (Array.getElem?_eq_some_iff.1 hblk).1
      clear hw4 hen
      go_wp2_with fail
      obtain ⟨wo, hwo⟩ : ∃ wo : World, wo = wr := ⟨_, rfl⟩
      rw [← hwo] at HRO HS3 hrl
      go_loopw [17] (fun s17 wx => ∃ (j : Nat) (m' : List (ByteArray × Int)), j ≤ (nmsOf b).length ∧ s17 = .int .i64 j ∧ Hid (wx.ranges Tryd.prog 3 (plainElem (H := Unit) Tryd.prog 9) lb w1.heap.size 7 listsD (fun z => left z && !z.sameKey (.int .i64 b)) cnt3) ∧ Hid (NMap wx w.heap.size m') ∧
          Hid (Holds (stepF left b j) m') ∧ Hid (wx.heap[w3.heap.size]? = some (.cells ((nmsOf b).map fun l => Value.string (strOf l)).toArray 9 (0, 0))) ∧ Below w.heap.size w wx) (fun s17 _ => (nmsOf b).length - (intOf s17).toNat)
      case atStart => exact ⟨0, m, by omega, rfl, hr4, hm4, holds_start HH.out, hblk, hB4⟩
      case round =>
        clear hr4 hm4 hblk hB4 hB34 hz4
        obtain ⟨j, m', hj, rfl, HR4, HM4, HH4, HBK, hbx⟩ := hrel
        by_cases hlt : j < (nmsOf b).length
        · obtain ⟨l, hl⟩ : ∃ l, (nmsOf b)[j]? = some l := ⟨_, List.getElem?_eq_getElem hlt⟩
          have hcl : wr.cell? ⟨w3.heap.size, j, none⟩ = some (.string (strOf l)) := by rw [cell_of_row _ _ _ _ _ _ HBK.out]; simp [hl]
          have hsz : okS (strOf l) := by
            have := nms_short (List.mem_of_getElem? hl)
            show (strOf l).data.toList.length ≤ maxLen
            rw [strOf_data]; unfold maxLen; omega
          have hst := hid (holds_step HB.out hl HH4.out)
          have hval := HH4.out (strOf l)
          rw [strOf_data] at hval
          obtain ⟨N, hN⟩ : ∃ N, seven (fun x => stepF left b j x l) = N := ⟨_, rfl⟩
          have hN128 : N < 128 := by rw [← hN]; exact seven_lt _
          rw [hN] at hval hst
          have hor := or_i64 N b hN128 (by omega)
          have hbz := hbx.size
          have HSZ := hid hsz
          clear hN hl hsz
          cases hg : mget m' (strOf l) with
          | none =>
            rw [hg] at hval
            have hN0 : N = 0 := by simpa using hval.symm
            subst hN0
            have HG := hid hg
            have HOR : bits .or .i64 0 (b : Int) = (b : Int) := by have h := hor; rw [Nat.zero_or] at h; exact h
            have hst := hid (by have h := hst.out; rw [Nat.zero_or] at h; exact h)
            clear hg hval hor
            go_wp2_with (first
              | (at_lookup; refine wpList_mlookup_none false stringKey rfl (.tmp 21) (.tmp 22) 50 rfl Tryd.underlying50 _ (zero3 _) HM4.out (strOf l) HSZ.out rfl rfl HG.out ?_)
              | (at_mapUpdate; refine wpList_mupdate stringKey rfl (.tmp 21) (.tmp 22) (.tmp 25) 50 rfl Tryd.underlying50 HM4.out (strOf l) HSZ.out (b : Int) _ rfl rfl rfl rfl ?_; intro w6 hm6 hg6))
            have hb6 := hbx.grown hg6 hbz (fun k hk => by cases hk; exact Nat.le_refl _)
            have hr6 := HR4.out.kept hg6 (fun e => by injection e with e; omega) (fun e => by injection e with e; omega)
            have hk6 := (hg6.block w3.heap.size (Array.getElem?_eq_some_iff.1 HBK.out).1 (fun e => by injection e with e; omega)).trans HBK.out
            go_roundw
            case rel => exact ⟨j + 1, _, by omega, by go_num, hr6, hm6, hst.out, hk6, hb6⟩
            case measure => simp [intOf]; omega
          | some v =>
            rw [hg] at hval
            have hv : v = (N : Int) := by simpa using hval
            subst hv
            have HG := hid hg
            clear hg hval
            go_wp2_with (first
              | (at_lookup; refine wpList_mlookup_some false stringKey rfl (.tmp 21) (.tmp 22) 50 rfl Tryd.underlying50 _ (zero3 _) HM4.out (strOf l) HSZ.out rfl rfl (N : Int) HG.out ?_; intro u hu; rw [hu])
              | (at_mapUpdate; refine wpList_mupdate stringKey rfl (.tmp 21) (.tmp 22) (.tmp 25) 50 rfl Tryd.underlying50 HM4.out (strOf l) HSZ.out ((N ||| b : Nat) : Int) _ rfl rfl rfl rfl ?_; intro w6 hm6 hg6))
            have hb6 := hbx.grown hg6 hbz (fun k hk => by cases hk; exact Nat.le_refl _)
            have hr6 := HR4.out.kept hg6 (fun e => by injection e with e; omega) (fun e => by injection e with e; omega)
            have hk6 := (hg6.block w3.heap.size (Array.getElem?_eq_some_iff.1 HBK.out).1 (fun e => by injection e with e; omega)).trans HBK.out
            go_roundw
            case rel => exact ⟨j + 1, _, by omega, by go_num, hr6, hm6, hst.out, hk6, hb6⟩
            case measure => simp [intOf]; omega
        · obtain rfl : j = (nmsOf b).length := by omega
          have hend := hid (holds_end HL.out HH4.out)
          go_wp2_with fail
          go_roundw
          case rel => exact ⟨_, cnt3, m', HR4, HM4, hend, hbx⟩
          case measure =>
            rw [← hwo, HRO.out, HR4.out.left_eq]
            exact HLT.out
end Go.Proofs.YtfdfeblcchbcnaaDoor
