/- What an element is: Of, Has, the document's examples, and the statement ElementParts walked. Condition: the table of blanks as it is laid. -/
import Derived.Test.YtfdfeblcchbcnaaDoorNm
namespace Go.Proofs.YtfdfeblcchbcnaaDoor
open Go.RowKit

theorem and_i64 (a b : Nat) (ha : a < 128) (hb : b < 128) : bits .and .i64 (a : Int) (b : Int) = ((a &&& b : Nat) : Int) := by
  have hx : a &&& b < 2 ^ 7 := Nat.and_lt_two_pow _ (by omega)
  have h64 : ∀ c : Nat, c < 128 → (BitVec.ofInt 64 (c : Int)).toNat = c := fun c hc => by
    rw [BitVec.ofInt_natCast, BitVec.toNat_ofNat]; exact Nat.mod_eq_of_lt (by omega)
  show IntKind.i64.wrap ((BitVec.ofInt 64 (a : Int) &&& BitVec.ofInt 64 (b : Int)).toNat : Int) = _
  rw [BitVec.toNat_and, h64 a ha, h64 b hb]
  generalize a &&& b = c at hx
  simp [IntKind.wrap, IntKind.bits, IntKind.signed]
  omega

set_option maxHeartbeats 400000 in
theorem of_val (s : ByteArray) (N : Nat) (h : valOf s.data.toList = N) (hs : s.size ≤ 100) (w : World) (ht : Tab w) :
    Calls Tryd.prog 11 #[.string s] w fun e w' => e = .returned (.int .i64 N) ∧ Below w.heap.size w w' := by
  have hok : okS s := by show s.size ≤ maxLen; unfold maxLen; omega
  have HT := hid ht
  have HOK := hid hok
  have HN := hid h
  clear ht hok h
  go_enter Tryd.func11, Tryd.ntmps11
  go_wp2_with fail
  refine (names_any w HT.out).mono ?_
  rintro e w1 ⟨b, m, rfl, hb, hm, hh, hb1⟩
  have HM := hid hm
  have hval := hh s
  rw [show (seven fun x => (nmsOf x).contains s.data.toList) = N from HN.out] at hval
  clear hh hm
  cases hg : mget m s with
  | none =>
    rw [hg] at hval
    have hN0 : N = 0 := by simpa using hval.symm
    subst hN0
    have HG := hid hg
    clear hg hval
    go_wp2_with (at_lookup; refine wpList_mlookup_none false stringKey rfl (.tmp 3) (.tmp 4) 50 rfl Tryd.underlying50 _ (zero3 _) HM.out s HOK.out rfl rfl HG.out ?_)
    go_ret
    exact ⟨rfl, hb1⟩
  | some v =>
    rw [hg] at hval
    have hv : v = (N : Int) := by simpa using hval
    subst hv
    have HG := hid hg
    clear hg hval
    go_wp2_with (at_lookup; refine wpList_mlookup_some false stringKey rfl (.tmp 3) (.tmp 4) 50 rfl Tryd.underlying50 _ (zero3 _) HM.out s HOK.out rfl rfl (N : Int) HG.out ?_; intro u hu; rw [hu])
    go_ret
    exact ⟨rfl, hb1⟩

set_option maxHeartbeats 400000 in
theorem awake_any (w : World) (ht : Tab w) : Calls Tryd.prog 10 #[] w fun e w' => e = .returned (.bool true) ∧ Below w.heap.size w w' := by
  have HT := hid ht
  clear ht
  go_enter Tryd.func10, Tryd.ntmps10
  go_wp2_with fail
  refine (of_val ⟨#[104, 114]⟩ 3 val_hr (by decide) w HT.out).mono ?_
  rintro e w1 ⟨rfl, hb1⟩
  go_wp2_with fail
  refine (of_val ⟨#[98, 114]⟩ 34 val_br (by decide) _ (tab_below HT.out hb1)).mono ?_
  rintro e w2 ⟨rfl, hb2⟩
  have hB2 := hb1.trans (hb2.mono hb1.size)
  go_wp2_with fail
  refine (of_val ⟨#[98]⟩ 0 val_b (by decide) _ (tab_below HT.out hB2)).mono ?_
  rintro e w3 ⟨rfl, hb3⟩
  go_wp2_with fail
  go_ret
  exact ⟨rfl, hB2.trans (hb3.mono hB2.size)⟩

set_option maxRecDepth 100000 in
set_option maxHeartbeats 1000000 in
theorem parts_walk (s : ByteArray) (hl : s.size ≤ 9223372036854775807) (w : World) (ht : Tab w) : Calls Tryd.prog 3 #[.string s] w fun e w' => e = .returned (.bool true) ∧ Below w.heap.size w w' := by
  have HT := hid ht
  clear ht
  by_cases h60 : 60 < s.size
  · go_enter Tryd.func3, Tryd.ntmps3
    go_wp2_with fail
    refine (awake_any w HT.out).mono ?_
    rintro e w1 ⟨rfl, hb1⟩
    go_wp2_with fail
    go_ret
    exact ⟨rfl, hb1⟩
  · obtain ⟨N, hN⟩ : ∃ N, valOf s.data.toList = N := ⟨_, rfl⟩
    have hp := parts_any s.data.toList
    have hN128 : N < 128 := by rw [← hN]; exact seven_lt _
    rw [hN] at hp
    have HN := hid hN
    have h2 : bits .and .i64 (N : Int) 2 = ((N &&& 2 : Nat) : Int) := and_i64 N 2 hN128 (by decide)
    have h96 : bits .and .i64 (N : Int) 96 = ((N &&& 96 : Nat) : Int) := and_i64 N 96 hN128 (by decide)
    have h28 : bits .and .i64 (N : Int) 28 = ((N &&& 28 : Nat) : Int) := and_i64 N 28 hN128 (by decide)
    unfold partsB at hp
    generalize N &&& 2 = A2 at h2 hp
    generalize N &&& 96 = A96 at h96 hp
    generalize N &&& 28 = A28 at h28 hp
    have hpn : (A96 = 0 ∨ A2 ≠ 0) ∧ (A28 = 0 ∨ A2 = 0) := by simpa using hp
    obtain ⟨hp1, hp2⟩ := hpn
    have hN0 : (0 : Int) ≤ (N : Int) := by omega
    have hN1 : (N : Int) < 128 := by omega
    have fin : ∀ (c2 c96 c28 : Bool), (bits .and .i64 (N : Int) 2 != 0) = c2 → (bits .and .i64 (N : Int) 96 != 0) = c96 → (bits .and .i64 (N : Int) 28 != 0) = c28 → (c96 && !c2 || c28 && c2) = false → Calls Tryd.prog 3 #[.string s] w fun e w' => e = .returned (.bool true) ∧ Below w.heap.size w w' := by
      intro c2 c96 c28 e2 e96 e28 hc
      clear hp hp1 hp2 h2 h96 h28
      cases c2 <;> cases c96 <;> cases c28 <;> first | (exfalso; revert hc; decide) | skip
      all_goals
        clear hc hN
        go_enter Tryd.func3, Tryd.ntmps3
        go_wp2_with fail
        refine (of_val s N HN.out (by omega) w HT.out).mono ?_
        rintro e w1 ⟨rfl, hb1⟩
        go_wp2_with fail
        refine (awake_any _ (tab_below HT.out hb1)).mono ?_
        rintro e w2 ⟨rfl, hb2⟩
        go_wp2_with fail
        go_ret
        exact ⟨rfl, hb1.trans (hb2.mono hb1.size)⟩
    refine fin _ _ _ rfl rfl rfl ?_
    have e2 : ((A2 : Int) != 0) = decide (A2 ≠ 0) := by by_cases h : A2 = 0 <;> simp [h]
    have e96 : ((A96 : Int) != 0) = decide (A96 ≠ 0) := by by_cases h : A96 = 0 <;> simp [h]
    have e28 : ((A28 : Int) != 0) = decide (A28 ≠ 0) := by by_cases h : A28 = 0 <;> simp [h]
    rw [h2, h96, h28, e2, e96, e28]
    by_cases k2 : A2 = 0 <;> by_cases k96 : A96 = 0 <;> by_cases k28 : A28 = 0 <;> simp [k2, k96, k28] <;> simp [k2, k96, k28] at hp1 hp2
end Go.Proofs.YtfdfeblcchbcnaaDoor
