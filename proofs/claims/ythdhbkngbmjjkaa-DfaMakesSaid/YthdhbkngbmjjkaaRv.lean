/- What a set tells: the document's Tells. Conditions: the places are such, of less than 64 expressions. -/
import Derived.Test.YthdhbkngbmjjkaaRt
import Derived.Deep.RegionHeld3
namespace Go.Proofs.Ythdhbkngbmjjkaa
open Go.RowKit
set_option linter.unusedSimpArgs false
def tellR (e : Nat) (s : Rs) (L X : List Int) : Nat → Nat
  | 0 => if 0 ∈ X then e else 0
  | i + 1 => if nth X i ∈ L then tellR e s L X i ||| 1 <<< (nth s.of (nth X i - 1).toNat).toNat else tellR e s L X i
theorem shl_one64 {k : Nat} (h : k < 64) : IntKind.u64.wrap (2 ^ k) = ((1 <<< k : Nat) : Int) := by
  rw [Nat.one_shiftLeft]
  have h2 : (2 ^ k : Nat) < 2 ^ 64 := Nat.pow_lt_pow_right (by omega) h
  have e3 : (2 : Int) ^ k = ((2 ^ k : Nat) : Int) := by simp
  rw [e3]
  generalize (2 ^ k : Nat) = c at h2
  simp [IntKind.wrap, IntKind.bits, IntKind.signed]
  omega
set_option maxRecDepth 100000 in
set_option maxHeartbeats 8000000 in
theorem rtells_any {a : Nat} {search : Bool} {F L : List Int} {e : Nat} {s : Rs} {S : Nat → Prop} {vX : Value} {X : List Int} {w : World} (h : Rf w a search F L e s) (hX : IsNums .i64 w S vX X) (he : e < 18446744073709551616) (hL : ∀ z ∈ L, 1 ≤ z ∧ z ≤ s.of.length) (ho : ∀ z ∈ s.of, 0 ≤ z ∧ z < 64) (hn : s.of.length ≤ 1000) :
    Calls Try.prog 23 #[.pointer (some ⟨a, 0, none⟩), vX] w fun e' w' => e' = .returned (.int .u64 ((tellR e s L X X.length : Nat) : Int)) ∧ Below w.heap.size w w' := by
  obtain ⟨B, v1, v2, v5, fV, lV, hra, hF, hLV⟩ := h
  have hxl := hX.le
  have HX := hid hX
  obtain ⟨xA, xc, rfl⟩ := hX.form
  obtain ⟨lA, lc, rfl⟩ := hLV.form
  obtain ⟨A2, c2, rfl, -⟩ := own_arr hra.2.2.2.1
  obtain ⟨no, hno⟩ : ∃ no, no = s.of.length := ⟨_, rfl⟩
  have HNO := hid hno
  have hof := hra.2.2.2.1
  rw [← hno] at hof hra hn
  have HL := hid hLV
  have HLT := hid hL
  have HOT := hid ho
  have hblk := hra.2.1
  have HA := hid (show ∀ Y, Below w.heap.size w Y → Y.cell? ⟨a, 2, none⟩ = some (.slice A2 no c2) ∧ Y.cell? ⟨a, 4, none⟩ = some (.slice lA L.length lc) from fun Y hY => by
    obtain ⟨-, -, a2, -, a4, -⟩ := slot7 ((hY.block a (Array.getElem?_eq_some_iff.1 hblk).1).trans hblk)
    exact ⟨a2, a4⟩)
  have HOF := hid (show ∀ p, p < no → ∃ b2, A2 = some ⟨b2, 0, none⟩ ∧ ∀ Y, Below w.heap.size w Y → Y.cell? ⟨b2, p, none⟩ = some (.int .i64 (nth s.of p)) from fun p hp => by
    obtain ⟨b2, rfl⟩ : ∃ b2, A2 = some ⟨b2, 0, none⟩ := by
      rcases hof.2 with ⟨-, h0⟩ | ⟨b2, cap, cur, e, -⟩
      · omega
      · injection e with e; exact ⟨b2, e⟩
    refine ⟨b2, rfl, fun Y hY => ?_⟩
    have := (hof.kept (grown_of_below hY none) (Classical.em _)).cellAt p (by omega)
    rw [List.getElem?_map, some_nth (by omega)] at this
    exact this)
  obtain ⟨-, -, -, -, -, -, a6, -⟩ := slot7 hblk
  have HT0 := hid (show ∀ b, decide ((0 : Int) ∈ X) = b → tellR e s L X 0 = if b = true then e else 0 from fun b hb => by simp only [tellR]; rw [← hb]; by_cases h : (0 : Int) ∈ X <;> simp [h])
  clear hra hF hLV hX hof hblk hL ho hno
  cases hz : decide ((0 : Int) ∈ X) with
  | _ =>
    have HZ := hid hz
    have HE := hid (HT0.out _ hz)
    clear hz
    go_enter Try.func23, Try.ntmps23
    go_wp2_with fail
    refine (rin_any S _ X 0 w HX.out).mono ?_
    rintro e w2 ⟨rfl, rfl⟩
    rw [HZ.out]
    go_wp2_with fail
    clear a6
    go_loopw [5, 6] (fun s5 s6 wr => ∃ (i b : Nat), i ≤ X.length ∧ s6 = .int .i64 i ∧ s5 = .int .u64 b ∧ b < 18446744073709551616 ∧ Hid (b = tellR e s L X i) ∧ Hid (Below w2.heap.size w2 wr)) (fun _ s6 _ => X.length - (intOf s6).toNat)
    case atStart => first | exact ⟨0, 0, by omega, rfl, rfl, by omega, hid (by rw [HE.out]; rfl), hid (Below.refl _ _)⟩ | exact ⟨0, e, by omega, rfl, rfl, he, hid (by rw [HE.out]; rfl), hid (Below.refl _ _)⟩
    case round =>
      obtain ⟨i, b, hi, rfl, rfl, hb, HT, HBW⟩ := hrel
      by_cases hlt : i < X.length
      · obtain ⟨rb, ro, cm', hem, -, hbl, hrc⟩ := HX.out.at hlt
        obtain ⟨rfl, rfl⟩ : xA = some ⟨rb, ro, none⟩ ∧ xc = cm' := by simpa using hem
        obtain ⟨x, hx⟩ : ∃ x, x = nth X i := ⟨_, rfl⟩
        have HXX := hid hx
        rw [← hx] at hrc
        have HS := hid (show ∀ Y, Below w2.heap.size w2 Y → Y.cell? ⟨a, 4, none⟩ = some (.slice lA L.length lc) ∧ Y.cell? ⟨rb, ro + i, none⟩ = some (.int .i64 x) from fun Y hY => ⟨(HA.out Y hY).2, (hY.cell (p := ⟨rb, ro + i, none⟩) hbl).trans hrc⟩)
        have hi' : (i : Int) < (X.length : Int) := by omega
        have hi0 : 0 ≤ (i : Int) := by omega
        clear hem hx hbl hrc
        have HZZ := HBW
        by_cases hxm : x ∈ L
        · have hd := decide_eq_true hxm
          obtain ⟨p, hxp⟩ : ∃ p : Nat, x = (p : Int) + 1 := ⟨(x - 1).toNat, by have := HLT.out x hxm; omega⟩
          have hp : p < no := by have := HLT.out _ hxm; have := HNO.out; omega
          have HXP := hid hxp
          obtain ⟨b2, rfl, ho2⟩ := HOF.out p hp
          obtain ⟨o, hoo⟩ : ∃ o : Nat, nth s.of p = o := ⟨(nth s.of p).toNat, by have := HOT.out _ (nth_mem (zs := s.of) (k := p) (by have := HNO.out; omega)); omega⟩
          have ho64 : o < 64 := by have := HOT.out _ (nth_mem (zs := s.of) (k := p) (by have := HNO.out; omega)); omega
          rw [hoo] at ho2
          have HO2 := hid ho2
          have HN := hid (show (b ||| 1 <<< o) = tellR e s L X (i + 1) by
            simp only [tellR]
            rw [← HXX.out, if_pos hxm, ← HT.out, show (x - 1).toNat = p by omega, hoo, Int.toNat_natCast])
          have h1 : (1 <<< o : Nat) < 2 ^ 64 := by rw [Nat.one_shiftLeft]; exact Nat.pow_lt_pow_right (by decide) ho64
          have hor := or_u64 b (1 <<< o) hb h1
          rw [← shl_one64 ho64] at hor
          have hbn : b ||| 1 <<< o < 2 ^ 64 := Nat.or_lt_two_pow hb h1
          have HOR := hid hor
          have hp' : (p : Int) < (no : Int) := by omega
          have hpw : IntKind.i64.wrap (x - 1) = (p : Int) := (IntWalk.i64_in _ (by omega)).trans (by omega)
          have hpn : (p : Int).toNat = p := by omega
          have hp00 : 0 ≤ (p : Int) := by omega
          clear hxm hoo ho2 hor h1 hxp
          go_wp2_with fail
          go_region_held3 (fun Y => Y.cell? ⟨a, 4, none⟩ = some (.slice lA L.length lc) ∧ Y.cell? ⟨rb, ro + i, none⟩ = some (.int .i64 x)) (first | exact HS.out _ HZZ.out | exact HS.out _ HZZ.out.drew)
            (first
              | (go_at_call 53; refine (rin_any Any _ L _ _ (by first | exact HL.out.below HZZ.out | exact HL.out.below HZZ.out.drew)).mono ?_; rintro e w4 ⟨rfl, hw4⟩; subst hw4; rw [hd])
              | fail)
          all_goals
            have HS2 := hid (show ∀ Y, Below w2.heap.size w2 Y → Y.cell? ⟨a, 2, none⟩ = some (.slice (some ⟨b2, 0, none⟩) no c2) ∧ Y.cell? ⟨rb, ro + i, none⟩ = some (.int .i64 x) ∧ Y.cell? ⟨b2, p, none⟩ = some (.int .i64 (o : Int)) from fun Y hY => ⟨(HA.out Y hY).1, (HS.out Y hY).2, HO2.out Y hY⟩)
            replace HZZ := hid HZZ.out.drew
            go_wp2_with fail
            go_region_held3 (fun Y => Y.cell? ⟨a, 2, none⟩ = some (.slice (some ⟨b2, 0, none⟩) no c2) ∧ Y.cell? ⟨rb, ro + i, none⟩ = some (.int .i64 x) ∧ Y.cell? ⟨b2, p, none⟩ = some (.int .i64 (o : Int))) (first | exact HS2.out _ HZZ.out | exact HS2.out _ HZZ.out.drew) (first | fail)
            all_goals
              go_wp2_with fail
              refine ⟨⟨i + 1, b ||| 1 <<< o, by omega, by go_num, by rw [HOR.out], hbn, HN, hid HZZ.out.drew⟩, by simp [intOf]; omega⟩
        · have hd := decide_eq_false hxm
          have HN := hid (show b = tellR e s L X (i + 1) by simp only [tellR]; rw [← HXX.out, if_neg hxm]; exact HT.out)
          clear hxm
          go_wp2_with fail
          go_region_held3 (fun Y => Y.cell? ⟨a, 4, none⟩ = some (.slice lA L.length lc) ∧ Y.cell? ⟨rb, ro + i, none⟩ = some (.int .i64 x)) (first | exact HS.out _ HZZ.out | exact HS.out _ HZZ.out.drew)
            (first
              | (go_at_call 53; refine (rin_any Any _ L _ _ (by first | exact HL.out.below HZZ.out | exact HL.out.below HZZ.out.drew)).mono ?_; rintro e w4 ⟨rfl, hw4⟩; subst hw4; rw [hd])
              | fail)
          all_goals
            go_wp2_with fail
            go_roundw
            case rel => exact ⟨i + 1, b, by omega, by go_num, rfl, hb, HN, hid HBW.out.drew⟩
            case measure => simp [intOf]; omega
      · obtain rfl : i = X.length := by omega
        go_wp2_with fail
        go_ret
        exact ⟨by rw [← HT.out]; rfl, HBW.out⟩
end Go.Proofs.Ythdhbkngbmjjkaa
