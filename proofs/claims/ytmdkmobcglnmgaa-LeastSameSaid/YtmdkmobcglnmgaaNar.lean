/- A row by groups: what the program's narrow returns. Conditions: 37 groups, each below the number of groups; a row of 37. -/
import Derived.Test.YtmdkmobcglnmgaaGrp
import Derived.Test.YtmdkmobcglnmgaaBaseC
namespace Go.Proofs.Ytmdkmobcglnmgaa
open Go.RowKit

/-- Behind c marks, from the last one down: what stands at each group. -/
def narN (gs row : List Int) (many : Nat) : Nat → List Int
  | 0 => List.replicate many 0
  | c + 1 => (narN gs row many c).set (nth gs (36 - c)).toNat (nth row (36 - c))
def narrowL (gs row : List Int) (many : Nat) : List Int := narN gs row many 37
def fitsB (gs row : List Int) (many : Nat) : Bool := (List.range 37).all fun m => nth (narrowL gs row many) (nth gs m).toNat == nth row m
theorem narN_len (gs row : List Int) (many c : Nat) : (narN gs row many c).length = many := by
  induction c with
  | zero => simp [narN]
  | succ c ih => simp [narN, ih]
theorem narrowL_len (gs row : List Int) (many : Nat) : (narrowL gs row many).length = many := narN_len gs row many 37

def NarAns (w : World) (gs row : List Int) (many : Nat) (e : Ending) (w' : World) : Prop :=
  (fitsB gs row many = true ∧ e = .returned (.tuple #[.slice (some ⟨w.heap.size, 0, none⟩) many many, .bool true]) ∧ IntBlk w' w.heap.size 3 .i64 (narrowL gs row many) ∧ Below w.heap.size w w') ∨
  (fitsB gs row many = false ∧ e = .returned (.tuple #[.slice none 0 0, .bool false]) ∧ Below w.heap.size w w')

set_option maxRecDepth 100000 in
set_option maxHeartbeats 1000000 in
theorem narrow_any (S S' : Nat → Prop) (vg vr : Value) (gs row : List Int) (many : Nat) (w : World) (hg : IsNums .i64 w S vg gs) (hr : IsNums .i64 w S' vr row)
    (hgl : gs.length = 37) (hrl : row.length = 37) (hgb : ∀ m, m < 37 → 0 ≤ nth gs m ∧ nth gs m < many) (hm : many ≤ 37) :
    Calls Try.prog 51 #[vg, vr, .int .i64 many] w (NarAns w gs row many) := by
  obtain ⟨A, cA, rfl, _, _, hA⟩ := hg
  obtain ⟨B, cB, rfl, _, _, hB⟩ := hr
  have HA := hid hA
  have HB := hid hB
  have HG := hid hgb
  have HGL := hid hgl
  have HRL := hid hrl
  have hmk := fun w => run_make_ints (P := Try.prog) 32 3 .i64 .i64 .i64 Try.underlying32 info3 many (by omega) w
  rw [hgl, hrl]
  clear hA hB hgb hgl hrl
  go_enter Try.func51, Try.ntmps51
  go_wp2_with fail
  clear hmk
  go_loopw [9] (fun s9 wr => ∃ c : Nat, c ≤ 37 ∧ s9 = .int .i64 (36 - (c : Int)) ∧ IntBlk wr w.heap.size 3 .i64 (narN (gs) (row) many c) ∧ Below w.heap.size w wr) (fun s9 _ => (intOf s9 + 1).toNat)
  case atStart => exact ⟨0, by omega, rfl, by simpa [narN, IntBlk] using heap_alloc_new w (Obj.cells (Array.replicate many (.int .i64 0)) 3), (Below.refl _ _).alloc (Nat.le_refl _) _⟩
  case round =>
    obtain ⟨c, hc, rfl, hblk, hbw⟩ := hrel
    have HBL := hid hblk
    have hz := hblk.lt
    clear hblk
    by_cases hlt : c < 37
    · obtain ⟨m, hmc⟩ : ∃ m : Nat, (36 - (c : Int)) = (m : Int) ∧ m = 36 - c ∧ m < 37 := ⟨36 - c, by omega, rfl, by omega⟩
      obtain ⟨e1, e2, hm37⟩ := hmc
      rw [e1]
      have HE := hid e2
      have HE1 := hid e1
      clear e1 e2
      obtain ⟨b1, o1, rfl, _, hb1, hc1⟩ := HA.out.num (j := m) (by rw [HGL.out]; exact hm37)
      obtain ⟨b2, o2, rfl, _, hb2, hc2⟩ := HB.out.num (j := m) (by rw [HRL.out]; exact hm37)
      obtain ⟨q1, q2⟩ := HG.out m hm37
      obtain ⟨gm, hgm⟩ : ∃ gm : Nat, nth gs m = (gm : Int) := ⟨(nth gs m).toNat, by omega⟩
      rw [hgm] at hc1 q1 q2
      have hc1w : wr.cell? ⟨b1, o1 + m, none⟩ = some (.int .i64 gm) := (hbw.cell (p := ⟨b1, o1 + m, none⟩) hb1).trans hc1
      have hc2w : wr.cell? ⟨b2, o2 + m, none⟩ = some (.int .i64 (nth row m)) := (hbw.cell (p := ⟨b2, o2 + m, none⟩) hb2).trans hc2
      have q3 : gm < many := by omega
      have hc3 : wr.cell? ⟨w.heap.size, gm, none⟩ = some (.int .i64 (nth (narN gs row many c) gm)) := HBL.out.cell (by rw [narN_len]; exact q3)
      have hf3 : wr.frozen? ⟨w.heap.size, gm, none⟩ = false := HBL.out.frozen gm
      have hmi : (m : Int) < 37 := by omega
      have hm0 : (0 : Int) ≤ (m : Int) := by omega
      have HGM := hid hgm
      have hne1 : ¬ b1 = w.heap.size := by omega
      have hne2 : ¬ b2 = w.heap.size := by omega
      have hne3 : ¬ w.heap.size = b1 := by omega
      have hne4 : ¬ w.heap.size = b2 := by omega
      clear hgm hc1 hc2
      go_wp2_with fail
      go_region_held3 (fun w' => w'.cell? ⟨b1, o1 + m, none⟩ = some (.int .i64 gm) ∧ w'.cell? ⟨b2, o2 + m, none⟩ = some (.int .i64 (nth row m))) (go_keep) (fail)
      go_wp2
      go_roundw
      case rel =>
        refine ⟨c + 1, by omega, ?_, ?_, ?_⟩
        · have := HE1.out; first | rfl | (show Value.int _ _ = Value.int _ _; congr 1; omega)
        · have h1 := HBL.out.set gm (nth row m)
          show IntBlk _ _ _ _ ((narN gs row many c).set (nth gs (36 - c)).toNat (nth row (36 - c)))
          rw [← HE.out, HGM.out]
          exact h1
        · exact (hbw.setCell (p := ⟨w.heap.size, gm, none⟩) (Nat.le_refl _) _).drew
      case measure => have := HE1.out; simp [intOf] <;> omega
    · obtain rfl : c = 37 := by omega
      have hneg : (36 - ((37 : Nat) : Int)) = -1 := by omega
      rw [hneg]
      clear hneg
      have hnl := narrowL_len gs row many
      go_wp2_with fail
      obtain ⟨W, hW⟩ : ∃ W : World, W = wr := ⟨_, rfl⟩
      rw [← hW] at hbw hz HBL ⊢
      clear hW
      go_loopw [33] (fun s33 wr => ∃ m : Nat, m ≤ 37 ∧ s33 = .int .i64 m ∧ Hid (∀ k, k < m → nth (narrowL gs row many) (nth gs k).toNat = nth row k) ∧ IntBlk wr w.heap.size 3 .i64 (narrowL gs row many) ∧ Below w.heap.size w wr) (fun s33 _ => 37 - (intOf s33).toNat)
      case atStart => exact ⟨0, by omega, rfl, (fun k hk => absurd hk (by omega)), HBL.out, hbw⟩
      case round =>
        clear hbw hz HBL
        obtain ⟨m, hm37, rfl, hT, hblk, hbw⟩ := hrel
        have HBL := hid hblk
        have hz := hblk.lt
        clear hblk
        by_cases hlt : m < 37
        · obtain ⟨b1, o1, rfl, _, hb1, hc1⟩ := HA.out.num (j := m) (by rw [HGL.out]; exact hlt)
          obtain ⟨b2, o2, rfl, _, hb2, hc2⟩ := HB.out.num (j := m) (by rw [HRL.out]; exact hlt)
          obtain ⟨q1, q2⟩ := HG.out m hlt
          obtain ⟨gm, hgm⟩ : ∃ gm : Nat, nth gs m = (gm : Int) := ⟨(nth gs m).toNat, by omega⟩
          rw [hgm] at hc1 q1 q2
          have hc1w : wr.cell? ⟨b1, o1 + m, none⟩ = some (.int .i64 gm) := (hbw.cell (p := ⟨b1, o1 + m, none⟩) hb1).trans hc1
          have hc2w : wr.cell? ⟨b2, o2 + m, none⟩ = some (.int .i64 (nth row m)) := (hbw.cell (p := ⟨b2, o2 + m, none⟩) hb2).trans hc2
          have q3 : gm < many := by omega
          have hc3 : wr.cell? ⟨w.heap.size, gm, none⟩ = some (.int .i64 (nth (narrowL gs row many) gm)) := HBL.out.cell (by rw [narrowL_len]; exact q3)
          have HGM := hid hgm
          have hmi : (m : Int) < 37 := by omega
          clear hgm hc1 hc2 hnl
          by_cases he : nth (narrowL gs row many) gm = nth row m
          · have heb := ine_false he
            have HE := hid he
            clear he
            go_wp2_with fail
            go_roundw
            case rel =>
              refine ⟨m + 1, by omega, by go_num, fun k hk => ?_, HBL.out, hbw⟩
              by_cases hkm : k < m
              · exact hT.out k hkm
              · obtain rfl : k = m := by omega
                rw [HGM.out]; exact HE.out
            case measure => simp [intOf]; omega
          · have heb := ine_true he
            have hfit := hid (show fitsB gs row many = false by
              unfold fitsB
              rw [List.all_eq_false]
              exact ⟨m, by simp; omega, by rw [HGM.out]; simpa using he⟩)
            clear he
            go_wp2_with fail
            go_ret2
            exact .inr ⟨hfit.out, rfl, hbw⟩
        · obtain rfl : m = 37 := by omega
          have hfit := hid (show fitsB gs row many = true by
            unfold fitsB
            rw [List.all_eq_true]
            intro k hk
            have := hT.out k (by simpa using hk)
            simpa using this)
          go_wp2_with fail
          go_ret2
          exact .inl ⟨hfit.out, rfl, HBL.out, hbw⟩
theorem narrow_yes (S S' : Nat → Prop) (vg vr : Value) (gs row : List Int) (many : Nat) (w : World) (hg : IsNums .i64 w S vg gs) (hr : IsNums .i64 w S' vr row)
    (hgl : gs.length = 37) (hrl : row.length = 37) (hgb : ∀ m, m < 37 → 0 ≤ nth gs m ∧ nth gs m < many) (hm : many ≤ 37) (hf : fitsB gs row many = true) :
    Calls Try.prog 51 #[vg, vr, .int .i64 many] w fun e w' => e = .returned (.tuple #[.slice (some ⟨w.heap.size, 0, none⟩) many many, .bool true]) ∧ IntBlk w' w.heap.size 3 .i64 (narrowL gs row many) ∧ Below w.heap.size w w' :=
  (narrow_any S S' vg vr gs row many w hg hr hgl hrl hgb hm).mono fun e w' h => by
    rcases h with ⟨_, h⟩ | ⟨h, _⟩
    · exact h
    · rw [hf] at h; cases h
theorem narrow_no (S S' : Nat → Prop) (vg vr : Value) (gs row : List Int) (many : Nat) (w : World) (hg : IsNums .i64 w S vg gs) (hr : IsNums .i64 w S' vr row)
    (hgl : gs.length = 37) (hrl : row.length = 37) (hgb : ∀ m, m < 37 → 0 ≤ nth gs m ∧ nth gs m < many) (hm : many ≤ 37) (hf : fitsB gs row many = false) :
    Calls Try.prog 51 #[vg, vr, .int .i64 many] w fun e w' => e = .returned (.tuple #[.slice none 0 0, .bool false]) ∧ Below w.heap.size w w' :=
  (narrow_any S S' vg vr gs row many w hg hr hgl hrl hgb hm).mono fun e w' h => by
    rcases h with ⟨h, _⟩ | ⟨_, h⟩
    · rw [hf] at h; cases h
    · exact h
end Go.Proofs.Ytmdkmobcglnmgaa
