/- How many groups a grouping has; 0 where it is not right. Both texts answer as the plain 'manyL' does. No conditions. -/
import Derived.Test.YtmdkmobcglnmgaaMin
namespace Go.Proofs.Ytmdkmobcglnmgaa
open Go.RowKit

def manyStep (n : Option Int) (g : Int) : Option Int := match n with
  | none => none
  | some m => if g < 0 ∨ m < g then none else some (if m < g + 1 then g + 1 else m)
def manyAux (gs : List Int) : Option Int := gs.foldl manyStep (some 0)
def manyL (gs : List Int) : Int := if gs.length = 37 then (manyAux gs).getD 0 else 0

theorem manyAux_snoc (l : List Int) (x : Int) : manyAux (l ++ [x]) = manyStep (manyAux l) x := by simp [manyAux, List.foldl_append]
theorem manyStep_none (l : List Int) : l.foldl manyStep none = none := by
  induction l with
  | nil => rfl
  | cons x l ih => exact ih
theorem manyAux_none {gs : List Int} {k : Nat} (h : manyAux (gs.take k) = none) : manyAux gs = none := by
  have : gs = gs.take k ++ gs.drop k := (List.take_append_drop k gs).symm
  rw [this]; unfold manyAux at h ⊢; rw [List.foldl_append, h, manyStep_none]

set_option maxHeartbeats 400000 in
theorem many_any (S : Nat → Prop) (v : Value) (zs : List Int) (w : World) (h : IsNums .i64 w S v zs) :
    Calls Try.prog 19 #[v] w fun e w' => e = .returned (.int .i64 (manyL zs)) ∧ Below w.heap.size w w' := by
  have hl := h.le
  obtain ⟨A, c, rfl, _, _, hA⟩ := h
  have HA := hid hA
  clear hA
  by_cases h37 : zs.length = 37
  · have h1 : ((zs.length : Int) != 37) = false := ine_false (by omega)
    have hr := hid (show manyL zs = (manyAux zs).getD 0 by simp [manyL, h37])
    clear h37
    go_enter Try.func19, Try.ntmps19
    go_wp2_with fail
    go_loop [3, 11] (fun m i => ∃ (k : Nat) (n : Int), k ≤ zs.length ∧ i = .int .i64 k ∧ m = .int .i64 n ∧ 0 ≤ n ∧ n ≤ k ∧ Hid (manyAux (zs.take k) = some n)) (fun _ i => zs.length - (intOf i).toNat)
    case atStart => exact ⟨0, 0, by omega, rfl, rfl, by omega, by omega, rfl⟩
    case round =>
      obtain ⟨k, n, hk, rfl, rfl, hn0, hn1, hT⟩ := hrel
      by_cases hlt : k < zs.length
      · obtain ⟨b, o, rfl, _, hb, hc⟩ := HA.out.num hlt
        have hst := hid (show manyAux (zs.take (k + 1)) = manyStep (some n) (nth zs k) by rw [take_nth hlt, manyAux_snoc, hT.out])
        by_cases hz : nth zs k < 0
        · have hr2 := hid (show manyL zs = 0 by
            rw [hr.out, manyAux_none (k := k + 1) (by rw [hst.out]; simp [manyStep, hz])]; rfl)
          go_wp2
          go_ret
          exact ⟨ret_int hr2.out.symm, Below.refl _ _⟩
        · by_cases hz2 : n < nth zs k
          · have hr2 := hid (show manyL zs = 0 by
              rw [hr.out, manyAux_none (k := k + 1) (by rw [hst.out]; simp [manyStep, hz2])]; rfl)
            go_wp2
            go_ret
            exact ⟨ret_int hr2.out.symm, Below.refl _ _⟩
          · have hs2 := hid (show manyAux (zs.take (k + 1)) = some (if n < nth zs k + 1 then nth zs k + 1 else n) by
              rw [hst.out]; simp [manyStep, hz, hz2])
            have hz3 : 0 ≤ nth zs k := by omega
            have hz4 : nth zs k ≤ 9223372036854775806 := by omega
            go_wp2
            go_round
            case rel => exact ⟨k + 1, _, by omega, by go_num, rfl, by split <;> omega, by split <;> omega, hs2⟩
            case measure => simp [intOf]; omega
      · obtain rfl : k = zs.length := by omega
        have hr2 := hid (show manyL zs = n by
          have := hT.out
          rw [List.take_length] at this
          rw [hr.out, this]; rfl)
        go_wp2
        go_ret
        exact ⟨ret_int hr2.out.symm, Below.refl _ _⟩
  · have h1 : ((zs.length : Int) != 37) = true := ine_true (by omega)
    have hr := hid (show manyL zs = 0 by simp [manyL, h37])
    clear h37
    go_enter Try.func19, Try.ntmps19
    go_wp2
    go_ret
    exact ⟨ret_int hr.out.symm, Below.refl _ _⟩

set_option maxHeartbeats 400000 in
theorem refMany_any (S : Nat → Prop) (v : Value) (zs : List Int) (w : World) (h : IsNums .i64 w S v zs) :
    Calls Try.prog 20 #[v] w fun e w' => e = .returned (.int .i64 (manyL zs)) ∧ Below w.heap.size w w' := by
  have hl := h.le
  obtain ⟨A, c, rfl, _, _, hA⟩ := h
  have HA := hid hA
  clear hA
  go_enter Try.func20, Try.ntmps20
  go_wp2_with fail
  go_loop [3, 4] (fun m i => ∃ (k : Nat) (n : Int), k ≤ zs.length ∧ i = .int .i64 k ∧ m = .int .i64 n ∧ 0 ≤ n ∧ n ≤ k ∧ Hid (manyAux (zs.take k) = some n)) (fun _ i => zs.length - (intOf i).toNat)
  case atStart => exact ⟨0, 0, by omega, rfl, rfl, by omega, by omega, rfl⟩
  case round =>
    obtain ⟨k, n, hk, rfl, rfl, hn0, hn1, hT⟩ := hrel
    by_cases hlt : k < zs.length
    · obtain ⟨b, o, rfl, _, hb, hc⟩ := HA.out.num hlt
      have hst := hid (show manyAux (zs.take (k + 1)) = manyStep (some n) (nth zs k) by rw [take_nth hlt, manyAux_snoc, hT.out])
      by_cases hz : nth zs k < 0
      · have hr2 := hid (show manyL zs = 0 by
          unfold manyL
          rw [manyAux_none (k := k + 1) (by rw [hst.out]; simp [manyStep, hz])]; simp)
        go_wp2
        go_ret
        exact ⟨ret_int hr2.out.symm, Below.refl _ _⟩
      · by_cases hz2 : n < nth zs k
        · have hr2 := hid (show manyL zs = 0 by
            unfold manyL
            rw [manyAux_none (k := k + 1) (by rw [hst.out]; simp [manyStep, hz2])]; simp)
          go_wp2
          go_ret
          exact ⟨ret_int hr2.out.symm, Below.refl _ _⟩
        · have hs2 := hid (show manyAux (zs.take (k + 1)) = some (if n < nth zs k + 1 then nth zs k + 1 else n) by
            rw [hst.out]; simp [manyStep, hz, hz2])
          have hz3 : 0 ≤ nth zs k := by omega
          have hz4 : nth zs k ≤ 9223372036854775806 := by omega
          go_wp2
          go_round
          case rel => exact ⟨k + 1, _, by omega, by go_num, rfl, by split <;> omega, by split <;> omega, hs2⟩
          case measure => simp [intOf]; omega
    · obtain rfl : k = zs.length := by omega
      have hr2 := hid (show manyL zs = if zs.length = 37 then n else 0 by
        have := hT.out
        rw [List.take_length] at this
        unfold manyL; rw [this]; rfl)
      by_cases h37 : zs.length = 37
      · have h1 : ((zs.length : Int) != 37) = false := ine_false (by omega)
        have hr3 := hid (show manyL zs = n by rw [hr2.out, if_pos h37])
        clear h37
        go_wp2
        go_ret
        exact ⟨ret_int hr3.out.symm, Below.refl _ _⟩
      · have h1 : ((zs.length : Int) != 37) = true := ine_true (by omega)
        have hr3 := hid (show manyL zs = 0 by rw [hr2.out, if_neg h37])
        clear h37
        go_wp2
        go_ret
        exact ⟨ret_int hr3.out.symm, Below.refl _ _⟩
end Go.Proofs.Ytmdkmobcglnmgaa
