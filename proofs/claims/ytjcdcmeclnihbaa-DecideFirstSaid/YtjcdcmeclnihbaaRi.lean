/- Whether a list of classes rises: the program's rises and the document's. Conditions: none. -/
import Derived.Test.YtjcdcmeclnihbaaFl
import Derived.Deep.QuietTactic
import Derived.BigQuiet
namespace Go.Proofs.Ytjcdcmeclnihbaa
open Go.RowKit
/-- Whether a list rises, of classes, behind one or none. -/
def risesL : Option Int → List Int → Bool
  | _, [] => true
  | p, c :: r => decide (0 ≤ c) && decide (c < 36) && (match p with | none => true | some q => decide (q < c)) && risesL (some c) r
def risesB (l : List Int) : Bool := risesL none l
def prevOf (l : List Int) (k : Nat) : Option Int := if k = 0 then none else some (nth l (k - 1))
theorem rises_step {l : List Int} {k : Nat} (hk : k < l.length) (h0 : 0 ≤ nth l k) (h1 : nth l k < 36) (h2 : ∀ j, k = j + 1 → nth l j < nth l k) : risesL (prevOf l k) (l.drop k) = risesL (prevOf l (k + 1)) (l.drop (k + 1)) := by
  have hp : prevOf l (k + 1) = some (nth l k) := by simp [prevOf]
  rw [hp, drop_nth hk]
  simp only [risesL]
  rw [decide_eq_true h0, decide_eq_true h1]
  cases k with
  | zero => simp [prevOf]
  | succ j =>
    have : prevOf l (j + 1) = some (nth l j) := by simp [prevOf]
    rw [this]
    simp only [decide_eq_true (h2 j rfl), Bool.true_and]
theorem rises_out {l : List Int} {k : Nat} (hk : k < l.length) (h : nth l k < 0 ∨ 36 ≤ nth l k ∨ ∃ j, k = j + 1 ∧ nth l k ≤ nth l j) : risesL (prevOf l k) (l.drop k) = false := by
  rw [drop_nth hk]
  simp only [risesL]
  rcases h with h | h | ⟨j, rfl, h⟩
  · rw [decide_eq_false (p := 0 ≤ nth l k) (by omega)]; rfl
  · rw [decide_eq_false (p := nth l k < 36) (by omega)]; simp
  · have : prevOf l (j + 1) = some (nth l j) := by simp [prevOf]
    rw [this]
    simp only []
    rw [decide_eq_false (p := nth l j < nth l (j + 1)) (by omega)]; simp

set_option maxRecDepth 100000 in
set_option maxHeartbeats 4000000 in
theorem rises_any (S : Nat → Prop) (v : Value) (l : List Int) (w : World) (h : IsNums .i64 w S v l) :
    Calls Try.prog 45 #[v] w fun e w' => e = .returned (.bool (risesB l)) ∧ Below w.heap.size w w' := by
  have hle := h.le
  obtain ⟨A, c, rfl, -, -, hA⟩ := h
  have HA := hid hA
  clear hA
  go_enter Try.func45, Try.ntmps45
  go_wp2_with fail
  go_loopw [3, 4, 7] (fun _s3 _s4 s7 wr => ∃ k : Nat, k ≤ l.length ∧ s7 = .int .i64 k ∧ Hid (risesL (prevOf l k) (l.drop k) = risesB l) ∧ Hid (Below w.heap.size w wr)) (fun _ _ s7 _ => l.length - (intOf s7).toNat)
  case atStart => exact ⟨0, by omega, rfl, hid rfl, hid (Below.refl _ _)⟩
  case round =>
    obtain ⟨k, hk, rfl, HT, HW⟩ := hrel
    by_cases hlt : k < l.length
    · obtain ⟨b, o, rfl, -, hbs, hc⟩ := (Arr.below HA.out HW.out).num hlt
      obtain ⟨z, hz⟩ : ∃ z, z = nth l k := ⟨_, rfl⟩
      rw [← hz] at hc
      by_cases h1 : z < 0
      · have b1 := ilt_true h1
        have HE := hid ((rises_out hlt (.inl (by rw [← hz]; exact h1))).symm.trans HT.out)
        clear hz h1
        go_wp2_with fail
        go_ret
        exact ⟨ret_bool HE.out, HW.out⟩
      have b1 := ilt_false h1
      by_cases h2 : 36 ≤ z
      · have b2 := ile_true h2
        have HE := hid ((rises_out hlt (.inr (.inl (by rw [← hz]; exact h2)))).symm.trans HT.out)
        clear hz h1 h2
        go_wp2_with fail
        go_ret
        exact ⟨ret_bool HE.out, HW.out⟩
      have b2 := ile_false h2
      cases k with
      | zero =>
        replace hc := (show wr.cell? ⟨b, o, none⟩ = some (.int .i64 z) from hc)
        have HN := hid ((rises_step hlt (by omega) (by omega) (fun j e => by cases e)).symm.trans HT.out)
        clear hz h1 h2
        go_wp2_with fail
        go_roundw
        case rel => exact ⟨1, by omega, by go_num, HN, hid (HW.out)⟩
        case measure => simp [intOf]; omega
      | succ j =>
        obtain ⟨b', o', e', -, -, hc'⟩ := (Arr.below HA.out HW.out).num (j := j) (by omega)
        cases e'
        obtain ⟨y, hy⟩ : ∃ y, y = nth l j := ⟨_, rfl⟩
        rw [← hy] at hc'
        have b3 := ilt_true (show (0 : Int) < ((j + 1 : Nat) : Int) by omega)
        by_cases h3 : z ≤ y
        · have b4 := ile_true h3
          have HE := hid ((rises_out hlt (.inr (.inr ⟨j, rfl, by rw [← hz, ← hy]; exact h3⟩))).symm.trans HT.out)
          clear hz h1 h2 h3 hy
          go_wp2_with fail
          go_ret
          exact ⟨ret_bool HE.out, HW.out⟩
        · have b4 := ile_false h3
          have HN := hid ((rises_step hlt (by omega) (by omega) (fun i e => by cases e; omega)).symm.trans HT.out)
          clear hz h1 h2 h3 hy
          go_wp2_with fail
          go_roundw
          case rel => exact ⟨j + 1 + 1, by omega, by go_num, HN, hid (HW.out)⟩
          case measure => simp [intOf]; omega
    · have HE := hid (show true = risesB l by rw [← HT.out, List.drop_eq_nil_of_le (by omega)]; rfl)
      go_wp2_with fail
      go_ret
      exact ⟨ret_bool HE.out, HW.out⟩

set_option maxRecDepth 100000 in
set_option maxHeartbeats 4000000 in
theorem rrises_any (S : Nat → Prop) (v : Value) (l : List Int) (w : World) (h : IsNums .i64 w S v l) :
    Calls Try.prog 66 #[v] w fun e w' => e = .returned (.bool (risesB l)) ∧ Below w.heap.size w w' := by
  have hle := h.le
  obtain ⟨A, c, rfl, -, -, hA⟩ := h
  have HA := hid hA
  clear hA
  go_enter Try.func66, Try.ntmps66
  go_wp2_with fail
  go_loopw [3] (fun s3 wr => ∃ k : Nat, k ≤ l.length ∧ s3 = .int .i64 k ∧ Hid (risesL (prevOf l k) (l.drop k) = risesB l) ∧ Hid (Below w.heap.size w wr)) (fun s3 _ => l.length - (intOf s3).toNat)
  case atStart => exact ⟨0, by omega, rfl, hid rfl, hid (Below.refl _ _)⟩
  case round =>
    obtain ⟨k, hk, rfl, HT, HW⟩ := hrel
    by_cases hlt : k < l.length
    · obtain ⟨b, o, rfl, -, hbs, hc⟩ := (Arr.below HA.out HW.out).num hlt
      obtain ⟨z, hz⟩ : ∃ z, z = nth l k := ⟨_, rfl⟩
      rw [← hz] at hc
      by_cases h1 : z < 0
      · have b1 := ilt_true h1
        have HE := hid ((rises_out hlt (.inl (by rw [← hz]; exact h1))).symm.trans HT.out)
        clear hz h1
        go_wp2_with fail
        go_quiet (fail)
        go_wp2_with fail
        go_ret
        exact ⟨ret_bool HE.out, below_drewN HW.out _⟩
      have b1 := ilt_false h1
      by_cases h2 : 36 ≤ z
      · have b2 := ilt_true (show (35 : Int) < z by omega)
        have HE := hid ((rises_out hlt (.inr (.inl (by rw [← hz]; exact h2)))).symm.trans HT.out)
        clear hz h1 h2
        go_wp2_with fail
        go_quiet (fail)
        go_wp2_with fail
        go_ret
        exact ⟨ret_bool HE.out, below_drewN HW.out _⟩
      have b2 := ilt_false (show ¬ (35 : Int) < z by omega)
      cases k with
      | zero =>
        replace hc := (show wr.cell? ⟨b, o, none⟩ = some (.int .i64 z) from hc)
        have HN := hid ((rises_step hlt (by omega) (by omega) (fun j e => by cases e)).symm.trans HT.out)
        clear hz h1 h2
        go_wp2_with fail
        go_quiet (fail)
        go_wp2_with fail
        go_roundw
        case rel => exact ⟨1, by omega, by go_num, HN, hid (below_drewN HW.out _)⟩
        case measure => simp [intOf]; omega
      | succ j =>
        obtain ⟨b', o', e', -, -, hc'⟩ := (Arr.below HA.out HW.out).num (j := j) (by omega)
        cases e'
        obtain ⟨y, hy⟩ : ∃ y, y = nth l j := ⟨_, rfl⟩
        rw [← hy] at hc'
        have b3 := ilt_true (show (0 : Int) < ((j + 1 : Nat) : Int) by omega)
        by_cases h3 : z ≤ y
        · have b4 := ile_true h3
          have HE := hid ((rises_out hlt (.inr (.inr ⟨j, rfl, by rw [← hz, ← hy]; exact h3⟩))).symm.trans HT.out)
          clear hz h1 h2 h3 hy
          go_wp2_with fail
          go_quiet (fail)
          go_wp2_with fail
          go_ret
          exact ⟨ret_bool HE.out, below_drewN HW.out _⟩
        · have b4 := ile_false h3
          have HN := hid ((rises_step hlt (by omega) (by omega) (fun i e => by cases e; omega)).symm.trans HT.out)
          clear hz h1 h2 h3 hy
          go_wp2_with fail
          go_quiet (fail)
          go_wp2_with fail
          go_roundw
          case rel => exact ⟨j + 1 + 1, by omega, by go_num, HN, hid (below_drewN HW.out _)⟩
          case measure => simp [intOf]; omega
    · have HE := hid (show true = risesB l by rw [← HT.out, List.drop_eq_nil_of_le (by omega)]; rfl)
      go_wp2_with fail
      go_ret
      exact ⟨ret_bool HE.out, HW.out⟩

end Go.Proofs.Ytjcdcmeclnihbaa
