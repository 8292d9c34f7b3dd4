/- Whether a number is in a list: the library's Index and Contains. Conditions: none. -/
import Derived.Test.YtehchnagjdmdgaaBg
import Derived.Test.YtehchnagjdmdgaaBaseC
import Derived.Lib.Strings
namespace Go.Proofs.Ytehchnagjdmdgaa
open Go.RowKit
def idx {T : Type} (p : T → Bool) : Nat → List T → Int
  | _, [] => -1
  | k, x :: r => if p x = true then (k : Int) else idx p (k + 1) r
theorem idx_pos {T : Type} (p : T → Bool) (l : List T) : ∀ k : Nat, (0 : Int) ≤ idx p k l ↔ l.any p = true := by
  induction l with
  | nil => intro k; simp [idx]
  | cons x r ih =>
    intro k
    by_cases h : p x = true
    · simp [idx, h]
    · simp [idx, h, ih (k + 1)]
theorem idx_any {T : Type} (p : T → Bool) (l : List T) (k : Nat) : decide ((0 : Int) ≤ idx p k l) = l.any p := by
  have h := idx_pos p l k
  cases e : l.any p with
  | true => simpa using h.2 e
  | false => rw [e] at h; simpa using h
def inL (l : List Int) (c : Int) : Bool := l.any fun x => x == c
theorem idx_drop {T : Type} {p : T → Bool} {l : List T} {k : Nat} (hk : k < l.length) : idx p k (l.drop k) = if p l[k] = true then (k : Int) else idx p (k + 1) (l.drop (k + 1)) := by
  rw [List.drop_eq_getElem_cons hk]; rfl
theorem nth_get {l : List Int} {k : Nat} (hk : k < l.length) : nth l k = l[k] := by simp [nth, List.getElem?_eq_getElem hk]
set_option maxRecDepth 100000 in
set_option maxHeartbeats 1000000 in
theorem index_int (S : Nat → Prop) (v : Value) (l : List Int) (c : Int) (w : World) (h : IsNums .i64 w S v l) :
    Calls Try.prog 43 #[v, .int .i64 c] w fun e w' => e = .returned (.int .i64 (idx (fun x => c == x) 0 l)) ∧ w' = w := by
  have hle := h.le
  obtain ⟨A, cp, rfl, -, -, hA⟩ := h
  have HA := hid hA
  clear hA
  go_enter Try.func43, Try.ntmps43
  go_wp2_with fail
  go_loopw [5, 8] (fun _ s8 wr => ∃ k : Nat, k ≤ l.length ∧ s8 = .int .i64 k ∧ Hid (idx (fun x => c == x) k (l.drop k) = idx (fun x => c == x) 0 l) ∧ wr = w) (fun _ s8 _ => l.length - (intOf s8).toNat)
  case atStart => exact ⟨0, by omega, rfl, hid rfl, rfl⟩
  case round =>
    obtain ⟨k, hk, rfl, HT, rfl⟩ := hrel
    by_cases hlt : k < l.length
    · obtain ⟨b, o, rfl, -, hbs, hc⟩ := HA.out.num hlt
      obtain ⟨z, hz⟩ : ∃ z, z = nth l k := ⟨_, rfl⟩
      rw [← hz] at hc
      have hst := (idx_drop (p := fun x => c == x) hlt).symm.trans HT.out
      rw [← nth_get hlt, ← hz] at hst
      have HST := hid hst
      clear hst hz
      cases hcz : (c == z) with
      | true =>
        have HE := hid (show (k : Int) = idx (fun x => c == x) 0 l by have h := HST.out; rw [hcz] at h; exact h)
        go_wp2_with fail
        go_ret
        exact ⟨ret_int HE.out, rfl⟩
      | false =>
        have HN := hid (show idx (fun x => c == x) (k + 1) (l.drop (k + 1)) = idx (fun x => c == x) 0 l by have h := HST.out; rw [hcz] at h; exact h)
        go_wp2_with fail
        go_roundw
        case rel => exact ⟨k + 1, by omega, by go_num, HN, trivial⟩
        case measure => simp [intOf]; omega
    · have HE := hid (show (-1 : Int) = idx (fun x => c == x) 0 l by rw [← HT.out, List.drop_eq_nil_of_le (by omega)]; rfl)
      go_wp2_with fail
      go_ret
      exact ⟨ret_int HE.out, rfl⟩
set_option maxRecDepth 100000 in
theorem contains_int (S : Nat → Prop) (v : Value) (l : List Int) (c : Int) (w : World) (h : IsNums .i64 w S v l) :
    Calls Try.prog 34 #[v, .int .i64 c] w fun e w' => e = .returned (.bool (inL l c)) ∧ w' = w := by
  obtain ⟨A, cp, rfl⟩ := h.form
  go_enter Try.func34, Try.ntmps34
  go_wp2_with fail
  refine (index_int S _ l c _ h).mono ?_
  rintro e w1 ⟨rfl, rfl⟩
  go_wp2_with fail
  go_ret
  exact ⟨ret_bool (by rw [idx_any]; unfold inL; congr 1; funext x; exact Bool.eq_iff_iff.2 (by simp; exact eq_comm)), rfl⟩
end Go.Proofs.Ytehchnagjdmdgaa
