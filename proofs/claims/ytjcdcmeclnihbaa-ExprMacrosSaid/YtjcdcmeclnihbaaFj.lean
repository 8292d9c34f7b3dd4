/- Whether an expression's nodes fit, and whether it is right: what the program's fits and Right return. Conditions: none. -/
import Derived.Test.YtjcdcmeclnihbaaFi
namespace Go.Proofs.Ytjcdcmeclnihbaa
open Go.RowKit

set_option maxRecDepth 100000 in
set_option maxHeartbeats 1000000 in
theorem indexFits_any (S : Nat → Prop) (d : Nat) (IH : Hid (FitsIH S d)) (A : Option Addr) (c : Nat) (l : List (Tr d)) (w : World) (h : Row3 (IsTr w S d) w S A l) (hle : l.length ≤ 9223372036854775807) :
    Calls Try.prog 97 #[.slice A l.length c, .func (.func 91) #[] #[]] w fun e w' => e = .returned (.int .i64 (idx (fun t => !fitsT d true t) 0 l)) ∧ Below w.heap.size w w' := by
  have HK := hid h
  clear h
  go_enter Try.func97, Try.ntmps97
  go_wp2_with fail
  go_loopw [8] (fun s8 wr => ∃ k : Nat, k ≤ l.length ∧ s8 = .int .i64 k ∧ Hid (idx (fun t => !fitsT d true t) k (l.drop k) = idx (fun t => !fitsT d true t) 0 l) ∧ Hid (Below w.heap.size w wr)) (fun s8 _ => l.length - (intOf s8).toNat)
  case atStart => exact ⟨0, by omega, rfl, rfl, hid (Below.refl _ _)⟩
  case round =>
    obtain ⟨k, hk, rfl, HT, HW⟩ := hrel
    by_cases hlt : k < l.length
    · obtain ⟨b, o, v0, v1, v2, rfl, -, hbs, c0, c1, c2, ht⟩ := (HK.out.below HW.out).at (List.getElem?_eq_getElem hlt)
      have HTr := hid ht
      clear ht
      cases hf : fitsT d true l[k] with
      | true =>
        have HN := hid (show idx (fun t => !fitsT d true t) (k + 1) (l.drop (k + 1)) = idx (fun t => !fitsT d true t) 0 l by
          rw [← HT.out, List.drop_eq_getElem_cons hlt]; simp only [idx]; rw [if_neg (by simp [hf])])
        have HF := hid hf
        clear hf
        go_wp2_with (go_at_call 91; refine (fits1_any S d IH _ _ _ HTr.out).mono ?_; rintro e w1 ⟨rfl, hb1⟩; rw [HF.out])
        go_roundw
        case rel => exact ⟨k + 1, by omega, by go_num, HN, hid (HW.out.trans (hb1.mono HW.out.size))⟩
        case measure => simp [intOf]; omega
      | false =>
        have HN := hid (show (k : Int) = idx (fun t => !fitsT d true t) 0 l by
          rw [← HT.out, List.drop_eq_getElem_cons hlt]; simp only [idx]; rw [if_pos (by simp [hf])])
        have HF := hid hf
        clear hf
        go_wp2_with (go_at_call 91; refine (fits1_any S d IH _ _ _ HTr.out).mono ?_; rintro e w1 ⟨rfl, hb1⟩; rw [HF.out])
        go_ret
        exact ⟨ret_int HN.out, HW.out.trans (hb1.mono HW.out.size)⟩
    · have HN := hid (show (-1 : Int) = idx (fun t => !fitsT d true t) 0 l by
        rw [← HT.out, List.drop_eq_nil_of_le (by omega)]; rfl)
      go_wp2_with fail
      go_ret
      exact ⟨ret_int HN.out, HW.out⟩

set_option maxRecDepth 100000 in
theorem containsFits_any (S : Nat → Prop) (d : Nat) (IH : Hid (FitsIH S d)) (A : Option Addr) (c : Nat) (l : List (Tr d)) (w : World) (h : Row3 (IsTr w S d) w S A l) (hle : l.length ≤ 9223372036854775807) :
    Calls Try.prog 90 #[.slice A l.length c, .func (.func 91) #[] #[]] w fun e w' => e = .returned (.bool (l.any fun t => !fitsT d true t)) ∧ Below w.heap.size w w' := by
  go_enter Try.func90, Try.ntmps90
  go_wp2_with fail
  refine (indexFits_any S d IH A c l _ h hle).mono ?_
  rintro e w1 ⟨rfl, hb1⟩
  go_wp2_with fail
  go_ret
  exact ⟨ret_bool (idx_any _ _ _), hb1⟩
end Go.Proofs.Ytjcdcmeclnihbaa
