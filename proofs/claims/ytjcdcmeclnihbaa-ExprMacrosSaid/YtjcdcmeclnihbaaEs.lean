/- How many nodes an expression has, up to some and one: the program's size. Condition: the bound is within what is asked. -/
import Derived.Test.YtjcdcmeclnihbaaSz
namespace Go.Proofs.Ytjcdcmeclnihbaa
open Go.RowKit

set_option maxRecDepth 100000 in
set_option maxHeartbeats 1000000 in
theorem esize_any (S : Nat → Prop) : ∀ (d : Nat) (v : Value) (t : Tr d) (most : Int) (w : World), IsTr w S d v t → 0 ≤ most → most ≤ 1000000 →
    Calls Try.prog 55 #[v, .int .i64 most] w fun e w' => e = .returned (.int .i64 (sizeT d most t)) ∧ Below w.heap.size w w' := by
  intro d
  induction d with
  | zero => intro v t; exact t.elim
  | succ d ih =>
    intro v t most w h hm0 hm1
    obtain ⟨A, c, rfl, hle, hkids⟩ := h.open
    obtain ⟨kd, hkd⟩ : ∃ kd, kd = Tr.kind t := ⟨_, rfl⟩
    obtain ⟨cl, hcl⟩ : ∃ cl, cl = Tr.cls t := ⟨_, rfl⟩
    rw [← hkd, ← hcl]
    clear hkd hcl h
    obtain ⟨l, hl⟩ : ∃ l, l = Tr.kids t := ⟨_, rfl⟩
    have hres := hid (show sizeT (d + 1) most t = sizeL (fun m k => sizeT d m k) most 1 l by rw [hl]; rfl)
    rw [← hl] at hle hkids ⊢
    clear hl
    obtain ⟨W, hW0⟩ : ∃ W, W = w.alloc (.cells #[.int .i64 kd, .int .i64 cl, .slice A l.length c] 45) := ⟨_, rfl⟩
    have hWb : Below w.heap.size w W := by rw [hW0]; exact (Below.refl _ _).alloc (Nat.le_refl _) _
    have q0 : W.heap[w.heap.size]? = some (.cells #[.int .i64 kd, .int .i64 cl, .slice A l.length c] 45 (0, 0)) := by rw [hW0]; exact heap_alloc_new _ _
    have HC := hid (show ∀ Y, Below W.heap.size W Y → Y.cell? ⟨w.heap.size, 2, none⟩ = some (.slice A l.length c) from fun Y hY => by
      have h2 := (hY.block _ (by rw [hW0]; simp)).trans q0
      rw [cell_of_row _ _ _ _ _ _ h2]; rfl)
    have HB := hid hWb
    have HK := hid (hkids.below hWb)
    have IH := hid ih
    clear q0 hWb hkids ih
    go_enter Try.func55, Try.ntmps55
    go_wp2_with fail
    rw [← hW0]
    clear hW0
    go_wp2_with fail
    go_loopw [5, 11] (fun s5 s6 wr => ∃ (k : Nat) (z : Int), k ≤ l.length ∧ s6 = .int .i64 k ∧ s5 = .int .i64 z ∧ 1 ≤ z ∧ z ≤ most + 1 ∧ Hid (sizeL (fun m k => sizeT d m k) most z (l.drop k) = sizeT (d + 1) most t) ∧ Hid (Below W.heap.size W wr)) (fun _ s6 _ => l.length - (intOf s6).toNat)
    case atStart => exact ⟨0, 1, by omega, rfl, rfl, by omega, by omega, hid hres.out.symm, hid (Below.refl _ _)⟩
    case round =>
      obtain ⟨k, z, hk, rfl, rfl, hz0, hz1, HT, HW⟩ := hrel
      have f2 := HC.out _ HW.out
      by_cases hlt : k < l.length
      · obtain ⟨b, o, v0, v1, v2, rfl, -, hbs, c0, c1, c2, ht⟩ := (HK.out.below HW.out).at (List.getElem?_eq_getElem hlt)
        obtain ⟨k0, k1, A2, n2, cp2, rfl, rfl, rfl⟩ := ht.cells
        have HTr := hid ht
        clear ht
        by_cases hzm : z ≤ most
        · go_wp2_with fail
          obtain ⟨X, hX⟩ : ∃ X, X = wr.alloc (.cells #[.int .i64 k0, .int .i64 k1, .slice A2 n2 cp2] 45) := ⟨_, rfl⟩
          have HX := hid (show Below wr.heap.size wr X by rw [hX]; exact (Below.refl _ _).alloc (Nat.le_refl _) _)
          have HTX := hid (HTr.out.below HX.out)
          rw [← hX]
          clear hX
          refine (IH.out _ _ _ _ HTX.out (by omega) (by omega)).mono ?_
          rintro e w1 ⟨rfl, hb1⟩
          have hbd := sizeT_bd d (most - z) l[k] (by omega)
          have HN := hid (show sizeL (fun m k => sizeT d m k) most (z + sizeT d (most - z) l[k]) (l.drop (k + 1)) = sizeT (d + 1) most t by
            rw [← HT.out, List.drop_eq_getElem_cons hlt]; simp only [sizeL]; rw [if_pos hzm])
          obtain ⟨q, hq⟩ : ∃ q, q = sizeT d (most - z) l[k] := ⟨_, rfl⟩
          rw [← hq] at hbd HN ⊢
          clear hq
          go_wp2_with fail
          go_roundw
          case rel => exact ⟨k + 1, z + q, by omega, by go_num, rfl, by omega, by omega, HN, hid (HW.out.trans ((HX.out.trans (hb1.mono HX.out.size)).mono HW.out.size))⟩
          case measure => simp [intOf]; omega
        · have HE := hid (show sizeT (d + 1) most t = z by
            rw [← HT.out, List.drop_eq_getElem_cons hlt]; simp only [sizeL]; rw [if_neg hzm])
          go_wp2_with fail
          go_ret
          exact ⟨ret_int HE.out.symm, HB.out.trans ((HW.out.alloc HW.out.size _).mono HB.out.size)⟩
      · have HE := hid (show sizeT (d + 1) most t = z by
          rw [← HT.out, List.drop_eq_nil_of_le (by omega)]; rfl)
        go_wp2_with fail
        go_ret
        exact ⟨ret_int HE.out.symm, HB.out.trans (HW.out.mono HB.out.size)⟩
end Go.Proofs.Ytjcdcmeclnihbaa
