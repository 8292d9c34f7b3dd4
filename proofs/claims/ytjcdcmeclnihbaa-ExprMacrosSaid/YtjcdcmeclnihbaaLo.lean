/- How long the longest list is: the document's Longest. Condition: no more nodes than there may be. -/
import Derived.Test.YtjcdcmeclnihbaaCn
namespace Go.Proofs.Ytjcdcmeclnihbaa
open Go.RowKit
/-- How long the longest list is, of parts one behind the other, or of one of them. -/
def longL {T : Type} (f : T → Int) (seq : Bool) : Int → List T → Int
  | z, [] => z
  | z, k :: r => if f k < 0 then -1 else longL f seq (if seq = true then z + f k else max z (f k)) r
def longT : (d : Nat) → Tr d → Int
  | 0, _ => 0
  | d + 1, t => if Tr.kind t = 6 ∨ Tr.kind t = 7 then -1 else if Tr.kind t < 4 then 1 else longL (fun k => longT d k) (decide (Tr.kind t = 4)) 0 (Tr.kids t)
theorem longL_bd {T : Type} {f : T → Int} {c : T → Nat} {seq : Bool} (hf : ∀ k, -1 ≤ f k ∧ f k ≤ c k) (l : List T) : ∀ z : Int, 0 ≤ z → -1 ≤ longL f seq z l ∧ longL f seq z l ≤ z + cntL c l := by
  induction l with
  | nil => intro z h; simp only [longL, cntL]; omega
  | cons k r ih =>
    intro z h
    have hk := hf k
    simp only [longL, cntL]
    split
    · omega
    · have h2 := ih (if seq = true then z + f k else max z (f k)) (by split <;> omega)
      refine ⟨h2.1, Int.le_trans h2.2 ?_⟩
      split <;> omega
theorem longT_bd : ∀ (d : Nat) (t : Tr d), -1 ≤ longT d t ∧ longT d t ≤ cnt d t := by
  intro d
  induction d with
  | zero => intro t; exact t.elim
  | succ d ih =>
    intro t
    simp only [longT, cnt]
    split
    · omega
    · split
      · omega
      · have H := longL_bd (f := fun k => longT d k) (c := fun k => cnt d k) (seq := decide (Tr.kind t = 4)) ih (Tr.kids t) 0 (by omega)
        exact ⟨H.1, by have := H.2; omega⟩
theorem max_if (y q : Int) : (if y < q then q else y) = max y q := by simp only [Int.max_def]; split <;> split <;> omega
set_option maxRecDepth 100000 in
set_option maxHeartbeats 2000000 in
theorem rlongest_any (S : Nat → Prop) : ∀ (d : Nat) (v : Value) (t : Tr d) (w : World), IsTr w S d v t → cnt d t ≤ 2000 →
    Calls Try.prog 86 #[v] w fun e w' => e = .returned (.int .i64 (longT d t)) ∧ Below w.heap.size w w' := by
  intro d
  induction d with
  | zero => intro v t; exact t.elim
  | succ d ih =>
    intro v t w h hn
    obtain ⟨A, c, rfl, hle, hkids⟩ := h.open
    obtain ⟨kd, hkd⟩ : ∃ kd, kd = Tr.kind t := ⟨_, rfl⟩
    obtain ⟨cl, hcl⟩ : ∃ cl, cl = Tr.cls t := ⟨_, rfl⟩
    obtain ⟨l, hl⟩ : ∃ l, l = Tr.kids t := ⟨_, rfl⟩
    have hres := hid (show longT (d + 1) t = if kd = 6 ∨ kd = 7 then -1 else if kd < 4 then 1 else longL (fun k => longT d k) (decide (kd = 4)) 0 l by rw [hkd, hl]; rfl)
    have HN := hid (show cntL (fun k => cnt d k) l ≤ 2000 by rw [hl]; simp only [cnt] at hn; omega)
    rw [← hkd, ← hcl]
    rw [← hl] at hle hkids ⊢
    clear hkd hcl h hl hn
    obtain ⟨W, hW0⟩ : ∃ W, W = w.alloc (.cells #[.int .i64 kd, .int .i64 cl, .slice A l.length c] 51) := ⟨_, rfl⟩
    have HX := hid (box3 hW0)
    have HK := hid (hkids.below HX.out.1)
    have IH := hid ih
    clear hkids ih
    by_cases h6 : kd = 6
    · subst h6
      have HE := hid (show (-1 : Int) = longT (d + 1) t by rw [hres.out]; rfl)
      go_enter Try.func86, Try.ntmps86
      go_wp2_with fail
      go_ret
      exact ⟨ret_int HE.out, by rw [← hW0]; exact HX.out.1⟩
    by_cases h7 : kd = 7
    · subst h7
      have HE := hid (show (-1 : Int) = longT (d + 1) t by rw [hres.out]; rfl)
      go_enter Try.func86, Try.ntmps86
      go_wp2_with fail
      go_ret
      exact ⟨ret_int HE.out, by rw [← hW0]; exact HX.out.1⟩
    have b6 := ieq_false h6
    have b7 := ieq_false h7
    by_cases h4 : kd < 4
    · have b4 := ilt_true h4
      have HE := hid (show (1 : Int) = longT (d + 1) t by rw [hres.out, if_neg (by omega), if_pos h4])
      clear h6 h7 h4
      go_enter Try.func86, Try.ntmps86
      go_wp2_with fail
      go_ret
      exact ⟨ret_int HE.out, by rw [← hW0]; exact HX.out.1⟩
    have b4 := ilt_false h4
    obtain ⟨sq, hsq⟩ : ∃ sq, sq = decide (kd = 4) := ⟨_, rfl⟩
    have hr2 := hid (show longT (d + 1) t = longL (fun k => longT d k) sq 0 l by rw [hres.out, if_neg (by omega), if_neg h4, hsq])
    have bq : (kd == 4) = sq := by rw [hsq]; rfl
    clear h6 h7 h4 hsq hres
    have HL := hid hle
    go_enter Try.func86, Try.ntmps86
    go_wp2_with fail
    rw [← hW0]
    clear hW0
    obtain ⟨i0, i1, i2⟩ := HX.out.2 W (Below.refl _ _)
    go_wp2_with fail
    go_loopw [3, 4, 5, 6] (fun s3 s4 s5 _s6 wr => ∃ (k : Nat) (z y : Int), k ≤ l.length ∧ s5 = .int .i64 k ∧ s3 = .int .i64 z ∧ s4 = .int .i64 y ∧ 0 ≤ z ∧ 0 ≤ y ∧ z + cntL (fun k => cnt d k) (l.drop k) ≤ 2000 ∧ y ≤ 2000 ∧
      Hid (longL (fun k => longT d k) true z (l.drop k) = longL (fun k => longT d k) true 0 l) ∧ Hid (longL (fun k => longT d k) false y (l.drop k) = longL (fun k => longT d k) false 0 l) ∧ Hid (Below W.heap.size W wr)) (fun _ _ s5 _ _ => l.length - (intOf s5).toNat)
    case atStart => exact ⟨0, 0, 0, by omega, rfl, rfl, rfl, by omega, by omega, by have := HN.out; rw [List.drop_zero]; omega, by omega, hid rfl, hid rfl, hid (Below.refl _ _)⟩
    case round =>
      obtain ⟨k, z, y, hk, rfl, rfl, rfl, hz0, hy0, hz1, hy1, HT, HU, HW⟩ := hrel
      have HZ := hid hz1
      clear hz1
      obtain ⟨f0, f1, f2⟩ := HX.out.2 _ HW.out
      clear i0 i1 i2
      by_cases hlt : k < l.length
      · obtain ⟨b, o, v0, v1, v2, rfl, -, hbs, c0, c1, c2, ht⟩ := (HK.out.below HW.out).at (List.getElem?_eq_getElem hlt)
        have HTr := hid ht
        clear ht
        have HC := hid (cntL_drop (f := fun k => cnt d k) hlt)
        obtain ⟨q, hq⟩ : ∃ q, q = longT d l[k] := ⟨_, rfl⟩
        have hqb := longT_bd d l[k]
        rw [← hq] at hqb
        by_cases hneg : q < 0
        · have bn := ilt_true hneg
          have HE1 := hid (show longL (fun k => longT d k) true 0 l = -1 by
            rw [← HT.out, List.drop_eq_getElem_cons hlt]; simp only [longL]; rw [← hq, if_pos hneg])
          have HE2 := hid (show longL (fun k => longT d k) false 0 l = -1 by
            rw [← HU.out, List.drop_eq_getElem_cons hlt]; simp only [longL]; rw [← hq, if_pos hneg])
          go_wp2_with fail
          refine (IH.out _ _ _ HTr.out (by have := HC.out; have := HZ.out; omega)).mono ?_
          rintro e w1 ⟨rfl, hb1⟩
          rw [← hq]
          clear hq hqb hneg
          go_wp2_with fail
          go_ret
          refine ⟨ret_int ?_, HX.out.1.trans ((HW.out.trans (hb1.mono HW.out.size)).mono HX.out.1.size)⟩
          rw [hr2.out]
          cases sq with
          | true => exact HE1.out.symm
          | false => exact HE2.out.symm
        · have bn := ilt_false hneg
          have HN1 := hid (show longL (fun k => longT d k) true (z + q) (l.drop (k + 1)) = longL (fun k => longT d k) true 0 l by
            rw [← HT.out, List.drop_eq_getElem_cons hlt]; simp only [longL]; rw [← hq, if_neg hneg]; rfl)
          have HN2 := hid (show longL (fun k => longT d k) false (max y q) (l.drop (k + 1)) = longL (fun k => longT d k) false 0 l by
            rw [← HU.out, List.drop_eq_getElem_cons hlt]; simp only [longL]; rw [← hq, if_neg hneg]; rfl)
          have hz2 := hid (show 0 ≤ z + q ∧ z + q + cntL (fun k => cnt d k) (l.drop (k + 1)) ≤ 2000 ∧ 0 ≤ q ∧ q ≤ 2000 by have := HC.out; have := HZ.out; omega)
          have hz3 : z + q ≤ 2000 := by have := hz2.out; omega
          have hz4 : 0 ≤ q := hz2.out.2.2.1
          go_wp2_with fail
          refine (IH.out _ _ _ HTr.out (by have := HC.out; have := HZ.out; omega)).mono ?_
          rintro e w1 ⟨rfl, hb1⟩
          rw [← hq]
          clear hq hqb hneg
          obtain ⟨g0, g1, g2⟩ := HX.out.2 w1 (HW.out.trans (hb1.mono HW.out.size))
          go_wp2_with fail
          go_roundw
          case rel => exact ⟨k + 1, z + q, max y q, by omega, by go_num, by go_num, by rw [max_if], hz2.out.1, by omega, hz2.out.2.1, by have := hz2.out; omega, HN1, HN2, hid (HW.out.trans (hb1.mono HW.out.size))⟩
          case measure => simp [intOf]; omega
      · have HE1 := hid (show longL (fun k => longT d k) true 0 l = z by
          rw [← HT.out, List.drop_eq_nil_of_le (by omega)]; rfl)
        have HE2 := hid (show longL (fun k => longT d k) false 0 l = y by
          rw [← HU.out, List.drop_eq_nil_of_le (by omega)]; rfl)
        cases sq with
        | true =>
          go_wp2_with fail
          go_ret
          exact ⟨ret_int (by rw [hr2.out, HE1.out]), HX.out.1.trans (HW.out.mono HX.out.1.size)⟩
        | false =>
          go_wp2_with fail
          go_ret
          exact ⟨ret_int (by rw [hr2.out, HE2.out]), HX.out.1.trans (HW.out.mono HX.out.1.size)⟩
end Go.Proofs.Ytjcdcmeclnihbaa
