/- How many leaves an expression has: the program's leaves; whether all of some expressions are right: the library's ContainsFunc over New's closure. Condition: at most a million nodes. -/
import Derived.Test.YthdhbkngbmjjkaaNp
import Derived.Test.YthdhbkngbmjjkaaBx
namespace Go.Proofs.Ythdhbkngbmjjkaa
open Go.RowKit
def sumL {T : Type} (f : T → Nat) : List T → Nat
  | [] => 0
  | k :: r => f k + sumL f r
def leavesT : (d : Nat) → Tr d → Nat
  | 0, _ => 0
  | d + 1, t => if (Tr.kids t).length = 0 ∧ Tr.kind t ≠ 9 then 1 else sumL (fun k => leavesT d k) (Tr.kids t)
theorem sumL_le {T : Type} {f c : T → Nat} (h : ∀ k, f k ≤ c k) : ∀ l : List T, sumL f l ≤ cntL c l
  | [] => Nat.le_refl _
  | k :: r => by have := sumL_le h r; have := h k; simp only [sumL, cntL]; omega
theorem leavesT_le : ∀ (d : Nat) (t : Tr d), leavesT d t ≤ cnt d t
  | 0, t => t.elim
  | d + 1, t => by
    have := sumL_le (leavesT_le d) (Tr.kids t)
    simp only [leavesT, cnt]
    split
    · omega
    · have e : cntL (fun k => cnt d k) (Tr.kids t) = cntL (cnt d) (Tr.kids t) := rfl
      have e2 : sumL (fun k => leavesT d k) (Tr.kids t) = sumL (leavesT d) (Tr.kids t) := rfl
      omega
set_option maxRecDepth 100000 in
set_option maxHeartbeats 2000000 in
theorem leaves_any (S : Nat → Prop) : ∀ (d : Nat) (v : Value) (t : Tr d) (w : World), IsTr w S d v t → cnt d t ≤ 1000000 →
    Calls Try.prog 44 #[v] w fun e w' => e = .returned (.int .i64 (leavesT d t)) ∧ Below w.heap.size w w' := by
  intro d
  induction d with
  | zero => intro v t; exact t.elim
  | succ d ih =>
    intro v t w h hm
    obtain ⟨A, c, rfl, hle, hkids⟩ := h.open
    obtain ⟨kd, hkd⟩ : ∃ kd, kd = Tr.kind t := ⟨_, rfl⟩
    obtain ⟨cl, hcl⟩ : ∃ cl, cl = Tr.cls t := ⟨_, rfl⟩
    obtain ⟨l, hl⟩ : ∃ l, l = Tr.kids t := ⟨_, rfl⟩
    have HRES := hid (show leavesT (d + 1) t = if l.length = 0 ∧ kd ≠ 9 then 1 else sumL (fun k => leavesT d k) l by rw [hl, hkd]; rfl)
    have HCN := hid (show 1 + cntL (fun k => cnt d k) l ≤ 1000000 by rw [hl]; exact hm)
    rw [← hkd, ← hcl, ← hl]
    rw [← hl] at hle hkids
    clear hkd hcl hl h hm
    obtain ⟨W, hW0⟩ : ∃ W, W = w.alloc (.cells #[.int .i64 kd, .int .i64 cl, .slice A l.length c] 52) := ⟨_, rfl⟩
    have HX := hid (box3 hW0)
    have HK := hid (hkids.below HX.out.1)
    have IH := hid ih
    obtain ⟨q, hq⟩ : ∃ q, q = w.heap.size := ⟨_, rfl⟩
    rw [← hq] at HX
    have HQ := hid hq
    have HBw := hid (show Below w.heap.size w W by rw [← hq]; exact HX.out.1)
    clear hkids ih
    obtain ⟨f0, f1, f2⟩ := HX.out.2 _ (Below.refl _ _)
    by_cases h0 : l.length = 0
    · by_cases h9 : kd = 9
      · have HE := hid (show leavesT (d + 1) t = 0 by
          rw [HRES.out, if_neg (by omega), List.eq_nil_of_length_eq_zero h0]; rfl)
        subst h9
        have b0 : ((l.length : Int) == 0) = true := ieq_true (by omega)
        have b1 : (l.length == 0) = true := by simpa using h0
        have hl0 : l = [] := List.eq_nil_of_length_eq_zero h0
        subst hl0
        simp only [List.length_nil] at hW0 f0 f1 f2 ⊢
        go_enter Try.func44, Try.ntmps44
        go_wp2_with fail
        rw [← hW0, ← hq]
        clear hW0 hq
        go_wp2_with fail
        go_loopw [3, 18] (fun s3 s18 wr => s3 = .int .i64 0 ∧ s18 = .int .i64 0 ∧ Hid (Below W.heap.size W wr)) (fun _ _ _ => 0)
        case atStart => exact ⟨rfl, rfl, hid (Below.refl _ _)⟩
        case round =>
          obtain ⟨rfl, rfl, HW⟩ := hrel
          go_wp2_with fail
          go_ret
          exact ⟨ret_int (by rw [HE.out]; rfl), HBw.out.trans (HW.out.mono HBw.out.size)⟩
      · have HE := hid (show leavesT (d + 1) t = 1 by rw [HRES.out, if_pos ⟨h0, h9⟩])
        have b9 : (kd == 9) = false := ieq_false h9
        have b9' : (kd != 9) = true := ine_true h9
        have hl0 : l = [] := List.eq_nil_of_length_eq_zero h0
        subst hl0
        simp only [List.length_nil] at hW0 f0 f1 f2 ⊢
        go_enter Try.func44, Try.ntmps44
        go_wp2_with fail
        rw [← hW0, ← hq]
        clear hW0 hq
        go_wp2_with fail
        go_ret
        exact ⟨ret_int (by rw [HE.out]; rfl), HX.out.1⟩
    · have HE := hid (show leavesT (d + 1) t = sumL (fun k => leavesT d k) l by rw [HRES.out, if_neg (by omega)])
      have b0 : (l.length == 0) = false := by simpa using h0
      go_enter Try.func44, Try.ntmps44
      go_wp2_with fail
      rw [← hW0, ← hq]
      clear hW0 hq
      go_wp2_with fail
      go_loopw [3, 5, 18] (fun s3 _ s18 wr => ∃ (k z : Nat), k ≤ l.length ∧ s18 = .int .i64 k ∧ s3 = .int .i64 z ∧ Hid (z + sumL (fun k => leavesT d k) (l.drop k) = leavesT (d + 1) t) ∧ Hid (z + cntL (fun k => cnt d k) (l.drop k) ≤ 1000000) ∧ Hid (Below W.heap.size W wr)) (fun _ _ s18 _ => l.length - (intOf s18).toNat)
      case atStart => exact ⟨0, 0, by omega, rfl, rfl, hid (by rw [HE.out]; simp), hid (by rw [List.drop_zero]; have := HCN.out; omega), hid (Below.refl _ _)⟩
      case round =>
        obtain ⟨k, z, hk, rfl, rfl, HT, HC, HW⟩ := hrel
        by_cases hlt : k < l.length
        · obtain ⟨b, o, v0, v1, v2, rfl, -, hbs, c0, c1, c2, ht⟩ := (HK.out.below HW.out).at (List.getElem?_eq_getElem hlt)
          obtain ⟨k0, k1, A2, n2, cp2, rfl, rfl, rfl⟩ := ht.cells
          have HTr := hid ht
          obtain ⟨x, hx⟩ : ∃ x, x = l[k] := ⟨_, rfl⟩
          rw [← hx] at HTr
          have HDR := hid (show l.drop k = x :: l.drop (k + 1) by rw [hx]; exact List.drop_eq_getElem_cons hlt)
          obtain ⟨y, hy⟩ : ∃ y, y = leavesT d x := ⟨_, rfl⟩
          have HY := hid hy
          have HN := hid (show z + y + sumL (fun k => leavesT d k) (l.drop (k + 1)) = leavesT (d + 1) t by have h := HT.out; rw [HDR.out] at h; simp only [sumL] at h; rw [hy]; omega)
          have hyc : y ≤ cnt d x := by rw [hy]; exact leavesT_le d x
          have HC2 := hid (show cnt d x + (z + cntL (fun k => cnt d k) (l.drop (k + 1))) ≤ 1000000 by have h := HC.out; rw [HDR.out] at h; simp only [cntL] at h; omega)
          have HCx := hid (show cnt d x ≤ 1000000 by have h := HC2.out; omega)
          have hzb : z + y ≤ 1000000 := by have h := HC2.out; omega
          have HC3 := hid (show z + y + cntL (fun k => cnt d k) (l.drop (k + 1)) ≤ 1000000 by have h := HC2.out; omega)
          clear ht hx hy hyc
          obtain ⟨X, hX⟩ : ∃ X, X = wr.alloc (.cells #[.int .i64 k0, .int .i64 k1, .slice A2 n2 cp2] 52) := ⟨_, rfl⟩
          have HXB := hid (show Below wr.heap.size wr X by rw [hX]; exact (Below.refl _ _).alloc (Nat.le_refl _) _)
          have HXQ := hid (show X.heap[wr.heap.size]? = some (.cells #[.int .i64 k0, .int .i64 k1, .slice A2 n2 cp2] 52 (0, 0)) by rw [hX]; exact heap_alloc_new _ _)
          have HTX := hid (HTr.out.below HXB.out)
          obtain ⟨y0, y1, y2, -⟩ := slot3 HXQ.out
          rw [hX] at y0 y1 y2
          clear f0 f1 f2
          go_wp2_with fail
          rw [← hX]
          clear hX y0 y1 y2
          refine (IH.out _ _ _ HTX.out HCx.out).mono ?_
          rintro e w1 ⟨rfl, hb1⟩
          rw [← HY.out]
          have HW1 := hid (HW.out.trans ((HXB.out.trans (hb1.mono HXB.out.size)).mono HW.out.size))
          clear hb1
          go_wp2_with fail
          go_roundw
          case rel => exact ⟨k + 1, z + y, by omega, by go_num, by go_num, HN, HC3, HW1⟩
          case measure => simp [intOf]; omega
        · have HF := hid (show leavesT (d + 1) t = z by have h := HT.out; rw [List.drop_eq_nil_of_le (by omega)] at h; simp only [sumL] at h; omega)
          clear f0 f1 f2
          go_wp2_with fail
          go_ret
          exact ⟨ret_int (by rw [HF.out]), HBw.out.trans (HW.out.mono HBw.out.size)⟩
set_option maxRecDepth 100000 in
theorem new1_any (S : Nat → Prop) (d : Nat) (v : Value) (t : Tr d) (w : World) (h : IsTr w S d v t) :
    Calls Try.prog 42 #[v] w fun e w' => e = .returned (.bool (!rightT d t)) ∧ Below w.heap.size w w' := by
  cases d with
  | zero => exact t.elim
  | succ d =>
    obtain ⟨A, c, rfl, hle, -⟩ := h.open
    obtain ⟨W, hW0⟩ : ∃ W, W = w.alloc (.cells #[.int .i64 (Tr.kind t), .int .i64 (Tr.cls t), .slice A (Tr.kids t).length c] 52) := ⟨_, rfl⟩
    have HX := hid (box3 hW0)
    have HT := hid (h.below HX.out.1)
    clear h
    go_enter Try.func42, Try.ntmps42
    go_wp2_with fail
    rw [← hW0]
    clear hW0
    refine (eright_any S (d + 1) _ t W HT.out).mono ?_
    rintro e w1 ⟨rfl, hb1⟩
    go_wp2_with fail
    go_ret
    exact ⟨rfl, HX.out.1.trans (hb1.mono HX.out.1.size)⟩
set_option maxRecDepth 100000 in
set_option maxHeartbeats 1000000 in
theorem indexRight_any (S : Nat → Prop) (d : Nat) (A : Option Addr) (c : Nat) (l : List (Tr d)) (w : World) (h : Row3 (IsTr w S d) w S A l) (hle : l.length ≤ 9223372036854775807) :
    Calls Try.prog 71 #[.slice A l.length c, .func (.func 42) #[] #[]] w fun e w' => e = .returned (.int .i64 (idx (fun t => !rightT d t) 0 l)) ∧ Below w.heap.size w w' := by
  have HK := hid h
  clear h
  go_enter Try.func71, Try.ntmps71
  go_wp2_with fail
  go_loopw [8] (fun s8 wr => ∃ k : Nat, k ≤ l.length ∧ s8 = .int .i64 k ∧ Hid (idx (fun t => !rightT d t) k (l.drop k) = idx (fun t => !rightT d t) 0 l) ∧ Hid (Below w.heap.size w wr)) (fun s8 _ => l.length - (intOf s8).toNat)
  case atStart => exact ⟨0, by omega, rfl, rfl, hid (Below.refl _ _)⟩
  case round =>
    obtain ⟨k, hk, rfl, HT, HW⟩ := hrel
    by_cases hlt : k < l.length
    · obtain ⟨b, o, v0, v1, v2, rfl, -, hbs, c0, c1, c2, ht⟩ := (HK.out.below HW.out).at (List.getElem?_eq_getElem hlt)
      have HTr := hid ht
      clear ht
      cases hf : rightT d l[k] with
      | true =>
        have HN := hid (show idx (fun t => !rightT d t) (k + 1) (l.drop (k + 1)) = idx (fun t => !rightT d t) 0 l by
          rw [← HT.out, List.drop_eq_getElem_cons hlt]; simp only [idx]; rw [if_neg (by simp [hf])])
        have HF := hid hf
        clear hf
        go_wp2_with (go_at_call 42; refine (new1_any S d _ _ _ HTr.out).mono ?_; rintro e w1 ⟨rfl, hb1⟩; rw [HF.out])
        go_roundw
        case rel => exact ⟨k + 1, by omega, by go_num, HN, hid (HW.out.trans (hb1.mono HW.out.size))⟩
        case measure => simp [intOf]; omega
      | false =>
        have HN := hid (show (k : Int) = idx (fun t => !rightT d t) 0 l by
          rw [← HT.out, List.drop_eq_getElem_cons hlt]; simp only [idx]; rw [if_pos (by simp [hf])])
        have HF := hid hf
        clear hf
        go_wp2_with (go_at_call 42; refine (new1_any S d _ _ _ HTr.out).mono ?_; rintro e w1 ⟨rfl, hb1⟩; rw [HF.out])
        go_ret
        exact ⟨ret_int HN.out, HW.out.trans (hb1.mono HW.out.size)⟩
    · have HN := hid (show (-1 : Int) = idx (fun t => !rightT d t) 0 l by
        rw [← HT.out, List.drop_eq_nil_of_le (by omega)]; rfl)
      go_wp2_with fail
      go_ret
      exact ⟨ret_int HN.out, HW.out⟩

set_option maxRecDepth 100000 in
theorem containsRight_any (S : Nat → Prop) (d : Nat) (A : Option Addr) (c : Nat) (l : List (Tr d)) (w : World) (h : Row3 (IsTr w S d) w S A l) (hle : l.length ≤ 9223372036854775807) :
    Calls Try.prog 41 #[.slice A l.length c, .func (.func 42) #[] #[]] w fun e w' => e = .returned (.bool (l.any fun t => !rightT d t)) ∧ Below w.heap.size w w' := by
  go_enter Try.func41, Try.ntmps41
  go_wp2_with fail
  refine (indexRight_any S d A c l _ h hle).mono ?_
  rintro e w1 ⟨rfl, hb1⟩
  go_wp2_with fail
  go_ret
  exact ⟨ret_bool (idx_any _ _ _), hb1⟩
end Go.Proofs.Ythdhbkngbmjjkaa
