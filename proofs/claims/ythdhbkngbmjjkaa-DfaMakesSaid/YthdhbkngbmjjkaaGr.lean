/- Lists of expressions: whether they are more than is asked of, whether all are right. Conditions: none but trees in memory. -/
import Derived.Test.YthdhbkngbmjjkaaRr
import Derived.Test.YthdhbkngbmjjkaaBx
import Derived.Test.YthdhbkngbmjjkaaTo
namespace Go.Proofs.Ythdhbkngbmjjkaa
open Go.RowKit
set_option linter.unusedSimpArgs false
def cntE (d : Nat) (l : List (Tr d)) : Nat := cntL (fun t => cnt d t) l
set_option maxRecDepth 100000 in
set_option maxHeartbeats 4000000 in
theorem over_any (S : Nat → Prop) (d : Nat) (A : Option Addr) (c : Nat) (l : List (Tr d)) (w : World) (h : Row3 (IsTr w S d) w S A l) (hle : l.length ≤ 9223372036854775807) :
    Calls Try.prog 27 #[.slice A l.length c, .int .i64 80] w fun e w' => e = .returned (.bool (decide (80 < cntE d l))) ∧ Below w.heap.size w w' := by
  have H := hid h
  clear h
  go_enter Try.func27, Try.ntmps27
  go_wp2_with fail
  go_loopw [5, 6] (fun s5 s6 wr => ∃ (k : Nat) (z : Int), k ≤ l.length ∧ s6 = .int .i64 k ∧ s5 = .int .i64 z ∧ 0 ≤ z ∧ z ≤ 161 ∧ Hid (z ≤ 80 → z + cntE d (l.drop k) = cntE d l) ∧ Hid (80 < z → 80 < cntE d l) ∧ Hid (Below w.heap.size w wr)) (fun _ s6 _ => l.length - (intOf s6).toNat)
  case atStart => exact ⟨0, 0, by omega, rfl, rfl, by omega, by omega, hid (fun _ => by rw [List.drop_zero]; omega), hid (fun h => by omega), hid (Below.refl _ _)⟩
  case round =>
    obtain ⟨k, z, hk, rfl, rfl, hz0, hz1, HA, HG, HB⟩ := hrel
    by_cases hlt : k < l.length
    · by_cases hz : z ≤ 80
      · obtain ⟨b, o, v0, v1, v2, rfl, -, hbs, c0, c1, c2, ht⟩ := (H.out.below HB.out).at (List.getElem?_eq_getElem hlt)
        obtain ⟨k0, k1, A2, n2, cp2, rfl, rfl, rfl⟩ := ht.cells
        have HTr := hid ht
        clear ht
        have hsz := sizeT_bd d 80 l[k] (by omega)
        obtain ⟨y, hy⟩ : ∃ y, y = sizeT d 80 l[k] := ⟨_, rfl⟩
        rw [← hy] at hsz
        have HY := hid hy
        have HD := hid (show (cntE d (l.drop k) : Int) = cnt d l[k] + cntE d (l.drop (k + 1)) by unfold cntE; rw [cntL_drop hlt]; omega)
        have HC := hid (sizeT_cnt d 80 l[k] (by omega))
        have hY : z + y ≤ 80 → z + y + cntE d (l.drop (k + 1)) = cntE d l := fun hq => by
          have h1 := HA.out hz
          have h2 := HD.out
          have h3 := HC.out
          rw [← HY.out] at h3
          omega
        have hY2 : 80 < z + y → 80 < cntE d l := fun hq => by
          have h1 := HA.out hz
          have h2 := HD.out
          have h3 := HC.out
          rw [← HY.out] at h3
          omega
        have HYa := hid hY
        have HYb := hid hY2
        clear hy hY hY2
        go_wp2_with fail
        refine (size_any S d _ _ 80 _ HTr.out (by omega) (by omega)).mono ?_
        rintro e w2 ⟨rfl, hb2⟩
        rw [← HY.out]
        have HB2 := hid (HB.out.trans (hb2.mono HB.out.size))
        clear hb2
        go_wp2_with fail
        go_roundw
        case rel => exact ⟨k + 1, z + y, by omega, by go_num, by go_num, by omega, by omega, HYa, HYb, HB2⟩
        case measure => simp [intOf]; omega
      · have HE := hid (show decide (80 < cntE d l) = true from decide_eq_true (HG.out (by omega)))
        go_wp2_with fail
        go_ret
        exact ⟨ret_bool HE.out.symm, HB.out⟩
    · obtain rfl : k = l.length := by omega
      have HE := hid (show decide (80 < cntE d l) = decide (80 < z) by
        by_cases hz : z ≤ 80
        · have h1 := HA.out hz
          rw [List.drop_eq_nil_of_le (Nat.le_refl _)] at h1
          have h2 : (cntE d ([] : List (Tr d))) = 0 := rfl
          exact decide_eq_decide.2 (by omega)
        · rw [decide_eq_true (HG.out (by omega)), decide_eq_true (by omega : 80 < z)])
      clear hlt
      go_wp2_with fail
      go_ret
      exact ⟨ret_bool HE.out.symm, HB.out⟩
set_option maxRecDepth 100000 in
theorem great_any (S : Nat → Prop) (d : Nat) (A : Option Addr) (c : Nat) (l : List (Tr d)) (w : World) (h : Row3 (IsTr w S d) w S A l) (hle : l.length ≤ 9223372036854775807) :
    Calls Try.prog 13 #[.slice A l.length c] w fun e w' => e = .returned (.bool (decide (80 < cntE d l))) ∧ Below w.heap.size w w' := by
  have H := hid h
  clear h
  go_enter Try.func13, Try.ntmps13
  go_wp2_with fail
  refine (over_any S d A c l w H.out hle).mono ?_
  rintro e w1 ⟨rfl, hb1⟩
  have HB1 := hid hb1
  clear hb1
  go_wp2_with fail
  go_ret
  exact ⟨rfl, HB1.out⟩
def rightE (d : Nat) (l : List (Tr d)) : Bool := l.all fun t => fitsT d false t
set_option maxRecDepth 100000 in
set_option maxHeartbeats 4000000 in
theorem rights_any (S : Nat → Prop) (d : Nat) (A : Option Addr) (c : Nat) (l : List (Tr d)) (w : World) (h : Row3 (IsTr w S d) w S A l) (hle : l.length ≤ 9223372036854775807) (hc : cntE d l ≤ 80) :
    Calls Try.prog 17 #[.slice A l.length c] w fun e w' => e = .returned (.bool (rightE d l && decide (l.length ≤ 40))) ∧ Below w.heap.size w w' := by
  have H := hid h
  have HC := hid hc
  clear h hc
  go_enter Try.func17, Try.ntmps17
  go_wp2_with fail
  go_loopw [3] (fun s3 wr => ∃ (k : Nat), k ≤ l.length ∧ s3 = .int .i64 k ∧ Hid ((l.drop k).all (fun t => fitsT d false t) = rightE d l) ∧ Hid (Below w.heap.size w wr)) (fun s3 _ => l.length - (intOf s3).toNat)
  case atStart => exact ⟨0, by omega, rfl, hid (by rw [List.drop_zero]; rfl), hid (Below.refl _ _)⟩
  case round =>
    obtain ⟨k, hk, rfl, HA, HB⟩ := hrel
    by_cases hlt : k < l.length
    · obtain ⟨b, o, v0, v1, v2, rfl, -, hbs, c0, c1, c2, ht⟩ := (H.out.below HB.out).at (List.getElem?_eq_getElem hlt)
      obtain ⟨k0, k1, A2, n2, cp2, rfl, rfl, rfl⟩ := ht.cells
      have HTr := hid ht
      clear ht
      have HCk := hid (show cnt d l[k] ≤ 2000 by have h1 := cntL_mem (f := fun k => cnt d k) (List.getElem_mem hlt); have h2 := HC.out; unfold cntE at h2; omega)
      have HD := hid (List.drop_eq_getElem_cons hlt)
      cases hf : fitsT d false l[k] with
      | false =>
        have HF := hid hf
        have HE := hid (show (rightE d l && decide (l.length ≤ 40)) = false by rw [← HA.out, HD.out, List.all_cons, hf]; rfl)
        clear hf
        go_wp2_with fail
        refine (rright_any S d _ _ false _ HTr.out HCk.out).mono ?_
        rintro e w2 ⟨rfl, hb2⟩
        rw [HF.out]
        have HB2 := hid (HB.out.trans (hb2.mono HB.out.size))
        clear hb2
        go_wp2_with fail
        go_ret
        exact ⟨ret_bool HE.out.symm, HB2.out⟩
      | true =>
        have HF := hid hf
        have HN := hid (show (l.drop (k + 1)).all (fun t => fitsT d false t) = rightE d l by rw [← HA.out, HD.out, List.all_cons, hf, Bool.true_and])
        clear hf
        go_wp2_with fail
        refine (rright_any S d _ _ false _ HTr.out HCk.out).mono ?_
        rintro e w2 ⟨rfl, hb2⟩
        rw [HF.out]
        have HB2 := hid (HB.out.trans (hb2.mono HB.out.size))
        clear hb2
        go_wp2_with fail
        go_roundw
        case rel => exact ⟨k + 1, by omega, by go_num, HN, HB2⟩
        case measure => simp [intOf]; omega
    · have HE := hid (show rightE d l = true by rw [← HA.out, List.drop_eq_nil_of_le (by omega)]; rfl)
      go_wp2_with fail
      go_ret
      exact ⟨ret_bool (by rw [HE.out, Bool.true_and]; exact decide_eq_decide.2 (by omega)), HB.out⟩
end Go.Proofs.Ythdhbkngbmjjkaa
namespace Go.Proofs.Ythdhbkngbmjjkaa
open Go.RowKit
set_option linter.unusedSimpArgs false
section
variable {w w' : World} {B d : Nat} {v v' : Value} {l : List (Tr d)}
theorem wpList_app_tr {ops : Array Oper} {rest : List Oper} {o : Oper} {a : Act} {Q : Exit → Act → World → Prop} (hgd : o.guard = none) (s x : Operand) (hop : o.op = .call { callee := .builtin .append, args := #[s, x], argTypes := #[30, 30] }) {w0 : World} {v0 v1 v2 : Value} {t : Tr d}
    (hw : w = w0.alloc (.cells #[v0, v1, v2] 52)) (hs : a.eval s = v) (h : BTr w0 B d v l) (hx : a.eval x = .slice (some ⟨w0.heap.size, 0, none⟩) 1 1) (ht : IsTr w0 (fun b => B ≤ b ∧ v.ownBlock ≠ some b) d (.agg #[v0, v1, v2]) t) (hl : l.length ≤ 1000000) (hB : B ≤ w0.heap.size)
    (hk : ∀ v' w', BTr w' B d v' (l ++ [t]) → w.grownBy w' v.ownBlock → wpList Try.prog ops Q rest (a.put o.dst v') w') : wpList Try.prog ops Q (o :: rest) a w :=
  wpList_plain hgd fun _ hK => wp_app_tr s x hop hw hs h hx ht hl hB fun v' w' h1 h2 => hK _ _ (hk v' w' h1 h2)
theorem BTr.grown_below2 {u : World} (h : BTr w B d v l) (hb : Below B u w) (hs : B ≤ w.heap.size) {o : Obj} {w2 : World} (hg : (w.alloc o).grownBy w2 v.ownBlock) : Below B u w2 := by
  have hb2 : Below B u (w.alloc o) := hb.alloc hs o
  refine hb2.trans ⟨hg.os, hg.tape, hg.output, hg.size, fun b hlt => hg.block b ?_ fun e => ?_⟩
  · simp; omega
  · have := h.lt b e.symm; omega
end
set_option maxRecDepth 100000 in
set_option maxHeartbeats 4000000 in
theorem tos_any (S : Nat → Prop) (d : Nat) (A : Option Addr) (c : Nat) (l : List (Tr d)) (w : World) (h : Row3 (IsTr w S d) w S A l) (hc : cntL (fun t => cnt d t) l ≤ 2000) :
    Calls Try.prog 16 #[.slice A l.length c] w fun e w' => ∃ v', e = .returned v' ∧ Below w.heap.size w w' ∧ BTr w' w.heap.size d v' l := by
  have H := hid h
  have HC := hid hc
  have hle : l.length ≤ 2000 := Nat.le_trans (cntL_len (fun x => cnt_pos d x) l) hc
  clear h hc
  obtain ⟨N, hNN⟩ : ∃ N, N = w.heap.size := ⟨_, rfl⟩
  have HNN := hid hNN
  go_enter Try.func16, Try.ntmps16
  go_wp2_with fail
  clear hNN
  go_loopw [3, 4] (fun s3 s4 wr => ∃ (k : Nat), k ≤ l.length ∧ s4 = .int .i64 k ∧ Hid (BTr wr N d s3 (l.take k)) ∧ Hid (Below N w wr) ∧ Hid (N ≤ wr.heap.size)) (fun _ s4 _ => l.length - (intOf s4).toNat)
  case atStart => exact ⟨0, by omega, rfl, hid (BTr.nil _ _ _), hid (Below.refl _ _), hid (by rw [HNN.out]; exact Nat.le_refl _)⟩
  case round =>
    obtain ⟨k, hk, rfl, HR, HB, HS⟩ := hrel
    by_cases hlt : k < l.length
    · obtain ⟨b, o, v0, v1, v2, rfl, -, hbs, c0, c1, c2, ht⟩ := (H.out.below (HNN.out ▸ HB.out)).at (List.getElem?_eq_getElem hlt)
      obtain ⟨k0, k1, A2, n2, cp2, rfl, rfl, rfl⟩ := ht.cells
      have HTr := hid ht
      clear ht
      have HCk := hid (show cnt d l[k] ≤ 2000 by have h1 := cntL_mem (f := fun k => cnt d k) (List.getElem_mem hlt); have h2 := HC.out; omega)
      have HLk := hid (show (l.take k).length ≤ 1000000 by rw [List.length_take]; omega)
      have HTK := hid (show l.take (k + 1) = l.take k ++ [l[k]] by rw [List.take_add_one, List.getElem?_eq_getElem hlt]; rfl)
      go_wp2_with fail
      refine (to_any S d _ _ _ HTr.out HCk.out).mono ?_
      rintro e w1 ⟨v', rfl, hb1, ht1⟩
      obtain ⟨z0, z1, Z, zn, zc, rfl⟩ := ht1.form
      have HB1 := hid hb1
      have HT1 := hid ht1
      have HR1 := hid (HR.out.below HB1.out)
      have HBN := hid (HB.out.trans (HB1.out.mono HS.out))
      have HS1 := hid (Nat.le_trans HS.out HB1.out.size)
      have HT2 := hid (fun (v : Value) (hv : BTr wr N d v (l.take k)) => HT1.out.mono (S' := fun b => N ≤ b ∧ v.ownBlock ≠ some b) fun b hb _ => ⟨Nat.le_trans HS.out hb, fun e => by have := hv.lt b e; omega⟩)
      clear hb1 ht1
      go_wp2_with (first
        | (at_builtin; refine wpList_app_tr rfl (.tmp 11) (.tmp 17) rfl (w0 := w1) (v0 := .int .i64 z0) (v1 := .int .i64 z1) (v2 := .slice Z zn zc) rfl rfl HR1.out rfl (HT2.out _ HR.out) HLk.out HS1.out ?_; intro v4 w4 hr4 hg4; have HW4 := hid (show Below N w w4 from HR1.out.grown_below2 HBN.out HS1.out hg4); have HR4 := hid (show BTr w4 N d v4 (l.take (k + 1)) by rw [HTK.out]; exact hr4); have HS4 := hid (show N ≤ w4.heap.size from Nat.le_trans HS1.out (Nat.le_trans (by simp) hg4.size)); clear hr4 hg4)
        | fail)
      go_roundw
      case rel => exact ⟨k + 1, by omega, by go_num, HR4, HW4, HS4⟩
      case measure => simp [intOf]; omega
    · obtain rfl : k = l.length := by omega
      have HR2 := hid (show BTr wr N d _ l by have h1 := HR.out; rw [List.take_length] at h1; exact h1)
      go_wp2_with fail
      go_ret
      exact ⟨_, rfl, by rw [← HNN.out]; exact HB.out, by rw [← HNN.out]; exact HR2.out⟩
end Go.Proofs.Ythdhbkngbmjjkaa
