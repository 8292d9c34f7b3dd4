/- Lists of expressions: whether they are more than 40 nodes. Conditions: none but trees in memory. -/
import Derived.Test.YthdhbkngbmjjkaaGr
import Derived.Test.YthdhbkngbmjjkaaRk
import Derived.Test.YthdhbkngbmjjkaaDz
namespace Go.Proofs.Ythdhbkngbmjjkaa
open Go.RowKit
set_option linter.unusedSimpArgs false
set_option maxRecDepth 100000 in
set_option maxHeartbeats 4000000 in
theorem over40_any (S : Nat → Prop) (d : Nat) (A : Option Addr) (c : Nat) (l : List (Tr d)) (w : World) (h : Row3 (IsTr w S d) w S A l) (hle : l.length ≤ 9223372036854775807) :
    Calls Try.prog 27 #[.slice A l.length c, .int .i64 40] w fun e w' => e = .returned (.bool (decide (40 < cntE d l))) ∧ Below w.heap.size w w' := by
  have H := hid h
  clear h
  go_enter Try.func27, Try.ntmps27
  go_wp2_with fail
  go_loopw [5, 6] (fun s5 s6 wr => ∃ (k : Nat) (z : Int), k ≤ l.length ∧ s6 = .int .i64 k ∧ s5 = .int .i64 z ∧ 0 ≤ z ∧ z ≤ 121 ∧ Hid (z ≤ 40 → z + cntE d (l.drop k) = cntE d l) ∧ Hid (40 < z → 40 < cntE d l) ∧ Hid (Below w.heap.size w wr)) (fun _ s6 _ => l.length - (intOf s6).toNat)
  case atStart => exact ⟨0, 0, by omega, rfl, rfl, by omega, by omega, hid (fun _ => by rw [List.drop_zero]; omega), hid (fun h => by omega), hid (Below.refl _ _)⟩
  case round =>
    obtain ⟨k, z, hk, rfl, rfl, hz0, hz1, HA, HG, HB⟩ := hrel
    by_cases hlt : k < l.length
    · by_cases hz : z ≤ 40
      · obtain ⟨b, o, v0, v1, v2, rfl, -, hbs, c0, c1, c2, ht⟩ := (H.out.below HB.out).at (List.getElem?_eq_getElem hlt)
        obtain ⟨k0, k1, A2, n2, cp2, rfl, rfl, rfl⟩ := ht.cells
        have HTr := hid ht
        clear ht
        have hsz := sizeT_bd d 40 l[k] (by omega)
        obtain ⟨y, hy⟩ : ∃ y, y = sizeT d 40 l[k] := ⟨_, rfl⟩
        rw [← hy] at hsz
        have HY := hid hy
        have HD := hid (show (cntE d (l.drop k) : Int) = cnt d l[k] + cntE d (l.drop (k + 1)) by unfold cntE; rw [cntL_drop hlt]; omega)
        have HC := hid (sizeT_cnt d 40 l[k] (by omega))
        have hY : z + y ≤ 40 → z + y + cntE d (l.drop (k + 1)) = cntE d l := fun hq => by
          have h1 := HA.out hz
          have h2 := HD.out
          have h3 := HC.out
          rw [← HY.out] at h3
          omega
        have hY2 : 40 < z + y → 40 < cntE d l := fun hq => by
          have h1 := HA.out hz
          have h2 := HD.out
          have h3 := HC.out
          rw [← HY.out] at h3
          omega
        have HYa := hid hY
        have HYb := hid hY2
        clear hy hY hY2
        go_wp2_with fail
        refine (size_any S d _ _ 40 _ HTr.out (by omega) (by omega)).mono ?_
        rintro e w2 ⟨rfl, hb2⟩
        rw [← HY.out]
        have HB2 := hid (HB.out.trans (hb2.mono HB.out.size))
        clear hb2
        go_wp2_with fail
        go_roundw
        case rel => exact ⟨k + 1, z + y, by omega, by go_num, by go_num, by omega, by omega, HYa, HYb, HB2⟩
        case measure => simp [intOf]; omega
      · have HE := hid (show decide (40 < cntE d l) = true from decide_eq_true (HG.out (by omega)))
        go_wp2_with fail
        go_ret
        exact ⟨ret_bool HE.out.symm, HB.out⟩
    · obtain rfl : k = l.length := by omega
      have HE := hid (show decide (40 < cntE d l) = decide (40 < z) by
        by_cases hz : z ≤ 40
        · have h1 := HA.out hz
          rw [List.drop_eq_nil_of_le (Nat.le_refl _)] at h1
          have h2 : (cntE d ([] : List (Tr d))) = 0 := rfl
          exact decide_eq_decide.2 (by omega)
        · rw [decide_eq_true (HG.out (by omega)), decide_eq_true (by omega : 40 < z)])
      clear hlt
      go_wp2_with fail
      go_ret
      exact ⟨ret_bool HE.out.symm, HB.out⟩
end Go.Proofs.Ythdhbkngbmjjkaa
namespace Go.Proofs.Ythdhbkngbmjjkaa
open Go.RowKit
set_option linter.unusedSimpArgs false
section
variable {search : Bool} {s : Bs}
theorem first_le (n : Nat) : 1 ≤ (outB search s n).1.length := (List.getElem?_eq_some_iff.1 (out_first (search := search) (s := s) n)).1
/-- A table that stops stops late. -/
theorem Done.late {n m k : Nat} (hd : Done search s m) (hs : ∀ i, i < n → i < (outB search s i).1.length) (hlt : n < (outB search s n).1.length) (hk : k < (outB search s (n + 1)).1.length) : k < m := by
  have hnm : n < m := by
    rcases Nat.lt_trichotomy n m with e | e | e
    · exact e
    · have := hd.2; subst e; omega
    · have := hs m e; have := hd.2; omega
  have := out_le (search := search) (s := s) (i := n + 1) (j := m) hnm
  have := hd.2
  omega
end
theorem IsD.form {w : World} {S : Nat → Prop} {v : Value} {d : D} {n : Nat} (h : IsD w S v d) (h1 : d.next.length = n) (h2 : d.tells.length = n) : ∃ NA nc TA tc, v = .agg #[.slice NA n nc, .slice TA n tc] := by
  obtain ⟨nv, tv, e1, e2, e3⟩ := h
  obtain ⟨NA, nc, e4⟩ := e2.form
  obtain ⟨TA, tc, e5⟩ := e3.form
  rw [h2] at e5
  rw [h1] at e4
  exact ⟨NA, nc, TA, tc, by rw [e1, e4, e5]⟩
theorem sameD_refl (d : D) : sameD d d = true := by simp [sameD]
set_option maxRecDepth 100000 in
set_option maxHeartbeats 8000000 in
theorem dmakes_walk (search : Bool) (S : Nat → Prop) (d : Nat) (A1 : Option Addr) (c1 : Nat) (l : List (Tr d)) (w : World) (h1 : Row3 (IsTr w S d) w S A1 l) (hl1 : l.length ≤ 9223372036854775807) :
    Calls Try.prog 8 #[.bool search, .slice A1 l.length c1] w fun e w' => e = .returned (.bool true) ∧ Below w.heap.size w w' := by
  have H1 := hid h1
  clear h1
  by_cases hg : 40 < cntE d l
  · have HG1 := hid (decide_eq_true hg)
    clear hg
    go_enter Try.func8, Try.ntmps8
    go_wp2_with fail
    refine (over40_any S d A1 c1 l w H1.out hl1).mono ?_
    rintro e w1 ⟨rfl, hb⟩
    rw [HG1.out]
    have HB1 := hid hb
    clear hb
    go_wp2_with fail
    refine (dawake_any w1).mono ?_
    rintro e w2 ⟨rfl, hb⟩
    have HB2 := hid (ends_true HB1.out hb)
    clear hb
    go_wp2_with fail
    go_ret
    exact ⟨rfl, HB2.out⟩
  have HG1 := hid (decide_eq_false hg)
  have HC1 := hid (Nat.le_of_not_lt hg)
  have hl40 : l.length ≤ 40 := Nat.le_trans (cntL_len (fun x => cnt_pos d x) l) HC1.out
  clear hg
  by_cases hr : rightE d l = true
  rotate_left
  · have HR := hid (show (rightE d l && decide (l.length ≤ 40)) = false from by simp [hr])
    clear hr
    go_enter Try.func8, Try.ntmps8
    go_wp2_with fail
    refine (over40_any S d A1 c1 l w H1.out hl1).mono ?_
    rintro e w1 ⟨rfl, hb1⟩
    rw [HG1.out]
    have HB1 := hid hb1
    clear hb1
    go_wp2_with fail
    refine (dawake_any w1).mono ?_
    rintro e w2 ⟨rfl, hb2⟩
    have HB2 := hid (ends_true HB1.out hb2)
    clear hb2
    go_wp2_with fail
    refine (rights_any S d A1 c1 l w2 (H1.out.below HB2.out) (by omega) (Nat.le_trans HC1.out (by decide))).mono ?_
    rintro e w3 ⟨rfl, hb⟩
    rw [HR.out]
    have HB3 := hid (ends_true HB2.out hb)
    clear hb
    go_wp2_with fail
    go_ret
    exact ⟨rfl, HB3.out⟩
  have HR := hid (show (rightE d l && decide (l.length ≤ 40)) = true from by rw [hr, decide_eq_true hl40]; rfl)
  have HF := hid (show Fine l from ⟨Nat.le_trans HC1.out (by decide), hr, hl40⟩)
  clear hr
  go_enter Try.func8, Try.ntmps8
  go_wp2_with fail
  refine (over40_any S d A1 c1 l w H1.out hl1).mono ?_
  rintro e w1 ⟨rfl, hb1⟩
  rw [HG1.out]
  have HB1 := hid hb1
  clear hb1
  go_wp2_with fail
  refine (dawake_any w1).mono ?_
  rintro e w2 ⟨rfl, hb2⟩
  have HB2 := hid (ends_true HB1.out hb2)
  clear hb2
  go_wp2_with fail
  refine (rights_any S d A1 c1 l w2 (H1.out.below HB2.out) (by omega) (Nat.le_trans HC1.out (by decide))).mono ?_
  rintro e w3 ⟨rfl, hb⟩
  rw [HR.out]
  have HB3 := hid (ends_true HB2.out hb)
  clear hb HB1 HB2 HR HG1
  go_wp2_with fail
  refine (tos_any S d A1 c1 l w3 (H1.out.below HB3.out) (by have := HC1.out; unfold cntE at this; omega)).mono ?_
  rintro e w4 ⟨v4, rfl, hb, ht⟩
  obtain ⟨A4, c4, rfl, -, -, hrow⟩ := ht.row
  have HROW := hid hrow
  have HB4 := hid (ends_true HB3.out hb)
  clear hb ht hrow HB3
  go_wp2_with fail
  refine (new_right d A4 c4 l search w4 HROW.out HF.out.cnt HF.out.right HF.out.few).mono ?_
  rintro e w5 ⟨g, rfl, hnf, hb⟩
  have HB5 := hid (ends_true HB4.out hb)
  obtain ⟨s, hs⟩ : ∃ s, s = builtB l := ⟨_, rfl⟩
  have HSD := hid hs
  have HGD := hid (show Good s by rw [hs]; exact HF.out.good)
  rw [← hs] at hnf
  have HNF := hid hnf
  clear hb hnf hs HROW HB4
  go_wp2_with fail
  refine (dnew_any HNF.out HGD.out).mono ?_
  rintro e w6 ⟨hb6, ⟨m, hm, h1, h2, v, rfl, hv⟩ | ⟨m, h1, h2, h3, rfl⟩⟩
  · have hdone : Done search s m := ⟨fun i hi => (h1 i hi).1, h2⟩
    have HDM := hid hdone
    have HTB := hdone.tbl
    have hln : (outB search s m).1.length = m := h2.symm
    obtain ⟨NA, nc, TA, tc, rfl⟩ := hv.form (n := m) (HTB.len.1.trans hln) (HTB.len.2.trans hln)
    have hm1 : 1 ≤ m := by rw [← hln]; exact first_le m
    have HV6 := hid hv
    have HB6 := hid (ends_true HB5.out hb6)
    clear hv hb6 h1 h2 hdone HTB hln HNF
    obtain ⟨p, hp⟩ : ∃ p, p = w6.heap.size := ⟨_, rfl⟩
    obtain ⟨X, hX⟩ : ∃ X, X = w6.alloc (.cells #[.slice NA m nc, .slice TA m tc] 59) := ⟨_, rfl⟩
    have HXC := hid (show ∀ Y, Below X.heap.size X Y → Y.cell? ⟨p, 0, none⟩ = some (.slice NA m nc) ∧ Y.cell? ⟨p, 1, none⟩ = some (.slice TA m tc) from fun Y hY => by
      have h0 : X.heap[p]? = some (.cells #[.slice NA m nc, .slice TA m tc] 59 (0, 0)) := by rw [hX, hp]; exact heap_alloc_new _ _
      obtain ⟨a0, a1, -⟩ := slot2 ((hY.block _ (by rw [hX, hp]; simp)).trans h0)
      exact ⟨a0, a1⟩)
    have HXB := hid (show Below w6.heap.size w6 X by rw [hX]; exact (Below.refl _ _).alloc (Nat.le_refl _) _)
    have HBX := hid (ends_true HB6.out HXB.out)
    have HVX := hid (HV6.out.below HXB.out)
    clear HB6 HV6
    go_wp2_with fail
    rw [← hX, ← hp]
    clear hX hp HXB
    refine (rmake_any search S d A1 c1 l X (H1.out.below HBX.out) HF.out.few HF.out.cnt).mono ?_
    rintro e w7 ⟨a, rfl, hrf, hb⟩
    have HR7 := hid hrf
    have HB7 := hid hb
    clear hb hrf
    go_wp2_with fail
    refine (rdmake_any HF.out HR7.out).mono ?_
    rw [← HSD.out]
    rintro e w8 ⟨hb8, ⟨n, hn, q1, q2, v8, rfl, hv8⟩ | ⟨n, q1, q2, q3, rfl⟩⟩
    · obtain rfl : m = n := HDM.out.one ⟨fun i hi => (q1 i hi).1, q2⟩
      have HTB := HDM.out.tbl
      obtain ⟨NB, nd, TB, td, rfl⟩ := hv8.form (n := m) (HTB.len.1.trans q2.symm) (HTB.len.2.trans q2.symm)
      have HV8 := hid hv8
      have HB8 := hid (ends_true HB7.out hb8)
      clear hv8 hb8 q1 q2 HTB
      obtain ⟨p2, hp2⟩ : ∃ p, p = w8.heap.size := ⟨_, rfl⟩
      obtain ⟨Z, hZ⟩ : ∃ X, X = w8.alloc (.cells #[.slice NB m nd, .slice TB m td] 62) := ⟨_, rfl⟩
      have hZB : Below w8.heap.size w8 Z := by rw [hZ]; exact (Below.refl _ _).alloc (Nat.le_refl _) _
      have HZX := hid (ends_true HB8.out hZB)
      have HVZ := hid (HV8.out.below hZB)
      obtain ⟨z0, z1, -⟩ := slot2 (show Z.heap[p2]? = some (.cells #[.slice NB m nd, .slice TB m td] 62 (0, 0)) by rw [hZ, hp2]; exact heap_alloc_new _ _)
      obtain ⟨x0, x1⟩ := HXC.out Z HZX.out
      have HSM := hid (show ∃ D0, IsD Z (fun b => w5.heap.size ≤ b) (.agg #[.slice NA m nc, .slice TA m tc]) D0 ∧ IsD Z (fun b => w7.heap.size ≤ b) (.agg #[.slice NB m nd, .slice TB m td]) D0 from ⟨_, HVX.out.below HZX.out, HVZ.out⟩)
      clear hZB HVZ HV8 HVX
      rw [hZ, hp2] at z0 z1
      rw [hZ] at x0 x1
      have hm0 : ((m : Int) == 0) = false := by simp; omega
      go_wp2_with fail
      rw [← hZ]
      obtain ⟨D0, HD1, HD2⟩ := HSM.out
      refine (refSame_any _ _ _ _ D0 D0 Z HD1 HD2).mono ?_
      rintro e w9 ⟨rfl, hb9⟩
      rw [sameD_refl]
      have HB9 := hid (ends_true HBX.out (ends_true HZX.out hb9))
      clear hb9
      go_wp2_with fail
      go_ret
      exact ⟨rfl, HB9.out⟩
    · have hlate : 120 < m := HDM.out.late (fun i hi => (q1 i hi).1) q2 q3
      have HLB := hid (show decide (120 < (m : Int)) = true from decide_eq_true (by omega))
      have HB8 := hid (ends_true HB7.out hb8)
      clear hb8 q1 q2 q3
      obtain ⟨p2, hp2⟩ : ∃ p, p = w8.heap.size := ⟨_, rfl⟩
      obtain ⟨Z, hZ⟩ : ∃ X, X = w8.alloc (.cells #[.slice none 0 0, .slice none 0 0] 62) := ⟨_, rfl⟩
      have hZB : Below w8.heap.size w8 Z := by rw [hZ]; exact (Below.refl _ _).alloc (Nat.le_refl _) _
      have HZX := hid (ends_true HB8.out hZB)
      obtain ⟨z0, z1, -⟩ := slot2 (show Z.heap[p2]? = some (.cells #[.slice none 0 0, .slice none 0 0] 62 (0, 0)) by rw [hZ, hp2]; exact heap_alloc_new _ _)
      obtain ⟨x0, x1⟩ := HXC.out Z HZX.out
      clear hZB HVX
      rw [hZ, hp2] at z0 z1
      rw [hZ] at x0 x1
      go_wp2_with fail
      rw [← hZ]
      go_ret
      exact ⟨ret_bool HLB.out, ends_true HBX.out HZX.out⟩
  · have HLT := hid (show ∀ n, Done search s n → 1000 < n from fun n hn => hn.late (fun i hi => (h1 i hi).1) h2 h3)
    have HB6 := hid (ends_true HB5.out hb6)
    clear h1 h2 h3 hb6 HNF
    obtain ⟨X, hX⟩ : ∃ X, X = w6.alloc (.cells #[.slice none 0 0, .slice none 0 0] 59) := ⟨_, rfl⟩
    have HXB := hid (show Below w6.heap.size w6 X by rw [hX]; exact (Below.refl _ _).alloc (Nat.le_refl _) _)
    have HBX := hid (ends_true HB6.out HXB.out)
    clear HB6
    go_wp2_with fail
    rw [← hX]
    clear hX HXB
    refine (rmake_any search S d A1 c1 l X (H1.out.below HBX.out) HF.out.few HF.out.cnt).mono ?_
    rintro e w7 ⟨a, rfl, hrf, hb⟩
    have HR7 := hid hrf
    have HB7 := hid hb
    clear hb hrf
    go_wp2_with fail
    refine (rdmake_any HF.out HR7.out).mono ?_
    rw [← HSD.out]
    rintro e w8 ⟨hb8, ⟨n, hn, q1, q2, v8, rfl, hv8⟩ | ⟨n, q1, q2, q3, rfl⟩⟩
    · exfalso
      have := HLT.out n ⟨fun i hi => (q1 i hi).1, q2⟩
      omega
    · have HB8 := hid (ends_true HB7.out hb8)
      clear hb8 q1 q2 q3
      obtain ⟨p2, hp2⟩ : ∃ p, p = w8.heap.size := ⟨_, rfl⟩
      obtain ⟨Z, hZ⟩ : ∃ X, X = w8.alloc (.cells #[.slice none 0 0, .slice none 0 0] 62) := ⟨_, rfl⟩
      have hZB : Below w8.heap.size w8 Z := by rw [hZ]; exact (Below.refl _ _).alloc (Nat.le_refl _) _
      have HZX := hid (ends_true HB8.out hZB)
      obtain ⟨z0, z1, -⟩ := slot2 (show Z.heap[p2]? = some (.cells #[.slice none 0 0, .slice none 0 0] 62 (0, 0)) by rw [hZ, hp2]; exact heap_alloc_new _ _)
      clear hZB
      rw [hZ, hp2] at z0 z1
      go_wp2_with fail
      rw [← hZ]
      go_ret
      exact ⟨rfl, ends_true HBX.out HZX.out⟩
end Go.Proofs.Ythdhbkngbmjjkaa
