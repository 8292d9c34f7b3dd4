/- The statement ExprMacros' code: it returns true. Conditions: the arguments lie in memory. -/
import Derived.Test.YtjcdcmeclnihbaaMp
namespace Go.Proofs.Ytjcdcmeclnihbaa
open Go.RowKit
set_option linter.unusedSimpArgs false
theorem letter30_any (c : Nat) (w : World) (hc : c ≤ 255) : Calls Try.prog 30 #[.int .u8 c] w fun e w' => e = .returned (.bool (isL c)) ∧ w' = w := by
  have HC := hid (show isL c = ((decide (65 ≤ c) && decide (c ≤ 90)) || (decide (97 ≤ c) && decide (c ≤ 122))) from rfl)
  go_enter Try.func30, Try.ntmps30
  by_cases h1 : 65 ≤ c
  · by_cases h2 : c ≤ 90
    · go_wp2_with fail
      go_ret
      exact ⟨ret_bool (by rw [HC.out]; (try simp [h1, h2]) <;> omega), rfl⟩
    · by_cases h3 : 97 ≤ c
      · by_cases h4 : c ≤ 122
        · go_wp2_with fail
          go_ret
          exact ⟨ret_bool (by rw [HC.out]; (try simp [h3, h4]) <;> omega), rfl⟩
        · go_wp2_with fail
          go_ret
          exact ⟨ret_bool (by rw [HC.out]; (try simp [h2, h4]) <;> omega), rfl⟩
      · go_wp2_with fail
        go_ret
        exact ⟨ret_bool (by rw [HC.out]; (try simp [h2, h3]) <;> omega), rfl⟩
  · have h3 : ¬ 97 ≤ c := by omega
    go_wp2_with fail
    go_ret
    exact ⟨ret_bool (by rw [HC.out]; (try simp [h1, h3]) <;> omega), rfl⟩
theorem fits_within {p : PT} (h : fitsP false p = true) (hk : p.kind ≠ 9) : fitsP true p = true := by
  cases p with
  | mk k c l =>
    rw [fitsP, Bool.and_eq_true] at h ⊢
    refine ⟨?_, h.2⟩
    have h3 := h.1
    simp only [PT.kind] at hk
    unfold fitB at h3 ⊢
    rw [decide_eq_false hk] at h3 ⊢
    exact h3
/-- Whether a letter stands before a place. -/
def pvOf (l : Bs) (k : Nat) : Bool := if k = 0 then false else isL (l[k - 1]?.getD 0)
theorem pv_next {l : Bs} {k c : Nat} (h : l[k]? = some c) : pvOf l (k + 1) = isL c := by
  unfold pvOf
  rw [if_neg (by omega), Nat.add_sub_cancel, h]
  rfl
theorem hd_drop (l : Bs) (k : Nat) : hd (l.drop k) = l[k]?.getD 0 := by
  unfold hd
  rw [← List.head?_drop]
  cases l.drop k <;> rfl
theorem hd_next {l : Bs} {k x : Nat} (h : l[k]? = some x) : hd (l.drop k) = x := by rw [hd_drop, h]; rfl
theorem hd_last {s : ByteArray} {k : Nat} (h : k = s.size) : isL (hd ((bsOf s).drop k)) = false := by
  rw [List.drop_eq_nil_of_le (by rw [bsOf_len]; omega)]; rfl
theorem step_else {tx : Bs} {s tb : ByteArray} {k c : Nat} (h : bsOf tb ++ subF tx (pvOf (bsOf s) k) ((bsOf s).drop k) = sub tx (bsOf s)) (hc : (bsOf s)[k]? = some c) (hn : ¬ (c = 120 ∧ pvOf (bsOf s) k = false ∧ isL (hd ((bsOf s).drop (k + 1))) = false)) :
    bsOf (tb ++ s.extract k (k + 1)) ++ subF tx (pvOf (bsOf s) (k + 1)) ((bsOf s).drop (k + 1)) = sub tx (bsOf s) := by
  rw [drop_cons hc, subF, if_neg hn] at h
  rw [bsOf_app, bsOf_extract, drop_cons hc, pv_next hc, ← h, show k + 1 - k = 1 by omega]
  simp
theorem step_x {tx : Bs} {s tb u : ByteArray} {k c : Nat} (h : bsOf tb ++ subF tx (pvOf (bsOf s) k) ((bsOf s).drop k) = sub tx (bsOf s)) (hc : (bsOf s)[k]? = some c) (hu : bsOf u = tx) (hn : c = 120 ∧ pvOf (bsOf s) k = false ∧ isL (hd ((bsOf s).drop (k + 1))) = false) :
    bsOf (tb ++ ⟨#[40]⟩ ++ u ++ ⟨#[41]⟩) ++ subF tx (pvOf (bsOf s) (k + 1)) ((bsOf s).drop (k + 1)) = sub tx (bsOf s) := by
  rw [drop_cons hc, subF, if_pos hn] at h
  rw [bsOf_app, bsOf_app, bsOf_app, hu, pv_next hc, ← h, show bsOf ⟨#[40]⟩ = [40] from rfl, show bsOf ⟨#[41]⟩ = [41] from rfl]
  simp
set_option maxRecDepth 100000 in
set_option maxHeartbeats 8000000 in
theorem macros_walk (d d2 : Nat) (v v2 : Value) (t : Tr d) (t2 : Tr d2) (s : ByteArray) (w : World) (h : IsTr w Any d v t) (h2 : IsTr w Any d2 v2 t2) :
    Calls Try.prog 9 #[v, v2, .string s] w fun e w' => e = .returned (.bool true) ∧ Below w.heap.size w w' := by
  obtain ⟨A, c, rfl⟩ := h.plain.form
  obtain ⟨B, cB, rfl⟩ := h2.plain.form
  obtain ⟨k0, hk0⟩ : ∃ k, k = (toP d t).kind := ⟨_, rfl⟩
  obtain ⟨c0, hc0⟩ : ∃ k, k = (toP d t).cls := ⟨_, rfl⟩
  obtain ⟨n0, hn0⟩ : ∃ k, k = (toP d t).kids.length := ⟨_, rfl⟩
  obtain ⟨j0, hj0⟩ : ∃ k, k = (toP d2 t2).kind := ⟨_, rfl⟩
  obtain ⟨j1, hj1⟩ : ∃ k, k = (toP d2 t2).cls := ⟨_, rfl⟩
  obtain ⟨m0, hm0⟩ : ∃ k, k = (toP d2 t2).kids.length := ⟨_, rfl⟩
  have HK0 := hid hk0
  have HC0 := hid hc0
  have HN0 := hid hn0
  have HJ0 := hid hj0
  have HJ1 := hid hj1
  have HM0 := hid hm0
  rw [← hk0, ← hc0, ← hn0] at h ⊢
  rw [← hj0, ← hj1, ← hm0] at h2 ⊢
  obtain ⟨X, hX⟩ : ∃ X, X = (w.alloc (.cells #[.int .i64 k0, .int .i64 c0, .slice A n0 c] 51)).alloc (.cells #[.int .i64 j0, .int .i64 j1, .slice B m0 cB] 51) := ⟨_, rfl⟩
  obtain ⟨q, hq⟩ : ∃ q, q = w.heap.size := ⟨_, rfl⟩
  have HX := hid hX
  have HQ := hid hq
  have hb1 : Below w.heap.size w (w.alloc (.cells #[.int .i64 k0, .int .i64 c0, .slice A n0 c] 51)) := (Below.refl _ _).alloc (Nat.le_refl _) _
  have hb : Below w.heap.size w X := by rw [hX]; exact hb1.alloc hb1.size _
  have HXB := hid (show X.heap[q]? = some (.cells #[.int .i64 k0, .int .i64 c0, .slice A n0 c] 51 (0, 0)) by
    rw [hX, hq]
    exact (((Below.refl _ (w.alloc (.cells #[.int .i64 k0, .int .i64 c0, .slice A n0 c] 51))).alloc (Nat.le_refl _) _).block w.heap.size (by simp)).trans (heap_alloc_new _ _))
  have HXB2 := hid (show X.heap[q + 1]? = some (.cells #[.int .i64 j0, .int .i64 j1, .slice B m0 cB] 51 (0, 0)) by
    have h1 := heap_alloc_new (w.alloc (.cells #[.int .i64 k0, .int .i64 c0, .slice A n0 c] 51)) (.cells #[.int .i64 j0, .int .i64 j1, .slice B m0 cB] 51)
    rw [← hX, show (w.alloc (.cells #[.int .i64 k0, .int .i64 c0, .slice A n0 c] 51)).heap.size = q + 1 by rw [hq]; simp] at h1
    exact h1)
  have HQX := hid (show q + 1 < X.heap.size from (Array.getElem?_eq_some_iff.1 HXB2.out).1)
  have HCX := hid (show ∀ Y : World, Below X.heap.size X Y → Y.cell? ⟨q, 0, none⟩ = some (.int .i64 k0) ∧ Y.cell? ⟨q, 1, none⟩ = some (.int .i64 c0) ∧ Y.cell? ⟨q, 2, none⟩ = some (.slice A n0 c) from fun Y hY => by
    obtain ⟨c0, c1, c2, -⟩ := slot3 ((hY.block q (by have := HQX.out; omega)).trans HXB.out)
    exact ⟨c0, c1, c2⟩)
  have HCX2 := hid (show ∀ Y : World, Below X.heap.size X Y → Y.cell? ⟨q + 1, 0, none⟩ = some (.int .i64 j0) ∧ Y.cell? ⟨q + 1, 1, none⟩ = some (.int .i64 j1) ∧ Y.cell? ⟨q + 1, 2, none⟩ = some (.slice B m0 cB) from fun Y hY => by
    obtain ⟨c0, c1, c2, -⟩ := slot3 ((hY.block (q + 1) HQX.out).trans HXB2.out)
    exact ⟨c0, c1, c2⟩)
  have HB := hid hb
  have HTX := hid (h.below hb)
  have HTX2 := hid (h2.below hb)
  have HGR := hid (egreat_any HTX.out)
  clear hX hq h h2 hb hb1 hk0 hc0 hn0 hj0 hj1 hm0
  obtain ⟨y0, y1, y2⟩ := HCX.out X (Below.refl _ _)
  go_enter Try.func9, Try.ntmps9
  go_wp2_with fail
  rw [← HX.out, ← HQ.out]
  go_wp2_with fail
  refine HGR.out.mono ?_
  rintro e w1 ⟨rfl, hb1⟩
  have HB1 := hid hb1
  clear hb1 y0 y1 y2
  by_cases hgr : 60 < cnt d t
  · rw [decide_eq_true hgr]
    go_wp2_with fail
    refine (eawake_any w1).mono ?_
    rintro e w2 ⟨rfl, hb2⟩
    have HB2 := hid (HB.out.trans ((HB1.out.trans (hb2.mono HB1.out.size)).mono HB.out.size))
    clear hb2
    go_wp2_with fail
    go_ret
    exact ⟨rfl, HB2.out⟩
  rw [decide_eq_false hgr]
  have HN60 := hid (show cnt d t ≤ 2000 by omega)
  have HRE := hid (rightT_of (d := d) (t := t) (by omega))
  clear hgr
  obtain ⟨z0, z1, z2⟩ := HCX2.out w1 HB1.out
  have HGR2 := hid (egreat_any (HTX2.out.below HB1.out))
  go_wp2_with fail
  refine HGR2.out.mono ?_
  rintro e w2 ⟨rfl, hb2⟩
  have HB2 := hid (HB1.out.trans (hb2.mono HB1.out.size))
  clear hb2 z0 z1 z2 HGR2
  by_cases hgr2 : 60 < cnt d2 t2
  · rw [decide_eq_true hgr2]
    go_wp2_with fail
    refine (eawake_any w2).mono ?_
    rintro e w3 ⟨rfl, hb3⟩
    have HB3 := hid (HB.out.trans ((HB2.out.trans (hb3.mono HB2.out.size)).mono HB.out.size))
    clear hb3
    go_wp2_with fail
    go_ret
    exact ⟨rfl, HB3.out⟩
  rw [decide_eq_false hgr2]
  have HN2 := hid (show cnt d2 t2 ≤ 2000 by omega)
  clear hgr2
  by_cases hlen : 100 < s.size
  · have hli := ilt_true (show (100 : Int) < (s.size : Int) by omega)
    clear hlen
    go_wp2_with fail
    refine (eawake_any w2).mono ?_
    rintro e w3 ⟨rfl, hb3⟩
    have HB3 := hid (HB.out.trans ((HB2.out.trans (hb3.mono HB2.out.size)).mono HB.out.size))
    clear hb3
    go_wp2_with fail
    go_ret
    exact ⟨rfl, HB3.out⟩
  have hli := ilt_false (show ¬ (100 : Int) < (s.size : Int) by omega)
  have hs100 : s.size ≤ 100 := by omega
  clear hlen
  go_wp2_with fail
  refine (eawake_any w2).mono ?_
  rintro e w3 ⟨rfl, hb3⟩
  have HB3 := hid (HB2.out.trans (hb3.mono HB2.out.size))
  clear hb3
  obtain ⟨z0, z1, z2⟩ := HCX.out w3 HB3.out
  go_wp2_with fail
  refine (rright_any Any d _ t false w3 (HTX.out.below HB3.out) HN60.out).mono ?_
  rintro e w4 ⟨rfl, hb4⟩
  have HW0 := hid (HB3.out.trans (hb4.mono HB3.out.size))
  have HBW := hid (HB.out.trans (HW0.out.mono HB.out.size))
  clear hb4 z0 z1 z2
  obtain ⟨z0, z1, z2⟩ := HCX.out w4 HW0.out
  cases hfit : fitsT d false t with
  | false =>
    go_wp2_with fail
    go_ret
    exact ⟨rfl, HBW.out⟩
  | true =>
    by_cases hk9 : k0 = 9
    · subst hk9
      go_wp2_with fail
      go_ret
      exact ⟨rfl, HBW.out⟩
    have b9 := ieq_false hk9
    have HRT := hid (HRE.out.trans hfit)
    have HFI := hid (show fitsP true (toP d t) = true by
      have h1 : fitsP false (toP d t) = true := by rw [fitsP_toP]; exact hfit
      exact fits_within h1 (by rw [← HK0.out]; exact hk9))
    have HK9 := hid hk9
    clear hfit hk9
    obtain ⟨tx, htx⟩ : ∃ tx, tx = txP (toP d t) := ⟨_, rfl⟩
    have HPT := hid (show printP (toP d t) = tx by
      unfold printP
      rw [rightP_toP, HRT.out, htx]
      rfl)
    have HPS := hid (show ∀ u : ByteArray, bsOf u = printP (toP d t) → u.size ≤ 49000 from fun u hu => by
      have h1 := txP_len (toP d t)
      rw [HPT.out, htx] at hu
      rw [← hu, bsOf_len, cntP_toP] at h1
      have := HN60.out
      omega)
    have HTXE := hid htx
    clear htx
    go_wp2_with fail
    clear z0 z1 z2
    go_loopw [7, 8] (fun s7 s8 wr => ∃ (k : Nat) (tb : ByteArray), k ≤ s.size ∧ s8 = .int .i64 k ∧ s7 = .string tb ∧ tb.size ≤ 50000 * k ∧ Hid (bsOf tb ++ subF tx (pvOf (bsOf s) k) ((bsOf s).drop k) = sub tx (bsOf s)) ∧ Hid (Below X.heap.size X wr)) (fun _ s8 _ => s.size - (intOf s8).toNat)
    case atStart => exact ⟨0, ⟨#[]⟩, by omega, rfl, rfl, by show 0 ≤ _; omega, hid rfl, HW0⟩
    case round =>
      obtain ⟨k, tb, hk, rfl, rfl, htb, HT, HWr⟩ := hrel
      by_cases hlt : k < s.size
      · obtain ⟨c, hc⟩ : ∃ c, (bsOf s)[k]? = some c := ⟨_, List.getElem?_eq_getElem (by rw [bsOf_len]; exact hlt)⟩
        have hex : (s.extract k (k + 1)).size = 1 := by rw [ByteArray.size_extract]; omega
        by_cases hk0 : k = 0
        · subst hk0
          have HPV := hid (show pvOf (bsOf s) 0 = false from rfl)
          have hci0 : ∀ W, (Instr.index 9 (.string s) (.int .i64 0)).run Try.prog W = .ok (.int .u8 (c : Int)) W := fun W => str_index hc W
          by_cases h120 : c = 120
          · subst h120
            have hci : ((120 : Nat) : Int) = 120 := rfl
            by_cases hlast : 0 + 1 = s.size
            · have hli := ieq_true (show ((1 : Int)) = (s.size : Int) by omega)
              have HLS := hid hlast
              obtain ⟨z0, z1, z2⟩ := HCX.out _ HWr.out
              clear hlast
              go_wp2_with fail
              refine (to_any Any d _ t _ (HTX.out.below HWr.out) HN60.out).mono ?_
              rintro e w5 ⟨vx, rfl, hb5, htx⟩
              obtain ⟨Ax, cx, rfl⟩ := htx.plain.form
              have HTx := hid (htx.plain.mono (S' := Any) fun _ _ _ => trivial)
              have HW5 := hid (HWr.out.trans (hb5.mono HWr.out.size))
              clear hb5 htx
              go_wp2_with fail
              refine (print_any _ _ _ HTx.out).mono ?_
              rintro e w6 ⟨u, rfl, hu, hb6⟩
              have HW6 := hid (HW5.out.trans (hb6.mono HW5.out.size))
              have HU := hid hu
              have hus := HPS.out u hu
              clear hb6 hu
              go_wp2_with fail
              go_roundw
              case rel =>
                refine ⟨0 + 1, tb ++ ⟨#[40]⟩ ++ u ++ ⟨#[41]⟩, by omega, by go_num, rfl, ?_, hid (step_x HT.out hc (HU.out.trans HPT.out) (by exact ⟨rfl, HPV.out, hd_last HLS.out⟩)), HW6⟩
                rw [ByteArray.size_append, ByteArray.size_append, ByteArray.size_append]
                show tb.size + 1 + u.size + 1 ≤ _
                omega
              case measure => simp [intOf]; omega
            · have hli := ieq_false (show ((1 : Int)) ≠ (s.size : Int) by omega)
              obtain ⟨x, hx⟩ : ∃ x, (bsOf s)[0 + 1]? = some x := ⟨_, List.getElem?_eq_getElem (by rw [bsOf_len]; omega)⟩
              have hx255 : x ≤ 255 := bsOf_le (List.mem_of_getElem? hx)
              have hxi := str_index hx
              have HXX := hid hx
              have hk1 := True.intro
              have hxi : ∀ W, (Instr.index 9 (.string s) (.int .i64 1)).run Try.prog W = .ok (.int .u8 (x : Int)) W := fun W => hxi W
              clear hlast hx hk1
              go_wp2_with fail
              refine (letter30_any x _ hx255).mono ?_
              rintro e w4 ⟨rfl, rfl⟩
              cases hlx : isL x with
              | true =>
                go_wp2_with fail
                go_roundw
                case rel =>
                  refine ⟨0 + 1, tb ++ s.extract 0 (0 + 1), by omega, by go_num, rfl, ?_, hid (step_else HT.out hc (by intro h; have := h.2.2; rw [hd_next HXX.out, hlx] at this; cases this)), HWr⟩
                  rw [ByteArray.size_append, hex]; omega
                case measure => simp [intOf]; omega
              | false =>
                obtain ⟨z0, z1, z2⟩ := HCX.out _ HWr.out
                go_wp2_with fail
                refine (to_any Any d _ t _ (HTX.out.below HWr.out) HN60.out).mono ?_
                rintro e w5 ⟨vx, rfl, hb5, htx⟩
                obtain ⟨Ax, cx, rfl⟩ := htx.plain.form
                have HTx := hid (htx.plain.mono (S' := Any) fun _ _ _ => trivial)
                have HW5 := hid (HWr.out.trans (hb5.mono HWr.out.size))
                clear hb5 htx
                go_wp2_with fail
                refine (print_any _ _ _ HTx.out).mono ?_
                rintro e w6 ⟨u, rfl, hu, hb6⟩
                have HW6 := hid (HW5.out.trans (hb6.mono HW5.out.size))
                have HU := hid hu
                have hus := HPS.out u hu
                clear hb6 hu
                go_wp2_with fail
                go_roundw
                case rel =>
                  refine ⟨0 + 1, tb ++ ⟨#[40]⟩ ++ u ++ ⟨#[41]⟩, by omega, by go_num, rfl, ?_, hid (step_x HT.out hc (HU.out.trans HPT.out) (by exact ⟨rfl, HPV.out, (congrArg isL (hd_next HXX.out)).trans hlx⟩)), HW6⟩
                  rw [ByteArray.size_append, ByteArray.size_append, ByteArray.size_append]
                  show tb.size + 1 + u.size + 1 ≤ _
                  omega
                case measure => simp [intOf]; omega
          · have hci := ieq_false (show (c : Int) ≠ 120 by omega)
            have HNC := hid h120
            clear h120
            go_wp2_with fail
            go_roundw
            case rel =>
              refine ⟨0 + 1, tb ++ s.extract 0 (0 + 1), by omega, by go_num, rfl, ?_, hid (step_else HT.out hc (by exact fun h => HNC.out h.1)), HWr⟩
              rw [ByteArray.size_append, hex]; omega
            case measure => simp [intOf]; omega
        · have hki := ieq_false (show (k : Int) ≠ 0 by omega)
          have hci0 := str_index hc
          obtain ⟨y, hy⟩ : ∃ y, (bsOf s)[k - 1]? = some y := ⟨_, List.getElem?_eq_getElem (by rw [bsOf_len]; omega)⟩
          have hy255 : y ≤ 255 := bsOf_le (List.mem_of_getElem? hy)
          have hyi := str_index hy
          have hk1 : ((k - 1 : Nat) : Int) = (k : Int) - 1 := by omega
          rw [hk1] at hyi
          have HPV := hid (show pvOf (bsOf s) k = isL y by unfold pvOf; rw [if_neg hk0, hy]; rfl)
          clear hy hk1
          go_wp2_with fail
          refine (letter30_any y _ hy255).mono ?_
          rintro e w4 ⟨rfl, rfl⟩
          cases hly : isL y with
          | true =>
            rw [hly] at HPV
            by_cases h120 : c = 120
            · subst h120
              have hci : ((120 : Nat) : Int) = 120 := rfl
              go_wp2_with fail
              go_roundw
              case rel =>
                refine ⟨k + 1, tb ++ s.extract k (k + 1), by omega, by go_num, rfl, ?_, hid (step_else HT.out hc (by rw [HPV.out]; intro h; cases h.2.1)), HWr⟩
                rw [ByteArray.size_append, hex]; omega
              case measure => simp [intOf]; omega
            · have hci := ieq_false (show (c : Int) ≠ 120 by omega)
              have HNC := hid h120
              clear h120
              go_wp2_with fail
              go_roundw
              case rel =>
                refine ⟨k + 1, tb ++ s.extract k (k + 1), by omega, by go_num, rfl, ?_, hid (step_else HT.out hc (by exact fun h => HNC.out h.1)), HWr⟩
                rw [ByteArray.size_append, hex]; omega
              case measure => simp [intOf]; omega
          | false =>
            rw [hly] at HPV
            by_cases h120 : c = 120
            · subst h120
              have hci : ((120 : Nat) : Int) = 120 := rfl
              by_cases hlast : k + 1 = s.size
              · have hli := ieq_true (show ((k : Int) + 1) = (s.size : Int) by omega)
                have HLS := hid hlast
                obtain ⟨z0, z1, z2⟩ := HCX.out _ HWr.out
                clear hlast
                go_wp2_with fail
                refine (to_any Any d _ t _ (HTX.out.below HWr.out) HN60.out).mono ?_
                rintro e w5 ⟨vx, rfl, hb5, htx⟩
                obtain ⟨Ax, cx, rfl⟩ := htx.plain.form
                have HTx := hid (htx.plain.mono (S' := Any) fun _ _ _ => trivial)
                have HW5 := hid (HWr.out.trans (hb5.mono HWr.out.size))
                clear hb5 htx
                go_wp2_with fail
                refine (print_any _ _ _ HTx.out).mono ?_
                rintro e w6 ⟨u, rfl, hu, hb6⟩
                have HW6 := hid (HW5.out.trans (hb6.mono HW5.out.size))
                have HU := hid hu
                have hus := HPS.out u hu
                clear hb6 hu
                go_wp2_with fail
                go_roundw
                case rel =>
                  refine ⟨k + 1, tb ++ ⟨#[40]⟩ ++ u ++ ⟨#[41]⟩, by omega, by go_num, rfl, ?_, hid (step_x HT.out hc (HU.out.trans HPT.out) (by exact ⟨rfl, HPV.out, hd_last HLS.out⟩)), HW6⟩
                  rw [ByteArray.size_append, ByteArray.size_append, ByteArray.size_append]
                  show tb.size + 1 + u.size + 1 ≤ _
                  omega
                case measure => simp [intOf]; omega
              · have hli := ieq_false (show ((k : Int) + 1) ≠ (s.size : Int) by omega)
                obtain ⟨x, hx⟩ : ∃ x, (bsOf s)[k + 1]? = some x := ⟨_, List.getElem?_eq_getElem (by rw [bsOf_len]; omega)⟩
                have hx255 : x ≤ 255 := bsOf_le (List.mem_of_getElem? hx)
                have hxi := str_index hx
                have HXX := hid hx
                have hk1 : ((k + 1 : Nat) : Int) = (k : Int) + 1 := by omega
                rw [hk1] at hxi
                clear hlast hx hk1
                go_wp2_with fail
                refine (letter30_any x _ hx255).mono ?_
                rintro e w4 ⟨rfl, rfl⟩
                cases hlx : isL x with
                | true =>
                  go_wp2_with fail
                  go_roundw
                  case rel =>
                    refine ⟨k + 1, tb ++ s.extract k (k + 1), by omega, by go_num, rfl, ?_, hid (step_else HT.out hc (by intro h; have := h.2.2; rw [hd_next HXX.out, hlx] at this; cases this)), HWr⟩
                    rw [ByteArray.size_append, hex]; omega
                  case measure => simp [intOf]; omega
                | false =>
                  obtain ⟨z0, z1, z2⟩ := HCX.out _ HWr.out
                  go_wp2_with fail
                  refine (to_any Any d _ t _ (HTX.out.below HWr.out) HN60.out).mono ?_
                  rintro e w5 ⟨vx, rfl, hb5, htx⟩
                  obtain ⟨Ax, cx, rfl⟩ := htx.plain.form
                  have HTx := hid (htx.plain.mono (S' := Any) fun _ _ _ => trivial)
                  have HW5 := hid (HWr.out.trans (hb5.mono HWr.out.size))
                  clear hb5 htx
                  go_wp2_with fail
                  refine (print_any _ _ _ HTx.out).mono ?_
                  rintro e w6 ⟨u, rfl, hu, hb6⟩
                  have HW6 := hid (HW5.out.trans (hb6.mono HW5.out.size))
                  have HU := hid hu
                  have hus := HPS.out u hu
                  clear hb6 hu
                  go_wp2_with fail
                  go_roundw
                  case rel =>
                    refine ⟨k + 1, tb ++ ⟨#[40]⟩ ++ u ++ ⟨#[41]⟩, by omega, by go_num, rfl, ?_, hid (step_x HT.out hc (HU.out.trans HPT.out) (by exact ⟨rfl, HPV.out, (congrArg isL (hd_next HXX.out)).trans hlx⟩)), HW6⟩
                    rw [ByteArray.size_append, ByteArray.size_append, ByteArray.size_append]
                    show tb.size + 1 + u.size + 1 ≤ _
                    omega
                  case measure => simp [intOf]; omega
            · have hci := ieq_false (show (c : Int) ≠ 120 by omega)
              have HNC := hid h120
              clear h120
              go_wp2_with fail
              go_roundw
              case rel =>
                refine ⟨k + 1, tb ++ s.extract k (k + 1), by omega, by go_num, rfl, ?_, hid (step_else HT.out hc (by exact fun h => HNC.out h.1)), HWr⟩
                rw [ByteArray.size_append, hex]; omega
              case measure => simp [intOf]; omega
      · have hks : k = s.size := by omega
        subst hks
        have HLAW := hid (macros_law (ms := [(⟨#[120]⟩, toP d2 t2), (⟨#[120]⟩, toP d t)]) (s := s) (t := tb) (macs_x (by rw [rightP_toP]; exact HRT.out) (by rw [← HK0.out]; exact HK9.out)).1 (macs_x (by rw [rightP_toP]; exact HRT.out) (by rw [← HK0.out]; exact HK9.out)).2 HFI.out (by omega) (by
          have h1 := HT.out
          rw [List.drop_eq_nil_of_le (by rw [bsOf_len]; exact Nat.le_refl _), subF, List.append_nil, HTXE.out] at h1
          exact h1))
        have HCS := hid (show ∀ Y : World, Below wr.heap.size wr Y → Y.cell? ⟨q, 0, none⟩ = some (.int .i64 k0) ∧ Y.cell? ⟨q, 1, none⟩ = some (.int .i64 c0) ∧ Y.cell? ⟨q, 2, none⟩ = some (.slice A n0 c) ∧ Y.cell? ⟨q + 1, 0, none⟩ = some (.int .i64 j0) ∧ Y.cell? ⟨q + 1, 1, none⟩ = some (.int .i64 j1) ∧ Y.cell? ⟨q + 1, 2, none⟩ = some (.slice B m0 cB) from fun Y hY => by
          have hxy := HWr.out.trans (hY.mono HWr.out.size)
          obtain ⟨f0, f1, f2⟩ := HCX.out Y hxy
          obtain ⟨f3, f4, f5⟩ := HCX2.out Y hxy
          exact ⟨f0, f1, f2, f3, f4, f5⟩)
        have HTn := hid (HTX.out.below HWr.out)
        have HT2n := hid (HTX2.out.below HWr.out)
        have HW := hid (Below.refl wr.heap.size wr)
        go_wp2_with fail
        refine wp_region_held_drew (S := (fun Y => Y.cell? ⟨q, 0, none⟩ = some (.int .i64 k0) ∧ Y.cell? ⟨q, 1, none⟩ = some (.int .i64 c0) ∧ Y.cell? ⟨q, 2, none⟩ = some (.slice A n0 c) ∧ Y.cell? ⟨q + 1, 0, none⟩ = some (.int .i64 j0) ∧ Y.cell? ⟨q + 1, 1, none⟩ = some (.int .i64 j1) ∧ Y.cell? ⟨q + 1, 2, none⟩ = some (.slice B m0 cB))) (by kernel_rfl) (by exact HCS.out _ HW.out.drew) (fun hHeld => ?_)
        refine wpAnyH_take (i := 0) (oi := { dst := some 93, op := Op.move (Operand.tmp 2), type := _, pos := _, after := _, guard := none }) (v := ?_) rfl (by kernel_rfl) (by kernel_rfl) (by kernel_rfl) (fun _ _ _ h => h) (Or.inl ⟨by rfl, ?_⟩) (by assumption) ?_
        rotate_left
        · intro w hSw; (try dsimp only at hSw); go_simp; try (first | with_reducible rfl | (refine (if_pos ?_).trans ?_ <;> first | omega | with_reducible rfl))
        try simp only [Act.put, List.setIfInBounds_toArray, List.set_cons_zero, List.set_cons_succ]
        refine wpAnyH_take (i := 1) (oi := { dst := some 94, op := Op.load 51 (Operand.tmp 4), type := _, pos := _, after := _, guard := none }) (v := ?_) rfl (by kernel_rfl) (by kernel_rfl) (by kernel_rfl) (fun _ _ _ h => h) (Or.inl ⟨by rfl, ?_⟩) (by assumption) ?_
        rotate_left
        · intro w hSw; (try dsimp only at hSw); go_simp; try (first | with_reducible rfl | (refine (if_pos ?_).trans ?_ <;> first | omega | with_reducible rfl))
        try simp only [Act.put, List.setIfInBounds_toArray, List.set_cons_zero, List.set_cons_succ]
        refine wpAnyH_take (i := 4) (oi := { dst := some 97, op := Op.load 51 (Operand.tmp 3), type := _, pos := _, after := _, guard := none }) (v := ?_) rfl (by kernel_rfl) (by kernel_rfl) (by kernel_rfl) (fun _ _ _ h => h) (Or.inl ⟨by rfl, ?_⟩) (by assumption) ?_
        rotate_left
        · intro w hSw; (try dsimp only at hSw); go_simp; try (first | with_reducible rfl | (refine (if_pos ?_).trans ?_ <;> first | omega | with_reducible rfl))
        try simp only [Act.put, List.setIfInBounds_toArray, List.set_cons_zero, List.set_cons_succ]
        replace HW := hid HW.out.drew
        refine wpAnyH_ready (rs := [2, 13]) (by kernel_rfl) (by simp) ?_
        refine AllReadyH.cons (o := { dst := some 95, op := Op.call { callee := Callee.value (Operand.func 28), args := #[Operand.tmp 94], argTypes := #[51] }, type := _, pos := _, after := _, guard := none }) rfl ?legA1n1 (AllReadyH.cons (o := { dst := some 10, op := Op.alloc 45, type := _, pos := _, after := _, guard := none }) rfl ?legB1n1 AllReadyH.nil)
        case' legA1n1 =>
          intro K hK
          rw [if_pos (by rfl)]
          go_simp
          refine (to_any Any d2 _ t2 _ (HT2n.out.below HW.out) HN2.out).mono ?_
          rintro e w5 ⟨v5, rfl, hb5, ht5⟩
          obtain ⟨A5, c5, rfl⟩ := ht5.plain.form
          rw [← HJ0.out, ← HJ1.out, ← HM0.out] at ht5 ⊢
          have HP5 := hid (ht5.plain.mono (S' := Any) fun _ _ _ => trivial)
          (try replace HG := hid ((hb5.block g (Array.getElem?_eq_some_iff.1 HG.out).1).trans HG.out))
          replace HW := hid (HW.out.trans (hb5.mono HW.out.size))
          clear hb5 ht5
          go_wp2_with fail
          refine hK.out _ _ (by exact HCS.out _ HW.out) (fun hHeld => ?_)
          clear hK K
          try simp only [Act.put, List.setIfInBounds_toArray, List.set_cons_zero, List.set_cons_succ]
          refine wpAnyH_take (i := 3) (oi := { dst := some 96, op := Op.build 64 #[(0, Operand.const (Value.string { data := #[120] })), (1, Operand.tmp 95)], type := _, pos := _, after := _, guard := none }) (v := ?_) rfl (by kernel_rfl) (by kernel_rfl) (by kernel_rfl) (fun _ _ _ h => h) (Or.inl ⟨by rfl, ?_⟩) (by assumption) ?_
          rotate_left
          · intro w hSw; (try dsimp only at hSw); go_simp; try (first | with_reducible rfl | (refine (if_pos ?_).trans ?_ <;> first | omega | with_reducible rfl))
          try simp only [Act.put, List.setIfInBounds_toArray, List.set_cons_zero, List.set_cons_succ]
          refine wpAnyH_ready (rs := [5, 13]) (by kernel_rfl) (by simp) ?_
          refine AllReadyH.cons (o := { dst := some 98, op := Op.call { callee := Callee.value (Operand.func 28), args := #[Operand.tmp 97], argTypes := #[51] }, type := _, pos := _, after := _, guard := none }) rfl ?legA1n2 (AllReadyH.cons (o := { dst := some 10, op := Op.alloc 45, type := _, pos := _, after := _, guard := none }) rfl ?legB1n2 AllReadyH.nil)
          case' legA1n2 =>
            intro K hK
            rw [if_pos (by rfl)]
            go_simp
            refine (to_any Any d _ t _ (HTn.out.below HW.out) HN60.out).mono ?_
            rintro e w6 ⟨v6, rfl, hb6, ht6⟩
            obtain ⟨A6, c6, rfl⟩ := ht6.plain.form
            rw [← HK0.out, ← HC0.out, ← HN0.out] at ht6 ⊢
            have HP6 := hid (ht6.plain.mono (S' := Any) fun _ _ _ => trivial)
            replace HP5 := hid (HP5.out.below hb6)
            (try replace HG := hid ((hb6.block g (Array.getElem?_eq_some_iff.1 HG.out).1).trans HG.out))
            replace HW := hid (HW.out.trans (hb6.mono HW.out.size))
            clear hb6 ht6
            go_wp2_with fail
            refine hK.out _ _ (by exact HCS.out _ HW.out) (fun hHeld => ?_)
            clear hK K
            try simp only [Act.put, List.setIfInBounds_toArray, List.set_cons_zero, List.set_cons_succ]
            refine wpAnyH_take (i := 6) (oi := { dst := some 99, op := Op.build 64 #[(0, Operand.const (Value.string { data := #[120] })), (1, Operand.tmp 98)], type := _, pos := _, after := _, guard := none }) (v := ?_) rfl (by kernel_rfl) (by kernel_rfl) (by kernel_rfl) (fun _ _ _ h => h) (Or.inl ⟨by rfl, ?_⟩) (by assumption) ?_
            rotate_left
            · intro w hSw; (try dsimp only at hSw); go_simp; try (first | with_reducible rfl | (refine (if_pos ?_).trans ?_ <;> first | omega | with_reducible rfl))
            try simp only [Act.put, List.setIfInBounds_toArray, List.set_cons_zero, List.set_cons_succ]
            refine wpAnyH_ready (rs := [7, 13]) (by kernel_rfl) (by simp) ?_
            refine AllReadyH.cons (o := { dst := some 100, op := Op.buildSlice 85 2 #[(0, Operand.tmp 96), (1, Operand.tmp 99)], type := _, pos := _, after := _, guard := none }) rfl ?legA1n3 (AllReadyH.cons (o := { dst := some 10, op := Op.alloc 45, type := _, pos := _, after := _, guard := none }) rfl ?legB1n3 AllReadyH.nil)
            case' legA1n3 =>
              intro K hK
              rw [if_pos (by rfl)]
              go_simp
              obtain ⟨U, gM, hU, hgM, hbU, hbU2, hgm1, hgm2, hrow⟩ := alloc_named HW.out #[.string ⟨#[120]⟩, .int .i64 j0, .int .i64 j1, .slice A5 m0 c5, .string ⟨#[120]⟩, .int .i64 k0, .int .i64 c0, .slice A6 n0 c6] 64
              rw [← hU, ← hgM]
              have HMR := hid hrow
              replace HP5 := hid (HP5.out.below hbU2)
              replace HP6 := hid (HP6.out.below hbU2)
              (try replace HG := hid ((hbU2.block g (Array.getElem?_eq_some_iff.1 HG.out).1).trans HG.out))
              replace HW := hid hbU
              clear hU hgM hbU hbU2 hgm1 hgm2 hrow
              refine hK.out _ _ (by exact HCS.out _ HW.out) (fun hHeld => ?_)
              clear hK K
              try simp only [Act.put, List.setIfInBounds_toArray, List.set_cons_zero, List.set_cons_succ]
              refine wpAnyH_ready (rs := [8, 13]) (by kernel_rfl) (by simp) ?_
              refine AllReadyH.cons (o := { dst := some 101, op := Op.call { callee := Callee.value (Operand.func 32), args := #[Operand.tmp 93, Operand.tmp 100], argTypes := #[9, 85] }, type := _, pos := _, after := _, guard := none }) rfl ?legA1n4 (AllReadyH.cons (o := { dst := some 10, op := Op.alloc 45, type := _, pos := _, after := _, guard := none }) rfl ?legB1n4 AllReadyH.nil)
              case' legA1n4 =>
                intro K hK
                rw [if_pos (by rfl)]
                go_simp
                refine (parse_two HMR.out HP5.out HP6.out).mono ?_
                rintro e w8 ⟨ka, ca, Aa, na, cpa, bad, xa, rfl, hb8, hca⟩
                first | (have HPA := hid (came_off hca (show g < _ from (Array.getElem?_eq_some_iff.1 HG.out).1)); replace HG := hid ((hb8.block g (Array.getElem?_eq_some_iff.1 HG.out).1).trans HG.out)) | (have HPL := hid hca)
                replace HW := hid (HW.out.trans (hb8.mono HW.out.size))
                clear hb8 hca
                go_wp2_with fail
                refine hK.out _ _ (by exact HCS.out _ HW.out) (fun hHeld => ?_)
                clear hK K
                try simp only [Act.put, List.setIfInBounds_toArray, List.set_cons_zero, List.set_cons_succ]
                refine wpAnyH_take (i := 9) (oi := { dst := some 92, op := Op.move (Operand.tmp 101), type := _, pos := _, after := _, guard := none }) (v := ?_) rfl (by kernel_rfl) (by kernel_rfl) (by kernel_rfl) (fun _ _ _ h => h) (Or.inl ⟨by rfl, ?_⟩) (by assumption) ?_
                rotate_left
                · intro w hSw; (try dsimp only at hSw); go_simp; try (first | with_reducible rfl | (refine (if_pos ?_).trans ?_ <;> first | omega | with_reducible rfl))
                try simp only [Act.put, List.setIfInBounds_toArray, List.set_cons_zero, List.set_cons_succ]
                refine wpAnyH_take (i := 10) (oi := { dst := some 102, op := Op.extract (Operand.tmp 92) 0, type := _, pos := _, after := _, guard := none }) (v := ?_) rfl (by kernel_rfl) (by kernel_rfl) (by kernel_rfl) (fun _ _ _ h => h) (Or.inl ⟨by rfl, ?_⟩) (by assumption) ?_
                rotate_left
                · intro w hSw; (try dsimp only at hSw); go_simp; try (first | with_reducible rfl | (refine (if_pos ?_).trans ?_ <;> first | omega | with_reducible rfl))
                try simp only [Act.put, List.setIfInBounds_toArray, List.set_cons_zero, List.set_cons_succ]
                refine wpAnyH_take (i := 11) (oi := { dst := some 103, op := Op.extract (Operand.tmp 92) 1, type := _, pos := _, after := _, guard := none }) (v := ?_) rfl (by kernel_rfl) (by kernel_rfl) (by kernel_rfl) (fun _ _ _ h => h) (Or.inl ⟨by rfl, ?_⟩) (by assumption) ?_
                rotate_left
                · intro w hSw; (try dsimp only at hSw); go_simp; try (first | with_reducible rfl | (refine (if_pos ?_).trans ?_ <;> first | omega | with_reducible rfl))
                try simp only [Act.put, List.setIfInBounds_toArray, List.set_cons_zero, List.set_cons_succ]
                refine wpAnyH_take (i := 12) (oi := { dst := some 104, op := Op.extract (Operand.tmp 92) 2, type := _, pos := _, after := _, guard := none }) (v := ?_) rfl (by kernel_rfl) (by kernel_rfl) (by kernel_rfl) (fun _ _ _ h => h) (Or.inl ⟨by rfl, ?_⟩) (by assumption) ?_
                rotate_left
                · intro w hSw; (try dsimp only at hSw); go_simp; try (first | with_reducible rfl | (refine (if_pos ?_).trans ?_ <;> first | omega | with_reducible rfl))
                try simp only [Act.put, List.setIfInBounds_toArray, List.set_cons_zero, List.set_cons_succ]
                refine wpAnyH_ready (rs := [13]) (by kernel_rfl) (by simp) ?_
                refine AllReadyH.cons (o := { dst := some 10, op := Op.alloc 45, type := _, pos := _, after := _, guard := none }) rfl (fun K hK => ?_) AllReadyH.nil
                rw [if_pos (by rfl)]
                refine wp_alloc_of 45 rfl (.agg nodeC) zero45 ?_
                obtain ⟨U2, g, hU, hg, hbU, hbU2, hgm1, hgm2, hrow⟩ := alloc_named HW.out nodeC 45
                rw [show (Value.agg nodeC).cells = nodeC from rfl, ← hU, ← hg]
                have HG := hid hrow
                have HGB := hid hgm1
                (try replace HP5 := hid (HP5.out.below hbU2))
                (try replace HP6 := hid (HP6.out.below hbU2))
                (try replace HMR := hid ((hbU2.block gM (Array.getElem?_eq_some_iff.1 HMR.out).1).trans HMR.out))
                (try have HPA := hid (came_new HPL.out hbU2 hg))
                replace HW := hid hbU
                clear hU hg hbU hbU2 hgm1 hgm2 hrow
                refine hK.out _ _ (by exact HCS.out _ HW.out) (fun hHeld => ?_)
                clear hK K
                try simp only [Act.put, List.setIfInBounds_toArray, List.set_cons_zero, List.set_cons_succ]
                refine wpAnyH_ready (rs := [14]) (by kernel_rfl) (by simp) ?_
                refine AllReadyH.cons (o := { dst := none, op := Op.store 45 (Operand.tmp 10) (Operand.tmp 102), type := _, pos := _, after := _, guard := none }) rfl (fun K hK => ?_) AllReadyH.nil
                have hZg := HG.out
                obtain ⟨u0, u1, u2, uf⟩ := slot3 (a := .int .i64 0) (b := .int .i64 0) (c := .slice none 0 0) hZg
                have uf0 := uf 0
                have uf1 := uf 1
                have uf2 := uf 2
                clear uf hZg
                rw [if_pos (by rfl)]
                go_simp
                obtain ⟨Z, hZ, hbZ, hrZ, hpZ⟩ := put_named HW.out HGB.out HG.out (.int .i64 ka) (.int .i64 ca) (.slice Aa na cpa) HPA.out
                rw [← hZ]
                clear u0 u1 u2 uf0 uf1 uf2 hZ
                have HZR := hid hrZ
                have HPZ := hid hpZ
                replace HW := hid hbZ
                clear hbZ hrZ hpZ
                refine hK.out _ _ (by exact HCS.out _ HW.out) (fun hHeld => ?_)
                clear hK K
                try simp only [Act.put, List.setIfInBounds_toArray, List.set_cons_zero, List.set_cons_succ]
                refine wpAnyH_take (i := 15) (oi := { dst := some 11, op := Op.assign (Operand.tmp 103), type := _, pos := _, after := _, guard := none }) (v := ?_) rfl (by kernel_rfl) (by kernel_rfl) (by kernel_rfl) (fun _ _ _ h => h) (Or.inl ⟨by rfl, ?_⟩) (by assumption) ?_
                rotate_left
                · intro w hSw; (try dsimp only at hSw); go_simp; try (first | with_reducible rfl | (refine (if_pos ?_).trans ?_ <;> first | omega | with_reducible rfl))
                try simp only [Act.put, List.setIfInBounds_toArray, List.set_cons_zero, List.set_cons_succ]
                refine wpAnyH_take (i := 16) (oi := { dst := some 12, op := Op.assign (Operand.tmp 104), type := _, pos := _, after := _, guard := none }) (v := ?_) rfl (by kernel_rfl) (by kernel_rfl) (by kernel_rfl) (fun _ _ _ h => h) (Or.inl ⟨by rfl, ?_⟩) (by assumption) ?_
                rotate_left
                · intro w hSw; (try dsimp only at hSw); go_simp; try (first | with_reducible rfl | (refine (if_pos ?_).trans ?_ <;> first | omega | with_reducible rfl))
                try simp only [Act.put, List.setIfInBounds_toArray, List.set_cons_zero, List.set_cons_succ]
                refine wpAnyH_done (by kernel_rfl) ?_ _
                go_wp2_with fail
                refine (parse_none (s := tb)).mono ?_
                rintro e w9 ⟨kb, cb, Ab, nb, cpb, badb, xb, rfl, hb9, hcb⟩
                have HB9 := hid (HW.out.trans (hb9.mono HW.out.size))
                have hz9 := (hb9.block g (Array.getElem?_eq_some_iff.1 HZR.out).1).trans HZR.out
                obtain ⟨Y, g2, hY, hg2, hbY, hbY2, hgy1, hgy2, hrY⟩ := alloc_named HB9.out #[.int .i64 kb, .int .i64 cb, .slice Ab nb cpb] 45
                have HYE := hid hY
                have HBY := hid hbY
                have hyz := (hbY2.block g (Array.getElem?_eq_some_iff.1 hz9).1).trans hz9
                have HPA2 := hid (show ∀ p, parseF [(⟨#[120]⟩, toP d2 t2), (⟨#[120]⟩, toP d t)] s = .ok p → xa = 0 ∧ cntP p ≤ 2000 ∧ IsP Y (fun b => b ≠ g) (.agg #[.int .i64 ka, .int .i64 ca, .slice Aa na cpa]) p from fun p e => ⟨(HPZ.out.1 p e).1, (HPZ.out.1 p e).2.1, ((HPZ.out.1 p e).2.2.below hb9).below hbY2⟩)
                have HPB2 := hid (show ∀ p, parseF [] tb = .ok p → xb = 0 ∧ IsP Y Any (.agg #[.int .i64 kb, .int .i64 cb, .slice Ab nb cpb]) p from fun p e => ⟨(hcb.1 p e).1, ((hcb.1 p e).2.2.below hbY2).mono fun _ _ _ => trivial⟩)
                have HNA := hid HPZ.out.2
                have HNB := hid hcb.2
                have HFIN := hid (HB.out.trans ((HWr.out.trans (HBY.out.mono HWr.out.size)).mono HB.out.size))
                obtain ⟨a0, a1, a2, -⟩ := slot3 hyz
                obtain ⟨b0, b1, b2, -⟩ := slot3 hrY
                rw [hY] at a0 a1 a2
                rw [hY, hg2] at b0 b1 b2
                clear hY hg2 hbY hbY2 hgy1 hgy2 hrY hyz hz9 hb9 hcb HPZ
                cases hA : parseF [(⟨#[120]⟩, toP d2 t2), (⟨#[120]⟩, toP d t)] s with
                | ok pa =>
                  obtain ⟨hx0, hca, hia⟩ := HPA2.out pa hA
                  cases hB : parseF [] tb with
                  | ok pb =>
                    have hab : pa = pb := by have h9 := HLAW.out; rw [hA, hB] at h9; exact h9
                    obtain ⟨hxb0, hib⟩ := HPB2.out pb hB
                    subst hx0 hxb0 hab
                    have HCS2 := hid (sameP_any hia hib hca)
                    clear hia hib hca hA hB
                    go_wp2_with fail
                    rw [← HYE.out]
                    refine HCS2.out.mono ?_
                    rintro e w10 ⟨rfl, hb10⟩
                    have HF10 := hid (HB.out.trans ((HWr.out.trans ((HBY.out.trans (hb10.mono HBY.out.size)).mono HWr.out.size)).mono HB.out.size))
                    clear hb10
                    go_wp2_with fail
                    go_ret
                    exact ⟨rfl, HF10.out⟩
                  | no nb1 xe1 =>
                    have h63 : xe1 = 6 ∨ xe1 = 3 := by have h9 := HLAW.out; rw [hA, hB] at h9; exact h9
                    have hxe := (HNB.out _ _ hB).1
                    subst hx0 hxe
                    clear hia hca hA hB
                    rcases h63 with h63 | h63
                    · subst h63
                      go_wp2_with fail
                      go_ret
                      exact ⟨rfl, by rw [← HYE.out]; exact HFIN.out⟩
                    · subst h63
                      go_wp2_with fail
                      go_ret
                      exact ⟨rfl, by rw [← HYE.out]; exact HFIN.out⟩
                | no na1 xe0 =>
                  have hxa := (HNA.out _ _ hA)
                  cases hB : parseF [] tb with
                  | ok pb => exact absurd (show False by have h9 := HLAW.out; rw [hA, hB] at h9; exact h9) id
                  | no nb1 xe1 =>
                    have hxb := (HNB.out _ _ hB)
                    have hx1 : ¬ xa = 0 := hxa.2
                    have hx2 : ¬ xb = 0 := hxb.2
                    clear hxa hxb hA hB
                    go_wp2_with fail
                    go_ret
                    exact ⟨rfl, by rw [← HYE.out]; exact HFIN.out⟩
              case' legB1n4 =>
                intro K hK
                rw [if_pos (by rfl)]
                refine wp_alloc_of 45 rfl (.agg nodeC) zero45 ?_
                obtain ⟨U2, g, hU, hg, hbU, hbU2, hgm1, hgm2, hrow⟩ := alloc_named HW.out nodeC 45
                rw [show (Value.agg nodeC).cells = nodeC from rfl, ← hU, ← hg]
                have HG := hid hrow
                have HGB := hid hgm1
                (try replace HP5 := hid (HP5.out.below hbU2))
                (try replace HP6 := hid (HP6.out.below hbU2))
                (try replace HMR := hid ((hbU2.block gM (Array.getElem?_eq_some_iff.1 HMR.out).1).trans HMR.out))
                (try have HPA := hid (came_new HPL.out hbU2 hg))
                replace HW := hid hbU
                clear hU hg hbU hbU2 hgm1 hgm2 hrow
                refine hK.out _ _ (by exact HCS.out _ HW.out) (fun hHeld => ?_)
                clear hK K
                try simp only [Act.put, List.setIfInBounds_toArray, List.set_cons_zero, List.set_cons_succ]
                refine wpAnyH_ready (rs := [8]) (by kernel_rfl) (by simp) ?_
                refine AllReadyH.cons (o := { dst := some 101, op := Op.call { callee := Callee.value (Operand.func 32), args := #[Operand.tmp 93, Operand.tmp 100], argTypes := #[9, 85] }, type := _, pos := _, after := _, guard := none }) rfl (fun K hK => ?_) AllReadyH.nil
                rw [if_pos (by rfl)]
                go_simp
                refine (parse_two HMR.out HP5.out HP6.out).mono ?_
                rintro e w8 ⟨ka, ca, Aa, na, cpa, bad, xa, rfl, hb8, hca⟩
                first | (have HPA := hid (came_off hca (show g < _ from (Array.getElem?_eq_some_iff.1 HG.out).1)); replace HG := hid ((hb8.block g (Array.getElem?_eq_some_iff.1 HG.out).1).trans HG.out)) | (have HPL := hid hca)
                replace HW := hid (HW.out.trans (hb8.mono HW.out.size))
                clear hb8 hca
                go_wp2_with fail
                refine hK.out _ _ (by exact HCS.out _ HW.out) (fun hHeld => ?_)
                clear hK K
                try simp only [Act.put, List.setIfInBounds_toArray, List.set_cons_zero, List.set_cons_succ]
                refine wpAnyH_take (i := 9) (oi := { dst := some 92, op := Op.move (Operand.tmp 101), type := _, pos := _, after := _, guard := none }) (v := ?_) rfl (by kernel_rfl) (by kernel_rfl) (by kernel_rfl) (fun _ _ _ h => h) (Or.inl ⟨by rfl, ?_⟩) (by assumption) ?_
                rotate_left
                · intro w hSw; (try dsimp only at hSw); go_simp; try (first | with_reducible rfl | (refine (if_pos ?_).trans ?_ <;> first | omega | with_reducible rfl))
                try simp only [Act.put, List.setIfInBounds_toArray, List.set_cons_zero, List.set_cons_succ]
                refine wpAnyH_take (i := 10) (oi := { dst := some 102, op := Op.extract (Operand.tmp 92) 0, type := _, pos := _, after := _, guard := none }) (v := ?_) rfl (by kernel_rfl) (by kernel_rfl) (by kernel_rfl) (fun _ _ _ h => h) (Or.inl ⟨by rfl, ?_⟩) (by assumption) ?_
                rotate_left
                · intro w hSw; (try dsimp only at hSw); go_simp; try (first | with_reducible rfl | (refine (if_pos ?_).trans ?_ <;> first | omega | with_reducible rfl))
                try simp only [Act.put, List.setIfInBounds_toArray, List.set_cons_zero, List.set_cons_succ]
                refine wpAnyH_take (i := 11) (oi := { dst := some 103, op := Op.extract (Operand.tmp 92) 1, type := _, pos := _, after := _, guard := none }) (v := ?_) rfl (by kernel_rfl) (by kernel_rfl) (by kernel_rfl) (fun _ _ _ h => h) (Or.inl ⟨by rfl, ?_⟩) (by assumption) ?_
                rotate_left
                · intro w hSw; (try dsimp only at hSw); go_simp; try (first | with_reducible rfl | (refine (if_pos ?_).trans ?_ <;> first | omega | with_reducible rfl))
                try simp only [Act.put, List.setIfInBounds_toArray, List.set_cons_zero, List.set_cons_succ]
                refine wpAnyH_take (i := 12) (oi := { dst := some 104, op := Op.extract (Operand.tmp 92) 2, type := _, pos := _, after := _, guard := none }) (v := ?_) rfl (by kernel_rfl) (by kernel_rfl) (by kernel_rfl) (fun _ _ _ h => h) (Or.inl ⟨by rfl, ?_⟩) (by assumption) ?_
                rotate_left
                · intro w hSw; (try dsimp only at hSw); go_simp; try (first | with_reducible rfl | (refine (if_pos ?_).trans ?_ <;> first | omega | with_reducible rfl))
                try simp only [Act.put, List.setIfInBounds_toArray, List.set_cons_zero, List.set_cons_succ]
                refine wpAnyH_ready (rs := [14]) (by kernel_rfl) (by simp) ?_
                refine AllReadyH.cons (o := { dst := none, op := Op.store 45 (Operand.tmp 10) (Operand.tmp 102), type := _, pos := _, after := _, guard := none }) rfl (fun K hK => ?_) AllReadyH.nil
                have hZg := HG.out
                obtain ⟨u0, u1, u2, uf⟩ := slot3 (a := .int .i64 0) (b := .int .i64 0) (c := .slice none 0 0) hZg
                have uf0 := uf 0
                have uf1 := uf 1
                have uf2 := uf 2
                clear uf hZg
                rw [if_pos (by rfl)]
                go_simp
                obtain ⟨Z, hZ, hbZ, hrZ, hpZ⟩ := put_named HW.out HGB.out HG.out (.int .i64 ka) (.int .i64 ca) (.slice Aa na cpa) HPA.out
                rw [← hZ]
                clear u0 u1 u2 uf0 uf1 uf2 hZ
                have HZR := hid hrZ
                have HPZ := hid hpZ
                replace HW := hid hbZ
                clear hbZ hrZ hpZ
                refine hK.out _ _ (by exact HCS.out _ HW.out) (fun hHeld => ?_)
                clear hK K
                try simp only [Act.put, List.setIfInBounds_toArray, List.set_cons_zero, List.set_cons_succ]
                refine wpAnyH_take (i := 15) (oi := { dst := some 11, op := Op.assign (Operand.tmp 103), type := _, pos := _, after := _, guard := none }) (v := ?_) rfl (by kernel_rfl) (by kernel_rfl) (by kernel_rfl) (fun _ _ _ h => h) (Or.inl ⟨by rfl, ?_⟩) (by assumption) ?_
                rotate_left
                · intro w hSw; (try dsimp only at hSw); go_simp; try (first | with_reducible rfl | (refine (if_pos ?_).trans ?_ <;> first | omega | with_reducible rfl))
                try simp only [Act.put, List.setIfInBounds_toArray, List.set_cons_zero, List.set_cons_succ]
                refine wpAnyH_take (i := 16) (oi := { dst := some 12, op := Op.assign (Operand.tmp 104), type := _, pos := _, after := _, guard := none }) (v := ?_) rfl (by kernel_rfl) (by kernel_rfl) (by kernel_rfl) (fun _ _ _ h => h) (Or.inl ⟨by rfl, ?_⟩) (by assumption) ?_
                rotate_left
                · intro w hSw; (try dsimp only at hSw); go_simp; try (first | with_reducible rfl | (refine (if_pos ?_).trans ?_ <;> first | omega | with_reducible rfl))
                try simp only [Act.put, List.setIfInBounds_toArray, List.set_cons_zero, List.set_cons_succ]
                refine wpAnyH_done (by kernel_rfl) ?_ _
                go_wp2_with fail
                refine (parse_none (s := tb)).mono ?_
                rintro e w9 ⟨kb, cb, Ab, nb, cpb, badb, xb, rfl, hb9, hcb⟩
                have HB9 := hid (HW.out.trans (hb9.mono HW.out.size))
                have hz9 := (hb9.block g (Array.getElem?_eq_some_iff.1 HZR.out).1).trans HZR.out
                obtain ⟨Y, g2, hY, hg2, hbY, hbY2, hgy1, hgy2, hrY⟩ := alloc_named HB9.out #[.int .i64 kb, .int .i64 cb, .slice Ab nb cpb] 45
                have HYE := hid hY
                have HBY := hid hbY
                have hyz := (hbY2.block g (Array.getElem?_eq_some_iff.1 hz9).1).trans hz9
                have HPA2 := hid (show ∀ p, parseF [(⟨#[120]⟩, toP d2 t2), (⟨#[120]⟩, toP d t)] s = .ok p → xa = 0 ∧ cntP p ≤ 2000 ∧ IsP Y (fun b => b ≠ g) (.agg #[.int .i64 ka, .int .i64 ca, .slice Aa na cpa]) p from fun p e => ⟨(HPZ.out.1 p e).1, (HPZ.out.1 p e).2.1, ((HPZ.out.1 p e).2.2.below hb9).below hbY2⟩)
                have HPB2 := hid (show ∀ p, parseF [] tb = .ok p → xb = 0 ∧ IsP Y Any (.agg #[.int .i64 kb, .int .i64 cb, .slice Ab nb cpb]) p from fun p e => ⟨(hcb.1 p e).1, ((hcb.1 p e).2.2.below hbY2).mono fun _ _ _ => trivial⟩)
                have HNA := hid HPZ.out.2
                have HNB := hid hcb.2
                have HFIN := hid (HB.out.trans ((HWr.out.trans (HBY.out.mono HWr.out.size)).mono HB.out.size))
                obtain ⟨a0, a1, a2, -⟩ := slot3 hyz
                obtain ⟨b0, b1, b2, -⟩ := slot3 hrY
                rw [hY] at a0 a1 a2
                rw [hY, hg2] at b0 b1 b2
                clear hY hg2 hbY hbY2 hgy1 hgy2 hrY hyz hz9 hb9 hcb HPZ
                cases hA : parseF [(⟨#[120]⟩, toP d2 t2), (⟨#[120]⟩, toP d t)] s with
                | ok pa =>
                  obtain ⟨hx0, hca, hia⟩ := HPA2.out pa hA
                  cases hB : parseF [] tb with
                  | ok pb =>
                    have hab : pa = pb := by have h9 := HLAW.out; rw [hA, hB] at h9; exact h9
                    obtain ⟨hxb0, hib⟩ := HPB2.out pb hB
                    subst hx0 hxb0 hab
                    have HCS2 := hid (sameP_any hia hib hca)
                    clear hia hib hca hA hB
                    go_wp2_with fail
                    rw [← HYE.out]
                    refine HCS2.out.mono ?_
                    rintro e w10 ⟨rfl, hb10⟩
                    have HF10 := hid (HB.out.trans ((HWr.out.trans ((HBY.out.trans (hb10.mono HBY.out.size)).mono HWr.out.size)).mono HB.out.size))
                    clear hb10
                    go_wp2_with fail
                    go_ret
                    exact ⟨rfl, HF10.out⟩
                  | no nb1 xe1 =>
                    have h63 : xe1 = 6 ∨ xe1 = 3 := by have h9 := HLAW.out; rw [hA, hB] at h9; exact h9
                    have hxe := (HNB.out _ _ hB).1
                    subst hx0 hxe
                    clear hia hca hA hB
                    rcases h63 with h63 | h63
                    · subst h63
                      go_wp2_with fail
                      go_ret
                      exact ⟨rfl, by rw [← HYE.out]; exact HFIN.out⟩
                    · subst h63
                      go_wp2_with fail
                      go_ret
                      exact ⟨rfl, by rw [← HYE.out]; exact HFIN.out⟩
                | no na1 xe0 =>
                  have hxa := (HNA.out _ _ hA)
                  cases hB : parseF [] tb with
                  | ok pb => exact absurd (show False by have h9 := HLAW.out; rw [hA, hB] at h9; exact h9) id
                  | no nb1 xe1 =>
                    have hxb := (HNB.out _ _ hB)
                    have hx1 : ¬ xa = 0 := hxa.2
                    have hx2 : ¬ xb = 0 := hxb.2
                    clear hxa hxb hA hB
                    go_wp2_with fail
                    go_ret
                    exact ⟨rfl, by rw [← HYE.out]; exact HFIN.out⟩
            case' legB1n3 =>
              intro K hK
              rw [if_pos (by rfl)]
              refine wp_alloc_of 45 rfl (.agg nodeC) zero45 ?_
              obtain ⟨U2, g, hU, hg, hbU, hbU2, hgm1, hgm2, hrow⟩ := alloc_named HW.out nodeC 45
              rw [show (Value.agg nodeC).cells = nodeC from rfl, ← hU, ← hg]
              have HG := hid hrow
              have HGB := hid hgm1
              (try replace HP5 := hid (HP5.out.below hbU2))
              (try replace HP6 := hid (HP6.out.below hbU2))
              (try replace HMR := hid ((hbU2.block gM (Array.getElem?_eq_some_iff.1 HMR.out).1).trans HMR.out))
              (try have HPA := hid (came_new HPL.out hbU2 hg))
              replace HW := hid hbU
              clear hU hg hbU hbU2 hgm1 hgm2 hrow
              refine hK.out _ _ (by exact HCS.out _ HW.out) (fun hHeld => ?_)
              clear hK K
              try simp only [Act.put, List.setIfInBounds_toArray, List.set_cons_zero, List.set_cons_succ]
              refine wpAnyH_ready (rs := [7]) (by kernel_rfl) (by simp) ?_
              refine AllReadyH.cons (o := { dst := some 100, op := Op.buildSlice 85 2 #[(0, Operand.tmp 96), (1, Operand.tmp 99)], type := _, pos := _, after := _, guard := none }) rfl (fun K hK => ?_) AllReadyH.nil
              rw [if_pos (by rfl)]
              go_simp
              obtain ⟨U, gM, hU, hgM, hbU, hbU2, hgm1, hgm2, hrow⟩ := alloc_named HW.out #[.string ⟨#[120]⟩, .int .i64 j0, .int .i64 j1, .slice A5 m0 c5, .string ⟨#[120]⟩, .int .i64 k0, .int .i64 c0, .slice A6 n0 c6] 64
              rw [← hU, ← hgM]
              have HMR := hid hrow
              replace HP5 := hid (HP5.out.below hbU2)
              replace HP6 := hid (HP6.out.below hbU2)
              (try replace HG := hid ((hbU2.block g (Array.getElem?_eq_some_iff.1 HG.out).1).trans HG.out))
              replace HW := hid hbU
              clear hU hgM hbU hbU2 hgm1 hgm2 hrow
              refine hK.out _ _ (by exact HCS.out _ HW.out) (fun hHeld => ?_)
              clear hK K
              try simp only [Act.put, List.setIfInBounds_toArray, List.set_cons_zero, List.set_cons_succ]
              refine wpAnyH_ready (rs := [8]) (by kernel_rfl) (by simp) ?_
              refine AllReadyH.cons (o := { dst := some 101, op := Op.call { callee := Callee.value (Operand.func 32), args := #[Operand.tmp 93, Operand.tmp 100], argTypes := #[9, 85] }, type := _, pos := _, after := _, guard := none }) rfl (fun K hK => ?_) AllReadyH.nil
              rw [if_pos (by rfl)]
              go_simp
              refine (parse_two HMR.out HP5.out HP6.out).mono ?_
              rintro e w8 ⟨ka, ca, Aa, na, cpa, bad, xa, rfl, hb8, hca⟩
              first | (have HPA := hid (came_off hca (show g < _ from (Array.getElem?_eq_some_iff.1 HG.out).1)); replace HG := hid ((hb8.block g (Array.getElem?_eq_some_iff.1 HG.out).1).trans HG.out)) | (have HPL := hid hca)
              replace HW := hid (HW.out.trans (hb8.mono HW.out.size))
              clear hb8 hca
              go_wp2_with fail
              refine hK.out _ _ (by exact HCS.out _ HW.out) (fun hHeld => ?_)
              clear hK K
              try simp only [Act.put, List.setIfInBounds_toArray, List.set_cons_zero, List.set_cons_succ]
              refine wpAnyH_take (i := 9) (oi := { dst := some 92, op := Op.move (Operand.tmp 101), type := _, pos := _, after := _, guard := none }) (v := ?_) rfl (by kernel_rfl) (by kernel_rfl) (by kernel_rfl) (fun _ _ _ h => h) (Or.inl ⟨by rfl, ?_⟩) (by assumption) ?_
              rotate_left
              · intro w hSw; (try dsimp only at hSw); go_simp; try (first | with_reducible rfl | (refine (if_pos ?_).trans ?_ <;> first | omega | with_reducible rfl))
              try simp only [Act.put, List.setIfInBounds_toArray, List.set_cons_zero, List.set_cons_succ]
              refine wpAnyH_take (i := 10) (oi := { dst := some 102, op := Op.extract (Operand.tmp 92) 0, type := _, pos := _, after := _, guard := none }) (v := ?_) rfl (by kernel_rfl) (by kernel_rfl) (by kernel_rfl) (fun _ _ _ h => h) (Or.inl ⟨by rfl, ?_⟩) (by assumption) ?_
              rotate_left
              · intro w hSw; (try dsimp only at hSw); go_simp; try (first | with_reducible rfl | (refine (if_pos ?_).trans ?_ <;> first | omega | with_reducible rfl))
              try simp only [Act.put, List.setIfInBounds_toArray, List.set_cons_zero, List.set_cons_succ]
              refine wpAnyH_take (i := 11) (oi := { dst := some 103, op := Op.extract (Operand.tmp 92) 1, type := _, pos := _, after := _, guard := none }) (v := ?_) rfl (by kernel_rfl) (by kernel_rfl) (by kernel_rfl) (fun _ _ _ h => h) (Or.inl ⟨by rfl, ?_⟩) (by assumption) ?_
              rotate_left
              · intro w hSw; (try dsimp only at hSw); go_simp; try (first | with_reducible rfl | (refine (if_pos ?_).trans ?_ <;> first | omega | with_reducible rfl))
              try simp only [Act.put, List.setIfInBounds_toArray, List.set_cons_zero, List.set_cons_succ]
              refine wpAnyH_take (i := 12) (oi := { dst := some 104, op := Op.extract (Operand.tmp 92) 2, type := _, pos := _, after := _, guard := none }) (v := ?_) rfl (by kernel_rfl) (by kernel_rfl) (by kernel_rfl) (fun _ _ _ h => h) (Or.inl ⟨by rfl, ?_⟩) (by assumption) ?_
              rotate_left
              · intro w hSw; (try dsimp only at hSw); go_simp; try (first | with_reducible rfl | (refine (if_pos ?_).trans ?_ <;> first | omega | with_reducible rfl))
              try simp only [Act.put, List.setIfInBounds_toArray, List.set_cons_zero, List.set_cons_succ]
              refine wpAnyH_ready (rs := [14]) (by kernel_rfl) (by simp) ?_
              refine AllReadyH.cons (o := { dst := none, op := Op.store 45 (Operand.tmp 10) (Operand.tmp 102), type := _, pos := _, after := _, guard := none }) rfl (fun K hK => ?_) AllReadyH.nil
              have hZg := HG.out
              obtain ⟨u0, u1, u2, uf⟩ := slot3 (a := .int .i64 0) (b := .int .i64 0) (c := .slice none 0 0) hZg
              have uf0 := uf 0
              have uf1 := uf 1
              have uf2 := uf 2
              clear uf hZg
              rw [if_pos (by rfl)]
              go_simp
              obtain ⟨Z, hZ, hbZ, hrZ, hpZ⟩ := put_named HW.out HGB.out HG.out (.int .i64 ka) (.int .i64 ca) (.slice Aa na cpa) HPA.out
              rw [← hZ]
              clear u0 u1 u2 uf0 uf1 uf2 hZ
              have HZR := hid hrZ
              have HPZ := hid hpZ
              replace HW := hid hbZ
              clear hbZ hrZ hpZ
              refine hK.out _ _ (by exact HCS.out _ HW.out) (fun hHeld => ?_)
              clear hK K
              try simp only [Act.put, List.setIfInBounds_toArray, List.set_cons_zero, List.set_cons_succ]
              refine wpAnyH_take (i := 15) (oi := { dst := some 11, op := Op.assign (Operand.tmp 103), type := _, pos := _, after := _, guard := none }) (v := ?_) rfl (by kernel_rfl) (by kernel_rfl) (by kernel_rfl) (fun _ _ _ h => h) (Or.inl ⟨by rfl, ?_⟩) (by assumption) ?_
              rotate_left
              · intro w hSw; (try dsimp only at hSw); go_simp; try (first | with_reducible rfl | (refine (if_pos ?_).trans ?_ <;> first | omega | with_reducible rfl))
              try simp only [Act.put, List.setIfInBounds_toArray, List.set_cons_zero, List.set_cons_succ]
              refine wpAnyH_take (i := 16) (oi := { dst := some 12, op := Op.assign (Operand.tmp 104), type := _, pos := _, after := _, guard := none }) (v := ?_) rfl (by kernel_rfl) (by kernel_rfl) (by kernel_rfl) (fun _ _ _ h => h) (Or.inl ⟨by rfl, ?_⟩) (by assumption) ?_
              rotate_left
              · intro w hSw; (try dsimp only at hSw); go_simp; try (first | with_reducible rfl | (refine (if_pos ?_).trans ?_ <;> first | omega | with_reducible rfl))
              try simp only [Act.put, List.setIfInBounds_toArray, List.set_cons_zero, List.set_cons_succ]
              refine wpAnyH_done (by kernel_rfl) ?_ _
              go_wp2_with fail
              refine (parse_none (s := tb)).mono ?_
              rintro e w9 ⟨kb, cb, Ab, nb, cpb, badb, xb, rfl, hb9, hcb⟩
              have HB9 := hid (HW.out.trans (hb9.mono HW.out.size))
              have hz9 := (hb9.block g (Array.getElem?_eq_some_iff.1 HZR.out).1).trans HZR.out
              obtain ⟨Y, g2, hY, hg2, hbY, hbY2, hgy1, hgy2, hrY⟩ := alloc_named HB9.out #[.int .i64 kb, .int .i64 cb, .slice Ab nb cpb] 45
              have HYE := hid hY
              have HBY := hid hbY
              have hyz := (hbY2.block g (Array.getElem?_eq_some_iff.1 hz9).1).trans hz9
              have HPA2 := hid (show ∀ p, parseF [(⟨#[120]⟩, toP d2 t2), (⟨#[120]⟩, toP d t)] s = .ok p → xa = 0 ∧ cntP p ≤ 2000 ∧ IsP Y (fun b => b ≠ g) (.agg #[.int .i64 ka, .int .i64 ca, .slice Aa na cpa]) p from fun p e => ⟨(HPZ.out.1 p e).1, (HPZ.out.1 p e).2.1, ((HPZ.out.1 p e).2.2.below hb9).below hbY2⟩)
              have HPB2 := hid (show ∀ p, parseF [] tb = .ok p → xb = 0 ∧ IsP Y Any (.agg #[.int .i64 kb, .int .i64 cb, .slice Ab nb cpb]) p from fun p e => ⟨(hcb.1 p e).1, ((hcb.1 p e).2.2.below hbY2).mono fun _ _ _ => trivial⟩)
              have HNA := hid HPZ.out.2
              have HNB := hid hcb.2
              have HFIN := hid (HB.out.trans ((HWr.out.trans (HBY.out.mono HWr.out.size)).mono HB.out.size))
              obtain ⟨a0, a1, a2, -⟩ := slot3 hyz
              obtain ⟨b0, b1, b2, -⟩ := slot3 hrY
              rw [hY] at a0 a1 a2
              rw [hY, hg2] at b0 b1 b2
              clear hY hg2 hbY hbY2 hgy1 hgy2 hrY hyz hz9 hb9 hcb HPZ
              cases hA : parseF [(⟨#[120]⟩, toP d2 t2), (⟨#[120]⟩, toP d t)] s with
              | ok pa =>
                obtain ⟨hx0, hca, hia⟩ := HPA2.out pa hA
                cases hB : parseF [] tb with
                | ok pb =>
                  have hab : pa = pb := by have h9 := HLAW.out; rw [hA, hB] at h9; exact h9
                  obtain ⟨hxb0, hib⟩ := HPB2.out pb hB
                  subst hx0 hxb0 hab
                  have HCS2 := hid (sameP_any hia hib hca)
                  clear hia hib hca hA hB
                  go_wp2_with fail
                  rw [← HYE.out]
                  refine HCS2.out.mono ?_
                  rintro e w10 ⟨rfl, hb10⟩
                  have HF10 := hid (HB.out.trans ((HWr.out.trans ((HBY.out.trans (hb10.mono HBY.out.size)).mono HWr.out.size)).mono HB.out.size))
                  clear hb10
                  go_wp2_with fail
                  go_ret
                  exact ⟨rfl, HF10.out⟩
                | no nb1 xe1 =>
                  have h63 : xe1 = 6 ∨ xe1 = 3 := by have h9 := HLAW.out; rw [hA, hB] at h9; exact h9
                  have hxe := (HNB.out _ _ hB).1
                  subst hx0 hxe
                  clear hia hca hA hB
                  rcases h63 with h63 | h63
                  · subst h63
                    go_wp2_with fail
                    go_ret
                    exact ⟨rfl, by rw [← HYE.out]; exact HFIN.out⟩
                  · subst h63
                    go_wp2_with fail
                    go_ret
                    exact ⟨rfl, by rw [← HYE.out]; exact HFIN.out⟩
              | no na1 xe0 =>
                have hxa := (HNA.out _ _ hA)
                cases hB : parseF [] tb with
                | ok pb => exact absurd (show False by have h9 := HLAW.out; rw [hA, hB] at h9; exact h9) id
                | no nb1 xe1 =>
                  have hxb := (HNB.out _ _ hB)
                  have hx1 : ¬ xa = 0 := hxa.2
                  have hx2 : ¬ xb = 0 := hxb.2
                  clear hxa hxb hA hB
                  go_wp2_with fail
                  go_ret
                  exact ⟨rfl, by rw [← HYE.out]; exact HFIN.out⟩
          case' legB1n2 =>
            intro K hK
            rw [if_pos (by rfl)]
            refine wp_alloc_of 45 rfl (.agg nodeC) zero45 ?_
            obtain ⟨U2, g, hU, hg, hbU, hbU2, hgm1, hgm2, hrow⟩ := alloc_named HW.out nodeC 45
            rw [show (Value.agg nodeC).cells = nodeC from rfl, ← hU, ← hg]
            have HG := hid hrow
            have HGB := hid hgm1
            (try replace HP5 := hid (HP5.out.below hbU2))
            (try replace HP6 := hid (HP6.out.below hbU2))
            (try replace HMR := hid ((hbU2.block gM (Array.getElem?_eq_some_iff.1 HMR.out).1).trans HMR.out))
            (try have HPA := hid (came_new HPL.out hbU2 hg))
            replace HW := hid hbU
            clear hU hg hbU hbU2 hgm1 hgm2 hrow
            refine hK.out _ _ (by exact HCS.out _ HW.out) (fun hHeld => ?_)
            clear hK K
            try simp only [Act.put, List.setIfInBounds_toArray, List.set_cons_zero, List.set_cons_succ]
            refine wpAnyH_ready (rs := [5]) (by kernel_rfl) (by simp) ?_
            refine AllReadyH.cons (o := { dst := some 98, op := Op.call { callee := Callee.value (Operand.func 28), args := #[Operand.tmp 97], argTypes := #[51] }, type := _, pos := _, after := _, guard := none }) rfl (fun K hK => ?_) AllReadyH.nil
            rw [if_pos (by rfl)]
            go_simp
            refine (to_any Any d _ t _ (HTn.out.below HW.out) HN60.out).mono ?_
            rintro e w6 ⟨v6, rfl, hb6, ht6⟩
            obtain ⟨A6, c6, rfl⟩ := ht6.plain.form
            rw [← HK0.out, ← HC0.out, ← HN0.out] at ht6 ⊢
            have HP6 := hid (ht6.plain.mono (S' := Any) fun _ _ _ => trivial)
            replace HP5 := hid (HP5.out.below hb6)
            (try replace HG := hid ((hb6.block g (Array.getElem?_eq_some_iff.1 HG.out).1).trans HG.out))
            replace HW := hid (HW.out.trans (hb6.mono HW.out.size))
            clear hb6 ht6
            go_wp2_with fail
            refine hK.out _ _ (by exact HCS.out _ HW.out) (fun hHeld => ?_)
            clear hK K
            try simp only [Act.put, List.setIfInBounds_toArray, List.set_cons_zero, List.set_cons_succ]
            refine wpAnyH_take (i := 6) (oi := { dst := some 99, op := Op.build 64 #[(0, Operand.const (Value.string { data := #[120] })), (1, Operand.tmp 98)], type := _, pos := _, after := _, guard := none }) (v := ?_) rfl (by kernel_rfl) (by kernel_rfl) (by kernel_rfl) (fun _ _ _ h => h) (Or.inl ⟨by rfl, ?_⟩) (by assumption) ?_
            rotate_left
            · intro w hSw; (try dsimp only at hSw); go_simp; try (first | with_reducible rfl | (refine (if_pos ?_).trans ?_ <;> first | omega | with_reducible rfl))
            try simp only [Act.put, List.setIfInBounds_toArray, List.set_cons_zero, List.set_cons_succ]
            refine wpAnyH_ready (rs := [7]) (by kernel_rfl) (by simp) ?_
            refine AllReadyH.cons (o := { dst := some 100, op := Op.buildSlice 85 2 #[(0, Operand.tmp 96), (1, Operand.tmp 99)], type := _, pos := _, after := _, guard := none }) rfl (fun K hK => ?_) AllReadyH.nil
            rw [if_pos (by rfl)]
            go_simp
            obtain ⟨U, gM, hU, hgM, hbU, hbU2, hgm1, hgm2, hrow⟩ := alloc_named HW.out #[.string ⟨#[120]⟩, .int .i64 j0, .int .i64 j1, .slice A5 m0 c5, .string ⟨#[120]⟩, .int .i64 k0, .int .i64 c0, .slice A6 n0 c6] 64
            rw [← hU, ← hgM]
            have HMR := hid hrow
            replace HP5 := hid (HP5.out.below hbU2)
            replace HP6 := hid (HP6.out.below hbU2)
            (try replace HG := hid ((hbU2.block g (Array.getElem?_eq_some_iff.1 HG.out).1).trans HG.out))
            replace HW := hid hbU
            clear hU hgM hbU hbU2 hgm1 hgm2 hrow
            refine hK.out _ _ (by exact HCS.out _ HW.out) (fun hHeld => ?_)
            clear hK K
            try simp only [Act.put, List.setIfInBounds_toArray, List.set_cons_zero, List.set_cons_succ]
            refine wpAnyH_ready (rs := [8]) (by kernel_rfl) (by simp) ?_
            refine AllReadyH.cons (o := { dst := some 101, op := Op.call { callee := Callee.value (Operand.func 32), args := #[Operand.tmp 93, Operand.tmp 100], argTypes := #[9, 85] }, type := _, pos := _, after := _, guard := none }) rfl (fun K hK => ?_) AllReadyH.nil
            rw [if_pos (by rfl)]
            go_simp
            refine (parse_two HMR.out HP5.out HP6.out).mono ?_
            rintro e w8 ⟨ka, ca, Aa, na, cpa, bad, xa, rfl, hb8, hca⟩
            first | (have HPA := hid (came_off hca (show g < _ from (Array.getElem?_eq_some_iff.1 HG.out).1)); replace HG := hid ((hb8.block g (Array.getElem?_eq_some_iff.1 HG.out).1).trans HG.out)) | (have HPL := hid hca)
            replace HW := hid (HW.out.trans (hb8.mono HW.out.size))
            clear hb8 hca
            go_wp2_with fail
            refine hK.out _ _ (by exact HCS.out _ HW.out) (fun hHeld => ?_)
            clear hK K
            try simp only [Act.put, List.setIfInBounds_toArray, List.set_cons_zero, List.set_cons_succ]
            refine wpAnyH_take (i := 9) (oi := { dst := some 92, op := Op.move (Operand.tmp 101), type := _, pos := _, after := _, guard := none }) (v := ?_) rfl (by kernel_rfl) (by kernel_rfl) (by kernel_rfl) (fun _ _ _ h => h) (Or.inl ⟨by rfl, ?_⟩) (by assumption) ?_
            rotate_left
            · intro w hSw; (try dsimp only at hSw); go_simp; try (first | with_reducible rfl | (refine (if_pos ?_).trans ?_ <;> first | omega | with_reducible rfl))
            try simp only [Act.put, List.setIfInBounds_toArray, List.set_cons_zero, List.set_cons_succ]
            refine wpAnyH_take (i := 10) (oi := { dst := some 102, op := Op.extract (Operand.tmp 92) 0, type := _, pos := _, after := _, guard := none }) (v := ?_) rfl (by kernel_rfl) (by kernel_rfl) (by kernel_rfl) (fun _ _ _ h => h) (Or.inl ⟨by rfl, ?_⟩) (by assumption) ?_
            rotate_left
            · intro w hSw; (try dsimp only at hSw); go_simp; try (first | with_reducible rfl | (refine (if_pos ?_).trans ?_ <;> first | omega | with_reducible rfl))
            try simp only [Act.put, List.setIfInBounds_toArray, List.set_cons_zero, List.set_cons_succ]
            refine wpAnyH_take (i := 11) (oi := { dst := some 103, op := Op.extract (Operand.tmp 92) 1, type := _, pos := _, after := _, guard := none }) (v := ?_) rfl (by kernel_rfl) (by kernel_rfl) (by kernel_rfl) (fun _ _ _ h => h) (Or.inl ⟨by rfl, ?_⟩) (by assumption) ?_
            rotate_left
            · intro w hSw; (try dsimp only at hSw); go_simp; try (first | with_reducible rfl | (refine (if_pos ?_).trans ?_ <;> first | omega | with_reducible rfl))
            try simp only [Act.put, List.setIfInBounds_toArray, List.set_cons_zero, List.set_cons_succ]
            refine wpAnyH_take (i := 12) (oi := { dst := some 104, op := Op.extract (Operand.tmp 92) 2, type := _, pos := _, after := _, guard := none }) (v := ?_) rfl (by kernel_rfl) (by kernel_rfl) (by kernel_rfl) (fun _ _ _ h => h) (Or.inl ⟨by rfl, ?_⟩) (by assumption) ?_
            rotate_left
            · intro w hSw; (try dsimp only at hSw); go_simp; try (first | with_reducible rfl | (refine (if_pos ?_).trans ?_ <;> first | omega | with_reducible rfl))
            try simp only [Act.put, List.setIfInBounds_toArray, List.set_cons_zero, List.set_cons_succ]
            refine wpAnyH_ready (rs := [14]) (by kernel_rfl) (by simp) ?_
            refine AllReadyH.cons (o := { dst := none, op := Op.store 45 (Operand.tmp 10) (Operand.tmp 102), type := _, pos := _, after := _, guard := none }) rfl (fun K hK => ?_) AllReadyH.nil
            have hZg := HG.out
            obtain ⟨u0, u1, u2, uf⟩ := slot3 (a := .int .i64 0) (b := .int .i64 0) (c := .slice none 0 0) hZg
            have uf0 := uf 0
            have uf1 := uf 1
            have uf2 := uf 2
            clear uf hZg
            rw [if_pos (by rfl)]
            go_simp
            obtain ⟨Z, hZ, hbZ, hrZ, hpZ⟩ := put_named HW.out HGB.out HG.out (.int .i64 ka) (.int .i64 ca) (.slice Aa na cpa) HPA.out
            rw [← hZ]
            clear u0 u1 u2 uf0 uf1 uf2 hZ
            have HZR := hid hrZ
            have HPZ := hid hpZ
            replace HW := hid hbZ
            clear hbZ hrZ hpZ
            refine hK.out _ _ (by exact HCS.out _ HW.out) (fun hHeld => ?_)
            clear hK K
            try simp only [Act.put, List.setIfInBounds_toArray, List.set_cons_zero, List.set_cons_succ]
            refine wpAnyH_take (i := 15) (oi := { dst := some 11, op := Op.assign (Operand.tmp 103), type := _, pos := _, after := _, guard := none }) (v := ?_) rfl (by kernel_rfl) (by kernel_rfl) (by kernel_rfl) (fun _ _ _ h => h) (Or.inl ⟨by rfl, ?_⟩) (by assumption) ?_
            rotate_left
            · intro w hSw; (try dsimp only at hSw); go_simp; try (first | with_reducible rfl | (refine (if_pos ?_).trans ?_ <;> first | omega | with_reducible rfl))
            try simp only [Act.put, List.setIfInBounds_toArray, List.set_cons_zero, List.set_cons_succ]
            refine wpAnyH_take (i := 16) (oi := { dst := some 12, op := Op.assign (Operand.tmp 104), type := _, pos := _, after := _, guard := none }) (v := ?_) rfl (by kernel_rfl) (by kernel_rfl) (by kernel_rfl) (fun _ _ _ h => h) (Or.inl ⟨by rfl, ?_⟩) (by assumption) ?_
            rotate_left
            · intro w hSw; (try dsimp only at hSw); go_simp; try (first | with_reducible rfl | (refine (if_pos ?_).trans ?_ <;> first | omega | with_reducible rfl))
            try simp only [Act.put, List.setIfInBounds_toArray, List.set_cons_zero, List.set_cons_succ]
            refine wpAnyH_done (by kernel_rfl) ?_ _
            go_wp2_with fail
            refine (parse_none (s := tb)).mono ?_
            rintro e w9 ⟨kb, cb, Ab, nb, cpb, badb, xb, rfl, hb9, hcb⟩
            have HB9 := hid (HW.out.trans (hb9.mono HW.out.size))
            have hz9 := (hb9.block g (Array.getElem?_eq_some_iff.1 HZR.out).1).trans HZR.out
            obtain ⟨Y, g2, hY, hg2, hbY, hbY2, hgy1, hgy2, hrY⟩ := alloc_named HB9.out #[.int .i64 kb, .int .i64 cb, .slice Ab nb cpb] 45
            have HYE := hid hY
            have HBY := hid hbY
            have hyz := (hbY2.block g (Array.getElem?_eq_some_iff.1 hz9).1).trans hz9
            have HPA2 := hid (show ∀ p, parseF [(⟨#[120]⟩, toP d2 t2), (⟨#[120]⟩, toP d t)] s = .ok p → xa = 0 ∧ cntP p ≤ 2000 ∧ IsP Y (fun b => b ≠ g) (.agg #[.int .i64 ka, .int .i64 ca, .slice Aa na cpa]) p from fun p e => ⟨(HPZ.out.1 p e).1, (HPZ.out.1 p e).2.1, ((HPZ.out.1 p e).2.2.below hb9).below hbY2⟩)
            have HPB2 := hid (show ∀ p, parseF [] tb = .ok p → xb = 0 ∧ IsP Y Any (.agg #[.int .i64 kb, .int .i64 cb, .slice Ab nb cpb]) p from fun p e => ⟨(hcb.1 p e).1, ((hcb.1 p e).2.2.below hbY2).mono fun _ _ _ => trivial⟩)
            have HNA := hid HPZ.out.2
            have HNB := hid hcb.2
            have HFIN := hid (HB.out.trans ((HWr.out.trans (HBY.out.mono HWr.out.size)).mono HB.out.size))
            obtain ⟨a0, a1, a2, -⟩ := slot3 hyz
            obtain ⟨b0, b1, b2, -⟩ := slot3 hrY
            rw [hY] at a0 a1 a2
            rw [hY, hg2] at b0 b1 b2
            clear hY hg2 hbY hbY2 hgy1 hgy2 hrY hyz hz9 hb9 hcb HPZ
            cases hA : parseF [(⟨#[120]⟩, toP d2 t2), (⟨#[120]⟩, toP d t)] s with
            | ok pa =>
              obtain ⟨hx0, hca, hia⟩ := HPA2.out pa hA
              cases hB : parseF [] tb with
              | ok pb =>
                have hab : pa = pb := by have h9 := HLAW.out; rw [hA, hB] at h9; exact h9
                obtain ⟨hxb0, hib⟩ := HPB2.out pb hB
                subst hx0 hxb0 hab
                have HCS2 := hid (sameP_any hia hib hca)
                clear hia hib hca hA hB
                go_wp2_with fail
                rw [← HYE.out]
                refine HCS2.out.mono ?_
                rintro e w10 ⟨rfl, hb10⟩
                have HF10 := hid (HB.out.trans ((HWr.out.trans ((HBY.out.trans (hb10.mono HBY.out.size)).mono HWr.out.size)).mono HB.out.size))
                clear hb10
                go_wp2_with fail
                go_ret
                exact ⟨rfl, HF10.out⟩
              | no nb1 xe1 =>
                have h63 : xe1 = 6 ∨ xe1 = 3 := by have h9 := HLAW.out; rw [hA, hB] at h9; exact h9
                have hxe := (HNB.out _ _ hB).1
                subst hx0 hxe
                clear hia hca hA hB
                rcases h63 with h63 | h63
                · subst h63
                  go_wp2_with fail
                  go_ret
                  exact ⟨rfl, by rw [← HYE.out]; exact HFIN.out⟩
                · subst h63
                  go_wp2_with fail
                  go_ret
                  exact ⟨rfl, by rw [← HYE.out]; exact HFIN.out⟩
            | no na1 xe0 =>
              have hxa := (HNA.out _ _ hA)
              cases hB : parseF [] tb with
              | ok pb => exact absurd (show False by have h9 := HLAW.out; rw [hA, hB] at h9; exact h9) id
              | no nb1 xe1 =>
                have hxb := (HNB.out _ _ hB)
                have hx1 : ¬ xa = 0 := hxa.2
                have hx2 : ¬ xb = 0 := hxb.2
                clear hxa hxb hA hB
                go_wp2_with fail
                go_ret
                exact ⟨rfl, by rw [← HYE.out]; exact HFIN.out⟩
        case' legB1n1 =>
          intro K hK
          rw [if_pos (by rfl)]
          refine wp_alloc_of 45 rfl (.agg nodeC) zero45 ?_
          obtain ⟨U2, g, hU, hg, hbU, hbU2, hgm1, hgm2, hrow⟩ := alloc_named HW.out nodeC 45
          rw [show (Value.agg nodeC).cells = nodeC from rfl, ← hU, ← hg]
          have HG := hid hrow
          have HGB := hid hgm1
          (try replace HP5 := hid (HP5.out.below hbU2))
          (try replace HP6 := hid (HP6.out.below hbU2))
          (try replace HMR := hid ((hbU2.block gM (Array.getElem?_eq_some_iff.1 HMR.out).1).trans HMR.out))
          (try have HPA := hid (came_new HPL.out hbU2 hg))
          replace HW := hid hbU
          clear hU hg hbU hbU2 hgm1 hgm2 hrow
          refine hK.out _ _ (by exact HCS.out _ HW.out) (fun hHeld => ?_)
          clear hK K
          try simp only [Act.put, List.setIfInBounds_toArray, List.set_cons_zero, List.set_cons_succ]
          refine wpAnyH_ready (rs := [2]) (by kernel_rfl) (by simp) ?_
          refine AllReadyH.cons (o := { dst := some 95, op := Op.call { callee := Callee.value (Operand.func 28), args := #[Operand.tmp 94], argTypes := #[51] }, type := _, pos := _, after := _, guard := none }) rfl (fun K hK => ?_) AllReadyH.nil
          rw [if_pos (by rfl)]
          go_simp
          refine (to_any Any d2 _ t2 _ (HT2n.out.below HW.out) HN2.out).mono ?_
          rintro e w5 ⟨v5, rfl, hb5, ht5⟩
          obtain ⟨A5, c5, rfl⟩ := ht5.plain.form
          rw [← HJ0.out, ← HJ1.out, ← HM0.out] at ht5 ⊢
          have HP5 := hid (ht5.plain.mono (S' := Any) fun _ _ _ => trivial)
          (try replace HG := hid ((hb5.block g (Array.getElem?_eq_some_iff.1 HG.out).1).trans HG.out))
          replace HW := hid (HW.out.trans (hb5.mono HW.out.size))
          clear hb5 ht5
          go_wp2_with fail
          refine hK.out _ _ (by exact HCS.out _ HW.out) (fun hHeld => ?_)
          clear hK K
          try simp only [Act.put, List.setIfInBounds_toArray, List.set_cons_zero, List.set_cons_succ]
          refine wpAnyH_take (i := 3) (oi := { dst := some 96, op := Op.build 64 #[(0, Operand.const (Value.string { data := #[120] })), (1, Operand.tmp 95)], type := _, pos := _, after := _, guard := none }) (v := ?_) rfl (by kernel_rfl) (by kernel_rfl) (by kernel_rfl) (fun _ _ _ h => h) (Or.inl ⟨by rfl, ?_⟩) (by assumption) ?_
          rotate_left
          · intro w hSw; (try dsimp only at hSw); go_simp; try (first | with_reducible rfl | (refine (if_pos ?_).trans ?_ <;> first | omega | with_reducible rfl))
          try simp only [Act.put, List.setIfInBounds_toArray, List.set_cons_zero, List.set_cons_succ]
          refine wpAnyH_ready (rs := [5]) (by kernel_rfl) (by simp) ?_
          refine AllReadyH.cons (o := { dst := some 98, op := Op.call { callee := Callee.value (Operand.func 28), args := #[Operand.tmp 97], argTypes := #[51] }, type := _, pos := _, after := _, guard := none }) rfl (fun K hK => ?_) AllReadyH.nil
          rw [if_pos (by rfl)]
          go_simp
          refine (to_any Any d _ t _ (HTn.out.below HW.out) HN60.out).mono ?_
          rintro e w6 ⟨v6, rfl, hb6, ht6⟩
          obtain ⟨A6, c6, rfl⟩ := ht6.plain.form
          rw [← HK0.out, ← HC0.out, ← HN0.out] at ht6 ⊢
          have HP6 := hid (ht6.plain.mono (S' := Any) fun _ _ _ => trivial)
          replace HP5 := hid (HP5.out.below hb6)
          (try replace HG := hid ((hb6.block g (Array.getElem?_eq_some_iff.1 HG.out).1).trans HG.out))
          replace HW := hid (HW.out.trans (hb6.mono HW.out.size))
          clear hb6 ht6
          go_wp2_with fail
          refine hK.out _ _ (by exact HCS.out _ HW.out) (fun hHeld => ?_)
          clear hK K
          try simp only [Act.put, List.setIfInBounds_toArray, List.set_cons_zero, List.set_cons_succ]
          refine wpAnyH_take (i := 6) (oi := { dst := some 99, op := Op.build 64 #[(0, Operand.const (Value.string { data := #[120] })), (1, Operand.tmp 98)], type := _, pos := _, after := _, guard := none }) (v := ?_) rfl (by kernel_rfl) (by kernel_rfl) (by kernel_rfl) (fun _ _ _ h => h) (Or.inl ⟨by rfl, ?_⟩) (by assumption) ?_
          rotate_left
          · intro w hSw; (try dsimp only at hSw); go_simp; try (first | with_reducible rfl | (refine (if_pos ?_).trans ?_ <;> first | omega | with_reducible rfl))
          try simp only [Act.put, List.setIfInBounds_toArray, List.set_cons_zero, List.set_cons_succ]
          refine wpAnyH_ready (rs := [7]) (by kernel_rfl) (by simp) ?_
          refine AllReadyH.cons (o := { dst := some 100, op := Op.buildSlice 85 2 #[(0, Operand.tmp 96), (1, Operand.tmp 99)], type := _, pos := _, after := _, guard := none }) rfl (fun K hK => ?_) AllReadyH.nil
          rw [if_pos (by rfl)]
          go_simp
          obtain ⟨U, gM, hU, hgM, hbU, hbU2, hgm1, hgm2, hrow⟩ := alloc_named HW.out #[.string ⟨#[120]⟩, .int .i64 j0, .int .i64 j1, .slice A5 m0 c5, .string ⟨#[120]⟩, .int .i64 k0, .int .i64 c0, .slice A6 n0 c6] 64
          rw [← hU, ← hgM]
          have HMR := hid hrow
          replace HP5 := hid (HP5.out.below hbU2)
          replace HP6 := hid (HP6.out.below hbU2)
          (try replace HG := hid ((hbU2.block g (Array.getElem?_eq_some_iff.1 HG.out).1).trans HG.out))
          replace HW := hid hbU
          clear hU hgM hbU hbU2 hgm1 hgm2 hrow
          refine hK.out _ _ (by exact HCS.out _ HW.out) (fun hHeld => ?_)
          clear hK K
          try simp only [Act.put, List.setIfInBounds_toArray, List.set_cons_zero, List.set_cons_succ]
          refine wpAnyH_ready (rs := [8]) (by kernel_rfl) (by simp) ?_
          refine AllReadyH.cons (o := { dst := some 101, op := Op.call { callee := Callee.value (Operand.func 32), args := #[Operand.tmp 93, Operand.tmp 100], argTypes := #[9, 85] }, type := _, pos := _, after := _, guard := none }) rfl (fun K hK => ?_) AllReadyH.nil
          rw [if_pos (by rfl)]
          go_simp
          refine (parse_two HMR.out HP5.out HP6.out).mono ?_
          rintro e w8 ⟨ka, ca, Aa, na, cpa, bad, xa, rfl, hb8, hca⟩
          first | (have HPA := hid (came_off hca (show g < _ from (Array.getElem?_eq_some_iff.1 HG.out).1)); replace HG := hid ((hb8.block g (Array.getElem?_eq_some_iff.1 HG.out).1).trans HG.out)) | (have HPL := hid hca)
          replace HW := hid (HW.out.trans (hb8.mono HW.out.size))
          clear hb8 hca
          go_wp2_with fail
          refine hK.out _ _ (by exact HCS.out _ HW.out) (fun hHeld => ?_)
          clear hK K
          try simp only [Act.put, List.setIfInBounds_toArray, List.set_cons_zero, List.set_cons_succ]
          refine wpAnyH_take (i := 9) (oi := { dst := some 92, op := Op.move (Operand.tmp 101), type := _, pos := _, after := _, guard := none }) (v := ?_) rfl (by kernel_rfl) (by kernel_rfl) (by kernel_rfl) (fun _ _ _ h => h) (Or.inl ⟨by rfl, ?_⟩) (by assumption) ?_
          rotate_left
          · intro w hSw; (try dsimp only at hSw); go_simp; try (first | with_reducible rfl | (refine (if_pos ?_).trans ?_ <;> first | omega | with_reducible rfl))
          try simp only [Act.put, List.setIfInBounds_toArray, List.set_cons_zero, List.set_cons_succ]
          refine wpAnyH_take (i := 10) (oi := { dst := some 102, op := Op.extract (Operand.tmp 92) 0, type := _, pos := _, after := _, guard := none }) (v := ?_) rfl (by kernel_rfl) (by kernel_rfl) (by kernel_rfl) (fun _ _ _ h => h) (Or.inl ⟨by rfl, ?_⟩) (by assumption) ?_
          rotate_left
          · intro w hSw; (try dsimp only at hSw); go_simp; try (first | with_reducible rfl | (refine (if_pos ?_).trans ?_ <;> first | omega | with_reducible rfl))
          try simp only [Act.put, List.setIfInBounds_toArray, List.set_cons_zero, List.set_cons_succ]
          refine wpAnyH_take (i := 11) (oi := { dst := some 103, op := Op.extract (Operand.tmp 92) 1, type := _, pos := _, after := _, guard := none }) (v := ?_) rfl (by kernel_rfl) (by kernel_rfl) (by kernel_rfl) (fun _ _ _ h => h) (Or.inl ⟨by rfl, ?_⟩) (by assumption) ?_
          rotate_left
          · intro w hSw; (try dsimp only at hSw); go_simp; try (first | with_reducible rfl | (refine (if_pos ?_).trans ?_ <;> first | omega | with_reducible rfl))
          try simp only [Act.put, List.setIfInBounds_toArray, List.set_cons_zero, List.set_cons_succ]
          refine wpAnyH_take (i := 12) (oi := { dst := some 104, op := Op.extract (Operand.tmp 92) 2, type := _, pos := _, after := _, guard := none }) (v := ?_) rfl (by kernel_rfl) (by kernel_rfl) (by kernel_rfl) (fun _ _ _ h => h) (Or.inl ⟨by rfl, ?_⟩) (by assumption) ?_
          rotate_left
          · intro w hSw; (try dsimp only at hSw); go_simp; try (first | with_reducible rfl | (refine (if_pos ?_).trans ?_ <;> first | omega | with_reducible rfl))
          try simp only [Act.put, List.setIfInBounds_toArray, List.set_cons_zero, List.set_cons_succ]
          refine wpAnyH_ready (rs := [14]) (by kernel_rfl) (by simp) ?_
          refine AllReadyH.cons (o := { dst := none, op := Op.store 45 (Operand.tmp 10) (Operand.tmp 102), type := _, pos := _, after := _, guard := none }) rfl (fun K hK => ?_) AllReadyH.nil
          have hZg := HG.out
          obtain ⟨u0, u1, u2, uf⟩ := slot3 (a := .int .i64 0) (b := .int .i64 0) (c := .slice none 0 0) hZg
          have uf0 := uf 0
          have uf1 := uf 1
          have uf2 := uf 2
          clear uf hZg
          rw [if_pos (by rfl)]
          go_simp
          obtain ⟨Z, hZ, hbZ, hrZ, hpZ⟩ := put_named HW.out HGB.out HG.out (.int .i64 ka) (.int .i64 ca) (.slice Aa na cpa) HPA.out
          rw [← hZ]
          clear u0 u1 u2 uf0 uf1 uf2 hZ
          have HZR := hid hrZ
          have HPZ := hid hpZ
          replace HW := hid hbZ
          clear hbZ hrZ hpZ
          refine hK.out _ _ (by exact HCS.out _ HW.out) (fun hHeld => ?_)
          clear hK K
          try simp only [Act.put, List.setIfInBounds_toArray, List.set_cons_zero, List.set_cons_succ]
          refine wpAnyH_take (i := 15) (oi := { dst := some 11, op := Op.assign (Operand.tmp 103), type := _, pos := _, after := _, guard := none }) (v := ?_) rfl (by kernel_rfl) (by kernel_rfl) (by kernel_rfl) (fun _ _ _ h => h) (Or.inl ⟨by rfl, ?_⟩) (by assumption) ?_
          rotate_left
          · intro w hSw; (try dsimp only at hSw); go_simp; try (first | with_reducible rfl | (refine (if_pos ?_).trans ?_ <;> first | omega | with_reducible rfl))
          try simp only [Act.put, List.setIfInBounds_toArray, List.set_cons_zero, List.set_cons_succ]
          refine wpAnyH_take (i := 16) (oi := { dst := some 12, op := Op.assign (Operand.tmp 104), type := _, pos := _, after := _, guard := none }) (v := ?_) rfl (by kernel_rfl) (by kernel_rfl) (by kernel_rfl) (fun _ _ _ h => h) (Or.inl ⟨by rfl, ?_⟩) (by assumption) ?_
          rotate_left
          · intro w hSw; (try dsimp only at hSw); go_simp; try (first | with_reducible rfl | (refine (if_pos ?_).trans ?_ <;> first | omega | with_reducible rfl))
          try simp only [Act.put, List.setIfInBounds_toArray, List.set_cons_zero, List.set_cons_succ]
          refine wpAnyH_done (by kernel_rfl) ?_ _
          go_wp2_with fail
          refine (parse_none (s := tb)).mono ?_
          rintro e w9 ⟨kb, cb, Ab, nb, cpb, badb, xb, rfl, hb9, hcb⟩
          have HB9 := hid (HW.out.trans (hb9.mono HW.out.size))
          have hz9 := (hb9.block g (Array.getElem?_eq_some_iff.1 HZR.out).1).trans HZR.out
          obtain ⟨Y, g2, hY, hg2, hbY, hbY2, hgy1, hgy2, hrY⟩ := alloc_named HB9.out #[.int .i64 kb, .int .i64 cb, .slice Ab nb cpb] 45
          have HYE := hid hY
          have HBY := hid hbY
          have hyz := (hbY2.block g (Array.getElem?_eq_some_iff.1 hz9).1).trans hz9
          have HPA2 := hid (show ∀ p, parseF [(⟨#[120]⟩, toP d2 t2), (⟨#[120]⟩, toP d t)] s = .ok p → xa = 0 ∧ cntP p ≤ 2000 ∧ IsP Y (fun b => b ≠ g) (.agg #[.int .i64 ka, .int .i64 ca, .slice Aa na cpa]) p from fun p e => ⟨(HPZ.out.1 p e).1, (HPZ.out.1 p e).2.1, ((HPZ.out.1 p e).2.2.below hb9).below hbY2⟩)
          have HPB2 := hid (show ∀ p, parseF [] tb = .ok p → xb = 0 ∧ IsP Y Any (.agg #[.int .i64 kb, .int .i64 cb, .slice Ab nb cpb]) p from fun p e => ⟨(hcb.1 p e).1, ((hcb.1 p e).2.2.below hbY2).mono fun _ _ _ => trivial⟩)
          have HNA := hid HPZ.out.2
          have HNB := hid hcb.2
          have HFIN := hid (HB.out.trans ((HWr.out.trans (HBY.out.mono HWr.out.size)).mono HB.out.size))
          obtain ⟨a0, a1, a2, -⟩ := slot3 hyz
          obtain ⟨b0, b1, b2, -⟩ := slot3 hrY
          rw [hY] at a0 a1 a2
          rw [hY, hg2] at b0 b1 b2
          clear hY hg2 hbY hbY2 hgy1 hgy2 hrY hyz hz9 hb9 hcb HPZ
          cases hA : parseF [(⟨#[120]⟩, toP d2 t2), (⟨#[120]⟩, toP d t)] s with
          | ok pa =>
            obtain ⟨hx0, hca, hia⟩ := HPA2.out pa hA
            cases hB : parseF [] tb with
            | ok pb =>
              have hab : pa = pb := by have h9 := HLAW.out; rw [hA, hB] at h9; exact h9
              obtain ⟨hxb0, hib⟩ := HPB2.out pb hB
              subst hx0 hxb0 hab
              have HCS2 := hid (sameP_any hia hib hca)
              clear hia hib hca hA hB
              go_wp2_with fail
              rw [← HYE.out]
              refine HCS2.out.mono ?_
              rintro e w10 ⟨rfl, hb10⟩
              have HF10 := hid (HB.out.trans ((HWr.out.trans ((HBY.out.trans (hb10.mono HBY.out.size)).mono HWr.out.size)).mono HB.out.size))
              clear hb10
              go_wp2_with fail
              go_ret
              exact ⟨rfl, HF10.out⟩
            | no nb1 xe1 =>
              have h63 : xe1 = 6 ∨ xe1 = 3 := by have h9 := HLAW.out; rw [hA, hB] at h9; exact h9
              have hxe := (HNB.out _ _ hB).1
              subst hx0 hxe
              clear hia hca hA hB
              rcases h63 with h63 | h63
              · subst h63
                go_wp2_with fail
                go_ret
                exact ⟨rfl, by rw [← HYE.out]; exact HFIN.out⟩
              · subst h63
                go_wp2_with fail
                go_ret
                exact ⟨rfl, by rw [← HYE.out]; exact HFIN.out⟩
          | no na1 xe0 =>
            have hxa := (HNA.out _ _ hA)
            cases hB : parseF [] tb with
            | ok pb => exact absurd (show False by have h9 := HLAW.out; rw [hA, hB] at h9; exact h9) id
            | no nb1 xe1 =>
              have hxb := (HNB.out _ _ hB)
              have hx1 : ¬ xa = 0 := hxa.2
              have hx2 : ¬ xb = 0 := hxb.2
              clear hxa hxb hA hB
              go_wp2_with fail
              go_ret
              exact ⟨rfl, by rw [← HYE.out]; exact HFIN.out⟩
end Go.Proofs.Ytjcdcmeclnihbaa
