/- The document's Which: the walk. Condition: at most 900 places. -/
import Derived.Test.YtjcdcmeclnihbaaWo
import Derived.Test.YtjcdcmeclnihbaaHd
namespace Go.Proofs.Ytjcdcmeclnihbaa
open Go.RowKit
set_option linter.unusedSimpArgs false
set_option maxRecDepth 100000 in
set_option maxHeartbeats 4000000 in
theorem rwhich_any (d : Nat) (v lv : Value) (t : Tx d) (ids : List Int) (w : World) (h : IsTx w Any d v t) (hl : IsNums .i64 w Any lv ids) (hn : ids.length ≤ 900) :
    Calls Try.prog 21 #[v, lv] w fun e w' => ∃ v', e = .returned v' ∧ IsNums .i64 w' (fun b => w.heap.size ≤ b) v' ((List.range ids.length).map (rAt t.rs (ids.map classOf) (hidL t.ig t.kp (ids.map classOf)))) ∧ Below w.heap.size w w' := by
  have HT0 := hid h
  obtain ⟨I, ic, K, kc, A, c, rfl, -, -, lI, lK, lA, hR⟩ := h.open
  have HRw := hid hR
  have HLA := hid lA
  clear h hR lI lK lA
  obtain ⟨M, cm, rfl⟩ := hl.form
  have HMw := hid hl
  obtain ⟨hide, hhd⟩ : ∃ hide, hide = hidL t.ig t.kp (ids.map classOf) := ⟨_, rfl⟩
  have HHD := hid hhd
  rw [← hhd]
  obtain ⟨l, hll⟩ : ∃ l, l = ids.map classOf := ⟨_, rfl⟩
  have HLL := hid hll
  rw [← hll]
  obtain ⟨n, hnn⟩ : ∃ n, n = ids.length := ⟨_, rfl⟩
  have HNN := hid hnn
  rw [← hnn] at hn ⊢
  obtain ⟨rs, hrs⟩ : ∃ rs, rs = t.rs := ⟨_, rfl⟩
  have HRS := hid hrs
  obtain ⟨a, ha⟩ : ∃ a, a = t.ig.length := ⟨_, rfl⟩
  obtain ⟨b, hb⟩ : ∃ b, b = t.kp.length := ⟨_, rfl⟩
  obtain ⟨r, hr⟩ : ∃ r, r = t.rs.length := ⟨_, rfl⟩
  have HT := hid (show IsTx w Any d (.agg #[.slice I a ic, .slice K b kc, .slice A r c]) t by rw [ha, hb, hr]; exact HT0.out)
  rw [← ha, ← hb, ← hr]
  obtain ⟨W, hW0⟩ : ∃ W, W = w.alloc (.cells #[.slice I a ic, .slice K b kc, .slice A r c] 25) := ⟨_, rfl⟩
  have HBW := hid (show Below w.heap.size w W by rw [hW0]; exact (Below.refl _ _).alloc (Nat.le_refl _) _)
  have HXW := hid (show W.heap[w.heap.size]? = some (.cells #[.slice I a ic, .slice K b kc, .slice A r c] 25 (0, 0)) by rw [hW0]; exact heap_alloc_new _ _)
  have HTW := hid (HT.out.below HBW.out)
  have HMW := hid (show IsNums .i64 W Any (.slice M n cm) ids by rw [HNN.out]; exact HMw.out.below HBW.out)
  have HN9 := hid (show ids.length ≤ 1000 by rw [← HNN.out]; omega)
  have HRE := hid (show r = rs.length by rw [hr, hrs])
  have HR9 := hid (show r ≤ 9223372036854775807 by rw [hr]; exact HLA.out)
  have HLN := hid (show l.length = n by rw [hll, hnn]; simp)
  clear hl hhd hll hnn hrs ha hb hr
  have hmk := run_make_nums .i64 .i64 n (by omega)
  go_enter Try.func21, Try.ntmps21
  go_wp2_with fail
  rw [← hW0]
  clear hW0
  refine (rhidden_any d _ _ t ids _ HTW.out HMW.out HN9.out).mono ?_
  rintro e w1 ⟨hv, rfl, hbs, hb1⟩
  have HX1 := hid ((hb1.block w.heap.size (Array.getElem?_eq_some_iff.1 HXW.out).1).trans HXW.out)
  obtain ⟨W3, hW3⟩ : ∃ W3, W3 = ((w1.alloc (.cells #[.int .i64 36] 3)).alloc (.cells (Array.replicate n (Value.int .i64 0)) 3)).alloc (.cells (Array.replicate n (Value.int .i64 0)) 3) := ⟨_, rfl⟩
  have HB3 := hid (which_blocks hW3)
  have HBS := hid hbs
  have HB1 := hid (HBW.out.trans (hb1.mono HBW.out.size))
  obtain ⟨z, hz⟩ : ∃ z, z = w1.heap.size := ⟨_, rfl⟩
  have HZ := hid hz
  rw [← hz] at HB3
  have HZW := hid (show w.heap.size < z by rw [hz]; have h1 := hb1.size; have h2 := (Array.getElem?_eq_some_iff.1 HXW.out).1; omega)
  have HHL := hid (show hide.length = n by rw [HHD.out, HNN.out]; simp [hidL])
  obtain ⟨bA, bc, rfl, -, hbA⟩ := hbs.open
  rw [← HHD.out, HHL.out]
  have HBA := hid (show Arr w1 (fun b => W.heap.size ≤ b) bA (hide.map .bool) by rw [HHD.out]; exact hbA)
  clear hbs hb1 hbA
  go_wp2_with fail
  rw [← hW3, ← hz]
  clear hW3 hz hmk
  go_loopw [6, 9] (fun s6 s9 wr => ∃ i : Nat, i ≤ n ∧ s9 = .int .i64 i ∧ Hid (PlOut wr (z + 1) (z + 2) n i rs l hide) ∧ Hid (wr.ownsRow z 3 1 s6 (1 + (seenTo l hide i).length) ((36 :: seenTo l hide i).map (.int .i64)) ∧ s6.ownBlock ≠ some (z + 1) ∧ s6.ownBlock ≠ some (z + 2)) ∧ Hid (Below z w1 wr)) (fun _ s9 _ => n - (intOf s9).toNat)
  case atStart => exact ⟨0, by omega, rfl, hid (PlOut.new rs l hide HB3.out.2.1 HB3.out.2.2.1), hid ⟨HB3.out.1, by simp [Value.ownBlock], by simp [Value.ownBlock]⟩, hid HB3.out.2.2.2.2⟩
  case round =>
    obtain ⟨i, hi, rfl, HP, HO, HW⟩ := hrel
    by_cases hlt : i < n
    · obtain ⟨ps, os, hp, hpl, hpk, ho, hol, hok⟩ := HP.out
      have hc := ho.cell (j := i) (by omega)
      have hfc := ho.frozen i
      obtain ⟨y, hy⟩ : ∃ y, y = nth os i := ⟨_, rfl⟩
      rw [← hy] at hc
      have HS1 := hid (ho.set i (-1))
      have hc2 := HS1.out.cell (j := i) (by rw [List.length_set]; omega)
      have hfc2 := HS1.out.frozen i
      obtain ⟨y2, hy2⟩ : ∃ y, y = nth (os.set i (-1)) i := ⟨_, rfl⟩
      rw [← hy2] at hc2
      obtain ⟨hb, hof, rfl, -, hbs, hcb⟩ := HBA.out.bool (j := i) (by rw [HHL.out]; exact hlt)
      have HPA := hid (And.intro hp (And.intro hpl (And.intro hpk (And.intro ho (And.intro hol hok)))))
      have hcw := (cell_same (HW.out.block hb (by rw [HZ.out]; exact hbs))).trans hcb
      have hne : hb ≠ z + 2 := by rw [HZ.out]; omega
      have hcv : (wr.setCell ⟨z + 2, i, none⟩ (.int .i64 (-1))).cell? ⟨hb, hof + i, none⟩ = some (.bool (nthB hide i)) := (cell_set_other (.inl hne)).trans hcw
      clear hy hy2 hp hpl hpk ho hol hok hcb hbs hcw hne
      cases hh : nthB hide i with
      | true =>
        rw [hh] at hcv
        have HH := hid hh
        clear hh
        go_wp2_with fail
        go_roundw
        case rel =>
          refine ⟨i + 1, by omega, by go_num, hid (HP.out.hide hlt (by omega) HH.out), hid ⟨?_, HO.out.2⟩, hid ((HW.out.setCell (p := ⟨z + 2, i, none⟩) (by show z ≤ z + 2; omega) _).setCell (p := ⟨z + 2, i, none⟩) (by show z ≤ z + 2; omega) _)⟩
          rw [seenTo_skip HH.out]
          exact own_keep HO.out.1 fun k hk => (heap_setCell_other _ _ _ _ (fun e => HO.out.2.2 (by rw [hk]; exact congrArg some e))).trans (heap_setCell_other _ _ _ _ (fun e => HO.out.2.2 (by rw [hk]; exact congrArg some e)))
        case measure => simp [intOf]; omega
      | false =>
        rw [hh] at hcv
        have HH := hid hh
        obtain ⟨u, hu⟩ : ∃ u, u = (seenTo l hide i).length := ⟨_, rfl⟩
        have HU := hid hu
        have hu9 : u ≤ 900 := by have := seenTo_len l hide i; omega
        have hoo := HO.out.1
        rw [← HU.out] at hoo
        obtain ⟨A6, c6, rfl, -, -, -⟩ := own_arr hoo
        have HOO := hid hoo
        clear hoo
        have HP2 := hid (show NumBlk (wr.setCell ⟨z + 2, i, none⟩ (.int .i64 (-1))) (z + 1) ps from HPA.out.1.keep (heap_setCell_other _ _ _ _ (by show z + 1 ≠ z + 2; omega)))
        have hcp := HP2.out.cell (j := i) (by rw [HPA.out.2.1]; exact hlt)
        have hfp := HP2.out.frozen i
        obtain ⟨y3, hy3⟩ : ∃ y, y = nth ps i := ⟨_, rfl⟩
        rw [← hy3] at hcp
        have HWz := hid (show Below w.heap.size w wr from HB1.out.trans (HW.out.mono (Nat.le_of_lt HZW.out)))
        obtain ⟨b9, o9, cm', hem, -, hbm, hcm⟩ := HMw.out.at (j := i) (by rw [← HNN.out]; exact hlt)
        obtain ⟨rfl, -⟩ : M = some ⟨b9, o9, none⟩ ∧ True := by simpa using (show M = some ⟨b9, o9, none⟩ by injection hem)
        obtain ⟨x, hx⟩ : ∃ x, x = nth ids i := ⟨_, rfl⟩
        have HX := hid hx
        rw [← hx] at hcm
        have hcm2 : ((wr.setCell ⟨z + 2, i, none⟩ (.int .i64 (-1))).setCell ⟨z + 1, i, none⟩ (.int .i64 (1 + (u : Int)))).cell? ⟨b9, o9 + i, none⟩ = some (.int .i64 x) :=
          (cell_set_other (.inl (by have := HZW.out; omega))).trans ((cell_set_other (.inl (by have := HZW.out; omega))).trans ((cell_same (HWz.out.block b9 hbm)).trans hcm))
        clear hh hu hy3 hem hbm hcm hx
        go_wp2_with fail
        refine (class_any x _).mono ?_
        rintro e w5 ⟨rfl, rfl⟩
        obtain ⟨V2, hV2⟩ : ∃ V2, V2 = (wr.setCell ⟨z + 2, i, none⟩ (.int .i64 (-1))).setCell ⟨z + 1, i, none⟩ (.int .i64 (1 + (u : Int))) := ⟨_, rfl⟩
        have HO2 := hid (show V2.ownsRow z 3 1 (.slice A6 (1 + u) c6) (1 + u) ((36 :: seenTo l hide i).map (.int .i64)) by
          rw [hV2]
          exact own_keep HOO.out fun k hk => (heap_setCell_other _ _ _ _ (fun e => HO.out.2.1 (by rw [hk]; exact congrArg some e))).trans (heap_setCell_other _ _ _ _ (fun e => HO.out.2.2 (by rw [hk]; exact congrArg some e))))
        have HW2 := hid (show Below z w1 V2 by rw [hV2]; exact (HW.out.setCell (p := ⟨z + 2, i, none⟩) (by show z ≤ z + 2; omega) _).setCell (p := ⟨z + 1, i, none⟩) (by show z ≤ z + 1; omega) _)
        have HNP := hid (show NumBlk V2 (z + 1) (ps.set i (1 + (u : Int))) by rw [hV2]; exact HP2.out.set i _)
        have HNO := hid (show NumBlk V2 (z + 2) (os.set i (-1)) by rw [hV2]; exact HS1.out.keep (heap_setCell_other _ _ _ _ (by show z + 2 ≠ z + 1; omega)))
        rw [← hV2]
        clear hV2
        obtain ⟨i0, hi0, hz0, hz1, hz2⟩ := info_parts info3
        have HXb := hid (show Below z w1 (V2.alloc (.cells #[.int .i64 (classOf x)] 3)) from HW2.out.alloc (by have := HW2.out.size; have := HZ.out; omega) _)
        have HOX := hid (HO2.out.alloc (.cells #[.int .i64 (classOf x)] 3))
        have HZ2 := hid (show z ≤ V2.heap.size by have := HW2.out.size; have := HZ.out; omega)
        go_wp2_with (at_builtin; (refine wpList_app _ rfl (.tmp 49) (.tmp 55) 22 rfl z 3 i0 _ 1 8 Try.underlying22 hi0 hz0 hz1 hz2 rfl (by decide) _ (1 + u) ((36 :: seenTo l hide i).map (.int .i64)) rfl ?own (some ⟨V2.heap.size, 0, none⟩) 1 1 [.int .i64 (classOf x)] rfl ?src (one_nums _ [classOf x]) (by simp only [maxLen]; omega) (by omega) (by have := HZ2.out; simp; omega) ?_); rotate_left 2; intro v' w' hown hgrow hat)
        case own => exact HOX.out
        case src => exact src_new V2 #[.int .i64 (classOf x)] 3 1 rfl
        have hk1 : ∀ g, g < V2.heap.size → some g ≠ (Value.slice A6 (1 + u) c6).ownBlock → w'.heap[g]? = V2.heap[g]? := fun g hg hne => (hgrow.block g (by simp; omega) hne).trans (heap_alloc_old _ _ hg)
        have hpo : PlOut w' (z + 1) (z + 2) n (i + 1) rs l hide := by
          refine ⟨ps.set i (1 + (u : Int)), os.set i (-1), HNP.out.keep (hk1 _ HNP.out.lt (Ne.symm HO.out.2.1)), by rw [List.length_set]; exact HPA.out.2.1, fun k hk hf => ?_, HNO.out.keep (hk1 _ HNO.out.lt (Ne.symm HO.out.2.2)), by rw [List.length_set]; exact HPA.out.2.2.2.2.1, fun k hk => ?_⟩
          · rw [nth_set' (by rw [HPA.out.2.1]; exact hlt)]
            by_cases e : i = k
            · subst e
              rw [if_pos rfl]
              unfold posOf
              rw [← HU.out]; omega
            · rw [if_neg e]; exact HPA.out.2.2.1 k (by omega) hf
          · rw [nth_set' (by rw [HPA.out.2.2.2.2.1]; exact hlt)]
            by_cases e : i = k
            · subst e
              rw [if_pos rfl, outR_end, if_neg (by rw [HH.out]; simp)]
            · rw [if_neg e]; exact HPA.out.2.2.2.2.2 k (by omega)
        have HPN := hid hpo
        have hnb : ∀ g, g < V2.heap.size → (Value.slice A6 (1 + u) c6).ownBlock ≠ some g → v'.ownBlock ≠ some g := fun g hg hne => by
          rcases hat with e | e
          · rw [e]; exact hne
          · rw [e]; intro h; injection h with h; simp at h; omega
        have HNB := hid (And.intro (hnb _ HNP.out.lt HO.out.2.1) (hnb _ HNO.out.lt HO.out.2.2))
        have HON := hid (show w'.ownsRow z 3 1 v' (1 + (seenTo l hide (i + 1)).length) ((36 :: seenTo l hide (i + 1)).map (.int .i64)) by
          rw [seenTo_put HH.out, show nth l i = classOf x by rw [HLL.out, nth_cls, HX.out]]
          rw [List.length_append, List.length_singleton, ← HU.out]
          simpa [Nat.add_assoc] using hown)
        have HWN := hid (below_own HXb.out HOX.out hgrow (by have := HZ2.out; simp; omega))
        clear hk1 hpo hnb hown hgrow hat
        go_roundw
        case rel => exact ⟨i + 1, by omega, by go_num, HPN, hid ⟨HON.out, HNB.out⟩, HWN⟩
        case measure => simp [intOf]; omega
    · obtain rfl : n = i := by omega
      obtain ⟨w2, rfl⟩ : ∃ w2, w2 = wr := ⟨_, rfl⟩
      obtain ⟨m, hm⟩ : ∃ m, m = (seenTo l hide n).length := ⟨_, rfl⟩
      have HMM := hid hm
      have hm9 : m ≤ 900 := by have := seenTo_len l hide n; omega
      have hoo := HO.out.1
      rw [← hm] at hoo
      have hno := HO.out.2.2
      obtain ⟨A6, c6, rfl, -, -, -⟩ := own_arr hoo
      obtain ⟨way, hwy⟩ : ∃ way, way = wayOf l hide := ⟨_, rfl⟩
      have HWE := hid hwy
      have HWL := hid (show way.length = 1 + m by rw [hwy]; unfold wayOf; rw [HLN.out, List.length_cons, ← hm]; omega)
      have HWL2 := hid (show way.length + 1 = m + 2 by have := HWL.out; omega)
      have HWY := hid (show IsNums .i64 w2 (fun b => b ≠ z + 2) (.slice A6 (1 + m) c6) way by
        rw [hwy]; unfold wayOf; rw [HLN.out]
        exact (own_nums hoo).mono fun b hb _ e => hno (by rw [hb.2, e]))
      obtain ⟨ps, os, hp, hpl, hpk, ho, hol, hok⟩ := HP.out
      have HPS := hid hp
      have HPLN := hid hpl
      have HPK := hid hpk
      have HOK := hid (show OutK w2 (z + 2) n r rs l hide from ⟨os, ho, hol, fun k hk => by rw [HRE.out]; exact hok k hk⟩)
      have HHW := hid (show Arr w2 (fun b => b ≠ z + 2) bA (hide.map .bool) from (HBA.out.mono (S' := fun b => b ≠ z + 2) fun b _ hlt => by rw [HZ.out]; omega).below (by rw [← HZ.out]; exact HW.out))
      have HBw := hid (show Below w.heap.size w w2 from HB1.out.trans (HW.out.mono (Nat.le_of_lt HZW.out)))
      have HRR := hid (show Row7 w2 (fun b => b ≠ z + 2) d A rs by
        rw [HRS.out]
        exact HRw.out.imp (fun b _ hlt => HBw.out.block b hlt) fun b _ hlt => by have := HZW.out; omega)
      have HBX := hid ((HW.out.block w.heap.size HZW.out).trans HX1.out)
      have HKP := hid (fun (Y : World) (hY : w2.grownBy Y (some (z + 2))) (b : Nat) (hlt : b < w2.heap.size) (hne : b ≠ z + 2) => hY.block b hlt (by intro e; injection e with e; exact hne e))
      have HSZ := hid (show w.heap.size < w2.heap.size ∧ z + 2 < w2.heap.size from ⟨by have h1 := HW.out.size; have h2 := HZW.out; have h3 := HZ.out; omega, ho.lt⟩)
      have hr9 := HR9.out
      obtain ⟨-, -, hx2, -⟩ := slot3 HBX.out
      clear hm hoo hno hwy hp hpl hpk ho hol hok HP HO
      go_wp2_with fail
      go_loopw [10, 11, 12, 13, 14, 15, 16, 17] (fun s10 _ _ _ _ _ _ _ wr2 => ∃ k : Nat, k ≤ r ∧ s10 = .int .i64 ((k : Int) - 1) ∧ Hid (OutK wr2 (z + 2) n k rs l hide) ∧ Hid (w2.grownBy wr2 (some (z + 2)))) (fun s10 _ _ _ _ _ _ _ _ => (intOf s10 + 1).toNat)
      case atStart => exact ⟨r, Nat.le_refl _, rfl, HOK, hid (World.grownBy.refl _ _)⟩
      case round =>
        obtain ⟨k, hk, rfl, HQ, HG⟩ := hrel
        obtain ⟨w3, rfl⟩ : ∃ w3, w3 = wr := ⟨_, rfl⟩
        cases k with
        | zero =>
          have e0 : (((0 : Nat) : Int) - 1) = -1 := rfl
          rw [e0]
          clear e0
          have HBF := hid (HBw.out.grown HG.out (Nat.le_of_lt HSZ.out.1) fun k hk => by injection hk with hk; rw [← hk]; have := HZW.out; omega)
          have hge : w.heap.size ≤ z + 2 := by have := HZW.out; omega
          have HNN2 := hid (show IsNums .i64 w3 (fun b => w.heap.size ≤ b) (.slice (some ⟨z + 2, 0, none⟩) n n) ((List.range n).map (rAt t.rs l hide)) by rw [← HRS.out]; exact (HQ.out.nums (by omega)).mono fun b hb _ => by rw [hb]; exact hge)
          go_wp2_with fail
          go_ret
          exact ⟨_, rfl, HNN2.out, HBF.out⟩
        | succ j =>
          have ej : (((j + 1 : Nat) : Int) - 1) = (j : Int) := by omega
          rw [ej]
          clear ej
          have hj : j < rs.length := by rw [← HRE.out]; omega
          have hjr : j < r := by omega
          have HR3 := hid (show Row7 w3 (fun b => b ≠ z + 2) d A rs from HRR.out.imp (fun b hb hlt => HKP.out w3 HG.out b hlt hb) fun b hb _ => hb)
          obtain ⟨b7, o7, k0, k1, A0, n0, p0, j0, j1, A1, n1, p1, rfl, -, hb7, d0, d1, d2, d3, d4, d5, -, hTL, hTR⟩ := HR3.out.at (List.getElem?_eq_getElem hj)
          have HTL := hid (IsTr.imp (w' := w3) (S' := Any) (fun _ _ _ => rfl) (fun _ _ _ => trivial) _ _ _ hTL)
          have HTR := hid (IsTr.imp (w' := w3) (S' := Any) (fun _ _ _ => rfl) (fun _ _ _ => trivial) _ _ _ hTR)
          obtain ⟨rl, hrl⟩ : ∃ rl, rl = rs[j] := ⟨_, rfl⟩
          rw [← hrl] at HTL HTR
          have HRL := hid (show rs[j]? = some rl by rw [hrl]; exact List.getElem?_eq_getElem hj)
          have HW3 := hid (show IsNums .i64 w3 Any (.slice A6 (1 + m) c6) way from (HWY.out.keep fun b hb hlt => HKP.out w3 HG.out b hlt hb).mono fun _ _ _ => trivial)
          have HX3 := hid ((HKP.out w3 HG.out w.heap.size HSZ.out.1 (by have := HZW.out; omega)).trans HBX.out)
          have HD := hid (And.intro hb7 (And.intro d3 (And.intro d4 d5)))
          obtain ⟨-, -, e2, -⟩ := slot3 HX3.out
          clear hTL hTR hrl hb7 d3 d4 d5 hx2
          go_wp2_with fail
          refine (leads_any d _ rl.L _ way w3 HTL.out HW3.out (by rw [HWL.out]; omega)).mono ?_
          rintro e w4 ⟨vL, rfl, htL, hb4⟩
          rw [HWL2.out] at htL
          have HTB := hid htL
          obtain ⟨gL, rfl, -, -⟩ := id htL
          have HB4 := hid hb4
          obtain ⟨f3, f4, f5⟩ : w4.cell? ⟨b7, o7 + j * 7 + 3, none⟩ = some (.int .i64 j0) ∧ w4.cell? ⟨b7, o7 + j * 7 + 4, none⟩ = some (.int .i64 j1) ∧ w4.cell? ⟨b7, o7 + j * 7 + 5, none⟩ = some (.slice A1 n1 p1) :=
            ⟨(cell_same (hb4.block b7 HD.out.1)).trans HD.out.2.1, (cell_same (hb4.block b7 HD.out.1)).trans HD.out.2.2.1, (cell_same (hb4.block b7 HD.out.1)).trans HD.out.2.2.2⟩
          have HX4 := hid ((hb4.block w.heap.size (Array.getElem?_eq_some_iff.1 HX3.out).1).trans HX3.out)
          clear htL hb4 e2 d0 d1 d2
          obtain ⟨-, -, e2, -⟩ := slot3 HX4.out
          go_wp2_with fail
          refine (leads_any d _ rl.R _ way w4 (IsTr.imp (fun b _ hlt => HB4.out.block b hlt) (fun _ _ _ => trivial) _ _ _ HTR.out) (HW3.out.below HB4.out) (by rw [HWL.out]; omega)).mono ?_
          rintro e w5 ⟨vR, rfl, htR, hb5⟩
          rw [HWL2.out] at htR
          have HTC := hid htR
          have HTB5 := hid (HTB.out.below hb5)
          have HB5 := hid (HB4.out.trans (hb5.mono HB4.out.size))
          have HG5 := hid (show w2.grownBy w5 (some (z + 2)) from grown_below HG.out HB5.out)
          have HQ5 := hid (show OutI w5 (z + 2) n j 0 rs l hide from OutK.first (HQ.out.keep (HB5.out.block _ (by obtain ⟨os, a, _⟩ := HQ.out; exact a.lt))))
          obtain ⟨gR, rfl, -, -⟩ := id htR
          clear htR hb5 e2 f3 f4 f5
          have hn9' : n ≤ 900 := hn
          go_wp2_with fail
          go_loopw [13, 14, 15, 16, 17] (fun s13 _ _ _ _ wr3 => ∃ i : Nat, i ≤ n ∧ s13 = .int .i64 i ∧ Hid (OutI wr3 (z + 2) n j i rs l hide) ∧ Hid (w5.grownBy wr3 (some (z + 2)))) (fun s13 _ _ _ _ _ => n - (intOf s13).toNat)
          case atStart => exact ⟨0, by omega, rfl, HQ5, hid (World.grownBy.refl _ _)⟩
          case round =>
            obtain ⟨i, hi, rfl, HI, HH⟩ := hrel
            obtain ⟨w6, rfl⟩ : ∃ w6, w6 = wr := ⟨_, rfl⟩
            have HG6 := hid (grown_trans HG5.out HH.out)
            by_cases hlt : i < n
            · have hhc := HHW.out.keep (w' := w6) fun b hb hlt => HKP.out w6 HG6.out b hlt hb
              obtain ⟨bh, oh, rfl, -, -, hch⟩ := hhc.bool (j := i) (by rw [HHL.out]; exact hlt)
              have HP6 := hid (HPS.out.keep (HKP.out w6 HG6.out (z + 1) HPS.out.lt (by omega)))
              cases hh : nthB hide i with
              | true =>
                rw [hh] at hch
                have HN := hid (HI.out.skip (by rw [outR_hid _ _ _ _ _ hh, outR_hid _ _ _ _ _ hh]))
                clear hh hhc
                go_wp2_with fail
                go_roundw
                case rel => exact ⟨i + 1, by omega, by go_num, HN, HH⟩
                case measure => simp [intOf]; omega
              | false =>
                rw [hh] at hch
                have HHF := hid hh
                obtain ⟨a, ha⟩ : ∃ a, a = posOf l hide i := ⟨_, rfl⟩
                have ham : a ≤ m := by
                  have h1 := pos_lt (l := l) (hide := hide) (i := i) (by rw [HLN.out]; exact hlt) hh
                  have h2 := HWL.out
                  rw [HWE.out] at h2
                  omega
                have hcp := HP6.out.cell (j := i) (by rw [HPLN.out]; exact hlt)
                rw [HPK.out i hlt hh, ← ha] at hcp
                have HA := hid ha
                have HCP := hid (And.intro HP6.out.lt hcp)
                have HNB := hid (show ∃ os, NumBlk w5 (z + 2) os by obtain ⟨os, a, _⟩ := HQ5.out; exact ⟨os, a⟩)
                have HTL6 := hid (show IsTab w6 (m + 2) (.slice (some ⟨gL, 0, none⟩) (m + 2) (m + 2)) (leadsF d rl.L way) by obtain ⟨os, a⟩ := HNB.out; exact HTB5.out.apart a HH.out)
                have HTR6 := hid (show IsTab w6 (m + 2) (.slice (some ⟨gR, 0, none⟩) (m + 2) (m + 2)) (leadsF d rl.R way) by obtain ⟨os, a⟩ := HNB.out; exact HTC.out.apart a HH.out)
                clear hh hhc ha
                go_wp2_with fail
                go_loopw [14, 16] (fun s14 s16 wr4 => ∃ c : Nat, c ≤ a + 1 ∧ s16 = .int .i64 c ∧ s14 = .bool (aheadTo rl.L way a c) ∧ Hid (Below w6.heap.size w6 wr4)) (fun _ s16 _ => a + 1 - (intOf s16).toNat)
                case atStart => exact ⟨0, by omega, rfl, rfl, hid (Below.refl _ _)⟩
                case round =>
                  obtain ⟨c, hc, rfl, rfl, HW6⟩ := hrel
                  obtain ⟨w7, rfl⟩ : ∃ w7, w7 = wr := ⟨_, rfl⟩
                  have hcp7 := (cell_same (HW6.out.block (z + 1) HCP.out.1)).trans HCP.out.2
                  clear hcp hch
                  by_cases hca : c ≤ a
                  · have HS := hid (aheadTo_succ rl.L way a c)
                    obtain ⟨x, hx⟩ : ∃ x, x = aheadTo rl.L way a c := ⟨_, rfl⟩
                    rw [← hx] at HS ⊢
                    obtain ⟨rw1, hcr, hcj⟩ := (HTL6.out.below HW6.out).cells (i := c) (by omega)
                    have hcb := hcj a (by omega)
                    obtain ⟨y, hy⟩ : ∃ y, y = leadsF d rl.L way c a := ⟨_, rfl⟩
                    rw [← hy] at HS hcb
                    have HSB := hid HS.out
                    clear hx hy hcj HS
                    cases x with
                    | true =>
                      have HE := hid (show true = aheadTo rl.L way a (c + 1) by rw [HSB.out]; rfl)
                      go_wp2_with fail
                      go_quiet (fail)
                      go_wp2_with fail
                      go_roundw
                      case rel => exact ⟨c + 1, by omega, by go_num, congrArg Value.bool HE.out, hid (below_drewN HW6.out _)⟩
                      case measure => simp [intOf]; omega
                    | false =>
                      have HE := hid (show y = aheadTo rl.L way a (c + 1) by rw [HSB.out]; rfl)
                      go_wp2_with fail
                      go_quiet (fail)
                      go_wp2_with fail
                      go_roundw
                      case rel => exact ⟨c + 1, by omega, by go_num, congrArg Value.bool HE.out, hid (below_drewN HW6.out _)⟩
                      case measure => simp [intOf]; omega
                  · obtain rfl : c = a + 1 := by omega
                    obtain ⟨x, hx⟩ : ∃ x, x = aheadTo rl.L way a (a + 1) := ⟨_, rfl⟩
                    have HX := hid hx
                    rw [← hx]
                    clear hx
                    have hst := behindTo_start rl.R way a
                    have HST := hid hst
                    clear hst
                    go_wp2_with fail
                    go_loopw [15, 17] (fun s15 s17 wr5 => ∃ c : Nat, a ≤ c ∧ c ≤ m + 2 ∧ s17 = .int .i64 c ∧ s15 = .bool (behindTo rl.R way a c) ∧ Hid (Below w6.heap.size w6 wr5)) (fun _ s17 _ => m + 2 - (intOf s17).toNat)
                    case atStart => exact ⟨a, Nat.le_refl _, by omega, rfl, congrArg Value.bool HST.out.symm, HW6⟩
                    case round =>
                      obtain ⟨c, hac, hc, rfl, rfl, HW8⟩ := hrel
                      obtain ⟨w8, rfl⟩ : ∃ w8, w8 = wr := ⟨_, rfl⟩
                      have hcp8 := (cell_same (HW8.out.block (z + 1) HCP.out.1)).trans HCP.out.2
                      clear hcp7 hca
                      by_cases hcm : c ≤ 1 + m
                      · have HS := hid (behindTo_succ rl.R way a c hac)
                        obtain ⟨x2, hx2⟩ : ∃ x2, x2 = behindTo rl.R way a c := ⟨_, rfl⟩
                        rw [← hx2] at HS ⊢
                        obtain ⟨rw1, hcr, hcj⟩ := (HTR6.out.below HW8.out).cells (i := a) (by omega)
                        have hcb := hcj c (by omega)
                        obtain ⟨y, hy⟩ : ∃ y, y = leadsF d rl.R way a c := ⟨_, rfl⟩
                        rw [← hy] at HS hcb
                        clear hx2 hy hcj
                        cases x2 with
                        | true =>
                          have HE := hid (show true = behindTo rl.R way a (c + 1) by rw [HS.out]; rfl)
                          go_wp2_with fail
                          go_roundw
                          case rel => exact ⟨c + 1, by omega, by omega, by go_num, congrArg Value.bool HE.out, HW8⟩
                          case measure => simp [intOf]; omega
                        | false =>
                          have HE := hid (show y = behindTo rl.R way a (c + 1) by rw [HS.out]; rfl)
                          go_wp2_with fail
                          go_roundw
                          case rel => exact ⟨c + 1, by omega, by omega, by go_num, congrArg Value.bool HE.out, HW8⟩
                          case measure => simp [intOf]; omega
                      · obtain rfl : c = m + 2 := by omega
                        obtain ⟨x2, hx2⟩ : ∃ x2, x2 = behindTo rl.R way a (m + 2) := ⟨_, rfl⟩
                        have HX2 := hid hx2
                        rw [← hx2]
                        clear hx2
                        have hap := apAt_to l hide i rl
                        rw [← HWE.out, HWL2.out, ← HA.out, ← HX.out, ← HX2.out] at hap
                        have HAP := hid hap
                        have HI8 := hid (show OutI w8 (z + 2) n j i rs l hide from HI.out.keep (HW8.out.block _ (by obtain ⟨os, a, _⟩ := HI.out; exact a.lt)))
                        have HH8 := hid (show w5.grownBy w8 (some (z + 2)) from grown_below HH.out HW8.out)
                        clear hap
                        cases x with
                        | false =>
                          have HN := hid (HI8.out.skip (outR_no HRL.out HHF.out (by rw [HAP.out]; rfl)))
                          go_wp2_with fail
                          go_roundw
                          case rel => exact ⟨i + 1, by omega, by go_num, HN, HH8⟩
                          case measure => simp [intOf]; omega
                        | true =>
                          cases x2 with
                          | false =>
                            have HN := hid (HI8.out.skip (outR_no HRL.out HHF.out (by rw [HAP.out]; rfl)))
                            go_wp2_with fail
                            go_roundw
                            case rel => exact ⟨i + 1, by omega, by go_num, HN, HH8⟩
                            case measure => simp [intOf]; omega
                          | true =>
                            have HN := hid (HI8.out.put hlt (outR_yes HRL.out HHF.out (by rw [HAP.out]; rfl)))
                            obtain ⟨v9, hc9, hf9⟩ := HI8.out.cell hlt
                            have HH9 := hid (grown_setCell HH8.out i (.int .i64 j))
                            go_wp2_with fail
                            go_roundw
                            case rel => exact ⟨i + 1, by omega, by go_num, HN, HH9⟩
                            case measure => simp [intOf]; omega
            · obtain rfl : n = i := by omega
              have HL := hid HI.out.last
              go_wp2_with fail
              go_roundw
              case rel => exact ⟨j, by omega, rfl, HL, HG6⟩
              case measure => simp [intOf]
end Go.Proofs.Ytjcdcmeclnihbaa
