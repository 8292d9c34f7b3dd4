/- Where there are breaks: the program's Breaks. Condition: at most 900 places. -/
import Derived.Test.YtjcdcmeclnihbaaWh
namespace Go.Proofs.Ytjcdcmeclnihbaa
open Go.RowKit
theorem idx_bd {T : Type} (p : T → Bool) (l : List T) : ∀ k : Nat, idx p k l = -1 ∨ ∃ j : Nat, idx p k l = (j : Int) ∧ k ≤ j ∧ j < k + l.length := by
  induction l with
  | nil => intro k; exact .inl rfl
  | cons x r ih =>
    intro k
    simp only [idx]
    split
    · exact .inr ⟨k, rfl, Nat.le_refl _, by simp⟩
    · rcases ih (k + 1) with h | ⟨j, h, h1, h2⟩
      · exact .inl h
      · exact .inr ⟨j, h, by omega, by simp; omega⟩
def ruleBr {d : Nat} (rs : List (Rl d)) (z : Int) : Bool := (rs[z.toNat]?.map (fun r => r.br)).getD false
/-- Whether there is a break at a place. -/
def brAt {d : Nat} (rs : List (Rl d)) (l : List Int) (hide : List Bool) (i : Nat) : Bool :=
  if i = 0 ∨ i = l.length then true else if nthB hide i = true then false else decide (atI rs l hide i < 0) || ruleBr rs (atI rs l hide i)
def brL {d : Nat} (rs : List (Rl d)) (l : List Int) (hide : List Bool) : List Bool := (List.range (l.length + 1)).map (brAt rs l hide)
def brTo {d : Nat} (rs : List (Rl d)) (l : List Int) (hide : List Bool) (k : Nat) : List Bool := (List.range k).map (brAt rs l hide) ++ noB (l.length + 1 - k)
theorem brTo_len {d : Nat} {rs : List (Rl d)} {l : List Int} {hide : List Bool} {k : Nat} (hk : k ≤ l.length + 1) : (brTo rs l hide k).length = l.length + 1 := by simp [brTo, noB]; omega
theorem brTo_set {d : Nat} {rs : List (Rl d)} {l : List Int} {hide : List Bool} {k : Nat} {v : Bool} (hk : k < l.length + 1) (hv : v = brAt rs l hide k) : brTo rs l hide (k + 1) = (brTo rs l hide k).set k v := by
  unfold brTo
  rw [List.set_append_right _ _ (by simp)]
  simp only [List.length_map, List.length_range, Nat.sub_self]
  unfold noB
  rw [show l.length + 1 - k = (l.length + 1 - (k + 1)) + 1 by omega, List.replicate_succ, List.set_cons_zero, List.range_succ, List.map_append, List.append_assoc, hv]
  rfl
theorem brTo_skip {d : Nat} {rs : List (Rl d)} {l : List Int} {hide : List Bool} {k : Nat} (hk : k < l.length + 1) (hv : brAt rs l hide k = false) : brTo rs l hide (k + 1) = brTo rs l hide k := by
  unfold brTo noB
  rw [show l.length + 1 - k = (l.length + 1 - (k + 1)) + 1 by omega, List.replicate_succ, List.range_succ, List.map_append, List.append_assoc]
  simp [hv]
theorem brTo_all {d : Nat} {rs : List (Rl d)} {l : List Int} {hide : List Bool} : brTo rs l hide (l.length + 1) = brL rs l hide := by
  unfold brTo brL noB
  rw [Nat.sub_self, List.replicate_zero, List.append_nil]
def breaksP {d : Nat} (t : Tx d) (ids : List Int) : List Bool := brL (knownT t).rs (ids.map classOf) (hidL (knownT t).ig (knownT t).kp (ids.map classOf))
set_option maxRecDepth 100000 in
set_option maxHeartbeats 8000000 in
theorem Breaks_any (d : Nat) (v lv : Value) (t : Tx d) (ids : List Int) (w : World) (h : IsTx w Any d v t) (hl : IsNums .i64 w Any lv ids) (hn : ids.length ≤ 900) :
    Calls Try.prog 13 #[v, lv] w fun e w' => ∃ v', e = .returned v' ∧ IsBools w' (fun b => w.heap.size ≤ b) v' (breaksP t ids) ∧ Below w.heap.size w w' := by
  have H := hid (h.imp (w' := w) (S' := fun b => b < w.heap.size) (fun _ _ _ => rfl) fun _ _ hlt => hlt)
  obtain ⟨I, ic, K, kc, A, c, rfl, -, -, -, -, -, -⟩ := h.open
  clear h
  obtain ⟨M, cm, rfl⟩ := hl.form
  have HM := hid hl
  have HN := hid hn
  clear hl hn
  obtain ⟨q, hq⟩ : ∃ q, q = w.heap.size := ⟨_, rfl⟩
  have HQ := hid hq
  obtain ⟨W, hW0⟩ : ∃ W, W = w.alloc (.cells #[.slice I t.ig.length ic, .slice K t.kp.length kc, .slice A t.rs.length c] 33) := ⟨_, rfl⟩
  have HX := hid (box3 hW0)
  have HBX := hid (show W.heap[q]? = some (.cells #[.slice I t.ig.length ic, .slice K t.kp.length kc, .slice A t.rs.length c] 33 (0, 0)) by rw [hW0, hq]; exact heap_alloc_new _ _)
  have HT := hid (H.out.below HX.out.1)
  clear H
  go_enter Try.func13, Try.ntmps13
  go_wp2_with fail
  rw [← hW0, ← hq]
  refine (known_any (fun b => b < w.heap.size) d _ t W HT.out).mono ?_
  rintro e w1 ⟨v1, rfl, ht1, hb1⟩
  obtain ⟨t1, hte⟩ : ∃ t1, t1 = knownT t := ⟨_, rfl⟩
  have HTE := hid hte
  rw [← hte] at ht1
  have HT1 := hid ht1
  obtain ⟨I1, ic1, K1, kc1, A1, c1, rfl, -, -, -, -, -, -⟩ := ht1.open
  have HB1 := hid (show Below q w w1 by rw [HQ.out]; exact HX.out.1.trans (hb1.mono HX.out.1.size))
  have HX1 := hid ((hb1.block q (by have := (Array.getElem?_eq_some_iff.1 HBX.out).1; omega)).trans HBX.out)
  clear ht1 hb1 hW0 hq hte
  obtain ⟨h0, h1, h2, hf⟩ := slot3 HX1.out
  have hf0 := hf 0
  have hf1 := hf 1
  have hf2 := hf 2
  clear hf
  go_wp2_with fail
  obtain ⟨w2, hw2⟩ : ∃ w2, w2 = (((w1.setCell ⟨q, 0, none⟩ (.slice I1 t1.ig.length ic1)).setCell ⟨q, 1, none⟩ (.slice K1 t1.kp.length kc1)).setCell ⟨q, 2, none⟩ (.slice A1 t1.rs.length c1)) := ⟨_, rfl⟩
  have HX2 := hid (show w2.heap[q]? = some (.cells #[.slice I1 t1.ig.length ic1, .slice K1 t1.kp.length kc1, .slice A1 t1.rs.length c1] 33 (0, 0)) by rw [hw2]; exact put3 _ _ _ HX1.out)
  have HB2 := hid (show Below q w w2 by rw [hw2]; exact put3_below HB1.out (Nat.le_refl _))
  have HB2' := hid (show Below w.heap.size w w2 by rw [← HQ.out]; exact HB2.out)
  have HT2 := hid (show IsTx w2 Any d (.agg #[.slice I1 t1.ig.length ic1, .slice K1 t1.kp.length kc1, .slice A1 t1.rs.length c1]) t1 from HT1.out.imp (fun b hb _ => by rw [hw2]; exact put3_keep (by rw [HQ.out]; omega)) fun _ _ _ => trivial)
  rw [← hw2]
  clear hw2 h0 h1 h2 hf0 hf1 hf2
  refine (classes_any Any _ ids w2 (HM.out.below HB2'.out) (by have := HN.out; omega)).mono ?_
  rintro e w3 ⟨v3, rfl, hv3, hb3⟩
  obtain ⟨l, hle⟩ : ∃ l, l = ids.map classOf := ⟨_, rfl⟩
  have hll : l.length = ids.length := by rw [hle]; simp
  rw [← hle] at hv3
  have HV3 := hid (hv3.mono (S' := Any) fun _ _ _ => trivial)
  obtain ⟨L3, c3, rfl⟩ := hv3.form
  have HX3 := hid ((hb3.block q (Array.getElem?_eq_some_iff.1 HX2.out).1).trans HX2.out)
  have HT3 := hid (HT2.out.below hb3)
  have HB3 := hid (HB2'.out.trans (hb3.mono HB2'.out.size))
  have HLL := hid hll
  have HLE := hid hle
  clear hv3 hb3 hle hll
  obtain ⟨n, hnn⟩ : ∃ n, n = l.length := ⟨_, rfl⟩
  have HNN := hid hnn
  have hn9 : n ≤ 900 := by rw [hnn, HLL.out]; exact HN.out
  rw [← hnn]
  clear hnn
  obtain ⟨h0, h1, h2, -⟩ := slot3 HX3.out
  go_wp2_with fail
  refine (hidden_any d _ _ t1 l w3 HT3.out (show IsNums .i64 w3 Any (.slice L3 n c3) l by have h := HV3.out; rw [← HNN.out] at h; exact h) (by rw [← HNN.out]; omega)).mono ?_
  rintro e w4 ⟨v4, rfl, hv4, hb4⟩
  obtain ⟨hide, hhe⟩ : ∃ hide, hide = hidL t1.ig t1.kp l := ⟨_, rfl⟩
  have HHL := hid (show hide.length = n by rw [hhe, hidL_len, HNN.out])
  rw [← hhe] at hv4
  have HV4 := hid (hv4.mono (S' := Any) fun _ _ _ => trivial)
  obtain ⟨H4, c4, rfl, -, -⟩ := hv4.open
  have HX4 := hid ((hb4.block q (Array.getElem?_eq_some_iff.1 HX3.out).1).trans HX3.out)
  have HT4 := hid (HT3.out.below hb4)
  have HL4 := hid ((show IsNums .i64 w3 Any (.slice L3 n c3) l by have h := HV3.out; rw [← HNN.out] at h; exact h).below hb4)
  have HB4 := hid (HB3.out.trans (hb4.mono HB3.out.size))
  have hh4 : hide.length = n := HHL.out
  rw [hh4]
  have HRES := hid (show breaksP t ids = brL t1.rs l hide by unfold breaksP; rw [← HTE.out, ← HLE.out, ← hhe])
  clear hv4 hb4 hhe h0 h1 h2 hh4
  have hmk := run_make_bools .i64 .i64 (n + 1) (by omega)
  have ec : ((n + 1 : Nat) : Int) = (n : Int) + 1 := by omega
  rw [ec] at hmk
  clear ec
  obtain ⟨W5, hW5⟩ : ∃ W5, W5 = w4.alloc (.cells (Array.replicate (n + 1) (Value.bool false)) 4) := ⟨_, rfl⟩
  have HB45 := hid (show Below w4.heap.size w4 W5 by rw [hW5]; exact (Below.refl _ _).alloc (Nat.le_refl _) _)
  obtain ⟨g, hg⟩ : ∃ g, g = w4.heap.size := ⟨_, rfl⟩
  have HGE := hid hg
  have HG5 := hid (show BoolBlk W5 g (brTo t1.rs l hide 0) by
    unfold BoolBlk brTo noB
    rw [hW5, hg]
    simp only [List.range_zero, List.map_nil, List.nil_append, Nat.sub_zero]
    rw [rep_bools, ← HNN.out]
    exact heap_alloc_new _ _)
  go_wp2_with fail
  rw [← hW5, ← hg]
  clear hW5 hg hmk
  go_loopw [8, 9, 23, 26, 38] (fun _ _ s23 _ _ wr => ∃ k : Nat, k ≤ n + 1 ∧ s23 = .int .i64 k ∧ Hid (BoolBlk wr g (brTo t1.rs l hide k)) ∧ Hid (Below w4.heap.size w4 wr)) (fun _ _ s23 _ _ _ => n + 1 - (intOf s23).toNat)
  case atStart => exact ⟨0, by omega, rfl, HG5, HB45⟩
  case round =>
    obtain ⟨k, hk, rfl, HG, HW⟩ := hrel
    by_cases hlt : k < n + 1
    · have hltI : (k : Int) < (n : Int) + 1 := by omega
      have hku : k < (brTo t1.rs l hide k).length := by rw [brTo_len (by rw [← HNN.out]; exact hk)]; rw [← HNN.out]; exact hlt
      have hcg := HG.out.cell hku
      have hfg := HG.out.frozen k
      obtain ⟨y, hy⟩ : ∃ y, y = nthB (brTo t1.rs l hide k) k := ⟨_, rfl⟩
      rw [← hy] at hcg
      have HSET := hid (fun (Y : World) (x : Bool) (hY : BoolBlk Y g (brTo t1.rs l hide k)) (hx : x = brAt t1.rs l hide k) => (show BoolBlk (Y.setCell ⟨g, k, none⟩ (.bool x)) g (brTo t1.rs l hide (k + 1)) by rw [brTo_set (by rw [← HNN.out]; exact hlt) hx]; exact hY.set k x))
      have HWS := hid (fun (Y : World) (x : Bool) (hY : Below w4.heap.size w4 Y) => hY.setCell (p := ⟨g, k, none⟩) (by rw [HGE.out]; exact Nat.le_refl _) (.bool x))
      clear hku hy
      by_cases hk0 : k = 0
      · subst hk0
        have HN := hid (HSET.out wr true HG.out (by unfold brAt; rw [if_pos (.inl rfl)]))
        have HN2 := hid (HWS.out wr true HW.out)
        go_wp2_with fail
        go_roundw
        case rel => exact ⟨1, by omega, by go_num, HN, HN2⟩
        case measure => simp [intOf] <;> omega
      by_cases hkn : k = n
      · have HN := hid (HSET.out wr true HG.out (by unfold brAt; rw [if_pos (.inr (by rw [← HNN.out]; exact hkn))]))
        have HN2 := hid (HWS.out wr true HW.out)
        subst hkn
        go_wp2_with fail
        go_roundw
        case rel => exact ⟨k + 1, by omega, by go_num, HN, HN2⟩
        case measure => simp [intOf] <;> omega
      have hkl : k < n := by omega
      have bk0 : ((k : Int) == 0) = false := ieq_false (by omega)
      have bkn : ((k : Int) == (n : Int)) = false := ieq_false (by omega)
      have bkn2 : (k == n) = false := by simpa using hkn
      have bk02 : (k == 0) = false := by simpa using hk0
      have HKK := hid (And.intro (show 0 < k by omega) hkl)
      have hbrA := hid (show brAt t1.rs l hide k = if nthB hide k = true then false else decide (atI t1.rs l hide k < 0) || ruleBr t1.rs (atI t1.rs l hide k) by unfold brAt; rw [if_neg (by rw [← HNN.out]; omega)])
      obtain ⟨B4, cb4, heB, -, hA4⟩ := (HV4.out.below HW.out).open
      rw [HHL.out] at heB
      obtain ⟨rfl, rfl⟩ : H4 = B4 ∧ c4 = cb4 := by simpa using heB
      obtain ⟨bh, oh, rfl, -, -, hch⟩ := hA4.bool (j := k) (by rw [HHL.out]; exact hkl)
      have HHB := hid (show IsBools w4 Any (.slice (some ⟨bh, oh, none⟩) hide.length c4) hide by have h := HV4.out; exact h)
      clear heB hA4
      cases hb : nthB hide k with
      | true =>
        rw [hb] at hch
        have HN := hid (show BoolBlk wr g (brTo t1.rs l hide (k + 1)) by rw [brTo_skip (by rw [← HNN.out]; exact hlt) (by rw [hbrA.out, if_pos hb])]; exact HG.out)
        clear hb
        go_wp2_with fail
        go_roundw
        case rel => exact ⟨k + 1, by omega, by go_num, HN, HW⟩
        case measure => simp [intOf] <;> omega
      | false =>
        rw [hb] at hch
        have HHF := hid hb
        obtain ⟨bl, ol, cl', hel, -, -, -⟩ := HL4.out.at (j := k) (by rw [← HNN.out]; exact hkl)
        obtain ⟨rfl, -⟩ : L3 = some ⟨bl, ol, none⟩ ∧ True := by simpa using (show L3 = some ⟨bl, ol, none⟩ by injection hel)
        have HLI := hid (show IsNums .i64 w4 Any (.slice (some ⟨bl, ol, none⟩) l.length c3) l by have h := HL4.out; rw [HNN.out] at h; exact h)
        have HX5 := hid ((HW.out.block q (Array.getElem?_eq_some_iff.1 HX4.out).1).trans HX4.out)
        obtain ⟨h0, h1, h2, -⟩ := slot3 HX5.out
        have hAT := at_any d _ t1 bl ol c3 bh oh c4 l hide k wr (HT4.out.below HW.out) (HLI.out.below HW.out) (HHB.out.below HW.out) (by rw [HHL.out, HNN.out]) HKK.out.1 (by rw [← HNN.out]; exact HKK.out.2) HHF.out (by rw [← HNN.out]; exact hn9)
        rw [HHL.out, ← HNN.out] at hAT
        have HAT := hid hAT
        obtain ⟨z, hz⟩ : ∃ z, z = atI t1.rs l hide k := ⟨_, rfl⟩
        have HZ := hid hz
        have HBA := hid (show brAt t1.rs l hide k = (decide (z < 0) || ruleBr t1.rs z) by rw [hbrA.out, if_neg (by rw [hb]; simp), hz])
        have hzb : z = -1 ∨ ∃ j : Nat, z = (j : Int) ∧ j < t1.rs.length := by
          rw [hz]
          rcases idx_bd (fun r => appliesB r (leftOf l hide k) (rightOf l hide k)) t1.rs 0 with h | ⟨j, h, _, h2⟩
          · exact .inl h
          · exact .inr ⟨j, h, by omega⟩
        clear hb hel hAT hz
        rcases hzb with rfl | ⟨j, rfl, hj⟩
        · have HN := hid (fun Y hY => HSET.out Y true hY (by rw [HBA.out]; rfl))
          go_wp2_with fail
          refine HAT.out.mono ?_
          rintro e w5 ⟨rfl, hb5⟩
          rw [← HZ.out]
          have HG6 := hid (HG.out.below hb5)
          have HW6 := hid (HW.out.trans (hb5.mono HW.out.size))
          have hcg := HG6.out.cell (j := k) (by rw [brTo_len (by rw [← HNN.out]; exact hk)]; rw [← HNN.out]; exact hlt)
          have hfg := HG6.out.frozen k
          obtain ⟨y2, hy2⟩ : ∃ y, y = nthB (brTo t1.rs l hide k) k := ⟨_, rfl⟩
          rw [← hy2] at hcg
          have HN3 := hid (HN.out w5 HG6.out)
          have HN4 := hid (HWS.out w5 true HW6.out)
          clear hb5 hy2 h0 h1 h2 hch
          go_wp2_with fail
          go_roundw
          case rel => exact ⟨k + 1, by omega, by go_num, HN3, HN4⟩
          case measure => simp [intOf] <;> omega
        · obtain ⟨I4, ic4, K4, kc4, A4, cc4, he4, -, -, -, -, -, hA7⟩ := HT4.out.open
          simp only [Value.agg.injEq, Array.mk.injEq, List.cons.injEq, Value.slice.injEq, and_true, true_and] at he4
          obtain ⟨⟨rfl, rfl⟩, ⟨rfl, rfl⟩, rfl, rfl⟩ := he4
          obtain ⟨b7, o7, k0, k1, A0, n0, p0, j0, j1, A1', n1, p1, rfl, -, hb7, d0, d1, d2, d3, d4, d5, d6, -, -⟩ := hA7.at (List.getElem?_eq_getElem hj)
          have HD6 := hid (show ∀ Y, Below w4.heap.size w4 Y → Y.cell? ⟨b7, o7 + j * 7 + 6, none⟩ = some (.bool t1.rs[j].br) from fun Y hY => (cell_same (hY.block b7 hb7)).trans d6)
          have hrb : ruleBr t1.rs (j : Int) = t1.rs[j].br := by unfold ruleBr; rw [Int.toNat_natCast, List.getElem?_eq_getElem hj]; rfl
          obtain ⟨br, hbr⟩ : ∃ br, br = t1.rs[j].br := ⟨_, rfl⟩
          rw [← hbr] at HD6 hrb
          have HN := hid (fun Y hY => HSET.out Y br hY (by rw [HBA.out, hrb, decide_eq_false (by omega)]; rfl))
          clear d0 d1 d2 d3 d4 d5 d6 hA7 hbr hrb
          go_wp2_with fail
          refine HAT.out.mono ?_
          rintro e w5 ⟨rfl, hb5⟩
          rw [← HZ.out]
          have HG6 := hid (HG.out.below hb5)
          have HW6 := hid (HW.out.trans (hb5.mono HW.out.size))
          have hcg := HG6.out.cell (j := k) (by rw [brTo_len (by rw [← HNN.out]; exact hk)]; rw [← HNN.out]; exact hlt)
          have hfg := HG6.out.frozen k
          obtain ⟨y2, hy2⟩ : ∃ y, y = nthB (brTo t1.rs l hide k) k := ⟨_, rfl⟩
          rw [← hy2] at hcg
          have hd6 := HD6.out w5 HW6.out
          have HX6 := hid ((HW6.out.block q (Array.getElem?_eq_some_iff.1 HX4.out).1).trans HX4.out)
          clear h0 h1 h2
          obtain ⟨h0, h1, h2, -⟩ := slot3 HX6.out
          have HN3 := hid (HN.out w5 HG6.out)
          have HN4 := hid (HWS.out w5 br HW6.out)
          clear hb5 hy2 hch
          go_wp2_with fail
          go_roundw
          case rel => exact ⟨k + 1, by omega, by go_num, HN3, HN4⟩
          case measure => simp [intOf] <;> omega
    · obtain rfl : k = n + 1 := by omega
      have HE := hid (show BoolBlk wr g (breaksP t ids) by rw [HRES.out, ← brTo_all, ← HNN.out]; exact HG.out)
      have hlen : (breaksP t ids).length = n + 1 := by rw [HRES.out, ← brTo_all, brTo_len (Nat.le_refl _), HNN.out]
      have hltI : ¬ ((n : Int) + 1 < (n : Int) + 1) := by omega
      go_wp2_with fail
      go_ret
      have hb := HE.out.bools (by rw [hlen]; omega)
      rw [hlen] at hb
      exact ⟨_, rfl, hb.mono (fun b' hb' _ => by rw [hb', HGE.out]; exact HB4.out.size), HB4.out.trans (HW.out.mono HB4.out.size)⟩
end Go.Proofs.Ytjcdcmeclnihbaa
