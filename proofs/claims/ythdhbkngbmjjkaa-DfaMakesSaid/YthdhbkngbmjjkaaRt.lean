/- What a set becomes behind a mark: the document's Step. Conditions: not too many places. -/
import Derived.Test.YthdhbkngbmjjkaaRi
import Derived.Test.YthdhbkngbmjjkaaDm
namespace Go.Proofs.Ythdhbkngbmjjkaa
open Go.RowKit
set_option linter.unusedSimpArgs false
/-- The document's places, made. -/
def Rf (w : World) (a : Nat) (search : Bool) (F L : List Int) (e : Nat) (s : Rs) : Prop := ∃ B v1 v2 v5 fV lV, RA w B a v1 v2 v5 (.bool search, fV, lV, .int .u64 (e : Int)) s ∧ IsNums .i64 w Any fV F ∧ IsNums .i64 w Any lV L
theorem Rf.below {w w' : World} {a : Nat} {search : Bool} {F L : List Int} {e : Nat} {s : Rs} (h : Rf w a search F L e s) (hb : Below w.heap.size w w') : Rf w' a search F L e s := by
  obtain ⟨B, v1, v2, v5, fV, lV, h1, h2, h3⟩ := h
  exact ⟨B, v1, v2, v5, fV, lV, h1.below hb, h2.below hb, h3.below hb⟩
theorem prs_at : ∀ (l : List (Int × Int)) (i : Nat) (z : Int × Int), l[i]? = some z → (l.flatMap twoV)[i * 2]? = some (.int .i64 z.1) ∧ (l.flatMap twoV)[i * 2 + 1]? = some (.int .i64 z.2)
  | [], i, z, h => by simp at h
  | x :: r, 0, z, h => by simp at h; subst h; simp [twoV]
  | x :: r, i + 1, z, h => by
    have ih := prs_at r i z (by simpa using h)
    have e1 : (x :: r).flatMap twoV = [.int .i64 x.1, .int .i64 x.2] ++ r.flatMap twoV := by simp [twoV]
    rw [e1]
    refine ⟨?_, ?_⟩
    · rw [List.getElem?_append_right (by simp; omega)]
      simp only [List.length_cons, List.length_nil]
      rw [show (i + 1) * 2 - (0 + 1 + 1) = i * 2 by omega]; exact ih.1
    · rw [List.getElem?_append_right (by simp; omega)]
      simp only [List.length_cons, List.length_nil]
      rw [show (i + 1) * 2 + 1 - (0 + 1 + 1) = i * 2 + 1 by omega]; exact ih.2
/-- Whether a place may come next, by the first so many pairs. -/
def mayI (s : Rs) (F X : List Int) (k : Int) (i : Nat) : Bool := (decide (0 ∈ X) && decide (k ∈ F)) || (s.prs.take i).any fun z => decide (z.2 = k) && decide (z.1 ∈ X)
def stepR (search : Bool) (s : Rs) (F X : List Int) (m : Int) : Nat → List Int
  | 0 => if search then [0] else []
  | k + 1 => if mayI s F X ((k + 1 : Nat) : Int) s.prs.length && takesB (s.lv[k]?.getD (0, 0)).1 (s.lv[k]?.getD (0, 0)).2 m then stepR search s F X m k ++ [((k + 1 : Nat) : Int)] else stepR search s F X m k
theorem stepR_len (search : Bool) (s : Rs) (F X : List Int) (m : Int) : ∀ k, (stepR search s F X m k).length ≤ k + 1
  | 0 => by simp only [stepR]; split <;> simp
  | k + 1 => by
    have := stepR_len search s F X m k
    simp only [stepR]
    split
    · rw [List.length_append, List.length_singleton]; omega
    · omega
theorem may_more {s : Rs} {F X : List Int} {k : Int} {i : Nat} {z : Int × Int} (h : s.prs[i]? = some z) : mayI s F X k (i + 1) = (mayI s F X k i || (decide (z.2 = k) && decide (z.1 ∈ X))) := by
  obtain ⟨hi, e⟩ := List.getElem?_eq_some_iff.1 h
  unfold mayI
  rw [List.take_succ_eq_append_getElem hi, List.any_append, e]
  simp [Bool.or_assoc]
theorem may_up {s : Rs} {F X : List Int} {k : Int} {i : Nat} (h : mayI s F X k i = true) : mayI s F X k s.prs.length = true := by
  unfold mayI at h ⊢
  rw [Bool.or_eq_true] at h ⊢
  rcases h with h | h
  · exact .inl h
  · right
    rw [List.take_length]
    obtain ⟨z, hz, h2⟩ := List.any_eq_true.1 h
    exact List.any_eq_true.2 ⟨z, List.mem_of_mem_take hz, h2⟩
set_option maxRecDepth 100000 in
set_option maxHeartbeats 8000000 in
theorem rstep_false {a : Nat} {F L : List Int} {e : Nat} {s : Rs} {S : Nat → Prop} {vX : Value} {X : List Int} {m : Int} {w : World} (h : Rf w a false F L e s) (hX : IsNums .i64 w S vX X) (hk : ∀ x ∈ s.lv, 0 ≤ x.1 ∧ x.1 ≤ 3) (hn : s.lv.length ≤ 1000) (hp : s.prs.length ≤ 20000000) :
    Calls Try.prog 25 #[.pointer (some ⟨a, 0, none⟩), vX, .int .i64 m] w fun e w' => ∃ v', e = .returned v' ∧ IsNums .i64 w' (fun b => w.heap.size ≤ b) v' (stepR false s F X m s.lv.length) ∧ Below w.heap.size w w' := by
  obtain ⟨B, v1, v2, v5, fV, lV, hra, hF, hL⟩ := h
  obtain ⟨xA, xc, rfl⟩ := hX.form
  obtain ⟨f, hlf⟩ := hra.2.2.1
  obtain ⟨A1, c1, rfl, -⟩ := own_arr hlf
  obtain ⟨A5, c5, rfl, -⟩ := own_arr hra.2.2.2.2
  obtain ⟨fA, fc, rfl⟩ := hF.form
  obtain ⟨n, hnn⟩ : ∃ n, n = s.lv.length := ⟨_, rfl⟩
  obtain ⟨np, hnp⟩ : ∃ np, np = s.prs.length := ⟨_, rfl⟩
  have HN := hid hnn
  have HNP := hid hnp
  rw [← hnn] at hra hlf hn ⊢
  rw [← hnp] at hra hp
  have HX := hid hX
  have HF := hid hF
  have HK := hid hk
  have hblk := hra.2.1
  have HA := hid (show ∀ Y, Below w.heap.size w Y → Y.cell? ⟨a, 0, none⟩ = some (.bool false) ∧ Y.cell? ⟨a, 1, none⟩ = some (.slice A1 n c1) ∧ Y.cell? ⟨a, 3, none⟩ = some (.slice fA F.length fc) ∧ Y.cell? ⟨a, 5, none⟩ = some (.slice A5 np c5) from fun Y hY => by
    obtain ⟨a0, a1, -, a3, -, a5, -, -⟩ := slot7 ((hY.block a (Array.getElem?_eq_some_iff.1 hblk).1).trans hblk)
    exact ⟨a0, a1, a3, a5⟩)
  have HLV := hid (show ∀ Y, Below w.heap.size w Y → ∀ k, k < n → ∃ b1 KA k1 k2, A1 = some ⟨b1, 0, none⟩ ∧ Y.cell? ⟨b1, k * 3, none⟩ = some (.int .i64 (s.lv[k]?.getD (0, 0)).1) ∧ Y.cell? ⟨b1, k * 3 + 1, none⟩ = some (.int .i64 (s.lv[k]?.getD (0, 0)).2) ∧ Y.cell? ⟨b1, k * 3 + 2, none⟩ = some (.slice KA k1 k2) from fun Y hY k hk => by
    have hlf' := hlf.kept (grown_of_below hY none) (Classical.em _)
    obtain ⟨b1, rfl⟩ : ∃ b1, A1 = some ⟨b1, 0, none⟩ := by
      rcases hlf.2 with ⟨-, h0⟩ | ⟨b1, cap, cur, e, -⟩
      · omega
      · injection e with e; exact ⟨b1, e⟩
    have hc := fun j hj => (hlf'.cellAt (k * 3 + j) (by omega)).trans (flat3_at (f := lfR s.lv f) (n := n) (i := k) (j := j) hk hj)
    exact ⟨b1, _, _, _, rfl, hc 0 (by omega), hc 1 (by omega), hc 2 (by omega)⟩)
  have hp5 : w.ownsRow B 101 2 (.slice A5 np c5) np (s.prs.flatMap twoV) := by
    have h := hra.2.2.2.2
    rw [← hnp] at h
    exact h
  have HPV := hid (show ∀ Y, Below w.heap.size w Y → ∀ i z, s.prs[i]? = some z → ∃ b5, A5 = some ⟨b5, 0, none⟩ ∧ Y.cell? ⟨b5, i * 2, none⟩ = some (.int .i64 z.1) ∧ Y.cell? ⟨b5, i * 2 + 1, none⟩ = some (.int .i64 z.2) from fun Y hY i z hz => by
    have hp5' := hp5.kept (grown_of_below hY none) (Classical.em _)
    have hi := (List.getElem?_eq_some_iff.1 hz).1
    obtain ⟨b5, rfl⟩ : ∃ b5, A5 = some ⟨b5, 0, none⟩ := by
      rcases hp5.2 with ⟨-, h0⟩ | ⟨b5, cap, cur, e, -⟩
      · omega
      · injection e with e; exact ⟨b5, e⟩
    obtain ⟨p1, p2⟩ := prs_at s.prs i z hz
    exact ⟨b5, rfl, (hp5'.cellAt (i * 2) (by omega)).trans p1, (hp5'.cellAt (i * 2 + 1) (by omega)).trans p2⟩)
  obtain ⟨N, hNN⟩ : ∃ N, N = w.heap.size := ⟨_, rfl⟩
  have HNN := hid hNN
  obtain ⟨a0, a1, a3, a5⟩ := HA.out w (Below.refl _ _)
  clear hra hlf hF hL hX hk hblk hp5 hnn hnp hNN
  have HOW := hid (show w.ownsRow N 3 1 (.slice none 0 0) (stepR false s F X m 0).length ((stepR false s F X m 0).map (.int .i64)) from World.ownsRow_nil _ _ _ _)
  have HBW := hid (Below.refl N w)
  go_enter Try.func25, Try.ntmps25
  go_wp2_with fail
  clear a0 a1 a3 a5
  go_loopw [7, 8] (fun s7 s8 wr => ∃ (k : Nat), k ≤ n ∧ s8 = .int .i64 ((k : Int) + 1) ∧ Hid (wr.ownsRow N 3 1 s7 (stepR false s F X m k).length ((stepR false s F X m k).map (.int .i64))) ∧ Hid (Below N w wr)) (fun _ s8 _ => n + 1 - (intOf s8).toNat)
  case atStart => exact ⟨0, by omega, rfl, HOW, HBW⟩
  case round =>
    clear HOW HBW
    obtain ⟨k, hk, rfl, HO, HB⟩ := hrel
    have HBX := hid (show Below w.heap.size w wr by rw [← HNN.out]; exact HB.out)
    have HSZ := hid (show N ≤ wr.heap.size by rw [HNN.out]; exact HB.out.size)
    obtain ⟨a0, a1, a3, a5⟩ := HA.out wr HBX.out
    by_cases hlt : k < n
    · obtain ⟨b1, KA, k1, k2, rfl, l0, l1, l2⟩ := HLV.out wr HBX.out k hlt
      obtain ⟨kd, hkd⟩ : ∃ kd, kd = (s.lv[k]?.getD (0, 0)).1 := ⟨_, rfl⟩
      obtain ⟨cl, hcl⟩ : ∃ cl, cl = (s.lv[k]?.getD (0, 0)).2 := ⟨_, rfl⟩
      have HK3 := hid (show 0 ≤ kd ∧ kd ≤ 3 from by
        have hk' : k < s.lv.length := by rw [← HN.out]; exact hlt
        have := HK.out s.lv[k] (List.getElem_mem hk')
        rw [hkd, List.getElem?_eq_getElem hk']; exact this)
      have HKD := hid (show takesB kd cl m = takesB (s.lv[k]?.getD (0, 0)).1 (s.lv[k]?.getD (0, 0)).2 m by rw [hkd, hcl])
      rw [← hkd] at l0
      rw [← hcl] at l1
      clear hkd hcl
      cases hz : decide ((0 : Int) ∈ X) with
      | false =>
        have HZ := hid hz
        clear hz
        go_wp2_with fail
        refine (rin_any S _ X 0 wr (HX.out.below HBX.out)).mono ?_
        rintro e w2 ⟨rfl, rfl⟩
        rw [HZ.out]
        go_wp2_with fail
        have HM0 := hid (show false = mayI s F X ((k : Int) + 1) 0 by unfold mayI; rw [HZ.out]; simp)
        go_loop [9, 10] (fun s9 s10 => ∃ (i : Nat) (b : Bool), i ≤ np ∧ s10 = .int .i64 i ∧ s9 = .bool b ∧ Hid (b = mayI s F X ((k : Int) + 1) i)) (fun _ s10 => np - (intOf s10).toNat)
        case atStart => exact ⟨0, false, by omega, rfl, rfl, HM0⟩
        case round =>
          clear HM0
          obtain ⟨i, b, hi, rfl, rfl, HMI⟩ := hrel
          cases b with
          | true =>
            have HMT := hid (show mayI s F X ((k + 1 : Nat) : Int) s.prs.length = true from may_up HMI.out.symm)
            by_cases hin : i < np
            · clear hi
              go_wp2_with fail
              refine (rtakes_any kd cl m KA k1 k2 _ HK3.out).mono ?_
              rintro e w5 ⟨rfl, hb5⟩
              have HO5 := hid (HO.out.kept (grown_of_below hb5 none) (Classical.em _))
              have HB5 := hid (HB.out.trans (hb5.mono HSZ.out))
              have HS5 := hid (Nat.le_trans HSZ.out hb5.size)
              clear hb5 a0 a1 a3 a5 l0 l1 l2
              cases htk : takesB kd cl m with
              | true =>
                have HSN := hid (show stepR false s F X m (k + 1) = stepR false s F X m k ++ [(k : Int) + 1] by simp only [stepR]; rw [← HKD.out, HMT.out, htk]; rfl)
                clear htk
                go_wp2_with (first
                  | (at_builtin; refine wpList_app_int rfl (.tmp 83) (.tmp 85) rfl (w0 := w5) (z := (k : Int) + 1) rfl rfl HO5.out rfl (by have := stepR_len false s F X m k; omega) HS5.out ?_; intro A7 c7 w7 hown7 hg7; have HO7 := hid (show OwnI w7 N _ (stepR false s F X m (k + 1)) by rw [HSN.out]; exact hown7); have HB7 := hid (below_own (HB5.out.alloc HS5.out _) (HO5.out.alloc (.cells #[.int .i64 ((k : Int) + 1)] 3)) hg7 (Nat.le_trans HS5.out (by simp))); clear hown7 hg7)
                  | fail)
                refine ⟨⟨k + 1, by omega, by go_num, HO7, HB7⟩, by simp [intOf]; omega⟩
              | false =>
                have HSN := hid (show stepR false s F X m (k + 1) = stepR false s F X m k by simp only [stepR]; rw [← HKD.out, HMT.out, htk]; rfl)
                clear htk
                go_wp2_with fail
                refine ⟨⟨k + 1, by omega, by go_num, hid (by rw [HSN.out]; exact HO5.out), HB5⟩, by simp [intOf]; omega⟩
            · clear hi
              go_wp2_with fail
              refine (rtakes_any kd cl m KA k1 k2 _ HK3.out).mono ?_
              rintro e w5 ⟨rfl, hb5⟩
              have HO5 := hid (HO.out.kept (grown_of_below hb5 none) (Classical.em _))
              have HB5 := hid (HB.out.trans (hb5.mono HSZ.out))
              have HS5 := hid (Nat.le_trans HSZ.out hb5.size)
              clear hb5 a0 a1 a3 a5 l0 l1 l2
              cases htk : takesB kd cl m with
              | true =>
                have HSN := hid (show stepR false s F X m (k + 1) = stepR false s F X m k ++ [(k : Int) + 1] by simp only [stepR]; rw [← HKD.out, HMT.out, htk]; rfl)
                clear htk
                go_wp2_with (first
                  | (at_builtin; refine wpList_app_int rfl (.tmp 83) (.tmp 85) rfl (w0 := w5) (z := (k : Int) + 1) rfl rfl HO5.out rfl (by have := stepR_len false s F X m k; omega) HS5.out ?_; intro A7 c7 w7 hown7 hg7; have HO7 := hid (show OwnI w7 N _ (stepR false s F X m (k + 1)) by rw [HSN.out]; exact hown7); have HB7 := hid (below_own (HB5.out.alloc HS5.out _) (HO5.out.alloc (.cells #[.int .i64 ((k : Int) + 1)] 3)) hg7 (Nat.le_trans HS5.out (by simp))); clear hown7 hg7)
                  | fail)
                refine ⟨⟨k + 1, by omega, by go_num, HO7, HB7⟩, by simp [intOf]; omega⟩
              | false =>
                have HSN := hid (show stepR false s F X m (k + 1) = stepR false s F X m k by simp only [stepR]; rw [← HKD.out, HMT.out, htk]; rfl)
                clear htk
                go_wp2_with fail
                refine ⟨⟨k + 1, by omega, by go_num, hid (by rw [HSN.out]; exact HO5.out), HB5⟩, by simp [intOf]; omega⟩
          | false =>
            by_cases hin : i < np
            · obtain ⟨z, hz⟩ : ∃ z, s.prs[i]? = some z := ⟨_, List.getElem?_eq_getElem (by rw [← HNP.out]; exact hin)⟩
              obtain ⟨b5, e5, p0, p1⟩ := HPV.out w2 HBX.out i z hz
              subst e5
              have HMM := hid (may_more (F := F) (X := X) (k := (k : Int) + 1) hz)
              by_cases hzk : z.2 = (k : Int) + 1
              · have hzb := ieq_true hzk
                have HMN := hid (show mayI s F X ((k : Int) + 1) (i + 1) = decide (z.1 ∈ X) by rw [HMM.out, ← HMI.out, decide_eq_true hzk]; simp)
                clear hzk hz
                go_wp2_with fail
                refine (rin_any S _ X z.1 _ (HX.out.below HBX.out)).mono ?_
                rintro e w4 ⟨rfl, rfl⟩
                obtain ⟨b', hb'⟩ : ∃ b', b' = decide (z.1 ∈ X) := ⟨_, rfl⟩
                rw [← hb']
                have HMB := hid (hb'.trans HMN.out.symm)
                clear hb'
                go_wp2_with fail
                go_round
                case rel => exact ⟨i + 1, b', by omega, by go_num, rfl, HMB⟩
                case measure => simp [intOf]; omega
              · have hzb := ieq_false hzk
                have HMN := hid (show mayI s F X ((k : Int) + 1) (i + 1) = false by rw [HMM.out, ← HMI.out, decide_eq_false hzk]; simp)
                clear hzk hz
                go_wp2_with fail
                go_round
                case rel => exact ⟨i + 1, false, by omega, by go_num, rfl, hid HMN.out.symm⟩
                case measure => simp [intOf]; omega
            · obtain rfl : i = np := by omega
              have HSN := hid (show stepR false s F X m (k + 1) = stepR false s F X m k by
                have h1 : mayI s F X ((k + 1 : Nat) : Int) s.prs.length = false := by rw [← HNP.out]; exact HMI.out.symm
                simp only [stepR]; rw [h1]; rfl)
              go_wp2_with fail
              refine ⟨⟨k + 1, by omega, by go_num, hid (by rw [HSN.out]; exact HO.out), HB⟩, by simp [intOf]; omega⟩
      | true =>
        have HZ := hid hz
        clear hz
        go_wp2_with fail
        refine (rin_any S _ X 0 wr (HX.out.below HBX.out)).mono ?_
        rintro e w2 ⟨rfl, rfl⟩
        rw [HZ.out]
        go_wp2_with fail
        refine (rin_any Any _ F ((k : Int) + 1) w2 (HF.out.below HBX.out)).mono ?_
        rintro e w3 ⟨rfl, rfl⟩
        obtain ⟨bb, hbb⟩ : ∃ bb, bb = decide (((k : Int) + 1) ∈ F) := ⟨_, rfl⟩
        rw [← hbb]
        have HM0 := hid (show bb = mayI s F X ((k : Int) + 1) 0 by unfold mayI; rw [HZ.out, hbb]; simp)
        clear hbb
        go_wp2_with fail
        go_loop [9, 10] (fun s9 s10 => ∃ (i : Nat) (b : Bool), i ≤ np ∧ s10 = .int .i64 i ∧ s9 = .bool b ∧ Hid (b = mayI s F X ((k : Int) + 1) i)) (fun _ s10 => np - (intOf s10).toNat)
        case atStart => exact ⟨0, bb, by omega, rfl, rfl, HM0⟩
        case round =>
          clear HM0
          obtain ⟨i, b, hi, rfl, rfl, HMI⟩ := hrel
          cases b with
          | true =>
            have HMT := hid (show mayI s F X ((k + 1 : Nat) : Int) s.prs.length = true from may_up HMI.out.symm)
            by_cases hin : i < np
            · clear hi
              go_wp2_with fail
              refine (rtakes_any kd cl m KA k1 k2 _ HK3.out).mono ?_
              rintro e w5 ⟨rfl, hb5⟩
              have HO5 := hid (HO.out.kept (grown_of_below hb5 none) (Classical.em _))
              have HB5 := hid (HB.out.trans (hb5.mono HSZ.out))
              have HS5 := hid (Nat.le_trans HSZ.out hb5.size)
              clear hb5 a0 a1 a3 a5 l0 l1 l2
              cases htk : takesB kd cl m with
              | true =>
                have HSN := hid (show stepR false s F X m (k + 1) = stepR false s F X m k ++ [(k : Int) + 1] by simp only [stepR]; rw [← HKD.out, HMT.out, htk]; rfl)
                clear htk
                go_wp2_with (first
                  | (at_builtin; refine wpList_app_int rfl (.tmp 83) (.tmp 85) rfl (w0 := w5) (z := (k : Int) + 1) rfl rfl HO5.out rfl (by have := stepR_len false s F X m k; omega) HS5.out ?_; intro A7 c7 w7 hown7 hg7; have HO7 := hid (show OwnI w7 N _ (stepR false s F X m (k + 1)) by rw [HSN.out]; exact hown7); have HB7 := hid (below_own (HB5.out.alloc HS5.out _) (HO5.out.alloc (.cells #[.int .i64 ((k : Int) + 1)] 3)) hg7 (Nat.le_trans HS5.out (by simp))); clear hown7 hg7)
                  | fail)
                refine ⟨⟨k + 1, by omega, by go_num, HO7, HB7⟩, by simp [intOf]; omega⟩
              | false =>
                have HSN := hid (show stepR false s F X m (k + 1) = stepR false s F X m k by simp only [stepR]; rw [← HKD.out, HMT.out, htk]; rfl)
                clear htk
                go_wp2_with fail
                refine ⟨⟨k + 1, by omega, by go_num, hid (by rw [HSN.out]; exact HO5.out), HB5⟩, by simp [intOf]; omega⟩
            · clear hi
              go_wp2_with fail
              refine (rtakes_any kd cl m KA k1 k2 _ HK3.out).mono ?_
              rintro e w5 ⟨rfl, hb5⟩
              have HO5 := hid (HO.out.kept (grown_of_below hb5 none) (Classical.em _))
              have HB5 := hid (HB.out.trans (hb5.mono HSZ.out))
              have HS5 := hid (Nat.le_trans HSZ.out hb5.size)
              clear hb5 a0 a1 a3 a5 l0 l1 l2
              cases htk : takesB kd cl m with
              | true =>
                have HSN := hid (show stepR false s F X m (k + 1) = stepR false s F X m k ++ [(k : Int) + 1] by simp only [stepR]; rw [← HKD.out, HMT.out, htk]; rfl)
                clear htk
                go_wp2_with (first
                  | (at_builtin; refine wpList_app_int rfl (.tmp 83) (.tmp 85) rfl (w0 := w5) (z := (k : Int) + 1) rfl rfl HO5.out rfl (by have := stepR_len false s F X m k; omega) HS5.out ?_; intro A7 c7 w7 hown7 hg7; have HO7 := hid (show OwnI w7 N _ (stepR false s F X m (k + 1)) by rw [HSN.out]; exact hown7); have HB7 := hid (below_own (HB5.out.alloc HS5.out _) (HO5.out.alloc (.cells #[.int .i64 ((k : Int) + 1)] 3)) hg7 (Nat.le_trans HS5.out (by simp))); clear hown7 hg7)
                  | fail)
                refine ⟨⟨k + 1, by omega, by go_num, HO7, HB7⟩, by simp [intOf]; omega⟩
              | false =>
                have HSN := hid (show stepR false s F X m (k + 1) = stepR false s F X m k by simp only [stepR]; rw [← HKD.out, HMT.out, htk]; rfl)
                clear htk
                go_wp2_with fail
                refine ⟨⟨k + 1, by omega, by go_num, hid (by rw [HSN.out]; exact HO5.out), HB5⟩, by simp [intOf]; omega⟩
          | false =>
            by_cases hin : i < np
            · obtain ⟨z, hz⟩ : ∃ z, s.prs[i]? = some z := ⟨_, List.getElem?_eq_getElem (by rw [← HNP.out]; exact hin)⟩
              obtain ⟨b5, e5, p0, p1⟩ := HPV.out w3 HBX.out i z hz
              subst e5
              have HMM := hid (may_more (F := F) (X := X) (k := (k : Int) + 1) hz)
              by_cases hzk : z.2 = (k : Int) + 1
              · have hzb := ieq_true hzk
                have HMN := hid (show mayI s F X ((k : Int) + 1) (i + 1) = decide (z.1 ∈ X) by rw [HMM.out, ← HMI.out, decide_eq_true hzk]; simp)
                clear hzk hz
                go_wp2_with fail
                refine (rin_any S _ X z.1 _ (HX.out.below HBX.out)).mono ?_
                rintro e w4 ⟨rfl, rfl⟩
                obtain ⟨b', hb'⟩ : ∃ b', b' = decide (z.1 ∈ X) := ⟨_, rfl⟩
                rw [← hb']
                have HMB := hid (hb'.trans HMN.out.symm)
                clear hb'
                go_wp2_with fail
                go_round
                case rel => exact ⟨i + 1, b', by omega, by go_num, rfl, HMB⟩
                case measure => simp [intOf]; omega
              · have hzb := ieq_false hzk
                have HMN := hid (show mayI s F X ((k : Int) + 1) (i + 1) = false by rw [HMM.out, ← HMI.out, decide_eq_false hzk]; simp)
                clear hzk hz
                go_wp2_with fail
                go_round
                case rel => exact ⟨i + 1, false, by omega, by go_num, rfl, hid HMN.out.symm⟩
                case measure => simp [intOf]; omega
            · obtain rfl : i = np := by omega
              have HSN := hid (show stepR false s F X m (k + 1) = stepR false s F X m k by
                have h1 : mayI s F X ((k + 1 : Nat) : Int) s.prs.length = false := by rw [← HNP.out]; exact HMI.out.symm
                simp only [stepR]; rw [h1]; rfl)
              go_wp2_with fail
              refine ⟨⟨k + 1, by omega, by go_num, hid (by rw [HSN.out]; exact HO.out), HB⟩, by simp [intOf]; omega⟩
    · obtain rfl : k = n := by omega
      go_wp2_with fail
      go_ret
      exact ⟨_, rfl, (own_nums HO.out).mono fun b hb _ => by have h : N ≤ b ∧ _ := hb; rw [← HNN.out]; exact h.1, by rw [← HNN.out]; exact HB.out⟩
set_option maxRecDepth 100000 in
set_option maxHeartbeats 8000000 in
theorem rstep_true {a : Nat} {F L : List Int} {e : Nat} {s : Rs} {S : Nat → Prop} {vX : Value} {X : List Int} {m : Int} {w : World} (h : Rf w a true F L e s) (hX : IsNums .i64 w S vX X) (hk : ∀ x ∈ s.lv, 0 ≤ x.1 ∧ x.1 ≤ 3) (hn : s.lv.length ≤ 1000) (hp : s.prs.length ≤ 20000000) :
    Calls Try.prog 25 #[.pointer (some ⟨a, 0, none⟩), vX, .int .i64 m] w fun e w' => ∃ v', e = .returned v' ∧ IsNums .i64 w' (fun b => w.heap.size ≤ b) v' (stepR true s F X m s.lv.length) ∧ Below w.heap.size w w' := by
  obtain ⟨B, v1, v2, v5, fV, lV, hra, hF, hL⟩ := h
  obtain ⟨xA, xc, rfl⟩ := hX.form
  obtain ⟨f, hlf⟩ := hra.2.2.1
  obtain ⟨A1, c1, rfl, -⟩ := own_arr hlf
  obtain ⟨A5, c5, rfl, -⟩ := own_arr hra.2.2.2.2
  obtain ⟨fA, fc, rfl⟩ := hF.form
  obtain ⟨n, hnn⟩ : ∃ n, n = s.lv.length := ⟨_, rfl⟩
  obtain ⟨np, hnp⟩ : ∃ np, np = s.prs.length := ⟨_, rfl⟩
  have HN := hid hnn
  have HNP := hid hnp
  rw [← hnn] at hra hlf hn ⊢
  rw [← hnp] at hra hp
  have HX := hid hX
  have HF := hid hF
  have HK := hid hk
  have hblk := hra.2.1
  have HA := hid (show ∀ Y, Below w.heap.size w Y → Y.cell? ⟨a, 0, none⟩ = some (.bool true) ∧ Y.cell? ⟨a, 1, none⟩ = some (.slice A1 n c1) ∧ Y.cell? ⟨a, 3, none⟩ = some (.slice fA F.length fc) ∧ Y.cell? ⟨a, 5, none⟩ = some (.slice A5 np c5) from fun Y hY => by
    obtain ⟨a0, a1, -, a3, -, a5, -, -⟩ := slot7 ((hY.block a (Array.getElem?_eq_some_iff.1 hblk).1).trans hblk)
    exact ⟨a0, a1, a3, a5⟩)
  have HLV := hid (show ∀ Y, Below w.heap.size w Y → ∀ k, k < n → ∃ b1 KA k1 k2, A1 = some ⟨b1, 0, none⟩ ∧ Y.cell? ⟨b1, k * 3, none⟩ = some (.int .i64 (s.lv[k]?.getD (0, 0)).1) ∧ Y.cell? ⟨b1, k * 3 + 1, none⟩ = some (.int .i64 (s.lv[k]?.getD (0, 0)).2) ∧ Y.cell? ⟨b1, k * 3 + 2, none⟩ = some (.slice KA k1 k2) from fun Y hY k hk => by
    have hlf' := hlf.kept (grown_of_below hY none) (Classical.em _)
    obtain ⟨b1, rfl⟩ : ∃ b1, A1 = some ⟨b1, 0, none⟩ := by
      rcases hlf.2 with ⟨-, h0⟩ | ⟨b1, cap, cur, e, -⟩
      · omega
      · injection e with e; exact ⟨b1, e⟩
    have hc := fun j hj => (hlf'.cellAt (k * 3 + j) (by omega)).trans (flat3_at (f := lfR s.lv f) (n := n) (i := k) (j := j) hk hj)
    exact ⟨b1, _, _, _, rfl, hc 0 (by omega), hc 1 (by omega), hc 2 (by omega)⟩)
  have hp5 : w.ownsRow B 101 2 (.slice A5 np c5) np (s.prs.flatMap twoV) := by
    have h := hra.2.2.2.2
    rw [← hnp] at h
    exact h
  have HPV := hid (show ∀ Y, Below w.heap.size w Y → ∀ i z, s.prs[i]? = some z → ∃ b5, A5 = some ⟨b5, 0, none⟩ ∧ Y.cell? ⟨b5, i * 2, none⟩ = some (.int .i64 z.1) ∧ Y.cell? ⟨b5, i * 2 + 1, none⟩ = some (.int .i64 z.2) from fun Y hY i z hz => by
    have hp5' := hp5.kept (grown_of_below hY none) (Classical.em _)
    have hi := (List.getElem?_eq_some_iff.1 hz).1
    obtain ⟨b5, rfl⟩ : ∃ b5, A5 = some ⟨b5, 0, none⟩ := by
      rcases hp5.2 with ⟨-, h0⟩ | ⟨b5, cap, cur, e, -⟩
      · omega
      · injection e with e; exact ⟨b5, e⟩
    obtain ⟨p1, p2⟩ := prs_at s.prs i z hz
    exact ⟨b5, rfl, (hp5'.cellAt (i * 2) (by omega)).trans p1, (hp5'.cellAt (i * 2 + 1) (by omega)).trans p2⟩)
  obtain ⟨N, hNN⟩ : ∃ N, N = w.heap.size := ⟨_, rfl⟩
  have HNN := hid hNN
  obtain ⟨a0, a1, a3, a5⟩ := HA.out w (Below.refl _ _)
  clear hra hlf hF hL hX hk hblk hp5 hnn hnp hNN
  obtain ⟨W, hW⟩ : ∃ W, W = w.alloc (.cells #[.int .i64 0] 3) := ⟨_, rfl⟩
  have HOW := hid (show W.ownsRow N 3 1 (.slice (some ⟨w.heap.size, 0, none⟩) 1 1) (stepR true s F X m 0).length ((stepR true s F X m 0).map (.int .i64)) from (show IntBlk W w.heap.size 3 .i64 [0] by rw [hW]; exact heap_alloc_new _ _).own (l := [0]) (by rw [HNN.out]; exact Nat.le_refl _) (by decide))
  have HBW := hid (show Below N w W by rw [hW, HNN.out]; exact (Below.refl _ _).alloc (Nat.le_refl _) _)
  go_enter Try.func25, Try.ntmps25
  go_wp2_with fail
  rw [← hW]
  clear hW
  clear a0 a1 a3 a5
  go_loopw [7, 8] (fun s7 s8 wr => ∃ (k : Nat), k ≤ n ∧ s8 = .int .i64 ((k : Int) + 1) ∧ Hid (wr.ownsRow N 3 1 s7 (stepR true s F X m k).length ((stepR true s F X m k).map (.int .i64))) ∧ Hid (Below N w wr)) (fun _ s8 _ => n + 1 - (intOf s8).toNat)
  case atStart => exact ⟨0, by omega, rfl, HOW, HBW⟩
  case round =>
    clear HOW HBW
    obtain ⟨k, hk, rfl, HO, HB⟩ := hrel
    have HBX := hid (show Below w.heap.size w wr by rw [← HNN.out]; exact HB.out)
    have HSZ := hid (show N ≤ wr.heap.size by rw [HNN.out]; exact HB.out.size)
    obtain ⟨a0, a1, a3, a5⟩ := HA.out wr HBX.out
    by_cases hlt : k < n
    · obtain ⟨b1, KA, k1, k2, rfl, l0, l1, l2⟩ := HLV.out wr HBX.out k hlt
      obtain ⟨kd, hkd⟩ : ∃ kd, kd = (s.lv[k]?.getD (0, 0)).1 := ⟨_, rfl⟩
      obtain ⟨cl, hcl⟩ : ∃ cl, cl = (s.lv[k]?.getD (0, 0)).2 := ⟨_, rfl⟩
      have HK3 := hid (show 0 ≤ kd ∧ kd ≤ 3 from by
        have hk' : k < s.lv.length := by rw [← HN.out]; exact hlt
        have := HK.out s.lv[k] (List.getElem_mem hk')
        rw [hkd, List.getElem?_eq_getElem hk']; exact this)
      have HKD := hid (show takesB kd cl m = takesB (s.lv[k]?.getD (0, 0)).1 (s.lv[k]?.getD (0, 0)).2 m by rw [hkd, hcl])
      rw [← hkd] at l0
      rw [← hcl] at l1
      clear hkd hcl
      cases hz : decide ((0 : Int) ∈ X) with
      | false =>
        have HZ := hid hz
        clear hz
        go_wp2_with fail
        refine (rin_any S _ X 0 wr (HX.out.below HBX.out)).mono ?_
        rintro e w2 ⟨rfl, rfl⟩
        rw [HZ.out]
        go_wp2_with fail
        have HM0 := hid (show false = mayI s F X ((k : Int) + 1) 0 by unfold mayI; rw [HZ.out]; simp)
        go_loop [9, 10] (fun s9 s10 => ∃ (i : Nat) (b : Bool), i ≤ np ∧ s10 = .int .i64 i ∧ s9 = .bool b ∧ Hid (b = mayI s F X ((k : Int) + 1) i)) (fun _ s10 => np - (intOf s10).toNat)
        case atStart => exact ⟨0, false, by omega, rfl, rfl, HM0⟩
        case round =>
          clear HM0
          obtain ⟨i, b, hi, rfl, rfl, HMI⟩ := hrel
          cases b with
          | true =>
            have HMT := hid (show mayI s F X ((k + 1 : Nat) : Int) s.prs.length = true from may_up HMI.out.symm)
            by_cases hin : i < np
            · clear hi
              go_wp2_with fail
              refine (rtakes_any kd cl m KA k1 k2 _ HK3.out).mono ?_
              rintro e w5 ⟨rfl, hb5⟩
              have HO5 := hid (HO.out.kept (grown_of_below hb5 none) (Classical.em _))
              have HB5 := hid (HB.out.trans (hb5.mono HSZ.out))
              have HS5 := hid (Nat.le_trans HSZ.out hb5.size)
              clear hb5 a0 a1 a3 a5 l0 l1 l2
              cases htk : takesB kd cl m with
              | true =>
                have HSN := hid (show stepR true s F X m (k + 1) = stepR true s F X m k ++ [(k : Int) + 1] by simp only [stepR]; rw [← HKD.out, HMT.out, htk]; rfl)
                clear htk
                go_wp2_with (first
                  | (at_builtin; refine wpList_app_int rfl (.tmp 83) (.tmp 85) rfl (w0 := w5) (z := (k : Int) + 1) rfl rfl HO5.out rfl (by have := stepR_len true s F X m k; omega) HS5.out ?_; intro A7 c7 w7 hown7 hg7; have HO7 := hid (show OwnI w7 N _ (stepR true s F X m (k + 1)) by rw [HSN.out]; exact hown7); have HB7 := hid (below_own (HB5.out.alloc HS5.out _) (HO5.out.alloc (.cells #[.int .i64 ((k : Int) + 1)] 3)) hg7 (Nat.le_trans HS5.out (by simp))); clear hown7 hg7)
                  | fail)
                refine ⟨⟨k + 1, by omega, by go_num, HO7, HB7⟩, by simp [intOf]; omega⟩
              | false =>
                have HSN := hid (show stepR true s F X m (k + 1) = stepR true s F X m k by simp only [stepR]; rw [← HKD.out, HMT.out, htk]; rfl)
                clear htk
                go_wp2_with fail
                refine ⟨⟨k + 1, by omega, by go_num, hid (by rw [HSN.out]; exact HO5.out), HB5⟩, by simp [intOf]; omega⟩
            · clear hi
              go_wp2_with fail
              refine (rtakes_any kd cl m KA k1 k2 _ HK3.out).mono ?_
              rintro e w5 ⟨rfl, hb5⟩
              have HO5 := hid (HO.out.kept (grown_of_below hb5 none) (Classical.em _))
              have HB5 := hid (HB.out.trans (hb5.mono HSZ.out))
              have HS5 := hid (Nat.le_trans HSZ.out hb5.size)
              clear hb5 a0 a1 a3 a5 l0 l1 l2
              cases htk : takesB kd cl m with
              | true =>
                have HSN := hid (show stepR true s F X m (k + 1) = stepR true s F X m k ++ [(k : Int) + 1] by simp only [stepR]; rw [← HKD.out, HMT.out, htk]; rfl)
                clear htk
                go_wp2_with (first
                  | (at_builtin; refine wpList_app_int rfl (.tmp 83) (.tmp 85) rfl (w0 := w5) (z := (k : Int) + 1) rfl rfl HO5.out rfl (by have := stepR_len true s F X m k; omega) HS5.out ?_; intro A7 c7 w7 hown7 hg7; have HO7 := hid (show OwnI w7 N _ (stepR true s F X m (k + 1)) by rw [HSN.out]; exact hown7); have HB7 := hid (below_own (HB5.out.alloc HS5.out _) (HO5.out.alloc (.cells #[.int .i64 ((k : Int) + 1)] 3)) hg7 (Nat.le_trans HS5.out (by simp))); clear hown7 hg7)
                  | fail)
                refine ⟨⟨k + 1, by omega, by go_num, HO7, HB7⟩, by simp [intOf]; omega⟩
              | false =>
                have HSN := hid (show stepR true s F X m (k + 1) = stepR true s F X m k by simp only [stepR]; rw [← HKD.out, HMT.out, htk]; rfl)
                clear htk
                go_wp2_with fail
                refine ⟨⟨k + 1, by omega, by go_num, hid (by rw [HSN.out]; exact HO5.out), HB5⟩, by simp [intOf]; omega⟩
          | false =>
            by_cases hin : i < np
            · obtain ⟨z, hz⟩ : ∃ z, s.prs[i]? = some z := ⟨_, List.getElem?_eq_getElem (by rw [← HNP.out]; exact hin)⟩
              obtain ⟨b5, e5, p0, p1⟩ := HPV.out w2 HBX.out i z hz
              subst e5
              have HMM := hid (may_more (F := F) (X := X) (k := (k : Int) + 1) hz)
              by_cases hzk : z.2 = (k : Int) + 1
              · have hzb := ieq_true hzk
                have HMN := hid (show mayI s F X ((k : Int) + 1) (i + 1) = decide (z.1 ∈ X) by rw [HMM.out, ← HMI.out, decide_eq_true hzk]; simp)
                clear hzk hz
                go_wp2_with fail
                refine (rin_any S _ X z.1 _ (HX.out.below HBX.out)).mono ?_
                rintro e w4 ⟨rfl, rfl⟩
                obtain ⟨b', hb'⟩ : ∃ b', b' = decide (z.1 ∈ X) := ⟨_, rfl⟩
                rw [← hb']
                have HMB := hid (hb'.trans HMN.out.symm)
                clear hb'
                go_wp2_with fail
                go_round
                case rel => exact ⟨i + 1, b', by omega, by go_num, rfl, HMB⟩
                case measure => simp [intOf]; omega
              · have hzb := ieq_false hzk
                have HMN := hid (show mayI s F X ((k : Int) + 1) (i + 1) = false by rw [HMM.out, ← HMI.out, decide_eq_false hzk]; simp)
                clear hzk hz
                go_wp2_with fail
                go_round
                case rel => exact ⟨i + 1, false, by omega, by go_num, rfl, hid HMN.out.symm⟩
                case measure => simp [intOf]; omega
            · obtain rfl : i = np := by omega
              have HSN := hid (show stepR true s F X m (k + 1) = stepR true s F X m k by
                have h1 : mayI s F X ((k + 1 : Nat) : Int) s.prs.length = false := by rw [← HNP.out]; exact HMI.out.symm
                simp only [stepR]; rw [h1]; rfl)
              go_wp2_with fail
              refine ⟨⟨k + 1, by omega, by go_num, hid (by rw [HSN.out]; exact HO.out), HB⟩, by simp [intOf]; omega⟩
      | true =>
        have HZ := hid hz
        clear hz
        go_wp2_with fail
        refine (rin_any S _ X 0 wr (HX.out.below HBX.out)).mono ?_
        rintro e w2 ⟨rfl, rfl⟩
        rw [HZ.out]
        go_wp2_with fail
        refine (rin_any Any _ F ((k : Int) + 1) w2 (HF.out.below HBX.out)).mono ?_
        rintro e w3 ⟨rfl, rfl⟩
        obtain ⟨bb, hbb⟩ : ∃ bb, bb = decide (((k : Int) + 1) ∈ F) := ⟨_, rfl⟩
        rw [← hbb]
        have HM0 := hid (show bb = mayI s F X ((k : Int) + 1) 0 by unfold mayI; rw [HZ.out, hbb]; simp)
        clear hbb
        go_wp2_with fail
        go_loop [9, 10] (fun s9 s10 => ∃ (i : Nat) (b : Bool), i ≤ np ∧ s10 = .int .i64 i ∧ s9 = .bool b ∧ Hid (b = mayI s F X ((k : Int) + 1) i)) (fun _ s10 => np - (intOf s10).toNat)
        case atStart => exact ⟨0, bb, by omega, rfl, rfl, HM0⟩
        case round =>
          clear HM0
          obtain ⟨i, b, hi, rfl, rfl, HMI⟩ := hrel
          cases b with
          | true =>
            have HMT := hid (show mayI s F X ((k + 1 : Nat) : Int) s.prs.length = true from may_up HMI.out.symm)
            by_cases hin : i < np
            · clear hi
              go_wp2_with fail
              refine (rtakes_any kd cl m KA k1 k2 _ HK3.out).mono ?_
              rintro e w5 ⟨rfl, hb5⟩
              have HO5 := hid (HO.out.kept (grown_of_below hb5 none) (Classical.em _))
              have HB5 := hid (HB.out.trans (hb5.mono HSZ.out))
              have HS5 := hid (Nat.le_trans HSZ.out hb5.size)
              clear hb5 a0 a1 a3 a5 l0 l1 l2
              cases htk : takesB kd cl m with
              | true =>
                have HSN := hid (show stepR true s F X m (k + 1) = stepR true s F X m k ++ [(k : Int) + 1] by simp only [stepR]; rw [← HKD.out, HMT.out, htk]; rfl)
                clear htk
                go_wp2_with (first
                  | (at_builtin; refine wpList_app_int rfl (.tmp 83) (.tmp 85) rfl (w0 := w5) (z := (k : Int) + 1) rfl rfl HO5.out rfl (by have := stepR_len true s F X m k; omega) HS5.out ?_; intro A7 c7 w7 hown7 hg7; have HO7 := hid (show OwnI w7 N _ (stepR true s F X m (k + 1)) by rw [HSN.out]; exact hown7); have HB7 := hid (below_own (HB5.out.alloc HS5.out _) (HO5.out.alloc (.cells #[.int .i64 ((k : Int) + 1)] 3)) hg7 (Nat.le_trans HS5.out (by simp))); clear hown7 hg7)
                  | fail)
                refine ⟨⟨k + 1, by omega, by go_num, HO7, HB7⟩, by simp [intOf]; omega⟩
              | false =>
                have HSN := hid (show stepR true s F X m (k + 1) = stepR true s F X m k by simp only [stepR]; rw [← HKD.out, HMT.out, htk]; rfl)
                clear htk
                go_wp2_with fail
                refine ⟨⟨k + 1, by omega, by go_num, hid (by rw [HSN.out]; exact HO5.out), HB5⟩, by simp [intOf]; omega⟩
            · clear hi
              go_wp2_with fail
              refine (rtakes_any kd cl m KA k1 k2 _ HK3.out).mono ?_
              rintro e w5 ⟨rfl, hb5⟩
              have HO5 := hid (HO.out.kept (grown_of_below hb5 none) (Classical.em _))
              have HB5 := hid (HB.out.trans (hb5.mono HSZ.out))
              have HS5 := hid (Nat.le_trans HSZ.out hb5.size)
              clear hb5 a0 a1 a3 a5 l0 l1 l2
              cases htk : takesB kd cl m with
              | true =>
                have HSN := hid (show stepR true s F X m (k + 1) = stepR true s F X m k ++ [(k : Int) + 1] by simp only [stepR]; rw [← HKD.out, HMT.out, htk]; rfl)
                clear htk
                go_wp2_with (first
                  | (at_builtin; refine wpList_app_int rfl (.tmp 83) (.tmp 85) rfl (w0 := w5) (z := (k : Int) + 1) rfl rfl HO5.out rfl (by have := stepR_len true s F X m k; omega) HS5.out ?_; intro A7 c7 w7 hown7 hg7; have HO7 := hid (show OwnI w7 N _ (stepR true s F X m (k + 1)) by rw [HSN.out]; exact hown7); have HB7 := hid (below_own (HB5.out.alloc HS5.out _) (HO5.out.alloc (.cells #[.int .i64 ((k : Int) + 1)] 3)) hg7 (Nat.le_trans HS5.out (by simp))); clear hown7 hg7)
                  | fail)
                refine ⟨⟨k + 1, by omega, by go_num, HO7, HB7⟩, by simp [intOf]; omega⟩
              | false =>
                have HSN := hid (show stepR true s F X m (k + 1) = stepR true s F X m k by simp only [stepR]; rw [← HKD.out, HMT.out, htk]; rfl)
                clear htk
                go_wp2_with fail
                refine ⟨⟨k + 1, by omega, by go_num, hid (by rw [HSN.out]; exact HO5.out), HB5⟩, by simp [intOf]; omega⟩
          | false =>
            by_cases hin : i < np
            · obtain ⟨z, hz⟩ : ∃ z, s.prs[i]? = some z := ⟨_, List.getElem?_eq_getElem (by rw [← HNP.out]; exact hin)⟩
              obtain ⟨b5, e5, p0, p1⟩ := HPV.out w3 HBX.out i z hz
              subst e5
              have HMM := hid (may_more (F := F) (X := X) (k := (k : Int) + 1) hz)
              by_cases hzk : z.2 = (k : Int) + 1
              · have hzb := ieq_true hzk
                have HMN := hid (show mayI s F X ((k : Int) + 1) (i + 1) = decide (z.1 ∈ X) by rw [HMM.out, ← HMI.out, decide_eq_true hzk]; simp)
                clear hzk hz
                go_wp2_with fail
                refine (rin_any S _ X z.1 _ (HX.out.below HBX.out)).mono ?_
                rintro e w4 ⟨rfl, rfl⟩
                obtain ⟨b', hb'⟩ : ∃ b', b' = decide (z.1 ∈ X) := ⟨_, rfl⟩
                rw [← hb']
                have HMB := hid (hb'.trans HMN.out.symm)
                clear hb'
                go_wp2_with fail
                go_round
                case rel => exact ⟨i + 1, b', by omega, by go_num, rfl, HMB⟩
                case measure => simp [intOf]; omega
              · have hzb := ieq_false hzk
                have HMN := hid (show mayI s F X ((k : Int) + 1) (i + 1) = false by rw [HMM.out, ← HMI.out, decide_eq_false hzk]; simp)
                clear hzk hz
                go_wp2_with fail
                go_round
                case rel => exact ⟨i + 1, false, by omega, by go_num, rfl, hid HMN.out.symm⟩
                case measure => simp [intOf]; omega
            · obtain rfl : i = np := by omega
              have HSN := hid (show stepR true s F X m (k + 1) = stepR true s F X m k by
                have h1 : mayI s F X ((k + 1 : Nat) : Int) s.prs.length = false := by rw [← HNP.out]; exact HMI.out.symm
                simp only [stepR]; rw [h1]; rfl)
              go_wp2_with fail
              refine ⟨⟨k + 1, by omega, by go_num, hid (by rw [HSN.out]; exact HO.out), HB⟩, by simp [intOf]; omega⟩
    · obtain rfl : k = n := by omega
      go_wp2_with fail
      go_ret
      exact ⟨_, rfl, (own_nums HO.out).mono fun b hb _ => by have h : N ≤ b ∧ _ := hb; rw [← HNN.out]; exact h.1, by rw [← HNN.out]; exact HB.out⟩
theorem rstep_any {a : Nat} {search : Bool} {F L : List Int} {e : Nat} {s : Rs} {S : Nat → Prop} {vX : Value} {X : List Int} {m : Int} {w : World} (h : Rf w a search F L e s) (hX : IsNums .i64 w S vX X) (hk : ∀ x ∈ s.lv, 0 ≤ x.1 ∧ x.1 ≤ 3) (hn : s.lv.length ≤ 1000) (hp : s.prs.length ≤ 20000000) :
    Calls Try.prog 25 #[.pointer (some ⟨a, 0, none⟩), vX, .int .i64 m] w fun e w' => ∃ v', e = .returned v' ∧ IsNums .i64 w' (fun b => w.heap.size ≤ b) v' (stepR search s F X m s.lv.length) ∧ Below w.heap.size w w' := by
  cases search with
  | false => exact rstep_false h hX hk hn hp
  | true => exact rstep_true h hX hk hn hp
end Go.Proofs.Ythdhbkngbmjjkaa
