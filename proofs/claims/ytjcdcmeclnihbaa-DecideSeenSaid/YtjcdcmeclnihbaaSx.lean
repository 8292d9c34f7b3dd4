/- The law DecideSeen: the walk. No conditions. -/
import Derived.Test.YtjcdcmeclnihbaaHi
import Derived.Test.YtjcdcmeclnihbaaSn
namespace Go.Proofs.Ytjcdcmeclnihbaa
open Go.RowKit
theorem hidC_len (ig kp ids : List Int) : (hidL ig kp (ids.map classOf)).length = ids.length := by simp [hidL]
theorem breaks_len {d : Nat} (t : Tx d) (ids : List Int) : (breaksP t ids).length = ids.length + 1 := by simp [breaksP, brL]
theorem own_bools {w : World} {base e n : Nat} {v : Value} {zs : List Bool} (h : w.ownsRow base e 1 v n (zs.map .bool)) : IsBools w (fun b => base ≤ b ∧ v.ownBlock = some b) v zs := by
  obtain ⟨A, c, rfl, h1, h2, h3⟩ := own_arr h
  have hl : zs.length = n := by simpa using h.1
  subst hl
  exact ⟨A, c, rfl, h1, h2, h3⟩
theorem one_bools (zs : List Bool) : ∀ u ∈ zs.map Value.bool, u.oneCell' = true := by
  intro u hu
  obtain ⟨z, _, rfl⟩ := List.mem_map.1 hu
  rfl
set_option linter.unusedSimpArgs false
set_option maxRecDepth 100000 in
set_option maxHeartbeats 4000000 in
theorem seen_walk (d : Nat) (v lv : Value) (t : Tx d) (ids : List Int) (w : World) (h : IsTx w Any d v t) (hl : IsNums .i64 w Any lv ids) :
    Calls Try.prog 5 #[v, lv] w fun e w' => e = .returned (.bool true) ∧ Below w.heap.size w w' := by
  obtain ⟨I, ic, K, kc, A, c, rfl, -, -, -, -, -, -⟩ := h.open
  have H := hid h
  clear h
  obtain ⟨M, cm, rfl⟩ := hl.form
  have hle := hl.le
  have HMw := hid hl
  clear hl
  obtain ⟨q, hq⟩ : ∃ q, q = w.heap.size := ⟨_, rfl⟩
  obtain ⟨W, hW0⟩ : ∃ W, W = w.alloc (.cells #[.slice I t.ig.length ic, .slice K t.kp.length kc, .slice A t.rs.length c] 25) := ⟨_, rfl⟩
  have HX := hid (box3 hW0)
  have HWw := hid HX.out.1
  have HT := hid (H.out.below HWw.out)
  have HM := hid (HMw.out.below HWw.out)
  rw [← hq] at HX
  clear H HMw
  cases hg : greatX t with
  | true =>
    have HG := hid hg
    clear hg
    go_enter Try.func5, Try.ntmps5
    go_wp2_with fail
    rw [← hW0]
    refine (great_any d _ t W HT.out).mono ?_
    rintro e w1 ⟨rfl, hb1⟩
    rw [HG.out]
    go_wp2_with fail
    refine (awake_any w1).mono ?_
    rintro e w2 ⟨rfl, hb2⟩
    go_wp2_with fail
    go_ret
    exact ⟨rfl, HWw.out.trans ((hb1.trans (hb2.mono hb1.size)).mono HWw.out.size)⟩
  | false =>
    have HG := hid hg
    obtain ⟨hn45, hcnt⟩ := great_no hg
    have HSM := hid (show t.rs.length ≤ 1000 ∧ ∀ r ∈ t.rs, cnt d r.L ≤ 2000 ∧ cnt d r.R ≤ 2000 from ⟨by omega, fun r hr => by have := hcnt r hr; omega⟩)
    have HSM2 := hid (show SmallT t from HSM.out.2)
    clear hg hn45 hcnt
    by_cases h60 : (14 : Int) < ids.length
    · have b60 := ilt_true h60
      clear h60
      go_enter Try.func5, Try.ntmps5
      go_wp2_with fail
      rw [← hW0]
      refine (great_any d _ t W HT.out).mono ?_
      rintro e w1 ⟨rfl, hb1⟩
      rw [HG.out]
      go_wp2_with fail
      refine (awake_any w1).mono ?_
      rintro e w2 ⟨rfl, hb2⟩
      go_wp2_with fail
      go_ret
      exact ⟨rfl, HWw.out.trans ((hb1.trans (hb2.mono hb1.size)).mono HWw.out.size)⟩
    · have b60 := ilt_false h60
      have hn60 : ids.length ≤ 14 := by omega
      clear h60
      go_enter Try.func5, Try.ntmps5
      go_wp2_with fail
      rw [← hW0]
      refine (great_any d _ t W HT.out).mono ?_
      rintro e w1 ⟨rfl, hb1⟩
      rw [HG.out]
      go_wp2_with fail
      refine (awake_any w1).mono ?_
      rintro e w2 ⟨rfl, hb2⟩
      have HB2 := hid (hb1.trans (hb2.mono hb1.size))
      obtain ⟨h0, h1, h2⟩ := HX.out.2 _ HB2.out
      clear hb1 hb2
      rw [← hq]
      clear hq hW0
      go_wp2_with fail
      refine (totext_any d _ t _ (HT.out.below HB2.out) HSM.out.2 HSM.out.1).mono ?_
      rintro e w3 ⟨v3, rfl, ht3, hb3⟩
      have HB3 := hid (HB2.out.trans (hb3.mono HB2.out.size))
      have HT3 := hid ht3
      obtain ⟨I3, ic3, K3, kc3, A3, c3, rfl, -, -, -, -, -, -⟩ := ht3.open
      clear hb3 ht3 h0 h1 h2
      obtain ⟨W3, hW3⟩ : ∃ W, W = w3.alloc (.cells #[.slice I3 t.ig.length ic3, .slice K3 t.kp.length kc3, .slice A3 t.rs.length c3] 33) := ⟨_, rfl⟩
      have HX3 := hid (box3 hW3)
      have HT4 := hid (HT3.out.below HX3.out.1)
      have HM4 := hid (HM.out.below (HB3.out.trans (HX3.out.1.mono HB3.out.size)))
      have HBW := hid (HWw.out.trans ((HB3.out.trans (HX3.out.1.mono HB3.out.size)).mono HWw.out.size))
      obtain ⟨p, hp⟩ : ∃ p, p = w3.heap.size := ⟨_, rfl⟩
      have HP := hid hp
      rw [← hp] at HX3
      go_wp2_with fail
      rw [← hW3, ← hp]
      clear hW3 hp
      refine wp_region_held_drew (S := (fun Y => Y.cell? ⟨p, 0, none⟩ = some (.slice I3 t.ig.length ic3) ∧ Y.cell? ⟨p, 1, none⟩ = some (.slice K3 t.kp.length kc3) ∧ Y.cell? ⟨p, 2, none⟩ = some (.slice A3 t.rs.length c3))) (by kernel_rfl) (by exact HX3.out.2 _ (Below.refl _ _).drew) (fun hHeld => ?_)
      refine wpAnyH_take (i := 0) (oi := { dst := some 25, op := Op.load 33 (Operand.tmp 5), type := _, pos := _, after := _, guard := none }) (v := ?_) rfl (by kernel_rfl) (by kernel_rfl) (by kernel_rfl) (fun _ _ _ h => h) (Or.inl ⟨by rfl, ?_⟩) (by assumption) ?_
      rotate_left
      · intro w hSw; (try dsimp only at hSw); go_simp; try with_reducible rfl
      try simp only [Act.put, List.setIfInBounds_toArray, List.set_cons_zero, List.set_cons_succ]
      refine wpAnyH_take (i := 1) (oi := { dst := some 26, op := Op.move (Operand.tmp 1), type := _, pos := _, after := _, guard := none }) (v := ?_) rfl (by kernel_rfl) (by kernel_rfl) (by kernel_rfl) (fun _ _ _ h => h) (Or.inl ⟨by rfl, ?_⟩) (by assumption) ?_
      rotate_left
      · intro w hSw; (try dsimp only at hSw); go_simp; try with_reducible rfl
      try simp only [Act.put, List.setIfInBounds_toArray, List.set_cons_zero, List.set_cons_succ]
      refine wpAnyH_take (i := 3) (oi := { dst := some 28, op := Op.load 33 (Operand.tmp 5), type := _, pos := _, after := _, guard := none }) (v := ?_) rfl (by kernel_rfl) (by kernel_rfl) (by kernel_rfl) (fun _ _ _ h => h) (Or.inl ⟨by rfl, ?_⟩) (by assumption) ?_
      rotate_left
      · intro w hSw; (try dsimp only at hSw); go_simp; try with_reducible rfl
      try simp only [Act.put, List.setIfInBounds_toArray, List.set_cons_zero, List.set_cons_succ]
      refine wpAnyH_take (i := 4) (oi := { dst := some 29, op := Op.move (Operand.tmp 1), type := _, pos := _, after := _, guard := none }) (v := ?_) rfl (by kernel_rfl) (by kernel_rfl) (by kernel_rfl) (fun _ _ _ h => h) (Or.inl ⟨by rfl, ?_⟩) (by assumption) ?_
      rotate_left
      · intro w hSw; (try dsimp only at hSw); go_simp; try with_reducible rfl
      try simp only [Act.put, List.setIfInBounds_toArray, List.set_cons_zero, List.set_cons_succ]
      refine wpAnyH_ready (rs := [2]) (by kernel_rfl) (by simp) ?_
      refine AllReadyH.cons (o := { dst := some 27, op := Op.call { callee := Callee.value (Operand.func 18), args := #[Operand.tmp 25, Operand.tmp 26], argTypes := #[33, 22] }, type := _, pos := _, after := _, guard := none }) rfl (fun K hK => ?_) AllReadyH.nil
      go_simp
      refine (Hidden_any d _ _ t ids _ (HT4.out.below (Below.refl _ _).drew) (HM4.out.below (Below.refl _ _).drew) (by omega)).mono ?_; rintro e w4 ⟨v4, rfl, hv4, hb4⟩; have HB4 := hid (show Below W3.heap.size W3 w4 from (Below.refl _ _).drew.trans hb4); have HV4 := hid (hv4.mono (S' := Any) fun _ _ _ => trivial); obtain ⟨A4, c4, rfl, -, -⟩ := hv4.open; rw [hidC_len]; clear hb4 hv4; go_wp2_with fail
      refine hK.out _ _ (by exact HX3.out.2 _ HB4.out) (fun hHeld => ?_)
      clear hK K
      try simp only [Act.put, List.setIfInBounds_toArray, List.set_cons_zero, List.set_cons_succ]
      refine wpAnyH_ready (rs := [5]) (by kernel_rfl) (by simp) ?_
      refine AllReadyH.cons (o := { dst := some 30, op := Op.call { callee := Callee.value (Operand.func 13), args := #[Operand.tmp 28, Operand.tmp 29], argTypes := #[33, 22] }, type := _, pos := _, after := _, guard := none }) rfl (fun K hK => ?_) AllReadyH.nil
      go_simp
      refine (Breaks_any d _ _ t ids _ (HT4.out.below HB4.out) (HM4.out.below HB4.out) (by omega)).mono ?_; rintro e w5 ⟨v5, rfl, hv5, hb5⟩; have HB5 := hid (HB4.out.trans (hb5.mono HB4.out.size)); have HV5 := hid (hv5.mono (S' := Any) fun _ _ _ => trivial); have HU5 := hid (HV4.out.below hb5); obtain ⟨A5, c5, rfl, -, -⟩ := hv5.open; rw [breaks_len]; clear hb5 hv5; go_wp2_with fail
      refine hK.out _ _ (by exact HX3.out.2 _ HB5.out) (fun hHeld => ?_)
      clear hK K
      try simp only [Act.put, List.setIfInBounds_toArray, List.set_cons_zero, List.set_cons_succ]
      refine wpAnyH_take (i := 6) (oi := { dst := some 6, op := Op.assign (Operand.tmp 27), type := _, pos := _, after := _, guard := none }) (v := ?_) rfl (by kernel_rfl) (by kernel_rfl) (by kernel_rfl) (fun _ _ _ h => h) (Or.inl ⟨by rfl, ?_⟩) (by assumption) ?_
      rotate_left
      · intro w hSw; (try dsimp only at hSw); go_simp; try with_reducible rfl
      try simp only [Act.put, List.setIfInBounds_toArray, List.set_cons_zero, List.set_cons_succ]
      refine wpAnyH_take (i := 7) (oi := { dst := some 7, op := Op.assign (Operand.tmp 30), type := _, pos := _, after := _, guard := none }) (v := ?_) rfl (by kernel_rfl) (by kernel_rfl) (by kernel_rfl) (fun _ _ _ h => h) (Or.inl ⟨by rfl, ?_⟩) (by assumption) ?_
      rotate_left
      · intro w hSw; (try dsimp only at hSw); go_simp; try with_reducible rfl
      try simp only [Act.put, List.setIfInBounds_toArray, List.set_cons_zero, List.set_cons_succ]
      refine wpAnyH_done (by kernel_rfl) ?_ _
      obtain ⟨hide, hhd⟩ : ∃ hide, hide = hidL (knownT t).ig (knownT t).kp (ids.map classOf) := ⟨_, rfl⟩
      have HHD := hid hhd
      have HHL := hid (show hide.length = ids.length by rw [hhd, hidC_len])
      obtain ⟨all, hal⟩ : ∃ all, all = breaksP t ids := ⟨_, rfl⟩
      have HAL := hid hal
      have HALL := hid (show all.length = ids.length + 1 by rw [hal, breaks_len])
      rw [← hhd] at HU5
      rw [← hal] at HV5
      clear hhd hal HX HT HM HT3 HV4
      obtain ⟨i0, hi0, hz0, hz1, hz2⟩ := info_parts info3
      obtain ⟨j0, hj0, hy0, hy1, hy2⟩ := info_parts info4
      go_wp2_with fail
      go_loopw [8, 9, 10] (fun s8 s9 s10 wr => ∃ k : Nat, k ≤ ids.length ∧ s10 = .int .i64 k ∧ Hid (wr.ownsRow w5.heap.size 3 1 s8 (seenTo ids hide k).length ((seenTo ids hide k).map (.int .i64))) ∧ Hid (wr.ownsRow w5.heap.size 4 1 s9 (wantTo all hide k).length ((wantTo all hide k).map .bool)) ∧ Hid (Below w5.heap.size w5 wr)) (fun _ _ s10 _ => ids.length - (intOf s10).toNat)
      case atStart => exact ⟨0, by omega, rfl, hid (World.ownsRow_nil _ _ _ _), hid (World.ownsRow_nil _ _ _ _), hid (Below.refl _ _)⟩
      case round =>
        obtain ⟨k, hk, rfl, HO, HQ, HW⟩ := hrel
        by_cases hlt : k < ids.length
        · obtain ⟨B4, cb4, heB, -, hA4⟩ := (HU5.out.below HW.out).open
          obtain ⟨rfl, rfl⟩ : A4 = B4 ∧ c4 = cb4 := by simpa using heB
          obtain ⟨bh, oh, rfl, -, -, hch⟩ := hA4.bool (j := k) (by rw [HHL.out]; exact hlt)
          obtain ⟨B5, cb5, heC, -, hA5⟩ := HV5.out.open
          obtain ⟨rfl, rfl⟩ : A5 = B5 ∧ c5 = cb5 := by simpa using heC
          obtain ⟨ba, oa, rfl, -, hblt, hca0⟩ := hA5.bool (j := k) (by rw [HALL.out]; omega)
          have hca := (cell_same (HW.out.block ba hblt)).trans hca0
          obtain ⟨bm, om, cm', hem, -, hbm, hcm⟩ := ((HM4.out.below HB5.out).below HW.out).at (j := k) hlt
          obtain ⟨rfl, -⟩ : M = some ⟨bm, om, none⟩ ∧ True := by simpa using (show M = some ⟨bm, om, none⟩ by injection hem)
          clear heB heC hem hA4 hA5
          cases hb : nthB hide k with
          | true =>
            rw [hb] at hch
            have hof := seen_off t ids hide HHD.out hlt hb
            rw [← HAL.out] at hof
            have h0k := hof.1
            rw [hof.2] at hca
            clear hca0
            have HN1 := hid (seenTo_skip (l := ids) hb)
            have HN2 := hid (wantTo_skip (all := all) hb)
            have bk0 : ((k : Int) == 0) = false := ieq_false (by omega)
            have bk1 : (k == 0) = false := by simp; omega
            have hk0 : ¬ k = 0 := by omega
            clear hb hof
            go_wp2_with fail
            go_roundw
            case rel => exact ⟨k + 1, by omega, by go_num, hid (by rw [HN1.out]; exact HO.out), hid (by rw [HN2.out]; exact HQ.out), HW⟩
            case measure => simp [intOf]; omega
          | false =>
            rw [hb] at hch
            obtain ⟨z, hz⟩ : ∃ z, z = nth ids k := ⟨_, rfl⟩
            obtain ⟨y, hy⟩ : ∃ y, y = nthB all k := ⟨_, rfl⟩
            rw [← hz] at hcm
            rw [← hy] at hca hca0
            have HN1 := hid (show seenTo ids hide (k + 1) = seenTo ids hide k ++ [z] by rw [seenTo_put hb, hz])
            have HN2 := hid (show wantTo all hide (k + 1) = wantTo all hide k ++ [y] by rw [wantTo_put hb, hy])
            have HL1 := hid (seenTo_len ids hide k)
            have HL2 := hid (wantTo_len all hide k)
            have HX := hid (show Below w5.heap.size w5 (wr.alloc (.cells #[.int .i64 z] 3)) from HW.out.alloc HW.out.size _)
            have HOX := hid (HO.out.alloc (.cells #[.int .i64 z] 3))
            have HQX := hid (HQ.out.alloc (.cells #[.int .i64 z] 3))
            have HCA := hid (And.intro hblt hca0)
            clear hb hz hy hblt hca0
            go_wp2_with (first
              | (at_builtin; (refine wpList_app _ rfl (.tmp 66) (.tmp 71) 22 rfl w5.heap.size 3 i0 _ 1 8 Try.underlying22 hi0 hz0 hz1 hz2 rfl (by decide) _ (seenTo ids hide k).length ((seenTo ids hide k).map (.int .i64)) rfl ?own (some ⟨wr.heap.size, 0, none⟩) 1 1 [.int .i64 z] rfl ?src (one_nums _ [z]) (by simp only [maxLen]; have := HL1.out; omega) (by have := HL1.out; omega) (by have := HX.out.size; exact this) ?_); rotate_left 2; intro v' w' hown hgrow hat; have HW2 := hid (seen_below HX.out HOX.out hgrow); have HO2 := hid (show w'.ownsRow w5.heap.size 3 1 v' (seenTo ids hide (k + 1)).length ((seenTo ids hide (k + 1)).map (.int .i64)) by rw [HN1.out]; simpa using hown); have HQ2 := hid (HQX.out.kept hgrow (own_own HQX.out HOX.out (by decide))); have hca2 := (cell_same (HW2.out.block ba HCA.out.1)).trans HCA.out.2; clear hown hgrow hat hca; have HX2 := hid (show Below w5.heap.size w5 (w'.alloc (.cells #[.bool y] 4)) from HW2.out.alloc HW2.out.size _); have HOX2 := hid (HO2.out.alloc (.cells #[.bool y] 4)); have HQX2 := hid (HQ2.out.alloc (.cells #[.bool y] 4)))
              | (at_builtin; (refine wpList_app _ rfl (.tmp 73) (.tmp 78) 28 rfl w5.heap.size 4 j0 _ 1 1 Try.underlying28 hj0 hy0 hy1 hy2 rfl (by decide) _ (wantTo all hide k).length ((wantTo all hide k).map .bool) rfl HQX2.out _ 1 1 [.bool y] rfl (src_new _ #[.bool y] 4 1 rfl) (one_bools [y]) (by simp only [maxLen]; have := HL2.out; omega) (by have := HL2.out; omega) (by have := HX2.out.size; exact this) ?_); intro v2' w2' hown hgrow hat; have HW3 := hid (below_own HX2.out HQX2.out hgrow HX2.out.size); have HQ3 := hid (show w2'.ownsRow w5.heap.size 4 1 v2' (wantTo all hide (k + 1)).length ((wantTo all hide (k + 1)).map .bool) by rw [HN2.out]; simpa using hown); have HO3 := hid (HOX2.out.kept hgrow (own_own HOX2.out HQX2.out (by decide))); clear hown hgrow hat)
              | fail)
            case own => exact HOX.out
            case src => exact src_new wr #[.int .i64 z] 3 1 rfl
            go_roundw
            case rel => exact ⟨k + 1, by omega, by go_num, HO3, HQ3, HW3⟩
            case measure => simp [intOf]; omega
        · obtain rfl : k = ids.length := by omega
          have hsl := seenTo_len ids hide ids.length
          have HN := hid (show (seenTo ids hide ids.length).length ≤ 900 by omega)
          have HL2 := hid (wantTo_len all hide ids.length)
          obtain ⟨wl, hwl⟩ : ∃ wl, wl = wantTo all hide ids.length ++ [true] := ⟨_, rfl⟩
          have HWL := hid hwl
          clear hwl
          have HLAW := hid (show breaksP t (seenTo ids hide ids.length) = wl by rw [HWL.out, HAL.out]; exact seen_law t ids hide HHD.out)
          obtain ⟨h0, h1, h2⟩ := HX3.out.2 _ (HB5.out.trans (HW.out.mono HB5.out.size))
          clear hsl
          by_cases hz0' : 0 < ids.length
          · have bz : decide (0 < ids.length) = true := decide_eq_true hz0'
            have HX := hid (show Below w5.heap.size w5 (wr.alloc (.cells #[.bool true] 4)) from HW.out.alloc HW.out.size _)
            have HOX := hid (HO.out.alloc (.cells #[.bool true] 4))
            have HQX := hid (HQ.out.alloc (.cells #[.bool true] 4))
            go_wp2_with (first
              | (at_builtin; (refine wpList_app _ rfl (.tmp 83) (.tmp 84) 28 rfl w5.heap.size 4 j0 _ 1 1 Try.underlying28 hj0 hy0 hy1 hy2 rfl (by decide) _ (wantTo all hide ids.length).length ((wantTo all hide ids.length).map .bool) rfl HQX.out _ 1 1 [.bool true] rfl (src_new _ #[.bool true] 4 1 rfl) (one_bools [true]) (by simp only [maxLen]; have := HL2.out; omega) (by have := HL2.out; omega) (by have := HX.out.size; exact this) ?_); intro v' w' hown hgrow hat; have HW2 := hid (below_own HX.out HQX.out hgrow HX.out.size); have HQ2 := hid (show w'.ownsRow w5.heap.size 4 1 v' wl.length (wl.map .bool) by rw [HWL.out]; simpa using hown); have HO2 := hid (HOX.out.kept hgrow (own_own HOX.out HQX.out (by decide))); clear hown hgrow hat h0 h1 h2; obtain ⟨h0, h1, h2⟩ := HX3.out.2 _ (HB5.out.trans (HW2.out.mono HB5.out.size)))
              | fail)
            have HSN := hid (own_nums HO2.out)
            have HWB := hid (own_bools HQ2.out)
            refine (Breaks_any d _ _ t (seenTo ids hide ids.length) _ (HT4.out.below (HB5.out.trans (HW2.out.mono HB5.out.size))) (HSN.out.mono fun _ _ _ => trivial) HN.out).mono ?_
            rintro e w6 ⟨v6, rfl, hv6, hb6⟩
            rw [HLAW.out] at hv6
            have HV6 := hid hv6
            obtain ⟨A6, c6, rfl, -, -⟩ := hv6.open
            have HB6 := hid (HW2.out.trans (hb6.mono HW2.out.size))
            have HWB6 := hid (HWB.out.below hb6)
            clear hv6 hb6 h0 h1 h2
            go_wp2_with fail
            refine (is_any _ _ _ _ _ _ _ HV6.out HWB6.out).mono ?_
            rintro e w7 ⟨rfl, hb7⟩
            rw [decide_eq_true rfl]
            have HB7 := hid (HB6.out.trans (hb7.mono HB6.out.size))
            clear hb7
            go_wp2_with fail
            go_ret
            exact ⟨rfl, HBW.out.trans ((HB5.out.trans (HB7.out.mono HB5.out.size)).mono HBW.out.size)⟩
          · have bz : decide (0 < ids.length) = false := decide_eq_false hz0'
            have HE := hid (show wl = [true] by rw [HWL.out, show ids.length = 0 by omega]; rfl)
            have HX := hid (show Below w5.heap.size w5 (wr.alloc (.cells #[.bool true] 4)) from HW.out.alloc HW.out.size _)
            have HOX := hid (HO.out.alloc (.cells #[.bool true] 4))
            have hbk : BoolBlk (wr.alloc (.cells #[.bool true] 4)) wr.heap.size [true] := by unfold BoolBlk; exact heap_alloc_new _ _
            have HBK := hid (show IsBools (wr.alloc (.cells #[.bool true] 4)) (fun b => b = wr.heap.size) (.slice (some ⟨wr.heap.size, 0, none⟩) 1 1) wl by rw [HE.out]; exact hbk.bools (by decide))
            obtain ⟨W6, hW6⟩ : ∃ W, W = wr.alloc (.cells #[.bool true] 4) := ⟨_, rfl⟩
            obtain ⟨g6, hg6⟩ : ∃ g, g = wr.heap.size := ⟨_, rfl⟩
            rw [← hW6] at HX HOX HBK
            rw [← hg6] at HBK
            clear h0 h1 h2 hbk
            obtain ⟨h0, h1, h2⟩ := HX3.out.2 _ (HB5.out.trans (HX.out.mono HB5.out.size))
            rw [hW6] at h0 h1 h2
            go_wp2_with fail
            rw [← hW6, ← hg6]
            clear hW6 hg6 h0 h1 h2
            have HSN := hid (own_nums HOX.out)
            refine (Breaks_any d _ _ t (seenTo ids hide ids.length) _ (HT4.out.below (HB5.out.trans (HX.out.mono HB5.out.size))) (HSN.out.mono fun _ _ _ => trivial) HN.out).mono ?_
            rintro e w6 ⟨v6, rfl, hv6, hb6⟩
            rw [HLAW.out] at hv6
            have HV6 := hid hv6
            obtain ⟨A6, c6, rfl, -, -⟩ := hv6.open
            have HB6 := hid (HX.out.trans (hb6.mono HX.out.size))
            have HWB6 := hid (HBK.out.below hb6)
            clear hv6 hb6
            go_wp2_with fail
            refine (is_any _ _ _ _ _ _ _ HV6.out HWB6.out).mono ?_
            rintro e w7 ⟨rfl, hb7⟩
            rw [decide_eq_true rfl]
            have HB7 := hid (HB6.out.trans (hb7.mono HB6.out.size))
            clear hb7
            go_wp2_with fail
            go_ret
            exact ⟨rfl, HBW.out.trans ((HB5.out.trans (HB7.out.mono HB5.out.size)).mono HBW.out.size)⟩
end Go.Proofs.Ytjcdcmeclnihbaa
