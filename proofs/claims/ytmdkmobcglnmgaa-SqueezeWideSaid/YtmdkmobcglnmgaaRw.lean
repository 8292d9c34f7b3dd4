/- The reference's wide table: what ref.Wide returns. Conditions: a table that is not too long. -/
import Derived.Test.YtmdkmobcglnmgaaWd2
import Derived.Test.YtmdkmobcglnmgaaBaseD
namespace Go.Proofs.Ytmdkmobcglnmgaa
open Go.RowKit

/-- What ref.Wide answers. -/
def RWideAns (w : World) (gs : List Int) (d : D) (e : Ending) (w' : World) : Prop :=
  ∃ x : D, ∃ NA nc TA tc, x = (if rightB (widD gs d) = true then widD gs d else ⟨[], []⟩) ∧ e = .returned (.tuple #[.agg #[.slice NA x.next.length nc, .slice TA x.tells.length tc], .bool (rightB (widD gs d))]) ∧
    IsD w' (fun _ => True) (.agg #[.slice NA x.next.length nc, .slice TA x.tells.length tc]) x ∧ Below w.heap.size w w'
theorem rwide_no {w w' : World} {gs : List Int} {d : D} (h : rightB (widD gs d) = false) (hb : Below w.heap.size w w') : RWideAns w gs d (.returned (.tuple #[.agg #[.slice none 0 0, .slice none 0 0], .bool false])) w' :=
  ⟨⟨[], []⟩, none, 0, none, 0, by rw [if_neg (by rw [h]; decide)], by rw [h]; rfl, isD_nil _ _, hb⟩
theorem widD_no {gs : List Int} {d : D} {r : List Int} (hr : r ∈ d.next) (h : ¬ widOk gs r) : rightB (widD gs d) = false := by
  have e : widD gs d = ⟨[], []⟩ := if_neg fun hh => h (hh r hr)
  rw [e]; decide

theorem cell_same {Y Z : World} {b o : Nat} (h : Y.heap[b]? = Z.heap[b]?) : Y.cell? ⟨b, o, none⟩ = Z.cell? ⟨b, o, none⟩ := by
  unfold World.cell?
  rw [h]

set_option maxRecDepth 100000 in
set_option maxHeartbeats 4000000 in
theorem rwide_any (S : Nat → Prop) (vg nv tv : Value) (gs : List Int) (d : D) (w : World) (hg : IsNums .i64 w S vg gs) (hd : IsD w S (.agg #[nv, tv]) d) (hn1000 : d.next.length ≤ 1000) (ht1000 : d.tells.length ≤ 1000) :
    Calls Try.prog 28 #[.agg #[vg, nv, tv]] w (RWideAns w gs d) := by
  obtain ⟨GA, gc, rfl⟩ := hg.form
  obtain ⟨nv, tv, e0, hn, ht⟩ := hd
  obtain ⟨rfl, rfl⟩ : nv = _ ∧ tv = _ := by simpa using e0.symm
  obtain ⟨NA, nc, rfl⟩ := hn.form
  obtain ⟨TA, tc, rfl⟩ := ht.form
  have HG := hid hg
  have HTS := hid ht
  have HN := hid hn
  obtain ⟨W, hW0⟩ : ∃ W, W = (w.alloc (Obj.cells #[Value.slice GA gs.length gc, Value.slice NA d.next.length nc, Value.slice TA d.tells.length tc] 45)).alloc (Obj.cells #[.slice none 0 0, .slice none 0 0] 29) := ⟨_, rfl⟩
  have hWb : Below w.heap.size w W := by rw [hW0]; exact ((Below.refl _ _).alloc (Nat.le_refl _) _).alloc (by simp) _
  have q1 : W.heap[w.heap.size]? = some (.cells #[Value.slice GA gs.length gc, Value.slice NA d.next.length nc, Value.slice TA d.tells.length tc] 45 (0, 0)) := by rw [hW0]; exact (heap_alloc_old _ _ (by simp)).trans (heap_alloc_new _ _)
  have q2 : W.heap[w.heap.size + 1]? = some (.cells #[.slice none 0 0, .slice none 0 0] 29 (0, 0)) := by rw [hW0]; exact heap_alloc2_new _ _ _
  have hWz : W.heap.size = w.heap.size + 2 := by rw [hW0]; simp
  have hfacts : ∀ w1, Below W.heap.size W w1 → w1.cell? ⟨w.heap.size, 0, none⟩ = some (Value.slice GA gs.length gc) ∧ w1.cell? ⟨w.heap.size, 1, none⟩ = some (Value.slice NA d.next.length nc) ∧ w1.cell? ⟨w.heap.size, 2, none⟩ = some (Value.slice TA d.tells.length tc) ∧
      w1.cell? ⟨w.heap.size + 1, 0, none⟩ = some (.slice none 0 0) ∧ w1.cell? ⟨w.heap.size + 1, 1, none⟩ = some (.slice none 0 0) ∧
      w1.frozen? ⟨w.heap.size + 1, 0, none⟩ = false ∧ w1.frozen? ⟨w.heap.size + 1, 1, none⟩ = false ∧ w.heap.size + 1 < w1.heap.size := by
    intro w1 hb
    obtain ⟨a1, a2, a3, _, _, _⟩ := slot3 ((hb.block _ (by omega)).trans q1)
    obtain ⟨b1, b2, b3, b4⟩ := slot2 ((hb.block _ (by omega)).trans q2)
    exact ⟨a1, a2, a3, b1, b2, b3, b4, by have := hb.size; omega⟩
  have HW := hid hW0
  have HF := hid hfacts
  have hend : ∀ (w1 : World) (c0 c1 : Value), Below w.heap.size w w1 → Below w.heap.size w ((w1.setCell ⟨w.heap.size + 1, 0, none⟩ c0).setCell ⟨w.heap.size + 1, 1, none⟩ c1) := fun w1 c0 c1 h => (h.setCell (by simp) _).setCell (by simp) _
  have HE := hid hend
  obtain ⟨f1, f2, f3, f4, f5, f6, f7, f8⟩ := hfacts W (Below.refl _ _)
  clear hend q1 q2 hg hn ht hfacts e0
  obtain ⟨hm0, hm37, hmr⟩ := manyL_le gs
  obtain ⟨M, hM⟩ : ∃ M : Nat, manyL gs = (M : Int) := ⟨(manyL gs).toNat, by omega⟩
  rw [hM] at hm37 hmr
  have HM := hid hM
  have hmr' := hid hmr
  have HWZ := hid hWz
  clear hM hm0 hmr hWz
  go_enter Try.func28, Try.ntmps28
  go_wp2_with fail
  rw [← hW0]
  clear hW0
  go_wp2_with ((go_at_call 20; refine (refMany_any S _ _ _ (HG.out.below hWb)).mono ?_; rintro e w2 ⟨rfl, hb2⟩; rw [HM.out]; clear f1 f2 f3 f4 f5 f6 f7 f8; obtain ⟨f1, f2, f3, f4, f5, f6, f7, f8⟩ := HF.out _ hb2))
  obtain ⟨i0, hi0, hz0, hz1, hz2⟩ := info_parts info32
  obtain ⟨i3, hi3, hy0, hy1, hy2⟩ := info_parts info3
  obtain ⟨V, hV⟩ : ∃ V : World, V = w2.alloc (.cells #[.slice none 0 0, .slice TA d.tells.length tc] 29) := ⟨_, rfl⟩
  have hVb : Below W.heap.size W V := by rw [hV]; exact hb2.alloc hb2.size _
  have hP2 : V.heap[w2.heap.size]? = some (.cells #[.slice none 0 0, .slice TA d.tells.length tc] 29 (0, 0)) := by rw [hV]; exact heap_alloc_new _ _
  have hpW : W.heap.size ≤ w2.heap.size := hb2.size
  rw [← hV]
  obtain ⟨p, hpe⟩ : ∃ p, p = w2.heap.size := ⟨_, rfl⟩
  rw [← hpe] at hP2 hpW ⊢
  have HP2 := hid hP2
  clear hV hpe hP2 hb2 f1 f2 f3 f4 f5 f6 f7 f8
  go_loopw [6] (fun s6 wr => ∃ (k : Nat) (nx : Value) (us : List Value), k ≤ d.next.length ∧ s6 = .int .i64 k ∧ Hid (wr.heap[p]? = some (.cells #[nx, .slice TA d.tells.length tc] 29 (0, 0)) ∧
      wr.ownsRow W.heap.size 32 1 nx k us ∧ OwnG wr W.heap.size us ((d.next.take k).map (widRow gs)) ∧ (∀ r ∈ d.next.take k, widOk gs r)) ∧ Below W.heap.size W wr) (fun s6 _ => d.next.length - (intOf s6).toNat)
  case atStart => exact ⟨0, _, [], by omega, rfl, ⟨HP2.out, World.ownsRow_nil _ _ _ _, OwnG.nil _ _, (fun r hr => by simp at hr)⟩, hVb⟩
  case round =>
    obtain ⟨k, nx, us', hk, rfl, HR, hbr⟩ := hrel
    obtain ⟨nA, nC, rfl, _⟩ := own_arr HR.out.2.1
    obtain ⟨x1, x2, x3, x4⟩ := slot2 HR.out.1
    obtain ⟨f1, f2, f3, f4, f5, f6, f7, f8⟩ := HF.out wr hbr
    have hpl : p < wr.heap.size := (Array.getElem?_eq_some_iff.1 HR.out.1).1
    have hbw := hWb.trans (hbr.mono hWb.size)
    have hwz := hbr.size
    by_cases hlt : k < d.next.length
    · obtain ⟨NA', nc', us, e0, hnl, hNA, hNR⟩ := (HN.out.below hbw).open
      obtain ⟨e1, e2⟩ : NA = NA' ∧ nc = nc' := by simpa using e0
      subst e1 e2
      obtain ⟨b1, o1, A1', c1', rfl, _, hb1, hc1, hl1, hl2, hl3, hN1⟩ := hNR.at hNA hlt
      have hrw := hid hN1
      have hst := hid (take_row hlt)
      clear e0 hNA hNR hN1
      by_cases hok : widOk gs (row d.next k)
      · have hlen : (row d.next k).length = M := by have := hok.1; have := HM.out; omega
        have hM0 : M ≠ 0 := by intro e; apply hok.2; rw [HM.out, e]; rfl
        rw [hlen] at hc1
        have ht1 : ((M : Int) != (M : Int)) = false := ine_false rfl
        have ht2 : ((M : Int) == 0) = false := ieq_false (by omega)
        have HOK := hid hok
        have HL := hid hlen
        obtain ⟨hg37, hgb⟩ := hmr'.out (by omega)
        have HG37 := hid hg37
        have HGB := hid hgb
        clear hok hlen hgb hg37
        go_wp2_with fail
        clear f1 f2 f3 f4 f5 f6 f7 f8 ht1 ht2
        obtain ⟨wo, rfl⟩ : ∃ wo : World, wo = wr := ⟨_, rfl⟩
        go_loopw [7, 8] (fun s7 s8 wx => ∃ c : Nat, c ≤ 37 ∧ s8 = .int .i64 c ∧ wx.ownsRow wo.heap.size 3 1 s7 c (((widRow gs (row d.next k)).take c).map (.int .i64)) ∧ Below wo.heap.size wo wx) (fun _ s8 _ => 37 - (intOf s8).toNat)
        case atStart => exact ⟨0, by omega, rfl, World.ownsRow_nil _ _ _ _, Below.refl _ _⟩
        case round =>
          obtain ⟨c, hc, rfl, hown, hbx⟩ := hrel
          have HBX := hid hbx
          have HO := hid hown
          obtain ⟨vA, vC, rfl, _⟩ := own_arr hown
          clear hown
          by_cases hlt2 : c < 37
          · obtain ⟨q1, q2⟩ := HGB.out c hlt2
            obtain ⟨gm, hgm⟩ : ∃ gm : Nat, nth gs c = (gm : Int) := ⟨(nth gs c).toNat, by omega⟩
            obtain ⟨b2, o2, g2c, e0, _, hb2, hc2⟩ := (HG.out.below hbw).at (j := c) (by have := HG37.out; omega)
            obtain ⟨rfl, rfl⟩ : GA = some ⟨b2, o2, none⟩ ∧ gc = g2c := by simpa using e0
            have hgm2 : gm < (row d.next k).length := by rw [HL.out]; omega
            obtain ⟨b3, o3, rfl, _, hb3, hc3⟩ := hrw.out.num (j := gm) hgm2
            rw [hgm] at hc2 q1 q2
            have hc2w : wr.cell? ⟨b2, o2 + c, none⟩ = some (.int .i64 gm) := (hbx.cell (p := ⟨b2, o2 + c, none⟩) hb2).trans hc2
            have hc3w : wr.cell? ⟨b3, o3 + gm, none⟩ = some (.int .i64 (nth (row d.next k) gm)) := (hbx.cell (p := ⟨b3, o3 + gm, none⟩) hb3).trans hc3
            have hc1w : wr.cell? ⟨b1, o1 + k, none⟩ = some (.slice (some ⟨b3, o3, none⟩) M c1') := (hbx.cell (p := ⟨b1, o1 + k, none⟩) hb1).trans hc1
            obtain ⟨f1, f2, f3, f4, f5, f6, f7, f8⟩ := HF.out wr (hbr.trans (hbx.mono hwz))
            have q3 : gm < M := by omega
            have hgl : c < gs.length := by have := HG37.out; omega
            have HGM := hid hgm
            have hVA : ∀ b, (Value.slice vA c vC).ownBlock = some b → wo.heap.size ≤ b := fun b e => (HO.out.lt b e).1
            have hWZ := HWZ.out
            have hpk : ∀ Y : World, (∀ b, b < wo.heap.size → Y.heap[b]? = wr.heap[b]?) → Y.cell? ⟨w.heap.size, 0, none⟩ = some (Value.slice (some ⟨b2, o2, none⟩) gs.length gc) ∧ Y.cell? ⟨w.heap.size, 1, none⟩ = some (Value.slice (some ⟨b1, o1, none⟩) d.next.length nc) ∧ Y.cell? ⟨b1, o1 + k, none⟩ = some (.slice (some ⟨b3, o3, none⟩) M c1') ∧ Y.cell? ⟨b2, o2 + c, none⟩ = some (.int .i64 gm) ∧ Y.cell? ⟨b3, o3 + gm, none⟩ = some (.int .i64 (nth (row d.next k) gm)) := fun Y hY =>
              ⟨(cell_same (hY _ (by omega))).trans f1, (cell_same (hY _ (by omega))).trans f2, (cell_same (hY _ hb1)).trans hc1w, (cell_same (hY _ hb2)).trans hc2w, (cell_same (hY _ hb3)).trans hc3w⟩
            have HPK := hid hpk
            have hwoz := hbx.size
            clear hpk hWZ
            clear hgm hc2 hc3 hc1 e0 hgm2 x1 x2 x3 x4
            go_wp2_with fail
            go_region_held3 (fun Y => Y.cell? ⟨w.heap.size, 0, none⟩ = some (Value.slice (some ⟨b2, o2, none⟩) gs.length gc) ∧ Y.cell? ⟨w.heap.size, 1, none⟩ = some (Value.slice (some ⟨b1, o1, none⟩) d.next.length nc) ∧ Y.cell? ⟨b1, o1 + k, none⟩ = some (.slice (some ⟨b3, o3, none⟩) M c1') ∧ Y.cell? ⟨b2, o2 + c, none⟩ = some (.int .i64 gm) ∧ Y.cell? ⟨b3, o3 + gm, none⟩ = some (.int .i64 (nth (row d.next k) gm)))
              (first
                | go_keep
                | exact HPK.out _ (fun b hb => (hgrow1.block b (by simp; omega) (fun e => by have := hVA b e.symm; omega)).trans (heap_alloc_old _ _ (by omega))))
              ((refine step_app _ (by rfl) _ _ 32 (by rfl) wo.heap.size 3 i3 _ 1 8 Try.underlying32 hi3 hy0 hy1 hy2 rfl (by decide) (.slice vA c vC) _ _ (by rfl) ((HO.out.alloc _).drew) (some ⟨wr.heap.size, 0, none⟩) 1 1 _ (by rfl) (src_new wr _ 3 1 rfl) (by simp [Value.oneCell']) (by simp only [maxLen]; omega) (by omega) (by simp; omega) ?_; intro v' w1 hown1 hgrow1 hat1))
            go_wp2
            go_roundw
            case rel =>
              refine ⟨c + 1, by omega, by go_num, ?_, below_own (hbx.alloc hwoz _).drew (HO.out.alloc _).drew hgrow1 (by simp; omega)⟩
              have hwl : (widRow gs (row d.next k)).length = 37 := by simp [widRow, HG37.out]
              rw [take_nth (by omega), List.map_append, widRow_at gs _ hgl, HGM.out]
              exact hown1
            case measure => simp [intOf]; omega
          · obtain rfl : c = 37 := by omega
            have hwl : (widRow gs (row d.next k)).length = 37 := by simp [widRow, HG37.out]
            have hp5 := (hbx.block p hpl).trans HR.out.1
            clear x1 x2 x3 x4
            obtain ⟨x1, x2, x3, x4⟩ := slot2 hp5
            have hf10 : ∀ (w6 : World) (O : Obj), (wr.alloc O).grownBy w6 (Value.slice nA k nC).ownBlock → w6.heap[p]? = some (.cells #[.slice nA k nC, .slice TA d.tells.length tc] 29 (0, 0)) := fun w6 O h6 => by
              have := hbx.size
              exact (h6.block p (by simp; omega) (Ne.symm (own_blk_ne HR.out.2.1 HR.out.1 (by decide)))).trans ((heap_alloc_old _ _ (by omega)).trans hp5)
            have HF10 := hid hf10
            clear hf10 hbx hp5
            go_wp2_with (at_builtin; refine wpList_app_s _ rfl (.tmp 55) (.tmp 57) 25 rfl W.heap.size 32 i0 _ 1 24 Try.underlying25 hi0 hz0 hz1 hz2 rfl (by decide) (.slice nA k nC) k us' rfl ((HR.out.2.1.kept (grown_of_below HBX.out none) (Classical.em _)).alloc _) (some ⟨wr.heap.size, 0, none⟩) 1 1 _ rfl (src_new wr _ 32 1 rfl) (by simp [Value.oneCell']) (by simp only [maxLen]; omega) (by omega) (by have := HBX.out.size; simp; omega) ?_; intro xA xC w6 hown6 hgrow6 hat6; clear x1 x2 x3 x4; obtain ⟨x1, x2, x3, x4⟩ := slot2 (HF10.out w6 _ hgrow6))
            have hz5 := HBX.out.size
            have hp6 := HF10.out w6 _ hgrow6
            obtain ⟨k1, k2, k3⟩ := setA (u := .slice xA (k + 1) xC) hp6 (below_own ((hbr.trans (HBX.out.mono hwz)).alloc (by omega) _) ((HR.out.2.1.kept (grown_of_below HBX.out none) (Classical.em _)).alloc _) hgrow6 (by simp; omega)) hpW
            go_roundw
            case rel =>
              refine ⟨k + 1, _, _, by omega, by go_num, ⟨k1, hown6.kept k3 (.inr (own_blk_ne hown6 hp6 (by decide))), ?_, ?_⟩, k2⟩
              · rw [hst.out, List.map_append]
                have h1 : OwnG wr W.heap.size us' _ := HR.out.2.2.1.below HBX.out
                have ho := HO.out
                rw [List.take_of_length_le (by omega)] at ho
                have h2 := h1.snoc (own_base ho hwz) hwl.symm
                have h3 := (h2.below ((Below.refl _ wr).alloc (Nat.le_refl _) _)).grownOwn hgrow6 ((HR.out.2.1.kept (grown_of_below HBX.out none) (Classical.em _)).alloc _) (by decide)
                exact h3.grown k3 hp6 (by decide)
              · intro r hr
                rw [hst.out, List.mem_append] at hr
                rcases hr with hr | hr
                · exact HR.out.2.2.2 r hr
                · rw [List.mem_singleton.1 hr]; exact HOK.out
            case measure => simp [intOf]; omega
      · have hno := hid (row_mem hlt)
        have HOK := hid hok
        by_cases hM0 : M = 0
        · subst hM0
          have ht2 : (((0 : Nat) : Int) == 0) = true := ieq_true rfl
          clear hok
          go_wp2_with fail
          have hfl := widD_no hno.out HOK.out
          exact bodyPost_ret (v := .tuple #[.agg #[.slice none 0 0, .slice none 0 0], .bool false]) (by simp [results, Try.results28, go_sem, f4, f5]) rfl (rwide_no hfl (HE.out _ _ _ hbw))
        · have ht2 : ((M : Int) == 0) = false := ieq_false (by omega)
          have ht1 : (((row d.next k).length : Int) != (M : Int)) = true := ine_true (fun e => hok ⟨by rw [HM.out, e], by rw [HM.out]; omega⟩)
          clear hok
          go_wp2_with fail
          have hfl := widD_no hno.out HOK.out
          exact bodyPost_ret (v := .tuple #[.agg #[.slice none 0 0, .slice none 0 0], .bool false]) (by simp [results, Try.results28, go_sem, f4, f5]) rfl (rwide_no hfl (HE.out _ _ _ hbw))
    · obtain rfl : k = d.next.length := by omega
      have hHR := HR.out
      rw [List.take_length] at hHR
      have hwd : widD gs d = ⟨d.next.map (widRow gs), d.tells⟩ := if_pos hHR.2.2.2
      have hl1 : (widD gs d).next.length = d.next.length := by rw [hwd]; simp
      have hl2 : (widD gs d).tells.length = d.tells.length := by rw [hwd]
      have hWZ := HWZ.out
      have hisd : IsD wr (fun b => b ≠ w.heap.size + 1) (.agg #[.slice nA d.next.length nC, .slice TA d.tells.length tc]) (widD gs d) := by
        rw [hwd]
        exact ⟨_, _, rfl, (hHR.2.2.1.isRows (by rw [List.length_map]; exact hHR.2.1)).mono (fun b hb _ => by omega), (HTS.out.mono (S' := fun b => b ≠ w.heap.size + 1) (fun b _ hlt => by omega)).below hbw⟩
      clear hWZ
      have HI := hid hisd
      have HL1 := hid hl1
      have HL2 := hid hl2
      by_cases hM0 : M = 0
      · have hfl : rightB (widD gs d) = false := by
          have hnil : d.next.length = 0 := by
            rcases Nat.eq_zero_or_pos d.next.length with h | h
            · exact h
            · exact absurd (by rw [HM.out, hM0]; rfl) (hHR.2.2.2 _ (row_mem h)).2
          cases hb : rightB (widD gs d) with
          | false => rfl
          | true => have := (right_rows hb).2.1; omega
        subst hM0
        have ht2 : (((0 : Nat) : Int) == 0) = true := ieq_true rfl
        have HFL := hid hfl
        clear hHR hwd hl1 hl2 hisd hfl
        go_wp2_with fail
        exact bodyPost_ret (v := .tuple #[.agg #[.slice none 0 0, .slice none 0 0], .bool false]) (by simp [results, Try.results28, go_sem, f4, f5]) rfl (rwide_no HFL.out (HE.out _ _ _ hbw))
      · have ht2 : ((M : Int) == 0) = false := ieq_false (by omega)
        have hq : ∀ Y, Below wr.heap.size wr Y → Y.heap[p]? = some (.cells #[.slice nA d.next.length nC, .slice TA d.tells.length tc] 29 (0, 0)) := fun Y hY => (hY.block p hpl).trans hHR.1
        have HQ := hid hq
        clear hHR hwd hl1 hl2 hisd hq
        cases hr : rightB (widD gs d) with
        | true =>
          go_wp2_with (go_at_call 22; refine (refRight_any _ _ _ _ HI.out).mono ?_; rintro e w9 ⟨rfl, hb9⟩; rw [hr]; clear x1 x2 x3 x4 f1 f2 f3 f4 f5 f6 f7 f8; obtain ⟨x1, x2, x3, x4⟩ := slot2 (HQ.out _ hb9); obtain ⟨f1, f2, f3, f4, f5, f6, f7, f8⟩ := HF.out _ (hbr.trans (hb9.mono hwz)))
          have hbel := HE.out _ (.slice nA d.next.length nC) (.slice TA d.tells.length tc) (hbw.trans (hb9.mono hbw.size))
          have hgq : w9.grownBy ((w9.setCell ⟨w.heap.size + 1, 0, none⟩ (.slice nA d.next.length nC)).setCell ⟨w.heap.size + 1, 1, none⟩ (.slice TA d.tells.length tc)) (some (w.heap.size + 1)) := grown_setCell (grown_setCell (World.grownBy.refl _ _) _ _) _ _
          have hd9 := ((HI.out.below hb9).keep (fun b hb hlt => hgq.block b hlt (fun e => by injection e with e; exact hb e))).mono (S' := fun _ => True) (fun _ _ _ => trivial)
          refine bodyPost_ret (v := .tuple #[.agg #[.slice nA d.next.length nC, .slice TA d.tells.length tc], .bool true]) (by simp [results, Try.results28, go_sem, f4, f5]) rfl ⟨widD gs d, nA, nC, TA, tc, by rw [if_pos hr], by rw [hr, HL1.out, HL2.out], ?_, hbel⟩
          rw [HL1.out, HL2.out]
          exact hd9
        | false =>
          go_wp2_with (go_at_call 22; refine (refRight_any _ _ _ _ HI.out).mono ?_; rintro e w9 ⟨rfl, hb9⟩; rw [hr]; clear x1 x2 x3 x4 f1 f2 f3 f4 f5 f6 f7 f8; obtain ⟨f1, f2, f3, f4, f5, f6, f7, f8⟩ := HF.out _ (hbr.trans (hb9.mono hwz)))
          exact bodyPost_ret (v := .tuple #[.agg #[.slice none 0 0, .slice none 0 0], .bool false]) (by simp [results, Try.results28, go_sem, f4, f5]) rfl (rwide_no hr (HE.out _ _ _ (hbw.trans (hb9.mono hbw.size))))
end Go.Proofs.Ytmdkmobcglnmgaa
