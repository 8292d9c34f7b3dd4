/- The reference's narrow table: what ref.Make returns by a right grouping, of a right table. -/
import Derived.Test.YtmdkmobcglnmgaaWd
import Derived.Test.YtmdkmobcglnmgaaMk
import Derived.Deep.RegionWith
import Derived.Deep.Cut
namespace Go.Proofs.Ytmdkmobcglnmgaa
open Go.RowKit

def RMakeAns (w : World) (gs : List Int) (d : D) (e : Ending) (w' : World) : Prop :=
  ((∀ r ∈ d.next, fitsB gs r (manyL gs).toNat = true) ∧ (∃ GA gc nA nc TA tc, e = .returned (.tuple #[.agg #[.slice GA gs.length gc, .slice nA d.next.length nc, .slice TA d.tells.length tc], .bool true]) ∧ IsNums .i64 w' (fun _ => True) (.slice GA gs.length gc) gs ∧
    IsRows w' (fun _ => True) (.slice nA d.next.length nc) (d.next.map fun r => narrowL gs r (manyL gs).toNat) ∧ IsNums .u64 w' (fun _ => True) (.slice TA d.tells.length tc) d.tells) ∧ Below w.heap.size w w') ∨
  ((∃ r ∈ d.next, fitsB gs r (manyL gs).toNat = false) ∧ e = .returned (.tuple #[.agg #[.slice none 0 0, .slice none 0 0, .slice none 0 0], .bool false]) ∧ Below w.heap.size w w')

set_option maxRecDepth 100000 in
set_option maxHeartbeats 4000000 in
theorem rmake_any (S S' : Nat → Prop) (vg vd : Value) (gs : List Int) (d : D) (w : World) (hg : IsNums .i64 w S vg gs) (hd : IsD w S' vd d) (hm : manyL gs ≠ 0) (hr : rightB d = true) :
    Calls Try.prog 23 #[vg, vd] w (RMakeAns w gs d) := by
  obtain ⟨GA, gc, rfl⟩ := hg.form
  obtain ⟨nv, tv, rfl, hn, ht⟩ := hd
  obtain ⟨NA, nc, rfl⟩ := hn.form
  obtain ⟨TA, tc, rfl⟩ := ht.form
  have HG := hid hg
  have HN := hid hn
  have HT := hid ht
  obtain ⟨W, hW0⟩ : ∃ W, W = (w.alloc (Obj.cells #[Value.slice NA d.next.length nc, Value.slice TA d.tells.length tc] 29)).alloc (Obj.cells #[.slice none 0 0, .slice none 0 0, .slice none 0 0] 45) := ⟨_, rfl⟩
  have hWb : Below w.heap.size w W := by rw [hW0]; exact ((Below.refl _ _).alloc (Nat.le_refl _) _).alloc (by simp) _
  have q1 : W.heap[w.heap.size]? = some (.cells #[Value.slice NA d.next.length nc, Value.slice TA d.tells.length tc] 29 (0, 0)) := by rw [hW0]; exact (heap_alloc_old _ _ (by simp)).trans (heap_alloc_new _ _)
  have q2 : W.heap[w.heap.size + 1]? = some (.cells #[.slice none 0 0, .slice none 0 0, .slice none 0 0] 45 (0, 0)) := by rw [hW0]; exact heap_alloc2_new _ _ _
  have hWz : W.heap.size = w.heap.size + 2 := by rw [hW0]; simp
  have hfacts : ∀ w1, Below W.heap.size W w1 → w1.cell? ⟨w.heap.size, 0, none⟩ = some (Value.slice NA d.next.length nc) ∧ w1.cell? ⟨w.heap.size, 1, none⟩ = some (Value.slice TA d.tells.length tc) ∧
      w1.cell? ⟨w.heap.size + 1, 0, none⟩ = some (.slice none 0 0) ∧ w1.cell? ⟨w.heap.size + 1, 1, none⟩ = some (.slice none 0 0) ∧ w1.cell? ⟨w.heap.size + 1, 2, none⟩ = some (.slice none 0 0) ∧
      w1.frozen? ⟨w.heap.size + 1, 0, none⟩ = false ∧ w1.frozen? ⟨w.heap.size + 1, 1, none⟩ = false ∧ w1.frozen? ⟨w.heap.size + 1, 2, none⟩ = false ∧ w.heap.size + 1 < w1.heap.size := by
    intro w1 hb
    obtain ⟨a1, a2, _, _⟩ := slot2 ((hb.block _ (by omega)).trans q1)
    obtain ⟨b1, b2, b3, b4, b5, b6⟩ := slot3 ((hb.block _ (by omega)).trans q2)
    exact ⟨a1, a2, b1, b2, b3, b4, b5, b6, by have := hb.size; omega⟩
  have HW := hid hW0
  have HF := hid hfacts
  have hend : ∀ (w1 : World) (c0 c1 c2 : Value), Below w.heap.size w w1 → Below w.heap.size w (((w1.setCell ⟨w.heap.size + 1, 0, none⟩ c0).setCell ⟨w.heap.size + 1, 1, none⟩ c1).setCell ⟨w.heap.size + 1, 2, none⟩ c2) := fun w1 c0 c1 c2 h => ((h.setCell (by simp) _).setCell (by simp) _).setCell (by simp) _
  have HE := hid hend
  obtain ⟨f1, f2, f3, f4, f5, f6, f7, f8, f9⟩ := hfacts W (Below.refl _ _)
  obtain ⟨hm0, hm37, hmr⟩ := manyL_le gs
  obtain ⟨hg37, hgb⟩ := hmr hm
  obtain ⟨M, hM⟩ : ∃ M : Nat, manyL gs = (M : Int) := ⟨(manyL gs).toNat, by omega⟩
  rw [hM] at hm37 hgb
  have hM37 : M ≤ 37 := by omega
  have HM := hid hM
  have HG37 := hid hg37
  have HGB := hid hgb
  have hrr := hid (right_rows hr)
  have hn1000 : d.next.length ≤ 1000 := hrr.out.1
  have HWZ := hid hWz
  obtain ⟨i0, hi0, hz0, hz1, hz2⟩ := info_parts info32
  obtain ⟨V, hV⟩ : ∃ V : World, V = W.alloc (.cells #[.slice GA gs.length gc, .slice none 0 0, .slice TA d.tells.length tc] 45) := ⟨_, rfl⟩
  have hVb : Below W.heap.size W V := by rw [hV]; exact (Below.refl _ _).alloc (Nat.le_refl _) _
  have HP2 := hid (show V.heap[W.heap.size]? = some (.cells #[.slice GA gs.length gc, .slice none 0 0, .slice TA d.tells.length tc] 45 (0, 0)) by rw [hV]; exact heap_alloc_new _ _)
  have hmk := fun w => run_make_ints (P := Try.prog) 32 3 .i64 .i64 .i64 Try.underlying32 info3 M (by omega) w
  clear hend q1 q2 hg hn ht hfacts hm0 hmr hgb hg37 hm37 hM hWz hm hr
  go_enter Try.func23, Try.ntmps23
  go_wp2_with fail
  rw [← hW0]
  clear hW0
  go_wp2_with fail
  rw [← hV]
  clear hV f1 f2 f3 f4 f5 f6 f7 f8 f9
  obtain ⟨p, hpe⟩ : ∃ p, p = w.heap.size + 1 + 1 := ⟨_, rfl⟩
  have hpW : W.heap.size ≤ p := by have := HWZ.out; omega
  rw [← hpe]
  rw [show W.heap.size = p by have := HWZ.out; omega] at HP2
  clear hpe
  go_loopw [7] (fun s7 wr => ∃ (k : Nat) (nx : Value) (us : List Value), k ≤ d.next.length ∧ s7 = .int .i64 k ∧ Hid (wr.heap[p]? = some (.cells #[.slice GA gs.length gc, nx, .slice TA d.tells.length tc] 45 (0, 0)) ∧
      wr.ownsRow W.heap.size 32 1 nx k us ∧ OwnRows wr W.heap.size us ((d.next.take k).map fun r => narrowL gs r M) ∧ (∀ r ∈ d.next.take k, fitsB gs r M = true)) ∧ Below W.heap.size W wr) (fun s7 _ => d.next.length - (intOf s7).toNat)
  case atStart => exact ⟨0, _, [], by omega, rfl, ⟨HP2.out, World.ownsRow_nil _ _ _ _, OwnRows.nil _ _, (fun r hr => by simp at hr)⟩, hVb⟩
  case round =>
    obtain ⟨k, nx, us', hk, rfl, HR, hbr⟩ := hrel
    obtain ⟨nA, nC, rfl, _⟩ := own_arr HR.out.2.1
    obtain ⟨x1, x2, x3, x4, x5, x6⟩ := slot3 HR.out.1
    obtain ⟨f1, f2, f3, f4, f5, f6, f7, f8, f9⟩ := HF.out wr hbr
    have hpl : p < wr.heap.size := (Array.getElem?_eq_some_iff.1 HR.out.1).1
    have hbw := hWb.trans (hbr.mono hWb.size)
    have hwz := hbr.size
    by_cases hlt : k < d.next.length
    · obtain ⟨NA', nc', us, e0, hnl, hNA, hNR⟩ := (HN.out.below hbw).open
      obtain ⟨e1, e2⟩ : NA = NA' ∧ nc = nc' := by simpa using e0
      subst e1 e2
      obtain ⟨b1, o1, A1', c1', rfl, _, hb1, hc1, hl1, hl2, hl3, hN1⟩ := hNR.at hNA hlt
      have hrw := hid hN1
      have hst := hid (take_row hlt)
      have hr37 := hid (hrr.out.2.2.2 _ (row_mem hlt)).1
      rw [hr37.out] at hc1
      clear e0 hNA hNR hN1
      go_wp2_with ((go_at_call 20; refine (refMany_any S _ _ _ (HG.out.below hbw)).mono ?_; rintro e w5 ⟨rfl, hb5⟩; rw [HM.out]))
      have hblk0 := hid (show IntBlk (w5.alloc (.cells (((List.replicate M (0 : Int)).map (Value.int .i64)).toArray) 3)) w5.heap.size 3 .i64 (narN gs (row d.next k) M 0) from heap_alloc_new w5 _)
      obtain ⟨wo, rfl⟩ : ∃ wo : World, wo = wr := ⟨_, rfl⟩
      have hb5w := hbr.trans (hb5.mono hwz)
      have hwz5 := hb5.size
      go_loopw [9] (fun s9 wx => ∃ c : Nat, c ≤ 37 ∧ s9 = .int .i64 (36 - (c : Int)) ∧ IntBlk wx w5.heap.size 3 .i64 (narN gs (row d.next k) M c) ∧ Below w5.heap.size w5 wx) (fun s9 _ => (intOf s9 + 1).toNat)
      case atStart => exact ⟨0, by omega, rfl, by simpa [narN, IntBlk] using hblk0.out, (Below.refl _ _).alloc (Nat.le_refl _) _⟩
      case round =>
        obtain ⟨c, hc, rfl, hblk, hbx⟩ := hrel
        have HBL := hid hblk
        have HBX := hid hbx
        have hz := hblk.lt
        have hbxo : Below wo.heap.size wo wr := hb5.trans (hbx.mono hwz5)
        clear hblk hmk
        by_cases hltc : c < 37
        · obtain ⟨m, hmc⟩ : ∃ m : Nat, (36 - (c : Int)) = (m : Int) ∧ m = 36 - c ∧ m < 37 := ⟨36 - c, by omega, rfl, by omega⟩
          obtain ⟨e1, e2, hm37⟩ := hmc
          rw [e1]
          have HE2 := hid e2
          have HE1 := hid e1
          clear e1 e2
          obtain ⟨b2, o2, g2c, e0, _, hb2, hc2⟩ := (HG.out.below hbw).at (j := m) (by have := HG37.out; omega)
          obtain ⟨rfl, rfl⟩ : GA = some ⟨b2, o2, none⟩ ∧ gc = g2c := by simpa using e0
          obtain ⟨b3, o3, rfl, _, hb3, hc3⟩ := hrw.out.num (j := m) (by rw [hr37.out]; exact hm37)
          obtain ⟨q1, q2⟩ := HGB.out m hm37
          obtain ⟨gm, hgm⟩ : ∃ gm : Nat, nth gs m = (gm : Int) := ⟨(nth gs m).toNat, by omega⟩
          rw [hgm] at hc2 q1 q2
          have hc1w : wr.cell? ⟨b1, o1 + k, none⟩ = some (.slice (some ⟨b3, o3, none⟩) 37 c1') := (hbxo.cell (p := ⟨b1, o1 + k, none⟩) hb1).trans hc1
          have hc2w : wr.cell? ⟨b2, o2 + m, none⟩ = some (.int .i64 gm) := (hbxo.cell (p := ⟨b2, o2 + m, none⟩) hb2).trans hc2
          have hc3w : wr.cell? ⟨b3, o3 + m, none⟩ = some (.int .i64 (nth (row d.next k) m)) := (hbxo.cell (p := ⟨b3, o3 + m, none⟩) hb3).trans hc3
          clear f1 f2 f3 f4 f5 f6 f7 f8 f9
          obtain ⟨f1, f2, f3, f4, f5, f6, f7, f8, f9⟩ := HF.out wr (hbr.trans (hbxo.mono hwz))
          have q3 : gm < M := by omega
          have hc4 : wr.cell? ⟨w5.heap.size, gm, none⟩ = some (.int .i64 (nth (narN gs (row d.next k) M c) gm)) := HBL.out.cell (by rw [narN_len]; exact q3)
          have hf4 : wr.frozen? ⟨w5.heap.size, gm, none⟩ = false := HBL.out.frozen gm
          have hmi : (m : Int) < 37 := by omega
          have hm0 : (0 : Int) ≤ (m : Int) := by omega
          have hgl : m < gs.length := by have := HG37.out; omega
          have HGM := hid hgm
          have hWZ := HWZ.out
          have hne1 : ¬ b1 = w5.heap.size := by omega
          have hne2 : ¬ b2 = w5.heap.size := by omega
          have hne3 : ¬ b3 = w5.heap.size := by omega
          have hne4 : ¬ w.heap.size = w5.heap.size := by omega
          have hne5 : ¬ w5.heap.size = b1 := by omega
          have hne6 : ¬ w5.heap.size = b2 := by omega
          have hne7 : ¬ w5.heap.size = b3 := by omega
          have hne8 : ¬ w5.heap.size = w.heap.size := by omega
          clear hgm hc1 hc2 hc3 e0 hWZ x1 x2 x3 x4 x5 x6
          go_wp2_with fail
          go_region_held3 (fun Y => Y.cell? ⟨w.heap.size, 0, none⟩ = some (Value.slice (some ⟨b1, o1, none⟩) d.next.length nc) ∧ Y.cell? ⟨b1, o1 + k, none⟩ = some (.slice (some ⟨b3, o3, none⟩) 37 c1') ∧ Y.cell? ⟨b2, o2 + m, none⟩ = some (.int .i64 gm) ∧ Y.cell? ⟨b3, o3 + m, none⟩ = some (.int .i64 (nth (row d.next k) m))) (go_keep) (fail)
          go_wp2
          go_roundw
          case rel =>
            refine ⟨c + 1, by omega, ?_, ?_, ?_⟩
            · have := HE1.out; first | rfl | (show Value.int _ _ = Value.int _ _; congr 1; omega)
            · have h1 := HBL.out.set gm (nth (row d.next k) m)
              show IntBlk _ _ _ _ ((narN gs (row d.next k) M c).set (nth gs (36 - c)).toNat (nth (row d.next k) (36 - c)))
              rw [← HE2.out, HGM.out]
              exact h1
            · exact (HBX.out.setCell (p := ⟨w5.heap.size, gm, none⟩) (Nat.le_refl _) _).drew
          case measure => have := HE1.out; simp [intOf] <;> omega
        · obtain rfl : c = 37 := by omega
          have hneg : (36 - ((37 : Nat) : Int)) = -1 := by omega
          rw [hneg]
          clear hneg
          have hblk : IntBlk wr w5.heap.size 3 .i64 (narrowL gs (row d.next k) M) := HBL.out
          have hwl : (narrowL gs (row d.next k) M).length = M := narrowL_len _ _ _
          have hp5 := (hbxo.block p hpl).trans HR.out.1
          clear x1 x2 x3 x4 x5 x6
          obtain ⟨x1, x2, x3, x4, x5, x6⟩ := slot3 hp5
          have hbz := hbx.size
          have hf10 : ∀ (w6 : World) (O : Obj), (wr.alloc O).grownBy w6 (Value.slice nA k nC).ownBlock → w6.heap[p]? = some (.cells #[.slice GA gs.length gc, .slice nA k nC, .slice TA d.tells.length tc] 45 (0, 0)) := fun w6 O h6 => by
            exact (h6.block p (by simp; omega) (Ne.symm (own_blk_ne HR.out.2.1 HR.out.1 (by decide)))).trans ((heap_alloc_old _ _ (by omega)).trans hp5)
          have HF10 := hid hf10
          have HB5 := hid hblk
          have hO5 := hid (HR.out.2.1.kept (grown_of_below hbxo none) (Classical.em _))
          have hbxo' := hid hbxo
          clear hf10 hblk hp5 hbx hbxo f1 f2 f3 f4 f5 f6 f7 f8 f9
          go_wp2_with (at_builtin; refine wpList_app_s _ rfl (.tmp 44) (.tmp 46) 25 rfl W.heap.size 32 i0 _ 1 24 Try.underlying25 hi0 hz0 hz1 hz2 rfl (by decide) (.slice nA k nC) k us' rfl (hO5.out.alloc _) (some ⟨wr.heap.size, 0, none⟩) 1 1 _ rfl (src_new wr _ 32 1 rfl) (by simp [Value.oneCell']) (by simp only [maxLen]; omega) (by omega) (by simp; omega) ?_; intro xA xC w6 hown6 hgrow6 hat6; clear x1 x2 x3 x4 x5 x6; obtain ⟨x1, x2, x3, x4, x5, x6⟩ := slot3 (HF10.out w6 _ hgrow6))
          have hB6 : Below W.heap.size W w6 := below_own ((hbr.trans (hbxo'.out.mono hwz)).alloc (by omega) _) (hO5.out.alloc _) hgrow6 (by simp; omega)
          have hp6 := HF10.out w6 _ hgrow6
          obtain ⟨k1, k2, k3⟩ := setB (u := .slice xA (k + 1) xC) hp6 hB6 hpW
          have v1 : IntBlk w6 w5.heap.size 3 .i64 (narrowL gs (row d.next k) M) := (HB5.out.keep (heap_alloc_old _ (Obj.cells #[Value.slice (some ⟨w5.heap.size, 0, none⟩) M M] 32) HB5.out.lt)).keep (hgrow6.block _ (by have := HB5.out.lt; simp; omega) (Ne.symm (own_blk_ne hO5.out HB5.out (by decide))))
          have v2 := v1.keep (k3.block _ v1.lt (fun e => by injection e with e; omega))
          have v3 := hown6.kept k3 (.inr (own_blk_ne hown6 hp6 (by decide)))
          have v4 : OwnRows (w6.setCell ⟨p, 1, none⟩ (.slice xA (k + 1) xC)) W.heap.size (us' ++ [.slice (some ⟨w5.heap.size, 0, none⟩) M M]) ((d.next.take (k + 1)).map fun r => narrowL gs r M) := by
            rw [hst.out, List.map_append]
            have h1 : OwnRows wr W.heap.size us' _ := HR.out.2.2.1.below hbxo'.out
            have h2 := h1.snoc HB5.out (by omega) (by omega)
            rw [hwl] at h2
            have h3 := (h2.below ((Below.refl _ wr).alloc (Nat.le_refl _) _)).grownOwn hgrow6 (hO5.out.alloc _) (by decide)
            exact h3.grown k3 hp6 (by decide)
          obtain ⟨V, hV⟩ : ∃ V : World, V = w6.setCell ⟨p, 1, none⟩ (.slice xA (k + 1) xC) := ⟨_, rfl⟩
          rw [← hV] at k1 k2 v2 v3 v4 ⊢
          have HVp := hid k1
          have HVb := hid v2
          have HVo := hid v3
          have HVr := hid v4
          have HVB := hid k2
          have HALL := hid HR.out.2.2.2
          clear hV k1 k2 k3 v1 v2 v3 v4 hp6 hB6 hown6 hgrow6 hat6 HF10 HB5 hO5 x1 x2 x3 x4 x5 x6 hwl
          go_loopw [10] (fun s10 wx => ∃ m : Nat, m ≤ 37 ∧ s10 = .int .i64 m ∧ Hid (∀ j, j < m → nth (narrowL gs (row d.next k) M) (nth gs j).toNat = nth (row d.next k) j) ∧ Hid (∃ n, wx = V.drewN n)) (fun s10 _ => 37 - (intOf s10).toNat)
          case atStart => exact ⟨0, by omega, rfl, (fun j hj => absurd hj (by omega)), 0, rfl⟩
          case round =>
            obtain ⟨m, hm37, rfl, hT, hX⟩ := hrel
            have hbV : Below W.heap.size W wr := by obtain ⟨n, rfl⟩ := hX.out; exact below_drewN HVB.out _
            have hbx := hWb.trans (hbV.mono hWb.size)
            obtain ⟨f1, f2, f3, f4, f5, f6, f7, f8, f9⟩ := HF.out wr hbV
            by_cases hltm : m < 37
            · obtain ⟨NA', nc', us2, e0, _, hNA, hNR⟩ := (HN.out.below hbx).open
              obtain ⟨e1, e2⟩ : some ⟨b1, o1, none⟩ = NA' ∧ nc = nc' := by simpa using e0
              subst e1 e2
              obtain ⟨b1x, o1x, A1x, c1x, ex, _, hbq, hcq, _, _, _, hN1⟩ := hNR.at hNA hlt
              obtain ⟨rfl, rfl⟩ : b1 = b1x ∧ o1 = o1x := by simpa using ex
              rw [hr37.out] at hcq
              obtain ⟨b3, o3, rfl, _, hb3, hc3⟩ := hN1.num (j := m) (by rw [hr37.out]; exact hltm)
              obtain ⟨b2, o2, g2c, e4, _, hb2, hc2⟩ := (HG.out.below hbx).at (j := m) (by have := HG37.out; omega)
              obtain ⟨rfl, rfl⟩ : GA = some ⟨b2, o2, none⟩ ∧ gc = g2c := by simpa using e4
              obtain ⟨q1, q2⟩ := HGB.out m hltm
              obtain ⟨gm, hgm⟩ : ∃ gm : Nat, nth gs m = (gm : Int) := ⟨(nth gs m).toNat, by omega⟩
              rw [hgm] at hc2 q1 q2
              have q3 : gm < M := by omega
              have hc4 : wr.cell? ⟨w5.heap.size, gm, none⟩ = some (.int .i64 (nth (narrowL gs (row d.next k) M) gm)) := by
                obtain ⟨n, rfl⟩ := hX.out
                exact HVb.out.cell (by rw [narrowL_len]; exact q3)
              have hmi : (m : Int) < 37 := by omega
              have hm0 : (0 : Int) ≤ (m : Int) := by omega
              have hgl : (m : Int) < (gs.length : Int) := by have := HG37.out; omega
              have HGM := hid hgm
              clear hgm e0 e4 ex hNA hNR hN1
              by_cases he : nth (narrowL gs (row d.next k) M) gm = nth (row d.next k) m
              · have heb := ine_false he
                have HE2 := hid he
                clear he
                go_wp2_with fail
                go_quiet (fail)
                go_wp2_with fail
                go_roundw
                case rel =>
                  refine ⟨m + 1, by omega, by go_num, fun j hj => ?_, by obtain ⟨n, rfl⟩ := hX.out; exact ⟨_, World.drewN_drewN _ _ _⟩⟩
                  by_cases hjm : j < m
                  · exact hT.out j hjm
                  · obtain rfl : j = m := by omega
                    rw [HGM.out]; exact HE2.out
                case measure => simp [intOf]; omega
              · have heb := ine_true he
                have hfit := hid (show fitsB gs (row d.next k) M = false by
                  unfold fitsB
                  rw [List.all_eq_false]
                  exact ⟨m, by simp; omega, by rw [HGM.out]; simpa using he⟩)
                clear he
                go_wp2_with fail
                go_quiet (fail)
                go_wp2_with fail
                exact bodyPost_ret (v := .tuple #[.agg #[.slice none 0 0, .slice none 0 0, .slice none 0 0], .bool false]) (by simp [results, Try.results23, go_sem, f3, f4, f5]) rfl (.inr ⟨⟨_, row_mem hlt, by rw [HM.out, Int.toNat_natCast]; exact hfit.out⟩, rfl, HE.out _ _ _ _ (below_drewN hbx _)⟩)
            · obtain rfl : m = 37 := by omega
              have hfit := hid (show fitsB gs (row d.next k) M = true by
                unfold fitsB
                rw [List.all_eq_true]
                intro j hj
                have := hT.out j (by simpa using hj)
                simpa using this)
              go_wp2_with fail
              go_roundw
              case rel =>
                refine ⟨k + 1, .slice xA (k + 1) xC, us' ++ [.slice (some ⟨w5.heap.size, 0, none⟩) M M], by omega, by go_num, ?_, hbV⟩
                have hall : ∀ r ∈ d.next.take (k + 1), fitsB gs r M = true := by
                  intro r hr
                  rw [hst.out, List.mem_append] at hr
                  rcases hr with hr | hr
                  · exact HALL.out r hr
                  · rw [List.mem_singleton.1 hr]; exact hfit.out
                obtain ⟨n, rfl⟩ := hX.out
                exact ⟨HVp.out, HVo.out, HVr.out, hall⟩
              case measure => simp [intOf]; omega
    · obtain rfl : k = d.next.length := by omega
      go_wp2_with fail
      have hHR := HR.out
      rw [List.take_length] at hHR
      have hWZ := HWZ.out
      have hgq : wr.grownBy (((wr.setCell ⟨w.heap.size + 1, 0, none⟩ (.slice GA gs.length gc)).setCell ⟨w.heap.size + 1, 1, none⟩ (.slice nA d.next.length nC)).setCell ⟨w.heap.size + 1, 2, none⟩ (.slice TA d.tells.length tc)) (some (w.heap.size + 1)) := grown_setCell (grown_setCell (grown_setCell (World.grownBy.refl _ _) _ _) _ _) _ _
      have r3 := hHR.2.1.kept hgq (.inr (own_ne_lt hHR.2.1 (by omega)))
      have r4 := hHR.2.2.1.keepB (fun b hb hlt => hgq.block b hlt (fun e => by injection e with e; omega))
      have r5 := (r4.isRows (by rw [List.length_map]; exact r3)).mono (S' := fun _ => True) (fun _ _ _ => trivial)
      have hbel := HE.out wr (.slice GA gs.length gc) (.slice nA d.next.length nC) (.slice TA d.tells.length tc) hbw
      refine bodyPost_ret (v := .tuple #[.agg #[.slice GA gs.length gc, .slice nA d.next.length nC, .slice TA d.tells.length tc], .bool true]) (by simp [results, Try.results23, go_sem, f3, f4, f5]) rfl (.inl ⟨?_, ⟨GA, gc, nA, nC, TA, tc, rfl, (HG.out.below hbel).mono (fun _ _ _ => trivial), ?_, (HT.out.below hbel).mono (fun _ _ _ => trivial)⟩, hbel⟩)
      · intro r hr; rw [HM.out, Int.toNat_natCast]; exact hHR.2.2.2 r hr
      · rw [HM.out, Int.toNat_natCast]; exact r5
end Go.Proofs.Ytmdkmobcglnmgaa
