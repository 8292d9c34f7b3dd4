/- The wide table of a narrow one: what the program's wide, Wide and Right return. Conditions: a table that is not too long. -/
import Derived.Test.YtmdkmobcglnmgaaPg
import Derived.Deep.RegionWith
import Derived.Deep.Cut
namespace Go.Proofs.Ytmdkmobcglnmgaa
open Go.RowKit

def widRow (gs r : List Int) : List Int := gs.map fun g => nth r g.toNat
def widN (gs r : List Int) : Nat → List Int
  | 0 => List.replicate 37 0
  | c + 1 => (widN gs r c).set c (nth r (nth gs c).toNat)
theorem widN_len (gs r : List Int) (c : Nat) : (widN gs r c).length = 37 := by
  induction c with
  | zero => simp [widN]
  | succ c ih => simp [widN, ih]
theorem widN_at (gs r : List Int) : ∀ c, c ≤ 37 → ∀ m, m < c → nth (widN gs r c) m = nth r (nth gs m).toNat := by
  intro c
  induction c with
  | zero => intro _ m h; omega
  | succ c ih =>
    intro hc m hm
    simp only [widN]
    rw [nth_set (by rw [widN_len]; omega)]
    by_cases e : c = m
    · rw [if_pos e, e]
    · rw [if_neg e]; exact ih (by omega) m (by omega)
theorem widRow_at (gs r : List Int) {m : Nat} (h : m < gs.length) : nth (widRow gs r) m = nth r (nth gs m).toNat := by
  unfold widRow
  show ((gs.map fun g => nth r g.toNat)[m]?).getD 0 = _
  rw [List.getElem?_map, some_nth h]
  rfl
theorem widN_full {gs r : List Int} (h : gs.length = 37) : widN gs r 37 = widRow gs r :=
  nth_ext (by rw [widN_len]; simp [widRow, h]) fun m hm => by
    rw [widN_len] at hm
    rw [widN_at gs r 37 (Nat.le_refl _) m hm, widRow_at gs r (by omega)]
def widOk (gs r : List Int) : Prop := (r.length : Int) = manyL gs ∧ manyL gs ≠ 0
instance (gs r : List Int) : Decidable (widOk gs r) := inferInstanceAs (Decidable (_ ∧ _))
/-- The wide table; the empty one where a row is not as long as it must be. -/
def widD (gs : List Int) (d : D) : D := if ∀ r ∈ d.next, widOk gs r then ⟨d.next.map (widRow gs), d.tells⟩ else ⟨[], []⟩
def WidAns (w : World) (gs : List Int) (d : D) (e : Ending) (w' : World) : Prop :=
  ∃ NA nc TA tc, e = .returned (.agg #[.slice NA (widD gs d).next.length nc, .slice TA (widD gs d).tells.length tc]) ∧
    IsD w' (fun b => w.heap.size ≤ b) (.agg #[.slice NA (widD gs d).next.length nc, .slice TA (widD gs d).tells.length tc]) (widD gs d) ∧ Below w.heap.size w w'
theorem isD_nil (w : World) (S : Nat → Prop) : IsD w S (.agg #[.slice none 0 0, .slice none 0 0]) ⟨[], []⟩ :=
  ⟨_, _, rfl, ⟨none, 0, [], rfl, Nat.le_refl _, Nat.zero_le _, Arr.nil, rfl, (fun k r h => by simp at h)⟩, ⟨none, 0, rfl, Nat.le_refl _, Nat.zero_le _, Arr.nil⟩⟩
theorem widAns_no {w w' : World} {gs : List Int} {d : D} {r : List Int} (hr : r ∈ d.next) (h : ¬ widOk gs r) (hb : Below w.heap.size w w') : WidAns w gs d (.returned (.agg #[.slice none 0 0, .slice none 0 0])) w' := by
  have e : widD gs d = ⟨[], []⟩ := if_neg fun hh => h (hh r hr)
  unfold WidAns
  rw [e]
  exact ⟨none, 0, none, 0, rfl, isD_nil _ _, hb⟩

theorem slot2 {Y : World} {p : Nat} {a b : Value} {t : TypeId} (h : Y.heap[p]? = some (.cells #[a, b] t (0, 0))) :
    Y.cell? ⟨p, 0, none⟩ = some a ∧ Y.cell? ⟨p, 1, none⟩ = some b ∧ Y.frozen? ⟨p, 0, none⟩ = false ∧ Y.frozen? ⟨p, 1, none⟩ = false :=
  ⟨by rw [cell_of_row _ _ _ _ _ _ h]; rfl, by rw [cell_of_row _ _ _ _ _ _ h]; rfl, frozen_of_row _ _ _ _ _ h, frozen_of_row _ _ _ _ _ h⟩
theorem setA {Y W : World} {B p t : Nat} {a b u : Value} (hy : Y.heap[p]? = some (.cells #[a, b] t (0, 0))) (hb : Below B W Y) (hp : B ≤ p) :
    (Y.setCell ⟨p, 0, none⟩ u).heap[p]? = some (.cells #[u, b] t (0, 0)) ∧ Below B W (Y.setCell ⟨p, 0, none⟩ u) ∧ Y.grownBy (Y.setCell ⟨p, 0, none⟩ u) (some p) :=
  ⟨heap_setCell_same Y p 0 _ t u hy, hb.setCell hp _, grown_setCell (World.grownBy.refl _ _) _ _⟩

set_option maxRecDepth 100000 in
set_option maxHeartbeats 4000000 in
theorem wide_any (S : Nat → Prop) (vg nv tv : Value) (gs : List Int) (d : D) (w : World) (hg : IsNums .i64 w S vg gs) (hd : IsD w S (.agg #[nv, tv]) d) (hn1000 : d.next.length ≤ 1000) (ht1000 : d.tells.length ≤ 1000) :
    Calls Try.prog 55 #[.agg #[vg, nv, tv]] w (WidAns w gs d) := by
  obtain ⟨GA, gc, rfl⟩ := hg.form
  obtain ⟨nv, tv, e0, hn, ht⟩ := hd
  obtain ⟨rfl, rfl⟩ : nv = _ ∧ tv = _ := by simpa using e0.symm
  obtain ⟨NA, nc, rfl⟩ := hn.form
  obtain ⟨TA, tc, e, htsrc⟩ := nums_src ht
  subst e
  have HG := hid hg
  have HTS := hid htsrc
  have HN := hid hn
  obtain ⟨W, hW0⟩ : ∃ W, W = (w.alloc (Obj.cells #[Value.slice GA gs.length gc, Value.slice NA d.next.length nc, Value.slice TA d.tells.length tc] 40)).alloc (Obj.cells #[.slice none 0 0, .slice none 0 0] 30) := ⟨_, rfl⟩
  have hWb : Below w.heap.size w W := by rw [hW0]; exact ((Below.refl _ _).alloc (Nat.le_refl _) _).alloc (by simp) _
  have q1 : W.heap[w.heap.size]? = some (.cells #[Value.slice GA gs.length gc, Value.slice NA d.next.length nc, Value.slice TA d.tells.length tc] 40 (0, 0)) := by rw [hW0]; exact (heap_alloc_old _ _ (by simp)).trans (heap_alloc_new _ _)
  have q2 : W.heap[w.heap.size + 1]? = some (.cells #[.slice none 0 0, .slice none 0 0] 30 (0, 0)) := by rw [hW0]; exact heap_alloc2_new _ _ _
  have hWz : W.heap.size = w.heap.size + 2 := by rw [hW0]; simp
  have hfacts : ∀ w1, Below W.heap.size W w1 → w1.cell? ⟨w.heap.size, 0, none⟩ = some (Value.slice GA gs.length gc) ∧ w1.cell? ⟨w.heap.size, 1, none⟩ = some (Value.slice NA d.next.length nc) ∧ w1.cell? ⟨w.heap.size, 2, none⟩ = some (Value.slice TA d.tells.length tc) ∧
      w1.cell? ⟨w.heap.size + 1, 0, none⟩ = some (.slice none 0 0) ∧ w1.cell? ⟨w.heap.size + 1, 1, none⟩ = some (.slice none 0 0) ∧
      w1.frozen? ⟨w.heap.size + 1, 0, none⟩ = false ∧ w1.frozen? ⟨w.heap.size + 1, 1, none⟩ = false ∧ w.heap.size + 1 < w1.heap.size := by
    intro w1 hb
    obtain ⟨a1, a2, a3, _, _, _⟩ := slot3 ((hb.block _ (by omega)).trans q1)
    obtain ⟨b1, b2, b3, b4⟩ := slot2 ((hb.block _ (by omega)).trans q2)
    exact ⟨a1, a2, a3, b1, b2, b3, b4, by have := hb.size; omega⟩
  have HW := hid hW0
  have HF := hid hfacts
  have hend : ∀ (w1 : World) (c0 c1 : Value), Below w.heap.size w w1 → Below w.heap.size w ((w1.setCell ⟨w.heap.size + 1, 0, none⟩ c0).setCell ⟨w.heap.size + 1, 1, none⟩ c1) := fun w1 c0 c1 h => (h.setCell (by simp) _).setCell (by simp) _
  have HE := hid hend
  obtain ⟨f1, f2, f3, f4, f5, f6, f7, f8⟩ := hfacts W (Below.refl _ _)
  clear hend q1 q2 hg hn ht htsrc hfacts e0
  obtain ⟨hm0, hm37, hmr⟩ := manyL_le gs
  obtain ⟨M, hM⟩ : ∃ M : Nat, manyL gs = (M : Int) := ⟨(manyL gs).toNat, by omega⟩
  rw [hM] at hm37 hmr
  have HM := hid hM
  have hmr' := hid hmr
  have o2 := one_nums .u64 d.tells
  have O2 := hid o2
  have HWZ := hid hWz
  clear hM hm0 hmr o2 hWz
  go_enter Try.func55, Try.ntmps55
  go_wp2_with fail
  rw [← hW0]
  clear hW0
  go_wp2_with (first
    | (go_at_call 50; refine (clone50_s TA d.tells.length tc _ _ (HTS.out.below hWb) O2.out (by omega)).mono ?_; rintro e w1 ⟨A1, c1, rfl, hown1, hb1⟩
       have hb1' : Below W.heap.size W (w1.alloc (.cells #[.slice none 0 0, .slice A1 d.tells.length c1] 30)) := hb1.alloc hb1.size _
       obtain ⟨g1, g2, g3, g4, g5, g6, g7, g8⟩ := HF.out _ hb1'
       have HO1 := hid hown1
       clear hown1)
    | (go_at_call 19; refine (many_any S _ _ _ ((HG.out.below hWb).below hb1')).mono ?_; rintro e w2 ⟨rfl, hb2⟩; rw [HM.out]
       have hb12 : Below W.heap.size W w2 := hb1'.trans (hb2.mono hb1'.size)
       have hp2 : w2.heap[w1.heap.size]? = some (.cells #[.slice none 0 0, .slice A1 d.tells.length c1] 30 (0, 0)) := slot_kept hb2
       obtain ⟨x1, x2, x3, x4⟩ := slot2 hp2
       clear g1 g2 g3 g4 g5 g6 g7 g8
       obtain ⟨g1, g2, g3, g4, g5, g6, g7, g8⟩ := HF.out _ hb12))
  obtain ⟨i0, hi0, hz0, hz1, hz2⟩ := info_parts info32
  have HO2 := hid ((HO1.out.alloc (.cells #[.slice none 0 0, .slice (A1) d.tells.length c1] 30)).kept (grown_of_below hb2 none) (Classical.em _))
  have HP2 := hid hp2
  have hpW : W.heap.size ≤ w1.heap.size := hb1.size
  obtain ⟨p, hpe⟩ : ∃ p, p = w1.heap.size := ⟨_, rfl⟩
  rw [← hpe] at HP2 x1 x2 x3 x4 hpW ⊢
  obtain ⟨V, hV⟩ : ∃ V : World, V = w2 := ⟨_, rfl⟩
  rw [← hV] at HP2 HO2 hb12 x1 x2 x3 x4 g1 g2 g3 g4 g5 g6 g7 g8 ⊢
  clear hV hpe hp2 HO1
  clear hb2 hb1' hb1
  go_loopw [20] (fun s20 wr => ∃ (k : Nat) (nx : Value) (us : List Value), k ≤ d.next.length ∧ s20 = .int .i64 k ∧ Hid (wr.heap[p]? = some (.cells #[nx, .slice A1 d.tells.length c1] 30 (0, 0)) ∧
      wr.ownsRow W.heap.size 32 1 nx k us ∧ OwnRows wr W.heap.size us ((d.next.take k).map (widRow gs)) ∧ (∀ r ∈ d.next.take k, widOk gs r) ∧
      wr.ownsRow W.heap.size 52 1 (.slice A1 d.tells.length c1) d.tells.length (d.tells.map (.int .u64))) ∧ Below W.heap.size W wr) (fun s20 _ => d.next.length - (intOf s20).toNat)
  case atStart => exact ⟨0, _, [], by omega, rfl, ⟨HP2.out, World.ownsRow_nil _ _ _ _, OwnRows.nil _ _, (fun r hr => by simp at hr), HO2.out⟩, hb12⟩
  case round =>
    obtain ⟨k, nx, us', hk, rfl, HR, hbr⟩ := hrel
    obtain ⟨nA, nC, rfl, _⟩ := own_arr HR.out.2.1
    clear x1 x2 x3 x4 g1 g2 g3 g4 g5 g6 g7 g8 f1 f2 f3 f4 f5 f6 f7 f8
    obtain ⟨x1, x2, x3, x4⟩ := slot2 HR.out.1
    obtain ⟨f1, f2, f3, f4, f5, f6, f7, f8⟩ := HF.out wr hbr
    have hpl : p < wr.heap.size := (Array.getElem?_eq_some_iff.1 HR.out.1).1
    have hbw := hWb.trans (hbr.mono hWb.size)
    have hwz := hbr.size
    by_cases hlt : k < d.next.length
    · obtain ⟨NA', nc', us, e0, hnl, hNA, hNR⟩ := (HN.out.below hbw).open
      obtain ⟨e1, e2⟩ : NA = NA' ∧ nc = nc' := by simpa using e0
      subst e1 e2
      obtain ⟨b1, o1, A1', c1', rfl, _, hb1, hc1, hl1, hl2, hl3, hN1⟩ := hNR.at hNA hlt
      have hrw := hid hN1
      have hst := hid (take_row hlt)
      clear e0 hNA hNR hN1
      by_cases hok : widOk gs (row d.next k)
      · have hlen : (row d.next k).length = M := by have := hok.1; have := HM.out; omega
        have hM0 : M ≠ 0 := by intro e; apply hok.2; rw [HM.out, e]; rfl
        rw [hlen] at hc1
        have ht1 : ((M : Int) != (M : Int)) = false := ine_false rfl
        have ht2 : ((M : Int) == 0) = false := ieq_false (by omega)
        have HOK := hid hok
        have HL := hid hlen
        obtain ⟨hg37, hgb⟩ := hmr'.out (by omega)
        have HG37 := hid hg37
        have HGB := hid hgb
        obtain ⟨Z, hZ⟩ : ∃ Z : Array Value, Z = ((List.replicate 37 (0 : Int)).map (Value.int .i64)).toArray := ⟨_, rfl⟩
        have hmk : ∀ w : World, (Instr.makeSlice 32 (.int .i64 37) (.int .i64 37)).run Try.prog w = .ok (.slice (some ⟨w.heap.size, 0, none⟩) 37 37) (w.alloc (.cells Z 3)) := by
          intro w; rw [hZ]
          exact run_make_ints (P := Try.prog) 32 3 .i64 .i64 .i64 Try.underlying32 info3 37 (by omega) w
        obtain ⟨h1, h2, h3, h4, h5, h6, h7, h8⟩ := HF.out (wr.alloc (.cells Z 3)) (hbr.alloc hwz _)
        have hblk0 : IntBlk (wr.alloc (.cells Z 3)) wr.heap.size 3 .i64 (widN gs (row d.next k) 0) := by rw [hZ]; exact heap_alloc_new wr _
        have HB0 := hid hblk0
        clear hok hlen hgb hZ hblk0 hg37
        go_wp2_with fail
        clear hmk h1 h2 h3 h4 h5 h6 h7 h8 f1 f2 f3 f4 f5 f6 f7 f8 ht1 ht2
        obtain ⟨wo, rfl⟩ : ∃ wo : World, wo = wr := ⟨_, rfl⟩
        go_loopw [37] (fun s37 wx => ∃ c : Nat, c ≤ gs.length ∧ s37 = .int .i64 c ∧ IntBlk wx wo.heap.size 3 .i64 (widN gs (row d.next k) c) ∧ Below wo.heap.size wo wx) (fun s37 _ => gs.length - (intOf s37).toNat)
        case atStart => exact ⟨0, by omega, rfl, HB0.out, (Below.refl _ _).alloc (Nat.le_refl _) _⟩
        case round =>
          obtain ⟨c, hc, rfl, hblk, hbx⟩ := hrel
          have HBX := hid hbx
          by_cases hlt2 : c < gs.length
          · have hc37 : c < 37 := by have := HG37.out; omega
            obtain ⟨q1, q2⟩ := HGB.out c hc37
            obtain ⟨gm, hgm⟩ : ∃ gm : Nat, nth gs c = (gm : Int) := ⟨(nth gs c).toNat, by omega⟩
            obtain ⟨b2, o2, g2c, e0, _, hb2, hc2⟩ := (HG.out.below hbw).at (j := c) (by omega)
            obtain ⟨rfl, rfl⟩ : GA = some ⟨b2, o2, none⟩ ∧ gc = g2c := by simpa using e0
            have hgm2 : gm < (row d.next k).length := by rw [HL.out]; omega
            obtain ⟨b3, o3, rfl, _, hb3, hc3⟩ := hrw.out.num (j := gm) hgm2
            rw [hgm] at hc2 q1 q2
            have hc2w : wr.cell? ⟨b2, o2 + c, none⟩ = some (.int .i64 gm) := (hbx.cell (p := ⟨b2, o2 + c, none⟩) hb2).trans hc2
            have hc3w : wr.cell? ⟨b3, o3 + gm, none⟩ = some (.int .i64 (nth (row d.next k) gm)) := (hbx.cell (p := ⟨b3, o3 + gm, none⟩) hb3).trans hc3
            have q3 : gm < M := by omega
            have hc4 : wr.cell? ⟨wo.heap.size, c, none⟩ = some (.int .i64 (nth (widN gs (row d.next k) c) c)) := hblk.cell (by rw [widN_len]; exact hc37)
            have hf4 : wr.frozen? ⟨wo.heap.size, c, none⟩ = false := hblk.frozen c
            have HBL := hid hblk
            have HGM := hid hgm
            clear hblk hgm hc2 hc3 e0 hgm2 x1 x2 x3 x4
            go_wp2_with fail
            go_roundw
            case rel =>
              refine ⟨c + 1, by omega, by go_num, ?_, hbx.setCell (Nat.le_refl _) _⟩
              have h1 := HBL.out.set c (nth (row d.next k) gm)
              show IntBlk _ _ _ _ ((widN gs (row d.next k) c).set c (nth (row d.next k) (nth gs c).toNat))
              rw [HGM.out]
              exact h1
            case measure => simp [intOf]; omega
          · obtain rfl : c = gs.length := by omega
            have hblk : IntBlk wr wo.heap.size 3 .i64 (widRow gs (row d.next k)) := by have h := hblk; rw [HG37.out, widN_full HG37.out] at h; exact h
            have hwl : (widRow gs (row d.next k)).length = 37 := by simp [widRow, HG37.out]
            have hp5 := (hbx.block p hpl).trans HR.out.1
            clear x1 x2 x3 x4
            obtain ⟨x1, x2, x3, x4⟩ := slot2 hp5
            have hf10 : ∀ (w6 : World) (O : Obj), (wr.alloc O).grownBy w6 (Value.slice nA k nC).ownBlock → w6.heap[p]? = some (.cells #[.slice nA k nC, .slice A1 d.tells.length c1] 30 (0, 0)) := fun w6 O h6 => by
              have := hbx.size
              exact (h6.block p (by simp; omega) (Ne.symm (own_blk_ne HR.out.2.1 HR.out.1 (by decide)))).trans ((heap_alloc_old _ _ (by omega)).trans hp5)
            have HF10 := hid hf10
            have HB5 := hid hblk
            have hone1 : (Value.slice (some ⟨wo.heap.size, 0, none⟩) 37 37).oneCell' = true := rfl
            clear hf10 hblk hbx hp5
            go_wp2_with (at_builtin; refine wpList_app_s _ rfl (.tmp 51) (.tmp 53) 25 rfl W.heap.size 32 i0 _ 1 24 Try.underlying25 hi0 hz0 hz1 hz2 rfl (by decide) (.slice nA k nC) k us' rfl ((HR.out.2.1.kept (grown_of_below HBX.out none) (Classical.em _)).alloc _) (some ⟨wr.heap.size, 0, none⟩) 1 1 _ rfl (src_new wr _ 32 1 rfl) (by simp [Value.oneCell']) (by simp only [maxLen]; omega) (by omega) (by have := HBX.out.size; simp; omega) ?_; intro xA xC w6 hown6 hgrow6 hat6; clear x1 x2 x3 x4; obtain ⟨x1, x2, x3, x4⟩ := slot2 (HF10.out w6 _ hgrow6))

            have hz5 := HBX.out.size
            have hp6 := HF10.out w6 _ hgrow6
            obtain ⟨k1, k2, k3⟩ := setA (u := .slice xA (k + 1) xC) hp6 (below_own ((hbr.trans (HBX.out.mono hwz)).alloc (by omega) _) ((HR.out.2.1.kept (grown_of_below HBX.out none) (Classical.em _)).alloc _) hgrow6 (by simp; omega)) hpW
            go_roundw
            case rel =>
              refine ⟨k + 1, _, _, by omega, by go_num, ⟨k1, hown6.kept k3 (.inr (own_blk_ne hown6 hp6 (by decide))), ?_, ?_, ?_⟩, k2⟩
              · rw [hst.out, List.map_append]
                have h1 : OwnRows wr W.heap.size us' _ := HR.out.2.2.1.below HBX.out
                have h2 := h1.snoc HB5.out hwz (by omega)
                rw [hwl] at h2
                have h3 := (h2.below ((Below.refl _ wr).alloc (Nat.le_refl _) _)).grownOwn hgrow6 ((HR.out.2.1.kept (grown_of_below HBX.out none) (Classical.em _)).alloc _) (by decide)
                exact h3.grown k3 hp6 (by decide)
              · intro r hr
                rw [hst.out, List.mem_append] at hr
                rcases hr with hr | hr
                · exact HR.out.2.2.2.1 r hr
                · rw [List.mem_singleton.1 hr]; exact HOK.out
              · have h1 := (HR.out.2.2.2.2.kept (grown_of_below HBX.out none) (Classical.em _)).alloc (Obj.cells #[Value.slice (some ⟨wo.heap.size, 0, none⟩) 37 37] 32)
                have h2 := h1.kept hgrow6 (own_own HR.out.2.2.2.2 HR.out.2.1 (by decide))
                exact h2.kept k3 (.inr (own_blk_ne h2 hp6 (by decide)))
            case measure => simp [intOf]; omega
      · have hno := hid (row_mem hlt)
        have HOK := hid hok
        by_cases hlm : (row d.next k).length = M
        · have hM0 : M = 0 := by
            by_cases e : M = 0
            · exact e
            · exact absurd ⟨by rw [HM.out, hlm], by rw [HM.out]; omega⟩ hok
          subst hM0
          rw [hlm] at hc1
          have ht1 : (((0 : Nat) : Int) != ((0 : Nat) : Int)) = false := ine_false rfl
          have ht2 : (((0 : Nat) : Int) == 0) = true := ieq_true rfl
          clear hok hlm
          go_wp2_with fail
          exact bodyPost_ret (v := .agg #[.slice none 0 0, .slice none 0 0]) (by simp [results, Try.results55, go_sem, f4, f5]) rfl (widAns_no hno.out HOK.out (HE.out _ _ _ hbw))
        · have ht1 : (((row d.next k).length : Int) != (M : Int)) = true := ine_true (by omega)
          clear hok
          go_wp2_with fail
          exact bodyPost_ret (v := .agg #[.slice none 0 0, .slice none 0 0]) (by simp [results, Try.results55, go_sem, f4, f5]) rfl (widAns_no hno.out HOK.out (HE.out _ _ _ hbw))
    · obtain rfl : k = d.next.length := by omega
      go_wp2_with fail
      have hHR := HR.out
      rw [List.take_length] at hHR
      have hwd : widD gs d = ⟨d.next.map (widRow gs), d.tells⟩ := if_pos hHR.2.2.2.1
      have hl1 : (widD gs d).next.length = d.next.length := by rw [hwd]; simp
      have hl2 : (widD gs d).tells.length = d.tells.length := by rw [hwd]
      have hWZ := HWZ.out
      have hgq : wr.grownBy ((wr.setCell ⟨w.heap.size + 1, 0, none⟩ (.slice nA d.next.length nC)).setCell ⟨w.heap.size + 1, 1, none⟩ (.slice A1 d.tells.length c1)) (some (w.heap.size + 1)) := grown_setCell (grown_setCell (World.grownBy.refl _ _) _ _) _ _
      have r2 := hHR.2.2.2.2.kept hgq (.inr (own_ne_lt hHR.2.2.2.2 (by omega)))
      have r3 := hHR.2.1.kept hgq (.inr (own_ne_lt hHR.2.1 (by omega)))
      have r4 := hHR.2.2.1.keepB (fun b hb hlt => hgq.block b hlt (fun e => by injection e with e; omega))
      have r5 := (r4.isRows (by rw [List.length_map]; exact r3)).mono (S' := fun b => w.heap.size ≤ b) (fun b hb _ => by omega)
      have r6 := (own_nums r2).mono (S' := fun b => w.heap.size ≤ b) (fun b hb _ => by omega)
      refine bodyPost_ret (v := .agg #[.slice nA d.next.length nC, .slice A1 d.tells.length c1]) (by simp [results, Try.results55, go_sem, f4, f5]) rfl ⟨nA, nC, A1, c1, by rw [hl1, hl2], ?_, HE.out _ _ _ hbw⟩
      rw [hl1, hl2, hwd]
      exact ⟨_, _, rfl, r5, r6⟩
end Go.Proofs.Ytmdkmobcglnmgaa
