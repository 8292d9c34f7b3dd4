/- A place's block: the walk. Conditions: right entries in memory, noted. -/
import Derived.Test.YtehchnagjdmdgaaPa
import Derived.Test.YtehchnagjdmdgaaGt
namespace Go.Proofs.Ytehchnagjdmdgaa
open Go.RowKit
set_option linter.unusedSimpArgs false
theorem z76_size : Z76.size = 256 := by simp [Z76, B256]
def fillF (z : Int) (j : Nat) (k : Nat) : Int := if k < j then z else 0
theorem fill_step (z : Int) {j : Nat} (h : j < 256) : (B256 (fillF z j)).set j z = B256 (fillF z (j + 1)) := by
  rw [B256_set _ h]
  refine B256_ext fun k _ => ?_
  by_cases e : k = j
  · subst e; rw [upd_same]; unfold fillF; rw [if_pos (by omega)]
  · rw [upd_other _ _ e]; unfold fillF
    by_cases h1 : k < j
    · rw [if_pos h1, if_pos (by omega)]
    · rw [if_neg h1, if_neg (by omega)]
theorem z76_blk {w : World} {g : Nat} (h : w.heap[g]? = some (.cells Z76 76 (0, 0))) : IntBlk w g 76 .u8 (B256 (fillF 0 0)) := by
  have e : B256 (fillF 0 0) = B256 fun _ => 0 := B256_ext fun k _ => by simp [fillF]
  unfold IntBlk
  rw [e]
  exact h
theorem fill0 (z : Int) : B256 (fillF z 0) = B256 (fillF 0 0) := B256_ext fun k _ => by simp [fillF]
theorem fill256 (z : Int) : B256 (fillF z 256) = B256 fun _ => z := B256_ext fun k hk => by simp [fillF, hk]
set_option maxRecDepth 100000 in
set_option maxHeartbeats 4000000 in
theorem at_any {B q p : Nat} {A : Option Addr} {c : Nat} {es : List Ent} {b : Bl} {w : World} {other : Int} (h : Bd w B q (.slice A es.length c) b) (hE : IsEnts w (fun x => x < B) (.slice A es.length c) es) (hle : es.length ≤ 200) (hr : ∀ e ∈ es, goodE e = true)
    (ho : 0 ≤ other ∧ other ≤ 255) (hp : p < 4352) (ha : AsTo es other b p es.length) :
    Calls Try.prog 28 #[.pointer (some ⟨q, 0, none⟩), .int .i64 p, .int .i64 other] w fun e w' => e = .returned (encB (B256 fun k => valOf es other b p ((p : Int) * 256 + (k : Nat)))) ∧ Below w.heap.size w w' := by
  have HD := hid h
  have HE := hid hE
  have HG := hid hr
  have HA := hid ha
  have HBZ := hid (show B ≤ w.heap.size from Nat.le_trans h.base (Nat.le_of_lt h.lt))
  obtain ⟨q0, cw, -, cp⟩ := h.cells
  have c1 := cw p hp
  obtain ⟨PA, pc, c3, hown⟩ := cp p hp
  have HOW := hid hown
  have hpn := ha.len
  have hwz : 0 ≤ b.whole p ∧ b.whole p ≤ es.length := ⟨ha.2.2.2.1, ha.2.2.2.2⟩
  obtain ⟨z, hz⟩ : ∃ z, z = b.whole p := ⟨_, rfl⟩
  rw [← hz] at c1 hwz
  obtain ⟨y, hy⟩ : ∃ y, y = baseOf es other b p := ⟨_, rfl⟩
  have hyb : 0 ≤ y ∧ y ≤ 255 := by
    rw [hy]
    unfold baseOf
    split
    · rename_i h0
      have hm := HG.out _ (ent_mem (es := es) (i := (b.whole p - 1).toNat) (by omega))
      unfold goodE at hm
      simp only [Bool.and_eq_true, decide_eq_true_eq] at hm
      exact ⟨hm.1.2, hm.2⟩
    · exact ho
  have HYY := hid (show y = if 0 < z then (ent es (z - 1).toNat).2 else other by rw [hy, hz]; rfl)
  have HV := hid (show ∀ r, valOf es other b p r = paintL es (b.parts p) y r from fun r => by rw [hy]; rfl)
  obtain ⟨L, hL⟩ : ∃ L, L = b.parts p := ⟨_, rfl⟩
  rw [← hL] at c3 hpn HOW HV
  have HLB := hid (show ∀ j ∈ L, 0 ≤ j ∧ j < es.length from fun j hj => ha.2.2.1 j (by rw [← hL]; exact hj))
  have HCW := hid (show IntKind.u8.wrap y = y by simp [IntKind.wrap, IntKind.bits, IntKind.signed]; omega)
  obtain ⟨o6, ho6⟩ : ∃ n, n = w.heap.size := ⟨_, rfl⟩
  obtain ⟨o7, ho7⟩ : ∃ n, n = w.heap.size + 1 := ⟨_, rfl⟩
  obtain ⟨W1, hW1⟩ : ∃ W, W = w.alloc (.cells Z76 76) := ⟨_, rfl⟩
  obtain ⟨X, hX⟩ : ∃ W, W = W1.alloc (.cells Z76 76) := ⟨_, rfl⟩
  have z1 : W1.heap.size = w.heap.size + 1 := by rw [hW1]; simp
  have hb1 : Below w.heap.size w W1 := by rw [hW1]; exact (Below.refl _ _).alloc (Nat.le_refl _) _
  have hb2 : Below W1.heap.size W1 X := by rw [hX]; exact (Below.refl _ _).alloc (Nat.le_refl _) _
  have HBX := hid (ends_true hb1 hb2)
  have H6 := hid (show X.heap[o6]? = some (.cells Z76 76 (0, 0)) from (hb2.block o6 (by omega)).trans (by rw [hW1, ho6]; exact heap_alloc_new _ _))
  have H7 := hid (z76_blk (show X.heap[o7]? = some (.cells Z76 76 (0, 0)) by rw [hX, ho7, ← z1]; exact heap_alloc_new _ _))
  have HX67 := hid (show o6 ≠ o7 ∧ w.heap.size ≤ o6 ∧ w.heap.size ≤ o7 by omega)
  have HKP := hid (show ∀ Y : World, (∀ x, x < w.heap.size → Y.heap[x]? = w.heap[x]?) → Y.cell? ⟨q, 0, none⟩ = some (.slice A es.length c) ∧ Y.cell? ⟨q, 1 + p, none⟩ = some (.int .i64 z) ∧ Y.cell? ⟨q, 4353 + p, none⟩ = some (.slice PA L.length pc) from fun Y hY =>
    ⟨(World.cell?_of_block (a := ⟨q, 0, none⟩) (hY q h.lt)).trans q0, (World.cell?_of_block (a := ⟨q, 1 + p, none⟩) (hY q h.lt)).trans c1, (World.cell?_of_block (a := ⟨q, 4353 + p, none⟩) (hY q h.lt)).trans c3⟩)
  have hpi : (p : Int) < 4352 := by omega
  obtain ⟨x0, x1, x3⟩ := HKP.out X (fun x hx => HBX.out.block x hx)
  have HW1 := hid hW1
  have HXE := hid hX
  have HZ1 := hid z1
  have HO6 := hid ho6
  have HO7 := hid ho7
  clear hL
  clear ho6 ho7 h hE hr ha hown hz hy q0 cw cp c1 c3 hW1 hX z1 hb1 hb2
  go_enter Try.func28, Try.ntmps28
  by_cases hz0 : 0 < z
  · obtain ⟨z0, rfl⟩ : ∃ z0 : Nat, z = (z0 : Int) + 1 := ⟨(z - 1).toNat, by omega⟩
    have hz0l : z0 < es.length := by omega
    obtain ⟨eb, eo, SA, sc, rfl, -, heb, -, e1, -, -⟩ := HE.out.at hz0l
    have e1x := (HBX.out.cell (p := ⟨eb, eo + z0 * 2 + 1, none⟩) heb).trans e1
    rw [show (ent es z0).2 = y by rw [HYY.out, if_pos hz0]; congr 2; omega] at e1x
    clear e1 hz0
    go_wp2_with (first
      | (refine wpList_alloc_of rfl 76 rfl (.agg Z76) zero76 ?_; rw [show (Value.agg Z76).cells = Z76 from rfl]; (first | (rw [← HW1.out, ← HO6.out]) | (rw [← HXE.out, HZ1.out, ← HO7.out])))
      | fail)
    go_loopw [29] (fun s29 wr => ∃ (j : Nat), j ≤ 256 ∧ s29 = .int .i64 j ∧ Hid (IntBlk wr o7 76 .u8 (B256 (fillF y j))) ∧ Hid (wr.heap[o6]? = some (.cells Z76 76 (0, 0))) ∧ Hid (Below w.heap.size w wr)) (fun s29 _ => 256 - (intOf s29).toNat)
    case atStart => exact ⟨0, by omega, rfl, hid (by rw [fill0]; exact H7.out), H6, HBX⟩
    case round =>
      clear H6 H7 HBX
      obtain ⟨j, hj, rfl, H7, H6, HBX⟩ := hrel
      by_cases hjl : j < 256
      · have hcell := H7.out.cell (j := j) (by rw [B256_len]; exact hjl)
        have hfr := H7.out.frozen j
        have hji : (j : Int) < 256 := by omega
        have H7n := hid (show IntBlk (wr.setCell ⟨o7, j, none⟩ (.int .u8 y)) o7 76 .u8 (B256 (fillF y (j + 1))) by rw [← fill_step y hjl]; exact H7.out.set j y)
        have H6n := hid (show (wr.setCell ⟨o7, j, none⟩ (.int .u8 y)).heap[o6]? = some (.cells Z76 76 (0, 0)) by rw [heap_setCell_other _ _ _ _ HX67.out.1]; exact H6.out)
        have HBn := hid (HBX.out.setCell (p := ⟨o7, j, none⟩) HX67.out.2.2 (.int .u8 y))
        go_wp2_with fail
        exact ⟨⟨j + 1, by omega, by go_num, H7n, H6n, HBn⟩, by simp [intOf]; omega⟩
      · have HJ := hid (show j = 256 by omega)
        have H7s := hid (show IntBlk wr o7 76 .u8 (B256 fun k => paintL es (L.take 0) y ((p : Int) * 256 + (k : Nat))) by rw [List.take_zero]; have h := H7.out; rwa [HJ.out, fill256] at h)
        obtain ⟨x0, x1, x3⟩ := HKP.out wr (fun x hx => HBX.out.block x hx)
        go_wp2_with fail
        clear hjl hj
        go_loopw [44] (fun s44 wk => ∃ (t : Nat), t ≤ L.length ∧ s44 = .int .i64 t ∧ Hid (IntBlk wk o7 76 .u8 (B256 fun k => paintL es (L.take t) y ((p : Int) * 256 + (k : Nat)))) ∧ Hid (wk.heap[o6]? = some (.cells Z76 76 (0, 0))) ∧ Hid (Below w.heap.size w wk)) (fun s44 _ => L.length - (intOf s44).toNat)
        case atStart => exact ⟨0, by omega, rfl, H7s, H6, HBX⟩
        case round =>
          clear H6 H7 H7s HBX
          obtain ⟨t, ht, rfl, H7, H6, HBX⟩ := hrel
          by_cases htl : t < L.length
          · have HOWt := hid (show OwnI wr B (.slice PA L.length pc) L from own_moved HOW.out fun k _ hk => HBX.out.block k hk)
            obtain ⟨ab, ao, ac, ea, -, hab, ca⟩ := (own_nums HOWt.out).at (j := t) htl
            obtain ⟨rfl, -⟩ : PA = some ⟨ab, ao, none⟩ ∧ pc = ac := by injection ea with e1 e2 e3; exact ⟨e1, e3⟩
            have hj0 := HLB.out _ (nth_mem htl)
            obtain ⟨j0, hj0e⟩ : ∃ j0 : Nat, nth L t = (j0 : Int) := ⟨(nth L t).toNat, by omega⟩
            have hj0l : j0 < es.length := by omega
            rw [hj0e] at ca
            have HGj := hid (HG.out _ (ent_mem hj0l))
            have HST := hid (show ∀ f : Nat → Int, (∀ k, f k = paintL es (L.take t) y ((p : Int) * 256 + (k : Nat))) → B256 (pntF (ent es j0).1 p (ent es j0).2 f) = B256 fun k => paintL es (L.take (t + 1)) y ((p : Int) * 256 + (k : Nat)) from fun f hf => B256_ext fun k _ => by
              rw [take_nth htl, paint_snoc, hj0e, Int.toNat_natCast]
              unfold pntF
              rw [hf])
            clear hj0 hj0e ea
            go_wp2_with fail
            have hg := HGj.out
            unfold goodE at hg
            simp only [Bool.and_eq_true, decide_eq_true_eq] at hg
            refine (paint_any (b := b) (f := fun k => paintL es (L.take t) y ((p : Int) * 256 + (k : Nat))) (HD.out.below HBX.out) (HE.out.imp (fun x hx _ => HBX.out.block x (Nat.lt_of_lt_of_le hx HBZ.out)) fun _ h _ => h) hj0l hle hg.1.1 ⟨hg.1.2, hg.2⟩ hp (Nat.le_trans HBZ.out HX67.out.2.2) H7.out).mono ?_
            rintro e w2 ⟨rfl, hf2, hk2, hb2⟩
            have H7n := hid (show IntBlk w2 o7 76 .u8 (B256 fun k => paintL es (L.take (t + 1)) y ((p : Int) * 256 + (k : Nat))) by rw [← HST.out _ fun _ => rfl]; exact hf2)
            have H6n := hid ((hk2 o6 (Array.getElem?_eq_some_iff.1 H6.out).1 HX67.out.1).trans H6.out)
            have HBn := hid (show Below w.heap.size w w2 from ⟨hb2.os.trans HBX.out.os, hb2.tape.trans HBX.out.tape, hb2.output.trans HBX.out.output, Nat.le_trans HBX.out.size hb2.size, fun x hx => (hk2 x (Nat.lt_of_lt_of_le hx HBX.out.size) (by have := HX67.out.2.2; omega)).trans (HBX.out.block x hx)⟩)
            clear hg hf2 hk2 hb2
            go_wp2_with fail
            exact ⟨⟨t + 1, by omega, by go_num, H7n, H6n, HBn⟩, by simp [intOf]; omega⟩
          · obtain rfl : t = L.length := by omega
            obtain ⟨cells, hcells⟩ : ∃ cs, cs = ((B256 fun k => paintL es L y ((p : Int) * 256 + (k : Nat))).map (Value.int .u8)).toArray := ⟨_, rfl⟩
            have hF : wr.heap[o7]? = some (.cells cells 76 (0, 0)) := by rw [hcells]; have h := H7.out; rw [List.take_length] at h; exact h
            have hsz : cells.size = 256 := by rw [hcells]; simp [B256]
            have h1c : cells.all (·.oneCell') = true := by rw [hcells]; simp [Value.oneCell']
            have HF := hid hF
            have HSZ := hid hsz
            have H1C := hid h1c
            have HCE := hid (show Value.agg cells = encB (B256 fun k => valOf es other b p ((p : Int) * 256 + (k : Nat))) by
              rw [hcells]
              exact congrArg encB (B256_ext fun k _ => (HV.out _).symm))
            clear hcells hF hsz h1c
            go_wp2_with (first
              | (refine wpList_load_row rfl 76 (.tmp 7) rfl o7 rfl 76 cells (0, 0) _ HF.out Try.underlying76 rfl (by rw [size76, HSZ.out]) ?_) | (refine wp_load_row 76 (.tmp 7) rfl o7 rfl 76 cells (0, 0) _ HF.out Try.underlying76 rfl (by rw [size76, HSZ.out]) ?_) | (refine wp_store_row 76 (.tmp 6) (.tmp 53) rfl o6 cells rfl rfl 76 Z76 H6.out (by rw [size76, HSZ.out]) (by rw [HSZ.out, z76_size]) H1C.out ?_) | (refine wpList_store_row rfl 76 (.tmp 6) (.tmp 53) rfl o6 cells rfl rfl 76 Z76 H6.out (by rw [size76, HSZ.out]) (by rw [HSZ.out, z76_size]) H1C.out ?_)
              | fail)
            have hrow := setRow_heap wr o6 Z76 cells 76 (0, 0) H6.out
            refine bodyPost_ret (v := .agg cells) (results_cell_row rfl _ _ o6 76 cells (0, 0) _ rfl hrow Try.underlying76 rfl (by rw [size76, HSZ.out])) rfl ⟨by rw [HCE.out], ?_⟩
            refine ⟨HBX.out.os, HBX.out.tape, HBX.out.output, ?_, fun x hx => ?_⟩
            · have := HBX.out.size; simpa [World.setRow] using this
            · have hne : ¬ o6 = x := by have := HX67.out.2.1; omega
              rw [← HBX.out.block x hx]
              simp [World.setRow, Array.getElem?_modify, hne]
  · have hyo : y = other := by rw [HYY.out, if_neg hz0]
    subst hyo
    go_wp2_with (first
      | (refine wpList_alloc_of rfl 76 rfl (.agg Z76) zero76 ?_; rw [show (Value.agg Z76).cells = Z76 from rfl]; (first | (rw [← HW1.out, ← HO6.out]) | (rw [← HXE.out, HZ1.out, ← HO7.out])))
      | fail)
    go_loopw [29] (fun s29 wr => ∃ (j : Nat), j ≤ 256 ∧ s29 = .int .i64 j ∧ Hid (IntBlk wr o7 76 .u8 (B256 (fillF y j))) ∧ Hid (wr.heap[o6]? = some (.cells Z76 76 (0, 0))) ∧ Hid (Below w.heap.size w wr)) (fun s29 _ => 256 - (intOf s29).toNat)
    case atStart => exact ⟨0, by omega, rfl, hid (by rw [fill0]; exact H7.out), H6, HBX⟩
    case round =>
      clear H6 H7 HBX
      obtain ⟨j, hj, rfl, H7, H6, HBX⟩ := hrel
      by_cases hjl : j < 256
      · have hcell := H7.out.cell (j := j) (by rw [B256_len]; exact hjl)
        have hfr := H7.out.frozen j
        have hji : (j : Int) < 256 := by omega
        have H7n := hid (show IntBlk (wr.setCell ⟨o7, j, none⟩ (.int .u8 y)) o7 76 .u8 (B256 (fillF y (j + 1))) by rw [← fill_step y hjl]; exact H7.out.set j y)
        have H6n := hid (show (wr.setCell ⟨o7, j, none⟩ (.int .u8 y)).heap[o6]? = some (.cells Z76 76 (0, 0)) by rw [heap_setCell_other _ _ _ _ HX67.out.1]; exact H6.out)
        have HBn := hid (HBX.out.setCell (p := ⟨o7, j, none⟩) HX67.out.2.2 (.int .u8 y))
        go_wp2_with fail
        exact ⟨⟨j + 1, by omega, by go_num, H7n, H6n, HBn⟩, by simp [intOf]; omega⟩
      · have HJ := hid (show j = 256 by omega)
        have H7s := hid (show IntBlk wr o7 76 .u8 (B256 fun k => paintL es (L.take 0) y ((p : Int) * 256 + (k : Nat))) by rw [List.take_zero]; have h := H7.out; rwa [HJ.out, fill256] at h)
        obtain ⟨x0, x1, x3⟩ := HKP.out wr (fun x hx => HBX.out.block x hx)
        go_wp2_with fail
        clear hjl hj
        go_loopw [44] (fun s44 wk => ∃ (t : Nat), t ≤ L.length ∧ s44 = .int .i64 t ∧ Hid (IntBlk wk o7 76 .u8 (B256 fun k => paintL es (L.take t) y ((p : Int) * 256 + (k : Nat)))) ∧ Hid (wk.heap[o6]? = some (.cells Z76 76 (0, 0))) ∧ Hid (Below w.heap.size w wk)) (fun s44 _ => L.length - (intOf s44).toNat)
        case atStart => exact ⟨0, by omega, rfl, H7s, H6, HBX⟩
        case round =>
          clear H6 H7 H7s HBX
          obtain ⟨t, ht, rfl, H7, H6, HBX⟩ := hrel
          by_cases htl : t < L.length
          · have HOWt := hid (show OwnI wr B (.slice PA L.length pc) L from own_moved HOW.out fun k _ hk => HBX.out.block k hk)
            obtain ⟨ab, ao, ac, ea, -, hab, ca⟩ := (own_nums HOWt.out).at (j := t) htl
            obtain ⟨rfl, -⟩ : PA = some ⟨ab, ao, none⟩ ∧ pc = ac := by injection ea with e1 e2 e3; exact ⟨e1, e3⟩
            have hj0 := HLB.out _ (nth_mem htl)
            obtain ⟨j0, hj0e⟩ : ∃ j0 : Nat, nth L t = (j0 : Int) := ⟨(nth L t).toNat, by omega⟩
            have hj0l : j0 < es.length := by omega
            rw [hj0e] at ca
            have HGj := hid (HG.out _ (ent_mem hj0l))
            have HST := hid (show ∀ f : Nat → Int, (∀ k, f k = paintL es (L.take t) y ((p : Int) * 256 + (k : Nat))) → B256 (pntF (ent es j0).1 p (ent es j0).2 f) = B256 fun k => paintL es (L.take (t + 1)) y ((p : Int) * 256 + (k : Nat)) from fun f hf => B256_ext fun k _ => by
              rw [take_nth htl, paint_snoc, hj0e, Int.toNat_natCast]
              unfold pntF
              rw [hf])
            clear hj0 hj0e ea
            go_wp2_with fail
            have hg := HGj.out
            unfold goodE at hg
            simp only [Bool.and_eq_true, decide_eq_true_eq] at hg
            refine (paint_any (b := b) (f := fun k => paintL es (L.take t) y ((p : Int) * 256 + (k : Nat))) (HD.out.below HBX.out) (HE.out.imp (fun x hx _ => HBX.out.block x (Nat.lt_of_lt_of_le hx HBZ.out)) fun _ h _ => h) hj0l hle hg.1.1 ⟨hg.1.2, hg.2⟩ hp (Nat.le_trans HBZ.out HX67.out.2.2) H7.out).mono ?_
            rintro e w2 ⟨rfl, hf2, hk2, hb2⟩
            have H7n := hid (show IntBlk w2 o7 76 .u8 (B256 fun k => paintL es (L.take (t + 1)) y ((p : Int) * 256 + (k : Nat))) by rw [← HST.out _ fun _ => rfl]; exact hf2)
            have H6n := hid ((hk2 o6 (Array.getElem?_eq_some_iff.1 H6.out).1 HX67.out.1).trans H6.out)
            have HBn := hid (show Below w.heap.size w w2 from ⟨hb2.os.trans HBX.out.os, hb2.tape.trans HBX.out.tape, hb2.output.trans HBX.out.output, Nat.le_trans HBX.out.size hb2.size, fun x hx => (hk2 x (Nat.lt_of_lt_of_le hx HBX.out.size) (by have := HX67.out.2.2; omega)).trans (HBX.out.block x hx)⟩)
            clear hg hf2 hk2 hb2
            go_wp2_with fail
            exact ⟨⟨t + 1, by omega, by go_num, H7n, H6n, HBn⟩, by simp [intOf]; omega⟩
          · obtain rfl : t = L.length := by omega
            obtain ⟨cells, hcells⟩ : ∃ cs, cs = ((B256 fun k => paintL es L y ((p : Int) * 256 + (k : Nat))).map (Value.int .u8)).toArray := ⟨_, rfl⟩
            have hF : wr.heap[o7]? = some (.cells cells 76 (0, 0)) := by rw [hcells]; have h := H7.out; rw [List.take_length] at h; exact h
            have hsz : cells.size = 256 := by rw [hcells]; simp [B256]
            have h1c : cells.all (·.oneCell') = true := by rw [hcells]; simp [Value.oneCell']
            have HF := hid hF
            have HSZ := hid hsz
            have H1C := hid h1c
            have HCE := hid (show Value.agg cells = encB (B256 fun k => valOf es y b p ((p : Int) * 256 + (k : Nat))) by
              rw [hcells]
              exact congrArg encB (B256_ext fun k _ => (HV.out _).symm))
            clear hcells hF hsz h1c
            go_wp2_with (first
              | (refine wpList_load_row rfl 76 (.tmp 7) rfl o7 rfl 76 cells (0, 0) _ HF.out Try.underlying76 rfl (by rw [size76, HSZ.out]) ?_) | (refine wp_load_row 76 (.tmp 7) rfl o7 rfl 76 cells (0, 0) _ HF.out Try.underlying76 rfl (by rw [size76, HSZ.out]) ?_) | (refine wp_store_row 76 (.tmp 6) (.tmp 53) rfl o6 cells rfl rfl 76 Z76 H6.out (by rw [size76, HSZ.out]) (by rw [HSZ.out, z76_size]) H1C.out ?_) | (refine wpList_store_row rfl 76 (.tmp 6) (.tmp 53) rfl o6 cells rfl rfl 76 Z76 H6.out (by rw [size76, HSZ.out]) (by rw [HSZ.out, z76_size]) H1C.out ?_)
              | fail)
            have hrow := setRow_heap wr o6 Z76 cells 76 (0, 0) H6.out
            refine bodyPost_ret (v := .agg cells) (results_cell_row rfl _ _ o6 76 cells (0, 0) _ rfl hrow Try.underlying76 rfl (by rw [size76, HSZ.out])) rfl ⟨by rw [HCE.out], ?_⟩
            refine ⟨HBX.out.os, HBX.out.tape, HBX.out.output, ?_, fun x hx => ?_⟩
            · have := HBX.out.size; simpa [World.setRow] using this
            · have hne : ¬ o6 = x := by have := HX67.out.2.1; omega
              rw [← HBX.out.block x hx]
              simp [World.setRow, Array.getElem?_modify, hne]
end Go.Proofs.Ytehchnagjdmdgaa
