/- A knot more, an arrow more: the program's knot and free. Condition: at most a million knots. -/
import Derived.Test.YthdhbkngbmjjkaaNp
namespace Go.Proofs.Ythdhbkngbmjjkaa
open Go.RowKit
set_option linter.unusedSimpArgs false
theorem src_new3 (w : World) (a b c : Value) (T : TypeId) : Src (w.alloc (.cells #[a, b, c] T)) 3 (some ⟨w.heap.size, 0, none⟩) 1 [a, b, c] :=
  ⟨rfl, fun _ => ⟨_, rfl, fun j u hu => by
    have hb : (w.alloc (.cells #[a, b, c] T)).heap[w.heap.size]? = some (.cells #[a, b, c] T (0, 0)) := heap_alloc_new w _
    rw [Addr.add_lit, Nat.zero_add, cell_of_row _ _ j _ _ _ hb, ← Array.getElem?_toList]; exact hu⟩⟩
theorem KnAt.more {w' : World} {B : Nat} {v' : Value} {ks : List Kn} {V : Nat → Value} (hr : Rows3 w' B (2 * ks.length) V (knZ ks)) (ho : w'.ownsRow B 87 3 v' (ks.length + 1) (flat3 ks.length (knC V ks) ++ [.slice none 0 0, .slice none 0 0, .int .i64 0])) :
    KnAt w' B v' (ks ++ [⟨[], [], 0⟩]) := by
  refine ⟨fun a => if a < 2 * ks.length then V a else .slice none 0 0, ?_, ?_⟩
  · rw [List.length_append, List.length_singleton, flat3_succ]
    have e : flat3 ks.length (knC (fun a => if a < 2 * ks.length then V a else .slice none 0 0) (ks ++ [⟨[], [], 0⟩])) = flat3 ks.length (knC V ks) := flat3_congr fun i hi => by
      simp only [knC, kn_snoc, if_pos hi]
      rw [if_pos (by omega), if_pos (by omega)]
    rw [e]
    have e2 : knC (fun a => if a < 2 * ks.length then V a else .slice none 0 0) (ks ++ [⟨[], [], 0⟩]) ks.length = (.slice none 0 0, .slice none 0 0, .int .i64 0) := by
      simp only [knC, kn_snoc]
      rw [if_neg (by omega), if_neg (by omega), if_neg (by omega)]
      simp
    rw [e2]
    exact ho
  · have h := hr.more 2
    rw [List.length_append, List.length_singleton, show 2 * (ks.length + 1) = 2 * ks.length + 2 by omega]
    refine h.congr (fun _ _ => rfl) fun a ha => ?_
    unfold knZ
    simp only [kn_snoc]
    by_cases e : a < 2 * ks.length
    · have h1 : a / 2 < ks.length := by omega
      simp only [if_pos e, if_pos h1]
    · have h1 : ¬ a / 2 < ks.length := by omega
      have h2 : a / 2 = ks.length := by omega
      simp only [if_neg e, if_neg h1, if_pos h2]
      split <;> rfl
set_option maxRecDepth 100000 in
set_option maxHeartbeats 2000000 in
theorem knot_any (g B : Nat) (search : Bool) (m1 m2 : Value) (s : Bs) (w : World) (h : NB w g B search m1 m2 s) (hn : s.kns.length ≤ 1000000) :
    Calls Try.prog 45 #[.pointer (some ⟨g, 0, none⟩)] w fun e w' => e = .returned (.int .i64 s.kns.length) ∧ NB w' g B search m1 m2 s.knot ∧ Below B w w' ∧ Kp w w' := by
  obtain ⟨i0, hi0, hz0, hz1, hz2⟩ := info_parts info87
  obtain ⟨hB, lv, kv, hg, hl, V, ho, hr⟩ := h
  obtain ⟨ks, hks⟩ : ∃ ks, ks = s.kns := ⟨_, rfl⟩
  have HKS := hid hks
  rw [← hks] at ho hr hn ⊢
  obtain ⟨n, hnn⟩ : ∃ n, n = ks.length := ⟨_, rfl⟩
  have HNN := hid hnn
  rw [← hnn] at ho hn ⊢
  obtain ⟨A, c, rfl, -⟩ := own_arr ho
  obtain ⟨W, hW⟩ : ∃ W, W = w.alloc (.cells #[.slice none 0 0, .slice none 0 0, .int .i64 0] 87) := ⟨_, rfl⟩
  have hgl := (Array.getElem?_eq_some_iff.1 hg).1
  have HBW := hid (show Below w.heap.size w W by rw [hW]; exact (Below.refl _ _).alloc (Nat.le_refl _) _)
  have HO := hid (ho.alloc (.cells #[.slice none 0 0, .slice none 0 0, .int .i64 0] 87))
  have HR := hid (hr.below HBW.out)
  have HG := hid ((HBW.out.block g hgl).trans hg)
  have HGL := hid hgl
  have HL := hid (hl.keep (w' := W) fun b cs hh => HBW.out.block b (Array.getElem?_eq_some_iff.1 hh).1)
  have hne : (Value.slice A n c).ownBlock ≠ some g := own_blk_ne ho hg (by decide)
  have HNE := hid hne
  have HBG := hid hB
  rw [← hW] at HO
  obtain ⟨-, -, c2, -⟩ := slot5 hg
  have hBs : B ≤ W.heap.size := by have h1 := HBW.out.size; omega
  clear hks hnn hg hl ho hr hne hgl hB
  go_enter Try.func45, Try.ntmps45
  go_wp2_with (first
    | (at_builtin; (refine wpList_app _ rfl (.tmp 7) (.tmp 9) 83 rfl B 87 i0 _ 3 56 Try.underlying83 hi0 hz0 hz1 hz2 rfl (by decide) _ n _ rfl (by rw [← hW]; exact HO.out) _ 1 1 [.slice none 0 0, .slice none 0 0, .int .i64 0] rfl (src_new3 _ _ _ _ _) (by intro u hu; simp at hu; rcases hu with rfl | rfl <;> rfl) (by simp only [maxLen]; omega) (by omega) (by rw [← hW]; exact hBs) ?_); rw [← hW]; clear hW; intro v' w' hown hgrow hat; obtain ⟨A5, c5, rfl, -⟩ := own_arr hown; have HGw := hid ((hgrow.block g (by have h1 := HBW.out.size; have h2 := HGL.out; omega) (Ne.symm HNE.out)).trans HG.out); obtain ⟨k0, k1, k2, -, -, hf⟩ := slot5 HGw.out; have hf2 := hf 2; have HOW := hid hown; have HGR := hid hgrow; clear hown hgrow hat hf)
    | fail)
  go_ret
  have hset := heap_setCell_same w' g 2 _ 85 (.slice A5 (n + 1) c5) HGw.out
  have hown2 : (w'.setCell ⟨g, 2, none⟩ (.slice A5 (n + 1) c5)).ownsRow B 87 3 (.slice A5 (n + 1) c5) (n + 1) _ := ownsRow_setCell_other HOW.out (own_blk_ne HOW.out HGw.out (by decide)) _
  have hrw : Rows3 (w'.setCell ⟨g, 2, none⟩ (.slice A5 (n + 1) c5)) B (2 * ks.length) V (knZ ks) := HR.out.keep fun b cs hb =>
    (heap_setCell_other _ _ _ _ (fun e => by rw [e, HG.out] at hb; injection hb with hb; injection hb with _ hb; cases hb)).trans (HGR.out.block b (Array.getElem?_eq_some_iff.1 hb).1 (fun e => own_blk_ne HO.out hb (by decide) e.symm))
  have hlw : LfAt (w'.setCell ⟨g, 2, none⟩ (.slice A5 (n + 1) c5)) B lv s.lfs := HL.out.keep fun b cs hb =>
    (heap_setCell_other _ _ _ _ (fun e => by rw [e, HG.out] at hb; injection hb with hb; injection hb with _ hb; cases hb)).trans (HGR.out.block b (Array.getElem?_eq_some_iff.1 hb).1 (fun e => own_blk_ne HO.out hb (by decide) e.symm))
  refine ⟨?_, ⟨HBG.out, lv, _, hset, hlw, ?_⟩, ?_, (Kp.below HBW.out).trans ((Kp.grown HO.out (by simp) HGR.out).trans (Kp.set HGw.out (by simp)))⟩
  · exact ret_int (by omega)
  · show KnAt _ B _ (s.kns ++ [⟨[], [], 0⟩])
    rw [← HKS.out]
    refine KnAt.more hrw ?_
    rw [← HNN.out]; exact hown2
  · exact (((HBW.out.mono (show B ≤ w.heap.size by have h1 := HGL.out; have h2 := HBG.out; omega)).grown HGR.out hBs fun k hk => (HO.out.lt k hk).1).setCell (p := ⟨g, 2, none⟩) HBG.out _)
/-- One knot's row has been appended to, and stored. -/
theorem KnAt.put {wa w2 : World} {B kb n kc frm j : Nat} {V : Nat → Value} {ks : List Kn} {v' : Value} {zs : List Int} {k' : Kn} (ho : wa.ownsRow B 87 3 (.slice (some ⟨kb, 0, none⟩) n kc) n (flat3 n (knC V ks))) (hn : n = ks.length) (hr : Rows3 wa B (2 * n) V (knZ ks)) (hf : frm < n) (hj : j < 2)
    (hown : w2.ownsRow B 3 1 v' zs.length (zs.map (.int .i64))) (hg : wa.grownBy w2 (V (2 * frm + j)).ownBlock) (hat : v'.ownBlock = (V (2 * frm + j)).ownBlock ∨ ∃ g, wa.heap.size ≤ g ∧ v'.ownBlock = some g)
    (hk : k' = if j = 0 then ⟨zs, (kn ks frm).lv, (kn ks frm).fin⟩ else ⟨(kn ks frm).free, zs, (kn ks frm).fin⟩) :
    KnAt (w2.setCell ⟨kb, frm * 3 + j, none⟩ v') B (.slice (some ⟨kb, 0, none⟩) n kc) (ks.set frm k') := by
  have h1 := ho.kept hg (own_own ho (hr.1 (2 * frm + j) (by omega)) (by decide))
  have h2 := (h1.stored (frm * 3 + j) v').1
  have h3 := hr.put (a := 2 * frm + j) (by omega) hg hown hat
  refine ⟨fun a => if a = 2 * frm + j then v' else V a, ?_, ?_⟩
  · rw [List.length_set, ← hn]
    rw [flat3_set hf (by omega)] at h2
    refine (flat3_congr (f := _) fun i hi => ?_) ▸ h2
    simp only [knC]
    rw [kn_set (by omega)]
    by_cases e : i = frm
    · subst e
      rw [if_pos rfl, if_pos rfl, hk]
      have hj2 : j = 0 ∨ j = 1 := by omega
      rcases hj2 with rfl | rfl
      · simp
      · simp
    · rw [if_neg e, if_neg (by omega), if_neg (by omega), if_neg (Ne.symm e)]
  · rw [List.length_set, ← hn]
    refine Rows3.congr (h3.keep fun b cs hb => heap_setCell_other _ _ _ _ (fun e => ?_)) (fun _ _ => rfl) fun a ha => ?_
    · obtain ⟨g', cap', cur', e1, -, hh, -⟩ := h1.2.resolve_left (by simp)
      simp only [Value.slice.injEq, Option.some.injEq, Addr.mk.injEq, and_true] at e1
      rw [e, e1.1, hh] at hb
      injection hb with hb
      injection hb with _ hb
      cases hb
    · unfold knZ
      rw [kn_set (by omega)]
      have hj2 : j = 0 ∨ j = 1 := by omega
      rcases hj2 with rfl | rfl
      · by_cases e : a = 2 * frm + 0
        · have a1 : a % 2 = 0 := by omega
          have a2 : frm = a / 2 := by omega
          rw [if_pos e, if_pos a1, if_pos a2, hk]; rfl
        · rw [if_neg e]
          by_cases e2 : frm = a / 2
          · have a1 : ¬ a % 2 = 0 := by omega
            rw [if_neg a1, if_neg a1, if_pos e2, hk, ← e2]; rfl
          · rw [if_neg e2]
      · by_cases e : a = 2 * frm + 1
        · have a1 : ¬ a % 2 = 0 := by omega
          have a2 : frm = a / 2 := by omega
          rw [if_pos e, if_neg a1, if_pos a2, hk]; rfl
        · rw [if_neg e]
          by_cases e2 : frm = a / 2
          · have a1 : a % 2 = 0 := by omega
            rw [if_pos a1, if_pos a1, if_pos e2, hk, ← e2]; rfl
          · rw [if_neg e2]
/-- What the store leaves. -/
theorem free_step {w W w' : World} {g B kb n kc frm to : Nat} {search : Bool} {lv m1 m2 fv v' : Value} {s : Bs} {ks : List Kn} {V : Nat → Value} {zs : List Int} (hks : ks = s.kns) (ho : W.ownsRow B 87 3 (.slice (some ⟨kb, 0, none⟩) n kc) n (flat3 n (knC V ks))) (hn : n = ks.length) (hr : Rows3 W B (2 * n) V (knZ ks)) (hf : frm < n)
    (hfv : fv = V (2 * frm)) (hzs : zs = (kn ks frm).free) (hg : W.heap[g]? = some (.cells #[.bool search, lv, .slice (some ⟨kb, 0, none⟩) n kc, m1, m2] 85 (0, 0))) (hl : LfAt W B lv s.lfs) (hBs : B ≤ w.heap.size) (hB : B ≤ g) (hbw : Below w.heap.size w W)
    (hgrow : W.grownBy w' fv.ownBlock) (hat : v'.ownBlock = fv.ownBlock ∨ v'.ownBlock = some W.heap.size) (hown : w'.ownsRow B 3 1 v' (zs.length + 1) (zs.map (.int .i64) ++ [.int .i64 (to : Int)])) :
    w'.cell? ⟨g, 2, none⟩ = some (.slice (some ⟨kb, 0, none⟩) n kc) ∧ (∃ u, w'.cell? ⟨kb, frm * 3, none⟩ = some u ∧ w'.frozen? ⟨kb, frm * 3, none⟩ = false) ∧ (w'.setCell ⟨kb, frm * 3, none⟩ v').cell? ⟨g, 2, none⟩ = some (.slice (some ⟨kb, 0, none⟩) n kc) ∧
      NB (w'.setCell ⟨kb, frm * 3, none⟩ v') g B search m1 m2 (s.arrow frm to) ∧ Below B w (w'.setCell ⟨kb, frm * 3, none⟩ v') ∧ Kp w (w'.setCell ⟨kb, frm * 3, none⟩ v') := by
  have hrf := hr.1 (2 * frm) (by omega)
  rw [← hfv] at hrf
  have hgl := (Array.getElem?_eq_some_iff.1 hg).1
  have hne1 : fv.ownBlock ≠ some g := own_blk_ne hrf hg (by decide)
  have hgw := (hgrow.block g hgl (Ne.symm hne1)).trans hg
  have ho' := ho.kept hgrow (own_own ho hrf (by decide))
  have hkg : kb ≠ g := by
    have h1 := own_blk_ne ho hg (by decide)
    intro e; exact h1 (by rw [e]; rfl)
  have hkB : B ≤ kb := (ho.lt kb rfl).1
  have hst := ho'.stored (frm * 3) v'
  have hgs : (w'.setCell ⟨kb, frm * 3, none⟩ v').heap[g]? = some (.cells #[.bool search, lv, .slice (some ⟨kb, 0, none⟩) n kc, m1, m2] 85 (0, 0)) := (heap_setCell_other _ _ _ _ (fun e => hkg e.symm)).trans hgw
  have hcc := ho'.cellAt (frm * 3) (by omega)
  have hfl := flat3_at (f := knC V ks) (n := n) (i := frm) (j := 0) hf (by omega)
  rw [Nat.add_zero] at hfl
  have hl' : LfAt (w'.setCell ⟨kb, frm * 3, none⟩ v') B lv s.lfs := hl.keep fun b cs hb => (heap_setCell_other _ _ _ _ (fun e => by
      obtain ⟨g', cap', cur', e1, -, hh, -⟩ := ho.2.resolve_left (by simp)
      simp only [Value.slice.injEq, Option.some.injEq, Addr.mk.injEq, and_true] at e1
      rw [e, e1.1, hh] at hb
      injection hb with hb
      injection hb with _ hb
      cases hb)).trans (hgrow.block b (Array.getElem?_eq_some_iff.1 hb).1 (fun e => own_blk_ne hrf hb (by decide) e.symm))
  have hput := KnAt.put (k' := ⟨zs ++ [(to : Int)], (kn ks frm).lv, (kn ks frm).fin⟩) (zs := zs ++ [(to : Int)]) ho hn hr hf (j := 0) (by omega) (by simpa using hown) (by rw [Nat.add_zero, ← hfv]; exact hgrow) (by
    rw [Nat.add_zero, ← hfv]
    rcases hat with e | e
    · exact .inl e
    · exact .inr ⟨_, Nat.le_refl _, e⟩) (by rw [if_pos rfl])
  rw [Nat.add_zero] at hput
  refine ⟨(slot5 hgw).2.2.1, ⟨_, hcc.trans hfl, ho'.frozenAt _⟩, (slot5 hgs).2.2.1, ⟨hB, lv, _, hgs, hl', ?_⟩, ?_, ?_⟩
  · show KnAt _ B _ (s.kns.set frm ⟨(kn s.kns frm).free ++ [(to : Int)], (kn s.kns frm).lv, (kn s.kns frm).fin⟩)
    rw [← hks, ← hzs]
    exact hput
  · exact (((hbw.mono hBs).grown hgrow (Nat.le_trans hBs hbw.size) fun k hk => (hrf.lt k hk).1).setCell (p := ⟨kb, frm * 3, none⟩) hkB _)
  · obtain ⟨g', cap', cur', e1, -, hh, -⟩ := ho'.2.resolve_left (by simp)
    simp only [Value.slice.injEq, Option.some.injEq, Addr.mk.injEq, and_true] at e1
    rw [← e1.1] at hh
    exact (Kp.below hbw).trans ((Kp.grown hrf (by simp) hgrow).trans (Kp.set hh (by simp)))
set_option maxRecDepth 100000 in
set_option maxHeartbeats 4000000 in
theorem free_any (g B : Nat) (search : Bool) (m1 m2 : Value) (s : Bs) (frm to : Nat) (w : World) (h : NB w g B search m1 m2 s) (_hn : s.kns.length ≤ 1000000) (hf : frm < s.kns.length) (hl : (kn s.kns frm).free.length ≤ 1000000) :
    Calls Try.prog 46 #[.pointer (some ⟨g, 0, none⟩), .int .i64 frm, .int .i64 to] w fun e w' => e = .returned (.tuple #[]) ∧ NB w' g B search m1 m2 (s.arrow frm to) ∧ Below B w w' ∧ Kp w w' := by
  obtain ⟨i0, hi0, hz0, hz1, hz2⟩ := info_parts info3
  obtain ⟨hB, lv, kv, hg, hlf, V, ho, hr⟩ := h
  obtain ⟨ks, hks⟩ : ∃ ks, ks = s.kns := ⟨_, rfl⟩
  have HKS := hid hks
  rw [← hks] at ho hr hf hl
  obtain ⟨n, hnn⟩ : ∃ n, n = ks.length := ⟨_, rfl⟩
  have HNN := hid hnn
  rw [← hnn] at ho hf hr
  obtain ⟨kb, kc, rfl⟩ : ∃ kb kc, kv = .slice (some ⟨kb, 0, none⟩) n kc := by
    rcases ho.2 with ⟨-, h0⟩ | ⟨q, cap, cur, e, -⟩
    · omega
    · exact ⟨q, cap, e⟩
  obtain ⟨W, hW⟩ : ∃ W, W = (w.alloc (.cells #[.int .i64 (to : Int)] 3)).drew := ⟨_, rfl⟩
  have hgl := (Array.getElem?_eq_some_iff.1 hg).1
  have HBW := hid (show Below w.heap.size w W by rw [hW]; exact ((Below.refl _ _).alloc (Nat.le_refl _) _).drew)
  have HO := hid (show W.ownsRow B 87 3 (.slice (some ⟨kb, 0, none⟩) n kc) n (flat3 n (knC V ks)) by rw [hW]; exact (ho.alloc _).drew)
  have HR := hid (hr.below HBW.out)
  have HG := hid ((HBW.out.block g hgl).trans hg)
  have HL := hid (hlf.keep (w' := W) fun b cs hh => HBW.out.block b (Array.getElem?_eq_some_iff.1 hh).1)
  have HBs := hid (show B ≤ w.heap.size by omega)
  have hcell : w.cell? ⟨kb, frm * 3, none⟩ = some (V (2 * frm)) := by
    have h1 := ho.cellAt (frm * 3) (by omega)
    have h2 := flat3_at (f := knC V ks) (n := n) (i := frm) (j := 0) hf (by omega)
    rw [Nat.add_zero] at h2
    rw [h1, h2]; rfl
  have hkbl : kb < w.heap.size := block_lt_of_cell hcell
  have HC2 := hid (slot5 hg).2.2.1
  have HC2a := hid ((cell_same (HBW.out.block g hgl)).trans HC2.out)
  obtain ⟨fv, hfv⟩ : ∃ fv, fv = V (2 * frm) := ⟨_, rfl⟩
  have hof := ho
  have hro := hr.1 (2 * frm) (by omega)
  have hz : knZ ks (2 * frm) = (kn ks frm).free := by unfold knZ; rw [if_pos (by omega), show 2 * frm / 2 = frm by omega]
  rw [hz, ← hfv] at hro
  rw [← hfv] at hcell
  obtain ⟨zs, hzs⟩ : ∃ zs, zs = (kn ks frm).free := ⟨_, rfl⟩
  rw [← hzs] at hro hl
  obtain ⟨fA, fc, hfe, -⟩ := own_arr hro
  have HFV := hid hfv
  have HZS := hid hzs
  have HFa := hid (show W.ownsRow B 3 1 fv zs.length (zs.map (.int .i64)) by rw [hW]; exact (hro.alloc _).drew)
  have HFe := hid hfe
  have HCF := hid hcell
  have HCFa := hid ((cell_same (HBW.out.block kb hkbl)).trans hcell)
  have HCFb := hid (show (w.alloc (.cells #[.int .i64 (to : Int)] 3)).cell? ⟨kb, frm * 3, none⟩ = some fv by have h := HCFa.out; rw [hW] at h; exact h)
  have HC3f := hid (fun (v' : Value) (w' : World) (hgrow : W.grownBy w' fv.ownBlock) (hat : v'.ownBlock = fv.ownBlock ∨ v'.ownBlock = some W.heap.size) (hown : w'.ownsRow B 3 1 v' (zs.length + 1) (zs.map (.int .i64) ++ [.int .i64 (to : Int)])) => free_step (g := g) (search := search) (lv := lv) (m1 := m1) (m2 := m2) (s := s) (to := to) HKS.out HO.out HNN.out HR.out hf HFV.out HZS.out HG.out HL.out HBs.out hB HBW.out hgrow hat hown)
  subst hfe
  clear hg hlf ho hr hks hnn hgl hof hro hz hfv hzs hcell hkbl hB
  go_enter Try.func46, Try.ntmps46
  refine wp_region_held_drew (S := (fun Y => Y.cell? ⟨g, 2, none⟩ = some (.slice (some ⟨kb, 0, none⟩) n kc))) (by kernel_rfl) (by exact HC2.out) (fun hHeld => ?_)
  refine wpAnyH_take (i := 0) (oi := { dst := some 6, op := Op.move (Operand.tmp 0), type := _, pos := _, after := _, guard := none }) (v := ?_) rfl (by kernel_rfl) (by kernel_rfl) (by kernel_rfl) (fun _ _ _ h => h) (Or.inl ⟨by rfl, ?_⟩) (by assumption) ?_
  rotate_left
  · intro w hSw; (try dsimp only at hSw); go_simp; try with_reducible rfl
  try simp only [Act.put, List.setIfInBounds_toArray, List.set_cons_zero, List.set_cons_succ]
  refine wpAnyH_take (i := 1) (oi := { dst := some 7, op := Op.nilCheck (Operand.tmp 6), type := _, pos := _, after := _, guard := none }) (v := ?_) rfl (by kernel_rfl) (by kernel_rfl) (by kernel_rfl) (fun _ _ _ h => h) (Or.inl ⟨by rfl, ?_⟩) (by assumption) ?_
  rotate_left
  · intro w hSw; (try dsimp only at hSw); go_simp; try with_reducible rfl
  try simp only [Act.put, List.setIfInBounds_toArray, List.set_cons_zero, List.set_cons_succ]
  refine wpAnyH_take (i := 2) (oi := { dst := some 8, op := Op.fieldAddr 85 (Operand.tmp 7) 2, type := _, pos := _, after := _, guard := none }) (v := ?_) rfl (by kernel_rfl) (by kernel_rfl) (by kernel_rfl) (fun _ _ _ h => h) (Or.inl ⟨by rfl, ?_⟩) (by assumption) ?_
  rotate_left
  · intro w hSw; (try dsimp only at hSw); go_simp; try with_reducible rfl
  try simp only [Act.put, List.setIfInBounds_toArray, List.set_cons_zero, List.set_cons_succ]
  refine wpAnyH_take (i := 3) (oi := { dst := some 9, op := Op.load 83 (Operand.tmp 8), type := _, pos := _, after := _, guard := none }) (v := ?_) rfl (by kernel_rfl) (by kernel_rfl) (by kernel_rfl) (fun _ _ _ h => h) (Or.inl ⟨by rfl, ?_⟩) (by assumption) ?_
  rotate_left
  · intro w hSw; (try dsimp only at hSw); go_simp; try with_reducible rfl
  try simp only [Act.put, List.setIfInBounds_toArray, List.set_cons_zero, List.set_cons_succ]
  refine wpAnyH_take (i := 4) (oi := { dst := some 10, op := Op.move (Operand.tmp 1), type := _, pos := _, after := _, guard := none }) (v := ?_) rfl (by kernel_rfl) (by kernel_rfl) (by kernel_rfl) (fun _ _ _ h => h) (Or.inl ⟨by rfl, ?_⟩) (by assumption) ?_
  rotate_left
  · intro w hSw; (try dsimp only at hSw); go_simp; try with_reducible rfl
  try simp only [Act.put, List.setIfInBounds_toArray, List.set_cons_zero, List.set_cons_succ]
  refine wpAnyH_take (i := 5) (oi := { dst := some 11, op := Op.move (Operand.tmp 0), type := _, pos := _, after := _, guard := none }) (v := ?_) rfl (by kernel_rfl) (by kernel_rfl) (by kernel_rfl) (fun _ _ _ h => h) (Or.inl ⟨by rfl, ?_⟩) (by assumption) ?_
  rotate_left
  · intro w hSw; (try dsimp only at hSw); go_simp; try with_reducible rfl
  try simp only [Act.put, List.setIfInBounds_toArray, List.set_cons_zero, List.set_cons_succ]
  refine wpAnyH_take (i := 6) (oi := { dst := some 12, op := Op.nilCheck (Operand.tmp 11), type := _, pos := _, after := _, guard := none }) (v := ?_) rfl (by kernel_rfl) (by kernel_rfl) (by kernel_rfl) (fun _ _ _ h => h) (Or.inl ⟨by rfl, ?_⟩) (by assumption) ?_
  rotate_left
  · intro w hSw; (try dsimp only at hSw); go_simp; try with_reducible rfl
  try simp only [Act.put, List.setIfInBounds_toArray, List.set_cons_zero, List.set_cons_succ]
  refine wpAnyH_take (i := 7) (oi := { dst := some 13, op := Op.fieldAddr 85 (Operand.tmp 12) 2, type := _, pos := _, after := _, guard := none }) (v := ?_) rfl (by kernel_rfl) (by kernel_rfl) (by kernel_rfl) (fun _ _ _ h => h) (Or.inl ⟨by rfl, ?_⟩) (by assumption) ?_
  rotate_left
  · intro w hSw; (try dsimp only at hSw); go_simp; try with_reducible rfl
  try simp only [Act.put, List.setIfInBounds_toArray, List.set_cons_zero, List.set_cons_succ]
  refine wpAnyH_take (i := 8) (oi := { dst := some 14, op := Op.load 83 (Operand.tmp 13), type := _, pos := _, after := _, guard := none }) (v := ?_) rfl (by kernel_rfl) (by kernel_rfl) (by kernel_rfl) (fun _ _ _ h => h) (Or.inl ⟨by rfl, ?_⟩) (by assumption) ?_
  rotate_left
  · intro w hSw; (try dsimp only at hSw); go_simp; try with_reducible rfl
  try simp only [Act.put, List.setIfInBounds_toArray, List.set_cons_zero, List.set_cons_succ]
  refine wpAnyH_take (i := 9) (oi := { dst := some 15, op := Op.move (Operand.tmp 1), type := _, pos := _, after := _, guard := none }) (v := ?_) rfl (by kernel_rfl) (by kernel_rfl) (by kernel_rfl) (fun _ _ _ h => h) (Or.inl ⟨by rfl, ?_⟩) (by assumption) ?_
  rotate_left
  · intro w hSw; (try dsimp only at hSw); go_simp; try with_reducible rfl
  try simp only [Act.put, List.setIfInBounds_toArray, List.set_cons_zero, List.set_cons_succ]
  refine wpAnyH_take (i := 10) (oi := { dst := some 16, op := Op.indexAddr 83 (Operand.tmp 14) (Operand.tmp 15), type := _, pos := _, after := _, guard := none }) (v := ?_) rfl (by kernel_rfl) (by kernel_rfl) (by kernel_rfl) (fun _ _ _ h => h) (Or.inl ⟨by rfl, ?_⟩) (by assumption) ?_
  rotate_left
  · intro w hSw; (try dsimp only at hSw); go_simp; try with_reducible rfl
  try simp only [Act.put, List.setIfInBounds_toArray, List.set_cons_zero, List.set_cons_succ]
  refine wpAnyH_take (i := 11) (oi := { dst := some 17, op := Op.fieldAddr 87 (Operand.tmp 16) 0, type := _, pos := _, after := _, guard := none }) (v := ?_) rfl (by kernel_rfl) (by kernel_rfl) (by kernel_rfl) (fun _ _ _ h => h) (Or.inl ⟨by rfl, ?_⟩) (by assumption) ?_
  rotate_left
  · intro w hSw; (try dsimp only at hSw); go_simp; try with_reducible rfl
  try simp only [Act.put, List.setIfInBounds_toArray, List.set_cons_zero, List.set_cons_succ]
  refine wpAnyH_take (i := 13) (oi := { dst := some 19, op := Op.move (Operand.tmp 2), type := _, pos := _, after := _, guard := none }) (v := ?_) rfl (by kernel_rfl) (by kernel_rfl) (by kernel_rfl) (fun _ _ _ h => h) (Or.inl ⟨by rfl, ?_⟩) (by assumption) ?_
  rotate_left
  · intro w hSw; (try dsimp only at hSw); go_simp; try with_reducible rfl
  try simp only [Act.put, List.setIfInBounds_toArray, List.set_cons_zero, List.set_cons_succ]
  refine wpAnyH_ready (rs := [12, 14]) (by kernel_rfl) (by simp) ?_
  refine AllReadyH.cons (o := { dst := some 18, op := Op.load 23 (Operand.tmp 17), type := _, pos := _, after := _, guard := none }) rfl ?legA1 (AllReadyH.cons (o := { dst := some 20, op := Op.buildSlice 23 1 #[(0, Operand.tmp 19)], type := _, pos := _, after := _, guard := none }) rfl ?legB1 AllReadyH.nil)
  case' legA1 =>
    intro K hK
    go_simp
    first | rw [HCF.out] | rw [HCFb.out]
    go_simp
    try rw [← hW]
    refine hK.out _ _ (by first | exact HC2.out | exact HC2a.out) (fun hHeld => ?_)
    clear hK K
    try simp only [Act.put, List.setIfInBounds_toArray, List.set_cons_zero, List.set_cons_succ]
    refine wpAnyH_ready (rs := [14]) (by kernel_rfl) (by simp) ?_
    refine AllReadyH.cons (o := { dst := some 20, op := Op.buildSlice 23 1 #[(0, Operand.tmp 19)], type := _, pos := _, after := _, guard := none }) rfl (fun K hK => ?_) AllReadyH.nil
    go_simp
    rw [← hW]
    refine hK.out _ _ (by exact HC2a.out) (fun hHeld => ?_)
    clear hK K
    try simp only [Act.put, List.setIfInBounds_toArray, List.set_cons_zero, List.set_cons_succ]
    refine wpAnyH_ready (rs := [15]) (by kernel_rfl) (by simp) ?_
    refine AllReadyH.cons (o := { dst := some 21, op := Op.call { callee := Callee.builtin Builtin.append, args := #[Operand.tmp 18, Operand.tmp 20], argTypes := #[23, 23] }, type := _, pos := _, after := _, guard := none }) rfl (fun K hK => ?_) AllReadyH.nil
    rw [if_pos (by rfl)]
    try rw [← hW]
    refine wp_app W (.tmp 18) (.tmp 20) 23 rfl B 3 i0 _ 1 8 Try.underlying23 hi0 hz0 hz1 hz2 rfl (by decide) _ zs.length (zs.map (.int .i64)) rfl HFa.out _ 1 1 [.int .i64 (to : Int)] rfl (by rw [hW]; exact src_new w #[.int .i64 (to : Int)] 3 1 rfl) (one_nums _ [(to : Int)]) (by simp only [maxLen]; omega) (by omega) (Nat.le_trans HBs.out HBW.out.size) ?_
    intro v' w' hown hgrow hat
    obtain ⟨A5, c5, rfl, -⟩ := own_arr hown
    have HC3 := hid (HC3f.out _ w' hgrow hat hown)
    have HC2b := hid HC3.out.1
    obtain ⟨u5, hu5, hf5⟩ := HC3.out.2.1
    clear hown hgrow hat
    refine hK.out _ _ (by exact HC2b.out) (fun hHeld => ?_)
    clear hK K
    try simp only [Act.put, List.setIfInBounds_toArray, List.set_cons_zero, List.set_cons_succ]
    refine wpAnyH_take (i := 16) (oi := { dst := some 22, op := Op.indexAddr 83 (Operand.tmp 9) (Operand.tmp 10), type := _, pos := _, after := _, guard := none }) (v := ?_) rfl (by kernel_rfl) (by kernel_rfl) (by kernel_rfl) (fun _ _ _ h => h) (Or.inl ⟨by rfl, ?_⟩) (by assumption) ?_
    rotate_left
    · intro w hSw; (try dsimp only at hSw); go_simp; try with_reducible rfl
    try simp only [Act.put, List.setIfInBounds_toArray, List.set_cons_zero, List.set_cons_succ]
    refine wpAnyH_take (i := 17) (oi := { dst := some 23, op := Op.fieldAddr 87 (Operand.tmp 22) 0, type := _, pos := _, after := _, guard := none }) (v := ?_) rfl (by kernel_rfl) (by kernel_rfl) (by kernel_rfl) (fun _ _ _ h => h) (Or.inl ⟨by rfl, ?_⟩) (by assumption) ?_
    rotate_left
    · intro w hSw; (try dsimp only at hSw); go_simp; try with_reducible rfl
    try simp only [Act.put, List.setIfInBounds_toArray, List.set_cons_zero, List.set_cons_succ]
    refine wpAnyH_ready (rs := [18]) (by kernel_rfl) (by simp) ?_
    refine AllReadyH.cons (o := { dst := none, op := Op.store 23 (Operand.tmp 23) (Operand.tmp 21), type := _, pos := _, after := _, guard := none }) rfl (fun K hK => ?_) AllReadyH.nil
    go_simp
    refine hK.out _ _ (by exact HC3.out.2.2.1) (fun hHeld => ?_)
    clear hK K
    try simp only [Act.put, List.setIfInBounds_toArray, List.set_cons_zero, List.set_cons_succ]
    refine wpAnyH_done (by kernel_rfl) ?_ _
  case' legB1 =>
    intro K hK
    go_simp
    rw [← hW]
    refine hK.out _ _ (by exact HC2a.out) (fun hHeld => ?_)
    clear hK K
    try simp only [Act.put, List.setIfInBounds_toArray, List.set_cons_zero, List.set_cons_succ]
    refine wpAnyH_ready (rs := [12]) (by kernel_rfl) (by simp) ?_
    refine AllReadyH.cons (o := { dst := some 18, op := Op.load 23 (Operand.tmp 17), type := _, pos := _, after := _, guard := none }) rfl (fun K hK => ?_) AllReadyH.nil
    go_simp
    first | rw [HCF.out] | rw [HCFb.out]
    go_simp
    try rw [← hW]
    refine hK.out _ _ (by first | exact HC2.out | exact HC2a.out) (fun hHeld => ?_)
    clear hK K
    try simp only [Act.put, List.setIfInBounds_toArray, List.set_cons_zero, List.set_cons_succ]
    refine wpAnyH_ready (rs := [15]) (by kernel_rfl) (by simp) ?_
    refine AllReadyH.cons (o := { dst := some 21, op := Op.call { callee := Callee.builtin Builtin.append, args := #[Operand.tmp 18, Operand.tmp 20], argTypes := #[23, 23] }, type := _, pos := _, after := _, guard := none }) rfl (fun K hK => ?_) AllReadyH.nil
    rw [if_pos (by rfl)]
    try rw [← hW]
    refine wp_app W (.tmp 18) (.tmp 20) 23 rfl B 3 i0 _ 1 8 Try.underlying23 hi0 hz0 hz1 hz2 rfl (by decide) _ zs.length (zs.map (.int .i64)) rfl HFa.out _ 1 1 [.int .i64 (to : Int)] rfl (by rw [hW]; exact src_new w #[.int .i64 (to : Int)] 3 1 rfl) (one_nums _ [(to : Int)]) (by simp only [maxLen]; omega) (by omega) (Nat.le_trans HBs.out HBW.out.size) ?_
    intro v' w' hown hgrow hat
    obtain ⟨A5, c5, rfl, -⟩ := own_arr hown
    have HC3 := hid (HC3f.out _ w' hgrow hat hown)
    have HC2b := hid HC3.out.1
    obtain ⟨u5, hu5, hf5⟩ := HC3.out.2.1
    clear hown hgrow hat
    refine hK.out _ _ (by exact HC2b.out) (fun hHeld => ?_)
    clear hK K
    try simp only [Act.put, List.setIfInBounds_toArray, List.set_cons_zero, List.set_cons_succ]
    refine wpAnyH_take (i := 16) (oi := { dst := some 22, op := Op.indexAddr 83 (Operand.tmp 9) (Operand.tmp 10), type := _, pos := _, after := _, guard := none }) (v := ?_) rfl (by kernel_rfl) (by kernel_rfl) (by kernel_rfl) (fun _ _ _ h => h) (Or.inl ⟨by rfl, ?_⟩) (by assumption) ?_
    rotate_left
    · intro w hSw; (try dsimp only at hSw); go_simp; try with_reducible rfl
    try simp only [Act.put, List.setIfInBounds_toArray, List.set_cons_zero, List.set_cons_succ]
    refine wpAnyH_take (i := 17) (oi := { dst := some 23, op := Op.fieldAddr 87 (Operand.tmp 22) 0, type := _, pos := _, after := _, guard := none }) (v := ?_) rfl (by kernel_rfl) (by kernel_rfl) (by kernel_rfl) (fun _ _ _ h => h) (Or.inl ⟨by rfl, ?_⟩) (by assumption) ?_
    rotate_left
    · intro w hSw; (try dsimp only at hSw); go_simp; try with_reducible rfl
    try simp only [Act.put, List.setIfInBounds_toArray, List.set_cons_zero, List.set_cons_succ]
    refine wpAnyH_ready (rs := [18]) (by kernel_rfl) (by simp) ?_
    refine AllReadyH.cons (o := { dst := none, op := Op.store 23 (Operand.tmp 23) (Operand.tmp 21), type := _, pos := _, after := _, guard := none }) rfl (fun K hK => ?_) AllReadyH.nil
    go_simp
    refine hK.out _ _ (by exact HC3.out.2.2.1) (fun hHeld => ?_)
    clear hK K
    try simp only [Act.put, List.setIfInBounds_toArray, List.set_cons_zero, List.set_cons_succ]
    refine wpAnyH_done (by kernel_rfl) ?_ _
  all_goals
    go_wp2_with fail
    go_end0
    exact ⟨rfl, HC3.out.2.2.2.1, HC3.out.2.2.2.2⟩
end Go.Proofs.Ythdhbkngbmjjkaa
