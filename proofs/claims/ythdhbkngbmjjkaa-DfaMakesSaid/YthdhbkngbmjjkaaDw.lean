/- The table of an automaton: the program's New. Conditions: a good automaton in memory. -/
import Derived.Test.YthdhbkngbmjjkaaDt
namespace Go.Proofs.Ythdhbkngbmjjkaa
open Go.RowKit
set_option linter.unusedSimpArgs false
/-- The maker behind so many rows: its sets, the rows, what is told. -/
def outB (search : Bool) (s : Bs) : Nat → List (List Int) × List (List Int) × List Int
  | 0 => ([[0]], [], [])
  | i + 1 => (setsTo search s ((outB search s i).1[i]?.getD []) (outB search s i).1 37, (outB search s i).2.1 ++ [rowTo search s ((outB search s i).1[i]?.getD []) (outB search s i).1 37], (outB search s i).2.2 ++ [((tellsB s ((outB search s i).1[i]?.getD []) : Nat) : Int)])
theorem outB_len (search : Bool) (s : Bs) : ∀ i, (outB search s i).2.1.length = i ∧ (outB search s i).2.2.length = i
  | 0 => ⟨rfl, rfl⟩
  | i + 1 => by
    obtain ⟨h1, h2⟩ := outB_len search s i
    simp only [outB, List.length_append, List.length_singleton, h1, h2]
    exact ⟨trivial, trivial⟩
theorem fit_zero : Fit [0] := by
  unfold Fit Small
  simp
theorem outB_fit {search : Bool} {s : Bs} (hg : Good s) : ∀ i, ∀ x ∈ (outB search s i).1, Fit x
  | 0 => fun x hx => by
    rw [show (outB search s 0).1 = [[0]] by simp only [outB]] at hx
    rw [List.mem_singleton.1 hx]
    exact fit_zero
  | i + 1 => by
    simp only [outB]
    exact setsTo_fit hg (outB_fit hg i) 37
theorem fit_i64 {t : List Int} (h : Fit t) : ∀ z ∈ t, i64ok z := fun z hz => i64_small (by have := h.1 z hz; omega)
theorem slot2 {Y : World} {p : Nat} {a b : Value} {t : TypeId} (h : Y.heap[p]? = some (.cells #[a, b] t (0, 0))) :
    Y.cell? ⟨p, 0, none⟩ = some a ∧ Y.cell? ⟨p, 1, none⟩ = some b ∧ ∀ j, Y.frozen? ⟨p, j, none⟩ = false :=
  ⟨by rw [cell_of_row _ _ _ _ _ _ h]; rfl, by rw [cell_of_row _ _ _ _ _ _ h]; rfl, fun _ => frozen_of_row _ _ _ _ _ h⟩
theorem Dk.drew {w : World} {B mb b g db : Nat} {vs nv tv : Value} {sets rows : List (List Int)} {tells : List Int} (h : Dk w B mb b g db vs nv tv sets rows tells) : Dk w.drew B mb b g db vs nv tv sets rows tells := h
theorem new_keep {w : World} {B mb b g db qb qo i n vc : Nat} {nv tv u : Value} {sets rows : List (List Int)} {tells : List Int} {us : List Value} (h : Dk w B mb b g db (.slice (some ⟨qb, qo, none⟩) n vc) nv tv sets rows tells) (hus : w.ownsRow B 23 1 (.slice (some ⟨qb, qo, none⟩) n vc) sets.length us)
    (hmb : w.heap[mb]? = some (.cells #[.pointer (some ⟨g, 0, none⟩), .map (some b), .slice (some ⟨qb, qo, none⟩) n vc] 108 (0, 0))) (hq : w.cell? ⟨qb, qo + i, none⟩ = some u) (Y : World) (hY : ∀ x, x < w.heap.size → x ≠ db → tv.ownBlock ≠ some x → Y.heap[x]? = w.heap[x]?) :
    Y.cell? ⟨mb, 2, none⟩ = some (.slice (some ⟨qb, qo, none⟩) n vc) ∧ Y.cell? ⟨qb, qo + i, none⟩ = some u := by
  obtain ⟨hM, hB, hd, -, ht, -⟩ := h
  obtain ⟨-, -, m2, -⟩ := slot3 hmb
  obtain ⟨cs, hc⟩ : ∃ cs, w.heap[qb]? = some (.cells cs 23 (0, 0)) := by
    rcases hus.2 with ⟨e, _⟩ | ⟨q, cap, cur, e, _, hh, _⟩
    · cases e
    · injection e with e
      injection e with e
      injection e with e
      rw [e]
      exact ⟨cur, hh⟩
  exact ⟨(cell_same (hY mb (Array.getElem?_eq_some_iff.1 hmb).1 (cells_ne hmb hd (by decide)) (own_blk_ne ht hmb (by decide)))).trans m2, (cell_same (hY qb (Array.getElem?_eq_some_iff.1 hc).1 (cells_ne hc hd (by decide)) (own_blk_ne ht hc (by decide)))).trans hq⟩
theorem info37b : (Try.prog.info? 37).map (fun i => (i.zero, i.size, i.bytes)) = some (some (.int .u64 0), 1, 8) := by kernel_rfl
theorem mk_start (w : World) (B g : Nat) (hB : B = w.heap.size) : ∃ W, W = (w.alloc (.map #[] 0)).alloc (.cells #[.pointer (some ⟨g, 0, none⟩), .map (some w.heap.size), .slice none 0 0] 108) ∧ Mk W B (w.heap.size + 1) w.heap.size g (.slice none 0 0) [] [] ∧ Below B w W ∧ W.heap.size = w.heap.size + 2 := by
  have s1 : (w.alloc (.map #[] 0)).heap.size = w.heap.size + 1 := by simp
  have b1 : Below w.heap.size w (w.alloc (.map #[] 0)) := (Below.refl _ _).alloc (Nat.le_refl _) _
  refine ⟨_, rfl, ⟨by omega, by omega, ?_, ?_, [], World.ownsRow_nil _ _ _ _, fun k r hr => by simp at hr⟩, ?_, by simp⟩
  · rw [← s1]; exact heap_alloc_new _ _
  · have := mapIs_new w Value.string (fun s => s.size ≤ maxLen) (fun (i : Nat) u => u = Value.int .i64 (i : Int))
    exact this.below ((Below.refl _ _).alloc (Nat.le_refl _) _)
  · subst hB
    exact b1.alloc (by omega) _
set_option maxRecDepth 100000 in
set_option maxHeartbeats 4000000 in
theorem dnew_nil (w : World) : Calls Try.prog 29 #[.pointer none] w fun e w' => e = .returned (.tuple #[.agg #[.slice none 0 0, .slice none 0 0], .int .i64 1]) ∧ Below w.heap.size w w' := by
  obtain ⟨W, hW⟩ : ∃ W, W = w.alloc (.cells #[.slice none 0 0, .slice none 0 0] 59) := ⟨_, rfl⟩
  have HB := hid (show Below w.heap.size w W by rw [hW]; exact (Below.refl _ _).alloc (Nat.le_refl _) _)
  have h0 : W.heap[w.heap.size]? = some (.cells #[.slice none 0 0, .slice none 0 0] 59 (0, 0)) := by rw [hW]; exact heap_alloc_new _ _
  obtain ⟨q0, q1, qf⟩ := slot2 h0
  have qf0 := qf 0
  have qf1 := qf 1
  have HH0 := hid h0
  obtain ⟨r, hr⟩ : ∃ r, r = w.heap.size := ⟨_, rfl⟩
  have HR := hid hr
  rw [← hr] at q0 q1 qf0 qf1
  clear qf h0
  go_enter Try.func29, Try.ntmps29
  go_wp2_with fail
  rw [← hW, ← hr]
  clear hW hr
  go_wp2_with fail
  refine bodyPost_ret (v := .tuple #[.agg #[.slice none 0 0, .slice none 0 0], .int .i64 1]) (by simp [results, Try.results29, go_sem, q0, q1]) rfl ⟨rfl, by rw [HR.out]; exact HB.out⟩
set_option maxRecDepth 100000 in
set_option maxHeartbeats 8000000 in
theorem dnew_any {g : Nat} {search : Bool} {s : Bs} {w : World} (h : IsNfa w g search s) (hG : Good s) : Calls Try.prog 29 #[.pointer (some ⟨g, 0, none⟩)] w fun e w' => Below w.heap.size w w' ∧
    ((∃ n, n ≤ 1000 ∧ (∀ i, i < n → i < (outB search s i).1.length ∧ (outB search s (i + 1)).1.length ≤ 1000) ∧ n = (outB search s n).1.length ∧ ∃ v, e = .returned (.tuple #[v, .int .i64 0]) ∧ IsD w' (fun b => w.heap.size ≤ b) v ⟨(outB search s n).2.1, (outB search s n).2.2⟩) ∨
      ∃ n, (∀ i, i < n → i < (outB search s i).1.length ∧ (outB search s (i + 1)).1.length ≤ 1000) ∧ n < (outB search s n).1.length ∧ 1000 < (outB search s (n + 1)).1.length ∧ e = .returned (.tuple #[.agg #[.slice none 0 0, .slice none 0 0], .int .i64 7])) := by
  obtain ⟨i0, hi0, hz0, hz1, hz2⟩ := info_parts info23
  obtain ⟨j0, hj0, hy0, hy1, hy2⟩ := info_parts info37b
  have HG := hid hG
  obtain ⟨W0, hW0⟩ : ∃ W, W = w.alloc (.cells #[.slice none 0 0, .slice none 0 0] 59) := ⟨_, rfl⟩
  have HB0 := hid (show Below w.heap.size w W0 by rw [hW0]; exact (Below.refl _ _).alloc (Nat.le_refl _) _)
  have HRB := hid (show W0.heap[w.heap.size]? = some (.cells #[.slice none 0 0, .slice none 0 0] 59 (0, 0)) by rw [hW0]; exact heap_alloc_new _ _)
  have HS0 := hid (show W0.heap.size = w.heap.size + 1 by rw [hW0]; simp)
  have HN0 := hid (show IsNfa W0 g search s from h.below HB0.out)
  obtain ⟨W1, hW1, hmk, hb1, hs1⟩ := mk_start W0 (w.heap.size + 1) g HS0.out.symm
  rw [HS0.out] at hW1 hmk hs1
  obtain ⟨rb, hrb⟩ : ∃ rb, rb = w.heap.size := ⟨_, rfl⟩
  obtain ⟨B, hBB⟩ : ∃ B, B = w.heap.size + 1 := ⟨_, rfl⟩
  obtain ⟨mb, hmb⟩ : ∃ mb, mb = B + 1 := ⟨_, rfl⟩
  rw [← hBB] at hmk hb1
  rw [← hmb] at hmk
  have HMK1 := hid hmk
  have HB1 := hid hb1
  have HS1 := hid hs1
  have HRBE := hid hrb
  have HBB := hid hBB
  have HMBE := hid hmb
  have hmm := @run_makeMap Try.prog
  clear h hG hmk hb1 hs1
  go_enter Try.func29, Try.ntmps29
  go_wp2_with fail
  rw [← hW0, ← hW1, ← hBB, ← hmb, ← hrb]
  clear hW0 hW1 hmb hBB hrb hmm
  refine (begin_any g W1).mono ?_
  rintro e w2 ⟨v2, rfl, hv2, hb2⟩
  have HM2 := hid (HMK1.out.below hb2)
  have HB2 := hid (HB1.out.trans (hb2.mono (by rw [HS1.out, HBB.out]; omega)))
  have HV2 := hid (show IsNums .i64 w2 (fun x => B ≤ x ∧ x ≠ mb ∧ x ≠ B ∧ (Value.slice none 0 0).ownBlock ≠ some x ∧ x ∉ ([] : List Nat)) v2 [0] from hv2.mono fun x hx _ => by
    have hx' : W1.heap.size ≤ x := hx
    have h1 := HS1.out
    have h2 := HBB.out
    have h3 := HMBE.out
    exact ⟨by omega, by omega, by omega, by simp [Value.ownBlock], by simp⟩)
  have HF0 := hid (outB_fit (search := search) HG.out 0 [0] (by rw [show (outB search s 0).1 = [[0]] by simp only [outB]]; exact List.mem_singleton.2 rfl))
  clear hv2 hb2
  go_wp2_with fail
  refine (number_any HM2.out (by simp) HF0.out (by simp) HV2.out).mono ?_
  rintro e w3 ⟨rfl, hans⟩
  obtain ⟨v3, a1, -, a3, a4⟩ := hans
  have HM3 := hid a1
  have HB3 := hid (HB2.out.trans a3)
  clear a1 a3 a4
  have hadd : addB [] [0] = (outB search s 0).1 := by simp only [outB, addB]; simp
  go_wp2_with fail
  obtain ⟨db, hdb⟩ : ∃ db, db = w3.heap.size := ⟨_, rfl⟩
  obtain ⟨W4, hW4⟩ : ∃ W4, W4 = w3.alloc (.cells #[.slice none 0 0, .slice none 0 0] 59) := ⟨_, rfl⟩
  have hb4 : Below w3.heap.size w3 W4 := by rw [hW4]; exact (Below.refl _ _).alloc (Nat.le_refl _) _
  have hB3 : B ≤ w3.heap.size := by have := HM3.out.1; have := HM3.out.lt.1; omega
  have HD4 := hid (show Dk W4 B mb B g db v3 (.slice none 0 0) (.slice none 0 0) (outB search s 0).1 (outB search s 0).2.1 (outB search s 0).2.2 from by
    rw [← hadd]
    refine ⟨(HM3.out.swap (L' := offL db (.slice none 0 0) (.slice none 0 0)) fun k hk => .inr ?_).below hb4, by omega, by rw [hW4, hdb]; exact heap_alloc_new _ _, ⟨[], World.ownsRow_nil _ _ _ _, OwnRows.nil _ _⟩, World.ownsRow_nil _ _ _ _, fun k hk => by cases hk⟩
    have : k = db := by simpa [offL, Value.ownBlock] using hk
    omega)
  have HB4 := hid (HB3.out.trans (hb4.mono hB3))
  rw [← hW4, ← hdb]
  have HFIX := hid (show mb < W4.heap.size ∧ B ≤ W4.heap.size from ⟨by have := HM3.out.lt.1; have := hb4.size; omega, by have := hb4.size; omega⟩)
  clear hW4 hdb hb4 hB3 hadd
  go_loopw [6] (fun s6 wr => ∃ (i : Nat) (vs nv tv : Value), s6 = .int .i64 i ∧ i ≤ (outB search s i).1.length ∧ Hid (Dk wr B mb B g db vs nv tv (outB search s i).1 (outB search s i).2.1 (outB search s i).2.2) ∧ Hid (Below B W0 wr) ∧
    Hid (∀ k, k < i → k < (outB search s k).1.length ∧ (outB search s (k + 1)).1.length ≤ 1000) ∧ Hid ((outB search s i).1.length ≤ 1000)) (fun s6 _ => 1001 - (intOf s6).toNat)
  case atStart => exact ⟨0, v3, _, _, rfl, Nat.zero_le _, HD4, HB4, hid (fun k hk => by omega), hid (by simp only [outB]; simp)⟩
  case round =>
    obtain ⟨i, vs, nv, tv, rfl, hil, HD, HB, HPR, HLN⟩ := hrel
    obtain ⟨sets, hsets⟩ : ∃ x, x = (outB search s i).1 := ⟨_, rfl⟩
    obtain ⟨rows, hrows⟩ : ∃ x, x = (outB search s i).2.1 := ⟨_, rfl⟩
    obtain ⟨tells, htells⟩ : ∃ x, x = (outB search s i).2.2 := ⟨_, rfl⟩
    have hrl : rows.length = i := by rw [hrows]; exact (outB_len search s i).1
    have htl : tells.length = i := by rw [htells]; exact (outB_len search s i).2
    rw [← hsets] at HD HLN hil
    rw [← hrows, ← htells] at HD
    have HSETS := hid hsets
    have HROWS := hid hrows
    have HTELLS := hid htells
    have hln : sets.length ≤ 1000 := HLN.out
    obtain ⟨-, -, hmbc, -, us0, hus0, hrow0⟩ := id HD.out.1
    obtain ⟨VA, vc, rfl, -, -, hVA⟩ := own_arr hus0
    obtain ⟨m0, m1, m2, mf⟩ := slot3 hmbc
    by_cases hlt : i < sets.length
    · obtain ⟨cur, hcur⟩ : ∃ cur, sets[i]? = some cur := ⟨_, List.getElem?_eq_getElem hlt⟩
      have HCUR := hid hcur
      have HNX := hid (show outB search s (i + 1) = (setsTo search s cur sets 37, rows ++ [rowTo search s cur sets 37], tells ++ [((tellsB s cur : Nat) : Int)]) by simp only [outB]; rw [← hsets, ← hrows, ← htells, hcur]; rfl)
      have HFS := hid (show ∀ x ∈ sets, Fit x by rw [hsets]; exact outB_fit HG.out i)
      have HDd := hid HD.out.drew
      have HOFF := hid HDd.out.off.2.2.2
      have HBd := hid (HB.out.drew)
      have HCI := hid (fit_i64 (HFS.out cur (List.mem_of_getElem? hcur)))
      obtain ⟨d0, d1, df⟩ := slot2 HD.out.2.2.1
      have hrb : rows.length ≤ 1000 := by omega
      have htb : tells.length ≤ 1000 := by omega
      have HRL := hid hrl
      have HTL := hid htl
      have HR37 := hid (rowTo_len (search := search) (s := s) (cur := cur) (sets := sets) 37)
      clear hrl htl hsets hrows htells hcur hmbc hus0 hrow0 hVA mf df
      go_wp2_with fail
      refine wp_region_held_drew (S := (fun _ => True)) (by kernel_rfl) (by exact trivial) (fun hHeld => ?_)
      refine wpAnyH_take (i := 0) (oi := { dst := some 27, op := Op.fieldAddr 59 (Operand.tmp 5) 0, type := _, pos := _, after := _, guard := none }) (v := ?_) rfl (by kernel_rfl) (by kernel_rfl) (by kernel_rfl) (fun _ _ _ h => h) (Or.inl ⟨by rfl, ?_⟩) (by assumption) ?_
      rotate_left
      · intro w hSw; (try dsimp only at hSw); go_simp; try with_reducible rfl
      try simp only [Act.put, List.setIfInBounds_toArray, List.set_cons_zero, List.set_cons_succ]
      refine wpAnyH_take (i := 2) (oi := { dst := some 29, op := Op.move (Operand.tmp 4), type := _, pos := _, after := _, guard := none }) (v := ?_) rfl (by kernel_rfl) (by kernel_rfl) (by kernel_rfl) (fun _ _ _ h => h) (Or.inl ⟨by rfl, ?_⟩) (by assumption) ?_
      rotate_left
      · intro w hSw; (try dsimp only at hSw); go_simp; try with_reducible rfl
      try simp only [Act.put, List.setIfInBounds_toArray, List.set_cons_zero, List.set_cons_succ]
      refine wpAnyH_take (i := 3) (oi := { dst := some 30, op := Op.move (Operand.tmp 6), type := _, pos := _, after := _, guard := none }) (v := ?_) rfl (by kernel_rfl) (by kernel_rfl) (by kernel_rfl) (fun _ _ _ h => h) (Or.inl ⟨by rfl, ?_⟩) (by assumption) ?_
      rotate_left
      · intro w hSw; (try dsimp only at hSw); go_simp; try with_reducible rfl
      try simp only [Act.put, List.setIfInBounds_toArray, List.set_cons_zero, List.set_cons_succ]
      refine wpAnyH_ready (rs := [1, 4]) (by kernel_rfl) (by simp) ?_
      refine AllReadyH.cons (o := { dst := some 28, op := Op.load 56 (Operand.tmp 27), type := _, pos := _, after := _, guard := none }) rfl ?legAR9 (AllReadyH.cons (o := { dst := some 31, op := Op.call { callee := Callee.value (Operand.func 63), args := #[Operand.tmp 29, Operand.tmp 30], argTypes := #[105, 3] }, type := _, pos := _, after := _, guard := none }) rfl ?legBR9 AllReadyH.nil)
      case' legAR9 =>
        intro K hK
        go_simp
        clear hHeld
        refine hK.out _ _ (by trivial) (fun hHeld => ?_)
        clear hK K
        try simp only [Act.put, List.setIfInBounds_toArray, List.set_cons_zero, List.set_cons_succ]
        refine wpAnyH_ready (rs := [4]) (by kernel_rfl) (by simp) ?_
        refine AllReadyH.cons (o := { dst := some 31, op := Op.call { callee := Callee.value (Operand.func 63), args := #[Operand.tmp 29, Operand.tmp 30], argTypes := #[105, 3] }, type := _, pos := _, after := _, guard := none }) rfl (fun K hK => ?_) AllReadyH.nil
        go_simp
        refine (row_any (w0 := W0) HDd.out.1 (fun k hk => (HOFF.out k hk).2) (HS0.out.trans HBB.out.symm) HN0.out HBd.out HG.out HFS.out HCUR.out HCI.out hln).mono ?_; rintro e w5 ⟨ob, rfl, hob, hblk, hans⟩; obtain ⟨vs5, hd5, hb5⟩ := HDd.out.row hans; have HD5 := hid hd5; have HI5 := hid hblk; have HOB5 := hid (show B ≤ ob from Nat.le_trans (by have := HBd.out.size; have := HDd.out.2.1; have := (HOFF.out db List.mem_cons_self).2; omega) hob); have HB5 := hid (HBd.out.trans hb5); obtain ⟨p0, p1, pf⟩ := slot2 HD5.out.2.2.1; have HPX := hid (fun (o : Obj) => ((Below.refl w5.heap.size w5).alloc (Nat.le_refl _) o).cell (p := ⟨db, 0, none⟩) (show db < w5.heap.size from (HD5.out.off.2.2.2 db List.mem_cons_self).2)); clear hans hblk hd5 hb5 hob pf; go_wp2_with fail
        clear hHeld
        refine hK.out _ _ (by trivial) (fun hHeld => ?_)
        clear hK K
        try simp only [Act.put, List.setIfInBounds_toArray, List.set_cons_zero, List.set_cons_succ]
        refine wpAnyH_ready (rs := [5]) (by kernel_rfl) (by simp) ?_
        refine AllReadyH.cons (o := { dst := some 32, op := Op.buildSlice 56 1 #[(0, Operand.tmp 31)], type := _, pos := _, after := _, guard := none }) rfl (fun K hK => ?_) AllReadyH.nil
        go_simp
        have px := (HPX.out (.cells #[.slice (some ⟨ob, 0, none⟩) 37 37] 23)).trans p0
        clear hHeld
        refine hK.out _ _ (by trivial) (fun hHeld => ?_)
        clear hK K
        try simp only [Act.put, List.setIfInBounds_toArray, List.set_cons_zero, List.set_cons_succ]
        obtain ⟨us, hus, hrw⟩ := id HD5.out.2.2.2.1
        have HUS := hid hus
        have HRW := hid hrw
        obtain ⟨X, hX⟩ : ∃ X, X = w5.alloc (.cells #[.slice (some ⟨ob, 0, none⟩) 37 37] 23) := ⟨_, rfl⟩
        have HXD := hid hX
        have hxb : Below w5.heap.size w5 X := by rw [hX]; exact (Below.refl _ _).alloc (Nat.le_refl _) _
        have HUX := hid (hus.kept (grown_of_below hxb none) (Classical.em _))
        have HBX := hid (show B ≤ X.heap.size from Nat.le_trans (by have := HB5.out.size; have := HD5.out.2.1; have := (HD5.out.off.2.2.2 db List.mem_cons_self).2; omega) hxb.size)
        have HDX := hid ((hxb.block db (HD5.out.off.2.2.2 db List.mem_cons_self).2).trans HD5.out.2.2.1)
        clear hus hrw hxb
        refine wpAnyH_ready (rs := [6]) (by kernel_rfl) (by simp) ?_
        refine AllReadyH.cons (o := { dst := some 33, op := Op.call { callee := Callee.builtin Builtin.append, args := #[Operand.tmp 28, Operand.tmp 32], argTypes := #[56, 56] }, type := _, pos := _, after := _, guard := none }) rfl (fun K hK => ?_) AllReadyH.nil
        rw [if_pos (by rfl)]
        try rw [← hX]
        refine wp_app X (.tmp 28) (.tmp 32) 56 rfl B 23 i0 _ 1 24 Try.underlying56 hi0 hz0 hz1 hz2 rfl (by decide) _ rows.length us rfl HUX.out _ 1 1 [.slice (some ⟨ob, 0, none⟩) 37 37] rfl (by rw [hX]; exact src_new w5 #[.slice (some ⟨ob, 0, none⟩) 37 37] 23 1 rfl) (by intro u hu; simp at hu; rw [hu]; rfl) (by simp only [maxLen]; omega) (by omega) HBX.out ?_
        intro v6 w6 ho6 hg6 hv6
        obtain ⟨NA, nc, rfl, -, -, -⟩ := own_arr ho6
        have HO6 := hid ho6
        have HG6 := hid hg6
        have HV6 := hid hv6
        have HD6 := hid ((hg6.block db (Array.getElem?_eq_some_iff.1 HDX.out).1 (fun e => own_blk_ne HUX.out HDX.out (by decide) e.symm)).trans HDX.out)
        obtain ⟨e0, e1, ef⟩ := slot2 HD6.out
        have ef0 := ef 0
        clear ho6 hg6 hv6 ef hX
        clear hHeld
        refine hK.out _ _ (by trivial) (fun hHeld => ?_)
        clear hK K
        try simp only [Act.put, List.setIfInBounds_toArray, List.set_cons_zero, List.set_cons_succ]
        refine wpAnyH_take (i := 7) (oi := { dst := some 34, op := Op.fieldAddr 59 (Operand.tmp 5) 0, type := _, pos := _, after := _, guard := none }) (v := ?_) rfl (by kernel_rfl) (by kernel_rfl) (by kernel_rfl) (fun _ _ _ h => h) (Or.inl ⟨by rfl, ?_⟩) (by assumption) ?_
        rotate_left
        · intro w hSw; (try dsimp only at hSw); go_simp; try with_reducible rfl
        try simp only [Act.put, List.setIfInBounds_toArray, List.set_cons_zero, List.set_cons_succ]
        refine wpAnyH_ready (rs := [8]) (by kernel_rfl) (by simp) ?_
        refine AllReadyH.cons (o := { dst := none, op := Op.store 56 (Operand.tmp 34) (Operand.tmp 33), type := _, pos := _, after := _, guard := none }) rfl (fun K hK => ?_) AllReadyH.nil
        go_simp
        clear hHeld
        refine hK.out _ _ (by trivial) (fun hHeld => ?_)
        clear hK K
        try simp only [Act.put, List.setIfInBounds_toArray, List.set_cons_zero, List.set_cons_succ]
        refine wpAnyH_done (by kernel_rfl) ?_ _
        clear hHeld
        obtain ⟨w7, hw7⟩ : ∃ w7, w7 = w6.setCell ⟨db, 0, none⟩ (.slice NA (rows.length + 1) nc) := ⟨_, rfl⟩
        have h7 := Dk.addRow (row := rowTo search s cur sets 37) HD5.out HUS.out HRW.out HI5.out HOB5.out (by rw [HR37.out]; decide) (by rw [HR37.out]; exact HXD.out) (by rw [HR37.out]; exact HO6.out) HG6.out HV6.out hw7
        have HD7 := hid h7.1
        have HB7 := hid (HB5.out.trans h7.2)
        go_wp2_with fail
        rw [← hw7]
        clear hw7 h7 HO6 HG6 HV6 HD6 HUS HRW HXD HUX HBX HDX HI5 HOB5 HB5 HPX
        obtain ⟨-, -, hmb7, -, us7, hus7, hrow7⟩ := id HD7.out.1
        obtain ⟨VB, vcB, rfl, -, -, hVB⟩ := own_arr hus7
        have hget : (setsTo search s cur sets 37)[i]? = some cur := setsTo_get HCUR.out 37
        obtain ⟨cv, ecv, hcv⟩ := hrow7 i cur hget
        obtain ⟨CA, cc, rfl⟩ := hcv.form
        obtain ⟨qb, qo, eVB, _, hqb, q0⟩ := hVB.at ecv
        subst eVB
        have hilen : i < (setsTo search s cur sets 37).length := (List.getElem?_eq_some_iff.1 hget).1
        have HSL := hid (setsTo_len (search := search) (s := s) (cur := cur) (sets := sets) 37)
        have HKEEP := hid (new_keep HD7.out hus7 hmb7 q0)
        have HCV := hid hcv
        clear hmb7 hus7 hrow7 hVB ecv hcv hqb q0 hget
        obtain ⟨tz, htz⟩ : ∃ tz : Nat, tz = tellsB s cur := ⟨_, rfl⟩
        have HTZ := hid htz
        obtain ⟨g0, g1, gf⟩ := slot2 HD7.out.2.2.1
        have HN7 := hid (show IsNfa w7 g search s from HN0.out.below (by rw [HS0.out, ← HBB.out]; exact HB7.out))
        have HN7d := hid (HN7.out.below (show Below w7.heap.size w7 w7.drew from (Below.refl _ _).drew))
        have HCVd := hid (HCV.out.below (show Below w7.heap.size w7 w7.drew from (Below.refl _ _).drew))
        clear htz gf
        refine wp_region_held_drew (S := (fun Y => Y.cell? ⟨mb, 2, none⟩ = some (.slice (some ⟨qb, qo, none⟩) (setsTo search s cur sets 37).length vcB) ∧ Y.cell? ⟨qb, qo + i, none⟩ = some (.slice CA cur.length cc))) (by kernel_rfl) (by exact HKEEP.out w7 (fun _ _ _ _ => rfl)) (fun hHeld => ?_)
        refine wpAnyH_take (i := 0) (oi := { dst := some 35, op := Op.fieldAddr 59 (Operand.tmp 5) 1, type := _, pos := _, after := _, guard := none }) (v := ?_) rfl (by kernel_rfl) (by kernel_rfl) (by kernel_rfl) (fun _ _ _ h => h) (Or.inl ⟨by rfl, ?_⟩) (by assumption) ?_
        rotate_left
        · intro w hSw; (try dsimp only at hSw); go_simp; try with_reducible rfl
        try simp only [Act.put, List.setIfInBounds_toArray, List.set_cons_zero, List.set_cons_succ]
        refine wpAnyH_take (i := 2) (oi := { dst := some 37, op := Op.move (Operand.tmp 0), type := _, pos := _, after := _, guard := none }) (v := ?_) rfl (by kernel_rfl) (by kernel_rfl) (by kernel_rfl) (fun _ _ _ h => h) (Or.inl ⟨by rfl, ?_⟩) (by assumption) ?_
        rotate_left
        · intro w hSw; (try dsimp only at hSw); go_simp; try with_reducible rfl
        try simp only [Act.put, List.setIfInBounds_toArray, List.set_cons_zero, List.set_cons_succ]
        refine wpAnyH_take (i := 3) (oi := { dst := some 38, op := Op.move (Operand.tmp 4), type := _, pos := _, after := _, guard := none }) (v := ?_) rfl (by kernel_rfl) (by kernel_rfl) (by kernel_rfl) (fun _ _ _ h => h) (Or.inl ⟨by rfl, ?_⟩) (by assumption) ?_
        rotate_left
        · intro w hSw; (try dsimp only at hSw); go_simp; try with_reducible rfl
        try simp only [Act.put, List.setIfInBounds_toArray, List.set_cons_zero, List.set_cons_succ]
        refine wpAnyH_take (i := 4) (oi := { dst := some 39, op := Op.nilCheck (Operand.tmp 38), type := _, pos := _, after := _, guard := none }) (v := ?_) rfl (by kernel_rfl) (by kernel_rfl) (by kernel_rfl) (fun _ _ _ h => h) (Or.inl ⟨by rfl, ?_⟩) (by assumption) ?_
        rotate_left
        · intro w hSw; (try dsimp only at hSw); go_simp; try with_reducible rfl
        try simp only [Act.put, List.setIfInBounds_toArray, List.set_cons_zero, List.set_cons_succ]
        refine wpAnyH_take (i := 5) (oi := { dst := some 40, op := Op.fieldAddr 108 (Operand.tmp 39) 2, type := _, pos := _, after := _, guard := none }) (v := ?_) rfl (by kernel_rfl) (by kernel_rfl) (by kernel_rfl) (fun _ _ _ h => h) (Or.inl ⟨by rfl, ?_⟩) (by assumption) ?_
        rotate_left
        · intro w hSw; (try dsimp only at hSw); go_simp; try with_reducible rfl
        try simp only [Act.put, List.setIfInBounds_toArray, List.set_cons_zero, List.set_cons_succ]
        refine wpAnyH_take (i := 6) (oi := { dst := some 41, op := Op.load 56 (Operand.tmp 40), type := _, pos := _, after := _, guard := none }) (v := ?_) rfl (by kernel_rfl) (by kernel_rfl) (by kernel_rfl) (fun _ _ _ h => h) (Or.inl ⟨by rfl, ?_⟩) (by assumption) ?_
        rotate_left
        · intro w hSw; (try dsimp only at hSw); go_simp; try with_reducible rfl
        try simp only [Act.put, List.setIfInBounds_toArray, List.set_cons_zero, List.set_cons_succ]
        refine wpAnyH_take (i := 7) (oi := { dst := some 42, op := Op.move (Operand.tmp 6), type := _, pos := _, after := _, guard := none }) (v := ?_) rfl (by kernel_rfl) (by kernel_rfl) (by kernel_rfl) (fun _ _ _ h => h) (Or.inl ⟨by rfl, ?_⟩) (by assumption) ?_
        rotate_left
        · intro w hSw; (try dsimp only at hSw); go_simp; try with_reducible rfl
        try simp only [Act.put, List.setIfInBounds_toArray, List.set_cons_zero, List.set_cons_succ]
        refine wpAnyH_take (i := 8) (oi := { dst := some 43, op := Op.indexAddr 56 (Operand.tmp 41) (Operand.tmp 42), type := _, pos := _, after := _, guard := none }) (v := ?_) rfl (by kernel_rfl) (by kernel_rfl) (by kernel_rfl) (fun _ _ _ h => h) (Or.inl ⟨by rfl, ?_⟩) (by assumption) ?_
        rotate_left
        · intro w hSw; (try dsimp only at hSw); go_simp; try with_reducible rfl
        try simp only [Act.put, List.setIfInBounds_toArray, List.set_cons_zero, List.set_cons_succ]
        refine wpAnyH_take (i := 9) (oi := { dst := some 44, op := Op.load 23 (Operand.tmp 43), type := _, pos := _, after := _, guard := none }) (v := ?_) rfl (by kernel_rfl) (by kernel_rfl) (by kernel_rfl) (fun _ _ _ h => h) (Or.inl ⟨by rfl, ?_⟩) (by assumption) ?_
        rotate_left
        · intro w hSw; (try dsimp only at hSw); go_simp; try with_reducible rfl
        try simp only [Act.put, List.setIfInBounds_toArray, List.set_cons_zero, List.set_cons_succ]
        refine wpAnyH_ready (rs := [1, 10]) (by kernel_rfl) (by simp) ?_
        refine AllReadyH.cons (o := { dst := some 36, op := Op.load 57 (Operand.tmp 35), type := _, pos := _, after := _, guard := none }) rfl ?legAR10p (AllReadyH.cons (o := { dst := some 45, op := Op.call { callee := Callee.value (Operand.func 22), args := #[Operand.tmp 37, Operand.tmp 44], argTypes := #[26, 23] }, type := _, pos := _, after := _, guard := none }) rfl ?legBR10p AllReadyH.nil)
        case' legAR10p =>
          intro K hK
          go_simp
          clear hHeld
          refine hK.out _ _ (by first | exact HKEEP.out _ (fun _ _ _ _ => rfl) | exact HSX8.out _ | exact HS8.out) (fun hHeld => ?_)
          clear hK K
          try simp only [Act.put, List.setIfInBounds_toArray, List.set_cons_zero, List.set_cons_succ]
          refine wpAnyH_ready (rs := [10]) (by kernel_rfl) (by simp) ?_
          refine AllReadyH.cons (o := { dst := some 45, op := Op.call { callee := Callee.value (Operand.func 22), args := #[Operand.tmp 37, Operand.tmp 44], argTypes := #[26, 23] }, type := _, pos := _, after := _, guard := none }) rfl (fun K hK => ?_) AllReadyH.nil
          go_simp
          refine (tells_any g search s _ _ cur w7.drew HN7d.out HG.out.2.1 HCVd.out HCI.out).mono ?_; rintro e w8 ⟨rfl, n8, hw8⟩; rw [← HTZ.out]; have HD8 := hid (show Dk w8 B mb B g db (.slice (some ⟨qb, qo, none⟩) (setsTo search s cur sets 37).length vcB) (.slice NA (rows.length + 1) nc) tv (setsTo search s cur sets 37) (rows ++ [rowTo search s cur sets 37]) tells by rw [hw8]; exact HD7.out); have HH8 := hid (show (∀ x : Nat, w8.heap[x]? = w7.heap[x]?) ∧ w8.heap.size = w7.heap.size by rw [hw8]; exact ⟨fun _ => rfl, rfl⟩); have HB8 := hid (show Below B W0 w8 by rw [hw8]; exact HB7.out.trans ⟨rfl, rfl, rfl, Nat.le_refl _, fun _ _ => rfl⟩); have HS8 := hid (HKEEP.out w8 (fun x _ _ _ => HH8.out.1 x)); have HSX8 := hid (fun (o : Obj) => HKEEP.out (w8.alloc o) (fun x hx _ _ => (heap_alloc_old _ _ (by rw [HH8.out.2]; exact hx)).trans (HH8.out.1 x))); obtain ⟨r0, r1, rf⟩ := slot2 HD8.out.2.2.1; have HPX8 := hid (fun (o : Obj) => ((Below.refl w8.heap.size w8).alloc (Nat.le_refl _) o).cell (p := ⟨db, 1, none⟩) (show db < w8.heap.size from (HD8.out.off.2.2.2 db List.mem_cons_self).2)); clear hw8 rf; go_wp2_with fail
          clear hHeld
          refine hK.out _ _ (by exact HS8.out) (fun hHeld => ?_)
          clear hK K
          try simp only [Act.put, List.setIfInBounds_toArray, List.set_cons_zero, List.set_cons_succ]
          refine wpAnyH_ready (rs := [11]) (by kernel_rfl) (by simp) ?_
          refine AllReadyH.cons (o := { dst := some 46, op := Op.buildSlice 57 1 #[(0, Operand.tmp 45)], type := _, pos := _, after := _, guard := none }) rfl (fun K hK => ?_) AllReadyH.nil
          go_simp
          have rx := (HPX8.out (.cells #[.int .u64 (tz : Int)] 37)).trans r1
          clear hHeld
          refine hK.out _ _ (by exact HSX8.out _) (fun hHeld => ?_)
          clear hK K
          try simp only [Act.put, List.setIfInBounds_toArray, List.set_cons_zero, List.set_cons_succ]
          obtain ⟨X, hX⟩ : ∃ X, X = w8.alloc (.cells #[.int .u64 (tz : Int)] 37) := ⟨_, rfl⟩
          have HXD := hid hX
          have hxb : Below w8.heap.size w8 X := by rw [hX]; exact (Below.refl _ _).alloc (Nat.le_refl _) _
          have HUX := hid (HD8.out.2.2.2.2.1.kept (grown_of_below hxb none) (Classical.em _))
          have HBX := hid (show B ≤ X.heap.size from Nat.le_trans (by have := HD8.out.2.1; have := (HD8.out.off.2.2.2 db List.mem_cons_self).2; omega) hxb.size)
          have HDX := hid ((hxb.block db (HD8.out.off.2.2.2 db List.mem_cons_self).2).trans HD8.out.2.2.1)
          clear hxb
          refine wpAnyH_ready (rs := [12]) (by kernel_rfl) (by simp) ?_
          refine AllReadyH.cons (o := { dst := some 47, op := Op.call { callee := Callee.builtin Builtin.append, args := #[Operand.tmp 36, Operand.tmp 46], argTypes := #[57, 57] }, type := _, pos := _, after := _, guard := none }) rfl (fun K hK => ?_) AllReadyH.nil
          rw [if_pos (by rfl)]
          try rw [← hX]
          refine wp_app X (.tmp 36) (.tmp 46) 57 rfl B 37 j0 _ 1 8 Try.underlying57 hj0 hy0 hy1 hy2 rfl (by decide) _ tells.length (tells.map (.int .u64)) rfl HUX.out _ 1 1 [.int .u64 (tz : Int)] rfl (by rw [hX]; exact src_new w8 #[.int .u64 (tz : Int)] 37 1 rfl) (one_nums .u64 [(tz : Int)]) (by simp only [maxLen]; omega) (by omega) HBX.out ?_
          intro v9 w9 ho9 hg9 hv9
          obtain ⟨TA, tc, rfl, -, -, -⟩ := own_arr ho9
          have HO9 := hid (show w9.ownsRow B 37 1 (.slice TA (tells.length + 1) tc) (tells.length + 1) ((tells ++ [(tz : Int)]).map (.int .u64)) by simpa using ho9)
          have HG9 := hid hg9
          have HV9 := hid hv9
          have HD9 := hid ((hg9.block db (Array.getElem?_eq_some_iff.1 HDX.out).1 (fun e => own_blk_ne HUX.out HDX.out (by decide) e.symm)).trans HDX.out)
          have HS9 := hid (HKEEP.out w9 (fun x hx hx1 hx2 => (hg9.block x (by rw [HXD.out]; simp; rw [HH8.out.2]; omega) (fun e => hx2 e.symm)).trans (by rw [HXD.out]; exact (heap_alloc_old _ _ (by rw [HH8.out.2]; exact hx)).trans (HH8.out.1 x))))
          have HS10 := hid (HKEEP.out (w9.setCell ⟨db, 1, none⟩ (.slice TA (tells.length + 1) tc)) (fun x hx hx1 hx2 => (kept_blocks HXD.out hg9 rfl x (by rw [HH8.out.2]; exact hx) hx1 hx2).trans (HH8.out.1 x)))
          obtain ⟨t0, t1, tf⟩ := slot2 HD9.out
          have tf1 := tf 1
          clear ho9 hg9 hv9 tf hX
          clear hHeld
          refine hK.out _ _ (by exact HS9.out) (fun hHeld => ?_)
          clear hK K
          try simp only [Act.put, List.setIfInBounds_toArray, List.set_cons_zero, List.set_cons_succ]
          refine wpAnyH_take (i := 13) (oi := { dst := some 48, op := Op.fieldAddr 59 (Operand.tmp 5) 1, type := _, pos := _, after := _, guard := none }) (v := ?_) rfl (by kernel_rfl) (by kernel_rfl) (by kernel_rfl) (fun _ _ _ h => h) (Or.inl ⟨by rfl, ?_⟩) (by assumption) ?_
          rotate_left
          · intro w hSw; (try dsimp only at hSw); go_simp; try with_reducible rfl
          try simp only [Act.put, List.setIfInBounds_toArray, List.set_cons_zero, List.set_cons_succ]
          refine wpAnyH_ready (rs := [14]) (by kernel_rfl) (by simp) ?_
          refine AllReadyH.cons (o := { dst := none, op := Op.store 57 (Operand.tmp 48) (Operand.tmp 47), type := _, pos := _, after := _, guard := none }) rfl (fun K hK => ?_) AllReadyH.nil
          go_simp
          clear hHeld
          refine hK.out _ _ (by exact HS10.out) (fun hHeld => ?_)
          clear hK K
          try simp only [Act.put, List.setIfInBounds_toArray, List.set_cons_zero, List.set_cons_succ]
          refine wpAnyH_done (by kernel_rfl) ?_ _
          clear hHeld
          obtain ⟨w10, hw10⟩ : ∃ w10, w10 = w9.setCell ⟨db, 1, none⟩ (.slice TA (tells.length + 1) tc) := ⟨_, rfl⟩
          have h10 := Dk.addTell HD8.out HXD.out HO9.out HG9.out HV9.out hw10
          have HD10 := hid h10.1
          have HB10 := hid (HB8.out.trans h10.2)
          have HRB10 := hid (show w10.heap[rb]? = some (.cells #[.slice none 0 0, .slice none 0 0] 59 (0, 0)) from (HB10.out.block rb (by rw [HRBE.out, HBB.out]; omega)).trans (show W0.heap[rb]? = _ by rw [HRBE.out]; exact HRB.out))
          have HNX2 := hid (show outB search s (i + 1) = (setsTo search s cur sets 37, rows ++ [rowTo search s cur sets 37], tells ++ [(tz : Int)]) by rw [HNX.out, HTZ.out])
          rw [← hw10]
          obtain ⟨S1, hS1⟩ : ∃ x, x = setsTo search s cur sets 37 := ⟨_, rfl⟩
          obtain ⟨R1, hR1⟩ : ∃ x, x = rows ++ [rowTo search s cur sets 37] := ⟨_, rfl⟩
          obtain ⟨T1, hT1⟩ : ∃ x, x = tells ++ [(tz : Int)] := ⟨_, rfl⟩
          rw [← hS1, ← hR1, ← hT1] at HD10 HNX2
          rw [← hS1] at HSL hilen
          clear HD5 HD7 HD8 HKEEP HS8 HSX8 HPX8 HCV HCVd HNX
          try rw [← hS1]
          obtain ⟨-, -, hmb10, -, -⟩ := id HD10.out.1
          obtain ⟨y0, y1, y2, -⟩ := slot3 hmb10
          clear d0 d1 p0 p1 e0 e1 ef0 g0 g1 r0 r1 t0 t1 tf1 m0 m1 m2
          clear hS1 hR1 hT1 hw10 h10 hmb10 HO9 HG9 HV9 HD9 HS9 HS10 HXD HUX HBX HDX
          have HPK := hid (And.intro HNX2.out (And.intro HD10.out (And.intro HB10.out (And.intro HPR.out (And.intro HSETS.out (And.intro HSL.out (And.intro HB0.out (And.intro HS0.out (And.intro HBB.out (And.intro HRBE.out HRB10.out))))))))))
          obtain ⟨z0, z1, zf⟩ := slot2 HRB10.out
          have zf0 := zf 0
          have zf1 := zf 1
          clear zf
          try clear i0
          try clear hi0
          try clear hz0
          try clear hz1
          try clear hz2
          try clear j0
          try clear hj0
          try clear hy0
          try clear hy1
          try clear hy2
          try clear HG
          try clear HB0
          try clear HRB
          try clear HS0
          try clear HN0
          try clear HMK1
          try clear HB1
          try clear HS1
          try clear HRBE
          try clear HBB
          try clear HMBE
          try clear HM2
          try clear HB2
          try clear HV2
          try clear HF0
          try clear HM3
          try clear HB3
          try clear HD4
          try clear HB4
          try clear HFIX
          try clear HB
          try clear HPR
          try clear hil
          try clear HLN
          try clear HSETS
          try clear HROWS
          try clear HTELLS
          try clear HD
          try clear m0
          try clear m1
          try clear m2
          try clear HCUR
          try clear HFS
          try clear HDd
          try clear HOFF
          try clear HBd
          try clear HCI
          try clear d0
          try clear d1
          try clear hrb
          try clear htb
          try clear HRL
          try clear HTL
          try clear HR37
          try clear HB7
          try clear HTZ
          try clear HN7
          try clear HN7d
          try clear HH8
          try clear HB8
          try clear rx
          try clear HB10
          try clear HRB10
          try clear hilen
          try clear HSL
          try clear HNX2
          try clear HD10
          try clear y0
          try clear y1
          by_cases hbig : 1000 < S1.length
          · go_wp2_with fail
            obtain ⟨e1, e2, e3, e4, e5, e6, e7, e8, e9, e10, e11⟩ := HPK.out
            have hp := heap_setCell_same _ rb 1 _ _ (.slice none 0 0) (heap_setCell_same w10 rb 0 _ _ (.slice none 0 0) e11)
            obtain ⟨c0, c1, -⟩ := slot2 hp
            refine bodyPost_ret (v := .tuple #[.agg #[.slice none 0 0, .slice none 0 0], .int .i64 7]) (by simp [results, Try.results29, go_sem, c0, c1]) rfl ⟨?_, .inr ⟨i, e4, by rw [← e5]; exact hlt, by rw [e1]; exact hbig, rfl⟩⟩
            exact ((e7.trans (e3.mono (show w.heap.size ≤ B by omega))).setCell (p := ⟨rb, 0, none⟩) (show w.heap.size ≤ rb by omega) _).setCell (p := ⟨rb, 1, none⟩) (show w.heap.size ≤ rb by omega) _
          · clear z0 z1 zf0 zf1
            go_wp2_with fail
            obtain ⟨e1, e2, e3, e4, e5, e6, -⟩ := HPK.out
            exact ⟨⟨i + 1, _, _, _, by go_num, by rw [e1]; show i + 1 ≤ S1.length; omega, hid (by rw [e1]; exact e2), hid e3, hid (fun k hk => by
              by_cases e : k < i
              · exact e4 k e
              · obtain rfl : k = i := by omega
                rw [e1]
                exact ⟨by rw [← e5]; exact hlt, by show S1.length ≤ 1000; omega⟩), hid (by rw [e1]; show S1.length ≤ 1000; omega)⟩, by simp [intOf]; omega⟩
        case' legBR10p =>
          intro K hK
          go_simp
          refine (tells_any g search s _ _ cur w7.drew HN7d.out HG.out.2.1 HCVd.out HCI.out).mono ?_; rintro e w8 ⟨rfl, n8, hw8⟩; rw [← HTZ.out]; have HD8 := hid (show Dk w8 B mb B g db (.slice (some ⟨qb, qo, none⟩) (setsTo search s cur sets 37).length vcB) (.slice NA (rows.length + 1) nc) tv (setsTo search s cur sets 37) (rows ++ [rowTo search s cur sets 37]) tells by rw [hw8]; exact HD7.out); have HH8 := hid (show (∀ x : Nat, w8.heap[x]? = w7.heap[x]?) ∧ w8.heap.size = w7.heap.size by rw [hw8]; exact ⟨fun _ => rfl, rfl⟩); have HB8 := hid (show Below B W0 w8 by rw [hw8]; exact HB7.out.trans ⟨rfl, rfl, rfl, Nat.le_refl _, fun _ _ => rfl⟩); have HS8 := hid (HKEEP.out w8 (fun x _ _ _ => HH8.out.1 x)); have HSX8 := hid (fun (o : Obj) => HKEEP.out (w8.alloc o) (fun x hx _ _ => (heap_alloc_old _ _ (by rw [HH8.out.2]; exact hx)).trans (HH8.out.1 x))); obtain ⟨r0, r1, rf⟩ := slot2 HD8.out.2.2.1; have HPX8 := hid (fun (o : Obj) => ((Below.refl w8.heap.size w8).alloc (Nat.le_refl _) o).cell (p := ⟨db, 1, none⟩) (show db < w8.heap.size from (HD8.out.off.2.2.2 db List.mem_cons_self).2)); clear hw8 rf; go_wp2_with fail
          clear hHeld
          refine hK.out _ _ (by exact HS8.out) (fun hHeld => ?_)
          clear hK K
          try simp only [Act.put, List.setIfInBounds_toArray, List.set_cons_zero, List.set_cons_succ]
          refine wpAnyH_ready (rs := [1, 11]) (by kernel_rfl) (by simp) ?_
          refine AllReadyH.cons (o := { dst := some 36, op := Op.load 57 (Operand.tmp 35), type := _, pos := _, after := _, guard := none }) rfl ?legAR10pb (AllReadyH.cons (o := { dst := some 46, op := Op.buildSlice 57 1 #[(0, Operand.tmp 45)], type := _, pos := _, after := _, guard := none }) rfl ?legBR10pb AllReadyH.nil)
          case' legAR10pb =>
            intro K hK
            go_simp
            clear hHeld
            refine hK.out _ _ (by first | exact HKEEP.out _ (fun _ _ _ _ => rfl) | exact HSX8.out _ | exact HS8.out) (fun hHeld => ?_)
            clear hK K
            try simp only [Act.put, List.setIfInBounds_toArray, List.set_cons_zero, List.set_cons_succ]
            refine wpAnyH_ready (rs := [11]) (by kernel_rfl) (by simp) ?_
            refine AllReadyH.cons (o := { dst := some 46, op := Op.buildSlice 57 1 #[(0, Operand.tmp 45)], type := _, pos := _, after := _, guard := none }) rfl (fun K hK => ?_) AllReadyH.nil
            go_simp
            have rx := (HPX8.out (.cells #[.int .u64 (tz : Int)] 37)).trans r1
            clear hHeld
            refine hK.out _ _ (by exact HSX8.out _) (fun hHeld => ?_)
            clear hK K
            try simp only [Act.put, List.setIfInBounds_toArray, List.set_cons_zero, List.set_cons_succ]
            obtain ⟨X, hX⟩ : ∃ X, X = w8.alloc (.cells #[.int .u64 (tz : Int)] 37) := ⟨_, rfl⟩
            have HXD := hid hX
            have hxb : Below w8.heap.size w8 X := by rw [hX]; exact (Below.refl _ _).alloc (Nat.le_refl _) _
            have HUX := hid (HD8.out.2.2.2.2.1.kept (grown_of_below hxb none) (Classical.em _))
            have HBX := hid (show B ≤ X.heap.size from Nat.le_trans (by have := HD8.out.2.1; have := (HD8.out.off.2.2.2 db List.mem_cons_self).2; omega) hxb.size)
            have HDX := hid ((hxb.block db (HD8.out.off.2.2.2 db List.mem_cons_self).2).trans HD8.out.2.2.1)
            clear hxb
            refine wpAnyH_ready (rs := [12]) (by kernel_rfl) (by simp) ?_
            refine AllReadyH.cons (o := { dst := some 47, op := Op.call { callee := Callee.builtin Builtin.append, args := #[Operand.tmp 36, Operand.tmp 46], argTypes := #[57, 57] }, type := _, pos := _, after := _, guard := none }) rfl (fun K hK => ?_) AllReadyH.nil
            rw [if_pos (by rfl)]
            try rw [← hX]
            refine wp_app X (.tmp 36) (.tmp 46) 57 rfl B 37 j0 _ 1 8 Try.underlying57 hj0 hy0 hy1 hy2 rfl (by decide) _ tells.length (tells.map (.int .u64)) rfl HUX.out _ 1 1 [.int .u64 (tz : Int)] rfl (by rw [hX]; exact src_new w8 #[.int .u64 (tz : Int)] 37 1 rfl) (one_nums .u64 [(tz : Int)]) (by simp only [maxLen]; omega) (by omega) HBX.out ?_
            intro v9 w9 ho9 hg9 hv9
            obtain ⟨TA, tc, rfl, -, -, -⟩ := own_arr ho9
            have HO9 := hid (show w9.ownsRow B 37 1 (.slice TA (tells.length + 1) tc) (tells.length + 1) ((tells ++ [(tz : Int)]).map (.int .u64)) by simpa using ho9)
            have HG9 := hid hg9
            have HV9 := hid hv9
            have HD9 := hid ((hg9.block db (Array.getElem?_eq_some_iff.1 HDX.out).1 (fun e => own_blk_ne HUX.out HDX.out (by decide) e.symm)).trans HDX.out)
            have HS9 := hid (HKEEP.out w9 (fun x hx hx1 hx2 => (hg9.block x (by rw [HXD.out]; simp; rw [HH8.out.2]; omega) (fun e => hx2 e.symm)).trans (by rw [HXD.out]; exact (heap_alloc_old _ _ (by rw [HH8.out.2]; exact hx)).trans (HH8.out.1 x))))
            have HS10 := hid (HKEEP.out (w9.setCell ⟨db, 1, none⟩ (.slice TA (tells.length + 1) tc)) (fun x hx hx1 hx2 => (kept_blocks HXD.out hg9 rfl x (by rw [HH8.out.2]; exact hx) hx1 hx2).trans (HH8.out.1 x)))
            obtain ⟨t0, t1, tf⟩ := slot2 HD9.out
            have tf1 := tf 1
            clear ho9 hg9 hv9 tf hX
            clear hHeld
            refine hK.out _ _ (by exact HS9.out) (fun hHeld => ?_)
            clear hK K
            try simp only [Act.put, List.setIfInBounds_toArray, List.set_cons_zero, List.set_cons_succ]
            refine wpAnyH_take (i := 13) (oi := { dst := some 48, op := Op.fieldAddr 59 (Operand.tmp 5) 1, type := _, pos := _, after := _, guard := none }) (v := ?_) rfl (by kernel_rfl) (by kernel_rfl) (by kernel_rfl) (fun _ _ _ h => h) (Or.inl ⟨by rfl, ?_⟩) (by assumption) ?_
            rotate_left
            · intro w hSw; (try dsimp only at hSw); go_simp; try with_reducible rfl
            try simp only [Act.put, List.setIfInBounds_toArray, List.set_cons_zero, List.set_cons_succ]
            refine wpAnyH_ready (rs := [14]) (by kernel_rfl) (by simp) ?_
            refine AllReadyH.cons (o := { dst := none, op := Op.store 57 (Operand.tmp 48) (Operand.tmp 47), type := _, pos := _, after := _, guard := none }) rfl (fun K hK => ?_) AllReadyH.nil
            go_simp
            clear hHeld
            refine hK.out _ _ (by exact HS10.out) (fun hHeld => ?_)
            clear hK K
            try simp only [Act.put, List.setIfInBounds_toArray, List.set_cons_zero, List.set_cons_succ]
            refine wpAnyH_done (by kernel_rfl) ?_ _
            clear hHeld
            obtain ⟨w10, hw10⟩ : ∃ w10, w10 = w9.setCell ⟨db, 1, none⟩ (.slice TA (tells.length + 1) tc) := ⟨_, rfl⟩
            have h10 := Dk.addTell HD8.out HXD.out HO9.out HG9.out HV9.out hw10
            have HD10 := hid h10.1
            have HB10 := hid (HB8.out.trans h10.2)
            have HRB10 := hid (show w10.heap[rb]? = some (.cells #[.slice none 0 0, .slice none 0 0] 59 (0, 0)) from (HB10.out.block rb (by rw [HRBE.out, HBB.out]; omega)).trans (show W0.heap[rb]? = _ by rw [HRBE.out]; exact HRB.out))
            have HNX2 := hid (show outB search s (i + 1) = (setsTo search s cur sets 37, rows ++ [rowTo search s cur sets 37], tells ++ [(tz : Int)]) by rw [HNX.out, HTZ.out])
            rw [← hw10]
            obtain ⟨S1, hS1⟩ : ∃ x, x = setsTo search s cur sets 37 := ⟨_, rfl⟩
            obtain ⟨R1, hR1⟩ : ∃ x, x = rows ++ [rowTo search s cur sets 37] := ⟨_, rfl⟩
            obtain ⟨T1, hT1⟩ : ∃ x, x = tells ++ [(tz : Int)] := ⟨_, rfl⟩
            rw [← hS1, ← hR1, ← hT1] at HD10 HNX2
            rw [← hS1] at HSL hilen
            clear HD5 HD7 HD8 HKEEP HS8 HSX8 HPX8 HCV HCVd HNX
            try rw [← hS1]
            obtain ⟨-, -, hmb10, -, -⟩ := id HD10.out.1
            obtain ⟨y0, y1, y2, -⟩ := slot3 hmb10
            clear d0 d1 p0 p1 e0 e1 ef0 g0 g1 r0 r1 t0 t1 tf1 m0 m1 m2
            clear hS1 hR1 hT1 hw10 h10 hmb10 HO9 HG9 HV9 HD9 HS9 HS10 HXD HUX HBX HDX
            have HPK := hid (And.intro HNX2.out (And.intro HD10.out (And.intro HB10.out (And.intro HPR.out (And.intro HSETS.out (And.intro HSL.out (And.intro HB0.out (And.intro HS0.out (And.intro HBB.out (And.intro HRBE.out HRB10.out))))))))))
            obtain ⟨z0, z1, zf⟩ := slot2 HRB10.out
            have zf0 := zf 0
            have zf1 := zf 1
            clear zf
            try clear i0
            try clear hi0
            try clear hz0
            try clear hz1
            try clear hz2
            try clear j0
            try clear hj0
            try clear hy0
            try clear hy1
            try clear hy2
            try clear HG
            try clear HB0
            try clear HRB
            try clear HS0
            try clear HN0
            try clear HMK1
            try clear HB1
            try clear HS1
            try clear HRBE
            try clear HBB
            try clear HMBE
            try clear HM2
            try clear HB2
            try clear HV2
            try clear HF0
            try clear HM3
            try clear HB3
            try clear HD4
            try clear HB4
            try clear HFIX
            try clear HB
            try clear HPR
            try clear hil
            try clear HLN
            try clear HSETS
            try clear HROWS
            try clear HTELLS
            try clear HD
            try clear m0
            try clear m1
            try clear m2
            try clear HCUR
            try clear HFS
            try clear HDd
            try clear HOFF
            try clear HBd
            try clear HCI
            try clear d0
            try clear d1
            try clear hrb
            try clear htb
            try clear HRL
            try clear HTL
            try clear HR37
            try clear HB7
            try clear HTZ
            try clear HN7
            try clear HN7d
            try clear HH8
            try clear HB8
            try clear rx
            try clear HB10
            try clear HRB10
            try clear hilen
            try clear HSL
            try clear HNX2
            try clear HD10
            try clear y0
            try clear y1
            by_cases hbig : 1000 < S1.length
            · go_wp2_with fail
              obtain ⟨e1, e2, e3, e4, e5, e6, e7, e8, e9, e10, e11⟩ := HPK.out
              have hp := heap_setCell_same _ rb 1 _ _ (.slice none 0 0) (heap_setCell_same w10 rb 0 _ _ (.slice none 0 0) e11)
              obtain ⟨c0, c1, -⟩ := slot2 hp
              refine bodyPost_ret (v := .tuple #[.agg #[.slice none 0 0, .slice none 0 0], .int .i64 7]) (by simp [results, Try.results29, go_sem, c0, c1]) rfl ⟨?_, .inr ⟨i, e4, by rw [← e5]; exact hlt, by rw [e1]; exact hbig, rfl⟩⟩
              exact ((e7.trans (e3.mono (show w.heap.size ≤ B by omega))).setCell (p := ⟨rb, 0, none⟩) (show w.heap.size ≤ rb by omega) _).setCell (p := ⟨rb, 1, none⟩) (show w.heap.size ≤ rb by omega) _
            · clear z0 z1 zf0 zf1
              go_wp2_with fail
              obtain ⟨e1, e2, e3, e4, e5, e6, -⟩ := HPK.out
              exact ⟨⟨i + 1, _, _, _, by go_num, by rw [e1]; show i + 1 ≤ S1.length; omega, hid (by rw [e1]; exact e2), hid e3, hid (fun k hk => by
                by_cases e : k < i
                · exact e4 k e
                · obtain rfl : k = i := by omega
                  rw [e1]
                  exact ⟨by rw [← e5]; exact hlt, by show S1.length ≤ 1000; omega⟩), hid (by rw [e1]; show S1.length ≤ 1000; omega)⟩, by simp [intOf]; omega⟩
          case' legBR10pb =>
            intro K hK
            go_simp
            have rx := (HPX8.out (.cells #[.int .u64 (tz : Int)] 37)).trans r1
            clear hHeld
            refine hK.out _ _ (by exact HSX8.out _) (fun hHeld => ?_)
            clear hK K
            try simp only [Act.put, List.setIfInBounds_toArray, List.set_cons_zero, List.set_cons_succ]
            refine wpAnyH_ready (rs := [1]) (by kernel_rfl) (by simp) ?_
            refine AllReadyH.cons (o := { dst := some 36, op := Op.load 57 (Operand.tmp 35), type := _, pos := _, after := _, guard := none }) rfl (fun K hK => ?_) AllReadyH.nil
            go_simp
            clear hHeld
            refine hK.out _ _ (by first | exact HKEEP.out _ (fun _ _ _ _ => rfl) | exact HSX8.out _ | exact HS8.out) (fun hHeld => ?_)
            clear hK K
            try simp only [Act.put, List.setIfInBounds_toArray, List.set_cons_zero, List.set_cons_succ]
            obtain ⟨X, hX⟩ : ∃ X, X = w8.alloc (.cells #[.int .u64 (tz : Int)] 37) := ⟨_, rfl⟩
            have HXD := hid hX
            have hxb : Below w8.heap.size w8 X := by rw [hX]; exact (Below.refl _ _).alloc (Nat.le_refl _) _
            have HUX := hid (HD8.out.2.2.2.2.1.kept (grown_of_below hxb none) (Classical.em _))
            have HBX := hid (show B ≤ X.heap.size from Nat.le_trans (by have := HD8.out.2.1; have := (HD8.out.off.2.2.2 db List.mem_cons_self).2; omega) hxb.size)
            have HDX := hid ((hxb.block db (HD8.out.off.2.2.2 db List.mem_cons_self).2).trans HD8.out.2.2.1)
            clear hxb
            refine wpAnyH_ready (rs := [12]) (by kernel_rfl) (by simp) ?_
            refine AllReadyH.cons (o := { dst := some 47, op := Op.call { callee := Callee.builtin Builtin.append, args := #[Operand.tmp 36, Operand.tmp 46], argTypes := #[57, 57] }, type := _, pos := _, after := _, guard := none }) rfl (fun K hK => ?_) AllReadyH.nil
            rw [if_pos (by rfl)]
            try rw [← hX]
            refine wp_app X (.tmp 36) (.tmp 46) 57 rfl B 37 j0 _ 1 8 Try.underlying57 hj0 hy0 hy1 hy2 rfl (by decide) _ tells.length (tells.map (.int .u64)) rfl HUX.out _ 1 1 [.int .u64 (tz : Int)] rfl (by rw [hX]; exact src_new w8 #[.int .u64 (tz : Int)] 37 1 rfl) (one_nums .u64 [(tz : Int)]) (by simp only [maxLen]; omega) (by omega) HBX.out ?_
            intro v9 w9 ho9 hg9 hv9
            obtain ⟨TA, tc, rfl, -, -, -⟩ := own_arr ho9
            have HO9 := hid (show w9.ownsRow B 37 1 (.slice TA (tells.length + 1) tc) (tells.length + 1) ((tells ++ [(tz : Int)]).map (.int .u64)) by simpa using ho9)
            have HG9 := hid hg9
            have HV9 := hid hv9
            have HD9 := hid ((hg9.block db (Array.getElem?_eq_some_iff.1 HDX.out).1 (fun e => own_blk_ne HUX.out HDX.out (by decide) e.symm)).trans HDX.out)
            have HS9 := hid (HKEEP.out w9 (fun x hx hx1 hx2 => (hg9.block x (by rw [HXD.out]; simp; rw [HH8.out.2]; omega) (fun e => hx2 e.symm)).trans (by rw [HXD.out]; exact (heap_alloc_old _ _ (by rw [HH8.out.2]; exact hx)).trans (HH8.out.1 x))))
            have HS10 := hid (HKEEP.out (w9.setCell ⟨db, 1, none⟩ (.slice TA (tells.length + 1) tc)) (fun x hx hx1 hx2 => (kept_blocks HXD.out hg9 rfl x (by rw [HH8.out.2]; exact hx) hx1 hx2).trans (HH8.out.1 x)))
            obtain ⟨t0, t1, tf⟩ := slot2 HD9.out
            have tf1 := tf 1
            clear ho9 hg9 hv9 tf hX
            clear hHeld
            refine hK.out _ _ (by exact HS9.out) (fun hHeld => ?_)
            clear hK K
            try simp only [Act.put, List.setIfInBounds_toArray, List.set_cons_zero, List.set_cons_succ]
            refine wpAnyH_take (i := 13) (oi := { dst := some 48, op := Op.fieldAddr 59 (Operand.tmp 5) 1, type := _, pos := _, after := _, guard := none }) (v := ?_) rfl (by kernel_rfl) (by kernel_rfl) (by kernel_rfl) (fun _ _ _ h => h) (Or.inl ⟨by rfl, ?_⟩) (by assumption) ?_
            rotate_left
            · intro w hSw; (try dsimp only at hSw); go_simp; try with_reducible rfl
            try simp only [Act.put, List.setIfInBounds_toArray, List.set_cons_zero, List.set_cons_succ]
            refine wpAnyH_ready (rs := [14]) (by kernel_rfl) (by simp) ?_
            refine AllReadyH.cons (o := { dst := none, op := Op.store 57 (Operand.tmp 48) (Operand.tmp 47), type := _, pos := _, after := _, guard := none }) rfl (fun K hK => ?_) AllReadyH.nil
            go_simp
            clear hHeld
            refine hK.out _ _ (by exact HS10.out) (fun hHeld => ?_)
            clear hK K
            try simp only [Act.put, List.setIfInBounds_toArray, List.set_cons_zero, List.set_cons_succ]
            refine wpAnyH_done (by kernel_rfl) ?_ _
            clear hHeld
            obtain ⟨w10, hw10⟩ : ∃ w10, w10 = w9.setCell ⟨db, 1, none⟩ (.slice TA (tells.length + 1) tc) := ⟨_, rfl⟩
            have h10 := Dk.addTell HD8.out HXD.out HO9.out HG9.out HV9.out hw10
            have HD10 := hid h10.1
            have HB10 := hid (HB8.out.trans h10.2)
            have HRB10 := hid (show w10.heap[rb]? = some (.cells #[.slice none 0 0, .slice none 0 0] 59 (0, 0)) from (HB10.out.block rb (by rw [HRBE.out, HBB.out]; omega)).trans (show W0.heap[rb]? = _ by rw [HRBE.out]; exact HRB.out))
            have HNX2 := hid (show outB search s (i + 1) = (setsTo search s cur sets 37, rows ++ [rowTo search s cur sets 37], tells ++ [(tz : Int)]) by rw [HNX.out, HTZ.out])
            rw [← hw10]
            obtain ⟨S1, hS1⟩ : ∃ x, x = setsTo search s cur sets 37 := ⟨_, rfl⟩
            obtain ⟨R1, hR1⟩ : ∃ x, x = rows ++ [rowTo search s cur sets 37] := ⟨_, rfl⟩
            obtain ⟨T1, hT1⟩ : ∃ x, x = tells ++ [(tz : Int)] := ⟨_, rfl⟩
            rw [← hS1, ← hR1, ← hT1] at HD10 HNX2
            rw [← hS1] at HSL hilen
            clear HD5 HD7 HD8 HKEEP HS8 HSX8 HPX8 HCV HCVd HNX
            try rw [← hS1]
            obtain ⟨-, -, hmb10, -, -⟩ := id HD10.out.1
            obtain ⟨y0, y1, y2, -⟩ := slot3 hmb10
            clear d0 d1 p0 p1 e0 e1 ef0 g0 g1 r0 r1 t0 t1 tf1 m0 m1 m2
            clear hS1 hR1 hT1 hw10 h10 hmb10 HO9 HG9 HV9 HD9 HS9 HS10 HXD HUX HBX HDX
            have HPK := hid (And.intro HNX2.out (And.intro HD10.out (And.intro HB10.out (And.intro HPR.out (And.intro HSETS.out (And.intro HSL.out (And.intro HB0.out (And.intro HS0.out (And.intro HBB.out (And.intro HRBE.out HRB10.out))))))))))
            obtain ⟨z0, z1, zf⟩ := slot2 HRB10.out
            have zf0 := zf 0
            have zf1 := zf 1
            clear zf
            try clear i0
            try clear hi0
            try clear hz0
            try clear hz1
            try clear hz2
            try clear j0
            try clear hj0
            try clear hy0
            try clear hy1
            try clear hy2
            try clear HG
            try clear HB0
            try clear HRB
            try clear HS0
            try clear HN0
            try clear HMK1
            try clear HB1
            try clear HS1
            try clear HRBE
            try clear HBB
            try clear HMBE
            try clear HM2
            try clear HB2
            try clear HV2
            try clear HF0
            try clear HM3
            try clear HB3
            try clear HD4
            try clear HB4
            try clear HFIX
            try clear HB
            try clear HPR
            try clear hil
            try clear HLN
            try clear HSETS
            try clear HROWS
            try clear HTELLS
            try clear HD
            try clear m0
            try clear m1
            try clear m2
            try clear HCUR
            try clear HFS
            try clear HDd
            try clear HOFF
            try clear HBd
            try clear HCI
            try clear d0
            try clear d1
            try clear hrb
            try clear htb
            try clear HRL
            try clear HTL
            try clear HR37
            try clear HB7
            try clear HTZ
            try clear HN7
            try clear HN7d
            try clear HH8
            try clear HB8
            try clear rx
            try clear HB10
            try clear HRB10
            try clear hilen
            try clear HSL
            try clear HNX2
            try clear HD10
            try clear y0
            try clear y1
            by_cases hbig : 1000 < S1.length
            · go_wp2_with fail
              obtain ⟨e1, e2, e3, e4, e5, e6, e7, e8, e9, e10, e11⟩ := HPK.out
              have hp := heap_setCell_same _ rb 1 _ _ (.slice none 0 0) (heap_setCell_same w10 rb 0 _ _ (.slice none 0 0) e11)
              obtain ⟨c0, c1, -⟩ := slot2 hp
              refine bodyPost_ret (v := .tuple #[.agg #[.slice none 0 0, .slice none 0 0], .int .i64 7]) (by simp [results, Try.results29, go_sem, c0, c1]) rfl ⟨?_, .inr ⟨i, e4, by rw [← e5]; exact hlt, by rw [e1]; exact hbig, rfl⟩⟩
              exact ((e7.trans (e3.mono (show w.heap.size ≤ B by omega))).setCell (p := ⟨rb, 0, none⟩) (show w.heap.size ≤ rb by omega) _).setCell (p := ⟨rb, 1, none⟩) (show w.heap.size ≤ rb by omega) _
            · clear z0 z1 zf0 zf1
              go_wp2_with fail
              obtain ⟨e1, e2, e3, e4, e5, e6, -⟩ := HPK.out
              exact ⟨⟨i + 1, _, _, _, by go_num, by rw [e1]; show i + 1 ≤ S1.length; omega, hid (by rw [e1]; exact e2), hid e3, hid (fun k hk => by
                by_cases e : k < i
                · exact e4 k e
                · obtain rfl : k = i := by omega
                  rw [e1]
                  exact ⟨by rw [← e5]; exact hlt, by show S1.length ≤ 1000; omega⟩), hid (by rw [e1]; show S1.length ≤ 1000; omega)⟩, by simp [intOf]; omega⟩
      case' legBR9 =>
        intro K hK
        go_simp
        refine (row_any (w0 := W0) HDd.out.1 (fun k hk => (HOFF.out k hk).2) (HS0.out.trans HBB.out.symm) HN0.out HBd.out HG.out HFS.out HCUR.out HCI.out hln).mono ?_; rintro e w5 ⟨ob, rfl, hob, hblk, hans⟩; obtain ⟨vs5, hd5, hb5⟩ := HDd.out.row hans; have HD5 := hid hd5; have HI5 := hid hblk; have HOB5 := hid (show B ≤ ob from Nat.le_trans (by have := HBd.out.size; have := HDd.out.2.1; have := (HOFF.out db List.mem_cons_self).2; omega) hob); have HB5 := hid (HBd.out.trans hb5); obtain ⟨p0, p1, pf⟩ := slot2 HD5.out.2.2.1; have HPX := hid (fun (o : Obj) => ((Below.refl w5.heap.size w5).alloc (Nat.le_refl _) o).cell (p := ⟨db, 0, none⟩) (show db < w5.heap.size from (HD5.out.off.2.2.2 db List.mem_cons_self).2)); clear hans hblk hd5 hb5 hob pf; go_wp2_with fail
        clear hHeld
        refine hK.out _ _ (by trivial) (fun hHeld => ?_)
        clear hK K
        try simp only [Act.put, List.setIfInBounds_toArray, List.set_cons_zero, List.set_cons_succ]
        refine wpAnyH_ready (rs := [1, 5]) (by kernel_rfl) (by simp) ?_
        refine AllReadyH.cons (o := { dst := some 28, op := Op.load 56 (Operand.tmp 27), type := _, pos := _, after := _, guard := none }) rfl ?legAR9b (AllReadyH.cons (o := { dst := some 32, op := Op.buildSlice 56 1 #[(0, Operand.tmp 31)], type := _, pos := _, after := _, guard := none }) rfl ?legBR9b AllReadyH.nil)
        case' legAR9b =>
          intro K hK
          go_simp
          clear hHeld
          refine hK.out _ _ (by trivial) (fun hHeld => ?_)
          clear hK K
          try simp only [Act.put, List.setIfInBounds_toArray, List.set_cons_zero, List.set_cons_succ]
          refine wpAnyH_ready (rs := [5]) (by kernel_rfl) (by simp) ?_
          refine AllReadyH.cons (o := { dst := some 32, op := Op.buildSlice 56 1 #[(0, Operand.tmp 31)], type := _, pos := _, after := _, guard := none }) rfl (fun K hK => ?_) AllReadyH.nil
          go_simp
          have px := (HPX.out (.cells #[.slice (some ⟨ob, 0, none⟩) 37 37] 23)).trans p0
          clear hHeld
          refine hK.out _ _ (by trivial) (fun hHeld => ?_)
          clear hK K
          try simp only [Act.put, List.setIfInBounds_toArray, List.set_cons_zero, List.set_cons_succ]
          obtain ⟨us, hus, hrw⟩ := id HD5.out.2.2.2.1
          have HUS := hid hus
          have HRW := hid hrw
          obtain ⟨X, hX⟩ : ∃ X, X = w5.alloc (.cells #[.slice (some ⟨ob, 0, none⟩) 37 37] 23) := ⟨_, rfl⟩
          have HXD := hid hX
          have hxb : Below w5.heap.size w5 X := by rw [hX]; exact (Below.refl _ _).alloc (Nat.le_refl _) _
          have HUX := hid (hus.kept (grown_of_below hxb none) (Classical.em _))
          have HBX := hid (show B ≤ X.heap.size from Nat.le_trans (by have := HB5.out.size; have := HD5.out.2.1; have := (HD5.out.off.2.2.2 db List.mem_cons_self).2; omega) hxb.size)
          have HDX := hid ((hxb.block db (HD5.out.off.2.2.2 db List.mem_cons_self).2).trans HD5.out.2.2.1)
          clear hus hrw hxb
          refine wpAnyH_ready (rs := [6]) (by kernel_rfl) (by simp) ?_
          refine AllReadyH.cons (o := { dst := some 33, op := Op.call { callee := Callee.builtin Builtin.append, args := #[Operand.tmp 28, Operand.tmp 32], argTypes := #[56, 56] }, type := _, pos := _, after := _, guard := none }) rfl (fun K hK => ?_) AllReadyH.nil
          rw [if_pos (by rfl)]
          try rw [← hX]
          refine wp_app X (.tmp 28) (.tmp 32) 56 rfl B 23 i0 _ 1 24 Try.underlying56 hi0 hz0 hz1 hz2 rfl (by decide) _ rows.length us rfl HUX.out _ 1 1 [.slice (some ⟨ob, 0, none⟩) 37 37] rfl (by rw [hX]; exact src_new w5 #[.slice (some ⟨ob, 0, none⟩) 37 37] 23 1 rfl) (by intro u hu; simp at hu; rw [hu]; rfl) (by simp only [maxLen]; omega) (by omega) HBX.out ?_
          intro v6 w6 ho6 hg6 hv6
          obtain ⟨NA, nc, rfl, -, -, -⟩ := own_arr ho6
          have HO6 := hid ho6
          have HG6 := hid hg6
          have HV6 := hid hv6
          have HD6 := hid ((hg6.block db (Array.getElem?_eq_some_iff.1 HDX.out).1 (fun e => own_blk_ne HUX.out HDX.out (by decide) e.symm)).trans HDX.out)
          obtain ⟨e0, e1, ef⟩ := slot2 HD6.out
          have ef0 := ef 0
          clear ho6 hg6 hv6 ef hX
          clear hHeld
          refine hK.out _ _ (by trivial) (fun hHeld => ?_)
          clear hK K
          try simp only [Act.put, List.setIfInBounds_toArray, List.set_cons_zero, List.set_cons_succ]
          refine wpAnyH_take (i := 7) (oi := { dst := some 34, op := Op.fieldAddr 59 (Operand.tmp 5) 0, type := _, pos := _, after := _, guard := none }) (v := ?_) rfl (by kernel_rfl) (by kernel_rfl) (by kernel_rfl) (fun _ _ _ h => h) (Or.inl ⟨by rfl, ?_⟩) (by assumption) ?_
          rotate_left
          · intro w hSw; (try dsimp only at hSw); go_simp; try with_reducible rfl
          try simp only [Act.put, List.setIfInBounds_toArray, List.set_cons_zero, List.set_cons_succ]
          refine wpAnyH_ready (rs := [8]) (by kernel_rfl) (by simp) ?_
          refine AllReadyH.cons (o := { dst := none, op := Op.store 56 (Operand.tmp 34) (Operand.tmp 33), type := _, pos := _, after := _, guard := none }) rfl (fun K hK => ?_) AllReadyH.nil
          go_simp
          clear hHeld
          refine hK.out _ _ (by trivial) (fun hHeld => ?_)
          clear hK K
          try simp only [Act.put, List.setIfInBounds_toArray, List.set_cons_zero, List.set_cons_succ]
          refine wpAnyH_done (by kernel_rfl) ?_ _
          clear hHeld
          obtain ⟨w7, hw7⟩ : ∃ w7, w7 = w6.setCell ⟨db, 0, none⟩ (.slice NA (rows.length + 1) nc) := ⟨_, rfl⟩
          have h7 := Dk.addRow (row := rowTo search s cur sets 37) HD5.out HUS.out HRW.out HI5.out HOB5.out (by rw [HR37.out]; decide) (by rw [HR37.out]; exact HXD.out) (by rw [HR37.out]; exact HO6.out) HG6.out HV6.out hw7
          have HD7 := hid h7.1
          have HB7 := hid (HB5.out.trans h7.2)
          go_wp2_with fail
          rw [← hw7]
          clear hw7 h7 HO6 HG6 HV6 HD6 HUS HRW HXD HUX HBX HDX HI5 HOB5 HB5 HPX
          obtain ⟨-, -, hmb7, -, us7, hus7, hrow7⟩ := id HD7.out.1
          obtain ⟨VB, vcB, rfl, -, -, hVB⟩ := own_arr hus7
          have hget : (setsTo search s cur sets 37)[i]? = some cur := setsTo_get HCUR.out 37
          obtain ⟨cv, ecv, hcv⟩ := hrow7 i cur hget
          obtain ⟨CA, cc, rfl⟩ := hcv.form
          obtain ⟨qb, qo, eVB, _, hqb, q0⟩ := hVB.at ecv
          subst eVB
          have hilen : i < (setsTo search s cur sets 37).length := (List.getElem?_eq_some_iff.1 hget).1
          have HSL := hid (setsTo_len (search := search) (s := s) (cur := cur) (sets := sets) 37)
          have HKEEP := hid (new_keep HD7.out hus7 hmb7 q0)
          have HCV := hid hcv
          clear hmb7 hus7 hrow7 hVB ecv hcv hqb q0 hget
          obtain ⟨tz, htz⟩ : ∃ tz : Nat, tz = tellsB s cur := ⟨_, rfl⟩
          have HTZ := hid htz
          obtain ⟨g0, g1, gf⟩ := slot2 HD7.out.2.2.1
          have HN7 := hid (show IsNfa w7 g search s from HN0.out.below (by rw [HS0.out, ← HBB.out]; exact HB7.out))
          have HN7d := hid (HN7.out.below (show Below w7.heap.size w7 w7.drew from (Below.refl _ _).drew))
          have HCVd := hid (HCV.out.below (show Below w7.heap.size w7 w7.drew from (Below.refl _ _).drew))
          clear htz gf
          refine wp_region_held_drew (S := (fun Y => Y.cell? ⟨mb, 2, none⟩ = some (.slice (some ⟨qb, qo, none⟩) (setsTo search s cur sets 37).length vcB) ∧ Y.cell? ⟨qb, qo + i, none⟩ = some (.slice CA cur.length cc))) (by kernel_rfl) (by exact HKEEP.out w7 (fun _ _ _ _ => rfl)) (fun hHeld => ?_)
          refine wpAnyH_take (i := 0) (oi := { dst := some 35, op := Op.fieldAddr 59 (Operand.tmp 5) 1, type := _, pos := _, after := _, guard := none }) (v := ?_) rfl (by kernel_rfl) (by kernel_rfl) (by kernel_rfl) (fun _ _ _ h => h) (Or.inl ⟨by rfl, ?_⟩) (by assumption) ?_
          rotate_left
          · intro w hSw; (try dsimp only at hSw); go_simp; try with_reducible rfl
          try simp only [Act.put, List.setIfInBounds_toArray, List.set_cons_zero, List.set_cons_succ]
          refine wpAnyH_take (i := 2) (oi := { dst := some 37, op := Op.move (Operand.tmp 0), type := _, pos := _, after := _, guard := none }) (v := ?_) rfl (by kernel_rfl) (by kernel_rfl) (by kernel_rfl) (fun _ _ _ h => h) (Or.inl ⟨by rfl, ?_⟩) (by assumption) ?_
          rotate_left
          · intro w hSw; (try dsimp only at hSw); go_simp; try with_reducible rfl
          try simp only [Act.put, List.setIfInBounds_toArray, List.set_cons_zero, List.set_cons_succ]
          refine wpAnyH_take (i := 3) (oi := { dst := some 38, op := Op.move (Operand.tmp 4), type := _, pos := _, after := _, guard := none }) (v := ?_) rfl (by kernel_rfl) (by kernel_rfl) (by kernel_rfl) (fun _ _ _ h => h) (Or.inl ⟨by rfl, ?_⟩) (by assumption) ?_
          rotate_left
          · intro w hSw; (try dsimp only at hSw); go_simp; try with_reducible rfl
          try simp only [Act.put, List.setIfInBounds_toArray, List.set_cons_zero, List.set_cons_succ]
          refine wpAnyH_take (i := 4) (oi := { dst := some 39, op := Op.nilCheck (Operand.tmp 38), type := _, pos := _, after := _, guard := none }) (v := ?_) rfl (by kernel_rfl) (by kernel_rfl) (by kernel_rfl) (fun _ _ _ h => h) (Or.inl ⟨by rfl, ?_⟩) (by assumption) ?_
          rotate_left
          · intro w hSw; (try dsimp only at hSw); go_simp; try with_reducible rfl
          try simp only [Act.put, List.setIfInBounds_toArray, List.set_cons_zero, List.set_cons_succ]
          refine wpAnyH_take (i := 5) (oi := { dst := some 40, op := Op.fieldAddr 108 (Operand.tmp 39) 2, type := _, pos := _, after := _, guard := none }) (v := ?_) rfl (by kernel_rfl) (by kernel_rfl) (by kernel_rfl) (fun _ _ _ h => h) (Or.inl ⟨by rfl, ?_⟩) (by assumption) ?_
          rotate_left
          · intro w hSw; (try dsimp only at hSw); go_simp; try with_reducible rfl
          try simp only [Act.put, List.setIfInBounds_toArray, List.set_cons_zero, List.set_cons_succ]
          refine wpAnyH_take (i := 6) (oi := { dst := some 41, op := Op.load 56 (Operand.tmp 40), type := _, pos := _, after := _, guard := none }) (v := ?_) rfl (by kernel_rfl) (by kernel_rfl) (by kernel_rfl) (fun _ _ _ h => h) (Or.inl ⟨by rfl, ?_⟩) (by assumption) ?_
          rotate_left
          · intro w hSw; (try dsimp only at hSw); go_simp; try with_reducible rfl
          try simp only [Act.put, List.setIfInBounds_toArray, List.set_cons_zero, List.set_cons_succ]
          refine wpAnyH_take (i := 7) (oi := { dst := some 42, op := Op.move (Operand.tmp 6), type := _, pos := _, after := _, guard := none }) (v := ?_) rfl (by kernel_rfl) (by kernel_rfl) (by kernel_rfl) (fun _ _ _ h => h) (Or.inl ⟨by rfl, ?_⟩) (by assumption) ?_
          rotate_left
          · intro w hSw; (try dsimp only at hSw); go_simp; try with_reducible rfl
          try simp only [Act.put, List.setIfInBounds_toArray, List.set_cons_zero, List.set_cons_succ]
          refine wpAnyH_take (i := 8) (oi := { dst := some 43, op := Op.indexAddr 56 (Operand.tmp 41) (Operand.tmp 42), type := _, pos := _, after := _, guard := none }) (v := ?_) rfl (by kernel_rfl) (by kernel_rfl) (by kernel_rfl) (fun _ _ _ h => h) (Or.inl ⟨by rfl, ?_⟩) (by assumption) ?_
          rotate_left
          · intro w hSw; (try dsimp only at hSw); go_simp; try with_reducible rfl
          try simp only [Act.put, List.setIfInBounds_toArray, List.set_cons_zero, List.set_cons_succ]
          refine wpAnyH_take (i := 9) (oi := { dst := some 44, op := Op.load 23 (Operand.tmp 43), type := _, pos := _, after := _, guard := none }) (v := ?_) rfl (by kernel_rfl) (by kernel_rfl) (by kernel_rfl) (fun _ _ _ h => h) (Or.inl ⟨by rfl, ?_⟩) (by assumption) ?_
          rotate_left
          · intro w hSw; (try dsimp only at hSw); go_simp; try with_reducible rfl
          try simp only [Act.put, List.setIfInBounds_toArray, List.set_cons_zero, List.set_cons_succ]
          refine wpAnyH_ready (rs := [1, 10]) (by kernel_rfl) (by simp) ?_
          refine AllReadyH.cons (o := { dst := some 36, op := Op.load 57 (Operand.tmp 35), type := _, pos := _, after := _, guard := none }) rfl ?legAR10q (AllReadyH.cons (o := { dst := some 45, op := Op.call { callee := Callee.value (Operand.func 22), args := #[Operand.tmp 37, Operand.tmp 44], argTypes := #[26, 23] }, type := _, pos := _, after := _, guard := none }) rfl ?legBR10q AllReadyH.nil)
          case' legAR10q =>
            intro K hK
            go_simp
            clear hHeld
            refine hK.out _ _ (by first | exact HKEEP.out _ (fun _ _ _ _ => rfl) | exact HSX8.out _ | exact HS8.out) (fun hHeld => ?_)
            clear hK K
            try simp only [Act.put, List.setIfInBounds_toArray, List.set_cons_zero, List.set_cons_succ]
            refine wpAnyH_ready (rs := [10]) (by kernel_rfl) (by simp) ?_
            refine AllReadyH.cons (o := { dst := some 45, op := Op.call { callee := Callee.value (Operand.func 22), args := #[Operand.tmp 37, Operand.tmp 44], argTypes := #[26, 23] }, type := _, pos := _, after := _, guard := none }) rfl (fun K hK => ?_) AllReadyH.nil
            go_simp
            refine (tells_any g search s _ _ cur w7.drew HN7d.out HG.out.2.1 HCVd.out HCI.out).mono ?_; rintro e w8 ⟨rfl, n8, hw8⟩; rw [← HTZ.out]; have HD8 := hid (show Dk w8 B mb B g db (.slice (some ⟨qb, qo, none⟩) (setsTo search s cur sets 37).length vcB) (.slice NA (rows.length + 1) nc) tv (setsTo search s cur sets 37) (rows ++ [rowTo search s cur sets 37]) tells by rw [hw8]; exact HD7.out); have HH8 := hid (show (∀ x : Nat, w8.heap[x]? = w7.heap[x]?) ∧ w8.heap.size = w7.heap.size by rw [hw8]; exact ⟨fun _ => rfl, rfl⟩); have HB8 := hid (show Below B W0 w8 by rw [hw8]; exact HB7.out.trans ⟨rfl, rfl, rfl, Nat.le_refl _, fun _ _ => rfl⟩); have HS8 := hid (HKEEP.out w8 (fun x _ _ _ => HH8.out.1 x)); have HSX8 := hid (fun (o : Obj) => HKEEP.out (w8.alloc o) (fun x hx _ _ => (heap_alloc_old _ _ (by rw [HH8.out.2]; exact hx)).trans (HH8.out.1 x))); obtain ⟨r0, r1, rf⟩ := slot2 HD8.out.2.2.1; have HPX8 := hid (fun (o : Obj) => ((Below.refl w8.heap.size w8).alloc (Nat.le_refl _) o).cell (p := ⟨db, 1, none⟩) (show db < w8.heap.size from (HD8.out.off.2.2.2 db List.mem_cons_self).2)); clear hw8 rf; go_wp2_with fail
            clear hHeld
            refine hK.out _ _ (by exact HS8.out) (fun hHeld => ?_)
            clear hK K
            try simp only [Act.put, List.setIfInBounds_toArray, List.set_cons_zero, List.set_cons_succ]
            refine wpAnyH_ready (rs := [11]) (by kernel_rfl) (by simp) ?_
            refine AllReadyH.cons (o := { dst := some 46, op := Op.buildSlice 57 1 #[(0, Operand.tmp 45)], type := _, pos := _, after := _, guard := none }) rfl (fun K hK => ?_) AllReadyH.nil
            go_simp
            have rx := (HPX8.out (.cells #[.int .u64 (tz : Int)] 37)).trans r1
            clear hHeld
            refine hK.out _ _ (by exact HSX8.out _) (fun hHeld => ?_)
            clear hK K
            try simp only [Act.put, List.setIfInBounds_toArray, List.set_cons_zero, List.set_cons_succ]
            obtain ⟨X, hX⟩ : ∃ X, X = w8.alloc (.cells #[.int .u64 (tz : Int)] 37) := ⟨_, rfl⟩
            have HXD := hid hX
            have hxb : Below w8.heap.size w8 X := by rw [hX]; exact (Below.refl _ _).alloc (Nat.le_refl _) _
            have HUX := hid (HD8.out.2.2.2.2.1.kept (grown_of_below hxb none) (Classical.em _))
            have HBX := hid (show B ≤ X.heap.size from Nat.le_trans (by have := HD8.out.2.1; have := (HD8.out.off.2.2.2 db List.mem_cons_self).2; omega) hxb.size)
            have HDX := hid ((hxb.block db (HD8.out.off.2.2.2 db List.mem_cons_self).2).trans HD8.out.2.2.1)
            clear hxb
            refine wpAnyH_ready (rs := [12]) (by kernel_rfl) (by simp) ?_
            refine AllReadyH.cons (o := { dst := some 47, op := Op.call { callee := Callee.builtin Builtin.append, args := #[Operand.tmp 36, Operand.tmp 46], argTypes := #[57, 57] }, type := _, pos := _, after := _, guard := none }) rfl (fun K hK => ?_) AllReadyH.nil
            rw [if_pos (by rfl)]
            try rw [← hX]
            refine wp_app X (.tmp 36) (.tmp 46) 57 rfl B 37 j0 _ 1 8 Try.underlying57 hj0 hy0 hy1 hy2 rfl (by decide) _ tells.length (tells.map (.int .u64)) rfl HUX.out _ 1 1 [.int .u64 (tz : Int)] rfl (by rw [hX]; exact src_new w8 #[.int .u64 (tz : Int)] 37 1 rfl) (one_nums .u64 [(tz : Int)]) (by simp only [maxLen]; omega) (by omega) HBX.out ?_
            intro v9 w9 ho9 hg9 hv9
            obtain ⟨TA, tc, rfl, -, -, -⟩ := own_arr ho9
            have HO9 := hid (show w9.ownsRow B 37 1 (.slice TA (tells.length + 1) tc) (tells.length + 1) ((tells ++ [(tz : Int)]).map (.int .u64)) by simpa using ho9)
            have HG9 := hid hg9
            have HV9 := hid hv9
            have HD9 := hid ((hg9.block db (Array.getElem?_eq_some_iff.1 HDX.out).1 (fun e => own_blk_ne HUX.out HDX.out (by decide) e.symm)).trans HDX.out)
            have HS9 := hid (HKEEP.out w9 (fun x hx hx1 hx2 => (hg9.block x (by rw [HXD.out]; simp; rw [HH8.out.2]; omega) (fun e => hx2 e.symm)).trans (by rw [HXD.out]; exact (heap_alloc_old _ _ (by rw [HH8.out.2]; exact hx)).trans (HH8.out.1 x))))
            have HS10 := hid (HKEEP.out (w9.setCell ⟨db, 1, none⟩ (.slice TA (tells.length + 1) tc)) (fun x hx hx1 hx2 => (kept_blocks HXD.out hg9 rfl x (by rw [HH8.out.2]; exact hx) hx1 hx2).trans (HH8.out.1 x)))
            obtain ⟨t0, t1, tf⟩ := slot2 HD9.out
            have tf1 := tf 1
            clear ho9 hg9 hv9 tf hX
            clear hHeld
            refine hK.out _ _ (by exact HS9.out) (fun hHeld => ?_)
            clear hK K
            try simp only [Act.put, List.setIfInBounds_toArray, List.set_cons_zero, List.set_cons_succ]
            refine wpAnyH_take (i := 13) (oi := { dst := some 48, op := Op.fieldAddr 59 (Operand.tmp 5) 1, type := _, pos := _, after := _, guard := none }) (v := ?_) rfl (by kernel_rfl) (by kernel_rfl) (by kernel_rfl) (fun _ _ _ h => h) (Or.inl ⟨by rfl, ?_⟩) (by assumption) ?_
            rotate_left
            · intro w hSw; (try dsimp only at hSw); go_simp; try with_reducible rfl
            try simp only [Act.put, List.setIfInBounds_toArray, List.set_cons_zero, List.set_cons_succ]
            refine wpAnyH_ready (rs := [14]) (by kernel_rfl) (by simp) ?_
            refine AllReadyH.cons (o := { dst := none, op := Op.store 57 (Operand.tmp 48) (Operand.tmp 47), type := _, pos := _, after := _, guard := none }) rfl (fun K hK => ?_) AllReadyH.nil
            go_simp
            clear hHeld
            refine hK.out _ _ (by exact HS10.out) (fun hHeld => ?_)
            clear hK K
            try simp only [Act.put, List.setIfInBounds_toArray, List.set_cons_zero, List.set_cons_succ]
            refine wpAnyH_done (by kernel_rfl) ?_ _
            clear hHeld
            obtain ⟨w10, hw10⟩ : ∃ w10, w10 = w9.setCell ⟨db, 1, none⟩ (.slice TA (tells.length + 1) tc) := ⟨_, rfl⟩
            have h10 := Dk.addTell HD8.out HXD.out HO9.out HG9.out HV9.out hw10
            have HD10 := hid h10.1
            have HB10 := hid (HB8.out.trans h10.2)
            have HRB10 := hid (show w10.heap[rb]? = some (.cells #[.slice none 0 0, .slice none 0 0] 59 (0, 0)) from (HB10.out.block rb (by rw [HRBE.out, HBB.out]; omega)).trans (show W0.heap[rb]? = _ by rw [HRBE.out]; exact HRB.out))
            have HNX2 := hid (show outB search s (i + 1) = (setsTo search s cur sets 37, rows ++ [rowTo search s cur sets 37], tells ++ [(tz : Int)]) by rw [HNX.out, HTZ.out])
            rw [← hw10]
            obtain ⟨S1, hS1⟩ : ∃ x, x = setsTo search s cur sets 37 := ⟨_, rfl⟩
            obtain ⟨R1, hR1⟩ : ∃ x, x = rows ++ [rowTo search s cur sets 37] := ⟨_, rfl⟩
            obtain ⟨T1, hT1⟩ : ∃ x, x = tells ++ [(tz : Int)] := ⟨_, rfl⟩
            rw [← hS1, ← hR1, ← hT1] at HD10 HNX2
            rw [← hS1] at HSL hilen
            clear HD5 HD7 HD8 HKEEP HS8 HSX8 HPX8 HCV HCVd HNX
            try rw [← hS1]
            obtain ⟨-, -, hmb10, -, -⟩ := id HD10.out.1
            obtain ⟨y0, y1, y2, -⟩ := slot3 hmb10
            clear d0 d1 p0 p1 e0 e1 ef0 g0 g1 r0 r1 t0 t1 tf1 m0 m1 m2
            clear hS1 hR1 hT1 hw10 h10 hmb10 HO9 HG9 HV9 HD9 HS9 HS10 HXD HUX HBX HDX
            have HPK := hid (And.intro HNX2.out (And.intro HD10.out (And.intro HB10.out (And.intro HPR.out (And.intro HSETS.out (And.intro HSL.out (And.intro HB0.out (And.intro HS0.out (And.intro HBB.out (And.intro HRBE.out HRB10.out))))))))))
            obtain ⟨z0, z1, zf⟩ := slot2 HRB10.out
            have zf0 := zf 0
            have zf1 := zf 1
            clear zf
            try clear i0
            try clear hi0
            try clear hz0
            try clear hz1
            try clear hz2
            try clear j0
            try clear hj0
            try clear hy0
            try clear hy1
            try clear hy2
            try clear HG
            try clear HB0
            try clear HRB
            try clear HS0
            try clear HN0
            try clear HMK1
            try clear HB1
            try clear HS1
            try clear HRBE
            try clear HBB
            try clear HMBE
            try clear HM2
            try clear HB2
            try clear HV2
            try clear HF0
            try clear HM3
            try clear HB3
            try clear HD4
            try clear HB4
            try clear HFIX
            try clear HB
            try clear HPR
            try clear hil
            try clear HLN
            try clear HSETS
            try clear HROWS
            try clear HTELLS
            try clear HD
            try clear m0
            try clear m1
            try clear m2
            try clear HCUR
            try clear HFS
            try clear HDd
            try clear HOFF
            try clear HBd
            try clear HCI
            try clear d0
            try clear d1
            try clear hrb
            try clear htb
            try clear HRL
            try clear HTL
            try clear HR37
            try clear HB7
            try clear HTZ
            try clear HN7
            try clear HN7d
            try clear HH8
            try clear HB8
            try clear rx
            try clear HB10
            try clear HRB10
            try clear hilen
            try clear HSL
            try clear HNX2
            try clear HD10
            try clear y0
            try clear y1
            by_cases hbig : 1000 < S1.length
            · go_wp2_with fail
              obtain ⟨e1, e2, e3, e4, e5, e6, e7, e8, e9, e10, e11⟩ := HPK.out
              have hp := heap_setCell_same _ rb 1 _ _ (.slice none 0 0) (heap_setCell_same w10 rb 0 _ _ (.slice none 0 0) e11)
              obtain ⟨c0, c1, -⟩ := slot2 hp
              refine bodyPost_ret (v := .tuple #[.agg #[.slice none 0 0, .slice none 0 0], .int .i64 7]) (by simp [results, Try.results29, go_sem, c0, c1]) rfl ⟨?_, .inr ⟨i, e4, by rw [← e5]; exact hlt, by rw [e1]; exact hbig, rfl⟩⟩
              exact ((e7.trans (e3.mono (show w.heap.size ≤ B by omega))).setCell (p := ⟨rb, 0, none⟩) (show w.heap.size ≤ rb by omega) _).setCell (p := ⟨rb, 1, none⟩) (show w.heap.size ≤ rb by omega) _
            · clear z0 z1 zf0 zf1
              go_wp2_with fail
              obtain ⟨e1, e2, e3, e4, e5, e6, -⟩ := HPK.out
              exact ⟨⟨i + 1, _, _, _, by go_num, by rw [e1]; show i + 1 ≤ S1.length; omega, hid (by rw [e1]; exact e2), hid e3, hid (fun k hk => by
                by_cases e : k < i
                · exact e4 k e
                · obtain rfl : k = i := by omega
                  rw [e1]
                  exact ⟨by rw [← e5]; exact hlt, by show S1.length ≤ 1000; omega⟩), hid (by rw [e1]; show S1.length ≤ 1000; omega)⟩, by simp [intOf]; omega⟩
          case' legBR10q =>
            intro K hK
            go_simp
            refine (tells_any g search s _ _ cur w7.drew HN7d.out HG.out.2.1 HCVd.out HCI.out).mono ?_; rintro e w8 ⟨rfl, n8, hw8⟩; rw [← HTZ.out]; have HD8 := hid (show Dk w8 B mb B g db (.slice (some ⟨qb, qo, none⟩) (setsTo search s cur sets 37).length vcB) (.slice NA (rows.length + 1) nc) tv (setsTo search s cur sets 37) (rows ++ [rowTo search s cur sets 37]) tells by rw [hw8]; exact HD7.out); have HH8 := hid (show (∀ x : Nat, w8.heap[x]? = w7.heap[x]?) ∧ w8.heap.size = w7.heap.size by rw [hw8]; exact ⟨fun _ => rfl, rfl⟩); have HB8 := hid (show Below B W0 w8 by rw [hw8]; exact HB7.out.trans ⟨rfl, rfl, rfl, Nat.le_refl _, fun _ _ => rfl⟩); have HS8 := hid (HKEEP.out w8 (fun x _ _ _ => HH8.out.1 x)); have HSX8 := hid (fun (o : Obj) => HKEEP.out (w8.alloc o) (fun x hx _ _ => (heap_alloc_old _ _ (by rw [HH8.out.2]; exact hx)).trans (HH8.out.1 x))); obtain ⟨r0, r1, rf⟩ := slot2 HD8.out.2.2.1; have HPX8 := hid (fun (o : Obj) => ((Below.refl w8.heap.size w8).alloc (Nat.le_refl _) o).cell (p := ⟨db, 1, none⟩) (show db < w8.heap.size from (HD8.out.off.2.2.2 db List.mem_cons_self).2)); clear hw8 rf; go_wp2_with fail
            clear hHeld
            refine hK.out _ _ (by exact HS8.out) (fun hHeld => ?_)
            clear hK K
            try simp only [Act.put, List.setIfInBounds_toArray, List.set_cons_zero, List.set_cons_succ]
            refine wpAnyH_ready (rs := [1, 11]) (by kernel_rfl) (by simp) ?_
            refine AllReadyH.cons (o := { dst := some 36, op := Op.load 57 (Operand.tmp 35), type := _, pos := _, after := _, guard := none }) rfl ?legAR10qb (AllReadyH.cons (o := { dst := some 46, op := Op.buildSlice 57 1 #[(0, Operand.tmp 45)], type := _, pos := _, after := _, guard := none }) rfl ?legBR10qb AllReadyH.nil)
            case' legAR10qb =>
              intro K hK
              go_simp
              clear hHeld
              refine hK.out _ _ (by first | exact HKEEP.out _ (fun _ _ _ _ => rfl) | exact HSX8.out _ | exact HS8.out) (fun hHeld => ?_)
              clear hK K
              try simp only [Act.put, List.setIfInBounds_toArray, List.set_cons_zero, List.set_cons_succ]
              refine wpAnyH_ready (rs := [11]) (by kernel_rfl) (by simp) ?_
              refine AllReadyH.cons (o := { dst := some 46, op := Op.buildSlice 57 1 #[(0, Operand.tmp 45)], type := _, pos := _, after := _, guard := none }) rfl (fun K hK => ?_) AllReadyH.nil
              go_simp
              have rx := (HPX8.out (.cells #[.int .u64 (tz : Int)] 37)).trans r1
              clear hHeld
              refine hK.out _ _ (by exact HSX8.out _) (fun hHeld => ?_)
              clear hK K
              try simp only [Act.put, List.setIfInBounds_toArray, List.set_cons_zero, List.set_cons_succ]
              obtain ⟨X, hX⟩ : ∃ X, X = w8.alloc (.cells #[.int .u64 (tz : Int)] 37) := ⟨_, rfl⟩
              have HXD := hid hX
              have hxb : Below w8.heap.size w8 X := by rw [hX]; exact (Below.refl _ _).alloc (Nat.le_refl _) _
              have HUX := hid (HD8.out.2.2.2.2.1.kept (grown_of_below hxb none) (Classical.em _))
              have HBX := hid (show B ≤ X.heap.size from Nat.le_trans (by have := HD8.out.2.1; have := (HD8.out.off.2.2.2 db List.mem_cons_self).2; omega) hxb.size)
              have HDX := hid ((hxb.block db (HD8.out.off.2.2.2 db List.mem_cons_self).2).trans HD8.out.2.2.1)
              clear hxb
              refine wpAnyH_ready (rs := [12]) (by kernel_rfl) (by simp) ?_
              refine AllReadyH.cons (o := { dst := some 47, op := Op.call { callee := Callee.builtin Builtin.append, args := #[Operand.tmp 36, Operand.tmp 46], argTypes := #[57, 57] }, type := _, pos := _, after := _, guard := none }) rfl (fun K hK => ?_) AllReadyH.nil
              rw [if_pos (by rfl)]
              try rw [← hX]
              refine wp_app X (.tmp 36) (.tmp 46) 57 rfl B 37 j0 _ 1 8 Try.underlying57 hj0 hy0 hy1 hy2 rfl (by decide) _ tells.length (tells.map (.int .u64)) rfl HUX.out _ 1 1 [.int .u64 (tz : Int)] rfl (by rw [hX]; exact src_new w8 #[.int .u64 (tz : Int)] 37 1 rfl) (one_nums .u64 [(tz : Int)]) (by simp only [maxLen]; omega) (by omega) HBX.out ?_
              intro v9 w9 ho9 hg9 hv9
              obtain ⟨TA, tc, rfl, -, -, -⟩ := own_arr ho9
              have HO9 := hid (show w9.ownsRow B 37 1 (.slice TA (tells.length + 1) tc) (tells.length + 1) ((tells ++ [(tz : Int)]).map (.int .u64)) by simpa using ho9)
              have HG9 := hid hg9
              have HV9 := hid hv9
              have HD9 := hid ((hg9.block db (Array.getElem?_eq_some_iff.1 HDX.out).1 (fun e => own_blk_ne HUX.out HDX.out (by decide) e.symm)).trans HDX.out)
              have HS9 := hid (HKEEP.out w9 (fun x hx hx1 hx2 => (hg9.block x (by rw [HXD.out]; simp; rw [HH8.out.2]; omega) (fun e => hx2 e.symm)).trans (by rw [HXD.out]; exact (heap_alloc_old _ _ (by rw [HH8.out.2]; exact hx)).trans (HH8.out.1 x))))
              have HS10 := hid (HKEEP.out (w9.setCell ⟨db, 1, none⟩ (.slice TA (tells.length + 1) tc)) (fun x hx hx1 hx2 => (kept_blocks HXD.out hg9 rfl x (by rw [HH8.out.2]; exact hx) hx1 hx2).trans (HH8.out.1 x)))
              obtain ⟨t0, t1, tf⟩ := slot2 HD9.out
              have tf1 := tf 1
              clear ho9 hg9 hv9 tf hX
              clear hHeld
              refine hK.out _ _ (by exact HS9.out) (fun hHeld => ?_)
              clear hK K
              try simp only [Act.put, List.setIfInBounds_toArray, List.set_cons_zero, List.set_cons_succ]
              refine wpAnyH_take (i := 13) (oi := { dst := some 48, op := Op.fieldAddr 59 (Operand.tmp 5) 1, type := _, pos := _, after := _, guard := none }) (v := ?_) rfl (by kernel_rfl) (by kernel_rfl) (by kernel_rfl) (fun _ _ _ h => h) (Or.inl ⟨by rfl, ?_⟩) (by assumption) ?_
              rotate_left
              · intro w hSw; (try dsimp only at hSw); go_simp; try with_reducible rfl
              try simp only [Act.put, List.setIfInBounds_toArray, List.set_cons_zero, List.set_cons_succ]
              refine wpAnyH_ready (rs := [14]) (by kernel_rfl) (by simp) ?_
              refine AllReadyH.cons (o := { dst := none, op := Op.store 57 (Operand.tmp 48) (Operand.tmp 47), type := _, pos := _, after := _, guard := none }) rfl (fun K hK => ?_) AllReadyH.nil
              go_simp
              clear hHeld
              refine hK.out _ _ (by exact HS10.out) (fun hHeld => ?_)
              clear hK K
              try simp only [Act.put, List.setIfInBounds_toArray, List.set_cons_zero, List.set_cons_succ]
              refine wpAnyH_done (by kernel_rfl) ?_ _
              clear hHeld
              obtain ⟨w10, hw10⟩ : ∃ w10, w10 = w9.setCell ⟨db, 1, none⟩ (.slice TA (tells.length + 1) tc) := ⟨_, rfl⟩
              have h10 := Dk.addTell HD8.out HXD.out HO9.out HG9.out HV9.out hw10
              have HD10 := hid h10.1
              have HB10 := hid (HB8.out.trans h10.2)
              have HRB10 := hid (show w10.heap[rb]? = some (.cells #[.slice none 0 0, .slice none 0 0] 59 (0, 0)) from (HB10.out.block rb (by rw [HRBE.out, HBB.out]; omega)).trans (show W0.heap[rb]? = _ by rw [HRBE.out]; exact HRB.out))
              have HNX2 := hid (show outB search s (i + 1) = (setsTo search s cur sets 37, rows ++ [rowTo search s cur sets 37], tells ++ [(tz : Int)]) by rw [HNX.out, HTZ.out])
              rw [← hw10]
              obtain ⟨S1, hS1⟩ : ∃ x, x = setsTo search s cur sets 37 := ⟨_, rfl⟩
              obtain ⟨R1, hR1⟩ : ∃ x, x = rows ++ [rowTo search s cur sets 37] := ⟨_, rfl⟩
              obtain ⟨T1, hT1⟩ : ∃ x, x = tells ++ [(tz : Int)] := ⟨_, rfl⟩
              rw [← hS1, ← hR1, ← hT1] at HD10 HNX2
              rw [← hS1] at HSL hilen
              clear HD5 HD7 HD8 HKEEP HS8 HSX8 HPX8 HCV HCVd HNX
              try rw [← hS1]
              obtain ⟨-, -, hmb10, -, -⟩ := id HD10.out.1
              obtain ⟨y0, y1, y2, -⟩ := slot3 hmb10
              clear d0 d1 p0 p1 e0 e1 ef0 g0 g1 r0 r1 t0 t1 tf1 m0 m1 m2
              clear hS1 hR1 hT1 hw10 h10 hmb10 HO9 HG9 HV9 HD9 HS9 HS10 HXD HUX HBX HDX
              have HPK := hid (And.intro HNX2.out (And.intro HD10.out (And.intro HB10.out (And.intro HPR.out (And.intro HSETS.out (And.intro HSL.out (And.intro HB0.out (And.intro HS0.out (And.intro HBB.out (And.intro HRBE.out HRB10.out))))))))))
              obtain ⟨z0, z1, zf⟩ := slot2 HRB10.out
              have zf0 := zf 0
              have zf1 := zf 1
              clear zf
              try clear i0
              try clear hi0
              try clear hz0
              try clear hz1
              try clear hz2
              try clear j0
              try clear hj0
              try clear hy0
              try clear hy1
              try clear hy2
              try clear HG
              try clear HB0
              try clear HRB
              try clear HS0
              try clear HN0
              try clear HMK1
              try clear HB1
              try clear HS1
              try clear HRBE
              try clear HBB
              try clear HMBE
              try clear HM2
              try clear HB2
              try clear HV2
              try clear HF0
              try clear HM3
              try clear HB3
              try clear HD4
              try clear HB4
              try clear HFIX
              try clear HB
              try clear HPR
              try clear hil
              try clear HLN
              try clear HSETS
              try clear HROWS
              try clear HTELLS
              try clear HD
              try clear m0
              try clear m1
              try clear m2
              try clear HCUR
              try clear HFS
              try clear HDd
              try clear HOFF
              try clear HBd
              try clear HCI
              try clear d0
              try clear d1
              try clear hrb
              try clear htb
              try clear HRL
              try clear HTL
              try clear HR37
              try clear HB7
              try clear HTZ
              try clear HN7
              try clear HN7d
              try clear HH8
              try clear HB8
              try clear rx
              try clear HB10
              try clear HRB10
              try clear hilen
              try clear HSL
              try clear HNX2
              try clear HD10
              try clear y0
              try clear y1
              by_cases hbig : 1000 < S1.length
              · go_wp2_with fail
                obtain ⟨e1, e2, e3, e4, e5, e6, e7, e8, e9, e10, e11⟩ := HPK.out
                have hp := heap_setCell_same _ rb 1 _ _ (.slice none 0 0) (heap_setCell_same w10 rb 0 _ _ (.slice none 0 0) e11)
                obtain ⟨c0, c1, -⟩ := slot2 hp
                refine bodyPost_ret (v := .tuple #[.agg #[.slice none 0 0, .slice none 0 0], .int .i64 7]) (by simp [results, Try.results29, go_sem, c0, c1]) rfl ⟨?_, .inr ⟨i, e4, by rw [← e5]; exact hlt, by rw [e1]; exact hbig, rfl⟩⟩
                exact ((e7.trans (e3.mono (show w.heap.size ≤ B by omega))).setCell (p := ⟨rb, 0, none⟩) (show w.heap.size ≤ rb by omega) _).setCell (p := ⟨rb, 1, none⟩) (show w.heap.size ≤ rb by omega) _
              · clear z0 z1 zf0 zf1
                go_wp2_with fail
                obtain ⟨e1, e2, e3, e4, e5, e6, -⟩ := HPK.out
                exact ⟨⟨i + 1, _, _, _, by go_num, by rw [e1]; show i + 1 ≤ S1.length; omega, hid (by rw [e1]; exact e2), hid e3, hid (fun k hk => by
                  by_cases e : k < i
                  · exact e4 k e
                  · obtain rfl : k = i := by omega
                    rw [e1]
                    exact ⟨by rw [← e5]; exact hlt, by show S1.length ≤ 1000; omega⟩), hid (by rw [e1]; show S1.length ≤ 1000; omega)⟩, by simp [intOf]; omega⟩
            case' legBR10qb =>
              intro K hK
              go_simp
              have rx := (HPX8.out (.cells #[.int .u64 (tz : Int)] 37)).trans r1
              clear hHeld
              refine hK.out _ _ (by exact HSX8.out _) (fun hHeld => ?_)
              clear hK K
              try simp only [Act.put, List.setIfInBounds_toArray, List.set_cons_zero, List.set_cons_succ]
              refine wpAnyH_ready (rs := [1]) (by kernel_rfl) (by simp) ?_
              refine AllReadyH.cons (o := { dst := some 36, op := Op.load 57 (Operand.tmp 35), type := _, pos := _, after := _, guard := none }) rfl (fun K hK => ?_) AllReadyH.nil
              go_simp
              clear hHeld
              refine hK.out _ _ (by first | exact HKEEP.out _ (fun _ _ _ _ => rfl) | exact HSX8.out _ | exact HS8.out) (fun hHeld => ?_)
              clear hK K
              try simp only [Act.put, List.setIfInBounds_toArray, List.set_cons_zero, List.set_cons_succ]
              obtain ⟨X, hX⟩ : ∃ X, X = w8.alloc (.cells #[.int .u64 (tz : Int)] 37) := ⟨_, rfl⟩
              have HXD := hid hX
              have hxb : Below w8.heap.size w8 X := by rw [hX]; exact (Below.refl _ _).alloc (Nat.le_refl _) _
              have HUX := hid (HD8.out.2.2.2.2.1.kept (grown_of_below hxb none) (Classical.em _))
              have HBX := hid (show B ≤ X.heap.size from Nat.le_trans (by have := HD8.out.2.1; have := (HD8.out.off.2.2.2 db List.mem_cons_self).2; omega) hxb.size)
              have HDX := hid ((hxb.block db (HD8.out.off.2.2.2 db List.mem_cons_self).2).trans HD8.out.2.2.1)
              clear hxb
              refine wpAnyH_ready (rs := [12]) (by kernel_rfl) (by simp) ?_
              refine AllReadyH.cons (o := { dst := some 47, op := Op.call { callee := Callee.builtin Builtin.append, args := #[Operand.tmp 36, Operand.tmp 46], argTypes := #[57, 57] }, type := _, pos := _, after := _, guard := none }) rfl (fun K hK => ?_) AllReadyH.nil
              rw [if_pos (by rfl)]
              try rw [← hX]
              refine wp_app X (.tmp 36) (.tmp 46) 57 rfl B 37 j0 _ 1 8 Try.underlying57 hj0 hy0 hy1 hy2 rfl (by decide) _ tells.length (tells.map (.int .u64)) rfl HUX.out _ 1 1 [.int .u64 (tz : Int)] rfl (by rw [hX]; exact src_new w8 #[.int .u64 (tz : Int)] 37 1 rfl) (one_nums .u64 [(tz : Int)]) (by simp only [maxLen]; omega) (by omega) HBX.out ?_
              intro v9 w9 ho9 hg9 hv9
              obtain ⟨TA, tc, rfl, -, -, -⟩ := own_arr ho9
              have HO9 := hid (show w9.ownsRow B 37 1 (.slice TA (tells.length + 1) tc) (tells.length + 1) ((tells ++ [(tz : Int)]).map (.int .u64)) by simpa using ho9)
              have HG9 := hid hg9
              have HV9 := hid hv9
              have HD9 := hid ((hg9.block db (Array.getElem?_eq_some_iff.1 HDX.out).1 (fun e => own_blk_ne HUX.out HDX.out (by decide) e.symm)).trans HDX.out)
              have HS9 := hid (HKEEP.out w9 (fun x hx hx1 hx2 => (hg9.block x (by rw [HXD.out]; simp; rw [HH8.out.2]; omega) (fun e => hx2 e.symm)).trans (by rw [HXD.out]; exact (heap_alloc_old _ _ (by rw [HH8.out.2]; exact hx)).trans (HH8.out.1 x))))
              have HS10 := hid (HKEEP.out (w9.setCell ⟨db, 1, none⟩ (.slice TA (tells.length + 1) tc)) (fun x hx hx1 hx2 => (kept_blocks HXD.out hg9 rfl x (by rw [HH8.out.2]; exact hx) hx1 hx2).trans (HH8.out.1 x)))
              obtain ⟨t0, t1, tf⟩ := slot2 HD9.out
              have tf1 := tf 1
              clear ho9 hg9 hv9 tf hX
              clear hHeld
              refine hK.out _ _ (by exact HS9.out) (fun hHeld => ?_)
              clear hK K
              try simp only [Act.put, List.setIfInBounds_toArray, List.set_cons_zero, List.set_cons_succ]
              refine wpAnyH_take (i := 13) (oi := { dst := some 48, op := Op.fieldAddr 59 (Operand.tmp 5) 1, type := _, pos := _, after := _, guard := none }) (v := ?_) rfl (by kernel_rfl) (by kernel_rfl) (by kernel_rfl) (fun _ _ _ h => h) (Or.inl ⟨by rfl, ?_⟩) (by assumption) ?_
              rotate_left
              · intro w hSw; (try dsimp only at hSw); go_simp; try with_reducible rfl
              try simp only [Act.put, List.setIfInBounds_toArray, List.set_cons_zero, List.set_cons_succ]
              refine wpAnyH_ready (rs := [14]) (by kernel_rfl) (by simp) ?_
              refine AllReadyH.cons (o := { dst := none, op := Op.store 57 (Operand.tmp 48) (Operand.tmp 47), type := _, pos := _, after := _, guard := none }) rfl (fun K hK => ?_) AllReadyH.nil
              go_simp
              clear hHeld
              refine hK.out _ _ (by exact HS10.out) (fun hHeld => ?_)
              clear hK K
              try simp only [Act.put, List.setIfInBounds_toArray, List.set_cons_zero, List.set_cons_succ]
              refine wpAnyH_done (by kernel_rfl) ?_ _
              clear hHeld
              obtain ⟨w10, hw10⟩ : ∃ w10, w10 = w9.setCell ⟨db, 1, none⟩ (.slice TA (tells.length + 1) tc) := ⟨_, rfl⟩
              have h10 := Dk.addTell HD8.out HXD.out HO9.out HG9.out HV9.out hw10
              have HD10 := hid h10.1
              have HB10 := hid (HB8.out.trans h10.2)
              have HRB10 := hid (show w10.heap[rb]? = some (.cells #[.slice none 0 0, .slice none 0 0] 59 (0, 0)) from (HB10.out.block rb (by rw [HRBE.out, HBB.out]; omega)).trans (show W0.heap[rb]? = _ by rw [HRBE.out]; exact HRB.out))
              have HNX2 := hid (show outB search s (i + 1) = (setsTo search s cur sets 37, rows ++ [rowTo search s cur sets 37], tells ++ [(tz : Int)]) by rw [HNX.out, HTZ.out])
              rw [← hw10]
              obtain ⟨S1, hS1⟩ : ∃ x, x = setsTo search s cur sets 37 := ⟨_, rfl⟩
              obtain ⟨R1, hR1⟩ : ∃ x, x = rows ++ [rowTo search s cur sets 37] := ⟨_, rfl⟩
              obtain ⟨T1, hT1⟩ : ∃ x, x = tells ++ [(tz : Int)] := ⟨_, rfl⟩
              rw [← hS1, ← hR1, ← hT1] at HD10 HNX2
              rw [← hS1] at HSL hilen
              clear HD5 HD7 HD8 HKEEP HS8 HSX8 HPX8 HCV HCVd HNX
              try rw [← hS1]
              obtain ⟨-, -, hmb10, -, -⟩ := id HD10.out.1
              obtain ⟨y0, y1, y2, -⟩ := slot3 hmb10
              clear d0 d1 p0 p1 e0 e1 ef0 g0 g1 r0 r1 t0 t1 tf1 m0 m1 m2
              clear hS1 hR1 hT1 hw10 h10 hmb10 HO9 HG9 HV9 HD9 HS9 HS10 HXD HUX HBX HDX
              have HPK := hid (And.intro HNX2.out (And.intro HD10.out (And.intro HB10.out (And.intro HPR.out (And.intro HSETS.out (And.intro HSL.out (And.intro HB0.out (And.intro HS0.out (And.intro HBB.out (And.intro HRBE.out HRB10.out))))))))))
              obtain ⟨z0, z1, zf⟩ := slot2 HRB10.out
              have zf0 := zf 0
              have zf1 := zf 1
              clear zf
              try clear i0
              try clear hi0
              try clear hz0
              try clear hz1
              try clear hz2
              try clear j0
              try clear hj0
              try clear hy0
              try clear hy1
              try clear hy2
              try clear HG
              try clear HB0
              try clear HRB
              try clear HS0
              try clear HN0
              try clear HMK1
              try clear HB1
              try clear HS1
              try clear HRBE
              try clear HBB
              try clear HMBE
              try clear HM2
              try clear HB2
              try clear HV2
              try clear HF0
              try clear HM3
              try clear HB3
              try clear HD4
              try clear HB4
              try clear HFIX
              try clear HB
              try clear HPR
              try clear hil
              try clear HLN
              try clear HSETS
              try clear HROWS
              try clear HTELLS
              try clear HD
              try clear m0
              try clear m1
              try clear m2
              try clear HCUR
              try clear HFS
              try clear HDd
              try clear HOFF
              try clear HBd
              try clear HCI
              try clear d0
              try clear d1
              try clear hrb
              try clear htb
              try clear HRL
              try clear HTL
              try clear HR37
              try clear HB7
              try clear HTZ
              try clear HN7
              try clear HN7d
              try clear HH8
              try clear HB8
              try clear rx
              try clear HB10
              try clear HRB10
              try clear hilen
              try clear HSL
              try clear HNX2
              try clear HD10
              try clear y0
              try clear y1
              by_cases hbig : 1000 < S1.length
              · go_wp2_with fail
                obtain ⟨e1, e2, e3, e4, e5, e6, e7, e8, e9, e10, e11⟩ := HPK.out
                have hp := heap_setCell_same _ rb 1 _ _ (.slice none 0 0) (heap_setCell_same w10 rb 0 _ _ (.slice none 0 0) e11)
                obtain ⟨c0, c1, -⟩ := slot2 hp
                refine bodyPost_ret (v := .tuple #[.agg #[.slice none 0 0, .slice none 0 0], .int .i64 7]) (by simp [results, Try.results29, go_sem, c0, c1]) rfl ⟨?_, .inr ⟨i, e4, by rw [← e5]; exact hlt, by rw [e1]; exact hbig, rfl⟩⟩
                exact ((e7.trans (e3.mono (show w.heap.size ≤ B by omega))).setCell (p := ⟨rb, 0, none⟩) (show w.heap.size ≤ rb by omega) _).setCell (p := ⟨rb, 1, none⟩) (show w.heap.size ≤ rb by omega) _
              · clear z0 z1 zf0 zf1
                go_wp2_with fail
                obtain ⟨e1, e2, e3, e4, e5, e6, -⟩ := HPK.out
                exact ⟨⟨i + 1, _, _, _, by go_num, by rw [e1]; show i + 1 ≤ S1.length; omega, hid (by rw [e1]; exact e2), hid e3, hid (fun k hk => by
                  by_cases e : k < i
                  · exact e4 k e
                  · obtain rfl : k = i := by omega
                    rw [e1]
                    exact ⟨by rw [← e5]; exact hlt, by show S1.length ≤ 1000; omega⟩), hid (by rw [e1]; show S1.length ≤ 1000; omega)⟩, by simp [intOf]; omega⟩
        case' legBR9b =>
          intro K hK
          go_simp
          have px := (HPX.out (.cells #[.slice (some ⟨ob, 0, none⟩) 37 37] 23)).trans p0
          clear hHeld
          refine hK.out _ _ (by trivial) (fun hHeld => ?_)
          clear hK K
          try simp only [Act.put, List.setIfInBounds_toArray, List.set_cons_zero, List.set_cons_succ]
          refine wpAnyH_ready (rs := [1]) (by kernel_rfl) (by simp) ?_
          refine AllReadyH.cons (o := { dst := some 28, op := Op.load 56 (Operand.tmp 27), type := _, pos := _, after := _, guard := none }) rfl (fun K hK => ?_) AllReadyH.nil
          go_simp
          clear hHeld
          refine hK.out _ _ (by trivial) (fun hHeld => ?_)
          clear hK K
          try simp only [Act.put, List.setIfInBounds_toArray, List.set_cons_zero, List.set_cons_succ]
          obtain ⟨us, hus, hrw⟩ := id HD5.out.2.2.2.1
          have HUS := hid hus
          have HRW := hid hrw
          obtain ⟨X, hX⟩ : ∃ X, X = w5.alloc (.cells #[.slice (some ⟨ob, 0, none⟩) 37 37] 23) := ⟨_, rfl⟩
          have HXD := hid hX
          have hxb : Below w5.heap.size w5 X := by rw [hX]; exact (Below.refl _ _).alloc (Nat.le_refl _) _
          have HUX := hid (hus.kept (grown_of_below hxb none) (Classical.em _))
          have HBX := hid (show B ≤ X.heap.size from Nat.le_trans (by have := HB5.out.size; have := HD5.out.2.1; have := (HD5.out.off.2.2.2 db List.mem_cons_self).2; omega) hxb.size)
          have HDX := hid ((hxb.block db (HD5.out.off.2.2.2 db List.mem_cons_self).2).trans HD5.out.2.2.1)
          clear hus hrw hxb
          refine wpAnyH_ready (rs := [6]) (by kernel_rfl) (by simp) ?_
          refine AllReadyH.cons (o := { dst := some 33, op := Op.call { callee := Callee.builtin Builtin.append, args := #[Operand.tmp 28, Operand.tmp 32], argTypes := #[56, 56] }, type := _, pos := _, after := _, guard := none }) rfl (fun K hK => ?_) AllReadyH.nil
          rw [if_pos (by rfl)]
          try rw [← hX]
          refine wp_app X (.tmp 28) (.tmp 32) 56 rfl B 23 i0 _ 1 24 Try.underlying56 hi0 hz0 hz1 hz2 rfl (by decide) _ rows.length us rfl HUX.out _ 1 1 [.slice (some ⟨ob, 0, none⟩) 37 37] rfl (by rw [hX]; exact src_new w5 #[.slice (some ⟨ob, 0, none⟩) 37 37] 23 1 rfl) (by intro u hu; simp at hu; rw [hu]; rfl) (by simp only [maxLen]; omega) (by omega) HBX.out ?_
          intro v6 w6 ho6 hg6 hv6
          obtain ⟨NA, nc, rfl, -, -, -⟩ := own_arr ho6
          have HO6 := hid ho6
          have HG6 := hid hg6
          have HV6 := hid hv6
          have HD6 := hid ((hg6.block db (Array.getElem?_eq_some_iff.1 HDX.out).1 (fun e => own_blk_ne HUX.out HDX.out (by decide) e.symm)).trans HDX.out)
          obtain ⟨e0, e1, ef⟩ := slot2 HD6.out
          have ef0 := ef 0
          clear ho6 hg6 hv6 ef hX
          clear hHeld
          refine hK.out _ _ (by trivial) (fun hHeld => ?_)
          clear hK K
          try simp only [Act.put, List.setIfInBounds_toArray, List.set_cons_zero, List.set_cons_succ]
          refine wpAnyH_take (i := 7) (oi := { dst := some 34, op := Op.fieldAddr 59 (Operand.tmp 5) 0, type := _, pos := _, after := _, guard := none }) (v := ?_) rfl (by kernel_rfl) (by kernel_rfl) (by kernel_rfl) (fun _ _ _ h => h) (Or.inl ⟨by rfl, ?_⟩) (by assumption) ?_
          rotate_left
          · intro w hSw; (try dsimp only at hSw); go_simp; try with_reducible rfl
          try simp only [Act.put, List.setIfInBounds_toArray, List.set_cons_zero, List.set_cons_succ]
          refine wpAnyH_ready (rs := [8]) (by kernel_rfl) (by simp) ?_
          refine AllReadyH.cons (o := { dst := none, op := Op.store 56 (Operand.tmp 34) (Operand.tmp 33), type := _, pos := _, after := _, guard := none }) rfl (fun K hK => ?_) AllReadyH.nil
          go_simp
          clear hHeld
          refine hK.out _ _ (by trivial) (fun hHeld => ?_)
          clear hK K
          try simp only [Act.put, List.setIfInBounds_toArray, List.set_cons_zero, List.set_cons_succ]
          refine wpAnyH_done (by kernel_rfl) ?_ _
          clear hHeld
          obtain ⟨w7, hw7⟩ : ∃ w7, w7 = w6.setCell ⟨db, 0, none⟩ (.slice NA (rows.length + 1) nc) := ⟨_, rfl⟩
          have h7 := Dk.addRow (row := rowTo search s cur sets 37) HD5.out HUS.out HRW.out HI5.out HOB5.out (by rw [HR37.out]; decide) (by rw [HR37.out]; exact HXD.out) (by rw [HR37.out]; exact HO6.out) HG6.out HV6.out hw7
          have HD7 := hid h7.1
          have HB7 := hid (HB5.out.trans h7.2)
          go_wp2_with fail
          rw [← hw7]
          clear hw7 h7 HO6 HG6 HV6 HD6 HUS HRW HXD HUX HBX HDX HI5 HOB5 HB5 HPX
          obtain ⟨-, -, hmb7, -, us7, hus7, hrow7⟩ := id HD7.out.1
          obtain ⟨VB, vcB, rfl, -, -, hVB⟩ := own_arr hus7
          have hget : (setsTo search s cur sets 37)[i]? = some cur := setsTo_get HCUR.out 37
          obtain ⟨cv, ecv, hcv⟩ := hrow7 i cur hget
          obtain ⟨CA, cc, rfl⟩ := hcv.form
          obtain ⟨qb, qo, eVB, _, hqb, q0⟩ := hVB.at ecv
          subst eVB
          have hilen : i < (setsTo search s cur sets 37).length := (List.getElem?_eq_some_iff.1 hget).1
          have HSL := hid (setsTo_len (search := search) (s := s) (cur := cur) (sets := sets) 37)
          have HKEEP := hid (new_keep HD7.out hus7 hmb7 q0)
          have HCV := hid hcv
          clear hmb7 hus7 hrow7 hVB ecv hcv hqb q0 hget
          obtain ⟨tz, htz⟩ : ∃ tz : Nat, tz = tellsB s cur := ⟨_, rfl⟩
          have HTZ := hid htz
          obtain ⟨g0, g1, gf⟩ := slot2 HD7.out.2.2.1
          have HN7 := hid (show IsNfa w7 g search s from HN0.out.below (by rw [HS0.out, ← HBB.out]; exact HB7.out))
          have HN7d := hid (HN7.out.below (show Below w7.heap.size w7 w7.drew from (Below.refl _ _).drew))
          have HCVd := hid (HCV.out.below (show Below w7.heap.size w7 w7.drew from (Below.refl _ _).drew))
          clear htz gf
          refine wp_region_held_drew (S := (fun Y => Y.cell? ⟨mb, 2, none⟩ = some (.slice (some ⟨qb, qo, none⟩) (setsTo search s cur sets 37).length vcB) ∧ Y.cell? ⟨qb, qo + i, none⟩ = some (.slice CA cur.length cc))) (by kernel_rfl) (by exact HKEEP.out w7 (fun _ _ _ _ => rfl)) (fun hHeld => ?_)
          refine wpAnyH_take (i := 0) (oi := { dst := some 35, op := Op.fieldAddr 59 (Operand.tmp 5) 1, type := _, pos := _, after := _, guard := none }) (v := ?_) rfl (by kernel_rfl) (by kernel_rfl) (by kernel_rfl) (fun _ _ _ h => h) (Or.inl ⟨by rfl, ?_⟩) (by assumption) ?_
          rotate_left
          · intro w hSw; (try dsimp only at hSw); go_simp; try with_reducible rfl
          try simp only [Act.put, List.setIfInBounds_toArray, List.set_cons_zero, List.set_cons_succ]
          refine wpAnyH_take (i := 2) (oi := { dst := some 37, op := Op.move (Operand.tmp 0), type := _, pos := _, after := _, guard := none }) (v := ?_) rfl (by kernel_rfl) (by kernel_rfl) (by kernel_rfl) (fun _ _ _ h => h) (Or.inl ⟨by rfl, ?_⟩) (by assumption) ?_
          rotate_left
          · intro w hSw; (try dsimp only at hSw); go_simp; try with_reducible rfl
          try simp only [Act.put, List.setIfInBounds_toArray, List.set_cons_zero, List.set_cons_succ]
          refine wpAnyH_take (i := 3) (oi := { dst := some 38, op := Op.move (Operand.tmp 4), type := _, pos := _, after := _, guard := none }) (v := ?_) rfl (by kernel_rfl) (by kernel_rfl) (by kernel_rfl) (fun _ _ _ h => h) (Or.inl ⟨by rfl, ?_⟩) (by assumption) ?_
          rotate_left
          · intro w hSw; (try dsimp only at hSw); go_simp; try with_reducible rfl
          try simp only [Act.put, List.setIfInBounds_toArray, List.set_cons_zero, List.set_cons_succ]
          refine wpAnyH_take (i := 4) (oi := { dst := some 39, op := Op.nilCheck (Operand.tmp 38), type := _, pos := _, after := _, guard := none }) (v := ?_) rfl (by kernel_rfl) (by kernel_rfl) (by kernel_rfl) (fun _ _ _ h => h) (Or.inl ⟨by rfl, ?_⟩) (by assumption) ?_
          rotate_left
          · intro w hSw; (try dsimp only at hSw); go_simp; try with_reducible rfl
          try simp only [Act.put, List.setIfInBounds_toArray, List.set_cons_zero, List.set_cons_succ]
          refine wpAnyH_take (i := 5) (oi := { dst := some 40, op := Op.fieldAddr 108 (Operand.tmp 39) 2, type := _, pos := _, after := _, guard := none }) (v := ?_) rfl (by kernel_rfl) (by kernel_rfl) (by kernel_rfl) (fun _ _ _ h => h) (Or.inl ⟨by rfl, ?_⟩) (by assumption) ?_
          rotate_left
          · intro w hSw; (try dsimp only at hSw); go_simp; try with_reducible rfl
          try simp only [Act.put, List.setIfInBounds_toArray, List.set_cons_zero, List.set_cons_succ]
          refine wpAnyH_take (i := 6) (oi := { dst := some 41, op := Op.load 56 (Operand.tmp 40), type := _, pos := _, after := _, guard := none }) (v := ?_) rfl (by kernel_rfl) (by kernel_rfl) (by kernel_rfl) (fun _ _ _ h => h) (Or.inl ⟨by rfl, ?_⟩) (by assumption) ?_
          rotate_left
          · intro w hSw; (try dsimp only at hSw); go_simp; try with_reducible rfl
          try simp only [Act.put, List.setIfInBounds_toArray, List.set_cons_zero, List.set_cons_succ]
          refine wpAnyH_take (i := 7) (oi := { dst := some 42, op := Op.move (Operand.tmp 6), type := _, pos := _, after := _, guard := none }) (v := ?_) rfl (by kernel_rfl) (by kernel_rfl) (by kernel_rfl) (fun _ _ _ h => h) (Or.inl ⟨by rfl, ?_⟩) (by assumption) ?_
          rotate_left
          · intro w hSw; (try dsimp only at hSw); go_simp; try with_reducible rfl
          try simp only [Act.put, List.setIfInBounds_toArray, List.set_cons_zero, List.set_cons_succ]
          refine wpAnyH_take (i := 8) (oi := { dst := some 43, op := Op.indexAddr 56 (Operand.tmp 41) (Operand.tmp 42), type := _, pos := _, after := _, guard := none }) (v := ?_) rfl (by kernel_rfl) (by kernel_rfl) (by kernel_rfl) (fun _ _ _ h => h) (Or.inl ⟨by rfl, ?_⟩) (by assumption) ?_
          rotate_left
          · intro w hSw; (try dsimp only at hSw); go_simp; try with_reducible rfl
          try simp only [Act.put, List.setIfInBounds_toArray, List.set_cons_zero, List.set_cons_succ]
          refine wpAnyH_take (i := 9) (oi := { dst := some 44, op := Op.load 23 (Operand.tmp 43), type := _, pos := _, after := _, guard := none }) (v := ?_) rfl (by kernel_rfl) (by kernel_rfl) (by kernel_rfl) (fun _ _ _ h => h) (Or.inl ⟨by rfl, ?_⟩) (by assumption) ?_
          rotate_left
          · intro w hSw; (try dsimp only at hSw); go_simp; try with_reducible rfl
          try simp only [Act.put, List.setIfInBounds_toArray, List.set_cons_zero, List.set_cons_succ]
          refine wpAnyH_ready (rs := [1, 10]) (by kernel_rfl) (by simp) ?_
          refine AllReadyH.cons (o := { dst := some 36, op := Op.load 57 (Operand.tmp 35), type := _, pos := _, after := _, guard := none }) rfl ?legAR10r (AllReadyH.cons (o := { dst := some 45, op := Op.call { callee := Callee.value (Operand.func 22), args := #[Operand.tmp 37, Operand.tmp 44], argTypes := #[26, 23] }, type := _, pos := _, after := _, guard := none }) rfl ?legBR10r AllReadyH.nil)
          case' legAR10r =>
            intro K hK
            go_simp
            clear hHeld
            refine hK.out _ _ (by first | exact HKEEP.out _ (fun _ _ _ _ => rfl) | exact HSX8.out _ | exact HS8.out) (fun hHeld => ?_)
            clear hK K
            try simp only [Act.put, List.setIfInBounds_toArray, List.set_cons_zero, List.set_cons_succ]
            refine wpAnyH_ready (rs := [10]) (by kernel_rfl) (by simp) ?_
            refine AllReadyH.cons (o := { dst := some 45, op := Op.call { callee := Callee.value (Operand.func 22), args := #[Operand.tmp 37, Operand.tmp 44], argTypes := #[26, 23] }, type := _, pos := _, after := _, guard := none }) rfl (fun K hK => ?_) AllReadyH.nil
            go_simp
            refine (tells_any g search s _ _ cur w7.drew HN7d.out HG.out.2.1 HCVd.out HCI.out).mono ?_; rintro e w8 ⟨rfl, n8, hw8⟩; rw [← HTZ.out]; have HD8 := hid (show Dk w8 B mb B g db (.slice (some ⟨qb, qo, none⟩) (setsTo search s cur sets 37).length vcB) (.slice NA (rows.length + 1) nc) tv (setsTo search s cur sets 37) (rows ++ [rowTo search s cur sets 37]) tells by rw [hw8]; exact HD7.out); have HH8 := hid (show (∀ x : Nat, w8.heap[x]? = w7.heap[x]?) ∧ w8.heap.size = w7.heap.size by rw [hw8]; exact ⟨fun _ => rfl, rfl⟩); have HB8 := hid (show Below B W0 w8 by rw [hw8]; exact HB7.out.trans ⟨rfl, rfl, rfl, Nat.le_refl _, fun _ _ => rfl⟩); have HS8 := hid (HKEEP.out w8 (fun x _ _ _ => HH8.out.1 x)); have HSX8 := hid (fun (o : Obj) => HKEEP.out (w8.alloc o) (fun x hx _ _ => (heap_alloc_old _ _ (by rw [HH8.out.2]; exact hx)).trans (HH8.out.1 x))); obtain ⟨r0, r1, rf⟩ := slot2 HD8.out.2.2.1; have HPX8 := hid (fun (o : Obj) => ((Below.refl w8.heap.size w8).alloc (Nat.le_refl _) o).cell (p := ⟨db, 1, none⟩) (show db < w8.heap.size from (HD8.out.off.2.2.2 db List.mem_cons_self).2)); clear hw8 rf; go_wp2_with fail
            clear hHeld
            refine hK.out _ _ (by exact HS8.out) (fun hHeld => ?_)
            clear hK K
            try simp only [Act.put, List.setIfInBounds_toArray, List.set_cons_zero, List.set_cons_succ]
            refine wpAnyH_ready (rs := [11]) (by kernel_rfl) (by simp) ?_
            refine AllReadyH.cons (o := { dst := some 46, op := Op.buildSlice 57 1 #[(0, Operand.tmp 45)], type := _, pos := _, after := _, guard := none }) rfl (fun K hK => ?_) AllReadyH.nil
            go_simp
            have rx := (HPX8.out (.cells #[.int .u64 (tz : Int)] 37)).trans r1
            clear hHeld
            refine hK.out _ _ (by exact HSX8.out _) (fun hHeld => ?_)
            clear hK K
            try simp only [Act.put, List.setIfInBounds_toArray, List.set_cons_zero, List.set_cons_succ]
            obtain ⟨X, hX⟩ : ∃ X, X = w8.alloc (.cells #[.int .u64 (tz : Int)] 37) := ⟨_, rfl⟩
            have HXD := hid hX
            have hxb : Below w8.heap.size w8 X := by rw [hX]; exact (Below.refl _ _).alloc (Nat.le_refl _) _
            have HUX := hid (HD8.out.2.2.2.2.1.kept (grown_of_below hxb none) (Classical.em _))
            have HBX := hid (show B ≤ X.heap.size from Nat.le_trans (by have := HD8.out.2.1; have := (HD8.out.off.2.2.2 db List.mem_cons_self).2; omega) hxb.size)
            have HDX := hid ((hxb.block db (HD8.out.off.2.2.2 db List.mem_cons_self).2).trans HD8.out.2.2.1)
            clear hxb
            refine wpAnyH_ready (rs := [12]) (by kernel_rfl) (by simp) ?_
            refine AllReadyH.cons (o := { dst := some 47, op := Op.call { callee := Callee.builtin Builtin.append, args := #[Operand.tmp 36, Operand.tmp 46], argTypes := #[57, 57] }, type := _, pos := _, after := _, guard := none }) rfl (fun K hK => ?_) AllReadyH.nil
            rw [if_pos (by rfl)]
            try rw [← hX]
            refine wp_app X (.tmp 36) (.tmp 46) 57 rfl B 37 j0 _ 1 8 Try.underlying57 hj0 hy0 hy1 hy2 rfl (by decide) _ tells.length (tells.map (.int .u64)) rfl HUX.out _ 1 1 [.int .u64 (tz : Int)] rfl (by rw [hX]; exact src_new w8 #[.int .u64 (tz : Int)] 37 1 rfl) (one_nums .u64 [(tz : Int)]) (by simp only [maxLen]; omega) (by omega) HBX.out ?_
            intro v9 w9 ho9 hg9 hv9
            obtain ⟨TA, tc, rfl, -, -, -⟩ := own_arr ho9
            have HO9 := hid (show w9.ownsRow B 37 1 (.slice TA (tells.length + 1) tc) (tells.length + 1) ((tells ++ [(tz : Int)]).map (.int .u64)) by simpa using ho9)
            have HG9 := hid hg9
            have HV9 := hid hv9
            have HD9 := hid ((hg9.block db (Array.getElem?_eq_some_iff.1 HDX.out).1 (fun e => own_blk_ne HUX.out HDX.out (by decide) e.symm)).trans HDX.out)
            have HS9 := hid (HKEEP.out w9 (fun x hx hx1 hx2 => (hg9.block x (by rw [HXD.out]; simp; rw [HH8.out.2]; omega) (fun e => hx2 e.symm)).trans (by rw [HXD.out]; exact (heap_alloc_old _ _ (by rw [HH8.out.2]; exact hx)).trans (HH8.out.1 x))))
            have HS10 := hid (HKEEP.out (w9.setCell ⟨db, 1, none⟩ (.slice TA (tells.length + 1) tc)) (fun x hx hx1 hx2 => (kept_blocks HXD.out hg9 rfl x (by rw [HH8.out.2]; exact hx) hx1 hx2).trans (HH8.out.1 x)))
            obtain ⟨t0, t1, tf⟩ := slot2 HD9.out
            have tf1 := tf 1
            clear ho9 hg9 hv9 tf hX
            clear hHeld
            refine hK.out _ _ (by exact HS9.out) (fun hHeld => ?_)
            clear hK K
            try simp only [Act.put, List.setIfInBounds_toArray, List.set_cons_zero, List.set_cons_succ]
            refine wpAnyH_take (i := 13) (oi := { dst := some 48, op := Op.fieldAddr 59 (Operand.tmp 5) 1, type := _, pos := _, after := _, guard := none }) (v := ?_) rfl (by kernel_rfl) (by kernel_rfl) (by kernel_rfl) (fun _ _ _ h => h) (Or.inl ⟨by rfl, ?_⟩) (by assumption) ?_
            rotate_left
            · intro w hSw; (try dsimp only at hSw); go_simp; try with_reducible rfl
            try simp only [Act.put, List.setIfInBounds_toArray, List.set_cons_zero, List.set_cons_succ]
            refine wpAnyH_ready (rs := [14]) (by kernel_rfl) (by simp) ?_
            refine AllReadyH.cons (o := { dst := none, op := Op.store 57 (Operand.tmp 48) (Operand.tmp 47), type := _, pos := _, after := _, guard := none }) rfl (fun K hK => ?_) AllReadyH.nil
            go_simp
            clear hHeld
            refine hK.out _ _ (by exact HS10.out) (fun hHeld => ?_)
            clear hK K
            try simp only [Act.put, List.setIfInBounds_toArray, List.set_cons_zero, List.set_cons_succ]
            refine wpAnyH_done (by kernel_rfl) ?_ _
            clear hHeld
            obtain ⟨w10, hw10⟩ : ∃ w10, w10 = w9.setCell ⟨db, 1, none⟩ (.slice TA (tells.length + 1) tc) := ⟨_, rfl⟩
            have h10 := Dk.addTell HD8.out HXD.out HO9.out HG9.out HV9.out hw10
            have HD10 := hid h10.1
            have HB10 := hid (HB8.out.trans h10.2)
            have HRB10 := hid (show w10.heap[rb]? = some (.cells #[.slice none 0 0, .slice none 0 0] 59 (0, 0)) from (HB10.out.block rb (by rw [HRBE.out, HBB.out]; omega)).trans (show W0.heap[rb]? = _ by rw [HRBE.out]; exact HRB.out))
            have HNX2 := hid (show outB search s (i + 1) = (setsTo search s cur sets 37, rows ++ [rowTo search s cur sets 37], tells ++ [(tz : Int)]) by rw [HNX.out, HTZ.out])
            rw [← hw10]
            obtain ⟨S1, hS1⟩ : ∃ x, x = setsTo search s cur sets 37 := ⟨_, rfl⟩
            obtain ⟨R1, hR1⟩ : ∃ x, x = rows ++ [rowTo search s cur sets 37] := ⟨_, rfl⟩
            obtain ⟨T1, hT1⟩ : ∃ x, x = tells ++ [(tz : Int)] := ⟨_, rfl⟩
            rw [← hS1, ← hR1, ← hT1] at HD10 HNX2
            rw [← hS1] at HSL hilen
            clear HD5 HD7 HD8 HKEEP HS8 HSX8 HPX8 HCV HCVd HNX
            try rw [← hS1]
            obtain ⟨-, -, hmb10, -, -⟩ := id HD10.out.1
            obtain ⟨y0, y1, y2, -⟩ := slot3 hmb10
            clear d0 d1 p0 p1 e0 e1 ef0 g0 g1 r0 r1 t0 t1 tf1 m0 m1 m2
            clear hS1 hR1 hT1 hw10 h10 hmb10 HO9 HG9 HV9 HD9 HS9 HS10 HXD HUX HBX HDX
            have HPK := hid (And.intro HNX2.out (And.intro HD10.out (And.intro HB10.out (And.intro HPR.out (And.intro HSETS.out (And.intro HSL.out (And.intro HB0.out (And.intro HS0.out (And.intro HBB.out (And.intro HRBE.out HRB10.out))))))))))
            obtain ⟨z0, z1, zf⟩ := slot2 HRB10.out
            have zf0 := zf 0
            have zf1 := zf 1
            clear zf
            try clear i0
            try clear hi0
            try clear hz0
            try clear hz1
            try clear hz2
            try clear j0
            try clear hj0
            try clear hy0
            try clear hy1
            try clear hy2
            try clear HG
            try clear HB0
            try clear HRB
            try clear HS0
            try clear HN0
            try clear HMK1
            try clear HB1
            try clear HS1
            try clear HRBE
            try clear HBB
            try clear HMBE
            try clear HM2
            try clear HB2
            try clear HV2
            try clear HF0
            try clear HM3
            try clear HB3
            try clear HD4
            try clear HB4
            try clear HFIX
            try clear HB
            try clear HPR
            try clear hil
            try clear HLN
            try clear HSETS
            try clear HROWS
            try clear HTELLS
            try clear HD
            try clear m0
            try clear m1
            try clear m2
            try clear HCUR
            try clear HFS
            try clear HDd
            try clear HOFF
            try clear HBd
            try clear HCI
            try clear d0
            try clear d1
            try clear hrb
            try clear htb
            try clear HRL
            try clear HTL
            try clear HR37
            try clear HB7
            try clear HTZ
            try clear HN7
            try clear HN7d
            try clear HH8
            try clear HB8
            try clear rx
            try clear HB10
            try clear HRB10
            try clear hilen
            try clear HSL
            try clear HNX2
            try clear HD10
            try clear y0
            try clear y1
            by_cases hbig : 1000 < S1.length
            · go_wp2_with fail
              obtain ⟨e1, e2, e3, e4, e5, e6, e7, e8, e9, e10, e11⟩ := HPK.out
              have hp := heap_setCell_same _ rb 1 _ _ (.slice none 0 0) (heap_setCell_same w10 rb 0 _ _ (.slice none 0 0) e11)
              obtain ⟨c0, c1, -⟩ := slot2 hp
              refine bodyPost_ret (v := .tuple #[.agg #[.slice none 0 0, .slice none 0 0], .int .i64 7]) (by simp [results, Try.results29, go_sem, c0, c1]) rfl ⟨?_, .inr ⟨i, e4, by rw [← e5]; exact hlt, by rw [e1]; exact hbig, rfl⟩⟩
              exact ((e7.trans (e3.mono (show w.heap.size ≤ B by omega))).setCell (p := ⟨rb, 0, none⟩) (show w.heap.size ≤ rb by omega) _).setCell (p := ⟨rb, 1, none⟩) (show w.heap.size ≤ rb by omega) _
            · clear z0 z1 zf0 zf1
              go_wp2_with fail
              obtain ⟨e1, e2, e3, e4, e5, e6, -⟩ := HPK.out
              exact ⟨⟨i + 1, _, _, _, by go_num, by rw [e1]; show i + 1 ≤ S1.length; omega, hid (by rw [e1]; exact e2), hid e3, hid (fun k hk => by
                by_cases e : k < i
                · exact e4 k e
                · obtain rfl : k = i := by omega
                  rw [e1]
                  exact ⟨by rw [← e5]; exact hlt, by show S1.length ≤ 1000; omega⟩), hid (by rw [e1]; show S1.length ≤ 1000; omega)⟩, by simp [intOf]; omega⟩
          case' legBR10r =>
            intro K hK
            go_simp
            refine (tells_any g search s _ _ cur w7.drew HN7d.out HG.out.2.1 HCVd.out HCI.out).mono ?_; rintro e w8 ⟨rfl, n8, hw8⟩; rw [← HTZ.out]; have HD8 := hid (show Dk w8 B mb B g db (.slice (some ⟨qb, qo, none⟩) (setsTo search s cur sets 37).length vcB) (.slice NA (rows.length + 1) nc) tv (setsTo search s cur sets 37) (rows ++ [rowTo search s cur sets 37]) tells by rw [hw8]; exact HD7.out); have HH8 := hid (show (∀ x : Nat, w8.heap[x]? = w7.heap[x]?) ∧ w8.heap.size = w7.heap.size by rw [hw8]; exact ⟨fun _ => rfl, rfl⟩); have HB8 := hid (show Below B W0 w8 by rw [hw8]; exact HB7.out.trans ⟨rfl, rfl, rfl, Nat.le_refl _, fun _ _ => rfl⟩); have HS8 := hid (HKEEP.out w8 (fun x _ _ _ => HH8.out.1 x)); have HSX8 := hid (fun (o : Obj) => HKEEP.out (w8.alloc o) (fun x hx _ _ => (heap_alloc_old _ _ (by rw [HH8.out.2]; exact hx)).trans (HH8.out.1 x))); obtain ⟨r0, r1, rf⟩ := slot2 HD8.out.2.2.1; have HPX8 := hid (fun (o : Obj) => ((Below.refl w8.heap.size w8).alloc (Nat.le_refl _) o).cell (p := ⟨db, 1, none⟩) (show db < w8.heap.size from (HD8.out.off.2.2.2 db List.mem_cons_self).2)); clear hw8 rf; go_wp2_with fail
            clear hHeld
            refine hK.out _ _ (by exact HS8.out) (fun hHeld => ?_)
            clear hK K
            try simp only [Act.put, List.setIfInBounds_toArray, List.set_cons_zero, List.set_cons_succ]
            refine wpAnyH_ready (rs := [1, 11]) (by kernel_rfl) (by simp) ?_
            refine AllReadyH.cons (o := { dst := some 36, op := Op.load 57 (Operand.tmp 35), type := _, pos := _, after := _, guard := none }) rfl ?legAR10rb (AllReadyH.cons (o := { dst := some 46, op := Op.buildSlice 57 1 #[(0, Operand.tmp 45)], type := _, pos := _, after := _, guard := none }) rfl ?legBR10rb AllReadyH.nil)
            case' legAR10rb =>
              intro K hK
              go_simp
              clear hHeld
              refine hK.out _ _ (by first | exact HKEEP.out _ (fun _ _ _ _ => rfl) | exact HSX8.out _ | exact HS8.out) (fun hHeld => ?_)
              clear hK K
              try simp only [Act.put, List.setIfInBounds_toArray, List.set_cons_zero, List.set_cons_succ]
              refine wpAnyH_ready (rs := [11]) (by kernel_rfl) (by simp) ?_
              refine AllReadyH.cons (o := { dst := some 46, op := Op.buildSlice 57 1 #[(0, Operand.tmp 45)], type := _, pos := _, after := _, guard := none }) rfl (fun K hK => ?_) AllReadyH.nil
              go_simp
              have rx := (HPX8.out (.cells #[.int .u64 (tz : Int)] 37)).trans r1
              clear hHeld
              refine hK.out _ _ (by exact HSX8.out _) (fun hHeld => ?_)
              clear hK K
              try simp only [Act.put, List.setIfInBounds_toArray, List.set_cons_zero, List.set_cons_succ]
              obtain ⟨X, hX⟩ : ∃ X, X = w8.alloc (.cells #[.int .u64 (tz : Int)] 37) := ⟨_, rfl⟩
              have HXD := hid hX
              have hxb : Below w8.heap.size w8 X := by rw [hX]; exact (Below.refl _ _).alloc (Nat.le_refl _) _
              have HUX := hid (HD8.out.2.2.2.2.1.kept (grown_of_below hxb none) (Classical.em _))
              have HBX := hid (show B ≤ X.heap.size from Nat.le_trans (by have := HD8.out.2.1; have := (HD8.out.off.2.2.2 db List.mem_cons_self).2; omega) hxb.size)
              have HDX := hid ((hxb.block db (HD8.out.off.2.2.2 db List.mem_cons_self).2).trans HD8.out.2.2.1)
              clear hxb
              refine wpAnyH_ready (rs := [12]) (by kernel_rfl) (by simp) ?_
              refine AllReadyH.cons (o := { dst := some 47, op := Op.call { callee := Callee.builtin Builtin.append, args := #[Operand.tmp 36, Operand.tmp 46], argTypes := #[57, 57] }, type := _, pos := _, after := _, guard := none }) rfl (fun K hK => ?_) AllReadyH.nil
              rw [if_pos (by rfl)]
              try rw [← hX]
              refine wp_app X (.tmp 36) (.tmp 46) 57 rfl B 37 j0 _ 1 8 Try.underlying57 hj0 hy0 hy1 hy2 rfl (by decide) _ tells.length (tells.map (.int .u64)) rfl HUX.out _ 1 1 [.int .u64 (tz : Int)] rfl (by rw [hX]; exact src_new w8 #[.int .u64 (tz : Int)] 37 1 rfl) (one_nums .u64 [(tz : Int)]) (by simp only [maxLen]; omega) (by omega) HBX.out ?_
              intro v9 w9 ho9 hg9 hv9
              obtain ⟨TA, tc, rfl, -, -, -⟩ := own_arr ho9
              have HO9 := hid (show w9.ownsRow B 37 1 (.slice TA (tells.length + 1) tc) (tells.length + 1) ((tells ++ [(tz : Int)]).map (.int .u64)) by simpa using ho9)
              have HG9 := hid hg9
              have HV9 := hid hv9
              have HD9 := hid ((hg9.block db (Array.getElem?_eq_some_iff.1 HDX.out).1 (fun e => own_blk_ne HUX.out HDX.out (by decide) e.symm)).trans HDX.out)
              have HS9 := hid (HKEEP.out w9 (fun x hx hx1 hx2 => (hg9.block x (by rw [HXD.out]; simp; rw [HH8.out.2]; omega) (fun e => hx2 e.symm)).trans (by rw [HXD.out]; exact (heap_alloc_old _ _ (by rw [HH8.out.2]; exact hx)).trans (HH8.out.1 x))))
              have HS10 := hid (HKEEP.out (w9.setCell ⟨db, 1, none⟩ (.slice TA (tells.length + 1) tc)) (fun x hx hx1 hx2 => (kept_blocks HXD.out hg9 rfl x (by rw [HH8.out.2]; exact hx) hx1 hx2).trans (HH8.out.1 x)))
              obtain ⟨t0, t1, tf⟩ := slot2 HD9.out
              have tf1 := tf 1
              clear ho9 hg9 hv9 tf hX
              clear hHeld
              refine hK.out _ _ (by exact HS9.out) (fun hHeld => ?_)
              clear hK K
              try simp only [Act.put, List.setIfInBounds_toArray, List.set_cons_zero, List.set_cons_succ]
              refine wpAnyH_take (i := 13) (oi := { dst := some 48, op := Op.fieldAddr 59 (Operand.tmp 5) 1, type := _, pos := _, after := _, guard := none }) (v := ?_) rfl (by kernel_rfl) (by kernel_rfl) (by kernel_rfl) (fun _ _ _ h => h) (Or.inl ⟨by rfl, ?_⟩) (by assumption) ?_
              rotate_left
              · intro w hSw; (try dsimp only at hSw); go_simp; try with_reducible rfl
              try simp only [Act.put, List.setIfInBounds_toArray, List.set_cons_zero, List.set_cons_succ]
              refine wpAnyH_ready (rs := [14]) (by kernel_rfl) (by simp) ?_
              refine AllReadyH.cons (o := { dst := none, op := Op.store 57 (Operand.tmp 48) (Operand.tmp 47), type := _, pos := _, after := _, guard := none }) rfl (fun K hK => ?_) AllReadyH.nil
              go_simp
              clear hHeld
              refine hK.out _ _ (by exact HS10.out) (fun hHeld => ?_)
              clear hK K
              try simp only [Act.put, List.setIfInBounds_toArray, List.set_cons_zero, List.set_cons_succ]
              refine wpAnyH_done (by kernel_rfl) ?_ _
              clear hHeld
              obtain ⟨w10, hw10⟩ : ∃ w10, w10 = w9.setCell ⟨db, 1, none⟩ (.slice TA (tells.length + 1) tc) := ⟨_, rfl⟩
              have h10 := Dk.addTell HD8.out HXD.out HO9.out HG9.out HV9.out hw10
              have HD10 := hid h10.1
              have HB10 := hid (HB8.out.trans h10.2)
              have HRB10 := hid (show w10.heap[rb]? = some (.cells #[.slice none 0 0, .slice none 0 0] 59 (0, 0)) from (HB10.out.block rb (by rw [HRBE.out, HBB.out]; omega)).trans (show W0.heap[rb]? = _ by rw [HRBE.out]; exact HRB.out))
              have HNX2 := hid (show outB search s (i + 1) = (setsTo search s cur sets 37, rows ++ [rowTo search s cur sets 37], tells ++ [(tz : Int)]) by rw [HNX.out, HTZ.out])
              rw [← hw10]
              obtain ⟨S1, hS1⟩ : ∃ x, x = setsTo search s cur sets 37 := ⟨_, rfl⟩
              obtain ⟨R1, hR1⟩ : ∃ x, x = rows ++ [rowTo search s cur sets 37] := ⟨_, rfl⟩
              obtain ⟨T1, hT1⟩ : ∃ x, x = tells ++ [(tz : Int)] := ⟨_, rfl⟩
              rw [← hS1, ← hR1, ← hT1] at HD10 HNX2
              rw [← hS1] at HSL hilen
              clear HD5 HD7 HD8 HKEEP HS8 HSX8 HPX8 HCV HCVd HNX
              try rw [← hS1]
              obtain ⟨-, -, hmb10, -, -⟩ := id HD10.out.1
              obtain ⟨y0, y1, y2, -⟩ := slot3 hmb10
              clear d0 d1 p0 p1 e0 e1 ef0 g0 g1 r0 r1 t0 t1 tf1 m0 m1 m2
              clear hS1 hR1 hT1 hw10 h10 hmb10 HO9 HG9 HV9 HD9 HS9 HS10 HXD HUX HBX HDX
              have HPK := hid (And.intro HNX2.out (And.intro HD10.out (And.intro HB10.out (And.intro HPR.out (And.intro HSETS.out (And.intro HSL.out (And.intro HB0.out (And.intro HS0.out (And.intro HBB.out (And.intro HRBE.out HRB10.out))))))))))
              obtain ⟨z0, z1, zf⟩ := slot2 HRB10.out
              have zf0 := zf 0
              have zf1 := zf 1
              clear zf
              try clear i0
              try clear hi0
              try clear hz0
              try clear hz1
              try clear hz2
              try clear j0
              try clear hj0
              try clear hy0
              try clear hy1
              try clear hy2
              try clear HG
              try clear HB0
              try clear HRB
              try clear HS0
              try clear HN0
              try clear HMK1
              try clear HB1
              try clear HS1
              try clear HRBE
              try clear HBB
              try clear HMBE
              try clear HM2
              try clear HB2
              try clear HV2
              try clear HF0
              try clear HM3
              try clear HB3
              try clear HD4
              try clear HB4
              try clear HFIX
              try clear HB
              try clear HPR
              try clear hil
              try clear HLN
              try clear HSETS
              try clear HROWS
              try clear HTELLS
              try clear HD
              try clear m0
              try clear m1
              try clear m2
              try clear HCUR
              try clear HFS
              try clear HDd
              try clear HOFF
              try clear HBd
              try clear HCI
              try clear d0
              try clear d1
              try clear hrb
              try clear htb
              try clear HRL
              try clear HTL
              try clear HR37
              try clear HB7
              try clear HTZ
              try clear HN7
              try clear HN7d
              try clear HH8
              try clear HB8
              try clear rx
              try clear HB10
              try clear HRB10
              try clear hilen
              try clear HSL
              try clear HNX2
              try clear HD10
              try clear y0
              try clear y1
              by_cases hbig : 1000 < S1.length
              · go_wp2_with fail
                obtain ⟨e1, e2, e3, e4, e5, e6, e7, e8, e9, e10, e11⟩ := HPK.out
                have hp := heap_setCell_same _ rb 1 _ _ (.slice none 0 0) (heap_setCell_same w10 rb 0 _ _ (.slice none 0 0) e11)
                obtain ⟨c0, c1, -⟩ := slot2 hp
                refine bodyPost_ret (v := .tuple #[.agg #[.slice none 0 0, .slice none 0 0], .int .i64 7]) (by simp [results, Try.results29, go_sem, c0, c1]) rfl ⟨?_, .inr ⟨i, e4, by rw [← e5]; exact hlt, by rw [e1]; exact hbig, rfl⟩⟩
                exact ((e7.trans (e3.mono (show w.heap.size ≤ B by omega))).setCell (p := ⟨rb, 0, none⟩) (show w.heap.size ≤ rb by omega) _).setCell (p := ⟨rb, 1, none⟩) (show w.heap.size ≤ rb by omega) _
              · clear z0 z1 zf0 zf1
                go_wp2_with fail
                obtain ⟨e1, e2, e3, e4, e5, e6, -⟩ := HPK.out
                exact ⟨⟨i + 1, _, _, _, by go_num, by rw [e1]; show i + 1 ≤ S1.length; omega, hid (by rw [e1]; exact e2), hid e3, hid (fun k hk => by
                  by_cases e : k < i
                  · exact e4 k e
                  · obtain rfl : k = i := by omega
                    rw [e1]
                    exact ⟨by rw [← e5]; exact hlt, by show S1.length ≤ 1000; omega⟩), hid (by rw [e1]; show S1.length ≤ 1000; omega)⟩, by simp [intOf]; omega⟩
            case' legBR10rb =>
              intro K hK
              go_simp
              have rx := (HPX8.out (.cells #[.int .u64 (tz : Int)] 37)).trans r1
              clear hHeld
              refine hK.out _ _ (by exact HSX8.out _) (fun hHeld => ?_)
              clear hK K
              try simp only [Act.put, List.setIfInBounds_toArray, List.set_cons_zero, List.set_cons_succ]
              refine wpAnyH_ready (rs := [1]) (by kernel_rfl) (by simp) ?_
              refine AllReadyH.cons (o := { dst := some 36, op := Op.load 57 (Operand.tmp 35), type := _, pos := _, after := _, guard := none }) rfl (fun K hK => ?_) AllReadyH.nil
              go_simp
              clear hHeld
              refine hK.out _ _ (by first | exact HKEEP.out _ (fun _ _ _ _ => rfl) | exact HSX8.out _ | exact HS8.out) (fun hHeld => ?_)
              clear hK K
              try simp only [Act.put, List.setIfInBounds_toArray, List.set_cons_zero, List.set_cons_succ]
              obtain ⟨X, hX⟩ : ∃ X, X = w8.alloc (.cells #[.int .u64 (tz : Int)] 37) := ⟨_, rfl⟩
              have HXD := hid hX
              have hxb : Below w8.heap.size w8 X := by rw [hX]; exact (Below.refl _ _).alloc (Nat.le_refl _) _
              have HUX := hid (HD8.out.2.2.2.2.1.kept (grown_of_below hxb none) (Classical.em _))
              have HBX := hid (show B ≤ X.heap.size from Nat.le_trans (by have := HD8.out.2.1; have := (HD8.out.off.2.2.2 db List.mem_cons_self).2; omega) hxb.size)
              have HDX := hid ((hxb.block db (HD8.out.off.2.2.2 db List.mem_cons_self).2).trans HD8.out.2.2.1)
              clear hxb
              refine wpAnyH_ready (rs := [12]) (by kernel_rfl) (by simp) ?_
              refine AllReadyH.cons (o := { dst := some 47, op := Op.call { callee := Callee.builtin Builtin.append, args := #[Operand.tmp 36, Operand.tmp 46], argTypes := #[57, 57] }, type := _, pos := _, after := _, guard := none }) rfl (fun K hK => ?_) AllReadyH.nil
              rw [if_pos (by rfl)]
              try rw [← hX]
              refine wp_app X (.tmp 36) (.tmp 46) 57 rfl B 37 j0 _ 1 8 Try.underlying57 hj0 hy0 hy1 hy2 rfl (by decide) _ tells.length (tells.map (.int .u64)) rfl HUX.out _ 1 1 [.int .u64 (tz : Int)] rfl (by rw [hX]; exact src_new w8 #[.int .u64 (tz : Int)] 37 1 rfl) (one_nums .u64 [(tz : Int)]) (by simp only [maxLen]; omega) (by omega) HBX.out ?_
              intro v9 w9 ho9 hg9 hv9
              obtain ⟨TA, tc, rfl, -, -, -⟩ := own_arr ho9
              have HO9 := hid (show w9.ownsRow B 37 1 (.slice TA (tells.length + 1) tc) (tells.length + 1) ((tells ++ [(tz : Int)]).map (.int .u64)) by simpa using ho9)
              have HG9 := hid hg9
              have HV9 := hid hv9
              have HD9 := hid ((hg9.block db (Array.getElem?_eq_some_iff.1 HDX.out).1 (fun e => own_blk_ne HUX.out HDX.out (by decide) e.symm)).trans HDX.out)
              have HS9 := hid (HKEEP.out w9 (fun x hx hx1 hx2 => (hg9.block x (by rw [HXD.out]; simp; rw [HH8.out.2]; omega) (fun e => hx2 e.symm)).trans (by rw [HXD.out]; exact (heap_alloc_old _ _ (by rw [HH8.out.2]; exact hx)).trans (HH8.out.1 x))))
              have HS10 := hid (HKEEP.out (w9.setCell ⟨db, 1, none⟩ (.slice TA (tells.length + 1) tc)) (fun x hx hx1 hx2 => (kept_blocks HXD.out hg9 rfl x (by rw [HH8.out.2]; exact hx) hx1 hx2).trans (HH8.out.1 x)))
              obtain ⟨t0, t1, tf⟩ := slot2 HD9.out
              have tf1 := tf 1
              clear ho9 hg9 hv9 tf hX
              clear hHeld
              refine hK.out _ _ (by exact HS9.out) (fun hHeld => ?_)
              clear hK K
              try simp only [Act.put, List.setIfInBounds_toArray, List.set_cons_zero, List.set_cons_succ]
              refine wpAnyH_take (i := 13) (oi := { dst := some 48, op := Op.fieldAddr 59 (Operand.tmp 5) 1, type := _, pos := _, after := _, guard := none }) (v := ?_) rfl (by kernel_rfl) (by kernel_rfl) (by kernel_rfl) (fun _ _ _ h => h) (Or.inl ⟨by rfl, ?_⟩) (by assumption) ?_
              rotate_left
              · intro w hSw; (try dsimp only at hSw); go_simp; try with_reducible rfl
              try simp only [Act.put, List.setIfInBounds_toArray, List.set_cons_zero, List.set_cons_succ]
              refine wpAnyH_ready (rs := [14]) (by kernel_rfl) (by simp) ?_
              refine AllReadyH.cons (o := { dst := none, op := Op.store 57 (Operand.tmp 48) (Operand.tmp 47), type := _, pos := _, after := _, guard := none }) rfl (fun K hK => ?_) AllReadyH.nil
              go_simp
              clear hHeld
              refine hK.out _ _ (by exact HS10.out) (fun hHeld => ?_)
              clear hK K
              try simp only [Act.put, List.setIfInBounds_toArray, List.set_cons_zero, List.set_cons_succ]
              refine wpAnyH_done (by kernel_rfl) ?_ _
              clear hHeld
              obtain ⟨w10, hw10⟩ : ∃ w10, w10 = w9.setCell ⟨db, 1, none⟩ (.slice TA (tells.length + 1) tc) := ⟨_, rfl⟩
              have h10 := Dk.addTell HD8.out HXD.out HO9.out HG9.out HV9.out hw10
              have HD10 := hid h10.1
              have HB10 := hid (HB8.out.trans h10.2)
              have HRB10 := hid (show w10.heap[rb]? = some (.cells #[.slice none 0 0, .slice none 0 0] 59 (0, 0)) from (HB10.out.block rb (by rw [HRBE.out, HBB.out]; omega)).trans (show W0.heap[rb]? = _ by rw [HRBE.out]; exact HRB.out))
              have HNX2 := hid (show outB search s (i + 1) = (setsTo search s cur sets 37, rows ++ [rowTo search s cur sets 37], tells ++ [(tz : Int)]) by rw [HNX.out, HTZ.out])
              rw [← hw10]
              obtain ⟨S1, hS1⟩ : ∃ x, x = setsTo search s cur sets 37 := ⟨_, rfl⟩
              obtain ⟨R1, hR1⟩ : ∃ x, x = rows ++ [rowTo search s cur sets 37] := ⟨_, rfl⟩
              obtain ⟨T1, hT1⟩ : ∃ x, x = tells ++ [(tz : Int)] := ⟨_, rfl⟩
              rw [← hS1, ← hR1, ← hT1] at HD10 HNX2
              rw [← hS1] at HSL hilen
              clear HD5 HD7 HD8 HKEEP HS8 HSX8 HPX8 HCV HCVd HNX
              try rw [← hS1]
              obtain ⟨-, -, hmb10, -, -⟩ := id HD10.out.1
              obtain ⟨y0, y1, y2, -⟩ := slot3 hmb10
              clear d0 d1 p0 p1 e0 e1 ef0 g0 g1 r0 r1 t0 t1 tf1 m0 m1 m2
              clear hS1 hR1 hT1 hw10 h10 hmb10 HO9 HG9 HV9 HD9 HS9 HS10 HXD HUX HBX HDX
              have HPK := hid (And.intro HNX2.out (And.intro HD10.out (And.intro HB10.out (And.intro HPR.out (And.intro HSETS.out (And.intro HSL.out (And.intro HB0.out (And.intro HS0.out (And.intro HBB.out (And.intro HRBE.out HRB10.out))))))))))
              obtain ⟨z0, z1, zf⟩ := slot2 HRB10.out
              have zf0 := zf 0
              have zf1 := zf 1
              clear zf
              try clear i0
              try clear hi0
              try clear hz0
              try clear hz1
              try clear hz2
              try clear j0
              try clear hj0
              try clear hy0
              try clear hy1
              try clear hy2
              try clear HG
              try clear HB0
              try clear HRB
              try clear HS0
              try clear HN0
              try clear HMK1
              try clear HB1
              try clear HS1
              try clear HRBE
              try clear HBB
              try clear HMBE
              try clear HM2
              try clear HB2
              try clear HV2
              try clear HF0
              try clear HM3
              try clear HB3
              try clear HD4
              try clear HB4
              try clear HFIX
              try clear HB
              try clear HPR
              try clear hil
              try clear HLN
              try clear HSETS
              try clear HROWS
              try clear HTELLS
              try clear HD
              try clear m0
              try clear m1
              try clear m2
              try clear HCUR
              try clear HFS
              try clear HDd
              try clear HOFF
              try clear HBd
              try clear HCI
              try clear d0
              try clear d1
              try clear hrb
              try clear htb
              try clear HRL
              try clear HTL
              try clear HR37
              try clear HB7
              try clear HTZ
              try clear HN7
              try clear HN7d
              try clear HH8
              try clear HB8
              try clear rx
              try clear HB10
              try clear HRB10
              try clear hilen
              try clear HSL
              try clear HNX2
              try clear HD10
              try clear y0
              try clear y1
              by_cases hbig : 1000 < S1.length
              · go_wp2_with fail
                obtain ⟨e1, e2, e3, e4, e5, e6, e7, e8, e9, e10, e11⟩ := HPK.out
                have hp := heap_setCell_same _ rb 1 _ _ (.slice none 0 0) (heap_setCell_same w10 rb 0 _ _ (.slice none 0 0) e11)
                obtain ⟨c0, c1, -⟩ := slot2 hp
                refine bodyPost_ret (v := .tuple #[.agg #[.slice none 0 0, .slice none 0 0], .int .i64 7]) (by simp [results, Try.results29, go_sem, c0, c1]) rfl ⟨?_, .inr ⟨i, e4, by rw [← e5]; exact hlt, by rw [e1]; exact hbig, rfl⟩⟩
                exact ((e7.trans (e3.mono (show w.heap.size ≤ B by omega))).setCell (p := ⟨rb, 0, none⟩) (show w.heap.size ≤ rb by omega) _).setCell (p := ⟨rb, 1, none⟩) (show w.heap.size ≤ rb by omega) _
              · clear z0 z1 zf0 zf1
                go_wp2_with fail
                obtain ⟨e1, e2, e3, e4, e5, e6, -⟩ := HPK.out
                exact ⟨⟨i + 1, _, _, _, by go_num, by rw [e1]; show i + 1 ≤ S1.length; omega, hid (by rw [e1]; exact e2), hid e3, hid (fun k hk => by
                  by_cases e : k < i
                  · exact e4 k e
                  · obtain rfl : k = i := by omega
                    rw [e1]
                    exact ⟨by rw [← e5]; exact hlt, by show S1.length ≤ 1000; omega⟩), hid (by rw [e1]; show S1.length ≤ 1000; omega)⟩, by simp [intOf]; omega⟩
    · obtain ⟨-, -, hdc, ⟨us1, hn1, hr1⟩, ht1, -⟩ := id HD.out
      obtain ⟨NA, nc, rfl, -, -, -⟩ := own_arr hn1
      obtain ⟨TA, tc, rfl, -, -, -⟩ := own_arr ht1
      obtain ⟨d0, d1, df⟩ := slot2 hdc
      have hrbc : wr.heap[rb]? = some (.cells #[.slice none 0 0, .slice none 0 0] 59 (0, 0)) := (HB.out.block rb (by rw [HRBE.out, HBB.out]; omega)).trans (show W0.heap[rb]? = _ by rw [HRBE.out]; exact HRB.out)
      obtain ⟨z0, z1, zf⟩ := slot2 hrbc
      have zf0 := zf 0
      have zf1 := zf 1
      have hin : i = sets.length := by omega
      have HRR := hid (show IsRows wr (fun b => B ≤ b) (.slice NA rows.length nc) rows from hr1.isRows hn1)
      have HTT := hid (show IsNums .u64 wr (fun b => B ≤ b) (.slice TA tells.length tc) tells from (own_nums ht1).mono fun b hb _ => hb.1)
      have HPK := hid (And.intro HPR.out (And.intro HSETS.out (And.intro HROWS.out (And.intro HTELLS.out (And.intro HB0.out (And.intro HBB.out (And.intro HRBE.out (And.intro HB.out (And.intro HRR.out (And.intro HTT.out hrbc))))))))))
      clear zf df hsets hrows htells hmbc hus0 hrow0 hVA mf hdc hn1 hr1 ht1 hrbc HRR HTT HPR HSETS HROWS HTELLS HB HD HLN HG HS0 HN0 HRB HFIX HMK1 HB1 HS1 HMBE HM2 HB2 HV2 HF0 HM3 HB3 HD4 HB4
      go_wp2_with fail
      obtain ⟨e1, e2, e3, e4, e5, e6, e7, e8, e9, e10, e11⟩ := HPK.out
      have hrs : rows.length = sets.length := by omega
      have hts : tells.length = sets.length := by omega
      rw [hrs] at e9
      rw [hts] at e10
      have hD : IsD wr (fun b => B ≤ b) (.agg #[.slice NA sets.length nc, .slice TA sets.length tc]) ⟨rows, tells⟩ := ⟨_, _, rfl, e9, e10⟩
      have hp := heap_setCell_same _ rb 1 _ _ (.slice TA sets.length tc) (heap_setCell_same wr rb 0 _ _ (.slice NA sets.length nc) e11)
      obtain ⟨c0, c1, -⟩ := slot2 hp
      refine bodyPost_ret (v := .tuple #[.agg #[.slice NA sets.length nc, .slice TA sets.length tc], .int .i64 0]) (by simp [results, Try.results29, go_sem, c0, c1]) rfl ⟨?_, .inl ⟨i, by omega, e1, by rw [← e2]; exact hin, _, rfl, ?_⟩⟩
      · exact ((e5.trans (e8.mono (show w.heap.size ≤ B by omega))).setCell (p := ⟨rb, 0, none⟩) (show w.heap.size ≤ rb by omega) _).setCell (p := ⟨rb, 1, none⟩) (show w.heap.size ≤ rb by omega) _
      · rw [← e3, ← e4]
        refine (hD.keep fun x hx _ => ?_).mono fun x hx _ => ?_
        · have hx' : B ≤ x := hx
          rw [heap_setCell_other _ _ _ _ (show x ≠ rb by omega), heap_setCell_other _ _ _ _ (show x ≠ rb by omega)]
        · have hx' : B ≤ x := hx
          show w.heap.size ≤ x
          omega
end Go.Proofs.Ythdhbkngbmjjkaa
