/- A bracket, an atom, and how often it may stand. Conditions: a reader and macros in memory. -/
import Derived.Test.YtjcdcmeclnihbaaPd
namespace Go.Proofs.Ytjcdcmeclnihbaa
open Go.RowKit
set_option linter.unusedSimpArgs false
/-- Macros beside a reader. -/
structure Env (Sm : Nat → Prop) (w : World) (r : Nat) (kv : Value) (ms : List (ByteArray × PT)) : Prop where
  macs : IsMacs w Sm w.heap.size kv ms
  off : ∀ b, Sm b → b ≠ r ∧ b < w.heap.size
theorem Env.grown {Sm : Nat → Prop} {w w' : World} {r : Nat} {kv : Value} {ms : List (ByteArray × PT)} (h : Env Sm w r kv ms) (hg : w.grownBy w' (some r)) : Env Sm w' r kv ms := by
  have hsz := hg.size
  have hk : ∀ b, Sm b → w'.heap[b]? = w.heap[b]? := fun b hb => hg.block b (h.off b hb).2 (by intro e; injection e with e; exact (h.off b hb).1 e)
  refine ⟨?_, fun b hb => ⟨(h.off b hb).1, by have := (h.off b hb).2; omega⟩⟩
  obtain ⟨A, c, m0, m1, m2, m3, e, hc, hs, hm⟩ := h.macs.ex
  refine ⟨A, c, m0, m1, m2, m3, e, fun k hk2 => ?_, hs, fun k m hkm => ⟨(hm k m hkm).1, (hm k m hkm).2.imp (fun b hb _ => hk b hb) fun _ h _ => h⟩⟩
  obtain ⟨b, o, e1, hlt, d0, d1, d2, d3⟩ := hc k hk2
  have hb := hk b (hs b o e1)
  exact ⟨b, o, e1, by omega, (cell_same hb).trans d0, (cell_same hb).trans d1, (cell_same hb).trans d2, (cell_same hb).trans d3⟩
/-- What a reader's function does, said once. -/
def RdC (f : Nat) (Sm : Nat → Prop) (kv : Value) (ms : List (ByteArray × PT)) (op : Int) (F : Bs → Res PT) : Prop :=
  ∀ (w : World) (r : Nat) (s : ByteArray) (bad : Int) (a : Nat), Rd w r s kv a op bad 0 → Env Sm w r kv ms → a ≤ s.size → s.size ≤ 100000 → Calls Try.prog f #[.pointer (some ⟨r, 0, none⟩)] w (PostR Sm w r s kv op bad (F ((bsOf s).drop a)))
theorem post_form {Sm : Nat → Prop} {w w' : World} {r : Nat} {s : ByteArray} {kv : Value} {op bad : Int} {res : Res PT} {v : Value} (h : PostR Sm w r s kv op bad res (.returned v) w') :
    ∃ k c : Int, ∃ A n cp, v = .agg #[.int .i64 k, .int .i64 c, .slice A n cp] := by
  obtain ⟨-, u, e, h⟩ := h
  cases e
  cases res with
  | ok t q => obtain ⟨A, cp, e⟩ := h.1.form; exact ⟨_, _, _, _, _, e⟩
  | no q x => obtain ⟨t, ht⟩ := h.2.1; obtain ⟨A, cp, e⟩ := ht.form; exact ⟨_, _, _, _, _, e⟩
theorem drop_more {s : ByteArray} {a : Nat} {c : Nat} {q : Bs} (h : (bsOf s).drop a = c :: q) : (bsOf s).drop (a + 1) = q ∧ a < s.size := by
  refine ⟨?_, ?_⟩
  · rw [show a + 1 = a + 1 from rfl, ← List.drop_drop, h]; rfl
  · have := congrArg List.length h
    rw [List.length_drop, bsOf_len] at this
    simp at this; omega
theorem IsP.off {w : World} {S : Nat → Prop} {v : Value} {p : PT} (h : IsP w S v p) {r : Nat} (hr : ∀ b, S b → b ≠ r) (i : Nat) (u : Value) : IsP (w.setCell ⟨r, i, none⟩ u) S v p :=
  h.imp (fun b hb _ => heap_setCell_other _ _ _ _ (hr b hb)) fun _ h _ => h
theorem IsP.grown {w w' : World} {S : Nat → Prop} {v : Value} {p : PT} (h : IsP w S v p) {r : Nat} (hr : ∀ b, S b → b ≠ r) (hg : w.grownBy w' (some r)) : IsP w' S v p :=
  h.imp (fun b hb hlt => hg.block b hlt (by intro e; injection e with e; exact hr b hb e)) fun _ h _ => h
set_option maxRecDepth 100000 in
set_option maxHeartbeats 2000000 in
theorem brack_any {Sm : Nat → Prop} {kv : Value} {ms : List (ByteArray × PT)} {op : Int} {alts : Option (Bs → Res PT)} (hop0 : 0 ≤ op) (hop : op ≤ 20) (h0 : op = 20 → alts = none) (h1 : op ≠ 20 → ∃ f, alts = some f ∧ RdC 52 Sm kv ms (op + 1) f)
    {w : World} {r : Nat} {s : ByteArray} {bad : Int} (a : Nat) (h : Rd w r s kv a op bad 0) (he : Env Sm w r kv ms) (ha : a ≤ s.size) (hs : s.size ≤ 100000) (hl : hd ((bsOf s).drop a) = 40) :
    Calls Try.prog 109 #[.pointer (some ⟨r, 0, none⟩)] w (PostR Sm w r s kv op bad (brackF alts ((bsOf s).drop a))) := by
  obtain ⟨X, hX⟩ : ∃ X, X = w.alloc (.cells nodeC 45) := ⟨_, rfl⟩
  have HX := hid hX
  obtain ⟨g, hg⟩ : ∃ g, g = w.heap.size := ⟨_, rfl⟩
  have HXB := hid (show X.heap[g]? = some (.cells #[.int .i64 0, .int .i64 0, .slice none 0 0] 45 (0, 0)) by rw [hg, hX]; exact heap_alloc_new _ _)
  have HGE := hid hg
  have HGX := hid (show w.grownBy X (some r) by rw [hX]; exact World.grownBy_alloc _ _ _)
  have HRX := hid (show Rd X r s kv a op bad 0 by rw [hX]; exact h.alloc _)
  have HNE := hid (show g ≠ r by have := h.lt; omega)
  have HOLD := hid (show ∀ Y : World, X.grownBy Y (some r) → Y.heap[g]? = some (.cells #[.int .i64 0, .int .i64 0, .slice none 0 0] 45 (0, 0)) from fun Y hY => (hY.block g (Array.getElem?_eq_some_iff.1 HXB.out).1 (by have := HNE.out; simpa using this)).trans HXB.out)
  obtain ⟨q, hq⟩ := hd_cons (l := (bsOf s).drop a) (by rw [hl]; decide)
  rw [hl] at hq
  obtain ⟨hq1, hq2⟩ := drop_more hq
  have HQ := hid hq
  have HQ1 := hid hq1
  obtain ⟨c0, c1, c2, c3, c4, c5⟩ := HRX.out.cells
  have f0 := HRX.out.frozen 0
  have f1 := HRX.out.frozen 1
  have f3 := HRX.out.frozen 3
  have HE := hid he
  have HSX := hid (show X.heap.size = g + 1 by rw [hX, hg]; simp)
  clear hX hg h hq hq1 hl he
  by_cases hop2 : op = 20
  · have HA := hid (h0 hop2)
    subst hop2
    clear h0 h1
    go_enter Try.func109, Try.ntmps109
    go_wp2_with (first
      | (refine wpList_alloc_of rfl 45 rfl (.agg nodeC) zero45 ?_; rw [show (Value.agg nodeC).cells = nodeC from rfl, ← HX.out, ← HGE.out])
      | fail)
    refine (fail_any (a : Int) 6 HRX.out).mono ?_
    rintro x w5 ⟨rfl, hr5, hg5⟩
    have HR5 := hid hr5
    have HG5 := hid hg5
    clear hr5 hg5 c0 c1 c2 c3 c4 c5 f0 f1 f3
    have HB5 := hid (HOLD.out w5 HG5.out)
    obtain ⟨y0, y1, y2, yf⟩ := slot3 HB5.out
    have yf0 := yf 0
    have yf1 := yf 1
    have yf2 := yf 2
    clear yf
    unfold nodeV nodeC
    go_wp2_with fail
    refine ret_node (p := 2) rfl rfl HB5.out rfl ?_
    rw [HA.out]
    exact ⟨grown_put3 (HGX.out.trans HG5.out) (Nat.le_of_eq HGE.out.symm) _ _ _, _, rfl, by decide, ⟨_, IsP.leaf _ _ 0 0⟩, _, _, by rw [← drop_at ha rfl]; exact HR5.out.put3 HNE.out.symm _ _ _⟩
  · obtain ⟨F, hF, hC⟩ := h1 hop2
    have HC := hid hC
    have HB := hid (show brackF alts ((bsOf s).drop a) = closeF (F q) by rw [hF, HQ.out]; rfl)
    clear h0 h1 hC hF
    have hop3 : op < 20 := by omega
    obtain ⟨X1, hX1⟩ : ∃ Y, Y = (X.setCell ⟨r, 1, none⟩ (.int .i64 ((a : Int) + 1))).setCell ⟨r, 3, none⟩ (.int .i64 (op + 1)) := ⟨_, rfl⟩
    have HX1 := hid hX1
    have HR1 := hid (show Rd X1 r s kv (a + 1 : Nat) (op + 1) bad 0 by rw [hX1]; exact (HRX.out.setAt _).setOp _)
    have HG1 := hid (show X.grownBy X1 (some r) by rw [hX1]; exact grown_setCell (grown_setCell (World.grownBy.refl _ _) 1 _) 3 _)
    clear hX1
    go_enter Try.func109, Try.ntmps109
    go_wp2_with (first
      | (refine wpList_alloc_of rfl 45 rfl (.agg nodeC) zero45 ?_; rw [show (Value.agg nodeC).cells = nodeC from rfl, ← HX.out, ← HGE.out])
      | fail)
    rw [← HX1.out]
    refine (HC.out X1 r s bad (a + 1) HR1.out (HE.out.grown (HGX.out.trans HG1.out)) (by omega) hs).mono ?_
    rw [HQ1.out]
    rintro x w2 hp
    obtain ⟨u, rfl⟩ : ∃ u, x = .returned u := ⟨_, hp.2.choose_spec.1⟩
    obtain ⟨k, c, A, n, cp, rfl⟩ := post_form hp
    obtain ⟨hg2, v, hv, hm⟩ := hp
    cases hv
    have HG2 := hid (show X.grownBy w2 (some r) from HG1.out.trans hg2)
    have HB2 := hid (HOLD.out w2 HG2.out)
    obtain ⟨Y, hY⟩ : ∃ Y, Y = w2.alloc (.cells nodeC 45) := ⟨_, rfl⟩
    have HY := hid hY
    obtain ⟨g2, hg2'⟩ : ∃ g2, g2 = w2.heap.size := ⟨_, rfl⟩
    have HGE2 := hid hg2'
    have hgl := (Array.getElem?_eq_some_iff.1 HB2.out).1
    have hrl : r < X.heap.size := HRX.out.lt
    have hws := HG2.out.size
    have HNE2 := hid (show g2 ≠ r by omega)
    have HNE3 := hid (show g2 ≠ g by omega)
    have HYB := hid (show Y.heap[g2]? = some (.cells #[.int .i64 0, .int .i64 0, .slice none 0 0] 45 (0, 0)) by rw [hg2', hY]; exact heap_alloc_new _ _)
    have HGY := hid (show X.grownBy Y (some r) by rw [hY]; exact grown_alloc HG2.out _)
    have HX1S := hid (show X1.heap.size = X.heap.size by have := HG1.out.size; rw [HX1.out, World.size_setCell, World.size_setCell])
    obtain ⟨Z, hZ⟩ : ∃ Z, Z = put3w Y g2 (.int .i64 k) (.int .i64 c) (.slice A n cp) := ⟨_, rfl⟩
    have HZ := hid hZ
    have HZB := hid (show Z.heap[g2]? = some (.cells #[.int .i64 k, .int .i64 c, .slice A n cp] 45 (0, 0)) by rw [hZ]; exact Go.Proofs.Ytjcdcmeclnihbaa.put3 _ _ _ HYB.out)
    have HGZ := hid (show X.grownBy Z (some r) by rw [hZ]; exact grown_put3 HGY.out (by have := HGE2.out; omega) _ _ _)
    obtain ⟨y0, y1, y2, yf⟩ := slot3 HYB.out
    have yf0 := yf 0
    have yf1 := yf 1
    have yf2 := yf 2
    have HRYZ := hid (show ∀ (b1 e1 a1 o1 : Int), Rd w2 r s kv a1 o1 b1 e1 → Rd Z r s kv a1 o1 b1 e1 from fun b1 e1 a1 o1 h => by rw [hZ]; refine Rd.put3 ?_ HNE2.out.symm _ _ _; rw [hY]; exact h.alloc _)
    have HIPZ := hid (show ∀ t, IsP w2 (fun b => Sm b ∨ X1.heap.size ≤ b) (.agg #[.int .i64 k, .int .i64 c, .slice A n cp]) t → IsP Z (fun b => (Sm b ∨ w.heap.size ≤ b) ∧ b ≠ g) (.agg #[.int .i64 k, .int .i64 c, .slice A n cp]) t from fun t h => by
      have hgs := HGX.out.size
      have h1 : IsP Y (fun b => (Sm b ∨ X1.heap.size ≤ b) ∧ b ≠ g2) (.agg #[.int .i64 k, .int .i64 c, .slice A n cp]) t := by
        rw [hY]
        refine (h.mono (S' := fun b => (Sm b ∨ X1.heap.size ≤ b) ∧ b ≠ g2) fun b hb hlt => ⟨hb, by have := HGE2.out; omega⟩).below ((Below.refl _ _).alloc (Nat.le_refl _) _)
      rw [hZ]
      refine (h1.put3 (fun b hb => hb.2) _ _ _).mono fun b hb _ => ?_
      rcases hb.1 with hb | hb
      · exact ⟨.inl hb, by have := (HE.out.off b hb).2; have := HGE.out; omega⟩
      · exact ⟨.inr (by rw [HX1S.out] at hb; omega), by have := HSX.out; have := HX1S.out; omega⟩)
    have HZC := hid (show (((Y.setCell ⟨g2, 0, none⟩ (.int .i64 k)).setCell ⟨g2, 1, none⟩ (.int .i64 c)).setCell ⟨g2, 2, none⟩ (.slice A n cp)) = Z from hZ.symm)
    have HOFF := hid (show ∀ b, (Sm b ∨ w.heap.size ≤ b) ∧ b ≠ g → b ≠ r from fun b hb => hb.1.elim (fun h => (HE.out.off b h).1) fun h => by have := HGE.out; have := HSX.out; have := HNE.out; omega)
    clear yf hY hg2' hgl hrl hws hg2 c0 c1 c2 c3 c4 c5 f0 f1 f3 hZ
    cases hres : F q with
    | no q2 x =>
      rw [hres] at hm
      obtain ⟨hx, ⟨t, ht⟩, a', op', hr⟩ := hm
      have HRES := hid (show brackF alts ((bsOf s).drop a) = .no q2 x by rw [HB.out, hres]; rfl)
      have HRZ := hid (HRYZ.out _ _ _ _ hr)
      have HIP := hid (HIPZ.out t ht)
      have hx2 : ¬ (x : Int) = 0 := by omega
      obtain ⟨c0, c1, c2, c3, c4, c5⟩ := HRZ.out.cells
      have f1 := HRZ.out.frozen 1
      have f3 := HRZ.out.frozen 3
      obtain ⟨z0, z1, z2, zf⟩ := slot3 HZB.out
      obtain ⟨u0, u1, u2, uf⟩ := slot3 (HOLD.out Z HGZ.out)
      have uf0 := uf 0
      have uf1 := uf 1
      have uf2 := uf 2
      rw [← HZC.out] at c0 c1 c2 c3 c4 c5 f1 f3 z0 z1 z2 u0 u1 u2 uf0 uf1 uf2
      have n1 : g ≠ r := HNE.out
      have n2 : g2 ≠ r := HNE2.out
      have n3 : g2 ≠ g := HNE3.out
      have n4 : r ≠ g := HNE.out.symm
      have n5 : r ≠ g2 := HNE2.out.symm
      have n6 : g ≠ g2 := HNE3.out.symm
      clear hr ht hres uf zf
      go_wp2_with (first
        | (refine wpList_alloc_of rfl 45 rfl (.agg nodeC) zero45 ?_; rw [show (Value.agg nodeC).cells = nodeC from rfl, ← HY.out, ← HGE2.out])
        | fail)
      rw [HZC.out]
      have hV := (HGZ.out.trans (grown_setCell (grown_setCell (World.grownBy.refl Z (some r)) 1 (.int .i64 (wrap64 (a' + 1)))) 3 (.int .i64 (wrap64 (op' - 1)))))
      refine ret_node (p := 2) rfl rfl (HOLD.out _ hV) rfl ?_
      rw [HRES.out]
      exact ⟨grown_put3 (HGX.out.trans hV) (Nat.le_of_eq HGE.out.symm) _ _ _, _, rfl, hx, ⟨t, (((HIP.out.off HOFF.out _ _).off HOFF.out _ _).put3 (fun b hb => hb.2) _ _ _).mono fun b hb _ => hb.1⟩, _, _, ((HRZ.out.setAt _).setOp _).put3 HNE.out.symm _ _ _⟩
    | ok t q2 =>
      rw [hres] at hm
      obtain ⟨ht, a2, ha2, hd2, hr⟩ := hm
      have HRZ := hid (HRYZ.out _ _ _ _ hr)
      have HIP := hid (HIPZ.out t ht)
      have HD2 := hid hd2
      obtain ⟨c0, c1, c2, c3, c4, c5⟩ := HRZ.out.cells
      rw [← HZC.out] at c5
      have HRES := hid (show brackF alts ((bsOf s).drop a) = closeF (.ok t q2) by rw [HB.out, hres])
      clear hr ht hres hd2 c0 c1 c2 c3 c4
      go_wp2_with (first
        | (refine wpList_alloc_of rfl 45 rfl (.agg nodeC) zero45 ?_; rw [show (Value.agg nodeC).cells = nodeC from rfl, ← HY.out, ← HGE2.out])
        | fail)
      rw [HZC.out]
      refine (peek_any a2 HRZ.out ha2 hs).mono ?_
      rintro x w3 ⟨rfl, hcb, a3, ha3, ha4, hd3, hr3, hg3⟩
      rw [HD2.out] at hcb hd3
      rw [HD2.out]
      have HR3 := hid hr3
      have HG3 := hid (HGZ.out.trans hg3)
      have HB3 := hid (HOLD.out w3 HG3.out)
      have HZ3 := hid (show w3.heap[g2]? = some (.cells #[.int .i64 k, .int .i64 c, .slice A n cp] 45 (0, 0)) from (hg3.block g2 (Array.getElem?_eq_some_iff.1 HZB.out).1 (by have := HNE2.out; intro e; injection e with e; exact this e)).trans HZB.out)
      have HIP3 := hid (HIP.out.grown HOFF.out hg3)
      have HD3 := hid hd3
      clear hr3 hg3 c5
      obtain ⟨c0, c1, c2, c3, c4, c5⟩ := HR3.out.cells
      have f1 := HR3.out.frozen 1
      have f3 := HR3.out.frozen 3
      have n1 : g ≠ r := HNE.out
      have n2 : g2 ≠ r := HNE2.out
      have n3 : g2 ≠ g := HNE3.out
      have n4 : r ≠ g := HNE.out.symm
      have n5 : r ≠ g2 := HNE2.out.symm
      have n6 : g ≠ g2 := HNE3.out.symm
      by_cases h41 : hd (skip q2) = 41
      · have HRES2 := hid (show brackF alts ((bsOf s).drop a) = .ok t (skip q2).tail by rw [HRES.out]; exact if_pos h41)
        obtain ⟨q3, hq3⟩ := hd_cons (l := skip q2) (by rw [h41]; decide)
        rw [h41] at hq3
        obtain ⟨hq4, hq5⟩ := drop_more (hd3.trans hq3)
        have HQ4 := hid (show (bsOf s).drop (a3 + 1) = (skip q2).tail by rw [hq4, hq3]; rfl)
        have h41b : ((hd (skip q2) : Nat) : Int) = 41 := by rw [h41]; rfl
        obtain ⟨z0, z1, z2, zf⟩ := slot3 HZ3.out
        obtain ⟨u0, u1, u2, uf⟩ := slot3 HB3.out
        have uf0 := uf 0
        have uf1 := uf 1
        have uf2 := uf 2
        clear hq3 hq4 uf zf hd3 h41
        go_wp2_with fail
        have hV := (HG3.out.trans (grown_setCell (grown_setCell (World.grownBy.refl w3 (some r)) 1 (.int .i64 ((a3 : Int) + 1))) 3 (.int .i64 op)))
        refine ret_node (p := 2) rfl rfl (HOLD.out _ hV) rfl ?_
        rw [HRES2.out]
        exact ⟨grown_put3 (HGX.out.trans hV) (Nat.le_of_eq HGE.out.symm) _ _ _, _, rfl, (((HIP3.out.off HOFF.out _ _).off HOFF.out _ _).put3 (fun b hb => hb.2) _ _ _).mono fun b hb _ => hb.1, a3 + 1, by omega, HQ4.out, ((HR3.out.setAt _).setOp _).put3 HNE.out.symm _ _ _⟩
      · have HRES2 := hid (show brackF alts ((bsOf s).drop a) = .no (skip q2) 4 by rw [HRES.out]; exact if_neg h41)
        have h41b : ¬ ((hd (skip q2) : Nat) : Int) = 41 := by omega
        clear h41 hd3
        go_wp2_with fail
        refine (fail_any (a3 : Int) 4 HR3.out).mono ?_
        rintro x w5 ⟨rfl, hr5, hg5⟩
        have HR5 := hid hr5
        have HG5 := hid (HG3.out.trans hg5)
        clear hr5 hg5 c0 c1 c2 c3 c4 c5 f1 f3
        have HB5 := hid (HOLD.out w5 HG5.out)
        obtain ⟨y0, y1, y2, yf⟩ := slot3 HB5.out
        have yf0 := yf 0
        have yf1 := yf 1
        have yf2 := yf 2
        clear yf
        unfold nodeV nodeC
        go_wp2_with fail
        refine ret_node (p := 2) rfl rfl HB5.out rfl ?_
        rw [HRES2.out]
        exact ⟨grown_put3 (HGX.out.trans HG5.out) (Nat.le_of_eq HGE.out.symm) _ _ _, _, rfl, by decide, ⟨_, IsP.leaf _ _ 0 0⟩, _, _, by rw [← drop_at ha4 HD3.out]; exact HR5.out.put3 HNE.out.symm _ _ _⟩
end Go.Proofs.Ytjcdcmeclnihbaa
