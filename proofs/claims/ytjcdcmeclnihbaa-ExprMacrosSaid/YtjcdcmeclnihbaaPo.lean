/- How often an atom may stand. Conditions: a reader and macros in memory. -/
import Derived.Test.YtjcdcmeclnihbaaPi
namespace Go.Proofs.Ytjcdcmeclnihbaa
open Go.RowKit
set_option linter.unusedSimpArgs false
section
variable {w w' : World} {Sm : Nat → Prop} {B : Nat} {v : Value} {l : List PT}
theorem BQ.single {S : Nat → Prop} {v0 v1 v2 : Value} {t : PT} (h : IsP w S (.agg #[v0, v1, v2]) t) (hS : ∀ b, S b → b < w.heap.size → Sm b ∨ B ≤ b) (hB : B ≤ w.heap.size) (_hSm : ∀ b, Sm b → b < w.heap.size) :
    BQ (w.alloc (.cells #[v0, v1, v2] 45)) Sm B (.slice (some ⟨w.heap.size, 0, none⟩) 1 1) [t] := by
  obtain ⟨d, t', h1, rfl⟩ := h
  refine ⟨d, [t'], [v0, v1, v2], ?_, ⟨rfl, fun k u hu => ?_⟩, rfl⟩
  · have h := World.ownsRow_lit (base := B) (e := 45) (size := 3) w #[v0, v1, v2] 1 hB (by unfold maxLen; omega) rfl
    simpa using h
  · cases k with
    | succ k => simp at hu
    | zero =>
      simp at hu
      subst hu
      refine ⟨v0, v1, v2, rfl, rfl, rfl, ?_⟩
      refine IsTr.imp (fun b hb hlt => ((Below.refl w.heap.size w).alloc (Nat.le_refl _) _).block b hlt) (fun b hb hlt => ⟨hS b hb hlt, ?_⟩) d _ _ h1
      simp [Value.ownBlock]
      omega
/-- 'append(row, t)', the new cells made just before. -/
theorem wp_app_q {o : Oper} {a : Act} {Kn : Act → World → Prop} {Q : Exit → Act → World → Prop} (s x : Operand) (hop : o.op = .call { callee := .builtin .append, args := #[s, x], argTypes := #[43, 43] }) {w0 : World} {S : Nat → Prop} {v0 v1 v2 : Value} {t : PT}
    (hw : w = w0.alloc (.cells #[v0, v1, v2] 45)) (hs : a.eval s = v) (h : BQ w0 Sm B v l) (hx : a.eval x = .slice (some ⟨w0.heap.size, 0, none⟩) 1 1) (ht : IsP w0 S (.agg #[v0, v1, v2]) t) (hS : ∀ b, S b → b < w0.heap.size → (Sm b ∨ B ≤ b) ∧ v.ownBlock ≠ some b) (hl : l.length ≤ 1000000) (hB : B ≤ w0.heap.size) (_hSm : ∀ b, Sm b → b < w0.heap.size)
    (hk : ∀ v' w', BQ w' Sm B v' (l ++ [t]) → w.grownBy w' v.ownBlock → Kn (a.put o.dst v') w') : Oper.wp Try.prog o a w Kn Q := by
  obtain ⟨i0, hi0, hz0, hz1, hz2⟩ := info_parts info45
  have hb0 : Below w0.heap.size w0 w := by rw [hw]; exact (Below.refl _ _).alloc (Nat.le_refl _) _
  obtain ⟨d, ts, xs, ho, hlx, he⟩ := h.below hb0
  have hnew : w.heap[w0.heap.size]? = some (.cells #[v0, v1, v2] 45 (0, 0)) := by rw [hw]; exact heap_alloc_new _ _
  have hsrc : Src w 3 (some ⟨w0.heap.size, 0, none⟩) 1 [v0, v1, v2] := ⟨rfl, fun _ => ⟨_, rfl, fun j u hu => by
    rw [Addr.add_lit, Nat.zero_add, cell_of_row _ _ j _ _ _ hnew, ← Array.getElem?_toList]; exact hu⟩⟩
  have ht2 := ht.mono (S' := fun b => (Sm b ∨ B ≤ b) ∧ v.ownBlock ≠ some b) hS
  obtain ⟨e, t', h1, rfl⟩ := ht2
  refine wp_app w s x 43 hop B 45 i0 _ 3 40 Try.underlying43 hi0 hz0 hz1 hz2 (by rfl) (by omega) v l.length xs hs ho (some ⟨w0.heap.size, 0, none⟩) 1 1 [v0, v1, v2] hx hsrc (one3 h1) (by unfold maxLen; omega) (by omega) (Nat.le_trans hB hb0.size) ?_
  intro v' w' ho' hg hv
  refine hk v' w' ?_ hg
  have h2 : IsTr w (fun b => (Sm b ∨ B ≤ b) ∧ v.ownBlock ≠ some b) e (.agg #[v0, v1, v2]) t' := h1.below hb0
  obtain ⟨tsM, e1⟩ := toPs_le (Nat.le_max_left d e) ts
  obtain ⟨tM, e2⟩ := toP_le (Nat.le_max_right d e) t'
  refine ⟨max d e, tsM ++ [tM], xs ++ [v0, v1, v2], by simpa using ho', ?_, by rw [List.map_append, e1, he]; simp [e2]⟩
  have hlen : ts.length = tsM.length := by have := congrArg List.length e1; simpa using this.symm
  have hlx2 : Laid3 w (fun b => (Sm b ∨ B ≤ b) ∧ v.ownBlock ≠ some b) (max d e) xs tsM := by
    refine ⟨by rw [← hlen]; exact hlx.1, fun k u hu => ?_⟩
    have hkl : k < ts.length := by rw [hlen]; exact (List.getElem?_eq_some_iff.1 hu).1
    obtain ⟨a0, a1, a2, c0, c1, c2, hr⟩ := hlx.2 k _ (List.getElem?_eq_getElem hkl)
    refine ⟨a0, a1, a2, c0, c1, c2, hr.turn d ?_⟩
    have e4 := congrArg (fun l => l[k]?) e1
    simp only [List.getElem?_map, List.getElem?_eq_getElem hkl, hu, Option.map_some] at e4
    exact (Option.some.inj e4).symm
  refine Laid3.imp (w := w) (S := fun b => (Sm b ∨ B ≤ b) ∧ v.ownBlock ≠ some b) (hlx2.snoc (h2.turn e e2.symm)) (fun b hb hlt => hg.block b hlt fun e => hb.2 e.symm) fun b hb hlt => ⟨hb.1, fun e => ?_⟩
  rcases hv with hv | hv
  · rw [hv] at e; exact hb.2 e
  · rw [hv] at e
    injection e with e
    have := hb0.size
    omega
end
/-- A function's answer, kept in a node's block of its own. -/
theorem post_box {Sm : Nat → Prop} {w wc w2 : World} {r : Nat} {s : ByteArray} {kv : Value} {op bad : Int} {res : Res PT} {v : Value} (hw : w.grownBy wc (some r)) (hwc : w.heap.size ≤ wc.heap.size) (hr : r < w2.heap.size)
    (h : PostR Sm wc r s kv op bad res (.returned v) w2) (u0 u1 u2 : Value) : PostR Sm w r s kv op bad res (.returned v) (put3w (w2.alloc (.cells nodeC 45)) w2.heap.size u0 u1 u2) := by
  obtain ⟨hg2, v', e, hm⟩ := h
  cases e
  have hS : ∀ b, Sm b ∨ wc.heap.size ≤ b → Sm b ∨ w.heap.size ≤ b := fun b hb => hb.imp id (by omega)
  have hne : r ≠ w2.heap.size := by omega
  have hI : ∀ t, IsP w2 (fun b => Sm b ∨ wc.heap.size ≤ b) v t → IsP (put3w (w2.alloc (.cells nodeC 45)) w2.heap.size u0 u1 u2) (fun b => Sm b ∨ w.heap.size ≤ b) v t := fun t h1 => by
    have h2 : IsP (w2.alloc (.cells nodeC 45)) (fun b => (Sm b ∨ wc.heap.size ≤ b) ∧ b ≠ w2.heap.size) v t := (h1.mono (S' := fun b => (Sm b ∨ wc.heap.size ≤ b) ∧ b ≠ w2.heap.size) fun b hb hlt => ⟨hb, by omega⟩).below ((Below.refl _ _).alloc (Nat.le_refl _) _)
    exact (h2.put3 (fun b hb => hb.2) _ _ _).mono fun b hb _ => hS b hb.1
  refine ⟨grown_put3 (grown_alloc (hw.trans hg2) _) (by have := hg2.size; omega) _ _ _, v, rfl, ?_⟩
  cases res with
  | ok t q =>
    obtain ⟨h1, a', h2, h3, h4⟩ := hm
    exact ⟨hI t h1, a', h2, h3, (h4.alloc _).put3 hne _ _ _⟩
  | no q x =>
    obtain ⟨h0, ⟨t, h1⟩, a', op', h4⟩ := hm
    exact ⟨h0, ⟨t, hI t h1⟩, a', op', (h4.alloc _).put3 hne _ _ _⟩
set_option maxRecDepth 100000 in
set_option maxHeartbeats 2000000 in
theorem often_any {Sm : Nat → Prop} {kv : Value} {ms : List (ByteArray × PT)} {op : Int} {alts : Option (Bs → Res PT)} {macs : Bs → Option PT} (hA : RdC 101 Sm kv ms op (atomF numB macs alts)) :
    RdC 94 Sm kv ms op (oftenF numB macs alts) := by
  intro w r s bad a h he ha hs
  obtain ⟨X, hX⟩ : ∃ X, X = w.alloc (.cells nodeC 45) := ⟨_, rfl⟩
  have HX := hid hX
  obtain ⟨g, hg⟩ : ∃ g, g = w.heap.size := ⟨_, rfl⟩
  have HXB := hid (show X.heap[g]? = some (.cells #[.int .i64 0, .int .i64 0, .slice none 0 0] 45 (0, 0)) by rw [hg, hX]; exact heap_alloc_new _ _)
  have HGE := hid hg
  have HGX := hid (show w.grownBy X (some r) by rw [hX]; exact World.grownBy_alloc _ _ _)
  have HRX := hid (show Rd X r s kv a op bad 0 by rw [hX]; exact h.alloc _)
  have HNE := hid (show g ≠ r by have := h.lt; omega)
  have HOLD := hid (show ∀ Y : World, X.grownBy Y (some r) → Y.heap[g]? = some (.cells #[.int .i64 0, .int .i64 0, .slice none 0 0] 45 (0, 0)) from fun Y hY => (hY.block g (Array.getElem?_eq_some_iff.1 HXB.out).1 (by have := HNE.out; simpa using this)).trans HXB.out)
  have HE := hid he
  have HSX := hid (show X.heap.size = g + 1 by rw [hX, hg]; simp)
  have HSM := hid (show ∀ b, Sm b → b < w.heap.size from fun b hb => (he.off b hb).2)
  have HA := hid hA
  have HOF := hid (show oftenF numB macs alts ((bsOf s).drop a) = match atomF numB macs alts ((bsOf s).drop a) with
    | .no q e => .no q e
    | .ok t q => oftenSign t (skip q) from rfl)
  clear hX hg h he hA
  go_enter Try.func94, Try.ntmps94
  go_wp2_with (first
    | (refine wpList_alloc_of rfl 45 rfl (.agg nodeC) zero45 ?_; rw [show (Value.agg nodeC).cells = nodeC from rfl, ← HX.out, ← HGE.out])
    | fail)
  refine (HA.out X r s bad a HRX.out (HE.out.grown HGX.out) ha hs).mono ?_
  rintro x w2 hp
  obtain ⟨u, rfl⟩ : ∃ u, x = .returned u := ⟨_, hp.2.choose_spec.1⟩
  obtain ⟨k, c, A, n, cp, rfl⟩ := post_form hp
  obtain ⟨g2, hg2'⟩ : ∃ g2, g2 = w2.heap.size := ⟨_, rfl⟩
  have HGE2 := hid hg2'
  have hws := hp.1.size
  have HP := hid (post_box (World.grownBy.refl X (some r)) (Nat.le_refl _) (by have := HRX.out.lt; omega) hp (.int .i64 k) (.int .i64 c) (.slice A n cp))
  obtain ⟨Y, hY⟩ : ∃ Y, Y = w2.alloc (.cells nodeC 45) := ⟨_, rfl⟩
  have HY := hid hY
  rw [← hg2', ← hY] at HP
  have hrl : r < X.heap.size := HRX.out.lt
  have HNE2 := hid (show g2 ≠ r by omega)
  have HNE3 := hid (show g2 ≠ g by have := HSX.out; omega)
  have HYB := hid (show Y.heap[g2]? = some (.cells #[.int .i64 0, .int .i64 0, .slice none 0 0] 45 (0, 0)) by rw [hg2', hY]; exact heap_alloc_new _ _)
  obtain ⟨Z, hZ⟩ : ∃ Z, Z = put3w Y g2 (.int .i64 k) (.int .i64 c) (.slice A n cp) := ⟨_, rfl⟩
  have HZC := hid (show (((Y.setCell ⟨g2, 0, none⟩ (.int .i64 k)).setCell ⟨g2, 1, none⟩ (.int .i64 c)).setCell ⟨g2, 2, none⟩ (.slice A n cp)) = Z from hZ.symm)
  have HZB := hid (show Z.heap[g2]? = some (.cells #[.int .i64 k, .int .i64 c, .slice A n cp] 45 (0, 0)) by rw [hZ]; exact Go.Proofs.Ytjcdcmeclnihbaa.put3 _ _ _ HYB.out)
  rw [← hZ] at HP
  obtain ⟨hgZ, v, hv, hm⟩ := HP.out
  cases hv
  have HGZ := hid hgZ
  obtain ⟨y0, y1, y2, yf⟩ := slot3 HYB.out
  have yf0 := yf 0
  have yf1 := yf 1
  have yf2 := yf 2
  have HPW := hid hp
  clear yf hY hg2' hws hZ hgZ hp hrl
  have n1 : g ≠ r := HNE.out
  have n2 : g2 ≠ r := HNE2.out
  have n3 : g2 ≠ g := HNE3.out
  have n4 : r ≠ g := HNE.out.symm
  have n5 : r ≠ g2 := HNE2.out.symm
  have n6 : g ≠ g2 := HNE3.out.symm
  cases hres : atomF numB macs alts ((bsOf s).drop a) with
  | no q2 x =>
    rw [hres] at hm
    obtain ⟨hx, ⟨t, ht⟩, a', op', hr⟩ := hm
    have HRES := hid (show oftenF numB macs alts ((bsOf s).drop a) = .no q2 x by rw [HOF.out, hres])
    have HIP := hid ht
    have HR := hid hr
    have hx2 : ¬ (x : Int) = 0 := by omega
    obtain ⟨c0, c1, c2, c3, c4, c5⟩ := hr.cells
    obtain ⟨z0, z1, z2, zf⟩ := slot3 HZB.out
    obtain ⟨u0, u1, u2, uf⟩ := slot3 (HOLD.out Z HGZ.out)
    have uf0 := uf 0
    have uf1 := uf 1
    have uf2 := uf 2
    rw [← HZC.out] at c5 z0 z1 z2 u0 u1 u2 uf0 uf1 uf2
    clear hr ht hres c0 c1 c2 c3 c4 zf uf
    go_wp2_with (first
      | (refine wpList_alloc_of rfl 45 rfl (.agg nodeC) zero45 ?_; rw [show (Value.agg nodeC).cells = nodeC from rfl, ← HY.out, ← HGE2.out])
      | fail)
    rw [HZC.out]
    refine ret_node (p := 2) rfl rfl (HOLD.out Z HGZ.out) rfl ?_
    rw [HRES.out]
    have hP : PostR Sm X r s kv op bad (.no q2 x) (.returned (.agg #[.int .i64 k, .int .i64 c, .slice A n cp])) Z := ⟨HGZ.out, _, rfl, hx, ⟨t, HIP.out⟩, a', op', HR.out⟩
    exact post_put HGX.out (Nat.le_of_eq HGE.out.symm) (by have := HSX.out; omega) HNE.out HSM.out hP _ _ _
  | ok t q2 =>
    rw [hres] at hm
    obtain ⟨ht, a2, ha2, hd2, hr⟩ := hm
    have HIP := hid ht
    have HR := hid hr
    have HD2 := hid hd2
    obtain ⟨c0, c1, c2, c3, c4, c5⟩ := hr.cells
    rw [← HZC.out] at c5
    have HRES := hid (show oftenF numB macs alts ((bsOf s).drop a) = oftenSign t (skip q2) by rw [HOF.out, hres])
    clear hr ht hres hd2 c0 c1 c2 c3 c4
    go_wp2_with (first
      | (refine wpList_alloc_of rfl 45 rfl (.agg nodeC) zero45 ?_; rw [show (Value.agg nodeC).cells = nodeC from rfl, ← HY.out, ← HGE2.out])
      | fail)
    rw [HZC.out]
    refine (peek_any a2 HR.out ha2 hs).mono ?_
    rintro x w3 ⟨rfl, hcb, a3, ha3, ha4, hd3, hr3, hg3⟩
    rw [HD2.out] at hcb hd3
    rw [HD2.out]
    obtain ⟨l3, hl3⟩ : ∃ l3, l3 = skip q2 := ⟨_, rfl⟩
    rw [← hl3] at hcb hd3 HRES ⊢
    have HR3 := hid hr3
    have HG3 := hid (HGZ.out.trans hg3)
    have HB3 := hid (HOLD.out w3 HG3.out)
    have HZ3 := hid (show w3.heap[g2]? = some (.cells #[.int .i64 k, .int .i64 c, .slice A n cp] 45 (0, 0)) from (hg3.block g2 (Array.getElem?_eq_some_iff.1 HZB.out).1 (by have := HNE2.out; intro e; injection e with e; exact this e)).trans HZB.out)
    have HOFF := hid (show ∀ b, Sm b ∨ X.heap.size ≤ b → b ≠ r from fun b hb => hb.elim (fun h => (HE.out.off b h).1) fun h => by have := HRX.out.lt; omega)
    have HIP3 := hid (HIP.out.grown HOFF.out hg3)
    have HD3 := hid hd3
    have HGL3 := hid (show g < w3.heap.size by have := HG3.out.size; have := HSX.out; omega)
    clear hr3 hg3 c5 hl3
    go_wp2_with fail
    refine (sign_any (hd l3) hcb w3).mono ?_
    rintro x w3' ⟨rfl, rfl⟩
    obtain ⟨c0, c1, c2, c3, c4, c5⟩ := HR3.out.cells
    have f1 := HR3.out.frozen 1
    by_cases hend : a3 = s.size
    · have hnil : l3 = [] := by rw [← HD3.out]; exact List.drop_eq_nil_of_le (by rw [bsOf_len]; omega)
      have HRES2 := hid (show oftenF numB macs alts ((bsOf s).drop a) = .ok t l3 by rw [HRES.out, hnil]; rfl)
      have he2 : (a3 : Int) = (s.size : Int) := by omega
      have hsg : signIx (hd l3) = -1 := by rw [hnil]; rfl
      clear hnil
      go_wp2_with fail
      go_quiet (fail)
      have hPq : PostR Sm X r s kv op bad (.ok t l3) (.returned (.agg #[.int .i64 k, .int .i64 c, .slice A n cp])) (w3'.drewN nq) := ⟨grown_drewN HG3.out nq, _, rfl, HIP3.out.imp (fun _ _ _ => rfl) (fun _ h _ => h), a3, ha4, HD3.out, HR3.out.drewN nq⟩
      obtain ⟨z0, z1, z2, zf⟩ := slot3 (show (w3'.drewN nq).heap[g2]? = _ from HZ3.out)
      obtain ⟨u0, u1, u2, uf⟩ := slot3 (show (w3'.drewN nq).heap[g]? = _ from HB3.out)
      have uf0 := uf 0
      have uf1 := uf 1
      have uf2 := uf 2
      have HPQ := hid hPq
      clear zf uf hPq
      go_wp2_with fail
      refine ret_node (p := 2) rfl rfl (show (w3'.drewN nq).heap[g]? = _ from HB3.out) rfl ?_
      rw [HRES2.out]
      exact post_put HGX.out (Nat.le_of_eq HGE.out.symm) (by have := HSX.out; omega) HNE.out HSM.out HPQ.out _ _ _
    · have he2 : ¬ (a3 : Int) = (s.size : Int) := by omega
      by_cases hsg0 : signIx (hd l3) = -1
      · have hn : hd l3 ≠ 42 ∧ hd l3 ≠ 43 ∧ hd l3 ≠ 63 := by
          refine ⟨?_, ?_, ?_⟩ <;> (intro e; rw [e] at hsg0; revert hsg0; decide)
        have HRES2 := hid (show oftenF numB macs alts ((bsOf s).drop a) = .ok t l3 by rw [HRES.out]; unfold oftenSign; rw [if_neg hn.1, if_neg hn.2.1, if_neg hn.2.2])
        have hsg := hsg0
        clear hsg0 hn
        go_wp2_with fail
        go_quiet (fail)
        have hPq : PostR Sm X r s kv op bad (.ok t l3) (.returned (.agg #[.int .i64 k, .int .i64 c, .slice A n cp])) (w3'.drewN nq) := ⟨grown_drewN HG3.out nq, _, rfl, HIP3.out.imp (fun _ _ _ => rfl) (fun _ h _ => h), a3, ha4, HD3.out, HR3.out.drewN nq⟩
        obtain ⟨z0, z1, z2, zf⟩ := slot3 (show (w3'.drewN nq).heap[g2]? = _ from HZ3.out)
        obtain ⟨u0, u1, u2, uf⟩ := slot3 (show (w3'.drewN nq).heap[g]? = _ from HB3.out)
        have uf0 := uf 0
        have uf1 := uf 1
        have uf2 := uf 2
        have HPQ := hid hPq
        clear zf uf hPq
        go_wp2_with fail
        refine ret_node (p := 2) rfl rfl (show (w3'.drewN nq).heap[g]? = _ from HB3.out) rfl ?_
        rw [HRES2.out]
        exact post_put HGX.out (Nat.le_of_eq HGE.out.symm) (by have := HSX.out; omega) HNE.out HSM.out HPQ.out _ _ _
      · obtain ⟨i, hi, hi0, hi2⟩ : ∃ i : Int, signIx (hd l3) = i ∧ 0 ≤ i ∧ i ≤ 2 := by
          refine ⟨_, rfl, ?_, ?_⟩ <;> (unfold signIx at hsg0 ⊢; repeat' split) <;> simp_all
        have hos : oftenSign t l3 = .ok (.mk (6 + i) 0 [t]) l3.tail := by
          unfold signIx at hi hsg0
          unfold oftenSign
          by_cases h1 : hd l3 = 42
          · rw [if_pos h1] at hi ⊢; rw [← hi]; rfl
          · rw [if_neg h1] at hi ⊢
            by_cases h2 : hd l3 = 43
            · rw [if_pos h2] at hi ⊢; rw [← hi]; rfl
            · rw [if_neg h2] at hi ⊢
              by_cases h3 : hd l3 = 63
              · rw [if_pos h3] at hi ⊢; rw [← hi]; rfl
              · rw [if_neg h3] at hi; omega
        have HRES2 := hid (HRES.out.trans hos)
        have hnz : hd l3 ≠ 0 := by intro e; rw [e] at hsg0; exact hsg0 rfl
        obtain ⟨q, hq⟩ := hd_cons hnz
        obtain ⟨hq1, hq2⟩ := drop_more (HD3.out.trans hq)
        have HQ := hid (show (bsOf s).drop (a3 + 1) = l3.tail by rw [hq1, hq]; rfl)
        clear hos hq hq1 hnz hsg0
        have hneg : ¬ i < 0 := by omega
        have heq : ((a3 : Int) == (s.size : Int)) = false := ieq_false he2
        have hor : ((a3 : Int) == (s.size : Int) || decide (i < 0)) = false := by rw [heq]; simp [hneg]
        go_wp2_with fail
        go_quiet (fail)
        obtain ⟨V, hV⟩ : ∃ V, V = (w3'.drewN nq).setCell ⟨r, 1, none⟩ (.int .i64 ((a3 : Int) + 1)) := ⟨_, rfl⟩
        have HV := hid hV
        have HGV := hid (show X.grownBy V (some r) by rw [hV]; exact (grown_drewN HG3.out nq).trans (grown_setCell (World.grownBy.refl _ _) 1 _))
        have HRV := hid (show Rd V r s kv (a3 + 1 : Nat) op bad 0 by rw [hV]; exact (HR3.out.drewN nq).setAt _)
        have HZV := hid (show V.heap[g2]? = some (.cells #[.int .i64 k, .int .i64 c, .slice A n cp] 45 (0, 0)) by rw [hV, heap_setCell_other _ _ _ _ n2]; exact HZ3.out)
        have HIV := hid (show IsP V (fun b => Sm b ∨ X.heap.size ≤ b) (.agg #[.int .i64 k, .int .i64 c, .slice A n cp]) t by rw [hV]; exact IsP.off (w := w3'.drewN nq) (HIP3.out.imp (fun _ _ _ => rfl) (fun _ h _ => h)) HOFF.out _ _)
        have HBV := hid (HOLD.out V HGV.out)
        have HVL := hid (show g < V.heap.size by have := HGV.out.size; have := HSX.out; omega)
        obtain ⟨U, hU⟩ : ∃ U, U = V.alloc (.cells #[.int .i64 k, .int .i64 c, .slice A n cp] 45) := ⟨_, rfl⟩
        have HU := hid hU
        have HBQ := hid (show BQ U Sm X.heap.size (.slice (some ⟨V.heap.size, 0, none⟩) 1 1) [t] by rw [hU]; exact BQ.single HIV.out (fun b hb _ => hb) HGV.out.size (fun b hb => by have := HSM.out b hb; have := HGX.out.size; have := HGV.out.size; omega))
        have HBU := hid (show U.heap[g]? = some (.cells #[.int .i64 0, .int .i64 0, .slice none 0 0] 45 (0, 0)) by rw [hU]; exact (((Below.refl V.heap.size V).alloc (Nat.le_refl _) _).block g HVL.out).trans HBV.out)
        have HPU := hid (show PostR Sm X r s kv op bad (.ok (.mk (6 + i) 0 [t]) l3.tail) (.returned (.agg #[.int .i64 (6 + i), .int .i64 0, .slice (some ⟨V.heap.size, 0, none⟩) 1 1])) U from
          ⟨by rw [hU]; exact grown_alloc HGV.out _, _, rfl, HBQ.out.node _ _, a3 + 1, by omega, HQ.out, by rw [hU]; exact HRV.out.alloc _⟩)
        obtain ⟨z0, z1, z2, zf⟩ := slot3 (show (w3'.drewN nq).heap[g2]? = _ from HZ3.out)
        obtain ⟨u0, u1, u2, uf⟩ := slot3 HBU.out
        have uf0 := uf 0
        have uf1 := uf 1
        have uf2 := uf 2
        have hVs : V.heap.size = w3'.heap.size := by rw [hV, World.size_setCell]; rfl
        rw [HU.out, HV.out] at u0 u1 u2 uf0 uf1 uf2
        have HVS := hid hVs
        clear zf uf hV hU hVs
        go_wp2_with fail
        rw [← HVS.out, ← HV.out, ← HU.out]
        refine ret_node (p := 2) rfl rfl HBU.out rfl ?_
        rw [HRES2.out]
        exact post_put HGX.out (Nat.le_of_eq HGE.out.symm) (by have := HSX.out; omega) HNE.out HSM.out HPU.out _ _ _
end Go.Proofs.Ytjcdcmeclnihbaa
