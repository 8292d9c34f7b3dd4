/- Parse: a text's expression, or what is wrong with it. Condition: macros in memory. -/
import Derived.Test.YtjcdcmeclnihbaaPc
namespace Go.Proofs.Ytjcdcmeclnihbaa
open Go.RowKit
set_option linter.unusedSimpArgs false
/-- What a text is: an expression; or where it is wrong, and why. -/
inductive Got where
  | ok (p : PT)
  | no (bad e : Int)
def parseF (ms : List (ByteArray × PT)) (s : ByteArray) : Got :=
  if 4096 < s.size then .no 0 3 else
  match pTop numB (macsOf rightP ms) (bsOf s) with
  | .no q x => .no ((s.size : Int) - (q.length : Int)) x
  | .ok t _ => if 2000 < cntP t then .no 0 3 else .ok t
def PostG (w : World) (g : Got) (e : Ending) (w' : World) : Prop :=
  Below w.heap.size w w' ∧ match g with
  | .ok p => ∃ v, e = .returned (.tuple #[v, .int .i64 0, .int .i64 0]) ∧ IsP w' (fun b => w.heap.size ≤ b) v p
  | .no bad x => x ≠ 0 ∧ e = .returned (.tuple #[nodeV, .int .i64 bad, .int .i64 x])
set_option maxRecDepth 100000 in
set_option maxHeartbeats 2000000 in
theorem parse_any {Sm : Nat → Prop} {kv : Value} {ms : List (ByteArray × PT)} {w : World} {s : ByteArray} (hms : ms.length ≤ 1000) (hk : IsMacs w Sm w.heap.size kv ms) (hSm : ∀ b, Sm b → b < w.heap.size) :
    Calls Try.prog 32 #[.string s, kv] w (PostG w (parseF ms s)) := by
  obtain ⟨X, hX⟩ : ∃ X, X = w.alloc (.cells nodeC 45) := ⟨_, rfl⟩
  have HX := hid hX
  obtain ⟨g, hg⟩ : ∃ g, g = w.heap.size := ⟨_, rfl⟩
  have HXB := hid (show X.heap[g]? = some (.cells #[.int .i64 0, .int .i64 0, .slice none 0 0] 45 (0, 0)) by rw [hg, hX]; exact heap_alloc_new _ _)
  have HGE := hid hg
  have HBX := hid (show Below w.heap.size w X by rw [hX]; exact (Below.refl _ _).alloc (Nat.le_refl _) _)
  obtain ⟨y0, y1, y2, yf⟩ := slot3 HXB.out
  have yf0 := yf 0
  have yf1 := yf 1
  have yf2 := yf 2
  clear hX hg yf
  by_cases hlong : 4096 < s.size
  · have HR := hid (show parseF ms s = .no 0 3 from if_pos hlong)
    have hl2 : (4096 : Int) < (s.size : Int) := by omega
    go_enter Try.func32, Try.ntmps32
    go_wp2_with (first
      | (refine wpList_alloc_of rfl 45 rfl (.agg nodeC) zero45 ?_; rw [show (Value.agg nodeC).cells = nodeC from rfl, ← HX.out, ← HGE.out])
      | fail)
    have hrow := Go.Proofs.Ytjcdcmeclnihbaa.put3 (.int .i64 0) (.int .i64 0) (.slice none 0 0) HXB.out
    obtain ⟨e0, e1, e2, -⟩ := slot3 hrow
    rw [HR.out]
    refine bodyPost_ret (v := .tuple #[nodeV, .int .i64 0, .int .i64 3]) (by simp [results, Try.results32, go_sem, e0, e1, e2, nodeV, nodeC]) rfl ⟨below_put3 HBX.out (Nat.le_of_eq HGE.out.symm) _ _ _, by decide, rfl⟩
  · have hl2 : ¬ (4096 : Int) < (s.size : Int) := by omega
    have hsz : s.size ≤ 100000 := by omega
    have HPF := hid (show parseF ms s = (match pTop numB (macsOf rightP ms) (bsOf s) with
      | .no q x => .no ((s.size : Int) - (q.length : Int)) x
      | .ok t _ => if 2000 < cntP t then .no 0 3 else .ok t) from if_neg hlong)
    obtain ⟨A, c, m0, m1, m2, m3, hkv, -⟩ := hk.ex
    obtain ⟨r, hr⟩ : ∃ r, r = X.heap.size := ⟨_, rfl⟩
    have HRE := hid hr
    have hXs : X.heap.size = g + 1 := by rw [HX.out, HGE.out]; simp
    have HE0 : Env Sm w r kv ms := ⟨hk, fun b hb => ⟨by have := hSm b hb; have := HGE.out; omega, hSm b hb⟩⟩
    obtain ⟨X1, hX1⟩ : ∃ Y, Y = X.alloc (.cells #[.string s, .int .i64 0, kv, .int .i64 0, .int .i64 0, .int .i64 0] 90) := ⟨_, rfl⟩
    have HX1 := hid hX1
    have HB1 := hid (show Below w.heap.size w X1 by rw [hX1]; exact HBX.out.alloc HBX.out.size _)
    have HRX := hid (show Rd X1 r s kv (0 : Nat) 0 0 0 by rw [hX1, hr]; exact heap_alloc_new _ _)
    have HE := hid (HE0.grown (grown_of_below HB1.out _))
    have HXS := hid hXs
    have HSM := hid hSm
    subst hkv
    clear hX1 hr hXs HE0 hk hSm hlong y0 y1 y2 yf0 yf1 yf2
    go_enter Try.func32, Try.ntmps32
    go_wp2_with (first
      | (refine wpList_alloc_of rfl 45 rfl (.agg nodeC) zero45 ?_; rw [show (Value.agg nodeC).cells = nodeC from rfl, ← HX.out, ← HGE.out])
      | fail)
    rw [← HRE.out, ← HX1.out]
    refine (alts20_any hms X1 r s 0 0 HRX.out HE.out (Nat.zero_le _) hsz).mono ?_
    rw [List.drop_zero]
    rintro x w2 hp
    obtain ⟨u, rfl⟩ : ∃ u, x = .returned u := ⟨_, hp.2.choose_spec.1⟩
    obtain ⟨k, c', A', n, cp, rfl⟩ := post_form hp
    obtain ⟨g2, hg2'⟩ : ∃ g2, g2 = w2.heap.size := ⟨_, rfl⟩
    have HGE2 := hid hg2'
    have hws := hp.1.size
    have HP := hid (post_box (World.grownBy.refl X1 (some r)) (Nat.le_refl _) (by have := HRX.out.lt; omega) hp (.int .i64 k) (.int .i64 c') (.slice A' n cp))
    obtain ⟨Y, hY⟩ : ∃ Y, Y = w2.alloc (.cells nodeC 45) := ⟨_, rfl⟩
    have HY := hid hY
    rw [← hg2', ← hY] at HP
    have hrl : r < X1.heap.size := HRX.out.lt
    have HNE2 := hid (show g2 ≠ r by omega)
    have HNE3 := hid (show g2 ≠ g by have := HXS.out; have := HRE.out; omega)
    have HNE := hid (show g ≠ r by have := HXS.out; have := HRE.out; omega)
    have HYB := hid (show Y.heap[g2]? = some (.cells #[.int .i64 0, .int .i64 0, .slice none 0 0] 45 (0, 0)) by rw [hg2', hY]; exact heap_alloc_new _ _)
    obtain ⟨Z, hZ⟩ : ∃ Z, Z = put3w Y g2 (.int .i64 k) (.int .i64 c') (.slice A' n cp) := ⟨_, rfl⟩
    have HZC := hid (show (((Y.setCell ⟨g2, 0, none⟩ (.int .i64 k)).setCell ⟨g2, 1, none⟩ (.int .i64 c')).setCell ⟨g2, 2, none⟩ (.slice A' n cp)) = Z from hZ.symm)
    have HZB := hid (show Z.heap[g2]? = some (.cells #[.int .i64 k, .int .i64 c', .slice A' n cp] 45 (0, 0)) by rw [hZ]; exact Go.Proofs.Ytjcdcmeclnihbaa.put3 _ _ _ HYB.out)
    rw [← hZ] at HP
    obtain ⟨hgZ, v, hv, hm⟩ := HP.out
    cases hv
    have HGZ := hid hgZ
    obtain ⟨y0, y1, y2, yf⟩ := slot3 HYB.out
    have yf0 := yf 0
    have yf1 := yf 1
    have yf2 := yf 2
    clear yf hY hg2' hws hZ hgZ hp hrl
    have n1 : g ≠ r := HNE.out
    have n2 : g2 ≠ r := HNE2.out
    have n3 : g2 ≠ g := HNE3.out
    have n4 : r ≠ g := HNE.out.symm
    have n5 : r ≠ g2 := HNE2.out.symm
    have n6 : g ≠ g2 := HNE3.out.symm
    have HOLD := hid (show ∀ Y : World, X1.grownBy Y (some r) → Y.heap[g]? = some (.cells #[.int .i64 0, .int .i64 0, .slice none 0 0] 45 (0, 0)) from fun Y hY => (hY.block g (by have := HRX.out.lt; have := HXS.out; have := HRE.out; omega) (by have := HNE.out; simpa using this)).trans (by rw [HX1.out, (((Below.refl X.heap.size X).alloc (Nat.le_refl _) _).block g (by have := HXS.out; omega))]; exact HXB.out))
    cases hres : pAlts numB (macsOf rightP ms) 20 (bsOf s) with
    | no q2 x =>
      rw [hres] at hm
      obtain ⟨hx, ⟨t, ht⟩, a', op', hr⟩ := hm
      have HRES := hid (show parseF ms s = .no ((s.size : Int) - (q2.length : Int)) x by rw [HPF.out]; unfold pTop; rw [hres])
      have HR := hid hr
      have HGW := HGZ
      have hx2 : ¬ (x : Int) = 0 := by omega
      obtain ⟨c0, c1, c2, c3, c4, c5⟩ := hr.cells
      rw [← HZC.out] at c4 c5
      clear hr ht hres c0 c1 c2 c3
      go_wp2_with (first
        | (refine wpList_alloc_of rfl 45 rfl (.agg nodeC) zero45 ?_; rw [show (Value.agg nodeC).cells = nodeC from rfl, ← HY.out, ← HGE2.out])
        | fail)
      rw [HZC.out]
      clear y0 y1 y2 yf0 yf1 yf2 c4 c5
      have HZg := hid (show Z.heap[g]? = some (.cells #[.int .i64 0, .int .i64 0, .slice none 0 0] 45 (0, 0)) from HOLD.out _ HGW.out)
      have HRF := hid (show Rd (put3w Z g (.int .i64 0) (.int .i64 0) (.slice none 0 0)) r s (.slice A ms.length c) _ _ ((s.size : Int) - (q2.length : Int)) (x : Int) from Rd.put3 (w := Z) HR.out n4 _ _ _)
      refine wp_region_held_drew (S := (fun Y => Y.cell? ⟨r, 4, none⟩ = some (.int .i64 ((s.size : Int) - (q2.length : Int))) ∧ Y.cell? ⟨r, 5, none⟩ = some (.int .i64 (x : Int)))) (by kernel_rfl) (by exact ⟨(HR.out.cells).2.2.2.2.1, (HR.out.cells).2.2.2.2.2⟩) (fun hHeld => ?_)
      refine wpAnyH_take (i := 0) (oi := { dst := some 67, op := Op.build 45 #[], type := _, pos := _, after := _, guard := none }) (v := ?_) rfl (by kernel_rfl) (by kernel_rfl) (by kernel_rfl) (fun _ _ _ h => h) (Or.inl ⟨by rfl, ?_⟩) (by assumption) ?_
      rotate_left
      · intro w hSw; (try dsimp only at hSw); go_simp; try (first | with_reducible rfl | (refine (if_pos ?_).trans ?_ <;> first | omega | with_reducible rfl))
      try simp only [Act.put, List.setIfInBounds_toArray, List.set_cons_zero, List.set_cons_succ]
      refine wpAnyH_take (i := 1) (oi := { dst := some 68, op := Op.move (Operand.tmp 7), type := _, pos := _, after := _, guard := none }) (v := ?_) rfl (by kernel_rfl) (by kernel_rfl) (by kernel_rfl) (fun _ _ _ h => h) (Or.inl ⟨by rfl, ?_⟩) (by assumption) ?_
      rotate_left
      · intro w hSw; (try dsimp only at hSw); go_simp; try (first | with_reducible rfl | (refine (if_pos ?_).trans ?_ <;> first | omega | with_reducible rfl))
      try simp only [Act.put, List.setIfInBounds_toArray, List.set_cons_zero, List.set_cons_succ]
      refine wpAnyH_take (i := 2) (oi := { dst := some 69, op := Op.nilCheck (Operand.tmp 68), type := _, pos := _, after := _, guard := none }) (v := ?_) rfl (by kernel_rfl) (by kernel_rfl) (by kernel_rfl) (fun _ _ _ h => h) (Or.inl ⟨by rfl, ?_⟩) (by assumption) ?_
      rotate_left
      · intro w hSw; (try dsimp only at hSw); go_simp; try (first | with_reducible rfl | (refine (if_pos ?_).trans ?_ <;> first | omega | with_reducible rfl))
      try simp only [Act.put, List.setIfInBounds_toArray, List.set_cons_zero, List.set_cons_succ]
      refine wpAnyH_take (i := 3) (oi := { dst := some 70, op := Op.fieldAddr 90 (Operand.tmp 69) 3, type := _, pos := _, after := _, guard := none }) (v := ?_) rfl (by kernel_rfl) (by kernel_rfl) (by kernel_rfl) (fun _ _ _ h => h) (Or.inl ⟨by rfl, ?_⟩) (by assumption) ?_
      rotate_left
      · intro w hSw; (try dsimp only at hSw); go_simp; try (first | with_reducible rfl | (refine (if_pos ?_).trans ?_ <;> first | omega | with_reducible rfl))
      try simp only [Act.put, List.setIfInBounds_toArray, List.set_cons_zero, List.set_cons_succ]
      refine wpAnyH_take (i := 4) (oi := { dst := some 71, op := Op.load 3 (Operand.tmp 70), type := _, pos := _, after := _, guard := none }) (v := ?_) rfl (by kernel_rfl) (by kernel_rfl) (by kernel_rfl) (fun _ _ _ h => h) (Or.inl ⟨by rfl, ?_⟩) (by assumption) ?_
      rotate_left
      · intro w hSw; (try dsimp only at hSw); go_simp; try (first | with_reducible rfl | (refine (if_pos ?_).trans ?_ <;> first | omega | with_reducible rfl))
      try simp only [Act.put, List.setIfInBounds_toArray, List.set_cons_zero, List.set_cons_succ]
      refine wpAnyH_take (i := 5) (oi := { dst := some 72, op := Op.move (Operand.tmp 7), type := _, pos := _, after := _, guard := none }) (v := ?_) rfl (by kernel_rfl) (by kernel_rfl) (by kernel_rfl) (fun _ _ _ h => h) (Or.inl ⟨by rfl, ?_⟩) (by assumption) ?_
      rotate_left
      · intro w hSw; (try dsimp only at hSw); go_simp; try (first | with_reducible rfl | (refine (if_pos ?_).trans ?_ <;> first | omega | with_reducible rfl))
      try simp only [Act.put, List.setIfInBounds_toArray, List.set_cons_zero, List.set_cons_succ]
      refine wpAnyH_take (i := 6) (oi := { dst := some 73, op := Op.nilCheck (Operand.tmp 72), type := _, pos := _, after := _, guard := none }) (v := ?_) rfl (by kernel_rfl) (by kernel_rfl) (by kernel_rfl) (fun _ _ _ h => h) (Or.inl ⟨by rfl, ?_⟩) (by assumption) ?_
      rotate_left
      · intro w hSw; (try dsimp only at hSw); go_simp; try (first | with_reducible rfl | (refine (if_pos ?_).trans ?_ <;> first | omega | with_reducible rfl))
      try simp only [Act.put, List.setIfInBounds_toArray, List.set_cons_zero, List.set_cons_succ]
      refine wpAnyH_take (i := 7) (oi := { dst := some 74, op := Op.fieldAddr 90 (Operand.tmp 73) 4, type := _, pos := _, after := _, guard := none }) (v := ?_) rfl (by kernel_rfl) (by kernel_rfl) (by kernel_rfl) (fun _ _ _ h => h) (Or.inl ⟨by rfl, ?_⟩) (by assumption) ?_
      rotate_left
      · intro w hSw; (try dsimp only at hSw); go_simp; try (first | with_reducible rfl | (refine (if_pos ?_).trans ?_ <;> first | omega | with_reducible rfl))
      try simp only [Act.put, List.setIfInBounds_toArray, List.set_cons_zero, List.set_cons_succ]
      refine wpAnyH_take (i := 8) (oi := { dst := some 75, op := Op.load 60 (Operand.tmp 74), type := _, pos := _, after := _, guard := none }) (v := ?_) rfl (by kernel_rfl) (by kernel_rfl) (by kernel_rfl) (fun _ _ _ h => h) (Or.inl ⟨by rfl, ?_⟩) (by assumption) ?_
      rotate_left
      · intro w hSw; (try dsimp only at hSw); go_simp; try (first | with_reducible rfl | (refine (if_pos ?_).trans ?_ <;> first | omega | with_reducible rfl))
      try simp only [Act.put, List.setIfInBounds_toArray, List.set_cons_zero, List.set_cons_succ]
      refine wpAnyH_ready (rs := [9]) (by kernel_rfl) (by simp) ?_
      refine AllReadyH.cons (o := { dst := none, op := Op.store 45 (Operand.tmp 4) (Operand.tmp 67), type := _, pos := _, after := _, guard := none }) rfl (fun K hK => ?_) AllReadyH.nil
      have hZg := HZg.out
      obtain ⟨u0, u1, u2, uf⟩ := slot3 hZg
      have uf0 := uf 0
      have uf1 := uf 1
      have uf2 := uf 2
      clear uf hZg
      rw [if_pos (by rfl)]
      go_simp
      refine hK.out _ _ (by exact ⟨(HRF.out.cells).2.2.2.2.1, (HRF.out.cells).2.2.2.2.2⟩) (fun hHeld => ?_)
      clear hK K
      try simp only [Act.put, List.setIfInBounds_toArray, List.set_cons_zero, List.set_cons_succ]
      refine wpAnyH_take (i := 10) (oi := { dst := some 5, op := Op.assign (Operand.tmp 71), type := _, pos := _, after := _, guard := none }) (v := ?_) rfl (by kernel_rfl) (by kernel_rfl) (by kernel_rfl) (fun _ _ _ h => h) (Or.inl ⟨by rfl, ?_⟩) (by assumption) ?_
      rotate_left
      · intro w hSw; (try dsimp only at hSw); go_simp; try (first | with_reducible rfl | (refine (if_pos ?_).trans ?_ <;> first | omega | with_reducible rfl))
      try simp only [Act.put, List.setIfInBounds_toArray, List.set_cons_zero, List.set_cons_succ]
      refine wpAnyH_take (i := 11) (oi := { dst := some 6, op := Op.assign (Operand.tmp 75), type := _, pos := _, after := _, guard := none }) (v := ?_) rfl (by kernel_rfl) (by kernel_rfl) (by kernel_rfl) (fun _ _ _ h => h) (Or.inl ⟨by rfl, ?_⟩) (by assumption) ?_
      rotate_left
      · intro w hSw; (try dsimp only at hSw); go_simp; try (first | with_reducible rfl | (refine (if_pos ?_).trans ?_ <;> first | omega | with_reducible rfl))
      try simp only [Act.put, List.setIfInBounds_toArray, List.set_cons_zero, List.set_cons_succ]
      refine wpAnyH_done (by kernel_rfl) ?_ _
      have hrow := Go.Proofs.Ytjcdcmeclnihbaa.put3 (.int .i64 0) (.int .i64 0) (.slice none 0 0) HZg.out
      obtain ⟨e0, e1, e2, -⟩ := slot3 hrow
      go_wp2_with fail
      rw [HRES.out]
      refine bodyPost_ret (v := .tuple #[nodeV, .int .i64 ((s.size : Int) - (q2.length : Int)), .int .i64 (x : Int)]) (by simp [results, Try.results32, go_sem, e0, e1, e2, nodeV, nodeC]) rfl ⟨?_, by simpa using hx2, rfl⟩
      exact (below_put3 (HB1.out.grown HGW.out HB1.out.size (fun k e => by injection e with e; have := HRE.out; have := HXS.out; have := HGE.out; omega)) (Nat.le_of_eq HGE.out.symm) _ _ _).drew
    | ok t q2 =>
      rw [hres] at hm
      obtain ⟨ht, a2, ha2, hd2, hr⟩ := hm
      have HR0 := hid hr
      have HT := hid ht
      have HD2 := hid hd2
      have HRES0 := hid (show parseF ms s = (if skip q2 = [] then (if 2000 < cntP t then .no 0 3 else .ok t) else .no ((s.size : Int) - ((skip q2).length : Int)) 4) by
        rw [HPF.out]; unfold pTop; rw [hres]
        by_cases hs0 : skip q2 = []
        · simp [hs0]
        · simp [hs0])
      obtain ⟨c0, c1, c2, c3, c4, c5⟩ := hr.cells
      rw [← HZC.out] at c5
      clear hr ht hres hd2 c0 c1 c2 c3 c4
      go_wp2_with (first
        | (refine wpList_alloc_of rfl 45 rfl (.agg nodeC) zero45 ?_; rw [show (Value.agg nodeC).cells = nodeC from rfl, ← HY.out, ← HGE2.out])
        | fail)
      rw [HZC.out]
      refine (peek_any a2 HR0.out ha2 hsz).mono ?_
      rintro x w3 ⟨rfl, hcb, a3, ha3, ha4, hd3, hr3, hg3⟩
      rw [HD2.out] at hcb hd3
      rw [HD2.out]
      have HR3 := hid hr3
      have HG3 := hid (HGZ.out.trans hg3)
      have HZ3 := hid (show w3.heap[g2]? = some (.cells #[.int .i64 k, .int .i64 c', .slice A' n cp] 45 (0, 0)) from (hg3.block g2 (Array.getElem?_eq_some_iff.1 HZB.out).1 (by have := HNE2.out; intro e; injection e with e; exact this e)).trans HZB.out)
      have HGL := hid (show g2 < w3.heap.size from (Array.getElem?_eq_some_iff.1 HZ3.out).1)
      have HT3 := hid (HT.out.grown (r := r) (fun b hb => hb.elim (fun h => (HE.out.off b h).1) fun h => by have := HRX.out.lt; omega) hg3)
      have HD3 := hid hd3
      have hat := drop_at ha4 hd3
      clear hr3 hg3 c5 y0 y1 y2 yf0 yf1 yf2
      obtain ⟨c0, c1, c2, c3, c4, c5⟩ := HR3.out.cells
      have f1 := HR3.out.frozen 1
      have f3 := HR3.out.frozen 3
      by_cases h0 : hd (skip q2) = 0
      · have h0b : ((hd (skip q2) : Nat) : Int) = 0 := by rw [h0]; rfl
        by_cases hnil : skip q2 = []
        · have HRES1 := hid (HRES0.out.trans (if_pos hnil))
          have hat2 : ¬ (a3 : Int) < (s.size : Int) := by rw [hnil] at hat; simp at hat; omega
          obtain ⟨z0, z1, z2, zf⟩ := slot3 HZ3.out
          clear zf hat hnil h0 hd3
          go_wp2_with fail
          refine (sizeP_any HT3.out).mono ?_
          rintro x w6 ⟨m, rfl, hm2, hb6⟩
          have HB6 := hid hb6
          have HT6 := hid (HT3.out.below hb6)
          have HG6 := hid (HG3.out.trans (grown_of_below hb6 (some r)))
          have HZ6 := hid (show w6.heap[g2]? = some (.cells #[.int .i64 k, .int .i64 c', .slice A' n cp] 45 (0, 0)) from (hb6.block g2 HGL.out).trans HZ3.out)
          have HZg := hid (HOLD.out w6 HG6.out)
          have HBW := hid (show Below w.heap.size w w6 from HB1.out.grown HG6.out HB1.out.size (fun k e => by injection e with e; have := HRE.out; have := HXS.out; have := HGE.out; omega))
          obtain ⟨z0, z1, z2, zf⟩ := slot3 HZ6.out
          obtain ⟨u0, u1, u2, uf⟩ := slot3 HZg.out
          have uf0 := uf 0
          have uf1 := uf 1
          have uf2 := uf 2
          clear hb6 zf uf c0 c1 c2 c3 c4 c5 f1 f3
          by_cases hbig : 2000 < cntP t
          · have hm3 : ¬ m ≤ 2000 := fun h => by have := hm2.1 h; omega
            have hm4 : (2000 : Int) < m := by omega
            have HRES := hid (HRES1.out.trans (if_pos hbig))
            clear hm2 hm3 hbig
            go_wp2_with fail
            have hrow := Go.Proofs.Ytjcdcmeclnihbaa.put3 (.int .i64 0) (.int .i64 0) (.slice none 0 0) HZg.out
            obtain ⟨e0, e1, e2, -⟩ := slot3 hrow
            rw [HRES.out]
            exact bodyPost_ret (v := .tuple #[nodeV, .int .i64 0, .int .i64 3]) (by simp [results, Try.results32, go_sem, e0, e1, e2, nodeV, nodeC]) rfl ⟨below_put3 HBW.out (Nat.le_of_eq HGE.out.symm) _ _ _, by decide, rfl⟩
          · have hm4 : ¬ (2000 : Int) < m := by have := hm2.2 (by omega); omega
            have HRES := hid (HRES1.out.trans (if_neg hbig))
            have hcnt : cntP t ≤ 2000 := by omega
            clear hm2 hbig
            go_wp2_with fail
            refine (cloneP_any HT6.out hcnt).mono ?_
            rintro x w7 ⟨v', rfl, hb7, ht7⟩
            obtain ⟨A7, c7, hv7⟩ := ht7.form
            obtain ⟨k7, hk7⟩ : ∃ k7, k7 = t.kind := ⟨_, rfl⟩
            obtain ⟨l7, hl7⟩ : ∃ l7, l7 = t.cls := ⟨_, rfl⟩
            obtain ⟨n7, hn7⟩ : ∃ n7, n7 = t.kids.length := ⟨_, rfl⟩
            rw [← hk7, ← hl7, ← hn7] at hv7
            subst hv7
            have HT7 := hid ht7
            have HGL6 := hid (show g < w6.heap.size from (Array.getElem?_eq_some_iff.1 HZg.out).1)
            have HZg7 := hid ((hb7.block g HGL6.out).trans HZg.out)
            have HB7 := hid (show Below w.heap.size w w7 from HBW.out.trans (hb7.mono HBW.out.size))
            have HS7 := hid hb7.size
            obtain ⟨u0, u1, u2, uf⟩ := slot3 HZg7.out
            have uf0 := uf 0
            have uf1 := uf 1
            have uf2 := uf 2
            clear hb7 ht7 hk7 hl7 hn7 z0 z1 z2 uf
            go_wp2_with fail
            have hrow := Go.Proofs.Ytjcdcmeclnihbaa.put3 (.int .i64 k7) (.int .i64 l7) (.slice A7 n7 c7) HZg7.out
            obtain ⟨e0, e1, e2, -⟩ := slot3 hrow
            rw [HRES.out]
            refine bodyPost_ret (v := .tuple #[.agg #[.int .i64 k7, .int .i64 l7, .slice A7 n7 c7], .int .i64 0, .int .i64 0]) (by simp [results, Try.results32, go_sem, e0, e1, e2]) rfl ⟨below_put3 HB7.out (Nat.le_of_eq HGE.out.symm) _ _ _, _, rfl, ?_⟩
            exact (HT7.out.put3 (g := g) (fun b hb => by have := HGL6.out; omega) _ _ _).mono fun b hb _ => Nat.le_trans HBW.out.size hb
        · have HRES := hid (show parseF ms s = .no (a3 : Int) 4 by rw [HRES0.out, if_neg hnil, hat])
          have hat2 : (a3 : Int) < (s.size : Int) := by
            have : 0 < (skip q2).length := List.length_pos_iff.2 hnil
            omega
          clear hat hnil h0 hd3
          go_wp2_with fail
          refine (fail_any (a3 : Int) 4 HR3.out).mono ?_
          rintro x w5 ⟨rfl, hr5, hg5⟩
          have HR := hid hr5
          have HGW := hid (HG3.out.trans hg5)
          have hx2 : ¬ (4 : Int) = 0 := by decide
          clear hr5 hg5 c0 c1 c2 c3 c4 c5 f1 f3
          have c5 := HR.out.cells.2.2.2.2.2
          go_wp2_with fail
          clear c5
          have HZg := hid (show w5.heap[g]? = some (.cells #[.int .i64 0, .int .i64 0, .slice none 0 0] 45 (0, 0)) from HOLD.out _ HGW.out)
          have HRF := hid (show Rd (put3w w5 g (.int .i64 0) (.int .i64 0) (.slice none 0 0)) r s (.slice A ms.length c) _ _ ((a3 : Int)) 4 from Rd.put3 (w := w5) HR.out n4 _ _ _)
          refine wp_region_held_drew (S := (fun Y => Y.cell? ⟨r, 4, none⟩ = some (.int .i64 ((a3 : Int))) ∧ Y.cell? ⟨r, 5, none⟩ = some (.int .i64 4))) (by kernel_rfl) (by exact ⟨(HR.out.cells).2.2.2.2.1, (HR.out.cells).2.2.2.2.2⟩) (fun hHeld => ?_)
          refine wpAnyH_take (i := 0) (oi := { dst := some 67, op := Op.build 45 #[], type := _, pos := _, after := _, guard := none }) (v := ?_) rfl (by kernel_rfl) (by kernel_rfl) (by kernel_rfl) (fun _ _ _ h => h) (Or.inl ⟨by rfl, ?_⟩) (by assumption) ?_
          rotate_left
          · intro w hSw; (try dsimp only at hSw); go_simp; try (first | with_reducible rfl | (refine (if_pos ?_).trans ?_ <;> first | omega | with_reducible rfl))
          try simp only [Act.put, List.setIfInBounds_toArray, List.set_cons_zero, List.set_cons_succ]
          refine wpAnyH_take (i := 1) (oi := { dst := some 68, op := Op.move (Operand.tmp 7), type := _, pos := _, after := _, guard := none }) (v := ?_) rfl (by kernel_rfl) (by kernel_rfl) (by kernel_rfl) (fun _ _ _ h => h) (Or.inl ⟨by rfl, ?_⟩) (by assumption) ?_
          rotate_left
          · intro w hSw; (try dsimp only at hSw); go_simp; try (first | with_reducible rfl | (refine (if_pos ?_).trans ?_ <;> first | omega | with_reducible rfl))
          try simp only [Act.put, List.setIfInBounds_toArray, List.set_cons_zero, List.set_cons_succ]
          refine wpAnyH_take (i := 2) (oi := { dst := some 69, op := Op.nilCheck (Operand.tmp 68), type := _, pos := _, after := _, guard := none }) (v := ?_) rfl (by kernel_rfl) (by kernel_rfl) (by kernel_rfl) (fun _ _ _ h => h) (Or.inl ⟨by rfl, ?_⟩) (by assumption) ?_
          rotate_left
          · intro w hSw; (try dsimp only at hSw); go_simp; try (first | with_reducible rfl | (refine (if_pos ?_).trans ?_ <;> first | omega | with_reducible rfl))
          try simp only [Act.put, List.setIfInBounds_toArray, List.set_cons_zero, List.set_cons_succ]
          refine wpAnyH_take (i := 3) (oi := { dst := some 70, op := Op.fieldAddr 90 (Operand.tmp 69) 3, type := _, pos := _, after := _, guard := none }) (v := ?_) rfl (by kernel_rfl) (by kernel_rfl) (by kernel_rfl) (fun _ _ _ h => h) (Or.inl ⟨by rfl, ?_⟩) (by assumption) ?_
          rotate_left
          · intro w hSw; (try dsimp only at hSw); go_simp; try (first | with_reducible rfl | (refine (if_pos ?_).trans ?_ <;> first | omega | with_reducible rfl))
          try simp only [Act.put, List.setIfInBounds_toArray, List.set_cons_zero, List.set_cons_succ]
          refine wpAnyH_take (i := 4) (oi := { dst := some 71, op := Op.load 3 (Operand.tmp 70), type := _, pos := _, after := _, guard := none }) (v := ?_) rfl (by kernel_rfl) (by kernel_rfl) (by kernel_rfl) (fun _ _ _ h => h) (Or.inl ⟨by rfl, ?_⟩) (by assumption) ?_
          rotate_left
          · intro w hSw; (try dsimp only at hSw); go_simp; try (first | with_reducible rfl | (refine (if_pos ?_).trans ?_ <;> first | omega | with_reducible rfl))
          try simp only [Act.put, List.setIfInBounds_toArray, List.set_cons_zero, List.set_cons_succ]
          refine wpAnyH_take (i := 5) (oi := { dst := some 72, op := Op.move (Operand.tmp 7), type := _, pos := _, after := _, guard := none }) (v := ?_) rfl (by kernel_rfl) (by kernel_rfl) (by kernel_rfl) (fun _ _ _ h => h) (Or.inl ⟨by rfl, ?_⟩) (by assumption) ?_
          rotate_left
          · intro w hSw; (try dsimp only at hSw); go_simp; try (first | with_reducible rfl | (refine (if_pos ?_).trans ?_ <;> first | omega | with_reducible rfl))
          try simp only [Act.put, List.setIfInBounds_toArray, List.set_cons_zero, List.set_cons_succ]
          refine wpAnyH_take (i := 6) (oi := { dst := some 73, op := Op.nilCheck (Operand.tmp 72), type := _, pos := _, after := _, guard := none }) (v := ?_) rfl (by kernel_rfl) (by kernel_rfl) (by kernel_rfl) (fun _ _ _ h => h) (Or.inl ⟨by rfl, ?_⟩) (by assumption) ?_
          rotate_left
          · intro w hSw; (try dsimp only at hSw); go_simp; try (first | with_reducible rfl | (refine (if_pos ?_).trans ?_ <;> first | omega | with_reducible rfl))
          try simp only [Act.put, List.setIfInBounds_toArray, List.set_cons_zero, List.set_cons_succ]
          refine wpAnyH_take (i := 7) (oi := { dst := some 74, op := Op.fieldAddr 90 (Operand.tmp 73) 4, type := _, pos := _, after := _, guard := none }) (v := ?_) rfl (by kernel_rfl) (by kernel_rfl) (by kernel_rfl) (fun _ _ _ h => h) (Or.inl ⟨by rfl, ?_⟩) (by assumption) ?_
          rotate_left
          · intro w hSw; (try dsimp only at hSw); go_simp; try (first | with_reducible rfl | (refine (if_pos ?_).trans ?_ <;> first | omega | with_reducible rfl))
          try simp only [Act.put, List.setIfInBounds_toArray, List.set_cons_zero, List.set_cons_succ]
          refine wpAnyH_take (i := 8) (oi := { dst := some 75, op := Op.load 60 (Operand.tmp 74), type := _, pos := _, after := _, guard := none }) (v := ?_) rfl (by kernel_rfl) (by kernel_rfl) (by kernel_rfl) (fun _ _ _ h => h) (Or.inl ⟨by rfl, ?_⟩) (by assumption) ?_
          rotate_left
          · intro w hSw; (try dsimp only at hSw); go_simp; try (first | with_reducible rfl | (refine (if_pos ?_).trans ?_ <;> first | omega | with_reducible rfl))
          try simp only [Act.put, List.setIfInBounds_toArray, List.set_cons_zero, List.set_cons_succ]
          refine wpAnyH_ready (rs := [9]) (by kernel_rfl) (by simp) ?_
          refine AllReadyH.cons (o := { dst := none, op := Op.store 45 (Operand.tmp 4) (Operand.tmp 67), type := _, pos := _, after := _, guard := none }) rfl (fun K hK => ?_) AllReadyH.nil
          have hZg := HZg.out
          obtain ⟨u0, u1, u2, uf⟩ := slot3 hZg
          have uf0 := uf 0
          have uf1 := uf 1
          have uf2 := uf 2
          clear uf hZg
          rw [if_pos (by rfl)]
          go_simp
          refine hK.out _ _ (by exact ⟨(HRF.out.cells).2.2.2.2.1, (HRF.out.cells).2.2.2.2.2⟩) (fun hHeld => ?_)
          clear hK K
          try simp only [Act.put, List.setIfInBounds_toArray, List.set_cons_zero, List.set_cons_succ]
          refine wpAnyH_take (i := 10) (oi := { dst := some 5, op := Op.assign (Operand.tmp 71), type := _, pos := _, after := _, guard := none }) (v := ?_) rfl (by kernel_rfl) (by kernel_rfl) (by kernel_rfl) (fun _ _ _ h => h) (Or.inl ⟨by rfl, ?_⟩) (by assumption) ?_
          rotate_left
          · intro w hSw; (try dsimp only at hSw); go_simp; try (first | with_reducible rfl | (refine (if_pos ?_).trans ?_ <;> first | omega | with_reducible rfl))
          try simp only [Act.put, List.setIfInBounds_toArray, List.set_cons_zero, List.set_cons_succ]
          refine wpAnyH_take (i := 11) (oi := { dst := some 6, op := Op.assign (Operand.tmp 75), type := _, pos := _, after := _, guard := none }) (v := ?_) rfl (by kernel_rfl) (by kernel_rfl) (by kernel_rfl) (fun _ _ _ h => h) (Or.inl ⟨by rfl, ?_⟩) (by assumption) ?_
          rotate_left
          · intro w hSw; (try dsimp only at hSw); go_simp; try (first | with_reducible rfl | (refine (if_pos ?_).trans ?_ <;> first | omega | with_reducible rfl))
          try simp only [Act.put, List.setIfInBounds_toArray, List.set_cons_zero, List.set_cons_succ]
          refine wpAnyH_done (by kernel_rfl) ?_ _
          have hrow := Go.Proofs.Ytjcdcmeclnihbaa.put3 (.int .i64 0) (.int .i64 0) (.slice none 0 0) HZg.out
          obtain ⟨e0, e1, e2, -⟩ := slot3 hrow
          go_wp2_with fail
          rw [HRES.out]
          refine bodyPost_ret (v := .tuple #[nodeV, .int .i64 ((a3 : Int)), .int .i64 4]) (by simp [results, Try.results32, go_sem, e0, e1, e2, nodeV, nodeC]) rfl ⟨?_, by decide, rfl⟩
          exact (below_put3 (HB1.out.grown HGW.out HB1.out.size (fun k e => by injection e with e; have := HRE.out; have := HXS.out; have := HGE.out; omega)) (Nat.le_of_eq HGE.out.symm) _ _ _).drew
      · have hnil : ¬ skip q2 = [] := fun e => h0 (by rw [e]; rfl)
        have HRES := hid (show parseF ms s = .no (a3 : Int) 4 by rw [HRES0.out, if_neg hnil, hat])
        have h0b : ¬ ((hd (skip q2) : Nat) : Int) = 0 := by omega
        clear hat hnil h0 hd3
        go_wp2_with fail
        refine (fail_any (a3 : Int) 4 HR3.out).mono ?_
        rintro x w5 ⟨rfl, hr5, hg5⟩
        have HR := hid hr5
        have HGW := hid (HG3.out.trans hg5)
        have hx2 : ¬ (4 : Int) = 0 := by decide
        clear hr5 hg5 c0 c1 c2 c3 c4 c5 f1 f3
        have c5 := HR.out.cells.2.2.2.2.2
        go_wp2_with fail
        clear c5
        have HZg := hid (show w5.heap[g]? = some (.cells #[.int .i64 0, .int .i64 0, .slice none 0 0] 45 (0, 0)) from HOLD.out _ HGW.out)
        have HRF := hid (show Rd (put3w w5 g (.int .i64 0) (.int .i64 0) (.slice none 0 0)) r s (.slice A ms.length c) _ _ ((a3 : Int)) 4 from Rd.put3 (w := w5) HR.out n4 _ _ _)
        refine wp_region_held_drew (S := (fun Y => Y.cell? ⟨r, 4, none⟩ = some (.int .i64 ((a3 : Int))) ∧ Y.cell? ⟨r, 5, none⟩ = some (.int .i64 4))) (by kernel_rfl) (by exact ⟨(HR.out.cells).2.2.2.2.1, (HR.out.cells).2.2.2.2.2⟩) (fun hHeld => ?_)
        refine wpAnyH_take (i := 0) (oi := { dst := some 67, op := Op.build 45 #[], type := _, pos := _, after := _, guard := none }) (v := ?_) rfl (by kernel_rfl) (by kernel_rfl) (by kernel_rfl) (fun _ _ _ h => h) (Or.inl ⟨by rfl, ?_⟩) (by assumption) ?_
        rotate_left
        · intro w hSw; (try dsimp only at hSw); go_simp; try (first | with_reducible rfl | (refine (if_pos ?_).trans ?_ <;> first | omega | with_reducible rfl))
        try simp only [Act.put, List.setIfInBounds_toArray, List.set_cons_zero, List.set_cons_succ]
        refine wpAnyH_take (i := 1) (oi := { dst := some 68, op := Op.move (Operand.tmp 7), type := _, pos := _, after := _, guard := none }) (v := ?_) rfl (by kernel_rfl) (by kernel_rfl) (by kernel_rfl) (fun _ _ _ h => h) (Or.inl ⟨by rfl, ?_⟩) (by assumption) ?_
        rotate_left
        · intro w hSw; (try dsimp only at hSw); go_simp; try (first | with_reducible rfl | (refine (if_pos ?_).trans ?_ <;> first | omega | with_reducible rfl))
        try simp only [Act.put, List.setIfInBounds_toArray, List.set_cons_zero, List.set_cons_succ]
        refine wpAnyH_take (i := 2) (oi := { dst := some 69, op := Op.nilCheck (Operand.tmp 68), type := _, pos := _, after := _, guard := none }) (v := ?_) rfl (by kernel_rfl) (by kernel_rfl) (by kernel_rfl) (fun _ _ _ h => h) (Or.inl ⟨by rfl, ?_⟩) (by assumption) ?_
        rotate_left
        · intro w hSw; (try dsimp only at hSw); go_simp; try (first | with_reducible rfl | (refine (if_pos ?_).trans ?_ <;> first | omega | with_reducible rfl))
        try simp only [Act.put, List.setIfInBounds_toArray, List.set_cons_zero, List.set_cons_succ]
        refine wpAnyH_take (i := 3) (oi := { dst := some 70, op := Op.fieldAddr 90 (Operand.tmp 69) 3, type := _, pos := _, after := _, guard := none }) (v := ?_) rfl (by kernel_rfl) (by kernel_rfl) (by kernel_rfl) (fun _ _ _ h => h) (Or.inl ⟨by rfl, ?_⟩) (by assumption) ?_
        rotate_left
        · intro w hSw; (try dsimp only at hSw); go_simp; try (first | with_reducible rfl | (refine (if_pos ?_).trans ?_ <;> first | omega | with_reducible rfl))
        try simp only [Act.put, List.setIfInBounds_toArray, List.set_cons_zero, List.set_cons_succ]
        refine wpAnyH_take (i := 4) (oi := { dst := some 71, op := Op.load 3 (Operand.tmp 70), type := _, pos := _, after := _, guard := none }) (v := ?_) rfl (by kernel_rfl) (by kernel_rfl) (by kernel_rfl) (fun _ _ _ h => h) (Or.inl ⟨by rfl, ?_⟩) (by assumption) ?_
        rotate_left
        · intro w hSw; (try dsimp only at hSw); go_simp; try (first | with_reducible rfl | (refine (if_pos ?_).trans ?_ <;> first | omega | with_reducible rfl))
        try simp only [Act.put, List.setIfInBounds_toArray, List.set_cons_zero, List.set_cons_succ]
        refine wpAnyH_take (i := 5) (oi := { dst := some 72, op := Op.move (Operand.tmp 7), type := _, pos := _, after := _, guard := none }) (v := ?_) rfl (by kernel_rfl) (by kernel_rfl) (by kernel_rfl) (fun _ _ _ h => h) (Or.inl ⟨by rfl, ?_⟩) (by assumption) ?_
        rotate_left
        · intro w hSw; (try dsimp only at hSw); go_simp; try (first | with_reducible rfl | (refine (if_pos ?_).trans ?_ <;> first | omega | with_reducible rfl))
        try simp only [Act.put, List.setIfInBounds_toArray, List.set_cons_zero, List.set_cons_succ]
        refine wpAnyH_take (i := 6) (oi := { dst := some 73, op := Op.nilCheck (Operand.tmp 72), type := _, pos := _, after := _, guard := none }) (v := ?_) rfl (by kernel_rfl) (by kernel_rfl) (by kernel_rfl) (fun _ _ _ h => h) (Or.inl ⟨by rfl, ?_⟩) (by assumption) ?_
        rotate_left
        · intro w hSw; (try dsimp only at hSw); go_simp; try (first | with_reducible rfl | (refine (if_pos ?_).trans ?_ <;> first | omega | with_reducible rfl))
        try simp only [Act.put, List.setIfInBounds_toArray, List.set_cons_zero, List.set_cons_succ]
        refine wpAnyH_take (i := 7) (oi := { dst := some 74, op := Op.fieldAddr 90 (Operand.tmp 73) 4, type := _, pos := _, after := _, guard := none }) (v := ?_) rfl (by kernel_rfl) (by kernel_rfl) (by kernel_rfl) (fun _ _ _ h => h) (Or.inl ⟨by rfl, ?_⟩) (by assumption) ?_
        rotate_left
        · intro w hSw; (try dsimp only at hSw); go_simp; try (first | with_reducible rfl | (refine (if_pos ?_).trans ?_ <;> first | omega | with_reducible rfl))
        try simp only [Act.put, List.setIfInBounds_toArray, List.set_cons_zero, List.set_cons_succ]
        refine wpAnyH_take (i := 8) (oi := { dst := some 75, op := Op.load 60 (Operand.tmp 74), type := _, pos := _, after := _, guard := none }) (v := ?_) rfl (by kernel_rfl) (by kernel_rfl) (by kernel_rfl) (fun _ _ _ h => h) (Or.inl ⟨by rfl, ?_⟩) (by assumption) ?_
        rotate_left
        · intro w hSw; (try dsimp only at hSw); go_simp; try (first | with_reducible rfl | (refine (if_pos ?_).trans ?_ <;> first | omega | with_reducible rfl))
        try simp only [Act.put, List.setIfInBounds_toArray, List.set_cons_zero, List.set_cons_succ]
        refine wpAnyH_ready (rs := [9]) (by kernel_rfl) (by simp) ?_
        refine AllReadyH.cons (o := { dst := none, op := Op.store 45 (Operand.tmp 4) (Operand.tmp 67), type := _, pos := _, after := _, guard := none }) rfl (fun K hK => ?_) AllReadyH.nil
        have hZg := HZg.out
        obtain ⟨u0, u1, u2, uf⟩ := slot3 hZg
        have uf0 := uf 0
        have uf1 := uf 1
        have uf2 := uf 2
        clear uf hZg
        rw [if_pos (by rfl)]
        go_simp
        refine hK.out _ _ (by exact ⟨(HRF.out.cells).2.2.2.2.1, (HRF.out.cells).2.2.2.2.2⟩) (fun hHeld => ?_)
        clear hK K
        try simp only [Act.put, List.setIfInBounds_toArray, List.set_cons_zero, List.set_cons_succ]
        refine wpAnyH_take (i := 10) (oi := { dst := some 5, op := Op.assign (Operand.tmp 71), type := _, pos := _, after := _, guard := none }) (v := ?_) rfl (by kernel_rfl) (by kernel_rfl) (by kernel_rfl) (fun _ _ _ h => h) (Or.inl ⟨by rfl, ?_⟩) (by assumption) ?_
        rotate_left
        · intro w hSw; (try dsimp only at hSw); go_simp; try (first | with_reducible rfl | (refine (if_pos ?_).trans ?_ <;> first | omega | with_reducible rfl))
        try simp only [Act.put, List.setIfInBounds_toArray, List.set_cons_zero, List.set_cons_succ]
        refine wpAnyH_take (i := 11) (oi := { dst := some 6, op := Op.assign (Operand.tmp 75), type := _, pos := _, after := _, guard := none }) (v := ?_) rfl (by kernel_rfl) (by kernel_rfl) (by kernel_rfl) (fun _ _ _ h => h) (Or.inl ⟨by rfl, ?_⟩) (by assumption) ?_
        rotate_left
        · intro w hSw; (try dsimp only at hSw); go_simp; try (first | with_reducible rfl | (refine (if_pos ?_).trans ?_ <;> first | omega | with_reducible rfl))
        try simp only [Act.put, List.setIfInBounds_toArray, List.set_cons_zero, List.set_cons_succ]
        refine wpAnyH_done (by kernel_rfl) ?_ _
        have hrow := Go.Proofs.Ytjcdcmeclnihbaa.put3 (.int .i64 0) (.int .i64 0) (.slice none 0 0) HZg.out
        obtain ⟨e0, e1, e2, -⟩ := slot3 hrow
        go_wp2_with fail
        rw [HRES.out]
        refine bodyPost_ret (v := .tuple #[nodeV, .int .i64 ((a3 : Int)), .int .i64 4]) (by simp [results, Try.results32, go_sem, e0, e1, e2, nodeV, nodeC]) rfl ⟨?_, by decide, rfl⟩
        exact (below_put3 (HB1.out.grown HGW.out HB1.out.size (fun k e => by injection e with e; have := HRE.out; have := HXS.out; have := HGE.out; omega)) (Nat.le_of_eq HGE.out.symm) _ _ _).drew
end Go.Proofs.Ytjcdcmeclnihbaa
