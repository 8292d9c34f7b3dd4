/- What is to do, taken: the walk. No conditions. -/
import Derived.Test.YtmdkmobcglnmgaaTu
import Derived.Test.YtmdkmobcglnmgaaWd
namespace Go.Proofs.Ytmdkmobcglnmgaa
open Go.RowKit
set_option linter.unusedSimpArgs false

section
variable {P : Program} {kt et : TypeId} {K V : Type} [DecidableEq K] {enc : K → Value} {ok : K → Prop} {R : V → Value → Prop} {w : World} {b : Nat} {m : List (K × V)}
theorem MapIs.delete (MK : MKey P kt enc ok) (h : MapIs w b enc ok R m) {t ty : TypeId} (ht : P.underlying t = some (.map kt et)) {k : K} (hk : ok k) :
    ∃ w', (Builtin.delete_ #[t, kt] ty #[.map (some b), enc k]).run P w = .ok (.tuple #[]) w' ∧ MapIs w' b enc ok R (mdel m k) ∧ w.grownBy w' (some b) ∧ w'.heap.size = w.heap.size := by
  have hlt := h.lt
  obtain ⟨l, hl⟩ := MK.key hk
  obtain ⟨es', clock', hb', hf⟩ := h.find MK hk
  obtain ⟨es, clock, hb, hsz, ho, hok, hel, hborn, huni⟩ := h
  rw [hb'] at hb
  cases hb
  have hgrow : ∀ o, w.grownBy { w with heap := w.heap.setIfInBounds b o } (some b) := fun o => ⟨rfl, rfl, rfl, by simp, fun i _ hi => by
    have : ¬ b = i := fun e => hi (by rw [e])
    simp [this]⟩
  have hsame : ∀ o, ({ w with heap := w.heap.setIfInBounds b o } : World).heap[b]? = some o := fun o => by simp [hlt]
  rcases hf with ⟨h1, h2⟩ | ⟨j, e, v0, h1, h2, h3, h4, h5⟩
  · refine ⟨_, by simp [Builtin.delete_, run_underlying ht, MapKept.run_getObj_map hb', MK.law.check w _ hl, h1, Result.andThen, MapKept.run_setObj_map _ hb']; rfl, ?_, hgrow _, by simp⟩
    rw [mdel_new h2]
    exact ⟨_, _, hsame _, hsz, ho, hok, hel, hborn, huni⟩
  · have hjs : j < es'.size := (Array.getElem?_eq_some_iff.1 h2).1
    have hsub : es'.eraseIdxIfInBounds j = es'.eraseIdx j hjs := by
      unfold Array.eraseIdxIfInBounds
      rw [dif_pos hjs]
    have hat : ∀ i, (es'.eraseIdx j hjs)[i]? = if i < j then es'[i]? else es'[i + 1]? := fun i => by
      rw [Array.getElem?_eraseIdx]
    refine ⟨_, by simp [Builtin.delete_, run_underlying ht, MapKept.run_getObj_map hb', MK.law.check w _ hl, h1, Result.andThen, MapKept.run_setObj_map _ hb']; rfl, ?_, hgrow _, by simp⟩
    rw [mdel_old ho h5, hsub]
    refine ⟨_, _, hsame _, by rw [Array.size_eraseIdx, List.length_eraseIdx, if_pos (by omega), hsz], ?_, ?_, ?_, ?_, ?_⟩
    · exact ho.sublist (List.eraseIdx_sublist _ _)
    · exact fun p hp => hok p ((List.eraseIdx_sublist _ _).subset hp)
    · intro i k' v' hi
      rw [List.getElem?_eraseIdx] at hi
      rw [hat]
      split at hi
      · rename_i hij
        rw [if_pos hij]
        exact hel i k' v' hi
      · rename_i hij
        rw [if_neg hij]
        exact hel (i + 1) k' v' hi
    · intro i e' he
      rw [hat] at he
      split at he
      · exact hborn i e' he
      · exact hborn (i + 1) e' he
    · intro i i' e1 e2 h1' h2' he
      rw [hat] at h1' h2'
      split at h1' <;> split at h2'
      · exact huni i i' e1 e2 h1' h2' he
      · have := huni i (i' + 1) e1 e2 h1' h2' he; omega
      · have := huni (i + 1) i' e1 e2 h1' h2' he; omega
      · have := huni (i + 1) (i' + 1) e1 e2 h1' h2' he; omega
end
section
variable {P : Program} {kt et : TypeId} {K V : Type} [DecidableEq K] {enc : K → Value} {ok : K → Prop} {R : V → Value → Prop} {w : World} {b : Nat} {m : List (K × V)}
  {o : Oper} {a : Act} {Kn : Act → World → Prop} {Q : Exit → Act → World → Prop}
theorem wp_mdel (MK : MKey P kt enc ok) (x ix : Operand) (t : TypeId) (hop : o.op = Op.call { callee := Callee.builtin Builtin.delete, args := #[x, ix], argTypes := #[t, kt] }) (ht : P.underlying t = some (.map kt et))
    (h : MapIs w b enc ok R m) (k : K) (hk : ok k) (hx : a.eval x = .map (some b)) (hi : a.eval ix = enc k)
    (hK : ∀ w', MapIs w' b enc ok R (mdel m k) → w.grownBy w' (some b) → w'.heap.size = w.heap.size → Kn (a.put o.dst (.tuple #[])) w') : Oper.wp P o a w Kn Q := by
  obtain ⟨w', hrun, r1, r2, r3⟩ := h.delete MK ht hk (ty := o.type)
  unfold Oper.wp
  simp [execOp, hop, resolve, invoke, builtin, hx, hi, hrun, Result.andThen]
  exact hK w' r1 r2 r3
end
/-- Whatever is not the splitter's, nor the row's, is as it was. -/
def Kept (x : Sx) (r : Option Nat) (w w' : World) : Prop := w.heap.size ≤ w'.heap.size ∧ ∀ g, g < w.heap.size → g ≠ x.sb → g ≠ x.bb → g ≠ x.bs → g ≠ x.bt → some g ≠ r → w'.heap[g]? = w.heap[g]?
theorem Kept.refl (x : Sx) (r : Option Nat) (w : World) : Kept x r w w := ⟨Nat.le_refl _, fun _ _ _ _ _ _ _ => rfl⟩
theorem Kept.trans {x : Sx} {r : Option Nat} {a b c : World} (h : Kept x r a b) (k : Kept x r b c) : Kept x r a c :=
  ⟨Nat.le_trans h.1 k.1, fun g h0 h1 h2 h3 h4 h5 => (k.2 g (Nat.lt_of_lt_of_le h0 h.1) h1 h2 h3 h4 h5).trans (h.2 g h0 h1 h2 h3 h4 h5)⟩
theorem Kept.grown {x : Sx} {r : Option Nat} {w w' : World} {q : Option Nat} (h : w.grownBy w' q) (hq : q = none ∨ q = some x.sb ∨ q = some x.bb ∨ q = some x.bs ∨ q = some x.bt ∨ q = r) : Kept x r w w' :=
  ⟨h.size, fun g h0 h1 h2 h3 h4 h5 => h.block g h0 (fun e => by
    rcases hq with rfl | rfl | rfl | rfl | rfl | rfl
    · cases e
    · injection e with e; exact h1 e
    · injection e with e; exact h2 e
    · injection e with e; exact h3 e
    · injection e with e; exact h4 e
    · exact h5 e)⟩
theorem Kept.fresh {x : Sx} {r q : Option Nat} {w a b : World} (h : Kept x r w a) (hg : a.grownBy b q) (hq : ∀ k, q = some k → w.heap.size ≤ k) : Kept x r w b :=
  ⟨Nat.le_trans h.1 hg.size, fun g h0 h1 h2 h3 h4 h5 => (hg.block g (Nat.lt_of_lt_of_le h0 h.1) (fun e => by have := hq g e.symm; omega)).trans (h.2 g h0 h1 h2 h3 h4 h5)⟩
/-- What next leaves. -/
def NextAns (x : Sx) (w : World) (fv : Value) (many : Int) (blk : List Int) (st : List (Int × GV)) (td : List ((Int × Int) × Unit)) (e : Ending) (w' : World) : Prop :=
  Below x.B w w' ∧ Kept x none w w' ∧ ((∃ p, (p, ()) ∈ td ∧ e = .returned (.tuple #[pairV p, .bool true]) ∧ SpM x w' fv many blk st (mdel td p)) ∨ (td = [] ∧ e = .returned (.tuple #[pairV (0, 0), .bool false]) ∧ SpM x w' fv many blk st td))
set_option maxRecDepth 100000 in
set_option maxHeartbeats 4000000 in
theorem next_any (x : Sx) (hx : x.ok) (fv : Value) (many : Int) (blk : List Int) (st : List (Int × GV)) (td : List ((Int × Int) × Unit)) (htd : td.length ≤ 1000000) (w : World) (h : SpM x w fv many blk st td) (hB : x.B ≤ w.heap.size) :
    Calls Try.prog 67 #[.pointer (some ⟨x.sb, 0, none⟩)] w (NextAns x w fv many blk st td) := by
  have HX := hid hx
  have LT0 : x.sb < w.heap.size ∧ x.bb < w.heap.size ∧ x.bs < w.heap.size ∧ x.bt < w.heap.size := ⟨h.1.lt, h.2.1.lt, h.2.2.1.lt, h.2.2.2.2.2.lt⟩
  have HRZ0 : ∀ p ∈ st, ∀ b, p.2.1.ownBlock = some b → b < w.heap.size := fun p hp b e => ((h.2.2.2.1.1 p hp).lt b e).2
  have HLT0 := hid LT0
  have HRZ1 := hid HRZ0
  clear LT0 HRZ0
  obtain ⟨q, hq⟩ : ∃ q, q = w.heap.size := ⟨_, rfl⟩
  have HQ := hid hq
  have HS1 := hid (h.below ((Below.refl _ _).alloc (Nat.le_refl _) (.cells #[.int .i64 0, .int .i64 0] 102)))
  have HQ1 := hid (show (w.alloc (.cells #[.int .i64 0, .int .i64 0] 102)).heap[q]? = some (.cells #[.int .i64 0, .int .i64 0] 102 (0, 0)) by rw [hq]; exact heap_alloc_new _ _)
  have c5 := HS1.out.1.cells.2.2.2.2.2.1
  clear h hx hq
  go_enter Try.func67, Try.ntmps67
  go_wp2_with (first | (at_range; refine wpList_range_is rfl (.tmp 8) 98 rfl pairKey Try.underlying98 rfl HS1.out.2.2.2.2.2 (by unfold maxLen; omega) ?_; intro w2 cnt hrg2 hg2 hs2) | go_in)
  go_frame
  obtain ⟨r, hr⟩ : ∃ r, r = (w.alloc (.cells #[.int .i64 0, .int .i64 0] 102)).heap.size := ⟨_, rfl⟩
  have HRS := hid (show x.sb < r ∧ x.bb < r ∧ x.bs < r ∧ x.bt < r ∧ q < r ∧ x.B ≤ r by rw [hr]; exact ⟨HS1.out.1.lt, HS1.out.2.1.lt, HS1.out.2.2.1.lt, HS1.out.2.2.2.2.2.lt, by rw [HQ.out]; simp, by simp; omega⟩)
  have HRW := hid (show ∀ p ∈ st, ∀ b, p.2.1.ownBlock = some b → b < r from fun p hp b e => by rw [hr]; exact ((HS1.out.2.2.2.1.1 p hp).lt b e).2)
  have HQZ := hid (show x.sb < w.heap.size ∧ x.bb < w.heap.size ∧ x.bs < w.heap.size ∧ x.bt < w.heap.size from HLT0.out)
  have HRZ := HRZ1
  rw [← hr] at hrg2 ⊢
  have HR2 := hid hrg2
  have HS2 := hid (HS1.out.grown hg2 (by simp) (by simp) (by simp) (by simp) (fun _ _ => Classical.em _))
  have HQ2 := hid (show w2.heap[q]? = some (.cells #[.int .i64 0, .int .i64 0] 102 (0, 0)) from (hg2.block q (Array.getElem?_eq_some_iff.1 HQ1.out).1 (by simp)).trans HQ1.out)
  have HB2 := hid (show Below x.B w w2 from ((Below.refl _ _).alloc hB _).grown hg2 (by simp; omega) (fun k hk => by cases hk))
  have HK2 := hid (show Kept x none w w2 from (Kept.grown (World.grownBy_alloc w _ none) (.inl rfl)).trans (Kept.grown hg2 (.inl rfl)))
  clear hrg2 hg2 hs2 hr HS1 HQ1 c5
  go_loopw [3] (fun s3 wr => s3 = .bool false ∧ wr = w2) (fun _ _ => 0)
  case atStart => exact ⟨rfl, rfl⟩
  case round =>
    obtain ⟨rfl, rfl⟩ := hrel
    go_wp2_with (at_next; refine wpList_next_is rfl (.tmp 9) rfl pairKey rfl HR2.out ?_ ?_)
    · intro hl0
      have htd0 : td = [] := by
        cases td with
        | nil => rfl
        | cons p t => exact absurd List.mem_cons_self (hl0 p.1.1 p.1.2 p.2)
      clear hl0
      rw [HQ.out] at HQ2
      obtain ⟨d0, d1, f0, f1⟩ := slot2 HQ2.out
      have HQ3 := hid (show (wr.setCell ⟨w.heap.size, 0, none⟩ (.int .i64 0)).heap[w.heap.size]? = some (.cells #[.int .i64 0, .int .i64 0] 102 (0, 0)) from heap_setCell_same wr _ 0 _ 102 _ HQ2.out)
      obtain ⟨d2, d3, f2, f3⟩ := slot2 HQ3.out
      go_wp2_with fail
      have HQ4 := hid (show ((wr.setCell ⟨w.heap.size, 0, none⟩ (.int .i64 0)).setCell ⟨w.heap.size, 1, none⟩ (.int .i64 0)).heap[w.heap.size]? = some (.cells #[.int .i64 0, .int .i64 0] 102 (0, 0)) from heap_setCell_same _ _ 1 _ 102 _ HQ3.out)
      obtain ⟨e0, e1, _, _⟩ := slot2 HQ4.out
      have hb1 : Below x.B w ((wr.setCell ⟨w.heap.size, 0, none⟩ (.int .i64 0)).setCell ⟨w.heap.size, 1, none⟩ (.int .i64 0)) := (HB2.out.setCell (p := ⟨w.heap.size, 0, none⟩) hB _).setCell (p := ⟨w.heap.size, 1, none⟩) hB _
      obtain ⟨z1, z2, z3, z4⟩ := HQZ.out
      have hg0 : wr.grownBy (wr.setCell ⟨w.heap.size, 0, none⟩ (.int .i64 0)) (some w.heap.size) := grown_setCell (World.grownBy.refl wr _) 0 _
      have hg1 : wr.grownBy ((wr.setCell ⟨w.heap.size, 0, none⟩ (.int .i64 0)).setCell ⟨w.heap.size, 1, none⟩ (.int .i64 0)) (some w.heap.size) := grown_setCell hg0 1 _
      have hs1 := SpM.grown HS2.out hg1 (fun e => by injection e with e; omega) (fun e => by injection e with e; omega) (fun e => by injection e with e; omega) (fun e => by injection e with e; omega) (fun p hp => .inr (fun e => Nat.lt_irrefl _ (HRZ.out p hp _ e)))
      refine bodyPost_ret (v := .tuple #[pairV (0, 0), .bool false]) (by simp [results, Try.results67, go_sem, e0, e1]) rfl ⟨hb1, HK2.out.fresh hg1 (fun k e => by cases e; exact Nat.le_refl _), .inr ⟨htd0, rfl, ?_⟩⟩
      rw [htd0]
      rw [htd0] at hs1
      exact hs1
    · intro k1 k2 uu vv w3 cnt3 hmem hu hrg3 hlt3 hg3 hs3 hen
      subst hu
      obtain ⟨t, ht⟩ : ∃ t, t = w3.heap.size := ⟨_, rfl⟩
      obtain ⟨L1, L2, L3, L4, L5, L6⟩ := HRS.out
      have HR3 := hid hrg3
      have HS3 := hid (SpM.grown HS2.out hg3 (fun e => by injection e with e; omega) (fun e => by injection e with e; omega) (fun e => by injection e with e; omega) (fun e => by injection e with e; omega) (fun p hp => .inr (fun e => Nat.lt_irrefl _ (HRW.out p hp r e))))
      have HQ3 := hid (show w3.heap[q]? = some (.cells #[.int .i64 0, .int .i64 0] 102 (0, 0)) from (hg3.block q (Array.getElem?_eq_some_iff.1 HQ2.out).1 (fun e => by injection e with e; omega)).trans HQ2.out)
      have HB3 := hid (HB2.out.grown hg3 (Nat.le_trans hB HB2.out.size) (fun k hk => by cases hk; exact L6))
      have HK3 := hid (HK2.out.fresh hg3 (fun k e => by cases e; have := HQ.out; omega))
      have HMEM := hid hmem
      have HT3 := hid ht
      have hqt : q < t := by rw [ht]; exact (Array.getElem?_eq_some_iff.1 HQ3.out).1
      have htb : x.sb < t ∧ x.bb < t ∧ x.bs < t ∧ x.bt < t := by rw [ht]; exact ⟨HS3.out.1.lt, HS3.out.2.1.lt, HS3.out.2.2.1.lt, HS3.out.2.2.2.2.2.lt⟩
      have HTB := hid htb
      clear hrg3 hlt3 hg3 hs3 hmem ht
      go_wp2_with fail
      obtain ⟨w4, hw4⟩ : ∃ w4, w4 = w3.alloc (.cells #[.int .i64 k1, .int .i64 k2] 102) := ⟨_, rfl⟩
      rw [← hw4]
      have HT5 := hid (show w4.heap[w3.heap.size]? = some (.cells #[.int .i64 k1, .int .i64 k2] 102 (0, 0)) by rw [hw4]; exact heap_alloc_new _ _)
      have hg4 : w3.grownBy w4 none := by rw [hw4]; exact World.grownBy_alloc w3 _ none
      have HS4 := hid (SpM.grown HS3.out hg4 (by simp) (by simp) (by simp) (by simp) (fun _ _ => Classical.em _))
      have HB4 := hid (HB3.out.grown hg4 (Nat.le_trans hB HB3.out.size) (fun k hk => by cases hk))
      have HQ4 := hid (show w4.heap[q]? = some (.cells #[.int .i64 0, .int .i64 0] 102 (0, 0)) from (hg4.block q (Array.getElem?_eq_some_iff.1 HQ3.out).1 (by simp)).trans HQ3.out)
      have HK4 := hid (HK3.out.fresh hg4 (fun k e => by cases e))
      clear hw4 hg4
      have d5 := HS4.out.1.cells.2.2.2.2.2.1
      obtain ⟨d0, d1, _, _⟩ := slot2 HT5.out
      have HKB := hid (show pairOk (k1, k2) from HS4.out.2.2.2.2.2.oks _ HMEM.out)
      have hlt3 := HTB.out
      rw [HT3.out] at hlt3 hqt
      obtain ⟨z1, z2, z3, z4⟩ := hlt3
      have zq : x.bt < q := by rw [HQ.out]; exact HQZ.out.2.2.2
      refine wp_region_held_drew (S := (fun Y => Y.cell? ⟨x.sb, 5, none⟩ = some (.map (some x.bt)) ∧ Y.cell? ⟨w3.heap.size, 0, none⟩ = some (.int .i64 k1) ∧ Y.cell? ⟨w3.heap.size, 1, none⟩ = some (.int .i64 k2))) (by kernel_rfl) (by exact ⟨d5, d0, d1⟩) (fun hHeld => ?_)
      refine wpAnyH_take (i := 0) (oi := { dst := some 14, op := Op.move (Operand.tmp 0), type := _, pos := _, after := _, guard := none }) (v := ?_) rfl (by kernel_rfl) (by kernel_rfl) (by kernel_rfl) (fun _ _ _ h => h) (Or.inl ⟨by rfl, ?_⟩) (by assumption) ?_
      rotate_left
      · intro w hSw; (try dsimp only at hSw); go_simp; try with_reducible rfl
      try simp only [Act.put, List.setIfInBounds_toArray, List.set_cons_zero, List.set_cons_succ]
      refine wpAnyH_take (i := 1) (oi := { dst := some 15, op := Op.nilCheck (Operand.tmp 14), type := _, pos := _, after := _, guard := none }) (v := ?_) rfl (by kernel_rfl) (by kernel_rfl) (by kernel_rfl) (fun _ _ _ h => h) (Or.inl ⟨by rfl, ?_⟩) (by assumption) ?_
      rotate_left
      · intro w hSw; (try dsimp only at hSw); go_simp; try with_reducible rfl
      try simp only [Act.put, List.setIfInBounds_toArray, List.set_cons_zero, List.set_cons_succ]
      refine wpAnyH_take (i := 2) (oi := { dst := some 16, op := Op.fieldAddr 101 (Operand.tmp 15) 4, type := _, pos := _, after := _, guard := none }) (v := ?_) rfl (by kernel_rfl) (by kernel_rfl) (by kernel_rfl) (fun _ _ _ h => h) (Or.inl ⟨by rfl, ?_⟩) (by assumption) ?_
      rotate_left
      · intro w hSw; (try dsimp only at hSw); go_simp; try with_reducible rfl
      try simp only [Act.put, List.setIfInBounds_toArray, List.set_cons_zero, List.set_cons_succ]
      refine wpAnyH_take (i := 3) (oi := { dst := some 17, op := Op.load 98 (Operand.tmp 16), type := _, pos := _, after := _, guard := none }) (v := ?_) rfl (by kernel_rfl) (by kernel_rfl) (by kernel_rfl) (fun _ _ _ h => h) (Or.inl ⟨by rfl, ?_⟩) (by assumption) ?_
      rotate_left
      · intro w hSw; (try dsimp only at hSw); go_simp; try with_reducible rfl
      try simp only [Act.put, List.setIfInBounds_toArray, List.set_cons_zero, List.set_cons_succ]
      refine wpAnyH_take (i := 4) (oi := { dst := some 18, op := Op.load 102 (Operand.tmp 4), type := _, pos := _, after := _, guard := none }) (v := ?_) rfl (by kernel_rfl) (by kernel_rfl) (by kernel_rfl) (fun _ _ _ h => h) (Or.inl ⟨by rfl, ?_⟩) (by assumption) ?_
      rotate_left
      · intro w hSw; (try dsimp only at hSw); go_simp; try with_reducible rfl
      try simp only [Act.put, List.setIfInBounds_toArray, List.set_cons_zero, List.set_cons_succ]
      refine wpAnyH_ready (rs := [5]) (by kernel_rfl) (by simp) ?_
      refine AllReadyH.cons (o := { dst := none, op := Op.call { callee := Callee.builtin Builtin.delete, args := #[Operand.tmp 17, Operand.tmp 18], argTypes := #[98, 102] }, type := _, pos := _, after := _, guard := none }) rfl (fun K hK => ?_) AllReadyH.nil
      rw [if_pos (by rfl)]
      refine wp_mdel pairKey (.tmp 17) (.tmp 18) 98 rfl Try.underlying98 (show TMap w4.drew x.bt td from HS4.out.2.2.2.2.2) (k1, k2) HKB.out rfl rfl ?_
      intro w6 hm6 hg6 hs6
      have HS6 := hid (SpM.todo HX.out (show SpM x w4.drew fv many blk st td from HS4.out) hm6 hg6)
      have HT6 := hid (show w6.heap[w3.heap.size]? = some (.cells #[.int .i64 k1, .int .i64 k2] 102 (0, 0)) from (hg6.block _ (Array.getElem?_eq_some_iff.1 HT5.out).1 (fun e => by injection e with e; omega)).trans HT5.out)
      have HQ6 := hid (show w6.heap[q]? = some (.cells #[.int .i64 0, .int .i64 0] 102 (0, 0)) from (hg6.block q (Array.getElem?_eq_some_iff.1 HQ4.out).1 (fun e => by injection e with e; omega)).trans HQ4.out)
      have HB6 := hid (show Below x.B w w6 from (Below.drew HB4.out).grown hg6 (Nat.le_trans hB HB4.out.size) (fun k hk => by cases hk; exact HX.out.2.2.2.1))
      have HK6 := hid (Kept.trans (show Kept x none w w4.drew from HK4.out) (Kept.grown hg6 (.inr (.inr (.inr (.inr (.inl rfl)))))))
      have e6 := slot2 HT6.out
      refine hK.out _ _ (by exact ⟨HS6.out.1.cells.2.2.2.2.2.1, e6.1, e6.2.1⟩) (fun hHeld => ?_)
      clear hK K
      try simp only [Act.put, List.setIfInBounds_toArray, List.set_cons_zero, List.set_cons_succ]
      refine wpAnyH_done (by kernel_rfl) ?_ _
      all_goals
        clear hm6 hg6 hs6 e6
        obtain ⟨a0, a1, _, _⟩ := slot2 HT6.out
        obtain ⟨b0, b1, g0, g1⟩ := slot2 HQ6.out
        rw [HQ.out] at HQ6 b0 b1 g0 g1
        have HQ7 := hid (show (w6.setCell ⟨w.heap.size, 0, none⟩ (.int .i64 k1)).heap[w.heap.size]? = some (.cells #[.int .i64 k1, .int .i64 0] 102 (0, 0)) from heap_setCell_same w6 _ 0 _ 102 _ HQ6.out)
        obtain ⟨b2, b3, g2, g3⟩ := slot2 HQ7.out
        go_wp2_with fail
        have HQ8 := hid (show ((w6.setCell ⟨w.heap.size, 0, none⟩ (.int .i64 k1)).setCell ⟨w.heap.size, 1, none⟩ (.int .i64 k2)).heap[w.heap.size]? = some (.cells #[.int .i64 k1, .int .i64 k2] 102 (0, 0)) from heap_setCell_same _ _ 1 _ 102 _ HQ7.out)
        obtain ⟨e0, e1, _, _⟩ := slot2 HQ8.out
        have hb1 : Below x.B w ((w6.setCell ⟨w.heap.size, 0, none⟩ (.int .i64 k1)).setCell ⟨w.heap.size, 1, none⟩ (.int .i64 k2)) := (HB6.out.setCell (p := ⟨w.heap.size, 0, none⟩) hB _).setCell (p := ⟨w.heap.size, 1, none⟩) hB _
        obtain ⟨z1', z2', z3', z4'⟩ := HQZ.out
        have hg0 : w6.grownBy (w6.setCell ⟨w.heap.size, 0, none⟩ (.int .i64 k1)) (some w.heap.size) := grown_setCell (World.grownBy.refl w6 _) 0 _
        have hg1 : w6.grownBy ((w6.setCell ⟨w.heap.size, 0, none⟩ (.int .i64 k1)).setCell ⟨w.heap.size, 1, none⟩ (.int .i64 k2)) (some w.heap.size) := grown_setCell hg0 1 _
        have hs1 := SpM.grown HS6.out hg1 (fun e => by injection e with e; omega) (fun e => by injection e with e; omega) (fun e => by injection e with e; omega) (fun e => by injection e with e; omega) (fun p hp => .inr (fun e => Nat.lt_irrefl _ (HRZ.out p hp _ e)))
        refine bodyPost_ret (v := .tuple #[pairV (k1, k2), .bool true]) (by simp [results, Try.results67, go_sem, e0, e1]) rfl ⟨hb1, HK6.out.fresh hg1 (fun k e => by cases e; exact Nat.le_refl _), .inl ⟨(k1, k2), HMEM.out, rfl, hs1⟩⟩
end Go.Proofs.Ytmdkmobcglnmgaa
