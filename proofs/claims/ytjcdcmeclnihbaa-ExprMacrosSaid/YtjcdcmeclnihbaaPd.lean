/- A name read: any, a macro's, or a class's. Conditions: a reader and macros in memory. -/
import Derived.Test.YtjcdcmeclnihbaaPb
namespace Go.Proofs.Ytjcdcmeclnihbaa
open Go.RowKit Go.Shelf
attribute [local go_sem] Oper.semAt_some
set_option linter.unusedSimpArgs false
theorem grown_later2 {a w w' : World} {row : Option Nat} (h : a.grownBy w row) (hb : Below a.heap.size w w') : a.grownBy w' row :=
  ⟨hb.os.trans h.os, hb.tape.trans h.tape, hb.output.trans h.output, Nat.le_trans h.size hb.size, fun i hi hne => (hb.block i hi).trans (h.block i hi hne)⟩
theorem slot4 {Y : World} {p : Nat} {a b c d : Value} {t : TypeId} (h : Y.heap[p]? = some (.cells #[a, b, c, d] t (0, 0))) :
    Y.cell? ⟨p, 0, none⟩ = some a ∧ Y.cell? ⟨p, 1, none⟩ = some b ∧ Y.cell? ⟨p, 2, none⟩ = some c ∧ Y.cell? ⟨p, 3, none⟩ = some d ∧ ∀ j, Y.frozen? ⟨p, j, none⟩ = false :=
  ⟨by rw [cell_of_row _ _ _ _ _ _ h]; rfl, by rw [cell_of_row _ _ _ _ _ _ h]; rfl, by rw [cell_of_row _ _ _ _ _ _ h]; rfl, by rw [cell_of_row _ _ _ _ _ _ h]; rfl, fun _ => frozen_of_row _ _ _ _ _ h⟩
theorem put4 {Y : World} {p : Nat} {a b c d : Value} {t : TypeId} (u0 u1 u2 u3 : Value) (h : Y.heap[p]? = some (.cells #[a, b, c, d] t (0, 0))) :
    ((((Y.setCell ⟨p, 0, none⟩ u0).setCell ⟨p, 1, none⟩ u1).setCell ⟨p, 2, none⟩ u2).setCell ⟨p, 3, none⟩ u3).heap[p]? = some (.cells #[u0, u1, u2, u3] t (0, 0)) := by
  have h0 : (Y.setCell ⟨p, 0, none⟩ u0).heap[p]? = some (.cells #[u0, b, c, d] t (0, 0)) := heap_setCell_same Y p 0 _ t u0 h
  have h1 : ((Y.setCell ⟨p, 0, none⟩ u0).setCell ⟨p, 1, none⟩ u1).heap[p]? = some (.cells #[u0, u1, c, d] t (0, 0)) := heap_setCell_same _ p 1 _ t u1 h0
  have h2 := heap_setCell_same _ p 2 _ t u2 h1
  exact heap_setCell_same _ p 3 _ t u3 h2
/-- Macros, as they are known. -/
structure IsMacs (w : World) (S : Nat → Prop) (n0 : Nat) (kv : Value) (ms : List (ByteArray × PT)) : Prop where
  ex : ∃ A c, ∃ m0 m1 m2 m3 : Nat → Value, kv = .slice A ms.length c ∧ MacCells n0 w A ms.length m0 m1 m2 m3 ∧ (∀ b o, A = some ⟨b, o, none⟩ → S b) ∧ ∀ k m, ms[k]? = some m → m0 k = .string m.1 ∧ IsP w S (.agg #[m1 k, m2 k, m3 k]) m.2
/-- An expression is where the cells are as they were, and nothing is lost. -/
theorem IsTr.cellsTo {w w' : World} {S S' : Nat → Prop} (hk : ∀ b j v, S b → w.cell? ⟨b, j, none⟩ = some v → w'.cell? ⟨b, j, none⟩ = some v) (hsz : w.heap.size ≤ w'.heap.size) (hS : ∀ b v j, S b → w.cell? ⟨b, j, none⟩ = some v → S' b) : ∀ (d : Nat) (v : Value) (t : Tr d), IsTr w S d v t → IsTr w' S' d v t
  | 0, _, _, h => h
  | d + 1, v, t, h => by
    obtain ⟨A, c, ev, h1, h2, h3⟩ := h
    refine ⟨A, c, ev, h1, h2, fun k u hu => ?_⟩
    obtain ⟨b, o, v0, v1, v2, a1, a2, a3, a4, a5, a6, a7⟩ := h3 k u hu
    exact ⟨b, o, v0, v1, v2, a1, hS b _ _ a2 a4, by omega, hk b _ _ a2 a4, hk b _ _ a2 a5, hk b _ _ a2 a6, IsTr.cellsTo hk hsz hS d _ u a7⟩
/-- A block of no cells may turn. -/
theorem IsP.putObj {w : World} {S : Nat → Prop} {v : Value} {p : PT} (h : IsP w S v p) {D : Nat} {o : Obj} (ho : w.heap[D]? = some o) (hc : o.isCells = false) (o' : Obj) : IsP (w.putObj D o') S v p := by
  obtain ⟨d, t, h1, h2⟩ := h
  refine ⟨d, t, IsTr.cellsTo (fun b j u _ hu => ?_) (grownBy_putObj' w D o').size (fun b _ _ hb _ => hb) d v t h1, h2⟩
  exact cell_kept hu (grownBy_putObj' w D o') (fun r e => by cases e; exact ⟨_, ho, hc⟩)
theorem Rd.putObj {w : World} {r : Nat} {s : ByteArray} {kv : Value} {at' op bad e : Int} (h : Rd w r s kv at' op bad e) {D : Nat} (hne : r ≠ D) (o' : Obj) : Rd (w.putObj D o') r s kv at' op bad e :=
  ((grownBy_putObj' w D o').block r h.lt (by intro e; injection e with e; exact hne e)).trans h
theorem back_mem {n i : Nat} : i ∈ back n n ↔ i < n := by
  simp only [back, List.mem_map, List.mem_range]
  exact ⟨fun ⟨j, h1, h2⟩ => by omega, fun h => ⟨n - 1 - i, by omega, by omega⟩⟩
theorem find_none {ms : List (ByteArray × PT)} {M : Nat → ByteArray × PT} (hM : ∀ k, k < ms.length → ms[k]? = some (M k)) {f : ByteArray × PT → Bool} (h : ∀ i, i < ms.length → f (M i) = false) : ms.reverse.find? f = none := by
  rw [List.find?_eq_none]
  intro m hm
  obtain ⟨k, hk⟩ := List.mem_iff_getElem?.1 (List.mem_reverse.1 hm)
  have hlt := (List.getElem?_eq_some_iff.1 hk).1
  have := (hM k hlt).symm.trans hk
  injection this with this
  rw [← this, h k hlt]
  simp
theorem find_last {f : ByteArray × PT → Bool} : ∀ {l : List (ByteArray × PT)} {i : Nat} {m : ByteArray × PT}, l[i]? = some m → f m = true → (∀ j m', j < i → l[j]? = some m' → f m' = false) → l.find? f = some m
  | [], i, m, h, _, _ => by simp at h
  | x :: l, 0, m, h, hf, _ => by
    simp at h
    subst h
    simp [List.find?, hf]
  | x :: l, i + 1, m, h, hf, hj => by
    have hx := hj 0 x (by omega) rfl
    simp only [List.find?, hx]
    exact find_last (i := i) (by simpa using h) hf fun j m' hji hm' => hj (j + 1) m' (by omega) (by simpa using hm')
theorem find_some {ms : List (ByteArray × PT)} {M : Nat → ByteArray × PT} (hM : ∀ k, k < ms.length → ms[k]? = some (M k)) {f : ByteArray × PT → Bool} {k : Nat} (hk : k < ms.length) (hf : f (M (ms.length - 1 - k)) = true) (h : ∀ j, j < k → f (M (ms.length - 1 - j)) = false) : ms.reverse.find? f = some (M (ms.length - 1 - k)) := by
  refine find_last (i := k) ?_ hf ?_
  · rw [List.getElem?_reverse (by omega)]
    exact hM _ (by omega)
  · intro j m' hj hm
    rw [List.getElem?_reverse (by omega), hM _ (by omega)] at hm
    injection hm with hm
    rw [← hm]
    exact h j hj
/-- An expression without parts is one wherever its cells lie. -/
theorem IsP.bare {w w' : World} {S S' : Nat → Prop} {v : Value} {k c : Int} (h : IsP w S v (.mk k c [])) : IsP w' S' v (.mk k c []) := by
  obtain ⟨d, t, h1, h2⟩ := h
  cases d with
  | zero => exact t.elim
  | succ d =>
    obtain ⟨A, cp, e, a1, a2, -⟩ := h1
    rw [toP_succ] at h2
    injection h2 with e1 e2 e3
    have e4 : Tr.kids t = [] := List.map_eq_nil_iff.1 e3
    rw [e1, e2, e4] at e
    exact ⟨1, ((k, c, []) : Tr 1), ⟨A, cp, e, Nat.zero_le _, a2, fun k t h => by simp [Tr.kids] at h⟩, rfl⟩
theorem classF_ok {k : Int} {l : Bs} {t : PT} {q : Bs} (h : classF numB k l = .ok t q) : ∃ c, t = .mk k c [] := by
  unfold classF at h
  split at h
  · split at h
    · injection h with h1 h2; exact ⟨_, h1.symm⟩
    · cases h
  · cases h
theorem IsMacs.total {w : World} {S : Nat → Prop} {n0 : Nat} {kv : Value} {ms : List (ByteArray × PT)} (h : IsMacs w S n0 kv ms) :
    ∃ A c, ∃ m0 m1 m2 m3 : Nat → Value, ∃ M : Nat → ByteArray × PT, kv = .slice A ms.length c ∧ MacCells n0 w A ms.length m0 m1 m2 m3 ∧ (∀ b o, A = some ⟨b, o, none⟩ → S b) ∧ (∀ k, m0 k = .string (M k).1 ∧ IsP w S (.agg #[m1 k, m2 k, m3 k]) (M k).2) ∧ ∀ k, k < ms.length → ms[k]? = some (M k) := by
  obtain ⟨A, c, m0, m1, m2, m3, e, hc, hs, hm⟩ := h.ex
  refine ⟨A, c, fun k => if k < ms.length then m0 k else .string ⟨#[]⟩, fun k => if k < ms.length then m1 k else .int .i64 0, fun k => if k < ms.length then m2 k else .int .i64 0, fun k => if k < ms.length then m3 k else .slice none 0 0, fun k => ms[k]?.getD (⟨#[]⟩, .mk 0 0 []), e, fun k hk => ?_, hs, fun k => ?_, fun k hk => ?_⟩
  · obtain ⟨b, o, h1, h2, h3⟩ := hc k hk
    exact ⟨b, o, h1, h2, by simpa only [if_pos hk] using h3⟩
  · by_cases hk : k < ms.length
    · simp only [if_pos hk, List.getElem?_eq_getElem hk, Option.getD_some]
      exact hm k _ (List.getElem?_eq_getElem hk)
    · simp only [if_neg hk, List.getElem?_eq_none (Nat.not_lt.1 hk), Option.getD_none]
      exact ⟨trivial, IsP.leaf _ _ 0 0⟩
  · simp [List.getElem?_eq_getElem hk]
theorem retM_node {F : Fence} {n : Nat} {fn : Func} {p : Tmp} (hres : fn.results = #[.cell p 45]) {Q : Ending → World → Prop} {a : Act} {Y : World} {g : Nat} {u0 u1 u2 : Value} (hp : a.tmps.getD p undef = .pointer (some ⟨g, 0, none⟩)) (hY : Y.heap[g]? = some (.cells #[u0, u1, u2] 45 (0, 0))) (hd : a.defers = [])
    (hq : Q (.returned (.agg #[u0, u1, u2])) Y) : bodyPostM F n Try.prog fn Q Exit.ret a Y := by
  show LeavesInM F n Try.prog fn a.tmps Q a.defers .returning Y
  rw [hd]
  exact ⟨.agg #[u0, u1, u2], results_cell_row hres _ _ g 45 #[u0, u1, u2] (0, 0) _ hp hY Try.underlying45 rfl (by rw [size45]; rfl), hq⟩
set_option maxRecDepth 100000 in
set_option maxHeartbeats 4000000 in
theorem named_any (rightP : PT → Bool) (hright : ∀ (w : World) (v : Value) (p : PT), IsP w Any v p → Calls Try.prog 49 #[v] w fun e w' => e = .returned (.bool (rightP p)) ∧ Below w.heap.size w w')
    (macs : Bs → Option PT) (ms : List (ByteArray × PT)) (hmacs : ∀ b, macs b = ((ms.reverse.find? fun m => bsOf m.1 == b && rightP m.2 && !(m.2.kind == 9)).map (·.2)))
    {Sm : Nat → Prop} {w : World} {r : Nat} {s : ByteArray} {kv : Value} {op bad : Int} (a : Nat) (h : Rd w r s kv a op bad 0) (hk : IsMacs w Sm w.heap.size kv ms) (hSm : ∀ b, Sm b → b ≠ r ∧ b < w.heap.size) (hms : ms.length ≤ 1000) (ha : a ≤ s.size) (hs : s.size ≤ 100000) (hl : isL (hd ((bsOf s).drop a)) = true) :
    Calls Try.prog 107 #[.pointer (some ⟨r, 0, none⟩)] w (PostR Sm w r s kv op bad (namedF numB macs ((bsOf s).drop a))) := by
  obtain ⟨A, c, m0, m1, m2, m3, M, rfl, hmc, hsa, hmp, hM⟩ := hk.total
  refine (callsIn_wide (n := 9)).1 ?_
  refine callsIn_of_wp_marks Try.func107 rfl trivial ?_ rfl
  simp only [Try.ntmps107, List.size_toArray, List.length_cons, List.length_nil, Nat.reduceAdd, Nat.reduceSub, Array.replicate_succ, Array.replicate_zero, List.push_toArray, List.append_toArray, List.nil_append, List.cons_append]
  obtain ⟨X, hX⟩ : ∃ X, X = w.alloc (.cells #[.int .i64 0, .int .i64 0, .slice none 0 0] 45) := ⟨_, rfl⟩
  have HX := hid hX
  obtain ⟨g, hg⟩ : ∃ g, g = w.heap.size := ⟨_, rfl⟩
  have HXB := hid (show X.heap[g]? = some (.cells #[.int .i64 0, .int .i64 0, .slice none 0 0] 45 (0, 0)) by rw [hg, hX]; exact heap_alloc_new _ _)
  have HGE := hid hg
  have HGX := hid (show w.grownBy X (some r) by rw [hX]; exact World.grownBy_alloc _ _ _)
  have HRX := hid (show Rd X r s (.slice A ms.length c) a op bad 0 by rw [hX]; exact h.alloc _)
  have HNE := hid (show g ≠ r by have := h.lt; omega)
  have HOLD := hid (show ∀ Y : World, X.grownBy Y (some r) → Y.heap[g]? = some (.cells #[.int .i64 0, .int .i64 0, .slice none 0 0] 45 (0, 0)) from fun Y hY => (hY.block g (Array.getElem?_eq_some_iff.1 HXB.out).1 (by have := HNE.out; simpa using this)).trans HXB.out)
  obtain ⟨l, hll⟩ : ∃ l, l = (bsOf s).drop a := ⟨_, rfl⟩
  have HL := hid hll
  have HLL := hid hl
  have HRT := hid hright
  have HMC := hid hmacs
  have HKM := hid hmc
  have HMP := hid hmp
  have HSA := hid (show ∀ b o, A = some ⟨b, o, none⟩ → b ≠ r from fun b o e => (hSm b (hsa b o e)).1)
  have HSM := hid hSm
  have HM := hid hM
  obtain ⟨-, c1, -⟩ := HRX.out.cells
  rw [hX] at c1
  clear hX hg hll hl hright hmacs hk h hmc hmp hsa hM hSm
  gi_wp2_with fail
  refine ⟨trivial, ?_⟩
  rw [← HX.out, ← HGE.out]
  refine (callsIn_wide.2 (name_any a HRX.out ha hs)).mono ?_
  rintro x w1 ⟨z, rfl, hz, a1, ha1, ha2, hd1, hr1, hg1⟩
  rw [← HL.out] at hz hd1 ⊢
  have HZ := hid hz
  have HD1 := hid hd1
  have HR1 := hid hr1
  have HG1 := hid hg1
  clear hz hd1 hr1 hg1 c1
  have HB1 := hid (HOLD.out w1 HG1.out)
  obtain ⟨q, hq⟩ : ∃ q, q = w1.heap.size := ⟨_, rfl⟩
  have HQ := hid hq
  obtain ⟨X2, hX2⟩ : ∃ X, X = w1.alloc (.cells #[.string z] 9) := ⟨_, rfl⟩
  have HX2 := hid hX2
  have HB2 := hid (show X2.heap[g]? = some (.cells #[.int .i64 0, .int .i64 0, .slice none 0 0] 45 (0, 0)) by rw [hX2]; exact (((Below.refl w1.heap.size w1).alloc (Nat.le_refl _) _).block g (Array.getElem?_eq_some_iff.1 HB1.out).1).trans HB1.out)
  have HR2 := hid (show Rd X2 r s (.slice A ms.length c) a1 op bad 0 by rw [hX2]; exact HR1.out.alloc _)
  have HG2 := hid (show w.grownBy X2 (some r) by rw [hX2]; exact grown_alloc (HGX.out.trans HG1.out) _)
  have HQ2 := hid (show X2.heap[q]? = some (.cells #[.string z] 9 (0, 0)) by rw [hX2, hq]; exact heap_alloc_new _ _)
  by_cases hany : z = ⟨#[97, 110, 121]⟩
  · obtain ⟨y0, y1, y2, yf⟩ := slot3 HB2.out
    have yf0 := yf 0
    have yf1 := yf 1
    have yf2 := yf 2
    rw [hX2] at y0 y1 y2 yf0 yf1 yf2
    have HNM := hid (show namedF numB macs l = .ok (.mk 1 0 []) (rsOf l) by unfold namedF; rw [← HZ.out, hany]; rfl)
    clear hX2 hq yf
    subst hany
    gi_wp2_with fail
    rw [← HX2.out]
    refine retM_node (p := 2) rfl rfl (Go.Proofs.Ytjcdcmeclnihbaa.put3 (.int .i64 1) (.int .i64 0) (.slice none 0 0) HB2.out) rfl ?_
    rw [← HL.out, HNM.out]
    exact ⟨grown_put3 HG2.out (Nat.le_of_eq HGE.out.symm) _ _ _, _, rfl, IsP.leaf _ _ 1 0, a1, ha2, HD1.out, HR2.out.put3 HNE.out.symm _ _ _⟩
  · have hne := text_ne hany
    rw [show (⟨#[97, 110, 121]⟩ : ByteArray).toList = [97, 110, 121] from by rw [ByteArray.toList_eq]] at hne
    have HNA := hid (show nmOf l ≠ [97, 110, 121] from fun e => hany (bsOf_inj (HZ.out.trans e)))
    obtain ⟨-, -, c2, -⟩ := HR2.out.cells
    rw [hX2] at c2
    clear hX2 hq hany
    gi_wp2_with fail
    refine ⟨trivial, ?_⟩
    refine (backward_in Fence.wide 8 trivial rfl A ms.length c _).mono ?_
    rintro x w2 ⟨rfl, hw2⟩
    obtain ⟨L0, hL0⟩ : ∃ W, W = (w1.alloc (.cells #[.string z] 9)).alloc (.cells #[.slice A ms.length c] 85) := ⟨_, rfl⟩
    rw [hw2, ← hL0]
    have hsz : (w1.alloc (.cells #[.string z] 9)).heap.size = w1.heap.size + 1 := by simp
    rw [hsz]
    rw [← HQ.out]
    clear hw2 c2
    gi_wp2_with fail
    rw [← hL0]
    have hLs : L0.heap.size = q + 2 := by rw [hL0, HQ.out]; simp
    have HL0 := hid (show Below X2.heap.size X2 L0 by rw [hL0, HX2.out]; exact (Below.refl _ _).alloc (Nat.le_refl _) _)
    have hqX : X2.heap.size = q + 1 := by rw [HX2.out, HQ.out]; simp
    have hgq : g < q := by rw [HQ.out]; exact (Array.getElem?_eq_some_iff.1 HB1.out).1
    have HQ0 := hid (show L0.heap[q]? = some (.cells #[.string z] 9 (0, 0)) from (HL0.out.block q (by omega)).trans HQ2.out)
    have HB0 := hid (show L0.heap[g]? = some (.cells #[.int .i64 0, .int .i64 0, .slice none 0 0] 45 (0, 0)) from (HL0.out.block g (by omega)).trans HB2.out)
    have HR0 := hid (HR2.out.below HL0.out)
    have HG0 := hid (grown_later2 (w' := L0) HG2.out (HL0.out.mono HG2.out.size))
    have hrl : r < L0.heap.size := HR0.out.lt
    have HS0 := hid (show L0.cell? ⟨q + 1, 0, none⟩ = some (.slice A ms.length c) by
      rw [hL0, cell_of_row _ (q + 1) 0 #[.slice A ms.length c] 85 (0, 0) (by rw [HQ.out, show w1.heap.size + 1 = (w1.alloc (.cells #[.string z] 9)).heap.size by simp]; exact heap_alloc_new _ _)]
      rfl)
    have hwl : w.heap.size ≤ L0.heap.size := HG0.out.size
    have HM0 := hid (show MacCells L0.heap.size L0 A ms.length m0 m1 m2 m3 from fun k hk => by
      obtain ⟨b, o, e, hlt, d0, d1, d2, d3⟩ := HKM.out k hk
      have hne : b ≠ r := HSA.out b o e
      have hb : L0.heap[b]? = w.heap[b]? := HG0.out.block b hlt (by intro e; injection e with e; exact hne e)
      exact ⟨b, o, e, by omega, (cell_same hb).trans d0, (cell_same hb).trans d1, (cell_same hb).trans d2, (cell_same hb).trans d3⟩)
    have HP0 := hid (show ∀ k, m0 k = .string (M k).1 ∧ IsP L0 Any (.agg #[m1 k, m2 k, m3 k]) (M k).2 from fun k => ⟨(HMP.out k).1, (HMP.out k).2.imp (fun b hb hlt => HG0.out.block b hlt (by intro e; injection e with e; exact (HSM.out b hb).1 e)) (fun _ _ _ => trivial)⟩)
    have HNB := hid (show bsOf z = nmOf l from HZ.out)
    have hms2 := hms
    clear hL0 hsz
    obtain ⟨okM, hokM⟩ : ∃ okM : Nat → Bool, okM = fun i => bsOf (M i).1 == nmOf l && rightP (M i).2 && !((M i).2.kind == 9) := ⟨_, rfl⟩
    have HOK := hid hokM
    clear hokM
    refine wpIn_rangeFunc_ownH rfl (by omega) (gf := 117) (lb := #[.pointer (some ⟨q + 1, 0, none⟩)]) rfl trivial (enters_of Try.func117 (by kernel_rfl) rfl)
      (backward_stops Fence.wide 8 trivial rfl (by omega) (q + 1) L0.heap.size A ms.length c m0 m1 m2 m3 (by omega) L0 (by omega) (Nat.le_refl _) HS0.out HM0.out) belowK_t (belowK_b (Nat.le_refl _)) (Below.refl _ _) (fun _ => rfl)
      (fun pre W => Below L0.heap.size L0 W ∧ ∀ i ∈ pre, okM i = false)
      (fun c pre W => (c = .ret ∧ ∃ (ini : List Nat) (i : Nat), pre = ini ++ [i] ∧ (∀ j ∈ ini, okM j = false) ∧ okM i = true ∧ W.heap[g]? = some (.cells #[m1 i, m2 i, m3 i] 45 (0, 0))) ∧ L0.grownBy W (some g))
      (OwnFrom.and (ownFrom_below (Nat.le_refl _) (Nat.le_refl _)) (ownFrom_pure _ _))
      ?ix ⟨Below.refl _ _, by simp⟩
      (fun x a' W => ∃ Bx, L0.heap.size ≤ Bx ∧ W.heap[Bx]? = some (.cells #[m0 x, m1 x, m2 x, m3 x] 64 (0, 0)) ∧ a' = { tmps := #[.pointer (some ⟨r, 0, none⟩), undef, .pointer (some ⟨g, 0, none⟩), .int .i64 (a : Int), .pointer (some ⟨q, 0, none⟩), undef, .pointer (some ⟨Bx, 0, none⟩), .pointer (some ⟨r, 0, none⟩), .pointer (some ⟨r, 0, none⟩), .pointer (some ⟨r, 0, none⟩), .pointer (some ⟨r, 1, none⟩), .int .i64 (a : Int), .pointer (some ⟨r, 0, none⟩), .pointer (some ⟨r, 0, none⟩), .pointer (some ⟨r, 0, none⟩), .string z, .string z, .bool false, undef, .pointer (some ⟨r, 0, none⟩), .pointer (some ⟨r, 0, none⟩), .pointer (some ⟨r, 2, none⟩), .slice A ms.length c, .func (.func 117) #[] #[.pointer (some ⟨q + 1, 0, none⟩)], .int .i64 (x : Int), .agg #[m0 x, m1 x, m2 x, m3 x], undef, undef, undef, undef, undef, undef, undef, undef, undef, undef, undef, undef, undef, undef, undef, undef, undef, undef, undef, undef, undef, undef, undef, undef], defers := [] })
      ?ax ?assign ?body ?done ?stop
    case ix =>
      rintro c pre X Y row ⟨⟨hc, ini, i, e1, e2, e3, e5⟩, hg⟩ hgr hr
      have hgX : g < X.heap.size := (Array.getElem?_eq_some_iff.1 e5).1
      refine ⟨⟨hc, ini, i, e1, e2, e3, ?_⟩, ?_⟩
      · exact (hgr.block g hgX (by intro e; have := (hr g e.symm).1; omega)).trans e5
      · exact hg.andThen hgr fun j e => .inl (by have := (hr j e).1; omega)
    case ax =>
      rintro x a' _ X Y row ⟨Bx, h1, h2, h3⟩ hg hr
      refine ⟨Bx, h1, (hg.block Bx (Array.getElem?_eq_some_iff.1 h2).1 ?_).trans h2, h3⟩
      rintro rfl
      obtain ⟨-, o, ho, hc⟩ := hr Bx rfl
      rw [h2] at ho
      cases ho
      cases hc
    case assign =>
      rintro l pre x W K ⟨hB, hp⟩ hK
      obtain ⟨e0, hpx⟩ := HP0.out x
      obtain ⟨kA, kc, ek⟩ := hpx.form
      obtain ⟨g1, g2, g3⟩ : m1 x = .int .i64 (M x).2.kind ∧ m2 x = .int .i64 (M x).2.cls ∧ m3 x = .slice kA (M x).2.kids.length kc := by injection ek with ek; simpa using ek
      rw [e0, g1, g2, g3] at hK ⊢
      have hA : (W.alloc (.cells #[.string ⟨#[]⟩, .int .i64 0, .int .i64 0, .slice none 0 0] 64)).heap[W.heap.size]? = some (.cells #[.string ⟨#[]⟩, .int .i64 0, .int .i64 0, .slice none 0 0] 64 (0, 0)) := heap_alloc_new _ _
      have hWs := hB.size
      gi_wp2_with fail
      exact hK _ _ ((KeepsOthers.alloc _ _).from _) ((Below.refl _ W).alloc hWs _) ⟨hB.alloc hWs _, hp⟩ ⟨_, hWs, heap_alloc_new _ _, rfl⟩
    case body =>
      rintro lo pre x a' W hl ⟨lr, hlr⟩ ⟨hB, hp0⟩ ⟨Bx, hBx, hbx, rfl⟩ hlt
      obtain ⟨y0, y1, y2, y3, yf⟩ := slot4 hbx
      obtain ⟨e0, hpx⟩ := HP0.out x
      have hq0 : W.cell? ⟨q, 0, none⟩ = some (.string z) := by
        rw [cell_of_row _ q 0 #[.string z] 9 (0, 0) ((hB.block q (by omega)).trans HQ0.out)]
        rfl
      obtain ⟨nm, hnm⟩ : ∃ nm, nm = (M x).1 := ⟨_, rfl⟩
      obtain ⟨p, hp⟩ : ∃ p, p = (M x).2 := ⟨_, rfl⟩
      rw [e0, ← hnm] at y0
      rw [← hp] at hpx
      obtain ⟨kA, kc, ek⟩ := hpx.form
      obtain ⟨g1, g2, g3⟩ : m1 x = .int .i64 p.kind ∧ m2 x = .int .i64 p.cls ∧ m3 x = .slice kA p.kids.length kc := by injection ek with ek; simpa using ek
      have HPX := hid hpx
      have HOKX := hid (show okM x = (bsOf nm == nmOf l && rightP p && !(p.kind == 9)) by rw [HOK.out, hnm, hp])
      rw [g1] at y1
      rw [g2] at y2
      rw [g3] at y3
      rw [g1, g2, g3] at HPX
      have yf0 := yf 0
      have yf1 := yf 1
      have yf2 := yf 2
      have yf3 := yf 3
      clear hp hnm yf ek hpx
      by_cases hz : nm = z
      · have HZZ := hid hz
        subst hz
        gi_wp2_with fail
        refine ⟨trivial, ?_⟩
        refine (CallsIn.inRound lo (callsIn_wide.2 (HRT.out W _ p (HPX.out.below hB))) ).mono ?_
        rintro e W1 ⟨rfl, hW1⟩
        have hBxl : Bx < W.heap.size := (Array.getElem?_eq_some_iff.1 hbx).1
        obtain ⟨z0, z1, z2, z3, zf⟩ := slot4 ((hW1.block Bx hBxl).trans hbx)
        rw [g1] at z1
        rw [g2] at z2
        rw [g3] at z3
        have HGW := hid (show W1.heap[g]? = some (.cells #[.int .i64 0, .int .i64 0, .slice none 0 0] 45 (0, 0)) from (hW1.block g (by have := hB.size; omega)).trans ((hB.block g (by omega)).trans HB0.out))
        obtain ⟨u0, u1, u2, uf⟩ := slot3 HGW.out
        have uf0 := uf 0
        have uf1 := uf 1
        have uf2 := uf 2
        clear uf zf
        have HKF := hid (show KeepsFrom L0.heap.size W W1 from KeepsFrom.of_grownBy (row := none) (grown_of_below hW1 _) (fun j e => by cases e))
        have HB1' := hid (show Below L0.heap.size W W1 from hW1.mono hB.size)
        cases hr : rightP p with
        | false =>
          have hno : okM x = false := by rw [HOKX.out, hr]; simp
          gi_wp2_with fail
          exact ⟨HKF.out, HB1'.out, hB.trans HB1'.out, by simpa [or_imp, forall_and] using ⟨hp0, hno⟩⟩
        | true =>
          by_cases hk9 : p.kind = 9
          · have hno : okM x = false := by rw [HOKX.out, hk9]; simp
            gi_wp2_with fail
            exact ⟨HKF.out, HB1'.out, hB.trans HB1'.out, by simpa [or_imp, forall_and] using ⟨hp0, hno⟩⟩
          · have hyes : okM x = true := by rw [HOKX.out, hr, HZ.out]; simp [hk9]
            gi_wp2_with fail
            have hG : W1.grownBy (put3w W1 g (.int .i64 p.kind) (.int .i64 p.cls) (.slice kA p.kids.length kc)) (some g) := grown_setCell (grown_setCell (grown_setCell (World.grownBy.refl _ _) 0 _) 1 _) 2 _
            refine ⟨HKF.out.trans (KeepsFrom.of_grownBy hG (fun j e => by cases e; omega)), ⟨rfl, pre, x, rfl, hp0, hyes, ?_⟩, ((grown_of_below hB (some g)).trans (grown_of_below hW1 (some g))).trans hG⟩
            rw [g1, g2, g3]
            exact Go.Proofs.Ytjcdcmeclnihbaa.put3 _ _ _ HGW.out
      · have hne2 := text_ne hz
        have hno : okM x = false := by
          rw [HOKX.out, show (bsOf nm == nmOf l) = false from by rw [beq_eq_false_iff_ne, ← HZ.out]; exact fun e => hz (bsOf_inj e)]
          rfl
        gi_wp2_with fail
        refine ⟨trivial, ?_⟩
        gi_wp2_with fail
        exact ⟨KeepsFrom.refl _ _, Below.refl _ _, hB, by simpa [or_imp, forall_and] using ⟨hp0, hno⟩⟩
    case done =>
      rintro D xs W hD rfl ⟨hB, hno⟩ hK
      have HRW := hid (HR0.out.below hB)
      have HRS := hid (HRW.out.setAt (a : Int))
      have HGW := hid (show W.heap[g]? = some (.cells #[.int .i64 0, .int .i64 0, .slice none 0 0] 45 (0, 0)) from (hB.block g (by omega)).trans HB0.out)
      have HNO := hid hno
      have HWB := hid hB
      have HKW := hid hK
      obtain ⟨c0, c1, c2, c3, c4, c5⟩ := HRW.out.cells
      have f1 := HRW.out.frozen 1
      clear hno hB hK
      gi_wp2_with fail
      refine ⟨trivial, ?_⟩
      refine (callsIn_wide.2 (rclass_any (Sm := Sm) 0 a HRS.out ha hs)).mono ?_
      rintro e W2 ⟨hg2, v, rfl, hv⟩
      have HG3 := hid (show W.grownBy W2 (some r) from (grown_setCell (World.grownBy.refl W (some r)) 1 _).trans hg2)
      have HGW2 := hid (show W2.heap[g]? = some (.cells #[.int .i64 0, .int .i64 0, .slice none 0 0] 45 (0, 0)) from (HG3.out.block g (Array.getElem?_eq_some_iff.1 HGW.out).1 (by have := HNE.out; intro e; injection e with e; exact this e)).trans HGW.out)
      have hDr : r ≠ D := by omega
      have HKW2 := hid (show W2.heap[D]? = some (.deferred (some [])) from (HG3.out.block D (Array.getElem?_eq_some_iff.1 HKW.out).1 (by intro e; injection e with e; exact hDr e.symm)).trans HKW.out)
      have hnm : namedF numB macs l = classF numB 0 l := by
        unfold namedF classF
        rw [if_neg HNA.out, HMC.out, find_none HM.out (fun i hi => by have := HNO.out i (back_mem.2 hi); rw [HOK.out] at this; exact this), skip_of (by have := HLL.out; rw [← HL.out] at this; intro e; rw [e] at this; revert this; decide), HL.out, if_pos HLL.out]
        rfl
      rw [← HL.out] at hv ⊢
      rw [← hnm] at hv
      obtain ⟨pk, pc, kA, kn, kc, ek⟩ : ∃ k c : Int, ∃ A n cp, v = .agg #[.int .i64 k, .int .i64 c, .slice A n cp] := by
        cases hc : namedF numB macs l with
        | ok t q => rw [hc] at hv; obtain ⟨A, cp, e⟩ := hv.1.form; exact ⟨_, _, _, _, _, e⟩
        | no q x => rw [hc] at hv; obtain ⟨t, ht⟩ := hv.2.1; obtain ⟨A, cp, e⟩ := ht.form; exact ⟨_, _, _, _, _, e⟩
      obtain ⟨u0, u1, u2, uf⟩ := slot3 HGW2.out
      have uf0 := uf 0
      have uf1 := uf 1
      have uf2 := uf 2
      have HV := hid hv
      have HNM := hid hnm
      clear uf hv c0 c1 c2 c3 c4 c5 f1 hg2 hnm
      subst ek
      gi_wp2_with fail
      obtain ⟨Z, hZ⟩ : ∃ Z, Z = put3w W2 g (.int .i64 pk) (.int .i64 pc) (.slice kA kn kc) := ⟨_, rfl⟩
      have hgD : g ≠ D := by omega
      have hZg : Z.heap[g]? = some (.cells #[.int .i64 pk, .int .i64 pc, .slice kA kn kc] 45 (0, 0)) := by rw [hZ]; exact Go.Proofs.Ytjcdcmeclnihbaa.put3 _ _ _ HGW2.out
      have hwZ : w.grownBy Z (some r) := by rw [hZ]; exact grown_put3 ((HG0.out.trans (grown_of_below HWB.out (some r))).trans HG3.out) (Nat.le_of_eq HGE.out.symm) _ _ _
      have hwF : w.grownBy (Z.putObj D (.deferred none)) (some r) := hwZ.andThen (grownBy_putObj' Z D _) fun j e => .inl (by injection e with e; omega)
      have hKZ : Z.heap[D]? = some (.deferred (some [])) := by
        rw [hZ]
        unfold put3w
        rw [heap_setCell_other _ _ _ _ hgD.symm, heap_setCell_other _ _ _ _ hgD.symm, heap_setCell_other _ _ _ _ hgD.symm]
        exact HKW2.out
      change bodyPostM Fence.wide 9 Try.prog Try.f107 _ Exit.ret _ (put3w W2 g (.int .i64 pk) (.int .i64 pc) (.slice kA kn kc))
      rw [← hZ]
      refine ⟨by simp, .inl ⟨_, _, rfl, run_takeDeferred hKZ, ?_⟩⟩
      have hGD := (grownBy_putObj' Z D (.deferred none))
      have hge : (Z.putObj D (.deferred none)).heap[g]? = some (.cells #[.int .i64 pk, .int .i64 pc, .slice kA kn kc] 45 (0, 0)) := (hGD.block g (Array.getElem?_eq_some_iff.1 hZg).1 (by intro e; injection e with e; exact hgD e)).trans hZg
      refine ⟨.agg #[.int .i64 pk, .int .i64 pc, .slice kA kn kc], results_cell_row rfl _ _ g 45 #[.int .i64 pk, .int .i64 pc, .slice kA kn kc] (0, 0) _ rfl hge Try.underlying45 rfl (by rw [size45]; rfl), ?_⟩
      have HVV := HV.out
      refine ⟨hwF, _, rfl, ?_⟩
      cases hc : namedF numB macs l with
      | ok t q2 =>
        rw [← HL.out, hc]
        rw [hc] at HVV
        obtain ⟨h1, a', h2, h3, h4⟩ := HVV
        obtain ⟨cc, rfl⟩ := classF_ok (HNM.out.symm.trans hc)
        exact ⟨h1.bare, a', h2, h3, Rd.putObj (by rw [hZ]; exact h4.put3 HNE.out.symm _ _ _) hDr _⟩
      | no q2 x =>
        rw [← HL.out, hc]
        rw [hc] at HVV
        obtain ⟨h0, ⟨t, h1⟩, a', op', h4⟩ := HVV
        refine ⟨h0, ⟨t, ?_⟩, a', op', Rd.putObj (by rw [hZ]; exact h4.put3 HNE.out.symm _ _ _) hDr _⟩
        have h9 := HWB.out.size
        have hbg : ∀ b, Sm b ∨ (W.setCell ⟨r, 1, none⟩ (.int .i64 (a : Int))).heap.size ≤ b → b ≠ g := fun b hb => by
          have h8 := HGE.out
          rcases hb with hb | hb
          · have := (HSM.out b hb).2; omega
          · rw [World.size_setCell] at hb; omega
        refine IsP.putObj (IsP.mono (w := Z) (S := fun b => Sm b ∨ (W.setCell ⟨r, 1, none⟩ (.int .i64 (a : Int))).heap.size ≤ b) (by rw [hZ]; exact h1.put3 hbg _ _ _) (fun b hb _ => ?_)) hKZ rfl _
        rcases hb with hb | hb
        · exact .inl hb
        · rw [World.size_setCell] at hb; exact .inr (by omega)
    case stop =>
      rintro D c pre W hD ⟨k, hk, rfl⟩ ⟨⟨rfl, ini, i, e1, e2, e3, e4⟩, hg⟩ hK
      gi_wp2_with fail
      refine ⟨by simp, .inl ⟨_, _, rfl, run_takeDeferred hK, ?_⟩⟩
      have hWl : L0.heap.size ≤ W.heap.size := hg.size
      have hGD := (grownBy_putObj' W D (.deferred none))
      have hge : (W.putObj D (.deferred none)).heap[g]? = some (.cells #[m1 i, m2 i, m3 i] 45 (0, 0)) := (hGD.block g (Array.getElem?_eq_some_iff.1 e4).1 (by intro e; injection e with e; omega)).trans e4
      have hgf : w.grownBy (W.putObj D (.deferred none)) (some r) := (HG0.out.andThen hg fun j e => .inl (by injection e with e; have := HGE.out; omega)).andThen hGD fun j e => .inl (by injection e with e; omega)
      refine ⟨.agg #[m1 i, m2 i, m3 i], results_cell_row rfl _ _ g 45 #[m1 i, m2 i, m3 i] (0, 0) _ rfl hge Try.underlying45 rfl (by rw [size45]; rfl), ?_⟩
      obtain ⟨k', rfl⟩ : ∃ k', k = k' + 1 := by
        cases k with
        | zero => simp [back] at e1
        | succ k' => exact ⟨k', rfl⟩
      rw [back_succ] at e1
      obtain ⟨e5, e6⟩ := List.append_inj' e1 rfl
      obtain rfl : ms.length - 1 - k' = i := by simpa using e6
      subst e5
      have hf := find_some HM.out (f := fun m => bsOf m.1 == nmOf l && rightP m.2 && !(m.2.kind == 9)) (k := k') (by omega) (by rw [HOK.out] at e3; exact e3) (fun j hj => by
        have := e2 (ms.length - 1 - j) (by simp only [back, List.mem_map, List.mem_range]; exact ⟨j, hj, rfl⟩)
        rw [HOK.out] at this
        exact this)
      have hnm : namedF numB macs l = .ok (M (ms.length - 1 - k')).2 (rsOf l) := by
        unfold namedF
        rw [if_neg HNA.out, HMC.out, hf]
        rfl
      rw [← HL.out, hnm]
      refine ⟨hgf, _, rfl, ?_, a1, ha2, HD1.out, ?_⟩
      · exact (HMP.out _).2.imp (fun b hb hlt => hgf.block b hlt (by intro e; injection e with e; exact (HSM.out b hb).1 e)) fun _ h _ => .inl h
      · refine Rd.putObj ((hg.block r HR0.out.lt (by have := HNE.out; intro e; injection e with e; exact this e.symm)).trans HR0.out) (by omega) _
end Go.Proofs.Ytjcdcmeclnihbaa
