/- The document's places in memory; two lists joined; what may follow. Conditions: short lists. -/
import Derived.Test.YthdhbkngbmjjkaaRp
import Derived.Deep.RegionHeld3
namespace Go.Proofs.Ythdhbkngbmjjkaa
open Go.RowKit
set_option linter.unusedSimpArgs false
def lfR (L : List (Int × Int)) (f : Nat → Option Addr × Nat × Nat) (i : Nat) : Value × Value × Value := (.int .i64 (L[i]?.getD (0, 0)).1, .int .i64 (L[i]?.getD (0, 0)).2, .slice (f i).1 (f i).2.1 (f i).2.2)
def twoV (z : Int × Int) : List Value := [.int .i64 z.1, .int .i64 z.2]
/-- The document's places while they are found: a struct of seven cells, three rows of one's own. -/
def RA (w : World) (B a : Nat) (v1 v2 v5 : Value) (H : Value × Value × Value × Value) (s : Rs) : Prop :=
  B ≤ a ∧ w.heap[a]? = some (.cells #[H.1, v1, v2, H.2.1, H.2.2.1, v5, H.2.2.2] 39 (0, 0)) ∧ (∃ f, w.ownsRow B 48 3 v1 s.lv.length (flat3 s.lv.length (lfR s.lv f))) ∧ w.ownsRow B 3 1 v2 s.of.length (s.of.map (.int .i64)) ∧ w.ownsRow B 101 2 v5 s.prs.length (s.prs.flatMap twoV)
/-- The blocks that are written. -/
def Tch (a : Nat) (v1 v2 v5 : Value) (b : Nat) : Prop := b = a ∨ v1.ownBlock = some b ∨ v2.ownBlock = some b ∨ v5.ownBlock = some b
/-- All but some blocks is as it was. -/
def Keeps (T : Nat → Prop) (w w' : World) : Prop := Below 0 w w' ∧ ∀ b, b < w.heap.size → ¬ T b → w'.heap[b]? = w.heap[b]?
theorem Keeps.refl (T : Nat → Prop) (w : World) : Keeps T w w := ⟨Below.refl _ _, fun _ _ _ => rfl⟩
theorem Keeps.trans {T T1 : Nat → Prop} {w w1 w2 : World} (h : Keeps T w w1) (k : Keeps T1 w1 w2) (hT : ∀ b, T1 b → T b ∨ w.heap.size ≤ b) : Keeps T w w2 :=
  ⟨h.1.trans k.1, fun b hb hn => (k.2 b (Nat.lt_of_lt_of_le hb h.1.size) fun e => by rcases hT b e with e | e; exact hn e; omega).trans (h.2 b hb hn)⟩
theorem Keeps.of_below {T : Nat → Prop} {w w' : World} (h : Below w.heap.size w w') : Keeps T w w' := ⟨h.mono (Nat.zero_le _), fun b hb _ => h.block b hb⟩
theorem Keeps.below {T : Nat → Prop} {B : Nat} {w w' : World} (h : Keeps T w w') (hT : ∀ b, T b → B ≤ b) (hB : B ≤ w.heap.size) : Below B w w' :=
  ⟨h.1.os, h.1.tape, h.1.output, h.1.size, fun b hb => h.2 b (by omega) fun e => by have := hT b e; omega⟩
theorem Keeps.nums {T S : Nat → Prop} {w w' : World} {v : Value} {l : List Int} (h : Keeps T w w') (hv : IsNums .i64 w S v l) (hS : ∀ b, S b → b < w.heap.size → ¬ T b) : IsNums .i64 w' S v l := hv.keep fun b hb hlt => h.2 b hlt (hS b hb hlt)
section
variable {w : World} {B a : Nat} {v1 v2 v5 : Value} {H : Value × Value × Value × Value} {s : Rs}
theorem RA.lt (h : RA w B a v1 v2 v5 H s) : ∀ b, Tch a v1 v2 v5 b → B ≤ b ∧ b < w.heap.size := fun b hb => by
  obtain ⟨h1, h2, ⟨f, h3⟩, h4, h5⟩ := h
  rcases hb with rfl | e | e | e
  · exact ⟨h1, (Array.getElem?_eq_some_iff.1 h2).1⟩
  · exact h3.lt b e
  · exact h4.lt b e
  · exact h5.lt b e
theorem RA.below {w' : World} (h : RA w B a v1 v2 v5 H s) (hb : Below w.heap.size w w') : RA w' B a v1 v2 v5 H s := by
  obtain ⟨h1, h2, ⟨f, h3⟩, h4, h5⟩ := h
  exact ⟨h1, (hb.block a (Array.getElem?_eq_some_iff.1 h2).1).trans h2, ⟨f, h3.kept (grown_of_below hb none) (Classical.em _)⟩, h4.kept (grown_of_below hb none) (Classical.em _), h5.kept (grown_of_below hb none) (Classical.em _)⟩
theorem slot7 {Y : World} {p : Nat} {a b c d e f g : Value} {t : TypeId} (h : Y.heap[p]? = some (.cells #[a, b, c, d, e, f, g] t (0, 0))) :
    Y.cell? ⟨p, 0, none⟩ = some a ∧ Y.cell? ⟨p, 1, none⟩ = some b ∧ Y.cell? ⟨p, 2, none⟩ = some c ∧ Y.cell? ⟨p, 3, none⟩ = some d ∧ Y.cell? ⟨p, 4, none⟩ = some e ∧ Y.cell? ⟨p, 5, none⟩ = some f ∧ Y.cell? ⟨p, 6, none⟩ = some g ∧ ∀ j, Y.frozen? ⟨p, j, none⟩ = false := by
  refine ⟨?_, ?_, ?_, ?_, ?_, ?_, ?_, fun _ => frozen_of_row _ _ _ _ _ h⟩ <;> (rw [cell_of_row _ _ _ _ _ _ h]; rfl)
theorem src_new2 (w : World) (a b : Value) (T : TypeId) : Src (w.alloc (.cells #[a, b] T)) 2 (some ⟨w.heap.size, 0, none⟩) 1 [a, b] :=
  ⟨rfl, fun _ => ⟨_, rfl, fun j u hu => by
    have hb : (w.alloc (.cells #[a, b] T)).heap[w.heap.size]? = some (.cells #[a, b] T (0, 0)) := heap_alloc_new w _
    rw [Addr.add_lit, Nat.zero_add, cell_of_row _ _ j _ _ _ hb, ← Array.getElem?_toList]; exact hu⟩⟩
theorem prs_snoc (l : List (Int × Int)) (x y : Int) : (l ++ [(x, y)]).flatMap twoV = l.flatMap twoV ++ [.int .i64 x, .int .i64 y] := by simp [twoV]
/-- A pair more. -/
theorem RA.addPair {X w1 w2 : World} {v5' : Value} {x y : Int} {N : Nat} (h : RA w B a v1 v2 v5 H s) (hX : Below w.heap.size w X) (hN : N = s.prs.length) (ho : w1.ownsRow B 101 2 v5' (N + 1) (s.prs.flatMap twoV ++ [.int .i64 x, .int .i64 y])) (hg : X.grownBy w1 v5.ownBlock)
    (hv : v5'.ownBlock = v5.ownBlock ∨ v5'.ownBlock = some X.heap.size) (h2 : w2 = w1.setCell ⟨a, 5, none⟩ v5') :
    (w1.heap[a]? = some (.cells #[H.1, v1, v2, H.2.1, H.2.2.1, v5, H.2.2.2] 39 (0, 0)) ∧ ∀ b, b < w.heap.size → ¬ Tch a v1 v2 v5 b → w1.heap[b]? = w.heap[b]?) ∧
    RA w2 B a v1 v2 v5' H ⟨s.lv, s.of, s.prs ++ [(x, y)]⟩ ∧ Keeps (Tch a v1 v2 v5) w w2 ∧ ∀ b, Tch a v1 v2 v5' b → Tch a v1 v2 v5 b ∨ w.heap.size ≤ b := by
  subst hN
  have hb0 := hX.size
  have hT := h.lt
  obtain ⟨r1, r2, ⟨f, r3⟩, r4, r5⟩ := h
  have hal := (Array.getElem?_eq_some_iff.1 r2).1
  have n5a : v5.ownBlock ≠ some a := own_blk_ne r5 r2 (by decide)
  have h1 : ∀ b, b < w.heap.size → v5.ownBlock ≠ some b → w1.heap[b]? = w.heap[b]? := fun b hb hn => (hg.block b (by omega) fun e => hn e.symm).trans (hX.block b hb)
  have ha1 := (h1 a hal n5a).trans r2
  have hset := heap_setCell_same w1 a 5 _ 39 v5' ha1
  have hoth : ∀ b, b ≠ a → w2.heap[b]? = w1.heap[b]? := fun b hb => by rw [h2]; exact heap_setCell_other _ _ _ _ hb
  have e3 : w2.ownsRow B 48 3 v1 s.lv.length (flat3 s.lv.length (lfR s.lv f)) := by
    have k1 := r3.kept (grown_of_below hX none) (Classical.em _)
    have k2 := k1.kept hg (own_own k1 (r5.kept (grown_of_below hX none) (Classical.em _)) (by decide))
    rw [h2]
    exact ownsRow_setCell_other k2 (own_blk_ne k2 ha1 (by decide)) _
  have e4 : w2.ownsRow B 3 1 v2 s.of.length (s.of.map (.int .i64)) := by
    have k1 := r4.kept (grown_of_below hX none) (Classical.em _)
    have k2 := k1.kept hg (own_own k1 (r5.kept (grown_of_below hX none) (Classical.em _)) (by decide))
    rw [h2]
    exact ownsRow_setCell_other k2 (own_blk_ne k2 ha1 (by decide)) _
  have e5 : w2.ownsRow B 101 2 v5' (s.prs ++ [(x, y)]).length ((s.prs ++ [(x, y)]).flatMap twoV) := by
    rw [prs_snoc, List.length_append, List.length_singleton, h2]
    exact ownsRow_setCell_other ho (own_blk_ne ho ha1 (by decide)) _
  have hlt1 : X.heap.size ≤ w1.heap.size := hg.size
  refine ⟨⟨ha1, fun b hb hn => h1 b hb fun e => hn (.inr (.inr (.inr e)))⟩, ⟨r1, by rw [h2]; exact hset, ⟨f, e3⟩, e4, e5⟩, ⟨?_, fun b hb hn => (hoth b fun e => hn (.inl e)).trans (h1 b hb fun e => hn (.inr (.inr (.inr e))))⟩, fun b hb => ?_⟩
  · rw [h2]
    exact (((hX.mono (Nat.zero_le _)).trans ⟨hg.os, hg.tape, hg.output, hg.size, fun b hb => by omega⟩ : Below 0 w w1)).setCell (p := ⟨a, 5, none⟩) (Nat.zero_le _) _
  · rcases hb with e | e | e | e
    · exact .inl (.inl e)
    · exact .inl (.inr (.inl e))
    · exact .inl (.inr (.inr (.inl e)))
    · rcases hv with hv | hv
      · exact .inl (.inr (.inr (.inr (hv ▸ e))))
      · rw [hv] at e; injection e with e; exact .inr (by omega)
end
theorem info101 : (Try.prog.info? 101).map (fun i => (i.zero, i.size, i.bytes)) = some (some (.agg #[.int .i64 0, .int .i64 0]), 2, 16) := by kernel_rfl
set_option maxRecDepth 100000 in
set_option maxHeartbeats 4000000 in
/-- Two lists joined. -/
theorem join_any (S S' : Nat → Prop) (va vb : Value) (x y : List Int) (w : World) (ha : IsNums .i64 w S va x) (hb : IsNums .i64 w S' vb y) (hl : x.length + y.length ≤ 1000000) :
    Calls Try.prog 52 #[va, vb] w fun e w' => ∃ v', e = .returned v' ∧ IsNums .i64 w' (fun b => w.heap.size ≤ b) v' (x ++ y) ∧ Below w.heap.size w w' := by
  obtain ⟨A, c, rfl⟩ := ha.form
  obtain ⟨A', c', rfl⟩ := hb.form
  obtain ⟨W, hW⟩ : ∃ W, W = w.alloc (.cells #[] 3) := ⟨_, rfl⟩
  have HWB := hid (show Below w.heap.size w W by rw [hW]; exact (Below.refl _ _).alloc (Nat.le_refl _) _)
  have HO := hid (show W.ownsRow w.heap.size 3 1 (.slice (some ⟨w.heap.size, 0, none⟩) 0 0) ([] : List Int).length (([] : List Int).map (.int .i64)) from ⟨rfl, .inr ⟨w.heap.size, 0, #[], rfl, Nat.le_refl _, by rw [hW]; exact heap_alloc_new _ _, Nat.le_refl _, by decide, rfl, rfl⟩⟩)
  have HA := hid (ha.below HWB.out)
  have HB := hid ((hb.mono (S' := fun b => S' b ∧ b < w.heap.size) fun b h1 h2 => ⟨h1, h2⟩).below HWB.out)
  have hl1 : ([] : List Int).length + x.length ≤ 1000000 := by simp; omega
  have hl2 : ([] ++ x).length + y.length ≤ 1000000 := by simpa using hl
  have HL1 := hid hl1
  have HL2 := hid hl2
  have HWS := hid HWB.out.size
  clear ha hb hl hl1 hl2
  go_enter Try.func52, Try.ntmps52
  go_wp2_with (first
    | (at_builtin; rw [← hW]; clear hW; refine wpList_app_nums rfl (.tmp 5) (.tmp 6) rfl (xs := []) rfl HO.out rfl HA.out HL1.out HWS.out ?_; intro v6 w6 ho6 hb6 hs6; have HO6 := hid ho6; have HB6 := hid (HWB.out.trans hb6); have HV6 := hid (HB.out.keep (w' := w6) fun b hb _ => hb6.block b hb.2); have HS6 := hid hs6; clear ho6 hb6 hs6)
    | (at_builtin; refine wpList_app_nums rfl (.tmp 7) (.tmp 8) rfl (xs := [] ++ x) rfl HO6.out rfl HV6.out HL2.out HS6.out ?_; intro v7 w7 ho7 hb7 hs7; have HN7 := hid (own_nums ho7); have HB7 := hid (HB6.out.trans hb7); clear ho7 hb7 hs7)
    | fail)
  go_ret
  exact ⟨_, rfl, HN7.out.mono fun b hb _ => hb.1, HB7.out⟩
/-- The places with some pairs more. -/
def PairAt (w wr : World) (B a : Nat) (v1 v2 v5 : Value) (H : Value × Value × Value × Value) (s : Rs) (ps : List (Int × Int)) : Prop :=
  ∃ v5', RA wr B a v1 v2 v5' H ⟨s.lv, s.of, s.prs ++ ps⟩ ∧ Keeps (Tch a v1 v2 v5) w wr ∧ ∀ b, Tch a v1 v2 v5' b → Tch a v1 v2 v5 b ∨ w.heap.size ≤ b
theorem pairP_row {l m : List Int} {i : Nat} (hi : i < l.length) : pairP (l.take (i + 1)) m = pairP (l.take i) m ++ m.map fun y => (nth l i, y) := by
  unfold pairP
  rw [take_nth hi, List.flatMap_append]
  simp
theorem pairP_len (l m : List Int) : (pairP l m).length = l.length * m.length := by
  unfold pairP
  induction l with
  | nil => simp
  | cons x r ih => rw [List.flatMap_cons, List.length_append, ih, List.length_map, List.length_cons, Nat.succ_mul]; omega
theorem pair_few {l m : List Int} (hl : l.length ≤ 160) (hm : m.length ≤ 160) {i k : Nat} (hi : i ≤ l.length) : (pairP (l.take i) m ++ (m.take k).map fun y => (nth l i, y)).length ≤ 25760 := by
  rw [List.length_append, pairP_len, List.length_map, List.length_take, List.length_take]
  have h1 : min i l.length * m.length ≤ 160 * 160 := Nat.mul_le_mul (by omega) hm
  omega
theorem map_take_snoc {m : List Int} {k : Nat} (f : Int → Int × Int) (h : k < m.length) : (m.take (k + 1)).map f = (m.take k).map f ++ [f (nth m k)] := by rw [take_nth h]; simp
set_option maxRecDepth 100000 in
set_option maxHeartbeats 8000000 in
theorem pair_any {w : World} {B a : Nat} {v1 v2 v5 : Value} {H : Value × Value × Value × Value} {s : Rs} {va vb : Value} {l m : List Int} (h : RA w B a v1 v2 v5 H s) (ha : IsNums .i64 w (fun b => ¬ Tch a v1 v2 v5 b) va l) (hb : IsNums .i64 w (fun b => ¬ Tch a v1 v2 v5 b) vb m)
    (hl : l.length ≤ 160) (hm : m.length ≤ 160) (hs : s.prs.length ≤ 20000000) :
    Calls Try.prog 76 #[.pointer (some ⟨a, 0, none⟩), va, vb] w fun e w' => e = .returned (.tuple #[]) ∧ PairAt w w' B a v1 v2 v5 H s (pairP l m) := by
  obtain ⟨i0, hi0, hz0, hz1, hz2⟩ := info_parts info101
  obtain ⟨A, c, rfl⟩ := ha.form
  obtain ⟨A', c', rfl⟩ := hb.form
  have HRA := hid h
  have HA := hid ha
  have HBV := hid hb
  have HP0 := hid (show PairAt w w B a v1 v2 v5 H s [] from ⟨v5, by rw [List.append_nil]; exact h, Keeps.refl _ _, fun b hb => .inl hb⟩)
  have HSL := hid hs
  have HBA := hid h.1
  clear h ha hb hs
  go_enter Try.func76, Try.ntmps76
  go_wp2_with fail
  go_loopw [6] (fun s6 wr => ∃ (i : Nat), i ≤ l.length ∧ s6 = .int .i64 i ∧ Hid (PairAt w wr B a v1 v2 v5 H s (pairP (l.take i) m))) (fun s6 _ => l.length - (intOf s6).toNat)
  case atStart => exact ⟨0, by omega, rfl, HP0⟩
  case round =>
    clear HP0
    obtain ⟨i, hi, rfl, HP⟩ := hrel
    by_cases hlt : i < l.length
    · have HP1 := hid (show PairAt w wr B a v1 v2 v5 H s (pairP (l.take i) m ++ (m.take 0).map fun y => (nth l i, y)) by simpa using HP.out)
      have HROW := hid (pairP_row (m := m) hlt)
      clear HP
      go_wp2_with fail
      go_loopw [7] (fun s7 wk => ∃ (k : Nat), k ≤ m.length ∧ s7 = .int .i64 k ∧ Hid (PairAt w wk B a v1 v2 v5 H s (pairP (l.take i) m ++ (m.take k).map fun y => (nth l i, y)))) (fun s7 _ => m.length - (intOf s7).toNat)
      case atStart => exact ⟨0, by omega, rfl, HP1⟩
      case round =>
        clear HP1
        obtain ⟨k, hk, rfl, HP⟩ := hrel
        have HFEW := hid (pair_few (k := k) hl hm hi)
        obtain ⟨ps, hps⟩ : ∃ ps, ps = pairP (l.take i) m ++ (m.take k).map fun y => (nth l i, y) := ⟨_, rfl⟩
        rw [← hps] at HP HFEW
        have HPS := hid hps
        clear hps
        by_cases hkt : k < m.length
        · have HSN := hid (map_take_snoc (m := m) (fun y => (nth l i, y)) hkt)
          obtain ⟨v5k, hra, hke, hgr⟩ := HP.out
          obtain ⟨pA, pc, rfl, -⟩ := own_arr hra.2.2.2.2
          obtain ⟨np, hnp⟩ : ∃ np, np = (s.prs ++ ps).length := ⟨_, rfl⟩
          have hnpl : np ≤ 20025760 := by
            have h1 := HFEW.out
            have h2 := HSL.out
            rw [hnp, List.length_append]; omega
          have HNP := hid hnp
          rw [show (Rs.mk s.lv s.of (s.prs ++ ps)).prs.length = np from hnp.symm] at hra hgr
          have HWK := hid hke
          obtain ⟨lb, lo, lc, el, hlb1, hlb2, lx⟩ := (hke.nums HA.out fun b hb _ => hb).at hlt
          obtain ⟨rfl, rfl⟩ : A = some ⟨lb, lo, none⟩ ∧ c = lc := by simpa using el
          obtain ⟨mb, mo, mc, em, hmb1, hmb2, my⟩ := (hke.nums HBV.out fun b hb _ => hb).at hkt
          obtain ⟨rfl, rfl⟩ : A' = some ⟨mb, mo, none⟩ ∧ c' = mc := by simpa using em
          obtain ⟨x, hx⟩ : ∃ x, x = nth l i := ⟨_, rfl⟩
          obtain ⟨y, hy⟩ : ∃ y, y = nth m k := ⟨_, rfl⟩
          rw [← hx] at lx
          rw [← hy] at my
          have HXY := hid (And.intro hx hy)
          have hlw : lb < w.heap.size := by
            obtain ⟨b, o, c2, e2, -, h2, -⟩ := HA.out.at hlt
            obtain ⟨⟨rfl, -⟩, -⟩ : (lb = b ∧ lo = o) ∧ c = c2 := by simpa using e2
            exact h2
          have hmw : mb < w.heap.size := by
            obtain ⟨b, o, c2, e2, -, h2, -⟩ := HBV.out.at hkt
            obtain ⟨⟨rfl, -⟩, -⟩ : (mb = b ∧ mo = o) ∧ c' = c2 := by simpa using e2
            exact h2
          have hlk : ¬ Tch a v1 v2 (.slice pA np pc) lb := fun e => by rcases hgr _ e with e | e; exact hlb1 e; omega
          have hmk : ¬ Tch a v1 v2 (.slice pA np pc) mb := fun e => by rcases hgr _ e with e | e; exact hmb1 e; omega
          obtain ⟨X, hX⟩ : ∃ X, X = (wr.alloc (.cells #[.int .i64 x, .int .i64 y] 101)).drew := ⟨_, rfl⟩
          have HBW := hid (show Below wr.heap.size wr X by rw [hX]; exact ((Below.refl _ _).alloc (Nat.le_refl _) _).drew)
          have hq5 := (slot7 hra.2.1).2.2.2.2.2.1
          have hal := (Array.getElem?_eq_some_iff.1 hra.2.1).1
          have HC5 := hid hq5
          have HC5b := hid (show (wr.alloc (.cells #[.int .i64 x, .int .i64 y] 101)).cell? ⟨a, 5, none⟩ = some (.slice pA np pc) by
            have := (cell_same (HBW.out.block a hal)).trans hq5
            rw [hX] at this; exact this)
          have HS0 := hid (And.intro lx my)
          have HSF := hid (show ∀ Y : World, (∀ b, b < wr.heap.size → ¬ Tch a v1 v2 (.slice pA np pc) b → Y.heap[b]? = wr.heap[b]?) → Y.cell? ⟨lb, lo + i, none⟩ = some (.int .i64 x) ∧ Y.cell? ⟨mb, mo + k, none⟩ = some (.int .i64 y) from fun Y hY =>
            ⟨(cell_same (hY lb hlb2 hlk)).trans lx, (cell_same (hY mb hmb2 hmk)).trans my⟩)
          have HS1 := hid (HSF.out X fun b hb _ => HBW.out.block b hb)
          obtain ⟨pcs, hpcs⟩ : ∃ pcs, pcs = (s.prs ++ ps).flatMap twoV := ⟨_, rfl⟩
          have HOX := hid (show X.ownsRow B 101 2 (.slice pA np pc) np pcs by
            rw [hX, hpcs]
            have h1 := hra.2.2.2.2
            rw [show (Rs.mk s.lv s.of (s.prs ++ ps)).prs.length = np from hnp.symm] at h1
            exact (h1.alloc _).drew)
          have HBX := hid (show B ≤ X.heap.size by have h1 := HBW.out.size; have h2 := hra.1; omega)
          have HC3f := hid (fun (v' : Value) (w' : World) (hown : w'.ownsRow B 101 2 v' (np + 1) (pcs ++ [.int .i64 x, .int .i64 y])) (hgrow : X.grownBy w' (Value.slice pA np pc).ownBlock) (hat : v'.ownBlock = (Value.slice pA np pc).ownBlock ∨ v'.ownBlock = some X.heap.size) => show (w'.cell? ⟨lb, lo + i, none⟩ = some (.int .i64 x) ∧ w'.cell? ⟨mb, mo + k, none⟩ = some (.int .i64 y)) ∧ (∃ u, w'.cell? ⟨a, 5, none⟩ = some u ∧ w'.frozen? ⟨a, 5, none⟩ = false) ∧
              ((w'.setCell ⟨a, 5, none⟩ v').cell? ⟨lb, lo + i, none⟩ = some (.int .i64 x) ∧ (w'.setCell ⟨a, 5, none⟩ v').cell? ⟨mb, mo + k, none⟩ = some (.int .i64 y)) ∧ PairAt w (w'.setCell ⟨a, 5, none⟩ v') B a v1 v2 v5 H s (ps ++ [(x, y)]) from by
            rw [hpcs] at hown
            obtain ⟨⟨q1, q2⟩, q3, q4, q5⟩ := hra.addPair (x := x) (y := y) (N := np) HBW.out hnp hown hgrow hat rfl
            refine ⟨HSF.out _ q2, ⟨_, (slot7 q1).2.2.2.2.2.1, (slot7 q1).2.2.2.2.2.2.2 5⟩, HSF.out _ q4.2, ⟨v', ?_, hke.trans q4 hgr, fun b hb => ?_⟩⟩
            · rw [← List.append_assoc]; exact q3
            · rcases q5 b hb with e | e
              · exact hgr b e
              · exact .inr (Nat.le_trans hke.1.size e))
          clear hra hke hgr hnp el em hlb1 hlb2 hmb1 hmb2 lx my hx hy hlw hmw hlk hmk hq5 hal hpcs
          have hi' : (i : Int) < (l.length : Int) := by omega
          have hk' : (k : Int) < (m.length : Int) := by omega
          go_wp2_with fail
          refine wp_region_held_drew (S := (fun Y => Y.cell? ⟨lb, lo + i, none⟩ = some (.int .i64 x) ∧ Y.cell? ⟨mb, mo + k, none⟩ = some (.int .i64 y))) (by kernel_rfl) (by exact HS0.out) (fun hHeld => ?_)
          refine wpAnyH_take (i := 0) (oi := { dst := some 20, op := Op.move (Operand.tmp 0), type := _, pos := _, after := _, guard := none }) (v := ?_) rfl (by kernel_rfl) (by kernel_rfl) (by kernel_rfl) (fun _ _ _ h => h) (Or.inl ⟨by rfl, ?_⟩) (by assumption) ?_
          rotate_left
          · intro w hSw; (try dsimp only at hSw); go_simp; try with_reducible rfl
          try simp only [Act.put, List.setIfInBounds_toArray, List.set_cons_zero, List.set_cons_succ]
          refine wpAnyH_take (i := 1) (oi := { dst := some 21, op := Op.move (Operand.tmp 0), type := _, pos := _, after := _, guard := none }) (v := ?_) rfl (by kernel_rfl) (by kernel_rfl) (by kernel_rfl) (fun _ _ _ h => h) (Or.inl ⟨by rfl, ?_⟩) (by assumption) ?_
          rotate_left
          · intro w hSw; (try dsimp only at hSw); go_simp; try with_reducible rfl
          try simp only [Act.put, List.setIfInBounds_toArray, List.set_cons_zero, List.set_cons_succ]
          refine wpAnyH_take (i := 2) (oi := { dst := some 22, op := Op.nilCheck (Operand.tmp 21), type := _, pos := _, after := _, guard := none }) (v := ?_) rfl (by kernel_rfl) (by kernel_rfl) (by kernel_rfl) (fun _ _ _ h => h) (Or.inl ⟨by rfl, ?_⟩) (by assumption) ?_
          rotate_left
          · intro w hSw; (try dsimp only at hSw); go_simp; try with_reducible rfl
          try simp only [Act.put, List.setIfInBounds_toArray, List.set_cons_zero, List.set_cons_succ]
          refine wpAnyH_take (i := 3) (oi := { dst := some 23, op := Op.fieldAddr 39 (Operand.tmp 22) 5, type := _, pos := _, after := _, guard := none }) (v := ?_) rfl (by kernel_rfl) (by kernel_rfl) (by kernel_rfl) (fun _ _ _ h => h) (Or.inl ⟨by rfl, ?_⟩) (by assumption) ?_
          rotate_left
          · intro w hSw; (try dsimp only at hSw); go_simp; try with_reducible rfl
          try simp only [Act.put, List.setIfInBounds_toArray, List.set_cons_zero, List.set_cons_succ]
          refine wpAnyH_take (i := 5) (oi := { dst := some 25, op := Op.move (Operand.tmp 1), type := _, pos := _, after := _, guard := none }) (v := ?_) rfl (by kernel_rfl) (by kernel_rfl) (by kernel_rfl) (fun _ _ _ h => h) (Or.inl ⟨by rfl, ?_⟩) (by assumption) ?_
          rotate_left
          · intro w hSw; (try dsimp only at hSw); go_simp; try with_reducible rfl
          try simp only [Act.put, List.setIfInBounds_toArray, List.set_cons_zero, List.set_cons_succ]
          refine wpAnyH_take (i := 6) (oi := { dst := some 26, op := Op.move (Operand.tmp 6), type := _, pos := _, after := _, guard := none }) (v := ?_) rfl (by kernel_rfl) (by kernel_rfl) (by kernel_rfl) (fun _ _ _ h => h) (Or.inl ⟨by rfl, ?_⟩) (by assumption) ?_
          rotate_left
          · intro w hSw; (try dsimp only at hSw); go_simp; try with_reducible rfl
          try simp only [Act.put, List.setIfInBounds_toArray, List.set_cons_zero, List.set_cons_succ]
          refine wpAnyH_take (i := 7) (oi := { dst := some 27, op := Op.indexAddr 23 (Operand.tmp 25) (Operand.tmp 26), type := _, pos := _, after := _, guard := none }) (v := ?_) rfl (by kernel_rfl) (by kernel_rfl) (by kernel_rfl) (fun _ _ _ h => h) (Or.inl ⟨by rfl, ?_⟩) (by assumption) ?_
          rotate_left
          · intro w hSw; (try dsimp only at hSw); go_simp; try with_reducible rfl
          try simp only [Act.put, List.setIfInBounds_toArray, List.set_cons_zero, List.set_cons_succ]
          refine wpAnyH_take (i := 8) (oi := { dst := some 28, op := Op.load 3 (Operand.tmp 27), type := _, pos := _, after := _, guard := none }) (v := ?_) rfl (by kernel_rfl) (by kernel_rfl) (by kernel_rfl) (fun _ _ _ h => h) (Or.inl ⟨by rfl, ?_⟩) (by assumption) ?_
          rotate_left
          · intro w hSw; (try dsimp only at hSw); go_simp; try with_reducible rfl
          try simp only [Act.put, List.setIfInBounds_toArray, List.set_cons_zero, List.set_cons_succ]
          refine wpAnyH_take (i := 9) (oi := { dst := some 29, op := Op.move (Operand.tmp 2), type := _, pos := _, after := _, guard := none }) (v := ?_) rfl (by kernel_rfl) (by kernel_rfl) (by kernel_rfl) (fun _ _ _ h => h) (Or.inl ⟨by rfl, ?_⟩) (by assumption) ?_
          rotate_left
          · intro w hSw; (try dsimp only at hSw); go_simp; try with_reducible rfl
          try simp only [Act.put, List.setIfInBounds_toArray, List.set_cons_zero, List.set_cons_succ]
          refine wpAnyH_take (i := 10) (oi := { dst := some 30, op := Op.move (Operand.tmp 7), type := _, pos := _, after := _, guard := none }) (v := ?_) rfl (by kernel_rfl) (by kernel_rfl) (by kernel_rfl) (fun _ _ _ h => h) (Or.inl ⟨by rfl, ?_⟩) (by assumption) ?_
          rotate_left
          · intro w hSw; (try dsimp only at hSw); go_simp; try with_reducible rfl
          try simp only [Act.put, List.setIfInBounds_toArray, List.set_cons_zero, List.set_cons_succ]
          refine wpAnyH_take (i := 11) (oi := { dst := some 31, op := Op.indexAddr 23 (Operand.tmp 29) (Operand.tmp 30), type := _, pos := _, after := _, guard := none }) (v := ?_) rfl (by kernel_rfl) (by kernel_rfl) (by kernel_rfl) (fun _ _ _ h => h) (Or.inl ⟨by rfl, ?_⟩) (by assumption) ?_
          rotate_left
          · intro w hSw; (try dsimp only at hSw); go_simp; try with_reducible rfl
          try simp only [Act.put, List.setIfInBounds_toArray, List.set_cons_zero, List.set_cons_succ]
          refine wpAnyH_take (i := 12) (oi := { dst := some 32, op := Op.load 3 (Operand.tmp 31), type := _, pos := _, after := _, guard := none }) (v := ?_) rfl (by kernel_rfl) (by kernel_rfl) (by kernel_rfl) (fun _ _ _ h => h) (Or.inl ⟨by rfl, ?_⟩) (by assumption) ?_
          rotate_left
          · intro w hSw; (try dsimp only at hSw); go_simp; try with_reducible rfl
          try simp only [Act.put, List.setIfInBounds_toArray, List.set_cons_zero, List.set_cons_succ]
          refine wpAnyH_take (i := 13) (oi := { dst := some 33, op := Op.build 101 #[(0, Operand.tmp 28), (1, Operand.tmp 32)], type := _, pos := _, after := _, guard := none }) (v := ?_) rfl (by kernel_rfl) (by kernel_rfl) (by kernel_rfl) (fun _ _ _ h => h) (Or.inl ⟨by rfl, ?_⟩) (by assumption) ?_
          rotate_left
          · intro w hSw; (try dsimp only at hSw); go_simp; try with_reducible rfl
          try simp only [Act.put, List.setIfInBounds_toArray, List.set_cons_zero, List.set_cons_succ]
          refine wpAnyH_ready (rs := [4, 14]) (by kernel_rfl) (by simp) ?_
          refine AllReadyH.cons (o := { dst := some 24, op := Op.load 36 (Operand.tmp 23), type := _, pos := _, after := _, guard := none }) rfl ?legA1n1 (AllReadyH.cons (o := { dst := some 34, op := Op.buildSlice 36 1 #[(0, Operand.tmp 33)], type := _, pos := _, after := _, guard := none }) rfl ?legB1n1 AllReadyH.nil)
          case' legA1n1 =>
            intro K hK
            go_simp
            first | rw [HC5.out] | rw [HC5b.out]
            go_simp
            try rw [← hX]
            refine hK.out _ _ (by first | exact HS0.out | exact HS1.out) (fun hHeld => ?_)
            clear hK K
            try simp only [Act.put, List.setIfInBounds_toArray, List.set_cons_zero, List.set_cons_succ]
            refine wpAnyH_ready (rs := [14]) (by kernel_rfl) (by simp) ?_
            refine AllReadyH.cons (o := { dst := some 34, op := Op.buildSlice 36 1 #[(0, Operand.tmp 33)], type := _, pos := _, after := _, guard := none }) rfl (fun K hK => ?_) AllReadyH.nil
            go_simp
            rw [← hX]
            refine hK.out _ _ (by exact HS1.out) (fun hHeld => ?_)
            clear hK K
            try simp only [Act.put, List.setIfInBounds_toArray, List.set_cons_zero, List.set_cons_succ]
            refine wpAnyH_ready (rs := [15]) (by kernel_rfl) (by simp) ?_
            refine AllReadyH.cons (o := { dst := some 35, op := Op.call { callee := Callee.builtin Builtin.append, args := #[Operand.tmp 24, Operand.tmp 34], argTypes := #[36, 36] }, type := _, pos := _, after := _, guard := none }) rfl (fun K hK => ?_) AllReadyH.nil
            rw [if_pos (by rfl)]
            try rw [← hX]
            refine wp_app X (.tmp 24) (.tmp 34) 36 rfl B 101 i0 _ 2 16 Try.underlying36 hi0 hz0 hz1 hz2 rfl (by decide) _ np pcs rfl HOX.out _ 1 1 [.int .i64 x, .int .i64 y] rfl (by rw [hX]; exact src_new2 wr (.int .i64 x) (.int .i64 y) 101) (by intro u hu; simp at hu; rcases hu with rfl | rfl <;> rfl) (by simp only [maxLen]; omega) (by omega) HBX.out ?_
            intro v' w' hown hgrow hat
            obtain ⟨A5, c5, rfl, -⟩ := own_arr hown
            have HC3 := hid (HC3f.out _ w' hown hgrow hat)
            have HC2b := hid HC3.out.1
            obtain ⟨u5, hu5, hf5⟩ := HC3.out.2.1
            clear hown hgrow hat
            refine hK.out _ _ (by exact HC2b.out) (fun hHeld => ?_)
            clear hK K
            try simp only [Act.put, List.setIfInBounds_toArray, List.set_cons_zero, List.set_cons_succ]
            refine wpAnyH_take (i := 16) (oi := { dst := some 36, op := Op.nilCheck (Operand.tmp 20), type := _, pos := _, after := _, guard := none }) (v := ?_) rfl (by kernel_rfl) (by kernel_rfl) (by kernel_rfl) (fun _ _ _ h => h) (Or.inl ⟨by rfl, ?_⟩) (by assumption) ?_
            rotate_left
            · intro w hSw; (try dsimp only at hSw); go_simp; try with_reducible rfl
            try simp only [Act.put, List.setIfInBounds_toArray, List.set_cons_zero, List.set_cons_succ]
            refine wpAnyH_take (i := 17) (oi := { dst := some 37, op := Op.fieldAddr 39 (Operand.tmp 36) 5, type := _, pos := _, after := _, guard := none }) (v := ?_) rfl (by kernel_rfl) (by kernel_rfl) (by kernel_rfl) (fun _ _ _ h => h) (Or.inl ⟨by rfl, ?_⟩) (by assumption) ?_
            rotate_left
            · intro w hSw; (try dsimp only at hSw); go_simp; try with_reducible rfl
            try simp only [Act.put, List.setIfInBounds_toArray, List.set_cons_zero, List.set_cons_succ]
            refine wpAnyH_ready (rs := [18]) (by kernel_rfl) (by simp) ?_
            refine AllReadyH.cons (o := { dst := none, op := Op.store 36 (Operand.tmp 37) (Operand.tmp 35), type := _, pos := _, after := _, guard := none }) rfl (fun K hK => ?_) AllReadyH.nil
            go_simp
            refine hK.out _ _ (by exact HC3.out.2.2.1) (fun hHeld => ?_)
            clear hK K
            try simp only [Act.put, List.setIfInBounds_toArray, List.set_cons_zero, List.set_cons_succ]
            refine wpAnyH_done (by kernel_rfl) ?_ _
          case' legB1n1 =>
            intro K hK
            go_simp
            rw [← hX]
            refine hK.out _ _ (by exact HS1.out) (fun hHeld => ?_)
            clear hK K
            try simp only [Act.put, List.setIfInBounds_toArray, List.set_cons_zero, List.set_cons_succ]
            refine wpAnyH_ready (rs := [4]) (by kernel_rfl) (by simp) ?_
            refine AllReadyH.cons (o := { dst := some 24, op := Op.load 36 (Operand.tmp 23), type := _, pos := _, after := _, guard := none }) rfl (fun K hK => ?_) AllReadyH.nil
            go_simp
            first | rw [HC5.out] | rw [HC5b.out]
            go_simp
            try rw [← hX]
            refine hK.out _ _ (by first | exact HS0.out | exact HS1.out) (fun hHeld => ?_)
            clear hK K
            try simp only [Act.put, List.setIfInBounds_toArray, List.set_cons_zero, List.set_cons_succ]
            refine wpAnyH_ready (rs := [15]) (by kernel_rfl) (by simp) ?_
            refine AllReadyH.cons (o := { dst := some 35, op := Op.call { callee := Callee.builtin Builtin.append, args := #[Operand.tmp 24, Operand.tmp 34], argTypes := #[36, 36] }, type := _, pos := _, after := _, guard := none }) rfl (fun K hK => ?_) AllReadyH.nil
            rw [if_pos (by rfl)]
            try rw [← hX]
            refine wp_app X (.tmp 24) (.tmp 34) 36 rfl B 101 i0 _ 2 16 Try.underlying36 hi0 hz0 hz1 hz2 rfl (by decide) _ np pcs rfl HOX.out _ 1 1 [.int .i64 x, .int .i64 y] rfl (by rw [hX]; exact src_new2 wr (.int .i64 x) (.int .i64 y) 101) (by intro u hu; simp at hu; rcases hu with rfl | rfl <;> rfl) (by simp only [maxLen]; omega) (by omega) HBX.out ?_
            intro v' w' hown hgrow hat
            obtain ⟨A5, c5, rfl, -⟩ := own_arr hown
            have HC3 := hid (HC3f.out _ w' hown hgrow hat)
            have HC2b := hid HC3.out.1
            obtain ⟨u5, hu5, hf5⟩ := HC3.out.2.1
            clear hown hgrow hat
            refine hK.out _ _ (by exact HC2b.out) (fun hHeld => ?_)
            clear hK K
            try simp only [Act.put, List.setIfInBounds_toArray, List.set_cons_zero, List.set_cons_succ]
            refine wpAnyH_take (i := 16) (oi := { dst := some 36, op := Op.nilCheck (Operand.tmp 20), type := _, pos := _, after := _, guard := none }) (v := ?_) rfl (by kernel_rfl) (by kernel_rfl) (by kernel_rfl) (fun _ _ _ h => h) (Or.inl ⟨by rfl, ?_⟩) (by assumption) ?_
            rotate_left
            · intro w hSw; (try dsimp only at hSw); go_simp; try with_reducible rfl
            try simp only [Act.put, List.setIfInBounds_toArray, List.set_cons_zero, List.set_cons_succ]
            refine wpAnyH_take (i := 17) (oi := { dst := some 37, op := Op.fieldAddr 39 (Operand.tmp 36) 5, type := _, pos := _, after := _, guard := none }) (v := ?_) rfl (by kernel_rfl) (by kernel_rfl) (by kernel_rfl) (fun _ _ _ h => h) (Or.inl ⟨by rfl, ?_⟩) (by assumption) ?_
            rotate_left
            · intro w hSw; (try dsimp only at hSw); go_simp; try with_reducible rfl
            try simp only [Act.put, List.setIfInBounds_toArray, List.set_cons_zero, List.set_cons_succ]
            refine wpAnyH_ready (rs := [18]) (by kernel_rfl) (by simp) ?_
            refine AllReadyH.cons (o := { dst := none, op := Op.store 36 (Operand.tmp 37) (Operand.tmp 35), type := _, pos := _, after := _, guard := none }) rfl (fun K hK => ?_) AllReadyH.nil
            go_simp
            refine hK.out _ _ (by exact HC3.out.2.2.1) (fun hHeld => ?_)
            clear hK K
            try simp only [Act.put, List.setIfInBounds_toArray, List.set_cons_zero, List.set_cons_succ]
            refine wpAnyH_done (by kernel_rfl) ?_ _
          all_goals
            go_wp2_with fail
            go_roundw
            case rel => exact ⟨k + 1, by omega, by go_num, hid (by rw [HSN.out, ← List.append_assoc, ← HPS.out, ← HXY.out.1, ← HXY.out.2]; exact HC3.out.2.2.2)⟩
            case measure => simp [intOf]; omega
        · obtain rfl : k = m.length := by omega
          have HPN := hid (show PairAt w wr B a v1 v2 v5 H s (pairP (l.take (i + 1)) m) by rw [HROW.out]; have h := HP.out; rw [HPS.out, List.take_length] at h; exact h)
          go_wp2_with fail
          go_roundw
          case rel => exact ⟨i + 1, by omega, by go_num, HPN⟩
          case measure => simp [intOf]; omega
    · obtain rfl : i = l.length := by omega
      have HPF := hid (show PairAt w wr B a v1 v2 v5 H s (pairP l m) by have h := HP.out; rw [List.take_length] at h; exact h)
      go_wp2_with fail
      go_end0
      exact ⟨rfl, HPF.out⟩
end Go.Proofs.Ythdhbkngbmjjkaa
