/- The automaton of expressions: the program's New. Conditions: none but trees in memory. -/
import Derived.Test.YthdhbkngbmjjkaaVb
import Derived.Test.YthdhbkngbmjjkaaLy
namespace Go.Proofs.Ythdhbkngbmjjkaa
open Go.RowKit
set_option linter.unusedSimpArgs false
theorem far_map (es : Array MapEntry) (c : Nat) : Far (.map es c) := fun _ _ _ e => by cases e
set_option maxRecDepth 100000 in
set_option maxHeartbeats 4000000 in
theorem new_bad (S : Nat → Prop) (d : Nat) (A : Option Addr) (c : Nat) (l : List (Tr d)) (search : Bool) (w : World) (h : Row3 (IsTr w S d) w S A l) (hle : l.length ≤ 9223372036854775807) (hbad : 40 < l.length ∨ (l.any fun t => !rightT d t) = true) :
    Calls Try.prog 15 #[.bool search, .slice A l.length c] w fun e w' => e = .returned (.tuple #[.pointer none, .int .i64 (if 40 < l.length then 3 else 1)]) ∧ Below w.heap.size w w' := by
  have H := hid h
  by_cases hn : 40 < l.length
  · rw [if_pos hn]
    go_enter Try.func15, Try.ntmps15
    go_wp2_with fail
    go_ret2
    exact ⟨rfl, Below.refl _ _⟩
  · rw [if_neg hn]
    have HB := hid (hbad.resolve_left hn)
    clear hbad
    go_enter Try.func15, Try.ntmps15
    go_wp2_with fail
    refine (containsRight_any S d A c l _ H.out hle).mono ?_
    rintro e w1 ⟨rfl, hb1⟩
    rw [HB.out]
    go_wp2_with fail
    go_ret2
    exact ⟨rfl, hb1⟩
def placeK (s : Bs) (p : Nat) : Nat := if p = 0 then 0 else ((s.lfs[p - 1]?.getD (0, 0, 0)).2.2).toNat
/-- The first so many places are known. -/
def Known (w : World) (H b1 b2 : Nat) (s : Bs) (k : Nat) : Prop := ∃ nx tl, NxIs w b1 nx ∧ TlIs w b2 tl ∧ nx.map (fun q => (q.1, q.2.2)) = (List.range k).map (fun p : Nat => ((p : Int), lvsOf s.kns (reachL s.kns (placeK s p)))) ∧
  tl = (List.range k).map (fun p : Nat => ((p : Int), bitsOf s.kns (reachL s.kns (placeK s p)))) ∧ ∀ q ∈ nx, IsNums .i64 w (fun b => H ≤ b) q.2.1 q.2.2
theorem know_step {g B b1 b2 H k : Nat} {search : Bool} {s : Bs} {w : World} (h : NB w g B search (.map (some b1)) (.map (some b2)) s) (hm : s.le 1000000) (ho : s.ok) (hfin : s.fin64) (hk : placeK s k < s.kns.length) (hp : k ≤ 1000000)
    (hK : Known w H b1 b2 s k) (hne : b1 ≠ b2) (hB1 : B ≤ b1) (hB2 : B ≤ b2) (hH1 : b1 < H) (hH2 : b2 < H) (hHw : H ≤ w.heap.size) :
    Calls Try.prog 48 #[.pointer (some ⟨g, 0, none⟩), .int .i64 k, .int .i64 (placeK s k)] w fun e w' => e = .returned (.tuple #[]) ∧ Known w' H b1 b2 s (k + 1) ∧ Below B w w' ∧ ∀ b, b < w.heap.size → b ≠ b1 → b ≠ b2 → w'.heap[b]? = w.heap[b]? := by
  obtain ⟨nx, tl, h1, h2, h3, h4, h5⟩ := hK
  have hn1 : ∀ q ∈ nx, q.1 ≠ (k : Int) := fun q hq e => by
    have : (q.1, q.2.2) ∈ nx.map (fun q => (q.1, q.2.2)) := List.mem_map_of_mem hq
    rw [h3] at this
    obtain ⟨p, hp, hq⟩ := List.mem_map.1 this
    have h6 := List.mem_range.1 hp
    have h7 : (p : Int) = q.1 := by injection hq
    omega
  have hn2 : ∀ q ∈ tl, q.1 ≠ (k : Int) := fun q hq e => by
    rw [h4] at hq
    obtain ⟨p, hp, hq⟩ := List.mem_map.1 hq
    have h6 := List.mem_range.1 hp
    have h7 : (p : Int) = q.1 := by rw [← hq]
    omega
  refine (know_any g B b1 b2 search s k (placeK s k) nx tl w h hm ho hfin hk hp h1 h2 hne hB1 hB2 hn1 hn2).mono ?_
  rintro e w' ⟨he, v', k1, k2, k3, k4, k5⟩
  refine ⟨he, ⟨_, _, k1, k3, ?_, ?_, fun q hq => ?_⟩, k4, k5⟩
  · rw [List.map_append, h3, List.range_succ, List.map_append]; rfl
  · rw [h4, List.range_succ, List.map_append]; rfl
  · rcases List.mem_append.1 hq with hq | hq
    · exact (h5 q hq).keep fun b hb hlt => k5 b hlt (by omega) (by omega)
    · have e : q = ((k : Int), (v', lvsOf s.kns (reachL s.kns (placeK s k)))) := by simpa using hq
      subst e
      exact k2.mono fun b hb _ => by omega
theorem known_none {w : World} {H b1 b2 : Nat} {s : Bs} (h1 : NxIs w b1 []) (h2 : TlIs w b2 []) : Known w H b1 b2 s 0 := ⟨[], [], h1, h2, rfl, rfl, fun q hq => by simp at hq⟩
theorem Known.maps {w : World} {H b1 b2 k : Nat} {s : Bs} (h : Known w H b1 b2 s k) : (∃ es c, w.heap[b1]? = some (.map es c)) ∧ ∃ es c, w.heap[b2]? = some (.map es c) := by
  obtain ⟨nx, tl, ⟨e1, c1, h1, -⟩, ⟨e2, c2, h2, -⟩, -⟩ := h
  exact ⟨⟨_, _, h1⟩, _, _, h2⟩
theorem Known.below {w w' : World} {H b1 b2 k : Nat} {s : Bs} (h : Known w H b1 b2 s k) (hb : Below w.heap.size w w') : Known w' H b1 b2 s k := by
  obtain ⟨nx, tl, h1, h2, h3, h4, h5⟩ := h
  exact ⟨nx, tl, h1.below hb, h2.below hb, h3, h4, fun q hq => (h5 q hq).below hb⟩
theorem cells_kept {w w' : World} {H b1 b2 k : Nat} {s : Bs} (h : Known w H b1 b2 s k) (hk : ∀ b, b < w.heap.size → b ≠ b1 → b ≠ b2 → w'.heap[b]? = w.heap[b]?) {b : Nat} {cs : Array Value} {T : TypeId} {z : Nat × Nat} (hb : w.heap[b]? = some (.cells cs T z)) : w'.heap[b]? = w.heap[b]? := by
  obtain ⟨⟨e1, c1, h1⟩, e2, c2, h2⟩ := h.maps
  refine hk b (Array.getElem?_eq_some_iff.1 hb).1 (fun e => ?_) (fun e => ?_)
  · rw [e, h1] at hb; cases hb
  · rw [e, h2] at hb; cases hb
theorem NB.past {w w' : World} {g B b1 b2 H k : Nat} {search : Bool} {m1 m2 : Value} {s t : Bs} (h : NB w g B search m1 m2 t) (hK : Known w H b1 b2 s k) (hk : ∀ b, b < w.heap.size → b ≠ b1 → b ≠ b2 → w'.heap[b]? = w.heap[b]?) : NB w' g B search m1 m2 t := by
  obtain ⟨hB, lv, kv, hg, hl, hkn⟩ := h
  exact ⟨hB, lv, kv, (cells_kept hK hk hg).trans hg, hl.keep fun b cs hb => cells_kept hK hk hb, hkn.keep fun b cs hb => by rcases hb with hb | hb <;> exact cells_kept hK hk hb⟩
theorem NB.fresh {w : World} {g B : Nat} {search : Bool} {m1 m2 : Value} (hB : B ≤ g) (hg : w.heap[g]? = some (.cells #[.bool search, .slice none 0 0, .slice none 0 0, m1, m2] 85 (0, 0))) : NB w g B search m1 m2 ⟨[], []⟩ :=
  ⟨hB, _, _, hg, World.ownsRow_nil _ _ _ _, fun _ => .slice none 0 0, World.ownsRow_nil _ _ _ _, fun a ha => by simp at ha, fun a b ha => by simp at ha⟩
theorem mapIs_nil {K V : Type} {w : World} {b : Nat} {enc : K → Value} {ok : K → Prop} {R : V → Value → Prop} (h : w.heap[b]? = some (.map #[] 0)) : MapIs w b enc ok R ([] : List (K × V)) :=
  ⟨#[], 0, h, rfl, List.Pairwise.nil, by simp, by simp, by simp, by simp⟩
theorem placeK_lt {s : Bs} {k : Nat} (ho : s.ok) (h0 : 0 < s.kns.length) (hk : k < s.lfs.length) : placeK s (k + 1) < s.kns.length ∧ ((placeK s (k + 1) : Nat) : Int) = (s.lfs[k]?.getD (0, 0, 0)).2.2 := by
  unfold placeK
  rw [if_neg (by omega), Nat.add_sub_cancel, List.getElem?_eq_getElem hk]
  have := ho.2.2 _ (List.getElem_mem hk)
  simp only [Option.getD_some]
  omega
set_option maxRecDepth 100000 in
set_option maxHeartbeats 8000000 in
theorem new_any (d : Nat) (A : Option Addr) (c : Nat) (l : List (Tr d)) (search : Bool) (w : World) (h : Row3 (IsTr w (fun b => b < w.heap.size) d) w (fun b => b < w.heap.size) A l) (hn : l.length ≤ 40) (hr : ∀ t ∈ l, rightT d t = true)
    (Q : Ending → World → Prop) (h7 : 1000 < 1 + sumL (fun t => leavesT d t) l → ∀ w', Below w.heap.size w w' → Q (.returned (.tuple #[.pointer none, .int .i64 7])) w')
    (h0 : ¬ 1000 < 1 + sumL (fun t => leavesT d t) l → ∀ w' g b1 b2 H, NB w' g w.heap.size search (.map (some b1)) (.map (some b2)) (builtB l) → Known w' H b1 b2 (builtB l) ((builtB l).lfs.length + 1) → b1 ≠ b2 → w.heap.size ≤ b1 → w.heap.size ≤ b2 → b1 < H → b2 < H → Below w.heap.size w w' → Q (.returned (.tuple #[.pointer (some ⟨g, 0, none⟩), .int .i64 0])) w') :
    Calls Try.prog 15 #[.bool search, .slice A l.length c] w fun e w' => Q e w' := by
  have H := hid h
  have HR := hid hr
  have hall : (l.any fun t => !rightT d t) = false := by
    rw [List.any_eq_false]
    intro t ht
    simp [hr t ht]
  have HALL := hid hall
  have HQ7 := hid h7
  have HQ0 := hid h0
  have hb40 : ¬ 40 < l.length := by omega
  clear h hr hall h7 h0
  go_enter Try.func15, Try.ntmps15
  go_wp2_with fail
  refine (containsRight_any (fun b => b < w.heap.size) d A c l _ H.out (by omega)).mono ?_
  rintro e w1 ⟨rfl, hb1⟩
  rw [HALL.out]
  have HB1 := hid hb1
  have HROW := hid (H.out.below hb1)
  clear hb1
  go_wp2_with fail
  go_loopw [6, 8, 25] (fun s6 _ s25 wr => ∃ (k z : Nat), k ≤ l.length ∧ s25 = .int .i64 k ∧ s6 = .int .i64 z ∧ Hid (z + sumL (fun k => leavesT d k) (l.drop k) = 1 + sumL (fun k => leavesT d k) l) ∧ z ≤ 1 + 2000 * k ∧ Hid (Below w1.heap.size w1 wr)) (fun _ _ s25 _ => l.length - (intOf s25).toNat)
  case atStart => exact ⟨0, 1, by omega, rfl, rfl, hid (by rw [List.drop_zero]), by omega, hid (Below.refl _ _)⟩
  case round =>
    obtain ⟨k, z, hk, rfl, rfl, HT, hz, HW⟩ := hrel
    by_cases hlt : k < l.length
    · obtain ⟨b, o, v0, v1, v2, rfl, -, hbs, c0, c1, c2, ht⟩ := (HROW.out.below HW.out).at (List.getElem?_eq_getElem hlt)
      obtain ⟨k0, k1, A2, n2, cp2, rfl, rfl, rfl⟩ := ht.cells
      have HTr := hid ht
      obtain ⟨x, hx⟩ : ∃ x, x = l[k] := ⟨_, rfl⟩
      rw [← hx] at HTr
      have HDR := hid (show l.drop k = x :: l.drop (k + 1) by rw [hx]; exact List.drop_eq_getElem_cons hlt)
      have hcx : cnt d x ≤ 2000 := by rw [hx]; exact (cnt_of_right (HR.out _ (List.getElem_mem hlt))).1
      have HCx := hid (show cnt d x ≤ 1000000 by omega)
      obtain ⟨y, hy⟩ : ∃ y, y = leavesT d x := ⟨_, rfl⟩
      have HY := hid hy
      have HN := hid (show z + y + sumL (fun k => leavesT d k) (l.drop (k + 1)) = 1 + sumL (fun k => leavesT d k) l by have h := HT.out; rw [HDR.out] at h; simp only [sumL] at h; rw [hy]; omega)
      have hyc : y ≤ 2000 := by rw [hy]; have := leavesT_le d x; omega
      clear ht hx hy hcx
      obtain ⟨X, hX⟩ : ∃ X, X = wr.alloc (.cells #[.int .i64 k0, .int .i64 k1, .slice A2 n2 cp2] 52) := ⟨_, rfl⟩
      have HXB := hid (show Below wr.heap.size wr X by rw [hX]; exact (Below.refl _ _).alloc (Nat.le_refl _) _)
      have HXQ := hid (show X.heap[wr.heap.size]? = some (.cells #[.int .i64 k0, .int .i64 k1, .slice A2 n2 cp2] 52 (0, 0)) by rw [hX]; exact heap_alloc_new _ _)
      have HTX := hid (HTr.out.below HXB.out)
      obtain ⟨y0, y1, y2, -⟩ := slot3 HXQ.out
      rw [hX] at y0 y1 y2
      go_wp2_with fail
      rw [← hX]
      clear hX y0 y1 y2
      refine (leaves_any (fun b => b < w.heap.size) d _ x X HTX.out HCx.out).mono ?_
      rintro e w2 ⟨rfl, hb1⟩
      rw [← HY.out]
      have HW1 := hid (HW.out.trans ((HXB.out.trans (hb1.mono HXB.out.size)).mono HW.out.size))
      clear hb1
      go_wp2_with fail
      go_roundw
      case rel => exact ⟨k + 1, z + y, by omega, by go_num, by go_num, HN, by omega, HW1⟩
      case measure => simp [intOf]; omega
    · have HF := hid (show 1 + sumL (fun k => leavesT d k) l = z by have h := HT.out; rw [List.drop_eq_nil_of_le (by omega)] at h; simp only [sumL] at h; omega)
      have HBw := hid (show Below w.heap.size w wr from HB1.out.trans (HW.out.mono HB1.out.size))
      by_cases h7 : 1000 < z
      · go_wp2_with fail
        exact HQ7.out (by rw [HF.out]; exact h7) _ HBw.out
      · have HNO := hid (show ¬ 1000 < 1 + sumL (fun t => leavesT d t) l by rw [HF.out]; exact h7)
        have HLV := hid (show 1 + sumL (fun k => leavesT d k) l ≤ 1000 by rw [HF.out]; omega)
        obtain ⟨q, hq⟩ : ∃ q, q = wr.heap.size := ⟨_, rfl⟩
        obtain ⟨B, hBB⟩ : ∃ B, B = w.heap.size := ⟨_, rfl⟩
        have hBq : B ≤ q := by rw [hBB, hq]; exact HBw.out.size
        obtain ⟨W, hW⟩ : ∃ W, W = ((wr.alloc (.map #[] 0)).alloc (.map #[] 0)).alloc (.cells #[.bool search, .slice none 0 0, .slice none 0 0, .map (some q), .map (some (q + 1))] 85) := ⟨_, rfl⟩
        have HWB := hid (show Below wr.heap.size wr W by rw [hW]; exact (((Below.refl _ _).alloc (Nat.le_refl _) _).alloc (by simp) _).alloc (by simp; omega) _)
        have HNB0 := hid (show NB W (q + 1 + 1) B search (.map (some q)) (.map (some (q + 1))) ⟨[], []⟩ from NB.fresh (by omega) (by rw [hW, hq]; exact (by simpa using heap_alloc_new ((wr.alloc (.map #[] 0)).alloc (.map #[] 0)) (.cells #[.bool search, .slice none 0 0, .slice none 0 0, .map (some wr.heap.size), .map (some (wr.heap.size + 1))] 85))))
        have HM1 := hid (show W.heap[q]? = some (.map #[] 0) by
          rw [hW, hq]
          refine (heap_alloc_old _ _ (by simp; omega)).trans ((heap_alloc_old _ _ (by simp)).trans (heap_alloc_new _ _)))
        have HM2 := hid (show W.heap[q + 1]? = some (.map #[] 0) by
          rw [hW, hq]
          refine (heap_alloc_old _ _ (by simp)).trans ?_
          simpa using heap_alloc_new (wr.alloc (.map #[] 0)) (.map #[] 0))
        have HBW := hid (show Below B w W by rw [hBB]; exact HBw.out.trans (HWB.out.mono HBw.out.size))
        have HROWB := hid (show ∀ Y, Below B w Y → Row3 (IsTr Y (fun b => b < B) d) Y (fun b => b < B) A l by rw [hBB]; exact fun Y hY => H.out.below hY)
        have hmm := @run_makeMap Try.prog
        clear hk HT hz
        go_wp2_with fail
        rw [← hq, ← hW]
        clear hW hmm
        refine (knot_any (q + 1 + 1) B search _ _ _ W HNB0.out (by simp)).mono ?_
        rintro e w2 ⟨rfl, hn2, hb2, hk2⟩
        have HNB2 := hid (show NB w2 (q + 1 + 1) B search (.map (some q)) (.map (some (q + 1))) startB from hn2)
        have HB2 := hid (HBW.out.trans hb2)
        have HK2 := hid hk2
        clear hn2 hb2 hk2
        go_wp2_with fail
        go_loopw [10, 11, 12, 13, 45] (fun _ _ _ _ s45 wr => ∃ (k : Nat), k ≤ l.length ∧ s45 = .int .i64 k ∧ Hid (NB wr (q + 1 + 1) B search (.map (some q)) (.map (some (q + 1))) (buildL 0 (l.take k) startB)) ∧ Hid (Below B w wr) ∧ Hid (Kp W wr)) (fun _ _ _ _ s45 _ => l.length - (intOf s45).toNat)
        case atStart => exact ⟨0, by omega, rfl, HNB2, HB2, HK2⟩
        case round =>
          obtain ⟨k, hk, rfl, HNB, HB, HK⟩ := hrel
          by_cases hlt : k < l.length
          · obtain ⟨b, o, v0, v1, v2, rfl, hbB, hbs, c0, c1, c2, htx⟩ := (HROWB.out wr HB.out).at (List.getElem?_eq_getElem hlt)
            obtain ⟨k0, k1, A2, n2, cp2, rfl, rfl, rfl⟩ := htx.cells
            have HTX := hid htx
            obtain ⟨x, hx⟩ : ∃ x, x = l[k] := ⟨_, rfl⟩
            rw [← hx] at HTX
            have HRX := hid (show rightT d x = true by rw [hx]; exact HR.out _ (List.getElem_mem hlt))
            have HTK := hid (show buildL 0 (l.take (k + 1)) startB = expB k x (buildL 0 (l.take k) startB) by rw [buildL_take hlt, hx, Nat.zero_add])
            obtain ⟨sk, hsk⟩ : ∃ sk, sk = buildL 0 (l.take k) startB := ⟨_, rfl⟩
            rw [← hsk] at HTK HNB
            obtain ⟨e1, e2, e3, e4, e5⟩ := buildL_keeps (l.take k) 0 1 startB startB_ok.1 startB_ok.2.1 startB_ok.2.2 (by simp [startB]) (by rw [List.length_take]; omega) (fun t ht => HR.out t (List.mem_of_mem_take ht))
            rw [← hsk, List.length_take, Nat.min_eq_left (by omega)] at e3
            rw [← hsk] at e1 e2 e4
            have HSK := hid (And.intro e1 (And.intro e2 (And.intro e3 e4)))
            obtain ⟨n, hnn⟩ : ∃ n, n = sk.kns.length := ⟨_, rfl⟩
            have HNN := hid hnn
            obtain ⟨X, hX⟩ : ∃ X, X = wr.alloc (.cells #[.int .i64 k0, .int .i64 k1, .slice A2 n2 cp2] 52) := ⟨_, rfl⟩
            have HXB := hid (show Below wr.heap.size wr X by rw [hX]; exact (Below.refl _ _).alloc (Nat.le_refl _) _)
            obtain ⟨qx, hqx⟩ : ∃ qx, qx = wr.heap.size := ⟨_, rfl⟩
            have HXQ := hid (show X.heap[qx]? = some (.cells #[.int .i64 k0, .int .i64 k1, .slice A2 n2 cp2] 52 (0, 0)) by rw [hX, hqx]; exact heap_alloc_new _ _)
            have HNX := hid (HNB.out.below HXB.out)
            have HBX := hid (show Below B w X from HB.out.trans (HXB.out.mono (by rw [hBB]; exact HB.out.size)))
            have HKX := hid (HK.out.trans (Kp.below HXB.out))
            have HBQX := hid (show ∀ Y, Kp X Y → Y.cell? ⟨qx, 0, none⟩ = some (.int .i64 k0) ∧ Y.cell? ⟨qx, 1, none⟩ = some (.int .i64 k1) ∧ Y.cell? ⟨qx, 2, none⟩ = some (.slice A2 n2 cp2) from fun Y hY => by
              obtain ⟨x0, x1, x2, -⟩ := slot3 (hY qx _ HXQ.out (far52 _))
              exact ⟨x0, x1, x2⟩)
            clear htx hx hsk e1 e2 e3 e4 e5 hbB hnn
            go_wp2_with fail
            rw [← hqx, ← hX, ← hq]
            clear hX hqx c0 c1 c2
            refine (knot_any (q + 1 + 1) B search _ _ sk X HNX.out (by have h1 := HSK.out.2.2.1.2.1; omega)).mono ?_
            rintro e w3 ⟨rfl, hn3, hb3, hk3⟩
            rw [← HNN.out]
            have HN3 := hid hn3
            have HB3 := hid (HBX.out.trans hb3)
            have HK3 := hid hk3
            obtain ⟨hBg, lv, kv, hg, hlf, V, hko, hrw⟩ := hn3
            rw [knot_len, ← HNN.out] at hko
            obtain ⟨kb, kc, rfl⟩ : ∃ kb kc, kv = .slice (some ⟨kb, 0, none⟩) (n + 1) kc := by
              rcases hko.2 with ⟨-, h0⟩ | ⟨q, cap, cur, e, -⟩
              · omega
              · exact ⟨q, cap, e⟩
            obtain ⟨t1, t2, t3, t4, t5, t6⟩ := NB.tell (k := n) (e := (k : Int) + 1) hBg hg hlf hko (by rw [knot_len, ← HNN.out]) (by rw [show n + 1 = sk.knot.kns.length by rw [knot_len, ← HNN.out]]; exact hrw) (by omega)
            have HT4 := hid t4
            have HTT := hid (And.intro t1 (And.intro t2 t3))
            obtain ⟨y, hy⟩ : ∃ y, y = (kn sk.knot.kns n).fin := ⟨_, rfl⟩
            rw [← hy] at t4
            rw [hq] at t6
            clear hg hlf hko hrw hb3 hk3 t1 t2 t3 hy
            go_wp2_with fail
            obtain ⟨W4, hW4⟩ : ∃ W4, W4 = w3.setCell ⟨kb, n * 3 + 2, none⟩ (.int .i64 ((k : Int) + 1)) := ⟨_, rfl⟩
            rw [← hW4, ← hq]
            rw [← hW4] at HTT
            clear hW4 t4 t5 t6
            have HS1 := hid (show (sk.knot.fin n ((k : Int) + 1)).kns.length = n + 1 by rw [fin_len, knot_len, ← HNN.out])
            have HL1 := hid (show (sk.knot.fin n ((k : Int) + 1)).le (1 + 24000 * k + 1) from (HSK.out.2.2.1.knot).fin (by rw [knot_len, ← HNN.out]; omega))
            refine (knot_any (q + 1 + 1) B search _ _ _ W4 HTT.out.1 (by rw [HS1.out]; have h1 := HSK.out.2.2.1.2.1; have h2 := HNN.out; omega)).mono ?_
            rintro e w5 ⟨rfl, hn5, hb5, hk5⟩
            rw [HS1.out]
            have HN5 := hid hn5
            have HB5 := hid (HB3.out.trans (HTT.out.2.1.trans hb5))
            have HK5 := hid (HK3.out.trans (HTT.out.2.2.trans hk5))
            have HS2 := hid (show (sk.knot.fin n ((k : Int) + 1)).knot.kns.length = n + 2 by rw [knot_len, HS1.out])
            have HL2 := hid (show (sk.knot.fin n ((k : Int) + 1)).knot.le (1 + 24000 * k + 2) from HL1.out.knot)
            clear hn5 hb5 hk5
            go_wp2_with fail
            rw [← hq]
            refine (free_any (q + 1 + 1) B search _ _ _ 0 (n + 1) w5 HN5.out (by have h1 := HL2.out.2.1; omega) (by rw [HS2.out]; omega) (by have h1 := (HL2.out.2.2 0).1; omega)).mono ?_
            rintro e w6 ⟨rfl, hn6, hb6, hk6⟩
            have HN6 := hid hn6
            have HB6 := hid (HB5.out.trans hb6)
            have HK6 := hid (HK5.out.trans hk6)
            have HTX6 := hid (show IsTr w6 (fun b => b < B) d (.agg #[.int .i64 k0, .int .i64 k1, .slice A2 n2 cp2]) x from HTX.out.keep (w' := w6) fun b' hb' _ => by
              have h1 := HB.out.block b' hb'
              have h2 := (HB6.out).block b' hb'
              rw [h2, h1])
            obtain ⟨y0, y1, y2⟩ := HBQX.out _ HK6.out
            have HS3 := hid (show ((sk.knot.fin n ((k : Int) + 1)).knot.arrow 0 (n + 1)).kns.length = n + 2 by rw [arrow_len, HS2.out])
            have HL3 := hid (show ((sk.knot.fin n ((k : Int) + 1)).knot.arrow 0 (n + 1)).le (1 + 24000 * k + 3) from HL2.out.arrow (by rw [HS2.out]; omega))
            clear hn6 hb6 hk6
            go_wp2_with fail
            rw [← hq]
            clear y0 y1 y2
            have hA := lay_any d _ x false (q + 1 + 1) B search _ _ _ (n + 1) n (1 + 24000 * k + 3) w6 HN6.out HTX6.out (cnt_of_right HRX.out).2 (by rw [HS3.out]; omega) (by rw [HS3.out]; omega) HL3.out (by have h1 := (cnt_of_right HRX.out).1; omega)
            refine hA.mono ?_
            clear hA
            rintro e w7 ⟨rfl, hn7, hb7, hk7⟩
            have HN7 := hid (show NB w7 (q + 1 + 1) B search (.map (some q)) (.map (some (q + 1))) (buildL 0 (l.take (k + 1)) startB) by rw [HTK.out]; unfold expB; rw [← HNN.out]; exact hn7)
            have HB7 := hid (HB6.out.trans hb7)
            have HK7 := hid (HKX.out.trans (HK6.out.trans hk7))
            clear hn7 hb7 hk7
            go_wp2_with fail
            go_roundw
            case rel => exact ⟨k + 1, by omega, by go_num, HN7, HB7, HK7⟩
            case measure => simp [intOf]; omega
          · obtain rfl : k = l.length := by omega
            rw [List.take_length] at HNB
            obtain ⟨s, hs⟩ : ∃ s, s = builtB l := ⟨_, rfl⟩
            obtain ⟨e1, e2, e3, e4, e5⟩ := buildL_keeps l 0 1 startB startB_ok.1 startB_ok.2.1 startB_ok.2.2 (by simp [startB]) (by omega) HR.out
            rw [show buildL 0 l startB = s from hs.symm] at e1 e2 e3 e4 e5 HNB
            have HSK := hid (And.intro e1 (And.intro e2 (And.intro (e3.mono (n := 1000000) (by omega)) e4)))
            have hn5 : s.lfs.length ≤ 999 := by have h1 := HLV.out; rw [e5]; simp only [startB, List.length_nil]; omega
            have HS := hid hs
            have h1 := (HK.out q _ HM1.out (far_map _ _))
            have h2 := (HK.out (q + 1) _ HM2.out (far_map _ _))
            have HN1 := hid (show Known wr wr.heap.size q (q + 1) s 0 from known_none (mapIs_nil h1) (mapIs_nil h2))
            have HQL := hid (And.intro (Array.getElem?_eq_some_iff.1 h1).1 (Array.getElem?_eq_some_iff.1 h2).1)
            obtain ⟨T, hT⟩ : ∃ T, T = wr.heap.size := ⟨_, rfl⟩
            rw [← hT] at HN1 HQL
            have HTS := hid hT
            clear hs e1 e2 e3 e4 e5 h1 h2 hT
            go_wp2_with fail
            rw [← hq]
            have hA := know_step (k := 0) HNB.out HSK.out.2.2.1 HSK.out.1 HSK.out.2.1 (show placeK s 0 < s.kns.length from HSK.out.2.2.2) (by omega) HN1.out (by omega) (by omega) (by omega) HQL.out.1 HQL.out.2 (by rw [HTS.out]; exact Nat.le_refl _)
            refine hA.mono ?_
            clear hA
            rintro e w2 ⟨rfl, hk1, hb1, hkept⟩
            have HK1 := hid hk1
            have HB21 := hid (HB.out.trans hb1)
            have HNBB := hid (HNB.out.past HN1.out hkept)
            have HT2 := hid (show T ≤ w2.heap.size by rw [HTS.out]; exact hb1.size)
            obtain ⟨hBg, lv, kv, hg, hlf, hkn⟩ := HNBB.out
            obtain ⟨A5, c5, rfl, -⟩ := own_arr hlf
            have HLF := hid hlf
            obtain ⟨-, t6, -⟩ := slot5 hg
            rw [hq] at t6
            obtain ⟨n5, hn5e⟩ : ∃ n5, n5 = s.lfs.length := ⟨_, rfl⟩
            rw [← hn5e] at t6 hn5
            have HN5 := hid hn5e
            clear hk1 hb1 hkept hBg hg hlf hkn hn5e
            go_wp2_with fail
            clear t6
            go_loopw [14, 15, 79] (fun _ _ s79 wr => ∃ (k : Nat), k ≤ n5 ∧ s79 = .int .i64 k ∧ Hid (Known wr T q (q + 1) s (k + 1)) ∧ Hid (LfAt wr B (.slice A5 s.lfs.length c5) s.lfs) ∧ Hid (NB wr (q + 1 + 1) B search (.map (some q)) (.map (some (q + 1))) s) ∧ Hid (Below B w wr) ∧ Hid (T ≤ wr.heap.size)) (fun _ _ s79 _ => n5 - (intOf s79).toNat)
            case atStart => exact ⟨0, by omega, rfl, HK1, HLF, HNBB, HB21, HT2⟩
            case round =>
              obtain ⟨k, hk, rfl, HKN, HLF, HNB, HB, HTW⟩ := hrel
              by_cases hlt : k < n5
              · obtain ⟨b5, rfl⟩ : ∃ b5, A5 = some ⟨b5, 0, none⟩ := by
                  rcases HLF.out.2 with ⟨-, h0⟩ | ⟨b5, cap, cur, e, -⟩
                  · have := HN5.out; omega
                  · injection e with e; exact ⟨b5, e⟩
                have hkl : k < s.lfs.length := by rw [← HN5.out]; exact hlt
                have hfl := fun j hj => (HLF.out.cellAt (k * 3 + j) (by omega)).trans (flat3_at (f := lfC s.lfs) (n := s.lfs.length) (i := k) (j := j) hkl hj)
                have hpk := placeK_lt HSK.out.1 HSK.out.2.2.2 hkl
                obtain ⟨a0, ha0⟩ : ∃ a, a = (s.lfs[k]?.getD (0, 0, 0)).1 := ⟨_, rfl⟩
                obtain ⟨a1, ha1⟩ : ∃ a, a = (s.lfs[k]?.getD (0, 0, 0)).2.1 := ⟨_, rfl⟩
                obtain ⟨p, hp⟩ : ∃ p, p = placeK s (k + 1) := ⟨_, rfl⟩
                have c0 : wr.cell? ⟨b5, k * 3, none⟩ = some (.int .i64 a0) := by rw [ha0]; exact hfl 0 (by omega)
                have c1 : wr.cell? ⟨b5, k * 3 + 1, none⟩ = some (.int .i64 a1) := by rw [ha1]; exact hfl 1 (by omega)
                have c2 : wr.cell? ⟨b5, k * 3 + 2, none⟩ = some (.int .i64 (p : Int)) := by rw [hp, hpk.2]; exact hfl 2 (by omega)
                have HP := hid hp
                have HPK := hid hpk.1
                obtain ⟨X, hX⟩ : ∃ X, X = wr.alloc (.cells #[.int .i64 a0, .int .i64 a1, .int .i64 (p : Int)] 91) := ⟨_, rfl⟩
                have HXB := hid (show Below wr.heap.size wr X by rw [hX]; exact (Below.refl _ _).alloc (Nat.le_refl _) _)
                have HXQ := hid (show X.heap[wr.heap.size]? = some (.cells #[.int .i64 a0, .int .i64 a1, .int .i64 (p : Int)] 91 (0, 0)) by rw [hX]; exact heap_alloc_new _ _)
                have HNX := hid (HNB.out.below HXB.out)
                have HKX := hid (HKN.out.below HXB.out)
                have HLX := hid (HLF.out.keep (w' := X) fun b cs hb => HXB.out.block b (Array.getElem?_eq_some_iff.1 hb).1)
                have HBX := hid (show Below B w X from HB.out.trans (HXB.out.mono (by rw [hBB]; exact HB.out.size)))
                have HTX := hid (Nat.le_trans HTW.out HXB.out.size)
                obtain ⟨y0, y1, y2, -⟩ := slot3 HXQ.out
                rw [hX] at y0 y1 y2
                clear hfl hpk ha0 ha1 hp
                go_wp2_with fail
                rw [← hX, ← hq]
                clear hX y0 y1 y2 c0 c1 c2
                have hA := know_step (k := k + 1) HNX.out HSK.out.2.2.1 HSK.out.1 HSK.out.2.1 HPK.out (by omega) HKX.out (by omega) (by omega) (by omega) HQL.out.1 HQL.out.2 HTX.out
                rw [← HP.out] at hA
                refine hA.mono ?_
                clear hA
                rintro e w3 ⟨rfl, hk1, hb1, hkept⟩
                have HK3 := hid hk1
                have HB3 := hid (HBX.out.trans hb1)
                have HN3 := hid (HNX.out.past HKX.out hkept)
                have HL3 := hid (HLX.out.keep fun b cs hb => cells_kept HKX.out hkept hb)
                have HT3 := hid (Nat.le_trans HTX.out hb1.size)
                clear hk1 hb1 hkept
                go_wp2_with fail
                go_roundw
                case rel => exact ⟨k + 1, by omega, by go_num, HK3, HL3, HN3, HB3, HT3⟩
                case measure => simp [intOf]; omega
              · obtain rfl : k = n5 := by omega
                go_wp2_with fail
                rw [← hq]
                refine HQ0.out HNO.out _ _ q (q + 1) T ?_ ?_ (by omega) (by omega) (by omega) HQL.out.1 HQL.out.2 ?_
                · rw [← hBB, ← HS.out]; exact HNB.out
                · rw [← HS.out, ← HN5.out]; exact HKN.out
                · rw [← hBB]; exact hBB ▸ HB.out
end Go.Proofs.Ythdhbkngbmjjkaa
