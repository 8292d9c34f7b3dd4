/- What a set becomes behind a mark: the program's Step. Conditions: ints; at most 10000 members; at most a million behind each. -/
import Derived.Test.YthdhbkngbmjjkaaNa
import Derived.Test.YthdhbkngbmjjkaaSs
namespace Go.Proofs.Ythdhbkngbmjjkaa
open Go.RowKit
set_option linter.unusedSimpArgs false
def takesAt (s : Bs) (m q : Int) : Bool := takesB (s.lfs[(q - 1).toNat]?.getD (0, 0, 0)).1 (s.lfs[(q - 1).toNat]?.getD (0, 0, 0)).2.1 m
def pickB (s : Bs) (m : Int) (l : List Int) : List Int := l.filter (takesAt s m)
def rawB (search : Bool) (s : Bs) (m : Int) (l : List Int) : List Int := (if search then [0] else []) ++ l.flatMap fun z => pickB s m (nextOf s z)
def stepB (search : Bool) (s : Bs) (m : Int) (l : List Int) : List Int := setB (rawB search s m l)
theorem raw_take {search : Bool} {s : Bs} {m : Int} {l : List Int} {k : Nat} (h : k < l.length) : rawB search s m (l.take (k + 1)) = rawB search s m (l.take k) ++ pickB s m (nextOf s (nth l k)) := by
  unfold rawB
  rw [take_nth h, List.flatMap_append, ← List.append_assoc]
  simp
theorem pick_take {s : Bs} {m : Int} {l : List Int} {k : Nat} (h : k < l.length) : pickB s m (l.take (k + 1)) = if takesAt s m (nth l k) = true then pickB s m (l.take k) ++ [nth l k] else pickB s m (l.take k) := by
  unfold pickB
  rw [take_nth h, List.filter_append]
  by_cases e : takesAt s m (nth l k) = true
  · rw [if_pos e]; simp [e]
  · rw [if_neg e]; simp [e]
theorem raw_len {search : Bool} {s : Bs} {m : Int} (hN : ∀ z, (nextOf s z).length ≤ 1000000) : ∀ l : List Int, (rawB search s m l).length ≤ 1 + 1000000 * l.length := by
  intro l
  have h : (l.flatMap fun z => pickB s m (nextOf s z)).length ≤ 1000000 * l.length := by
    induction l with
    | nil => simp
    | cons z r ih =>
      have h1 : (pickB s m (nextOf s z)).length ≤ (nextOf s z).length := List.length_filter_le _ _
      have h2 := hN z
      simp only [List.flatMap_cons, List.length_append, List.length_cons]
      omega
  unfold rawB
  rw [List.length_append]
  split <;> simp only [List.length_cons, List.length_nil] <;> omega
theorem next_mem {s : Bs} (ho : s.ok) {z q : Int} (h : q ∈ nextOf s z) : 1 ≤ q ∧ q ≤ s.lfs.length := by
  unfold nextOf at h
  split at h
  · unfold lvsOf at h
    obtain ⟨y, -, hq⟩ := List.mem_flatMap.1 h
    exact ho.2.1 _ _ hq
  · simp at h
theorem nx_get {w w2 : World} {b1 H : Nat} {s : Bs} {z : Int} {nx : List (Int × (Value × List Int))} (hm : NxIs w b1 nx) (h : nx.map (fun q => (q.1, q.2.2)) = (List.range (s.lfs.length + 1)).map (fun p : Nat => ((p : Int), lvsOf s.kns (reachL s.kns (placeK s p))))) (hv : ∀ q ∈ nx, IsNums .i64 w2 (fun b => H ≤ b) q.2.1 q.2.2) :
    (mget nx z = none ∧ nextOf s z = []) ∨ ∃ v, mget nx z = some (v, nextOf s z) ∧ IsNums .i64 w2 (fun b => H ≤ b) v (nextOf s z) := by
  have hlen : nx.length = s.lfs.length + 1 := by have := congrArg List.length h; simpa using this
  unfold nextOf
  by_cases hz : 0 ≤ z ∧ z ≤ s.lfs.length
  · right
    rw [if_pos hz]
    have hlt : z.toNat < nx.length := by omega
    have h1 : (nx.map (fun q => (q.1, q.2.2)))[z.toNat]? = some (z, lvsOf s.kns (reachL s.kns (placeK s z.toNat))) := by
      rw [h, List.getElem?_map, List.getElem?_range (by omega)]
      simp only [Option.map_some, Option.some.injEq, Prod.mk.injEq, and_true]
      omega
    rw [List.getElem?_map, List.getElem?_eq_getElem hlt] at h1
    simp only [Option.map_some, Option.some.injEq, Prod.mk.injEq] at h1
    have h2 := hv _ (List.getElem_mem hlt)
    rw [h1.2] at h2
    refine ⟨nx[z.toNat].2.1, mget_at hm.once (j := z.toNat) ?_, h2⟩
    rw [List.getElem?_eq_getElem hlt, Option.some.injEq]
    exact Prod.ext h1.1 (Prod.ext rfl h1.2)
  · left
    rw [if_neg hz]
    refine ⟨mget_none fun p hp e => hz ?_, rfl⟩
    have hp' : (p.1, p.2.2) ∈ nx.map (fun q => (q.1, q.2.2)) := List.mem_map_of_mem hp
    rw [h] at hp'
    obtain ⟨q, hq, e2⟩ := List.mem_map.1 hp'
    have := List.mem_range.1 hq
    have e3 : (q : Int) = p.1 := congrArg Prod.fst e2
    omega
theorem wpList_next {o : Oper} {ops : Array Oper} {rest : List Oper} {Q} {a : Act} {w w2 : World} {b1 H : Nat} {s : Bs} (hg : o.guard = none) (x ix : Operand) (hop : o.op = .lookup 80 x ix false) {nx : List (Int × (Value × List Int))} (hm : NxIs w b1 nx)
    (h : nx.map (fun q => (q.1, q.2.2)) = (List.range (s.lfs.length + 1)).map (fun p : Nat => ((p : Int), lvsOf s.kns (reachL s.kns (placeK s p))))) (hv : ∀ q ∈ nx, IsNums .i64 w2 (fun b => H ≤ b) q.2.1 q.2.2) (z : Int) (hk : i64ok z) (hx : a.eval x = .map (some b1)) (hi : a.eval ix = .int .i64 z)
    (hn : ∀ u, IsNums .i64 w2 Any u (nextOf s z) → wpList Try.prog ops Q rest (a.put o.dst u) w) : wpList Try.prog ops Q (o :: rest) a w := by
  refine wpList_mlookup false intKey hg x ix 80 hop Try.underlying80 _ (zero23 _) hm z hk hx hi (fun e => ?_) fun v u e hR => ?_
  · rcases nx_get (z := z) hm h hv with ⟨-, h2⟩ | ⟨v, h2, -⟩
    · exact hn _ (by rw [h2]; exact ⟨_, _, rfl, Nat.le_refl _, by decide, Arr.nil⟩)
    · rw [h2] at e; cases e
  · rcases nx_get (z := z) hm h hv with ⟨h1, -⟩ | ⟨v', h2, h3⟩
    · rw [h1] at e; cases e
    · rw [h2] at e
      injection e with e
      subst e
      rw [hR]
      exact hn _ (h3.mono fun _ _ _ => trivial)
set_option maxRecDepth 100000 in
theorem step_nil (v : Value) (m : Int) (w : World) : Calls Try.prog 24 #[.pointer none, v, .int .i64 m] w fun e w' => e = .returned (.slice none 0 0) ∧ w' = w := by
  go_enter Try.func24, Try.ntmps24
  go_wp2_with fail
  go_ret
  exact ⟨rfl, rfl⟩
set_option maxRecDepth 100000 in
set_option maxHeartbeats 8000000 in
theorem step_any (g : Nat) (search : Bool) (s : Bs) (S : Nat → Prop) (v : Value) (l : List Int) (m : Int) (w : World) (h : IsNfa w g search s) (ho : s.ok) (hN : ∀ z, (nextOf s z).length ≤ 1000000) (hv : IsNums .i64 w S v l) (hok : ∀ z ∈ l, i64ok z) (hl : l.length ≤ 10000) (hL : s.lfs.length ≤ 1000000) :
    Calls Try.prog 24 #[.pointer (some ⟨g, 0, none⟩), v, .int .i64 m] w fun e w' => ∃ v', e = .returned v' ∧ IsNums .i64 w' (fun b => w.heap.size ≤ b) v' (stepB search s m l) ∧ Below w.heap.size w w' := by
  obtain ⟨i0, hi0, hz0, hz1, hz2⟩ := info_parts info3
  obtain ⟨A, c, B, H, b1, b2, ⟨c0, c1, c3, c4⟩, hlf, hK, hgl⟩ := h.slots
  have HK := hid hK
  have HLF := hid hlf
  have HOK := hid ho
  have HOKS := hid hok
  have HV := hid hv
  have HN := hid hN
  have HG := hid (show ∀ Y, Below w.heap.size w Y → Y.cell? ⟨g, 1, none⟩ = some (.slice A s.lfs.length c) ∧ Y.cell? ⟨g, 3, none⟩ = some (.map (some b1)) from fun Y hY => ⟨(cell_same (hY.block g hgl)).trans c1, (cell_same (hY.block g hgl)).trans c3⟩)
  obtain ⟨A1, c1', rfl⟩ := hv.form
  have hle := hv.le
  obtain ⟨N, hNN⟩ : ∃ N, N = w.heap.size := ⟨_, rfl⟩
  have HNN := hid hNN
  clear hK hlf ho hok hv hN h c1 c3 c4 hgl hNN
  cases search with
  | true =>
    obtain ⟨W, hW⟩ : ∃ W, W = w.alloc (.cells #[.int .i64 0] 3) := ⟨_, rfl⟩
    have HWB := hid (show Below w.heap.size w W by rw [hW]; exact (Below.refl _ _).alloc (Nat.le_refl _) _)
    go_enter Try.func24, Try.ntmps24
    go_wp2_with (first
      | (at_builtin; refine wpList_app _ rfl (.tmp 18) (.tmp 19) 23 rfl N 3 i0 _ 1 8 Try.underlying23 hi0 hz0 hz1 hz2 rfl (by decide) _ 0 [] rfl (World.ownsRow_nil _ _ _ _) _ 1 1 [.int .i64 0] rfl (src_new w #[.int .i64 0] 3 1 rfl) (one_nums _ [(0 : Int)]) (by decide) (by decide) (by rw [HNN.out, ← hW]; exact HWB.out.size) ?_; rw [← hW]; intro v' w' hown hgrow hat; have HOW := hid hown; have HBW := hid (show Below N w w' by rw [HNN.out]; exact HWB.out.trans (below_own (Below.refl _ _) (World.ownsRow_nil W w.heap.size 3 1) hgrow HWB.out.size)); clear hW hown hgrow hat)
      | fail)
    go_loopw [7, 9, 11, 23] (fun s7 _ _ s23 wr => ∃ (k : Nat), k ≤ l.length ∧ s23 = .int .i64 k ∧ Hid (wr.ownsRow N 3 1 s7 (rawB true s m (l.take k)).length ((rawB true s m (l.take k)).map (.int .i64))) ∧ Hid (Below N w wr)) (fun _ _ _ s23 _ => l.length - (intOf s23).toNat)
    case atStart => exact ⟨0, by omega, rfl, hid (by simpa [rawB] using HOW.out), HBW⟩
    case round =>
      obtain ⟨k, hk, rfl, HO, HB⟩ := hrel
      by_cases hlt : k < l.length
      · have HBw := hid (show Below w.heap.size w wr by rw [← HNN.out]; exact HB.out)
        obtain ⟨rb, ro, cm', hem, -, -, hrc⟩ := (HV.out.below HBw.out).at (j := k) hlt
        obtain ⟨rfl, -⟩ : A1 = some ⟨rb, ro, none⟩ ∧ True := by simpa using (show A1 = some ⟨rb, ro, none⟩ by injection hem)
        obtain ⟨z, hz⟩ : ∃ z, z = nth l k := ⟨_, rfl⟩
        rw [← hz] at hrc
        have HOZ := hid (show i64ok z by rw [hz]; exact HOKS.out _ (nth_mem hlt))
        obtain ⟨nl, hnl⟩ : ∃ nl, nl = nextOf s z := ⟨_, rfl⟩
        have HNL := hid hnl
        have HRT := hid (show rawB true s m (l.take (k + 1)) = rawB true s m (l.take k) ++ pickB s m nl by rw [raw_take hlt, hnl, hz])
        obtain ⟨rw0, hrw0⟩ : ∃ r, r = rawB true s m (l.take k) := ⟨_, rfl⟩
        have hrl : rw0.length ≤ 10000000001 := by rw [hrw0]; have h1 := raw_len (search := true) (s := s) (m := m) HN.out (l.take k); rw [List.length_take] at h1; omega
        rw [← hrw0] at HRT HO
        have hnl6 : nl.length ≤ 1000000 := by rw [hnl]; exact HN.out z
        obtain ⟨nx, tl, hm1, -, h3, -, h5⟩ := HK.out
        have HM1 := hid (hm1.below HBw.out)
        have H3 := hid h3
        have H5 := hid h5
        obtain ⟨g1, g3⟩ := HG.out wr HBw.out
        clear hem hz hnl hrw0 hm1 h3 h5
        go_wp2_with (first
          | (at_lookup; refine wpList_next (s := s) rfl (.tmp 30) (.tmp 31) rfl (b1 := b1) (nx := nx) HM1.out H3.out H5.out z HOZ.out rfl rfl ?_; intro u hu; rw [← HNL.out] at hu; obtain ⟨A3, c3, rfl⟩ := hu.form; have HU := hid hu; clear hu)
          | fail)
        clear g1 g3 hrc
        go_loopw [7, 11, 34] (fun s7 _ s34 wr => ∃ (j : Nat), j ≤ nl.length ∧ s34 = .int .i64 j ∧ Hid (wr.ownsRow N 3 1 s7 (rw0 ++ pickB s m (nl.take j)).length ((rw0 ++ pickB s m (nl.take j)).map (.int .i64))) ∧ Hid (Below N w wr)) (fun _ _ s34 _ => nl.length - (intOf s34).toNat)
        case atStart => exact ⟨0, by omega, rfl, hid (by simpa [pickB] using HO.out), HB⟩
        case round =>
          obtain ⟨j, hj, rfl, HO, HB⟩ := hrel
          have HBw := hid (show Below w.heap.size w wr by rw [← HNN.out]; exact HB.out)
          by_cases hjl : j < nl.length
          · obtain ⟨ub, uo, cm2, hem, -, -, huc⟩ := (HU.out.below HBw.out).at (j := j) hjl
            obtain ⟨rfl, -⟩ : A3 = some ⟨ub, uo, none⟩ ∧ True := by simpa using (show A3 = some ⟨ub, uo, none⟩ by injection hem)
            have hq := next_mem HOK.out (z := z) (q := nth nl j) (by rw [← HNL.out]; exact nth_mem hjl)
            obtain ⟨p, hp⟩ : ∃ p : Nat, nth nl j = (p : Int) + 1 := ⟨(nth nl j - 1).toNat, by omega⟩
            have hps : p < s.lfs.length := by omega
            have hp6 : p ≤ 1000000 := by omega
            rw [hp] at huc
            obtain ⟨b5, rfl⟩ : ∃ b5, A = some ⟨b5, 0, none⟩ := by
              rcases HLF.out.2 with ⟨-, h0⟩ | ⟨b5, cap, cur, e, -⟩
              · omega
              · injection e with e; exact ⟨b5, e⟩
            have HLW := hid (HLF.out.keep (w' := wr) fun b cs hb => HBw.out.block b (Array.getElem?_eq_some_iff.1 hb).1)
            have hfl := fun i hi => (HLW.out.cellAt (p * 3 + i) (by omega)).trans (flat3_at (f := lfC s.lfs) (n := s.lfs.length) (i := p) (j := i) hps hi)
            obtain ⟨a0, ha0⟩ : ∃ a, a = (s.lfs[p]?.getD (0, 0, 0)).1 := ⟨_, rfl⟩
            obtain ⟨a1, ha1⟩ : ∃ a, a = (s.lfs[p]?.getD (0, 0, 0)).2.1 := ⟨_, rfl⟩
            obtain ⟨a2, ha2⟩ : ∃ a, a = (s.lfs[p]?.getD (0, 0, 0)).2.2 := ⟨_, rfl⟩
            have d0 : wr.cell? ⟨b5, p * 3, none⟩ = some (.int .i64 a0) := by rw [ha0]; exact hfl 0 (by omega)
            have d1 : wr.cell? ⟨b5, p * 3 + 1, none⟩ = some (.int .i64 a1) := by rw [ha1]; exact hfl 1 (by omega)
            have d2 : wr.cell? ⟨b5, p * 3 + 2, none⟩ = some (.int .i64 a2) := by rw [ha2]; exact hfl 2 (by omega)
            have HTA := hid (show takesB a0 a1 m = takesAt s m (nth nl j) by unfold takesAt; rw [hp, show ((p : Int) + 1 - 1).toNat = p by omega, ha0, ha1])
            have HPT := hid (pick_take (s := s) (m := m) hjl)
            rw [hp] at HPT HTA
            have hpl : (pickB s m (nl.take j)).length ≤ 1000000 := by have h1 : (pickB s m (nl.take j)).length ≤ (nl.take j).length := List.length_filter_le _ _; rw [List.length_take] at h1; omega
            have hlen : (rw0 ++ pickB s m (nl.take j)).length ≤ 10001000001 := by rw [List.length_append]; omega
            have HLEN := hid hlen
            obtain ⟨g1, g3⟩ := HG.out wr HBw.out
            clear hem hq hp hfl ha0 ha1 ha2 hpl hlen
            go_wp2_with fail
            clear d0 d1 d2 g1 g3 huc
            refine (takes_any a0 a1 a2 m wr).mono ?_
            rintro e w3 ⟨rfl, hb3⟩
            rw [HTA.out]
            have HB3 := hid (hb3.mono (show N ≤ wr.heap.size by have h1 := HB.out.size; rw [HNN.out]; exact h1))
            have HO3 := hid (HO.out.kept (grown_of_below hb3 none) (Classical.em _))
            have HB4 := hid (HB.out.trans HB3.out)
            have HS3 := hid (show N ≤ w3.heap.size by have h1 := HB4.out.size; rw [HNN.out]; exact h1)
            clear hb3
            by_cases htk : takesAt s m ((p : Int) + 1) = true
            · rw [htk]
              rw [if_pos htk] at HPT
              obtain ⟨X, hX⟩ : ∃ X, X = w3.alloc (.cells #[.int .i64 ((p : Int) + 1)] 3) := ⟨_, rfl⟩
              have HXB := hid (show Below w3.heap.size w3 X by rw [hX]; exact (Below.refl _ _).alloc (Nat.le_refl _) _)
              have HOX := hid (HO3.out.kept (grown_of_below HXB.out none) (Classical.em _))
              have HSX := hid (Nat.le_trans HS3.out HXB.out.size)
              have HBX := hid (HB4.out.trans (HXB.out.mono HS3.out))
              go_wp2_with (first
                | (at_builtin; refine wpList_app _ rfl (.tmp 48) (.tmp 50) 23 rfl N 3 i0 _ 1 8 Try.underlying23 hi0 hz0 hz1 hz2 rfl (by decide) _ (rw0 ++ pickB s m (nl.take j)).length ((rw0 ++ pickB s m (nl.take j)).map (.int .i64)) rfl (by rw [← hX]; exact HOX.out) _ 1 1 [.int .i64 ((p : Int) + 1)] rfl (src_new w3 #[.int .i64 ((p : Int) + 1)] 3 1 rfl) (one_nums _ [(p : Int) + 1]) (by simp only [maxLen]; have := HLEN.out; omega) (by have := HLEN.out; omega) (by rw [← hX]; exact HSX.out) ?_; rw [← hX]; clear hX; intro v' w' hown hgrow hat; have HBW := hid (below_own HBX.out HOX.out hgrow HSX.out); have HOW := hid (show w'.ownsRow N 3 1 v' (rw0 ++ pickB s m (nl.take (j + 1))).length ((rw0 ++ pickB s m (nl.take (j + 1))).map (.int .i64)) by rw [HPT.out, ← List.append_assoc, List.length_append, List.map_append]; exact hown); clear hown hgrow hat)
                | fail)
              go_roundw
              case rel => exact ⟨j + 1, by omega, by go_num, HOW, HBW⟩
              case measure => simp [intOf]; omega
            · rw [Bool.not_eq_true] at htk
              rw [htk]
              rw [if_neg (by rw [htk]; simp)] at HPT
              go_wp2_with fail
              go_roundw
              case rel => exact ⟨j + 1, by omega, by go_num, by rw [HPT.out]; exact HO3, HB4⟩
              case measure => simp [intOf]; omega
          · obtain rfl : j = nl.length := by omega
            rw [List.take_length, ← HRT.out] at HO
            go_wp2_with fail
            go_roundw
            case rel => exact ⟨k + 1, by omega, by go_num, HO, HB⟩
            case measure => simp [intOf]; omega
      · obtain rfl : k = l.length := by omega
        rw [List.take_length] at HO
        have hrl : (rawB true s m l).length ≤ 1152921504606846976 := by have h1 := raw_len (search := true) (s := s) (m := m) HN.out l; omega
        have HRL := hid hrl
        have HSW := hid (show N ≤ wr.heap.size by have h1 := HB.out.size; rw [HNN.out]; exact h1)
        clear hrl
        go_wp2_with fail
        refine (sort_call HO.out HSW.out HRL.out).mono ?_
        rintro e w5 ⟨rfl, ho5, hb5⟩
        have HO5 := hid ho5
        have HB5 := hid (HB.out.trans hb5)
        have HS5 := hid (Nat.le_trans HSW.out hb5.size)
        clear ho5 hb5
        go_wp2_with fail
        refine (compact_call (zs := sortB (rawB true s m l)) (by rw [sortB_len]; exact HO5.out) HS5.out (by rw [sortB_len]; exact HRL.out)).mono ?_
        rintro e w6 ⟨v6, rfl, hv6, hb6⟩
        have HV6 := hid hv6
        have HB6 := hid (HB5.out.trans hb6)
        clear hv6 hb6
        go_wp2_with fail
        go_ret
        exact ⟨_, rfl, HNN.out ▸ HV6.out, HNN.out ▸ HB6.out⟩
  | false =>
    go_enter Try.func24, Try.ntmps24
    go_wp2_with fail
    go_loopw [7, 9, 11, 23] (fun s7 _ _ s23 wr => ∃ (k : Nat), k ≤ l.length ∧ s23 = .int .i64 k ∧ Hid (wr.ownsRow N 3 1 s7 (rawB false s m (l.take k)).length ((rawB false s m (l.take k)).map (.int .i64))) ∧ Hid (Below N w wr)) (fun _ _ _ s23 _ => l.length - (intOf s23).toNat)
    case atStart => exact ⟨0, by omega, rfl, hid (by simpa [rawB] using World.ownsRow_nil w N 3 1), hid (Below.refl _ _)⟩
    case round =>
      obtain ⟨k, hk, rfl, HO, HB⟩ := hrel
      by_cases hlt : k < l.length
      · have HBw := hid (show Below w.heap.size w wr by rw [← HNN.out]; exact HB.out)
        obtain ⟨rb, ro, cm', hem, -, -, hrc⟩ := (HV.out.below HBw.out).at (j := k) hlt
        obtain ⟨rfl, -⟩ : A1 = some ⟨rb, ro, none⟩ ∧ True := by simpa using (show A1 = some ⟨rb, ro, none⟩ by injection hem)
        obtain ⟨z, hz⟩ : ∃ z, z = nth l k := ⟨_, rfl⟩
        rw [← hz] at hrc
        have HOZ := hid (show i64ok z by rw [hz]; exact HOKS.out _ (nth_mem hlt))
        obtain ⟨nl, hnl⟩ : ∃ nl, nl = nextOf s z := ⟨_, rfl⟩
        have HNL := hid hnl
        have HRT := hid (show rawB false s m (l.take (k + 1)) = rawB false s m (l.take k) ++ pickB s m nl by rw [raw_take hlt, hnl, hz])
        obtain ⟨rw0, hrw0⟩ : ∃ r, r = rawB false s m (l.take k) := ⟨_, rfl⟩
        have hrl : rw0.length ≤ 10000000001 := by rw [hrw0]; have h1 := raw_len (search := false) (s := s) (m := m) HN.out (l.take k); rw [List.length_take] at h1; omega
        rw [← hrw0] at HRT HO
        have hnl6 : nl.length ≤ 1000000 := by rw [hnl]; exact HN.out z
        obtain ⟨nx, tl, hm1, -, h3, -, h5⟩ := HK.out
        have HM1 := hid (hm1.below HBw.out)
        have H3 := hid h3
        have H5 := hid h5
        obtain ⟨g1, g3⟩ := HG.out wr HBw.out
        clear hem hz hnl hrw0 hm1 h3 h5
        go_wp2_with (first
          | (at_lookup; refine wpList_next (s := s) rfl (.tmp 30) (.tmp 31) rfl (b1 := b1) (nx := nx) HM1.out H3.out H5.out z HOZ.out rfl rfl ?_; intro u hu; rw [← HNL.out] at hu; obtain ⟨A3, c3, rfl⟩ := hu.form; have HU := hid hu; clear hu)
          | fail)
        clear g1 g3 hrc
        go_loopw [7, 11, 34] (fun s7 _ s34 wr => ∃ (j : Nat), j ≤ nl.length ∧ s34 = .int .i64 j ∧ Hid (wr.ownsRow N 3 1 s7 (rw0 ++ pickB s m (nl.take j)).length ((rw0 ++ pickB s m (nl.take j)).map (.int .i64))) ∧ Hid (Below N w wr)) (fun _ _ s34 _ => nl.length - (intOf s34).toNat)
        case atStart => exact ⟨0, by omega, rfl, hid (by simpa [pickB] using HO.out), HB⟩
        case round =>
          obtain ⟨j, hj, rfl, HO, HB⟩ := hrel
          have HBw := hid (show Below w.heap.size w wr by rw [← HNN.out]; exact HB.out)
          by_cases hjl : j < nl.length
          · obtain ⟨ub, uo, cm2, hem, -, -, huc⟩ := (HU.out.below HBw.out).at (j := j) hjl
            obtain ⟨rfl, -⟩ : A3 = some ⟨ub, uo, none⟩ ∧ True := by simpa using (show A3 = some ⟨ub, uo, none⟩ by injection hem)
            have hq := next_mem HOK.out (z := z) (q := nth nl j) (by rw [← HNL.out]; exact nth_mem hjl)
            obtain ⟨p, hp⟩ : ∃ p : Nat, nth nl j = (p : Int) + 1 := ⟨(nth nl j - 1).toNat, by omega⟩
            have hps : p < s.lfs.length := by omega
            have hp6 : p ≤ 1000000 := by omega
            rw [hp] at huc
            obtain ⟨b5, rfl⟩ : ∃ b5, A = some ⟨b5, 0, none⟩ := by
              rcases HLF.out.2 with ⟨-, h0⟩ | ⟨b5, cap, cur, e, -⟩
              · omega
              · injection e with e; exact ⟨b5, e⟩
            have HLW := hid (HLF.out.keep (w' := wr) fun b cs hb => HBw.out.block b (Array.getElem?_eq_some_iff.1 hb).1)
            have hfl := fun i hi => (HLW.out.cellAt (p * 3 + i) (by omega)).trans (flat3_at (f := lfC s.lfs) (n := s.lfs.length) (i := p) (j := i) hps hi)
            obtain ⟨a0, ha0⟩ : ∃ a, a = (s.lfs[p]?.getD (0, 0, 0)).1 := ⟨_, rfl⟩
            obtain ⟨a1, ha1⟩ : ∃ a, a = (s.lfs[p]?.getD (0, 0, 0)).2.1 := ⟨_, rfl⟩
            obtain ⟨a2, ha2⟩ : ∃ a, a = (s.lfs[p]?.getD (0, 0, 0)).2.2 := ⟨_, rfl⟩
            have d0 : wr.cell? ⟨b5, p * 3, none⟩ = some (.int .i64 a0) := by rw [ha0]; exact hfl 0 (by omega)
            have d1 : wr.cell? ⟨b5, p * 3 + 1, none⟩ = some (.int .i64 a1) := by rw [ha1]; exact hfl 1 (by omega)
            have d2 : wr.cell? ⟨b5, p * 3 + 2, none⟩ = some (.int .i64 a2) := by rw [ha2]; exact hfl 2 (by omega)
            have HTA := hid (show takesB a0 a1 m = takesAt s m (nth nl j) by unfold takesAt; rw [hp, show ((p : Int) + 1 - 1).toNat = p by omega, ha0, ha1])
            have HPT := hid (pick_take (s := s) (m := m) hjl)
            rw [hp] at HPT HTA
            have hpl : (pickB s m (nl.take j)).length ≤ 1000000 := by have h1 : (pickB s m (nl.take j)).length ≤ (nl.take j).length := List.length_filter_le _ _; rw [List.length_take] at h1; omega
            have hlen : (rw0 ++ pickB s m (nl.take j)).length ≤ 10001000001 := by rw [List.length_append]; omega
            have HLEN := hid hlen
            obtain ⟨g1, g3⟩ := HG.out wr HBw.out
            clear hem hq hp hfl ha0 ha1 ha2 hpl hlen
            go_wp2_with fail
            clear d0 d1 d2 g1 g3 huc
            refine (takes_any a0 a1 a2 m wr).mono ?_
            rintro e w3 ⟨rfl, hb3⟩
            rw [HTA.out]
            have HB3 := hid (hb3.mono (show N ≤ wr.heap.size by have h1 := HB.out.size; rw [HNN.out]; exact h1))
            have HO3 := hid (HO.out.kept (grown_of_below hb3 none) (Classical.em _))
            have HB4 := hid (HB.out.trans HB3.out)
            have HS3 := hid (show N ≤ w3.heap.size by have h1 := HB4.out.size; rw [HNN.out]; exact h1)
            clear hb3
            by_cases htk : takesAt s m ((p : Int) + 1) = true
            · rw [htk]
              rw [if_pos htk] at HPT
              obtain ⟨X, hX⟩ : ∃ X, X = w3.alloc (.cells #[.int .i64 ((p : Int) + 1)] 3) := ⟨_, rfl⟩
              have HXB := hid (show Below w3.heap.size w3 X by rw [hX]; exact (Below.refl _ _).alloc (Nat.le_refl _) _)
              have HOX := hid (HO3.out.kept (grown_of_below HXB.out none) (Classical.em _))
              have HSX := hid (Nat.le_trans HS3.out HXB.out.size)
              have HBX := hid (HB4.out.trans (HXB.out.mono HS3.out))
              go_wp2_with (first
                | (at_builtin; refine wpList_app _ rfl (.tmp 48) (.tmp 50) 23 rfl N 3 i0 _ 1 8 Try.underlying23 hi0 hz0 hz1 hz2 rfl (by decide) _ (rw0 ++ pickB s m (nl.take j)).length ((rw0 ++ pickB s m (nl.take j)).map (.int .i64)) rfl (by rw [← hX]; exact HOX.out) _ 1 1 [.int .i64 ((p : Int) + 1)] rfl (src_new w3 #[.int .i64 ((p : Int) + 1)] 3 1 rfl) (one_nums _ [(p : Int) + 1]) (by simp only [maxLen]; have := HLEN.out; omega) (by have := HLEN.out; omega) (by rw [← hX]; exact HSX.out) ?_; rw [← hX]; clear hX; intro v' w' hown hgrow hat; have HBW := hid (below_own HBX.out HOX.out hgrow HSX.out); have HOW := hid (show w'.ownsRow N 3 1 v' (rw0 ++ pickB s m (nl.take (j + 1))).length ((rw0 ++ pickB s m (nl.take (j + 1))).map (.int .i64)) by rw [HPT.out, ← List.append_assoc, List.length_append, List.map_append]; exact hown); clear hown hgrow hat)
                | fail)
              go_roundw
              case rel => exact ⟨j + 1, by omega, by go_num, HOW, HBW⟩
              case measure => simp [intOf]; omega
            · rw [Bool.not_eq_true] at htk
              rw [htk]
              rw [if_neg (by rw [htk]; simp)] at HPT
              go_wp2_with fail
              go_roundw
              case rel => exact ⟨j + 1, by omega, by go_num, by rw [HPT.out]; exact HO3, HB4⟩
              case measure => simp [intOf]; omega
          · obtain rfl : j = nl.length := by omega
            rw [List.take_length, ← HRT.out] at HO
            go_wp2_with fail
            go_roundw
            case rel => exact ⟨k + 1, by omega, by go_num, HO, HB⟩
            case measure => simp [intOf]; omega
      · obtain rfl : k = l.length := by omega
        rw [List.take_length] at HO
        have hrl : (rawB false s m l).length ≤ 1152921504606846976 := by have h1 := raw_len (search := false) (s := s) (m := m) HN.out l; omega
        have HRL := hid hrl
        have HSW := hid (show N ≤ wr.heap.size by have h1 := HB.out.size; rw [HNN.out]; exact h1)
        clear hrl
        go_wp2_with fail
        refine (sort_call HO.out HSW.out HRL.out).mono ?_
        rintro e w5 ⟨rfl, ho5, hb5⟩
        have HO5 := hid ho5
        have HB5 := hid (HB.out.trans hb5)
        have HS5 := hid (Nat.le_trans HSW.out hb5.size)
        clear ho5 hb5
        go_wp2_with fail
        refine (compact_call (zs := sortB (rawB false s m l)) (by rw [sortB_len]; exact HO5.out) HS5.out (by rw [sortB_len]; exact HRL.out)).mono ?_
        rintro e w6 ⟨v6, rfl, hv6, hb6⟩
        have HV6 := hid hv6
        have HB6 := hid (HB5.out.trans hb6)
        clear hv6 hb6
        go_wp2_with fail
        go_ret
        exact ⟨_, rfl, HNN.out ▸ HV6.out, HNN.out ▸ HB6.out⟩
end Go.Proofs.Ythdhbkngbmjjkaa
