/- Print: a right expression's text; else none. The statements' awake: it is true. Whether an expression is too great; the marks that are asked of; the statement ExprMatches' code: it returns true. Conditions: the arguments lie in memory. -/
import Derived.Test.YtjcdcmeclnihbaaQt
import Derived.Test.YtjcdcmeclnihbaaMa
import Derived.Test.YtjcdcmeclnihbaaLx
import Derived.Test.YtjcdcmeclnihbaaRr
namespace Go.Proofs.Ytjcdcmeclnihbaa
open Go.RowKit
set_option linter.unusedSimpArgs false
def printP (p : PT) : Bs := if rightP p then txP p else []
set_option maxRecDepth 100000 in
set_option maxHeartbeats 1000000 in
theorem print_any (v : Value) (p : PT) (w : World) (h : IsP w Any v p) : Calls Try.prog 31 #[v] w fun e w' => ∃ s, e = .returned (.string s) ∧ bsOf s = printP p ∧ Below w.heap.size w w' := by
  obtain ⟨A, c, rfl⟩ := h.form
  obtain ⟨k0, hk0⟩ : ∃ k, k = p.kind := ⟨_, rfl⟩
  obtain ⟨c0, hc0⟩ : ∃ k, k = p.cls := ⟨_, rfl⟩
  obtain ⟨n0, hn0⟩ : ∃ k, k = p.kids.length := ⟨_, rfl⟩
  rw [← hk0, ← hc0, ← hn0] at h ⊢
  obtain ⟨X, hX⟩ : ∃ X, X = w.alloc (.cells #[.int .i64 k0, .int .i64 c0, .slice A n0 c] 45) := ⟨_, rfl⟩
  have HX := hid hX
  have HXB := hid (show X.heap[w.heap.size]? = some (.cells #[.int .i64 k0, .int .i64 c0, .slice A n0 c] 45 (0, 0)) by rw [hX]; exact heap_alloc_new _ _)
  have hb : Below w.heap.size w X := by rw [hX]; exact (Below.refl _ _).alloc (Nat.le_refl _) _
  have HB := hid hb
  have HI := hid (h.below hb)
  clear hX h hb hk0 hc0 hn0
  obtain ⟨y0, y1, y2, -⟩ := slot3 HXB.out
  go_enter Try.func31, Try.ntmps31
  go_wp2_with fail
  rw [← HX.out]
  go_wp2_with fail
  refine (rightP_any X _ p HI.out).mono ?_
  rintro e w1 ⟨rfl, hb1⟩
  have HB1 := hid hb1
  have HBA := hid (HB.out.trans (hb1.mono HB.out.size))
  have hsame := hb1.block w.heap.size (Array.getElem?_eq_some_iff.1 HXB.out).1
  have z0 := (cell_same hsame).trans y0
  have z1 := (cell_same hsame).trans y1
  have z2 := (cell_same hsame).trans y2
  clear y0 y1 y2 hb1 hsame
  cases hr : rightP p with
  | false =>
    go_wp2_with fail
    go_ret
    refine ⟨_, rfl, ?_, HBA.out⟩
    unfold printP
    rw [hr]
    rfl
  | true =>
    have HR := hid hr
    have HI1 := hid (HI.out.below HB1.out)
    clear hr
    obtain ⟨d, t, ht, hp⟩ := HI1.out
    have HP := hid hp
    have hr2 : rightT d t = true := by rw [← rightP_toP, HP.out]; exact HR.out
    have HC := hid (text_any d false Any _ t w1 ht (rightT_cnt hr2).2 (rightT_cnt hr2).1)
    clear ht hp hr2
    go_wp2_with fail
    refine HC.out.mono ?_
    rintro e w2 ⟨s, rfl, hs, hb2⟩
    have HS := hid hs
    have HB2 := hid (HBA.out.trans (hb2.mono HBA.out.size))
    clear hs hb2
    go_wp2_with fail
    go_ret
    refine ⟨_, rfl, ?_, HB2.out⟩
    rw [HS.out, HP.out]
    unfold printP
    rw [HR.out]
    rfl
end Go.Proofs.Ytjcdcmeclnihbaa
namespace Go.Proofs.Ytjcdcmeclnihbaa
open Go.RowKit
set_option linter.unusedSimpArgs false
def exS : ByteArray := ⟨#[126, 76, 32, 40, 86, 124, 84, 41, 42]⟩
def exP : PT := .mk 4 0 [.mk 2 11 [], .mk 6 0 [.mk 5 0 [.mk 0 12 [], .mk 0 13 []]]]
def exT : Tr 4 := ((4, 0, [((2, 11, []) : Tr 3), ((6, 0, [((5, 0, [((0, 12, []) : Tr 1), ((0, 13, []) : Tr 1)]) : Tr 2)]) : Tr 3)]) : Tr 4)
theorem exT_is : toP 4 exT = exP := rfl
set_option maxRecDepth 100000 in
theorem ex_parse : parseF [] exS = .ok exP := by kernel_rfl
set_option maxRecDepth 100000 in
theorem ex_yes : matchesT exT [12, 13] = true := by kernel_rfl
set_option maxRecDepth 100000 in
theorem ex_no : matchesT exT [11] = false := by kernel_rfl
set_option maxRecDepth 100000 in
theorem ex_print : printP exP = bsOf exS := by kernel_rfl
theorem macs_nil (w : World) : IsMacs w (fun _ => False) w.heap.size (.slice none 0 0) [] :=
  ⟨none, 0, fun _ => .bool false, fun _ => .bool false, fun _ => .bool false, fun _ => .bool false, rfl, fun k hk => absurd hk (by simp), ⟨fun b o e => (by cases e), fun k m h => (by simp at h)⟩⟩
set_option maxRecDepth 100000 in
set_option maxHeartbeats 2000000 in
theorem eawake_any (w : World) : Calls Try.prog 24 #[] w fun e w' => e = .returned (.bool true) ∧ Below w.heap.size w w' := by
  have HP := hid (parse_any (s := exS) (by decide) (macs_nil w) (fun b hb => hb.elim))
  go_enter Try.func24, Try.ntmps24
  go_wp2_with fail
  refine HP.out.mono ?_
  rintro e w1 ⟨hb1, hp⟩
  rw [ex_parse] at hp
  obtain ⟨v, rfl, hp⟩ := hp
  obtain ⟨A, c, rfl⟩ := hp.form
  have HI1 := hid hp
  have HB1 := hid hb1
  obtain ⟨Y, hY⟩ : ∃ Y, Y = w1.alloc (.cells #[.int .i64 4, .int .i64 0, .slice A 2 c] 45) := ⟨_, rfl⟩
  have HY := hid hY
  obtain ⟨q, hq⟩ : ∃ q, q = w1.heap.size := ⟨_, rfl⟩
  have HQ := hid hq
  have hby : Below w1.heap.size w1 Y := by rw [hY]; exact (Below.refl _ _).alloc (Nat.le_refl _) _
  have HYB := hid (show Y.heap[q]? = some (.cells #[.int .i64 4, .int .i64 0, .slice A 2 c] 45 (0, 0)) by rw [hY, hq]; exact heap_alloc_new _ _)
  have HQY := hid (show q < Y.heap.size from (Array.getElem?_eq_some_iff.1 HYB.out).1)
  have HTY := hid (show IsTr Y Any 4 (.agg #[.int .i64 4, .int .i64 0, .slice A 2 c]) exT from ((hp.below hby).mono (fun _ _ _ => trivial)).tr exT_is)
  have HBY := hid (HB1.out.trans (hby.mono HB1.out.size))
  have HCY := hid (show ∀ Z : World, Below Y.heap.size Y Z → Z.cell? ⟨q, 0, none⟩ = some (.int .i64 4) ∧ Z.cell? ⟨q, 1, none⟩ = some (.int .i64 0) ∧ Z.cell? ⟨q, 2, none⟩ = some (.slice A 2 c) from fun Z hZ => by
    obtain ⟨c0, c1, c2, -⟩ := slot3 ((hZ.block q HQY.out).trans HYB.out)
    exact ⟨c0, c1, c2⟩)
  clear hp hb1 hby hY hq
  obtain ⟨y0, y1, y2⟩ := HCY.out Y (Below.refl _ _)
  have hk4 : exP.kind = 4 := rfl
  have hk0 : exP.cls = 0 := rfl
  have hk2 : exP.kids.length = 2 := rfl
  rw [hk4, hk0, hk2]
  have HYS := hid (show Y.heap.size = q + 1 by rw [HY.out, HQ.out]; simp)
  obtain ⟨Y2, hY2⟩ : ∃ Z, Z = Y.alloc (.cells #[.int .i64 12, .int .i64 13] 3) := ⟨_, rfl⟩
  have HY2 := hid hY2
  have hl2 : IsNums .i64 Y2 Any (.slice (some ⟨q + 1, 0, none⟩) 2 2) [12, 13] := by have h := lit_nums Y [12, 13] (by decide); rw [HYS.out] at h; rw [hY2]; exact h
  have HBY2 := hid (show Below Y.heap.size Y Y2 by rw [hY2]; exact (Below.refl _ _).alloc (Nat.le_refl _) _)
  have HM2 := hid (matches_any 4 _ _ exT [12, 13] Y2 (HTY.out.below HBY2.out) hl2 (by decide))
  rw [ex_yes] at HM2
  clear hY2 hl2
  go_wp2_with fail
  rw [← HY.out, ← HQ.out, ← HY2.out]
  refine HM2.out.mono ?_
  rintro e w3 ⟨rfl, hb3⟩
  have HB3 := hid (HBY2.out.trans (hb3.mono HBY2.out.size))
  obtain ⟨z0, z1, z2⟩ := HCY.out w3 HB3.out
  obtain ⟨Y3, hY3⟩ : ∃ Z, Z = w3.alloc (.cells #[.int .i64 11] 3) := ⟨_, rfl⟩
  have HY3 := hid hY3
  have hl3 : IsNums .i64 Y3 Any (.slice (some ⟨w3.heap.size, 0, none⟩) 1 1) [11] := by rw [hY3]; exact lit_nums w3 [11] (by decide)
  have HBY3 := hid (show Below Y.heap.size Y Y3 by rw [hY3]; exact HB3.out.alloc HB3.out.size _)
  have HM3 := hid (matches_any 4 _ _ exT [11] Y3 (HTY.out.below HBY3.out) hl3 (by decide))
  rw [ex_no] at HM3
  clear hY3 hl3 hb3 y0 y1 y2
  go_wp2_with fail
  rw [← HY3.out]
  refine HM3.out.mono ?_
  rintro e w4 ⟨rfl, hb4⟩
  have HB4 := hid (HBY3.out.trans (hb4.mono HBY3.out.size))
  clear z0 z1 z2 hb4
  obtain ⟨z0, z1, z2⟩ := HCY.out w4 HB4.out
  have HPR := hid (print_any _ exP w4 ⟨4, exT, HTY.out.below HB4.out, exT_is⟩)
  rw [ex_print] at HPR
  go_wp2_with fail
  refine HPR.out.mono ?_
  rintro e w5 ⟨s, rfl, hs, hb5⟩
  have HB5 := hid (HBY.out.trans ((HB4.out.trans (hb5.mono HB4.out.size)).mono HBY.out.size))
  obtain rfl := bsOf_inj hs
  clear hs hb5
  unfold exS
  go_wp2_with fail
  go_ret
  exact ⟨rfl, HB5.out⟩
end Go.Proofs.Ytjcdcmeclnihbaa
namespace Go.Proofs.Ytjcdcmeclnihbaa
open Go.RowKit
set_option linter.unusedSimpArgs false
set_option maxRecDepth 100000 in
set_option maxHeartbeats 1000000 in
theorem egreat_any {d : Nat} {S : Nat → Prop} {v : Value} {t : Tr d} {w : World} (h : IsTr w S d v t) : Calls Try.prog 23 #[v] w fun e w' => e = .returned (.bool (decide (60 < cnt d t))) ∧ Below w.heap.size w w' := by
  obtain ⟨A, c, rfl⟩ := h.plain.form
  obtain ⟨k0, hk0⟩ : ∃ k, k = (toP d t).kind := ⟨_, rfl⟩
  obtain ⟨c0, hc0⟩ : ∃ k, k = (toP d t).cls := ⟨_, rfl⟩
  obtain ⟨n0, hn0⟩ : ∃ k, k = (toP d t).kids.length := ⟨_, rfl⟩
  rw [← hk0, ← hc0, ← hn0] at h ⊢
  obtain ⟨X, hX⟩ : ∃ X, X = w.alloc (.cells #[.int .i64 k0, .int .i64 c0, .slice A n0 c] 51) := ⟨_, rfl⟩
  have HX := hid hX
  have HXB := hid (show X.heap[w.heap.size]? = some (.cells #[.int .i64 k0, .int .i64 c0, .slice A n0 c] 51 (0, 0)) by rw [hX]; exact heap_alloc_new _ _)
  have hb : Below w.heap.size w X := by rw [hX]; exact (Below.refl _ _).alloc (Nat.le_refl _) _
  have HB := hid hb
  have HC := hid (size_any S d _ t 60 X (h.below hb) (by decide) (by decide))
  have HD := hid (show decide ((60 : Int) < sizeT d 60 t) = decide (60 < cnt d t) by
    rw [decide_eq_decide]
    have h1 := sizeT_le (d := d) (most := 60) (t := t) (by decide)
    omega)
  clear hX h hb hk0 hc0 hn0
  obtain ⟨y0, y1, y2, -⟩ := slot3 HXB.out
  go_enter Try.func23, Try.ntmps23
  go_wp2_with fail
  rw [← HX.out]
  go_wp2_with fail
  refine HC.out.mono ?_
  rintro e w2 ⟨rfl, hb2⟩
  have HB2 := hid (HB.out.trans (hb2.mono HB.out.size))
  clear hb2
  go_wp2_with fail
  go_ret
  exact ⟨ret_bool HD.out, HB2.out⟩
/-- 'append(x, z)' of numbers of one's own. -/
theorem wpList_app_int {w : World} {ops : Array Oper} {rest : List Oper} {o : Oper} {a : Act} {Q : Exit → Act → World → Prop} (hgd : o.guard = none) (s x : Operand) (ho : o.op = .call { callee := .builtin .append, args := #[s, x], argTypes := #[22, 22] })
    {B : Nat} {v : Value} {n : Nat} {xs : List Int} (hs : a.eval s = v) (hown : w.ownsRow B 3 1 v n (xs.map (.int .i64))) {g c : Nat} {z : Int} (hx : a.eval x = .slice (some ⟨g, 0, none⟩) 1 c) (hz : w.cell? ⟨g, 0, none⟩ = some (.int .i64 z))
    (hl : n ≤ 1000000) (hB : B ≤ w.heap.size)
    (hk : ∀ v' w', w'.ownsRow B 3 1 v' (n + 1) ((xs ++ [z]).map (.int .i64)) → w.grownBy w' v.ownBlock → wpList Try.prog ops Q rest (a.put o.dst v') w') : wpList Try.prog ops Q (o :: rest) a w := by
  obtain ⟨i0, hi0, hz0, hz1, hz2⟩ := info_parts info3
  refine wpList_append_own w hgd s x 22 ho B 3 i0 _ 1 8 Try.underlying22 hi0 hz0 hz1 hz2 rfl (by decide) v n (xs.map (.int .i64)) hs hown ⟨g, 0, none⟩ 1 c [.int .i64 z] hx rfl ?_ (one_nums .i64 [z]) (by simp only [maxLen]; omega) (by omega) hB ?_
  · intro j u hu
    have : j = 0 := by have := (List.getElem?_eq_some_iff.1 hu).1; simpa using this
    subst this
    simp at hu
    subst hu
    exact hz
  · intro v' w' h1 h2 _
    refine hk v' w' ?_ h2
    rw [List.map_append]
    exact h1
set_option maxRecDepth 100000 in
set_option maxHeartbeats 1000000 in
theorem marks_any {S : Nat → Prop} {v : Value} {l : List Int} {w : World} (h : IsNums .i64 w S v l) : Calls Try.prog 25 #[v] w fun e w' => ∃ v', e = .returned v' ∧ IsNums .i64 w' (fun b => w.heap.size ≤ b) v' (l.take 8) ∧ Below w.heap.size w w' := by
  have hle := h.le
  obtain ⟨A, cp, rfl, -, -, hA⟩ := h
  have HA := hid hA
  obtain ⟨q, hq⟩ : ∃ q, q = w.heap.size := ⟨_, rfl⟩
  have HQ := hid hq
  obtain ⟨N, hN⟩ : ∃ N, N = l.length := ⟨_, rfl⟩
  have HN := hid hN
  rw [← hN] at hle ⊢
  clear hA hq hN
  go_enter Try.func25, Try.ntmps25
  go_wp2_with fail
  go_loopw [3, 4] (fun s3 s4 wr => ∃ (k : Nat) (v3 : Value), k ≤ N ∧ k ≤ 8 ∧ v3 = s3 ∧ s4 = .int .i64 k ∧ Hid (wr.ownsRow q 3 1 v3 k ((l.take k).map (.int .i64))) ∧ Hid (Below q w wr)) (fun _ s4 _ => N - (intOf s4).toNat)
  case atStart => exact ⟨0, _, by omega, by omega, rfl, rfl, hid (World.ownsRow_nil _ _ _ _), hid (by rw [HQ.out]; exact Below.refl _ _)⟩
  case round =>
    obtain ⟨k, v3, hk, hk8, rfl, rfl, HO, HB⟩ := hrel
    have HBq := hid (show Below w.heap.size w wr by rw [← HQ.out]; exact HB.out)
    by_cases hlt : k < N
    · by_cases hlt8 : k < 8
      · obtain ⟨b, o, rfl, -, hbs, hc⟩ := HA.out.num (j := k) (by rw [← HN.out]; exact hlt)
        have d0 := (cell_same (HBq.out.block b hbs)).trans hc
        obtain ⟨z, hz⟩ : ∃ z, z = nth l k := ⟨_, rfl⟩
        rw [← hz] at d0
        have HTK := hid (show l.take (k + 1) = l.take k ++ [z] by rw [hz]; exact take_nth (by rw [← HN.out]; exact hlt))
        have HOX := hid (HO.out.alloc (.cells #[.int .i64 z] 3))
        have HCX := hid (show (wr.alloc (.cells #[.int .i64 z] 3)).cell? ⟨wr.heap.size, 0, none⟩ = some (.int .i64 z) by rw [cell_of_row _ _ _ _ _ _ (heap_alloc_new _ _)]; rfl)
        have HBX := hid (show Below q w (wr.alloc (.cells #[.int .i64 z] 3)) by rw [HQ.out]; exact HBq.out.alloc HBq.out.size _)
        have HSX := hid (show q ≤ (wr.alloc (.cells #[.int .i64 z] 3)).heap.size by have := HBX.out.size; have := HQ.out; omega)
        have hk2 : k ≤ 1000000 := by omega
        clear hc hz
        go_wp2_with (first
          | (at_builtin; (refine wpList_app_int rfl (.tmp 15) (.tmp 20) rfl (B := q) (v := v3) (n := k) (xs := l.take k) rfl HOX.out (g := wr.heap.size) (c := 1) (z := z) rfl HCX.out hk2 HSX.out ?_); intro v' w' ho hg)
          | fail)
        have HV' := hid (below_own HBX.out HOX.out hg HSX.out)
        go_roundw
        case rel => exact ⟨k + 1, _, by omega, by omega, rfl, by go_num, hid (by rw [HTK.out]; exact ho), HV'⟩
        case measure => simp [intOf]; omega
      · have hk8' : k = 8 := by omega
        subst hk8'
        go_wp2_with fail
        go_ret
        exact ⟨_, rfl, (own_nums HO.out).mono fun b hb _ => by have := HQ.out; have := hb.1; omega, HBq.out⟩
    · have hkN : k = N := by omega
      have HT := hid (show l.take k = l.take 8 by rw [List.take_of_length_le (by have := HN.out; omega), List.take_of_length_le (by have := HN.out; omega)])
      go_wp2_with fail
      go_ret
      refine ⟨_, rfl, ?_, HBq.out⟩
      rw [← HT.out]
      exact (own_nums HO.out).mono fun b hb _ => by have := HQ.out; have := hb.1; omega
end Go.Proofs.Ytjcdcmeclnihbaa
namespace Go.Proofs.Ytjcdcmeclnihbaa
open Go.RowKit
set_option linter.unusedSimpArgs false
theorem rightT_of {d : Nat} {t : Tr d} (h : cnt d t ≤ 60) : rightT d t = fitsT d false t := by
  unfold rightT
  rw [decide_eq_true (by rw [sizeT_le (by decide)]; omega), Bool.true_and]
set_option maxRecDepth 100000 in
set_option maxHeartbeats 4000000 in
theorem ematches_walk (d : Nat) (v mv : Value) (t : Tr d) (l : List Int) (w : World) (h : IsTr w Any d v t) (hm : IsNums .i64 w Any mv l) :
    Calls Try.prog 8 #[v, mv] w fun e w' => e = .returned (.bool true) ∧ Below w.heap.size w w' := by
  obtain ⟨A, c, rfl⟩ := h.plain.form
  obtain ⟨mA, mc, rfl⟩ := hm.form
  obtain ⟨ml, hml⟩ : ∃ k, k = l.length := ⟨_, rfl⟩
  obtain ⟨k0, hk0⟩ : ∃ k, k = (toP d t).kind := ⟨_, rfl⟩
  obtain ⟨c0, hc0⟩ : ∃ k, k = (toP d t).cls := ⟨_, rfl⟩
  obtain ⟨n0, hn0⟩ : ∃ k, k = (toP d t).kids.length := ⟨_, rfl⟩
  rw [← hk0, ← hc0, ← hn0] at h ⊢
  rw [← hml] at hm ⊢
  obtain ⟨X, hX⟩ : ∃ X, X = w.alloc (.cells #[.int .i64 k0, .int .i64 c0, .slice A n0 c] 51) := ⟨_, rfl⟩
  obtain ⟨q, hq⟩ : ∃ q, q = w.heap.size := ⟨_, rfl⟩
  have HX := hid hX
  have HQ := hid hq
  have HXB := hid (show X.heap[q]? = some (.cells #[.int .i64 k0, .int .i64 c0, .slice A n0 c] 51 (0, 0)) by rw [hX, hq]; exact heap_alloc_new _ _)
  have hb : Below w.heap.size w X := by rw [hX]; exact (Below.refl _ _).alloc (Nat.le_refl _) _
  have HQX := hid (show q < X.heap.size from (Array.getElem?_eq_some_iff.1 HXB.out).1)
  have HCX := hid (show ∀ Y : World, Below X.heap.size X Y → Y.cell? ⟨q, 0, none⟩ = some (.int .i64 k0) ∧ Y.cell? ⟨q, 1, none⟩ = some (.int .i64 c0) ∧ Y.cell? ⟨q, 2, none⟩ = some (.slice A n0 c) from fun Y hY => by
    obtain ⟨c0, c1, c2, -⟩ := slot3 ((hY.block q HQX.out).trans HXB.out)
    exact ⟨c0, c1, c2⟩)
  have HB := hid hb
  have HTX := hid (h.below hb)
  have HMX := hid (hm.below hb)
  have HGR := hid (egreat_any HTX.out)
  clear hX hq h hb hk0 hc0 hn0 hml hm
  obtain ⟨y0, y1, y2⟩ := HCX.out X (Below.refl _ _)
  go_enter Try.func8, Try.ntmps8
  go_wp2_with fail
  rw [← HX.out, ← HQ.out]
  go_wp2_with fail
  refine HGR.out.mono ?_
  rintro e w1 ⟨rfl, hb1⟩
  have HB1 := hid hb1
  clear hb1 y0 y1 y2
  by_cases hgr : 60 < cnt d t
  · rw [decide_eq_true hgr]
    go_wp2_with fail
    refine (eawake_any w1).mono ?_
    rintro e w2 ⟨rfl, hb2⟩
    have HB2 := hid (HB.out.trans ((HB1.out.trans (hb2.mono HB1.out.size)).mono HB.out.size))
    clear hb2
    go_wp2_with fail
    go_ret
    exact ⟨rfl, HB2.out⟩
  · rw [decide_eq_false hgr]
    have HN60 := hid (show cnt d t ≤ 2000 by omega)
    have HRE := hid (rightT_of (d := d) (t := t) (by omega))
    clear hgr
    go_wp2_with fail
    refine (eawake_any w1).mono ?_
    rintro e w2 ⟨rfl, hb2⟩
    have HB2 := hid (HB1.out.trans (hb2.mono HB1.out.size))
    clear hb2
    go_wp2_with fail
    refine (marks_any (HMX.out.below HB2.out)).mono ?_
    rintro e w3 ⟨v5, rfl, hm3, hb3⟩
    have HB3 := hid (HB2.out.trans (hb3.mono HB2.out.size))
    obtain ⟨m, hmd⟩ : ∃ m, m = l.take 8 := ⟨_, rfl⟩
    rw [← hmd] at hm3
    have HML := hid (show m.length ≤ 8 by rw [hmd, List.length_take]; omega)
    have HM3 := hid hm3
    obtain ⟨A5, c5, rfl⟩ := hm3.form
    obtain ⟨n5, hn5⟩ : ∃ k, k = m.length := ⟨_, rfl⟩
    rw [← hn5] at HM3 ⊢
    obtain ⟨z0, z1, z2⟩ := HCX.out w3 HB3.out
    clear hm3 hb3 hmd hn5
    go_wp2_with fail
    refine (rright_any Any d _ t false w3 (HTX.out.below HB3.out) HN60.out).mono ?_
    rintro e w4 ⟨rfl, hb4⟩
    have HBX4 := hid (HB3.out.trans (hb4.mono HB3.out.size))
    have HM4 := hid ((HM3.out.below hb4).mono (S' := Any) fun _ _ _ => trivial)
    have HT4 := hid (HTX.out.below HBX4.out)
    have HB4 := hid (HB.out.trans (HBX4.out.mono HB.out.size))
    have HC4 := hid (show ∀ Y : World, Below w4.heap.size w4 Y → Y.cell? ⟨q, 0, none⟩ = some (.int .i64 k0) ∧ Y.cell? ⟨q, 1, none⟩ = some (.int .i64 c0) ∧ Y.cell? ⟨q, 2, none⟩ = some (.slice A n0 c) from fun Y hY => HCX.out Y (HBX4.out.trans (hY.mono HBX4.out.size)))
    clear hb4 z0 z1 z2
    obtain ⟨z0, z1, z2⟩ := HC4.out w4 (Below.refl _ _)
    cases hfit : fitsT d false t with
    | false =>
      have HRF := hid (show ∀ m : List Int, matchesT t m = false by intro m; unfold matchesT; rw [HRE.out, hfit]; rfl)
      clear hfit
      go_wp2_with fail
      refine (to_any Any d _ t _ HT4.out HN60.out).mono ?_
      rintro e w5 ⟨v5, rfl, hb5, ht5⟩
      have HT5 := hid (ht5.mono (S' := Any) fun _ _ _ => trivial)
      have HB5 := hid (HB4.out.trans (hb5.mono HB4.out.size))
      have HM5 := hid (HM4.out.below hb5)
      clear hb5 ht5
      go_wp2_with fail
      refine (matches_any d _ _ t m _ HT5.out HM5.out (by have := HML.out; omega)).mono ?_
      rintro e w6 ⟨rfl, hb6⟩
      have HB6 := hid (HB5.out.trans (hb6.mono HB5.out.size))
      rw [HRF.out]
      clear hb6
      go_wp2_with fail
      go_ret
      exact ⟨rfl, HB6.out⟩
    | true =>
      have HRT := hid (HRE.out.trans hfit)
      have HW := hid (Below.refl w4.heap.size w4)
      clear hfit
      go_wp2_with fail
      clear z0 z1 z2
      refine wp_region_held_drew (S := (fun Y => Y.cell? ⟨q, 0, none⟩ = some (.int .i64 k0) ∧ Y.cell? ⟨q, 1, none⟩ = some (.int .i64 c0) ∧ Y.cell? ⟨q, 2, none⟩ = some (.slice A n0 c))) (by kernel_rfl) (by exact HC4.out _ HW.out.drew) (fun hHeld => ?_)
      refine wpAnyH_take (i := 0) (oi := { dst := some 23, op := Op.load 51 (Operand.tmp 2), type := _, pos := _, after := _, guard := none }) (v := ?_) rfl (by kernel_rfl) (by kernel_rfl) (by kernel_rfl) (fun _ _ _ h => h) (Or.inl ⟨by rfl, ?_⟩) (by assumption) ?_
      rotate_left
      · intro w hSw; (try dsimp only at hSw); go_simp; try (first | with_reducible rfl | (refine (if_pos ?_).trans ?_ <;> first | omega | with_reducible rfl))
      try simp only [Act.put, List.setIfInBounds_toArray, List.set_cons_zero, List.set_cons_succ]
      refine wpAnyH_take (i := 2) (oi := { dst := some 25, op := Op.move (Operand.tmp 5), type := _, pos := _, after := _, guard := none }) (v := ?_) rfl (by kernel_rfl) (by kernel_rfl) (by kernel_rfl) (fun _ _ _ h => h) (Or.inl ⟨by rfl, ?_⟩) (by assumption) ?_
      rotate_left
      · intro w hSw; (try dsimp only at hSw); go_simp; try (first | with_reducible rfl | (refine (if_pos ?_).trans ?_ <;> first | omega | with_reducible rfl))
      try simp only [Act.put, List.setIfInBounds_toArray, List.set_cons_zero, List.set_cons_succ]
      refine wpAnyH_take (i := 4) (oi := { dst := some 27, op := Op.load 51 (Operand.tmp 2), type := _, pos := _, after := _, guard := none }) (v := ?_) rfl (by kernel_rfl) (by kernel_rfl) (by kernel_rfl) (fun _ _ _ h => h) (Or.inl ⟨by rfl, ?_⟩) (by assumption) ?_
      rotate_left
      · intro w hSw; (try dsimp only at hSw); go_simp; try (first | with_reducible rfl | (refine (if_pos ?_).trans ?_ <;> first | omega | with_reducible rfl))
      try simp only [Act.put, List.setIfInBounds_toArray, List.set_cons_zero, List.set_cons_succ]
      refine wpAnyH_take (i := 5) (oi := { dst := some 28, op := Op.move (Operand.tmp 5), type := _, pos := _, after := _, guard := none }) (v := ?_) rfl (by kernel_rfl) (by kernel_rfl) (by kernel_rfl) (fun _ _ _ h => h) (Or.inl ⟨by rfl, ?_⟩) (by assumption) ?_
      rotate_left
      · intro w hSw; (try dsimp only at hSw); go_simp; try (first | with_reducible rfl | (refine (if_pos ?_).trans ?_ <;> first | omega | with_reducible rfl))
      try simp only [Act.put, List.setIfInBounds_toArray, List.set_cons_zero, List.set_cons_succ]
      replace HW := hid HW.out.drew
      refine wpAnyH_ready (rs := [1]) (by kernel_rfl) (by simp) ?_
      refine AllReadyH.cons (o := { dst := some 24, op := Op.call { callee := Callee.value (Operand.func 28), args := #[Operand.tmp 23], argTypes := #[51] }, type := _, pos := _, after := _, guard := none }) rfl (fun K hK => ?_) AllReadyH.nil
      rw [if_pos (by rfl)]
      go_simp
      refine (to_any Any d _ t _ (HT4.out.below HW.out) HN60.out).mono ?_
      rintro e w5 ⟨v5, rfl, hb5, ht5⟩
      replace HW := hid (HW.out.trans (hb5.mono HW.out.size))
      have HT5 := hid ht5
      clear hb5 ht5
      go_wp2_with fail
      refine hK.out _ _ (by exact HC4.out _ HW.out) (fun hHeld => ?_)
      clear hK K
      try simp only [Act.put, List.setIfInBounds_toArray, List.set_cons_zero, List.set_cons_succ]
      refine wpAnyH_ready (rs := [3]) (by kernel_rfl) (by simp) ?_
      refine AllReadyH.cons (o := { dst := some 26, op := Op.call { callee := Callee.value (Operand.func 27), args := #[Operand.tmp 24, Operand.tmp 25], argTypes := #[45, 22] }, type := _, pos := _, after := _, guard := none }) rfl (fun K hK => ?_) AllReadyH.nil
      rw [if_pos (by rfl)]
      go_simp
      refine (matches_any d _ _ t m _ (HT5.out.mono fun _ _ _ => trivial) (HM4.out.below HW.out) (by have := HML.out; omega)).mono ?_
      rintro e w6 ⟨rfl, hb6⟩
      replace HW := hid (HW.out.trans (hb6.mono HW.out.size))
      clear hb6
      go_wp2_with fail
      refine hK.out _ _ (by exact HC4.out _ HW.out) (fun hHeld => ?_)
      clear hK K
      try simp only [Act.put, List.setIfInBounds_toArray, List.set_cons_zero, List.set_cons_succ]
      refine wpAnyH_ready (rs := [6]) (by kernel_rfl) (by simp) ?_
      refine AllReadyH.cons (o := { dst := some 29, op := Op.call { callee := Callee.value (Operand.func 29), args := #[Operand.tmp 27, Operand.tmp 28], argTypes := #[51, 22] }, type := _, pos := _, after := _, guard := none }) rfl (fun K hK => ?_) AllReadyH.nil
      rw [if_pos (by rfl)]
      go_simp
      refine (matchesRef_any d _ t _ m _ HRT.out (HT4.out.below HW.out) (HM4.out.below HW.out) (by have := HML.out; omega)).mono ?_
      rintro e w7 ⟨rfl, hb7⟩
      (try replace HT5 := hid (HT5.out.below hb7))
      replace HW := hid (HW.out.trans (hb7.mono HW.out.size))
      clear hb7
      go_wp2_with fail
      refine hK.out _ _ (by exact HC4.out _ HW.out) (fun hHeld => ?_)
      clear hK K
      try simp only [Act.put, List.setIfInBounds_toArray, List.set_cons_zero, List.set_cons_succ]
      refine wpAnyH_take (i := 7) (oi := { dst := some 30, op := Op.binOp BinOp.eql 4 (Operand.tmp 26) (Operand.tmp 29) 4, type := _, pos := _, after := _, guard := none }) (v := ?_) rfl (by kernel_rfl) (by kernel_rfl) (by kernel_rfl) (fun _ _ _ h => h) (Or.inl ⟨by rfl, ?_⟩) (by assumption) ?_
      rotate_left
      · intro w hSw; (try dsimp only at hSw); go_simp; try (first | with_reducible rfl | (refine (if_pos ?_).trans ?_ <;> first | omega | with_reducible rfl))
      try simp only [Act.put, List.setIfInBounds_toArray, List.set_cons_zero, List.set_cons_succ]
      refine wpAnyH_take (i := 8) (oi := { dst := some 4, op := Op.assign (Operand.tmp 30), type := _, pos := _, after := _, guard := none }) (v := ?_) rfl (by kernel_rfl) (by kernel_rfl) (by kernel_rfl) (fun _ _ _ h => h) (Or.inl ⟨by rfl, ?_⟩) (by assumption) ?_
      rotate_left
      · intro w hSw; (try dsimp only at hSw); go_simp; try (first | with_reducible rfl | (refine (if_pos ?_).trans ?_ <;> first | omega | with_reducible rfl))
      try simp only [Act.put, List.setIfInBounds_toArray, List.set_cons_zero, List.set_cons_succ]
      refine wpAnyH_done (by kernel_rfl) ?_ _
      go_wp2_with fail
      go_ret
      exact ⟨ret_bool (by simp), HB4.out.trans (HW.out.mono HB4.out.size)⟩
end Go.Proofs.Ytjcdcmeclnihbaa
