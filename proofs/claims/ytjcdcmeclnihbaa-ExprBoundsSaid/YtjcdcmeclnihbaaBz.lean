/- The statement ExprBounds' code: it returns true. Conditions: the arguments lie in memory. -/
import Derived.Test.YtjcdcmeclnihbaaQp
import Derived.Test.YtjcdcmeclnihbaaSp
namespace Go.Proofs.Ytjcdcmeclnihbaa
open Go.RowKit
set_option linter.unusedSimpArgs false
theorem nums_none (w : World) : IsNums .i64 w Any (.slice none 0 0) [] := ⟨none, 0, rfl, Nat.le_refl _, Nat.zero_le _, fun h => by simp at h⟩
theorem empty_own {Z : World} (w : World) (_ : True) (h : Below Z.heap.size Z w) : (w.alloc (.cells #[] 3)).ownsRow Z.heap.size 3 1 (.slice (some ⟨w.heap.size, 0, none⟩) 0 0) ([] : List Int).length (([] : List Int).map (.int .i64)) :=
  ⟨by simp, .inr ⟨w.heap.size, 0, #[], rfl, h.size, heap_alloc_new w _, Nat.le_refl _, Nat.zero_le _, by simp, by simp⟩⟩
/-- 'append(x, y...)' of numbers, x of one's own. -/
theorem wp_app_nums {w : World} {o : Oper} {a : Act} {Kn : Act → World → Prop} {Q : Exit → Act → World → Prop} (s x : Operand) (ho : o.op = .call { callee := .builtin .append, args := #[s, x], argTypes := #[22, 22] })
    {B : Nat} {v : Value} {xs : List Int} (hs : a.eval s = v) (hown : w.ownsRow B 3 1 v xs.length (xs.map (.int .i64))) {S : Nat → Prop} {A : Option Addr} {c : Nat} {ys : List Int} (hx : a.eval x = .slice A ys.length c) (hy : IsNums .i64 w S (.slice A ys.length c) ys)
    (hl : xs.length + ys.length ≤ 1000000) (hB : B ≤ w.heap.size)
    (hk : ∀ v' w', w'.ownsRow B 3 1 v' (xs ++ ys).length ((xs ++ ys).map (.int .i64)) → Below B w w' → B ≤ w'.heap.size → Kn (a.put o.dst v') w') : Oper.wp Try.prog o a w Kn Q := by
  obtain ⟨i0, hi0, hz0, hz1, hz2⟩ := info_parts info3
  obtain ⟨A', c', e, -, -, hA⟩ := hy
  obtain ⟨rfl, rfl⟩ : A = A' ∧ c = c' := by injection e with e1 e2 e3; exact ⟨e1, e3⟩
  refine wp_app w s x 22 ho B 3 i0 _ 1 8 Try.underlying22 hi0 hz0 hz1 hz2 rfl (by decide) v xs.length (xs.map (.int .i64)) hs hown A ys.length c (ys.map (.int .i64)) hx (hA.src (by simp) (by omega)) (one_nums _ ys) (by simp only [maxLen]; omega) (by omega) hB ?_
  intro v' w' h1 h2 h3
  exact hk v' w' (by simpa using h1) (below_own (Below.refl _ _) hown h2 hB) (Nat.le_trans hB h2.size)
/-- A node with one part, of a literal. -/
theorem wrap_tr {d : Nat} {S : Nat → Prop} {w : World} {t : Tr d} {k c : Int} {A : Option Addr} {n cp : Nat} (kd : Int) (h : IsTr w S d (.agg #[.int .i64 k, .int .i64 c, .slice A n cp]) t) :
    IsTr (w.alloc (.cells #[.int .i64 k, .int .i64 c, .slice A n cp] 45)) Any (d + 1) (.agg #[.int .i64 kd, .int .i64 0, .slice (some ⟨w.heap.size, 0, none⟩) 1 1]) ((kd, 0, [t]) : Int × Int × List (Tr d)) := by
  have h2 := (h.below ((Below.refl w.heap.size w).alloc (Nat.le_refl _) (.cells #[.int .i64 k, .int .i64 c, .slice A n cp] 45))).mono (S' := Any) fun _ _ _ => trivial
  obtain ⟨y0, y1, y2, -⟩ := slot3 (heap_alloc_new w (.cells #[.int .i64 k, .int .i64 c, .slice A n cp] 45))
  refine ⟨some ⟨w.heap.size, 0, none⟩, 1, rfl, Nat.le_refl _, by simp [maxLen], fun j u hu => ?_⟩
  have hj : j = 0 := by have := (List.getElem?_eq_some_iff.1 hu).1; simpa [Tr.kids] using this
  subst hj
  have hu2 : u = t := by simpa [Tr.kids] using hu.symm
  subst hu2
  exact ⟨w.heap.size, 0, _, _, _, rfl, trivial, by simp, y0, y1, y2, h2⟩
set_option maxRecDepth 100000 in
set_option maxHeartbeats 8000000 in
theorem bounds_walk (d : Nat) (v mv : Value) (t : Tr d) (l : List Int) (w : World) (h : IsTr w Any d v t) (hm : IsNums .i64 w Any mv l) :
    Calls Try.prog 10 #[v, mv] w fun e w' => e = .returned (.bool true) ∧ Below w.heap.size w w' := by
  obtain ⟨A, c, rfl⟩ := h.plain.form
  obtain ⟨mA, mc, rfl⟩ := hm.form
  obtain ⟨ml, hml⟩ : ∃ k, k = l.length := ⟨_, rfl⟩
  obtain ⟨k0, hk0⟩ : ∃ k, k = (toP d t).kind := ⟨_, rfl⟩
  obtain ⟨c0, hc0⟩ : ∃ k, k = (toP d t).cls := ⟨_, rfl⟩
  obtain ⟨n0, hn0⟩ : ∃ k, k = (toP d t).kids.length := ⟨_, rfl⟩
  have HK0 := hid hk0
  have HC0 := hid hc0
  have HN0 := hid hn0
  rw [← hk0, ← hc0, ← hn0] at h ⊢
  rw [← hml] at hm ⊢
  obtain ⟨X, hX⟩ : ∃ X, X = w.alloc (.cells #[.int .i64 k0, .int .i64 c0, .slice A n0 c] 51) := ⟨_, rfl⟩
  obtain ⟨q, hq⟩ : ∃ q, q = w.heap.size := ⟨_, rfl⟩
  have HX := hid hX
  have HQ := hid hq
  have HXB := hid (show X.heap[q]? = some (.cells #[.int .i64 k0, .int .i64 c0, .slice A n0 c] 51 (0, 0)) by rw [hX, hq]; exact heap_alloc_new _ _)
  have hb : Below w.heap.size w X := by rw [hX]; exact (Below.refl _ _).alloc (Nat.le_refl _) _
  have HQX := hid (show q < X.heap.size from (Array.getElem?_eq_some_iff.1 HXB.out).1)
  have HCX := hid (show ∀ Y : World, Below X.heap.size X Y → Y.cell? ⟨q, 0, none⟩ = some (.int .i64 k0) ∧ Y.cell? ⟨q, 1, none⟩ = some (.int .i64 c0) ∧ Y.cell? ⟨q, 2, none⟩ = some (.slice A n0 c) from fun Y hY => by
    obtain ⟨c0, c1, c2, -⟩ := slot3 ((hY.block q HQX.out).trans HXB.out)
    exact ⟨c0, c1, c2⟩)
  have HB := hid hb
  have HTX := hid (h.below hb)
  have HMX := hid (hm.below hb)
  have HGR := hid (egreat_any HTX.out)
  clear hX hq h hb hk0 hc0 hn0 hml hm
  obtain ⟨y0, y1, y2⟩ := HCX.out X (Below.refl _ _)
  go_enter Try.func10, Try.ntmps10
  go_wp2_with fail
  rw [← HX.out, ← HQ.out]
  go_wp2_with fail
  refine HGR.out.mono ?_
  rintro e w1 ⟨rfl, hb1⟩
  have HB1 := hid hb1
  clear hb1 y0 y1 y2
  by_cases hgr : 60 < cnt d t
  · rw [decide_eq_true hgr]
    go_wp2_with fail
    refine (eawake_any w1).mono ?_
    rintro e w2 ⟨rfl, hb2⟩
    have HB2 := hid (HB.out.trans ((HB1.out.trans (hb2.mono HB1.out.size)).mono HB.out.size))
    clear hb2
    go_wp2_with fail
    go_ret
    exact ⟨rfl, HB2.out⟩
  · rw [decide_eq_false hgr]
    have HN60 := hid (show cnt d t ≤ 60 by omega)
    have HRE := hid (rightT_of (d := d) (t := t) (by omega))
    clear hgr
    go_wp2_with fail
    refine (eawake_any w1).mono ?_
    rintro e w2 ⟨rfl, hb2⟩
    have HB2 := hid (HB1.out.trans (hb2.mono HB1.out.size))
    clear hb2
    obtain ⟨z0, z1, z2⟩ := HCX.out w2 HB2.out
    go_wp2_with fail
    refine (to_any Any d _ t w2 (HTX.out.below HB2.out) (by have := HN60.out; omega)).mono ?_
    rintro e w3 ⟨vx, rfl, hb3, htx⟩
    obtain ⟨Ax, cx, rfl⟩ := htx.plain.form
    rw [← HK0.out, ← HC0.out, ← HN0.out] at htx ⊢
    have HB3 := hid (HB2.out.trans (hb3.mono HB2.out.size))
    have HTx := hid (htx.mono (S' := Any) fun _ _ _ => trivial)
    clear hb3 htx z0 z1 z2
    go_wp2_with fail
    refine (marks_any (HMX.out.below HB3.out)).mono ?_
    rintro e w4 ⟨v5, rfl, hm4, hb4⟩
    have HB4 := hid (HB3.out.trans (hb4.mono HB3.out.size))
    have HT4 := hid (HTx.out.below hb4)
    obtain ⟨m, hmd⟩ : ∃ m, m = l.take 8 := ⟨_, rfl⟩
    rw [← hmd] at hm4
    have HML := hid (show m.length ≤ 8 by rw [hmd, List.length_take]; omega)
    obtain ⟨A5, c5, rfl⟩ := hm4.form
    obtain ⟨n5, hn5⟩ : ∃ k, k = m.length := ⟨_, rfl⟩
    have HN5 := hid hn5
    rw [← hn5] at hm4 ⊢
    have hn8 : n5 ≤ 8 := by have := HML.out; omega
    obtain ⟨p, hp⟩ : ∃ p, p = w4.heap.size := ⟨_, rfl⟩
    obtain ⟨Y, hY⟩ : ∃ Y, Y = w4.alloc (.cells #[.int .i64 k0, .int .i64 c0, .slice Ax n0 cx] 45) := ⟨_, rfl⟩
    have HY := hid hY
    have HP := hid hp
    have hby : Below w4.heap.size w4 Y := by rw [hY]; exact (Below.refl _ _).alloc (Nat.le_refl _) _
    have HYB := hid (show Y.heap[p]? = some (.cells #[.int .i64 k0, .int .i64 c0, .slice Ax n0 cx] 45 (0, 0)) by rw [hY, hp]; exact heap_alloc_new _ _)
    have HPY := hid (show p < Y.heap.size from (Array.getElem?_eq_some_iff.1 HYB.out).1)
    have HBY := hid (HB4.out.trans (hby.mono HB4.out.size))
    have HTY0 := hid (HT4.out.below hby)
    have HMY := hid ((hm4.mono (S' := Any) fun _ _ _ => trivial).below hby)
    have HCY := hid (show ∀ U : World, Below Y.heap.size Y U → (U.cell? ⟨p, 0, none⟩ = some (.int .i64 k0) ∧ U.cell? ⟨p, 1, none⟩ = some (.int .i64 c0) ∧ U.cell? ⟨p, 2, none⟩ = some (.slice Ax n0 cx)) ∧ U.cell? ⟨q, 0, none⟩ = some (.int .i64 k0) ∧ U.cell? ⟨q, 1, none⟩ = some (.int .i64 c0) ∧ U.cell? ⟨q, 2, none⟩ = some (.slice A n0 c) from fun U hU => by
      obtain ⟨a0, a1, a2, -⟩ := slot3 ((hU.block p HPY.out).trans HYB.out)
      exact ⟨⟨a0, a1, a2⟩, HCX.out U (HBY.out.trans (hU.mono HBY.out.size))⟩)
    clear hm4 hb4 hmd hn5 hp hY hby
    obtain ⟨⟨a0, a1, a2⟩, z0, z1, z2⟩ := HCY.out Y (Below.refl _ _)
    rw [HY.out] at z0 z1 z2
    go_wp2_with fail
    rw [← HY.out, ← HP.out]
    refine (rright_any Any d _ t false Y (HTX.out.below HBY.out) (by have := HN60.out; omega)).mono ?_
    rintro e w5 ⟨rfl, hb5⟩
    have HB5 := hid hb5
    have HBW5 := hid (HB.out.trans ((HBY.out.trans (hb5.mono HBY.out.size)).mono HB.out.size))
    clear hb5 a0 a1 a2 z0 z1 z2
    obtain ⟨⟨a0, a1, a2⟩, z0, z1, z2⟩ := HCY.out w5 HB5.out
    cases hfit : fitsT d false t with
    | false =>
      go_wp2_with fail
      go_ret
      exact ⟨rfl, HBW5.out⟩
    | true =>
      by_cases hk9 : k0 = 9
      · subst hk9
        go_wp2_with fail
        go_ret
        exact ⟨rfl, HBW5.out⟩
      have b9 := ieq_false hk9
      have HRT := hid (HRE.out.trans hfit)
      have HFI := hid (show fitsT d true t = true by
        cases d with
        | zero => exact t.elim
        | succ d => exact fits_in hfit (by have := HK0.out; rw [toP_succ] at this; simp only [PT.kind] at this; omega))
      clear hfit hk9
      obtain ⟨lg, hlg⟩ : ∃ z, z = longT d t := ⟨_, rfl⟩
      obtain ⟨sh, hsh⟩ : ∃ z, z = shortT d t := ⟨_, rfl⟩
      obtain ⟨is, his⟩ : ∃ b, b = matchesT t m := ⟨_, rfl⟩
      have HBD := hid (show is = true → sh ≤ n5 ∧ (0 ≤ lg → (n5 : Int) ≤ lg) by rw [his, hsh, hlg, HN5.out]; exact m_bounds HRT.out m)
      have HEY := hid (show matchesT (maybeT t) m = (is || decide (n5 = 0)) by rw [his, HN5.out]; exact m_maybe (by have := HN60.out; omega) HRT.out HFI.out m)
      have HEZ := hid (show is = true → matchesT (starT t) m = true ∧ matchesT (starT t) (m ++ m) = true from fun hi => m_star (by have := HN60.out; omega) HRT.out HFI.out m (by rw [← his]; exact hi))
      have HE0 := hid (m_star0 (t := t) (by have := HN60.out; omega) HFI.out)
      have HL1 := hid hlg.symm
      have HS1 := hid hsh.symm
      have HI1 := hid his.symm
      clear hlg hsh his
      have HLG := hid (elongest_any Any d _ t w5 (HTY0.out.below HB5.out) HRT.out)
      rw [HL1.out] at HLG
      obtain ⟨mx, hmx⟩ : ∃ z, z = max lg 0 := ⟨_, rfl⟩
      have HMX2 := hid hmx
      rw [← hmx] at HLG
      clear hmx
      go_wp2_with fail
      refine HLG.out.mono ?_
      rintro e w6 ⟨rfl, hb6⟩
      have HB6 := hid (HB5.out.trans (hb6.mono HB5.out.size))
      have HMT := hid (matches_any d _ _ t m w6 (HTY0.out.below HB6.out) (HMY.out.below HB6.out) (by have := HML.out; omega))
      rw [HI1.out] at HMT
      clear hb6 a0 a1 a2 z0 z1 z2 HLG
      obtain ⟨⟨a0, a1, a2⟩, z0, z1, z2⟩ := HCY.out w6 HB6.out
      go_wp2_with fail
      refine HMT.out.mono ?_
      rintro e w7 ⟨rfl, hb7⟩
      have HB7 := hid (HB6.out.trans (hb7.mono HB6.out.size))
      have HSH := hid (eshortest_any Any d _ t w7 (HTY0.out.below HB7.out) HRT.out)
      rw [HS1.out] at HSH
      clear hb7 a0 a1 a2 z0 z1 z2 HMT
      obtain ⟨⟨a0, a1, a2⟩, z0, z1, z2⟩ := HCY.out w7 HB7.out
      cases is with
      | false =>
        obtain ⟨p0, hp0⟩ : ∃ z, z = w7.heap.size := ⟨_, rfl⟩
        obtain ⟨U1, hU1⟩ : ∃ U, U = (w7.alloc (.cells #[.int .i64 k0, .int .i64 c0, .slice Ax n0 cx] 45)).alloc (.cells #[.int .i64 8, .int .i64 0, .slice (some ⟨p0, 0, none⟩) 1 1] 45) := ⟨_, rfl⟩
        have HU1B := hid (show Below Y.heap.size Y U1 by rw [hU1]; exact (HB7.out.alloc HB7.out.size _).alloc (by have := HB7.out.size; simp; omega) _)
        obtain ⟨⟨e0, e1, e2⟩, -⟩ := HCY.out U1 HU1B.out
        obtain ⟨Z, hZ⟩ : ∃ Z, Z = (U1.alloc (.cells #[.int .i64 k0, .int .i64 c0, .slice Ax n0 cx] 45)).alloc (.cells #[.int .i64 6, .int .i64 0, .slice (some ⟨p0 + 2, 0, none⟩) 1 1] 45) := ⟨_, rfl⟩
        have HS1 := hid (show U1.heap.size = p0 + 2 by rw [hU1, hp0]; simp)
        have HS2 := hid (show Z.heap.size = p0 + 4 by rw [hZ]; have := HS1.out; simp; omega)
        have HTY := hid (show IsTr Z Any (d + 1) (.agg #[.int .i64 8, .int .i64 0, .slice (some ⟨p0, 0, none⟩) 1 1]) (maybeT t) by
          have h1 := wrap_tr (t := t) 8 (HTY0.out.below HB7.out)
          have h2 := h1.below ((Below.refl _ _).alloc (Nat.le_refl _) (.cells #[.int .i64 8, .int .i64 0, .slice (some ⟨p0, 0, none⟩) 1 1] 45))
          rw [← hU1, ← hp0] at h2
          rw [hZ]
          exact h2.below (((Below.refl _ _).alloc (Nat.le_refl _) _).alloc (by simp) _))
        have HTZ := hid (show IsTr Z Any (d + 1) (.agg #[.int .i64 6, .int .i64 0, .slice (some ⟨p0 + 2, 0, none⟩) 1 1]) (starT t) by
          have h1 := wrap_tr (t := t) 6 (HTY0.out.below HU1B.out)
          rw [HS1.out] at h1
          rw [hZ]
          exact h1.below ((Below.refl _ _).alloc (Nat.le_refl _) _))
        have HBZ := hid (show Below Y.heap.size Y Z by rw [hZ]; exact (HU1B.out.alloc HU1B.out.size _).alloc (by have := HU1B.out.size; simp; omega) _)
        have HYR := hid (show Z.heap[p0 + 1]? = some (.cells #[.int .i64 8, .int .i64 0, .slice (some ⟨p0, 0, none⟩) 1 1] 45 (0, 0)) by
          have h1 : U1.heap[p0 + 1]? = some (.cells #[.int .i64 8, .int .i64 0, .slice (some ⟨p0, 0, none⟩) 1 1] 45 (0, 0)) := by
            have h2 := heap_alloc_new (w7.alloc (.cells #[.int .i64 k0, .int .i64 c0, .slice Ax n0 cx] 45)) (.cells #[.int .i64 8, .int .i64 0, .slice (some ⟨p0, 0, none⟩) 1 1] 45)
            rw [← hU1, show (w7.alloc (.cells #[.int .i64 k0, .int .i64 c0, .slice Ax n0 cx] 45)).heap.size = p0 + 1 by rw [hp0]; simp] at h2
            exact h2
          rw [hZ]
          exact (((((Below.refl U1.heap.size U1).alloc (Nat.le_refl _) _).alloc (by simp) _).block (p0 + 1) (by rw [HS1.out]; omega))).trans h1)
        have HZR := hid (show Z.heap[p0 + 3]? = some (.cells #[.int .i64 6, .int .i64 0, .slice (some ⟨p0 + 2, 0, none⟩) 1 1] 45 (0, 0)) by
          have h2 := heap_alloc_new (U1.alloc (.cells #[.int .i64 k0, .int .i64 c0, .slice Ax n0 cx] 45)) (.cells #[.int .i64 6, .int .i64 0, .slice (some ⟨p0 + 2, 0, none⟩) 1 1] 45)
          rw [← hZ, show (U1.alloc (.cells #[.int .i64 k0, .int .i64 c0, .slice Ax n0 cx] 45)).heap.size = p0 + 3 by simp [HS1.out]] at h2
          exact h2)
        have HCZ := hid (show ∀ U : World, Below Z.heap.size Z U → U.cell? ⟨p0 + 1, 0, none⟩ = some (.int .i64 8) ∧ U.cell? ⟨p0 + 1, 1, none⟩ = some (.int .i64 0) ∧ U.cell? ⟨p0 + 1, 2, none⟩ = some (.slice (some ⟨p0, 0, none⟩) 1 1) ∧ U.cell? ⟨p0 + 3, 0, none⟩ = some (.int .i64 6) ∧ U.cell? ⟨p0 + 3, 1, none⟩ = some (.int .i64 0) ∧ U.cell? ⟨p0 + 3, 2, none⟩ = some (.slice (some ⟨p0 + 2, 0, none⟩) 1 1) from fun U hU => by
          obtain ⟨f0, f1, f2, -⟩ := slot3 ((hU.block (p0 + 1) (by rw [HS2.out]; omega)).trans HYR.out)
          obtain ⟨f3, f4, f5, -⟩ := slot3 ((hU.block (p0 + 3) (by rw [HS2.out]; omega)).trans HZR.out)
          exact ⟨f0, f1, f2, f3, f4, f5⟩)
        have HMZ := hid (HMY.out.below HBZ.out)
        have HM5 := hid (show IsNums .i64 Z Any (.slice A5 m.length c5) m by rw [← HN5.out]; exact HMZ.out)
        have HW := hid (Below.refl Z.heap.size Z)
        have HBF := hid (HB.out.trans ((HBY.out.trans (HBZ.out.mono HBY.out.size)).mono HB.out.size))
        have HU1E := hid hU1
        have HZE := hid hZ
        have HP0 := hid hp0
        rw [hU1, hp0] at e0 e1 e2
        clear hU1 hZ hp0 z0 z1 z2
        go_wp2_with fail
        rw [← HP0.out, show p0 + 1 + 1 + 1 = p0 + 3 from rfl, show p0 + 1 + 1 = p0 + 2 from rfl, ← HU1E.out, ← HZE.out]
        clear e0 e1 e2 a0 a1 a2
        by_cases hn0' : n5 = 0
        · have HEY2 := hid (show matchesT (maybeT t) m = true by rw [HEY.out, hn0']; rfl)
          have hnz : (n5 : Int) = 0 := by omega
          clear hn0'
          refine wp_region_held_drew (S := (fun Y => Y.cell? ⟨p0 + 1, 0, none⟩ = some (.int .i64 8) ∧ Y.cell? ⟨p0 + 1, 1, none⟩ = some (.int .i64 0) ∧ Y.cell? ⟨p0 + 1, 2, none⟩ = some (.slice (some ⟨p0, 0, none⟩) 1 1) ∧ Y.cell? ⟨p0 + 3, 0, none⟩ = some (.int .i64 6) ∧ Y.cell? ⟨p0 + 3, 1, none⟩ = some (.int .i64 0) ∧ Y.cell? ⟨p0 + 3, 2, none⟩ = some (.slice (some ⟨p0 + 2, 0, none⟩) 1 1))) (by kernel_rfl) (by exact HCZ.out _ HW.out.drew) (fun hHeld => ?_)
          refine wpAnyH_take (i := 0) (oi := { dst := some 62, op := Op.load 45 (Operand.tmp 10), type := _, pos := _, after := _, guard := none }) (v := ?_) rfl (by kernel_rfl) (by kernel_rfl) (by kernel_rfl) (fun _ _ _ h => h) (Or.inl ⟨by rfl, ?_⟩) (by assumption) ?_
          rotate_left
          · intro w hSw; (try dsimp only at hSw); go_simp; try (first | with_reducible rfl | (refine (if_pos ?_).trans ?_ <;> first | omega | with_reducible rfl))
          try simp only [Act.put, List.setIfInBounds_toArray, List.set_cons_zero, List.set_cons_succ]
          refine wpAnyH_take (i := 1) (oi := { dst := some 63, op := Op.move (Operand.tmp 6), type := _, pos := _, after := _, guard := none }) (v := ?_) rfl (by kernel_rfl) (by kernel_rfl) (by kernel_rfl) (fun _ _ _ h => h) (Or.inl ⟨by rfl, ?_⟩) (by assumption) ?_
          rotate_left
          · intro w hSw; (try dsimp only at hSw); go_simp; try (first | with_reducible rfl | (refine (if_pos ?_).trans ?_ <;> first | omega | with_reducible rfl))
          try simp only [Act.put, List.setIfInBounds_toArray, List.set_cons_zero, List.set_cons_succ]
          refine wpAnyH_take (i := 3) (oi := { dst := some 65, op := Op.move (Operand.tmp 9), type := _, pos := _, after := _, guard := none }) (v := ?_) rfl (by kernel_rfl) (by kernel_rfl) (by kernel_rfl) (fun _ _ _ h => h) (Or.inl ⟨by rfl, ?_⟩) (by assumption) ?_
          rotate_left
          · intro w hSw; (try dsimp only at hSw); go_simp; try (first | with_reducible rfl | (refine (if_pos ?_).trans ?_ <;> first | omega | with_reducible rfl))
          try simp only [Act.put, List.setIfInBounds_toArray, List.set_cons_zero, List.set_cons_succ]
          replace HW := hid HW.out.drew
          refine wpAnyH_ready (rs := [2]) (by kernel_rfl) (by simp) ?_
          refine AllReadyH.cons (o := { dst := some 64, op := Op.call { callee := Callee.value (Operand.func 27), args := #[Operand.tmp 62, Operand.tmp 63], argTypes := #[45, 22] }, type := _, pos := _, after := _, guard := none }) rfl (fun K hK => ?_) AllReadyH.nil
          rw [if_pos (by rfl)]
          go_simp
          refine (matches_any (d + 1) _ _ (maybeT t) m _ (HTY.out.below HW.out) (HMZ.out.below HW.out) (by have := HML.out; omega)).mono ?_
          rintro e w6 ⟨rfl, hb6⟩
          rw [HEY2.out]
          replace HW := hid (HW.out.trans (hb6.mono HW.out.size))
          clear hb6
          go_wp2_with fail
          refine hK.out _ _ (by exact HCZ.out _ HW.out) (fun hHeld => ?_)
          clear hK K
          try simp only [Act.put, List.setIfInBounds_toArray, List.set_cons_zero, List.set_cons_succ]
          refine wpAnyH_take (i := 4) (oi := { dst := some 66, op := Op.move (Operand.tmp 65), type := _, pos := _, after := _, guard := none }) (v := ?_) rfl (by kernel_rfl) (by kernel_rfl) (by kernel_rfl) (fun _ _ _ h => h) (Or.inl ⟨by rfl, ?_⟩) (by assumption) ?_
          rotate_left
          · intro w hSw; (try dsimp only at hSw); go_simp; try (first | with_reducible rfl | (refine (if_pos ?_).trans ?_ <;> first | omega | with_reducible rfl))
          try simp only [Act.put, List.setIfInBounds_toArray, List.set_cons_zero, List.set_cons_succ]
          refine wpAnyH_take (i := 5) (oi := { dst := some 67, op := Op.move (Operand.tmp 6), type := _, pos := _, after := _, guard := some (4, false) }) (v := ?_) rfl (by kernel_rfl) (by kernel_rfl) (by kernel_rfl) (fun _ _ _ h => h) (Or.inl ⟨by rfl, ?_⟩) (by assumption) ?_
          rotate_left
          · intro w hSw; (try dsimp only at hSw); go_simp; try (first | with_reducible rfl | (refine (if_pos ?_).trans ?_ <;> first | omega | with_reducible rfl))
          try simp only [Act.put, List.setIfInBounds_toArray, List.set_cons_zero, List.set_cons_succ]
          refine wpAnyH_take (i := 6) (oi := { dst := some 68, op := Op.call { callee := Callee.builtin Builtin.len, args := #[Operand.tmp 67], argTypes := #[22] }, type := _, pos := _, after := _, guard := some (4, false) }) (v := ?_) rfl (by kernel_rfl) (by kernel_rfl) (by kernel_rfl) (fun _ _ _ h => h) (Or.inl ⟨by rfl, ?_⟩) (by assumption) ?_
          rotate_left
          · intro w hSw; (try dsimp only at hSw); go_simp; try (first | with_reducible rfl | (refine (if_pos ?_).trans ?_ <;> first | omega | with_reducible rfl))
          try simp only [Act.put, List.setIfInBounds_toArray, List.set_cons_zero, List.set_cons_succ]
          refine wpAnyH_take (i := 7) (oi := { dst := some 69, op := Op.binOp BinOp.eql 3 (Operand.tmp 68) (Operand.const (Value.int IntKind.i64 0)) 3, type := _, pos := _, after := _, guard := some (4, false) }) (v := ?_) rfl (by kernel_rfl) (by kernel_rfl) (by kernel_rfl) (fun _ _ _ h => h) (Or.inl ⟨by rfl, ?_⟩) (by assumption) ?_
          rotate_left
          · intro w hSw; (try dsimp only at hSw); go_simp; try (first | with_reducible rfl | (refine (if_pos ?_).trans ?_ <;> first | omega | with_reducible rfl))
          try simp only [Act.put, List.setIfInBounds_toArray, List.set_cons_zero, List.set_cons_succ]
          refine wpAnyH_take (i := 8) (oi := { dst := some 70, op := Op.pick (Operand.tmp 66) (Operand.const (Value.bool true)) (Operand.tmp 69), type := _, pos := _, after := _, guard := none }) (v := ?_) rfl (by kernel_rfl) (by kernel_rfl) (by kernel_rfl) (fun _ _ _ h => h) (Or.inl ⟨by rfl, ?_⟩) (by assumption) ?_
          rotate_left
          · intro w hSw; (try dsimp only at hSw); go_simp; try (first | with_reducible rfl | (refine (if_pos ?_).trans ?_ <;> first | omega | with_reducible rfl))
          try simp only [Act.put, List.setIfInBounds_toArray, List.set_cons_zero, List.set_cons_succ]
          refine wpAnyH_take (i := 9) (oi := { dst := some 71, op := Op.binOp BinOp.eql 4 (Operand.tmp 64) (Operand.tmp 70) 4, type := _, pos := _, after := _, guard := none }) (v := ?_) rfl (by kernel_rfl) (by kernel_rfl) (by kernel_rfl) (fun _ _ _ h => h) (Or.inl ⟨by rfl, ?_⟩) (by assumption) ?_
          rotate_left
          · intro w hSw; (try dsimp only at hSw); go_simp; try (first | with_reducible rfl | (refine (if_pos ?_).trans ?_ <;> first | omega | with_reducible rfl))
          try simp only [Act.put, List.setIfInBounds_toArray, List.set_cons_zero, List.set_cons_succ]
          refine wpAnyH_take (i := 10) (oi := { dst := some 72, op := Op.move (Operand.tmp 71), type := _, pos := _, after := _, guard := none }) (v := ?_) rfl (by kernel_rfl) (by kernel_rfl) (by kernel_rfl) (fun _ _ _ h => h) (Or.inl ⟨by rfl, ?_⟩) (by assumption) ?_
          rotate_left
          · intro w hSw; (try dsimp only at hSw); go_simp; try (first | with_reducible rfl | (refine (if_pos ?_).trans ?_ <;> first | omega | with_reducible rfl))
          try simp only [Act.put, List.setIfInBounds_toArray, List.set_cons_zero, List.set_cons_succ]
          refine wpAnyH_take (i := 11) (oi := { dst := some 73, op := Op.move (Operand.tmp 9), type := _, pos := _, after := _, guard := some (10, true) }) (v := ?_) rfl (by kernel_rfl) (by kernel_rfl) (by kernel_rfl) (fun _ _ _ h => h) (Or.inl ⟨by rfl, ?_⟩) (by assumption) ?_
          rotate_left
          · intro w hSw; (try dsimp only at hSw); go_simp; try (first | with_reducible rfl | (refine (if_pos ?_).trans ?_ <;> first | omega | with_reducible rfl))
          try simp only [Act.put, List.setIfInBounds_toArray, List.set_cons_zero, List.set_cons_succ]
          refine wpAnyH_take (i := 12) (oi := { dst := some 74, op := Op.unOp UnOp.not 4 (Operand.tmp 73), type := _, pos := _, after := _, guard := some (10, true) }) (v := ?_) rfl (by kernel_rfl) (by kernel_rfl) (by kernel_rfl) (fun _ _ _ h => h) (Or.inl ⟨by rfl, ?_⟩) (by assumption) ?_
          rotate_left
          · intro w hSw; (try dsimp only at hSw); go_simp; try (first | with_reducible rfl | (refine (if_pos ?_).trans ?_ <;> first | omega | with_reducible rfl))
          try simp only [Act.put, List.setIfInBounds_toArray, List.set_cons_zero, List.set_cons_succ]
          refine wpAnyH_take (i := 13) (oi := { dst := some 75, op := Op.move (Operand.tmp 74), type := _, pos := _, after := _, guard := some (10, true) }) (v := ?_) rfl (by kernel_rfl) (by kernel_rfl) (by kernel_rfl) (fun _ _ _ h => h) (Or.inl ⟨by rfl, ?_⟩) (by assumption) ?_
          rotate_left
          · intro w hSw; (try dsimp only at hSw); go_simp; try (first | with_reducible rfl | (refine (if_pos ?_).trans ?_ <;> first | omega | with_reducible rfl))
          try simp only [Act.put, List.setIfInBounds_toArray, List.set_cons_zero, List.set_cons_succ]
          refine wpAnyH_take (i := 14) (oi := { dst := some 76, op := Op.load 45 (Operand.tmp 11), type := _, pos := _, after := _, guard := some (13, false) }) (v := undef) rfl (by kernel_rfl) (by kernel_rfl) (by kernel_rfl) (fun _ _ _ h => h) (Or.inr ⟨by rfl, rfl⟩) (by assumption) ?_
          try simp only [Act.put, List.setIfInBounds_toArray, List.set_cons_zero, List.set_cons_succ]
          refine wpAnyH_take (i := 15) (oi := { dst := some 77, op := Op.move (Operand.tmp 6), type := _, pos := _, after := _, guard := some (13, false) }) (v := undef) rfl (by kernel_rfl) (by kernel_rfl) (by kernel_rfl) (fun _ _ _ h => h) (Or.inr ⟨by rfl, rfl⟩) (by assumption) ?_
          try simp only [Act.put, List.setIfInBounds_toArray, List.set_cons_zero, List.set_cons_succ]
          refine wpAnyH_take (i := 16) (oi := { dst := some 78, op := Op.call { callee := Callee.value (Operand.func 27), args := #[Operand.tmp 76, Operand.tmp 77], argTypes := #[45, 22] }, type := _, pos := _, after := _, guard := some (13, false) }) (v := undef) rfl (by kernel_rfl) (by kernel_rfl) (by kernel_rfl) (fun _ _ _ h => h) (Or.inr ⟨by rfl, rfl⟩) (by assumption) ?_
          try simp only [Act.put, List.setIfInBounds_toArray, List.set_cons_zero, List.set_cons_succ]
          refine wpAnyH_take (i := 17) (oi := { dst := some 79, op := Op.move (Operand.tmp 78), type := _, pos := _, after := _, guard := some (13, false) }) (v := undef) rfl (by kernel_rfl) (by kernel_rfl) (by kernel_rfl) (fun _ _ _ h => h) (Or.inr ⟨by rfl, rfl⟩) (by assumption) ?_
          try simp only [Act.put, List.setIfInBounds_toArray, List.set_cons_zero, List.set_cons_succ]
          refine wpAnyH_take (i := 18) (oi := { dst := some 80, op := Op.load 45 (Operand.tmp 11), type := _, pos := _, after := _, guard := some (17, true) }) (v := undef) rfl (by kernel_rfl) (by kernel_rfl) (by kernel_rfl) (fun _ _ _ h => h) (Or.inr ⟨by rfl, rfl⟩) (by assumption) ?_
          try simp only [Act.put, List.setIfInBounds_toArray, List.set_cons_zero, List.set_cons_succ]
          refine wpAnyH_take (i := 19) (oi := { dst := some 81, op := Op.buildSlice 22 0 #[], type := _, pos := _, after := _, guard := some (17, true) }) (v := undef) rfl (by kernel_rfl) (by kernel_rfl) (by kernel_rfl) (fun _ _ _ h => h) (Or.inr ⟨by rfl, rfl⟩) (by assumption) ?_
          try simp only [Act.put, List.setIfInBounds_toArray, List.set_cons_zero, List.set_cons_succ]
          refine wpAnyH_take (i := 20) (oi := { dst := some 82, op := Op.move (Operand.tmp 6), type := _, pos := _, after := _, guard := some (17, true) }) (v := undef) rfl (by kernel_rfl) (by kernel_rfl) (by kernel_rfl) (fun _ _ _ h => h) (Or.inr ⟨by rfl, rfl⟩) (by assumption) ?_
          try simp only [Act.put, List.setIfInBounds_toArray, List.set_cons_zero, List.set_cons_succ]
          refine wpAnyH_take (i := 21) (oi := { dst := some 83, op := Op.call { callee := Callee.builtin Builtin.append, args := #[Operand.tmp 81, Operand.tmp 82], argTypes := #[22, 22] }, type := _, pos := _, after := _, guard := some (17, true) }) (v := undef) rfl (by kernel_rfl) (by kernel_rfl) (by kernel_rfl) (fun _ _ _ h => h) (Or.inr ⟨by rfl, rfl⟩) (by assumption) ?_
          try simp only [Act.put, List.setIfInBounds_toArray, List.set_cons_zero, List.set_cons_succ]
          refine wpAnyH_take (i := 22) (oi := { dst := some 84, op := Op.move (Operand.tmp 6), type := _, pos := _, after := _, guard := some (17, true) }) (v := undef) rfl (by kernel_rfl) (by kernel_rfl) (by kernel_rfl) (fun _ _ _ h => h) (Or.inr ⟨by rfl, rfl⟩) (by assumption) ?_
          try simp only [Act.put, List.setIfInBounds_toArray, List.set_cons_zero, List.set_cons_succ]
          refine wpAnyH_take (i := 23) (oi := { dst := some 85, op := Op.call { callee := Callee.builtin Builtin.append, args := #[Operand.tmp 83, Operand.tmp 84], argTypes := #[22, 22] }, type := _, pos := _, after := _, guard := some (17, true) }) (v := undef) rfl (by kernel_rfl) (by kernel_rfl) (by kernel_rfl) (fun _ _ _ h => h) (Or.inr ⟨by rfl, rfl⟩) (by assumption) ?_
          try simp only [Act.put, List.setIfInBounds_toArray, List.set_cons_zero, List.set_cons_succ]
          refine wpAnyH_take (i := 24) (oi := { dst := some 86, op := Op.call { callee := Callee.value (Operand.func 27), args := #[Operand.tmp 80, Operand.tmp 85], argTypes := #[45, 22] }, type := _, pos := _, after := _, guard := some (17, true) }) (v := undef) rfl (by kernel_rfl) (by kernel_rfl) (by kernel_rfl) (fun _ _ _ h => h) (Or.inr ⟨by rfl, rfl⟩) (by assumption) ?_
          try simp only [Act.put, List.setIfInBounds_toArray, List.set_cons_zero, List.set_cons_succ]
          refine wpAnyH_take (i := 25) (oi := { dst := some 87, op := Op.pick (Operand.tmp 79) (Operand.tmp 86) (Operand.const (Value.bool false)), type := _, pos := _, after := _, guard := some (13, false) }) (v := undef) rfl (by kernel_rfl) (by kernel_rfl) (by kernel_rfl) (fun _ _ _ h => h) (Or.inr ⟨by rfl, rfl⟩) (by assumption) ?_
          try simp only [Act.put, List.setIfInBounds_toArray, List.set_cons_zero, List.set_cons_succ]
          refine wpAnyH_take (i := 26) (oi := { dst := some 88, op := Op.pick (Operand.tmp 75) (Operand.const (Value.bool true)) (Operand.tmp 87), type := _, pos := _, after := _, guard := some (10, true) }) (v := ?_) rfl (by kernel_rfl) (by kernel_rfl) (by kernel_rfl) (fun _ _ _ h => h) (Or.inl ⟨by rfl, ?_⟩) (by assumption) ?_
          rotate_left
          · intro w hSw; (try dsimp only at hSw); go_simp; try (first | with_reducible rfl | (refine (if_pos ?_).trans ?_ <;> first | omega | with_reducible rfl))
          try simp only [Act.put, List.setIfInBounds_toArray, List.set_cons_zero, List.set_cons_succ]
          refine wpAnyH_take (i := 27) (oi := { dst := some 89, op := Op.pick (Operand.tmp 72) (Operand.tmp 88) (Operand.const (Value.bool false)), type := _, pos := _, after := _, guard := none }) (v := ?_) rfl (by kernel_rfl) (by kernel_rfl) (by kernel_rfl) (fun _ _ _ h => h) (Or.inl ⟨by rfl, ?_⟩) (by assumption) ?_
          rotate_left
          · intro w hSw; (try dsimp only at hSw); go_simp; try (first | with_reducible rfl | (refine (if_pos ?_).trans ?_ <;> first | omega | with_reducible rfl))
          try simp only [Act.put, List.setIfInBounds_toArray, List.set_cons_zero, List.set_cons_succ]
          refine wpAnyH_take (i := 28) (oi := { dst := some 90, op := Op.move (Operand.tmp 89), type := _, pos := _, after := _, guard := none }) (v := ?_) rfl (by kernel_rfl) (by kernel_rfl) (by kernel_rfl) (fun _ _ _ h => h) (Or.inl ⟨by rfl, ?_⟩) (by assumption) ?_
          rotate_left
          · intro w hSw; (try dsimp only at hSw); go_simp; try (first | with_reducible rfl | (refine (if_pos ?_).trans ?_ <;> first | omega | with_reducible rfl))
          try simp only [Act.put, List.setIfInBounds_toArray, List.set_cons_zero, List.set_cons_succ]
          refine wpAnyH_take (i := 29) (oi := { dst := some 91, op := Op.load 45 (Operand.tmp 11), type := _, pos := _, after := _, guard := some (28, true) }) (v := ?_) rfl (by kernel_rfl) (by kernel_rfl) (by kernel_rfl) (fun _ _ _ h => h) (Or.inl ⟨by rfl, ?_⟩) (by assumption) ?_
          rotate_left
          · intro w hSw; (try dsimp only at hSw); go_simp; try (first | with_reducible rfl | (refine (if_pos ?_).trans ?_ <;> first | omega | with_reducible rfl))
          try simp only [Act.put, List.setIfInBounds_toArray, List.set_cons_zero, List.set_cons_succ]
          refine wpAnyH_ready (rs := [30]) (by kernel_rfl) (by simp) ?_
          refine AllReadyH.cons (o := { dst := some 92, op := Op.call { callee := Callee.value (Operand.func 27), args := #[Operand.tmp 91, Operand.const (Value.slice none 0 0)], argTypes := #[45, 22] }, type := _, pos := _, after := _, guard := some (28, true) }) rfl (fun K hK => ?_) AllReadyH.nil
          rw [if_pos (by rfl)]
          go_simp
          refine (matches_any (d + 1) _ _ (starT t) [] _ (HTZ.out.below HW.out) (nums_none _) (by simp)).mono ?_
          rintro e w11 ⟨rfl, hb11⟩
          rw [HE0.out]
          replace HW := hid (HW.out.trans (hb11.mono HW.out.size))
          clear hb11
          go_wp2_with fail
          refine hK.out _ _ (by exact HCZ.out _ HW.out) (fun hHeld => ?_)
          clear hK K
          try simp only [Act.put, List.setIfInBounds_toArray, List.set_cons_zero, List.set_cons_succ]
          refine wpAnyH_take (i := 31) (oi := { dst := some 93, op := Op.pick (Operand.tmp 90) (Operand.tmp 92) (Operand.const (Value.bool false)), type := _, pos := _, after := _, guard := none }) (v := ?_) rfl (by kernel_rfl) (by kernel_rfl) (by kernel_rfl) (fun _ _ _ h => h) (Or.inl ⟨by rfl, ?_⟩) (by assumption) ?_
          rotate_left
          · intro w hSw; (try dsimp only at hSw); go_simp; try (first | with_reducible rfl | (refine (if_pos ?_).trans ?_ <;> first | omega | with_reducible rfl))
          try simp only [Act.put, List.setIfInBounds_toArray, List.set_cons_zero, List.set_cons_succ]
          refine wpAnyH_take (i := 32) (oi := { dst := some 4, op := Op.assign (Operand.tmp 93), type := _, pos := _, after := _, guard := none }) (v := ?_) rfl (by kernel_rfl) (by kernel_rfl) (by kernel_rfl) (fun _ _ _ h => h) (Or.inl ⟨by rfl, ?_⟩) (by assumption) ?_
          rotate_left
          · intro w hSw; (try dsimp only at hSw); go_simp; try (first | with_reducible rfl | (refine (if_pos ?_).trans ?_ <;> first | omega | with_reducible rfl))
          try simp only [Act.put, List.setIfInBounds_toArray, List.set_cons_zero, List.set_cons_succ]
          refine wpAnyH_done (by kernel_rfl) ?_ _
          go_wp2_with fail
          go_ret
          exact ⟨ret_bool (by simp), HBF.out.trans (HW.out.mono HBF.out.size)⟩
        · have HEY2 := hid (show matchesT (maybeT t) m = false by rw [HEY.out, decide_eq_false hn0']; rfl)
          have hnz := ieq_false (show (n5 : Int) ≠ 0 by omega)
          clear hn0'
          refine wp_region_held_drew (S := (fun Y => Y.cell? ⟨p0 + 1, 0, none⟩ = some (.int .i64 8) ∧ Y.cell? ⟨p0 + 1, 1, none⟩ = some (.int .i64 0) ∧ Y.cell? ⟨p0 + 1, 2, none⟩ = some (.slice (some ⟨p0, 0, none⟩) 1 1) ∧ Y.cell? ⟨p0 + 3, 0, none⟩ = some (.int .i64 6) ∧ Y.cell? ⟨p0 + 3, 1, none⟩ = some (.int .i64 0) ∧ Y.cell? ⟨p0 + 3, 2, none⟩ = some (.slice (some ⟨p0 + 2, 0, none⟩) 1 1))) (by kernel_rfl) (by exact HCZ.out _ HW.out.drew) (fun hHeld => ?_)
          refine wpAnyH_take (i := 0) (oi := { dst := some 62, op := Op.load 45 (Operand.tmp 10), type := _, pos := _, after := _, guard := none }) (v := ?_) rfl (by kernel_rfl) (by kernel_rfl) (by kernel_rfl) (fun _ _ _ h => h) (Or.inl ⟨by rfl, ?_⟩) (by assumption) ?_
          rotate_left
          · intro w hSw; (try dsimp only at hSw); go_simp; try (first | with_reducible rfl | (refine (if_pos ?_).trans ?_ <;> first | omega | with_reducible rfl))
          try simp only [Act.put, List.setIfInBounds_toArray, List.set_cons_zero, List.set_cons_succ]
          refine wpAnyH_take (i := 1) (oi := { dst := some 63, op := Op.move (Operand.tmp 6), type := _, pos := _, after := _, guard := none }) (v := ?_) rfl (by kernel_rfl) (by kernel_rfl) (by kernel_rfl) (fun _ _ _ h => h) (Or.inl ⟨by rfl, ?_⟩) (by assumption) ?_
          rotate_left
          · intro w hSw; (try dsimp only at hSw); go_simp; try (first | with_reducible rfl | (refine (if_pos ?_).trans ?_ <;> first | omega | with_reducible rfl))
          try simp only [Act.put, List.setIfInBounds_toArray, List.set_cons_zero, List.set_cons_succ]
          refine wpAnyH_take (i := 3) (oi := { dst := some 65, op := Op.move (Operand.tmp 9), type := _, pos := _, after := _, guard := none }) (v := ?_) rfl (by kernel_rfl) (by kernel_rfl) (by kernel_rfl) (fun _ _ _ h => h) (Or.inl ⟨by rfl, ?_⟩) (by assumption) ?_
          rotate_left
          · intro w hSw; (try dsimp only at hSw); go_simp; try (first | with_reducible rfl | (refine (if_pos ?_).trans ?_ <;> first | omega | with_reducible rfl))
          try simp only [Act.put, List.setIfInBounds_toArray, List.set_cons_zero, List.set_cons_succ]
          replace HW := hid HW.out.drew
          refine wpAnyH_ready (rs := [2]) (by kernel_rfl) (by simp) ?_
          refine AllReadyH.cons (o := { dst := some 64, op := Op.call { callee := Callee.value (Operand.func 27), args := #[Operand.tmp 62, Operand.tmp 63], argTypes := #[45, 22] }, type := _, pos := _, after := _, guard := none }) rfl (fun K hK => ?_) AllReadyH.nil
          rw [if_pos (by rfl)]
          go_simp
          refine (matches_any (d + 1) _ _ (maybeT t) m _ (HTY.out.below HW.out) (HMZ.out.below HW.out) (by have := HML.out; omega)).mono ?_
          rintro e w6 ⟨rfl, hb6⟩
          rw [HEY2.out]
          replace HW := hid (HW.out.trans (hb6.mono HW.out.size))
          clear hb6
          go_wp2_with fail
          refine hK.out _ _ (by exact HCZ.out _ HW.out) (fun hHeld => ?_)
          clear hK K
          try simp only [Act.put, List.setIfInBounds_toArray, List.set_cons_zero, List.set_cons_succ]
          refine wpAnyH_take (i := 4) (oi := { dst := some 66, op := Op.move (Operand.tmp 65), type := _, pos := _, after := _, guard := none }) (v := ?_) rfl (by kernel_rfl) (by kernel_rfl) (by kernel_rfl) (fun _ _ _ h => h) (Or.inl ⟨by rfl, ?_⟩) (by assumption) ?_
          rotate_left
          · intro w hSw; (try dsimp only at hSw); go_simp; try (first | with_reducible rfl | (refine (if_pos ?_).trans ?_ <;> first | omega | with_reducible rfl))
          try simp only [Act.put, List.setIfInBounds_toArray, List.set_cons_zero, List.set_cons_succ]
          refine wpAnyH_take (i := 5) (oi := { dst := some 67, op := Op.move (Operand.tmp 6), type := _, pos := _, after := _, guard := some (4, false) }) (v := ?_) rfl (by kernel_rfl) (by kernel_rfl) (by kernel_rfl) (fun _ _ _ h => h) (Or.inl ⟨by rfl, ?_⟩) (by assumption) ?_
          rotate_left
          · intro w hSw; (try dsimp only at hSw); go_simp; try (first | with_reducible rfl | (refine (if_pos ?_).trans ?_ <;> first | omega | with_reducible rfl))
          try simp only [Act.put, List.setIfInBounds_toArray, List.set_cons_zero, List.set_cons_succ]
          refine wpAnyH_take (i := 6) (oi := { dst := some 68, op := Op.call { callee := Callee.builtin Builtin.len, args := #[Operand.tmp 67], argTypes := #[22] }, type := _, pos := _, after := _, guard := some (4, false) }) (v := ?_) rfl (by kernel_rfl) (by kernel_rfl) (by kernel_rfl) (fun _ _ _ h => h) (Or.inl ⟨by rfl, ?_⟩) (by assumption) ?_
          rotate_left
          · intro w hSw; (try dsimp only at hSw); go_simp; try (first | with_reducible rfl | (refine (if_pos ?_).trans ?_ <;> first | omega | with_reducible rfl))
          try simp only [Act.put, List.setIfInBounds_toArray, List.set_cons_zero, List.set_cons_succ]
          refine wpAnyH_take (i := 7) (oi := { dst := some 69, op := Op.binOp BinOp.eql 3 (Operand.tmp 68) (Operand.const (Value.int IntKind.i64 0)) 3, type := _, pos := _, after := _, guard := some (4, false) }) (v := ?_) rfl (by kernel_rfl) (by kernel_rfl) (by kernel_rfl) (fun _ _ _ h => h) (Or.inl ⟨by rfl, ?_⟩) (by assumption) ?_
          rotate_left
          · intro w hSw; (try dsimp only at hSw); go_simp; try (first | with_reducible rfl | (refine (if_pos ?_).trans ?_ <;> first | omega | with_reducible rfl))
          try simp only [Act.put, List.setIfInBounds_toArray, List.set_cons_zero, List.set_cons_succ]
          refine wpAnyH_take (i := 8) (oi := { dst := some 70, op := Op.pick (Operand.tmp 66) (Operand.const (Value.bool true)) (Operand.tmp 69), type := _, pos := _, after := _, guard := none }) (v := ?_) rfl (by kernel_rfl) (by kernel_rfl) (by kernel_rfl) (fun _ _ _ h => h) (Or.inl ⟨by rfl, ?_⟩) (by assumption) ?_
          rotate_left
          · intro w hSw; (try dsimp only at hSw); go_simp; try (first | with_reducible rfl | (refine (if_pos ?_).trans ?_ <;> first | omega | with_reducible rfl))
          try simp only [Act.put, List.setIfInBounds_toArray, List.set_cons_zero, List.set_cons_succ]
          refine wpAnyH_take (i := 9) (oi := { dst := some 71, op := Op.binOp BinOp.eql 4 (Operand.tmp 64) (Operand.tmp 70) 4, type := _, pos := _, after := _, guard := none }) (v := ?_) rfl (by kernel_rfl) (by kernel_rfl) (by kernel_rfl) (fun _ _ _ h => h) (Or.inl ⟨by rfl, ?_⟩) (by assumption) ?_
          rotate_left
          · intro w hSw; (try dsimp only at hSw); go_simp; try (first | with_reducible rfl | (refine (if_pos ?_).trans ?_ <;> first | omega | with_reducible rfl))
          try simp only [Act.put, List.setIfInBounds_toArray, List.set_cons_zero, List.set_cons_succ]
          refine wpAnyH_take (i := 10) (oi := { dst := some 72, op := Op.move (Operand.tmp 71), type := _, pos := _, after := _, guard := none }) (v := ?_) rfl (by kernel_rfl) (by kernel_rfl) (by kernel_rfl) (fun _ _ _ h => h) (Or.inl ⟨by rfl, ?_⟩) (by assumption) ?_
          rotate_left
          · intro w hSw; (try dsimp only at hSw); go_simp; try (first | with_reducible rfl | (refine (if_pos ?_).trans ?_ <;> first | omega | with_reducible rfl))
          try simp only [Act.put, List.setIfInBounds_toArray, List.set_cons_zero, List.set_cons_succ]
          refine wpAnyH_take (i := 11) (oi := { dst := some 73, op := Op.move (Operand.tmp 9), type := _, pos := _, after := _, guard := some (10, true) }) (v := ?_) rfl (by kernel_rfl) (by kernel_rfl) (by kernel_rfl) (fun _ _ _ h => h) (Or.inl ⟨by rfl, ?_⟩) (by assumption) ?_
          rotate_left
          · intro w hSw; (try dsimp only at hSw); go_simp; try (first | with_reducible rfl | (refine (if_pos ?_).trans ?_ <;> first | omega | with_reducible rfl))
          try simp only [Act.put, List.setIfInBounds_toArray, List.set_cons_zero, List.set_cons_succ]
          refine wpAnyH_take (i := 12) (oi := { dst := some 74, op := Op.unOp UnOp.not 4 (Operand.tmp 73), type := _, pos := _, after := _, guard := some (10, true) }) (v := ?_) rfl (by kernel_rfl) (by kernel_rfl) (by kernel_rfl) (fun _ _ _ h => h) (Or.inl ⟨by rfl, ?_⟩) (by assumption) ?_
          rotate_left
          · intro w hSw; (try dsimp only at hSw); go_simp; try (first | with_reducible rfl | (refine (if_pos ?_).trans ?_ <;> first | omega | with_reducible rfl))
          try simp only [Act.put, List.setIfInBounds_toArray, List.set_cons_zero, List.set_cons_succ]
          refine wpAnyH_take (i := 13) (oi := { dst := some 75, op := Op.move (Operand.tmp 74), type := _, pos := _, after := _, guard := some (10, true) }) (v := ?_) rfl (by kernel_rfl) (by kernel_rfl) (by kernel_rfl) (fun _ _ _ h => h) (Or.inl ⟨by rfl, ?_⟩) (by assumption) ?_
          rotate_left
          · intro w hSw; (try dsimp only at hSw); go_simp; try (first | with_reducible rfl | (refine (if_pos ?_).trans ?_ <;> first | omega | with_reducible rfl))
          try simp only [Act.put, List.setIfInBounds_toArray, List.set_cons_zero, List.set_cons_succ]
          refine wpAnyH_take (i := 14) (oi := { dst := some 76, op := Op.load 45 (Operand.tmp 11), type := _, pos := _, after := _, guard := some (13, false) }) (v := undef) rfl (by kernel_rfl) (by kernel_rfl) (by kernel_rfl) (fun _ _ _ h => h) (Or.inr ⟨by rfl, rfl⟩) (by assumption) ?_
          try simp only [Act.put, List.setIfInBounds_toArray, List.set_cons_zero, List.set_cons_succ]
          refine wpAnyH_take (i := 15) (oi := { dst := some 77, op := Op.move (Operand.tmp 6), type := _, pos := _, after := _, guard := some (13, false) }) (v := undef) rfl (by kernel_rfl) (by kernel_rfl) (by kernel_rfl) (fun _ _ _ h => h) (Or.inr ⟨by rfl, rfl⟩) (by assumption) ?_
          try simp only [Act.put, List.setIfInBounds_toArray, List.set_cons_zero, List.set_cons_succ]
          refine wpAnyH_take (i := 16) (oi := { dst := some 78, op := Op.call { callee := Callee.value (Operand.func 27), args := #[Operand.tmp 76, Operand.tmp 77], argTypes := #[45, 22] }, type := _, pos := _, after := _, guard := some (13, false) }) (v := undef) rfl (by kernel_rfl) (by kernel_rfl) (by kernel_rfl) (fun _ _ _ h => h) (Or.inr ⟨by rfl, rfl⟩) (by assumption) ?_
          try simp only [Act.put, List.setIfInBounds_toArray, List.set_cons_zero, List.set_cons_succ]
          refine wpAnyH_take (i := 17) (oi := { dst := some 79, op := Op.move (Operand.tmp 78), type := _, pos := _, after := _, guard := some (13, false) }) (v := undef) rfl (by kernel_rfl) (by kernel_rfl) (by kernel_rfl) (fun _ _ _ h => h) (Or.inr ⟨by rfl, rfl⟩) (by assumption) ?_
          try simp only [Act.put, List.setIfInBounds_toArray, List.set_cons_zero, List.set_cons_succ]
          refine wpAnyH_take (i := 18) (oi := { dst := some 80, op := Op.load 45 (Operand.tmp 11), type := _, pos := _, after := _, guard := some (17, true) }) (v := undef) rfl (by kernel_rfl) (by kernel_rfl) (by kernel_rfl) (fun _ _ _ h => h) (Or.inr ⟨by rfl, rfl⟩) (by assumption) ?_
          try simp only [Act.put, List.setIfInBounds_toArray, List.set_cons_zero, List.set_cons_succ]
          refine wpAnyH_take (i := 19) (oi := { dst := some 81, op := Op.buildSlice 22 0 #[], type := _, pos := _, after := _, guard := some (17, true) }) (v := undef) rfl (by kernel_rfl) (by kernel_rfl) (by kernel_rfl) (fun _ _ _ h => h) (Or.inr ⟨by rfl, rfl⟩) (by assumption) ?_
          try simp only [Act.put, List.setIfInBounds_toArray, List.set_cons_zero, List.set_cons_succ]
          refine wpAnyH_take (i := 20) (oi := { dst := some 82, op := Op.move (Operand.tmp 6), type := _, pos := _, after := _, guard := some (17, true) }) (v := undef) rfl (by kernel_rfl) (by kernel_rfl) (by kernel_rfl) (fun _ _ _ h => h) (Or.inr ⟨by rfl, rfl⟩) (by assumption) ?_
          try simp only [Act.put, List.setIfInBounds_toArray, List.set_cons_zero, List.set_cons_succ]
          refine wpAnyH_take (i := 21) (oi := { dst := some 83, op := Op.call { callee := Callee.builtin Builtin.append, args := #[Operand.tmp 81, Operand.tmp 82], argTypes := #[22, 22] }, type := _, pos := _, after := _, guard := some (17, true) }) (v := undef) rfl (by kernel_rfl) (by kernel_rfl) (by kernel_rfl) (fun _ _ _ h => h) (Or.inr ⟨by rfl, rfl⟩) (by assumption) ?_
          try simp only [Act.put, List.setIfInBounds_toArray, List.set_cons_zero, List.set_cons_succ]
          refine wpAnyH_take (i := 22) (oi := { dst := some 84, op := Op.move (Operand.tmp 6), type := _, pos := _, after := _, guard := some (17, true) }) (v := undef) rfl (by kernel_rfl) (by kernel_rfl) (by kernel_rfl) (fun _ _ _ h => h) (Or.inr ⟨by rfl, rfl⟩) (by assumption) ?_
          try simp only [Act.put, List.setIfInBounds_toArray, List.set_cons_zero, List.set_cons_succ]
          refine wpAnyH_take (i := 23) (oi := { dst := some 85, op := Op.call { callee := Callee.builtin Builtin.append, args := #[Operand.tmp 83, Operand.tmp 84], argTypes := #[22, 22] }, type := _, pos := _, after := _, guard := some (17, true) }) (v := undef) rfl (by kernel_rfl) (by kernel_rfl) (by kernel_rfl) (fun _ _ _ h => h) (Or.inr ⟨by rfl, rfl⟩) (by assumption) ?_
          try simp only [Act.put, List.setIfInBounds_toArray, List.set_cons_zero, List.set_cons_succ]
          refine wpAnyH_take (i := 24) (oi := { dst := some 86, op := Op.call { callee := Callee.value (Operand.func 27), args := #[Operand.tmp 80, Operand.tmp 85], argTypes := #[45, 22] }, type := _, pos := _, after := _, guard := some (17, true) }) (v := undef) rfl (by kernel_rfl) (by kernel_rfl) (by kernel_rfl) (fun _ _ _ h => h) (Or.inr ⟨by rfl, rfl⟩) (by assumption) ?_
          try simp only [Act.put, List.setIfInBounds_toArray, List.set_cons_zero, List.set_cons_succ]
          refine wpAnyH_take (i := 25) (oi := { dst := some 87, op := Op.pick (Operand.tmp 79) (Operand.tmp 86) (Operand.const (Value.bool false)), type := _, pos := _, after := _, guard := some (13, false) }) (v := undef) rfl (by kernel_rfl) (by kernel_rfl) (by kernel_rfl) (fun _ _ _ h => h) (Or.inr ⟨by rfl, rfl⟩) (by assumption) ?_
          try simp only [Act.put, List.setIfInBounds_toArray, List.set_cons_zero, List.set_cons_succ]
          refine wpAnyH_take (i := 26) (oi := { dst := some 88, op := Op.pick (Operand.tmp 75) (Operand.const (Value.bool true)) (Operand.tmp 87), type := _, pos := _, after := _, guard := some (10, true) }) (v := ?_) rfl (by kernel_rfl) (by kernel_rfl) (by kernel_rfl) (fun _ _ _ h => h) (Or.inl ⟨by rfl, ?_⟩) (by assumption) ?_
          rotate_left
          · intro w hSw; (try dsimp only at hSw); go_simp; try (first | with_reducible rfl | (refine (if_pos ?_).trans ?_ <;> first | omega | with_reducible rfl))
          try simp only [Act.put, List.setIfInBounds_toArray, List.set_cons_zero, List.set_cons_succ]
          refine wpAnyH_take (i := 27) (oi := { dst := some 89, op := Op.pick (Operand.tmp 72) (Operand.tmp 88) (Operand.const (Value.bool false)), type := _, pos := _, after := _, guard := none }) (v := ?_) rfl (by kernel_rfl) (by kernel_rfl) (by kernel_rfl) (fun _ _ _ h => h) (Or.inl ⟨by rfl, ?_⟩) (by assumption) ?_
          rotate_left
          · intro w hSw; (try dsimp only at hSw); go_simp; try (first | with_reducible rfl | (refine (if_pos ?_).trans ?_ <;> first | omega | with_reducible rfl))
          try simp only [Act.put, List.setIfInBounds_toArray, List.set_cons_zero, List.set_cons_succ]
          refine wpAnyH_take (i := 28) (oi := { dst := some 90, op := Op.move (Operand.tmp 89), type := _, pos := _, after := _, guard := none }) (v := ?_) rfl (by kernel_rfl) (by kernel_rfl) (by kernel_rfl) (fun _ _ _ h => h) (Or.inl ⟨by rfl, ?_⟩) (by assumption) ?_
          rotate_left
          · intro w hSw; (try dsimp only at hSw); go_simp; try (first | with_reducible rfl | (refine (if_pos ?_).trans ?_ <;> first | omega | with_reducible rfl))
          try simp only [Act.put, List.setIfInBounds_toArray, List.set_cons_zero, List.set_cons_succ]
          refine wpAnyH_take (i := 29) (oi := { dst := some 91, op := Op.load 45 (Operand.tmp 11), type := _, pos := _, after := _, guard := some (28, true) }) (v := ?_) rfl (by kernel_rfl) (by kernel_rfl) (by kernel_rfl) (fun _ _ _ h => h) (Or.inl ⟨by rfl, ?_⟩) (by assumption) ?_
          rotate_left
          · intro w hSw; (try dsimp only at hSw); go_simp; try (first | with_reducible rfl | (refine (if_pos ?_).trans ?_ <;> first | omega | with_reducible rfl))
          try simp only [Act.put, List.setIfInBounds_toArray, List.set_cons_zero, List.set_cons_succ]
          refine wpAnyH_ready (rs := [30]) (by kernel_rfl) (by simp) ?_
          refine AllReadyH.cons (o := { dst := some 92, op := Op.call { callee := Callee.value (Operand.func 27), args := #[Operand.tmp 91, Operand.const (Value.slice none 0 0)], argTypes := #[45, 22] }, type := _, pos := _, after := _, guard := some (28, true) }) rfl (fun K hK => ?_) AllReadyH.nil
          rw [if_pos (by rfl)]
          go_simp
          refine (matches_any (d + 1) _ _ (starT t) [] _ (HTZ.out.below HW.out) (nums_none _) (by simp)).mono ?_
          rintro e w11 ⟨rfl, hb11⟩
          rw [HE0.out]
          replace HW := hid (HW.out.trans (hb11.mono HW.out.size))
          clear hb11
          go_wp2_with fail
          refine hK.out _ _ (by exact HCZ.out _ HW.out) (fun hHeld => ?_)
          clear hK K
          try simp only [Act.put, List.setIfInBounds_toArray, List.set_cons_zero, List.set_cons_succ]
          refine wpAnyH_take (i := 31) (oi := { dst := some 93, op := Op.pick (Operand.tmp 90) (Operand.tmp 92) (Operand.const (Value.bool false)), type := _, pos := _, after := _, guard := none }) (v := ?_) rfl (by kernel_rfl) (by kernel_rfl) (by kernel_rfl) (fun _ _ _ h => h) (Or.inl ⟨by rfl, ?_⟩) (by assumption) ?_
          rotate_left
          · intro w hSw; (try dsimp only at hSw); go_simp; try (first | with_reducible rfl | (refine (if_pos ?_).trans ?_ <;> first | omega | with_reducible rfl))
          try simp only [Act.put, List.setIfInBounds_toArray, List.set_cons_zero, List.set_cons_succ]
          refine wpAnyH_take (i := 32) (oi := { dst := some 4, op := Op.assign (Operand.tmp 93), type := _, pos := _, after := _, guard := none }) (v := ?_) rfl (by kernel_rfl) (by kernel_rfl) (by kernel_rfl) (fun _ _ _ h => h) (Or.inl ⟨by rfl, ?_⟩) (by assumption) ?_
          rotate_left
          · intro w hSw; (try dsimp only at hSw); go_simp; try (first | with_reducible rfl | (refine (if_pos ?_).trans ?_ <;> first | omega | with_reducible rfl))
          try simp only [Act.put, List.setIfInBounds_toArray, List.set_cons_zero, List.set_cons_succ]
          refine wpAnyH_done (by kernel_rfl) ?_ _
          go_wp2_with fail
          go_ret
          exact ⟨ret_bool (by simp), HBF.out.trans (HW.out.mono HBF.out.size)⟩
      | true =>
        obtain ⟨hb1, hb2⟩ := HBD.out rfl
        go_wp2_with fail
        refine HSH.out.mono ?_
        rintro e w8 ⟨rfl, hb8⟩
        have HB8 := hid (HB7.out.trans (hb8.mono HB7.out.size))
        clear hb8 a0 a1 a2 z0 z1 z2 HSH
        obtain ⟨⟨a0, a1, a2⟩, z0, z1, z2⟩ := HCY.out w8 HB8.out
        have b1 := ilt_false (show ¬ (n5 : Int) < sh by omega)
        by_cases hlg0 : 0 ≤ lg
        · have hmx : ¬ mx < (n5 : Int) := by have := HMX2.out; have := hb2 hlg0; omega
          clear hb1 hb2
          obtain ⟨p0, hp0⟩ : ∃ z, z = w8.heap.size := ⟨_, rfl⟩
          obtain ⟨U1, hU1⟩ : ∃ U, U = (w8.alloc (.cells #[.int .i64 k0, .int .i64 c0, .slice Ax n0 cx] 45)).alloc (.cells #[.int .i64 8, .int .i64 0, .slice (some ⟨p0, 0, none⟩) 1 1] 45) := ⟨_, rfl⟩
          have HU1B := hid (show Below Y.heap.size Y U1 by rw [hU1]; exact (HB8.out.alloc HB8.out.size _).alloc (by have := HB8.out.size; simp; omega) _)
          obtain ⟨⟨e0, e1, e2⟩, -⟩ := HCY.out U1 HU1B.out
          obtain ⟨Z, hZ⟩ : ∃ Z, Z = (U1.alloc (.cells #[.int .i64 k0, .int .i64 c0, .slice Ax n0 cx] 45)).alloc (.cells #[.int .i64 6, .int .i64 0, .slice (some ⟨p0 + 2, 0, none⟩) 1 1] 45) := ⟨_, rfl⟩
          have HS1 := hid (show U1.heap.size = p0 + 2 by rw [hU1, hp0]; simp)
          have HS2 := hid (show Z.heap.size = p0 + 4 by rw [hZ]; have := HS1.out; simp; omega)
          have HTY := hid (show IsTr Z Any (d + 1) (.agg #[.int .i64 8, .int .i64 0, .slice (some ⟨p0, 0, none⟩) 1 1]) (maybeT t) by
            have h1 := wrap_tr (t := t) 8 (HTY0.out.below HB8.out)
            have h2 := h1.below ((Below.refl _ _).alloc (Nat.le_refl _) (.cells #[.int .i64 8, .int .i64 0, .slice (some ⟨p0, 0, none⟩) 1 1] 45))
            rw [← hU1, ← hp0] at h2
            rw [hZ]
            exact h2.below (((Below.refl _ _).alloc (Nat.le_refl _) _).alloc (by simp) _))
          have HTZ := hid (show IsTr Z Any (d + 1) (.agg #[.int .i64 6, .int .i64 0, .slice (some ⟨p0 + 2, 0, none⟩) 1 1]) (starT t) by
            have h1 := wrap_tr (t := t) 6 (HTY0.out.below HU1B.out)
            rw [HS1.out] at h1
            rw [hZ]
            exact h1.below ((Below.refl _ _).alloc (Nat.le_refl _) _))
          have HBZ := hid (show Below Y.heap.size Y Z by rw [hZ]; exact (HU1B.out.alloc HU1B.out.size _).alloc (by have := HU1B.out.size; simp; omega) _)
          have HYR := hid (show Z.heap[p0 + 1]? = some (.cells #[.int .i64 8, .int .i64 0, .slice (some ⟨p0, 0, none⟩) 1 1] 45 (0, 0)) by
            have h1 : U1.heap[p0 + 1]? = some (.cells #[.int .i64 8, .int .i64 0, .slice (some ⟨p0, 0, none⟩) 1 1] 45 (0, 0)) := by
              have h2 := heap_alloc_new (w8.alloc (.cells #[.int .i64 k0, .int .i64 c0, .slice Ax n0 cx] 45)) (.cells #[.int .i64 8, .int .i64 0, .slice (some ⟨p0, 0, none⟩) 1 1] 45)
              rw [← hU1, show (w8.alloc (.cells #[.int .i64 k0, .int .i64 c0, .slice Ax n0 cx] 45)).heap.size = p0 + 1 by rw [hp0]; simp] at h2
              exact h2
            rw [hZ]
            exact (((((Below.refl U1.heap.size U1).alloc (Nat.le_refl _) _).alloc (by simp) _).block (p0 + 1) (by rw [HS1.out]; omega))).trans h1)
          have HZR := hid (show Z.heap[p0 + 3]? = some (.cells #[.int .i64 6, .int .i64 0, .slice (some ⟨p0 + 2, 0, none⟩) 1 1] 45 (0, 0)) by
            have h2 := heap_alloc_new (U1.alloc (.cells #[.int .i64 k0, .int .i64 c0, .slice Ax n0 cx] 45)) (.cells #[.int .i64 6, .int .i64 0, .slice (some ⟨p0 + 2, 0, none⟩) 1 1] 45)
            rw [← hZ, show (U1.alloc (.cells #[.int .i64 k0, .int .i64 c0, .slice Ax n0 cx] 45)).heap.size = p0 + 3 by simp [HS1.out]] at h2
            exact h2)
          have HCZ := hid (show ∀ U : World, Below Z.heap.size Z U → U.cell? ⟨p0 + 1, 0, none⟩ = some (.int .i64 8) ∧ U.cell? ⟨p0 + 1, 1, none⟩ = some (.int .i64 0) ∧ U.cell? ⟨p0 + 1, 2, none⟩ = some (.slice (some ⟨p0, 0, none⟩) 1 1) ∧ U.cell? ⟨p0 + 3, 0, none⟩ = some (.int .i64 6) ∧ U.cell? ⟨p0 + 3, 1, none⟩ = some (.int .i64 0) ∧ U.cell? ⟨p0 + 3, 2, none⟩ = some (.slice (some ⟨p0 + 2, 0, none⟩) 1 1) from fun U hU => by
            obtain ⟨f0, f1, f2, -⟩ := slot3 ((hU.block (p0 + 1) (by rw [HS2.out]; omega)).trans HYR.out)
            obtain ⟨f3, f4, f5, -⟩ := slot3 ((hU.block (p0 + 3) (by rw [HS2.out]; omega)).trans HZR.out)
            exact ⟨f0, f1, f2, f3, f4, f5⟩)
          have HMZ := hid (HMY.out.below HBZ.out)
          have HM5 := hid (show IsNums .i64 Z Any (.slice A5 m.length c5) m by rw [← HN5.out]; exact HMZ.out)
          have HW := hid (Below.refl Z.heap.size Z)
          have HBF := hid (HB.out.trans ((HBY.out.trans (HBZ.out.mono HBY.out.size)).mono HB.out.size))
          have HU1E := hid hU1
          have HZE := hid hZ
          have HP0 := hid hp0
          rw [hU1, hp0] at e0 e1 e2
          clear hU1 hZ hp0 z0 z1 z2
          go_wp2_with fail
          rw [← HP0.out, show p0 + 1 + 1 + 1 = p0 + 3 from rfl, show p0 + 1 + 1 = p0 + 2 from rfl, ← HU1E.out, ← HZE.out]
          clear e0 e1 e2 a0 a1 a2
          have HEY2 := hid (show matchesT (maybeT t) m = true by rw [HEY.out]; rfl)
          have HEZ := hid (HEZ.out (by first | rfl | trivial))
          refine wp_region_held_drew (S := (fun Y => Y.cell? ⟨p0 + 1, 0, none⟩ = some (.int .i64 8) ∧ Y.cell? ⟨p0 + 1, 1, none⟩ = some (.int .i64 0) ∧ Y.cell? ⟨p0 + 1, 2, none⟩ = some (.slice (some ⟨p0, 0, none⟩) 1 1) ∧ Y.cell? ⟨p0 + 3, 0, none⟩ = some (.int .i64 6) ∧ Y.cell? ⟨p0 + 3, 1, none⟩ = some (.int .i64 0) ∧ Y.cell? ⟨p0 + 3, 2, none⟩ = some (.slice (some ⟨p0 + 2, 0, none⟩) 1 1))) (by kernel_rfl) (by exact HCZ.out _ HW.out.drew) (fun hHeld => ?_)
          refine wpAnyH_take (i := 0) (oi := { dst := some 62, op := Op.load 45 (Operand.tmp 10), type := _, pos := _, after := _, guard := none }) (v := ?_) rfl (by kernel_rfl) (by kernel_rfl) (by kernel_rfl) (fun _ _ _ h => h) (Or.inl ⟨by rfl, ?_⟩) (by assumption) ?_
          rotate_left
          · intro w hSw; (try dsimp only at hSw); go_simp; try (first | with_reducible rfl | (refine (if_pos ?_).trans ?_ <;> first | omega | with_reducible rfl))
          try simp only [Act.put, List.setIfInBounds_toArray, List.set_cons_zero, List.set_cons_succ]
          refine wpAnyH_take (i := 1) (oi := { dst := some 63, op := Op.move (Operand.tmp 6), type := _, pos := _, after := _, guard := none }) (v := ?_) rfl (by kernel_rfl) (by kernel_rfl) (by kernel_rfl) (fun _ _ _ h => h) (Or.inl ⟨by rfl, ?_⟩) (by assumption) ?_
          rotate_left
          · intro w hSw; (try dsimp only at hSw); go_simp; try (first | with_reducible rfl | (refine (if_pos ?_).trans ?_ <;> first | omega | with_reducible rfl))
          try simp only [Act.put, List.setIfInBounds_toArray, List.set_cons_zero, List.set_cons_succ]
          refine wpAnyH_take (i := 3) (oi := { dst := some 65, op := Op.move (Operand.tmp 9), type := _, pos := _, after := _, guard := none }) (v := ?_) rfl (by kernel_rfl) (by kernel_rfl) (by kernel_rfl) (fun _ _ _ h => h) (Or.inl ⟨by rfl, ?_⟩) (by assumption) ?_
          rotate_left
          · intro w hSw; (try dsimp only at hSw); go_simp; try (first | with_reducible rfl | (refine (if_pos ?_).trans ?_ <;> first | omega | with_reducible rfl))
          try simp only [Act.put, List.setIfInBounds_toArray, List.set_cons_zero, List.set_cons_succ]
          replace HW := hid HW.out.drew
          refine wpAnyH_ready (rs := [2]) (by kernel_rfl) (by simp) ?_
          refine AllReadyH.cons (o := { dst := some 64, op := Op.call { callee := Callee.value (Operand.func 27), args := #[Operand.tmp 62, Operand.tmp 63], argTypes := #[45, 22] }, type := _, pos := _, after := _, guard := none }) rfl (fun K hK => ?_) AllReadyH.nil
          rw [if_pos (by rfl)]
          go_simp
          refine (matches_any (d + 1) _ _ (maybeT t) m _ (HTY.out.below HW.out) (HMZ.out.below HW.out) (by have := HML.out; omega)).mono ?_
          rintro e w6 ⟨rfl, hb6⟩
          rw [HEY2.out]
          replace HW := hid (HW.out.trans (hb6.mono HW.out.size))
          clear hb6
          go_wp2_with fail
          refine hK.out _ _ (by exact HCZ.out _ HW.out) (fun hHeld => ?_)
          clear hK K
          try simp only [Act.put, List.setIfInBounds_toArray, List.set_cons_zero, List.set_cons_succ]
          refine wpAnyH_take (i := 4) (oi := { dst := some 66, op := Op.move (Operand.tmp 65), type := _, pos := _, after := _, guard := none }) (v := ?_) rfl (by kernel_rfl) (by kernel_rfl) (by kernel_rfl) (fun _ _ _ h => h) (Or.inl ⟨by rfl, ?_⟩) (by assumption) ?_
          rotate_left
          · intro w hSw; (try dsimp only at hSw); go_simp; try (first | with_reducible rfl | (refine (if_pos ?_).trans ?_ <;> first | omega | with_reducible rfl))
          try simp only [Act.put, List.setIfInBounds_toArray, List.set_cons_zero, List.set_cons_succ]
          refine wpAnyH_take (i := 5) (oi := { dst := some 67, op := Op.move (Operand.tmp 6), type := _, pos := _, after := _, guard := some (4, false) }) (v := undef) rfl (by kernel_rfl) (by kernel_rfl) (by kernel_rfl) (fun _ _ _ h => h) (Or.inr ⟨by rfl, rfl⟩) (by assumption) ?_
          try simp only [Act.put, List.setIfInBounds_toArray, List.set_cons_zero, List.set_cons_succ]
          refine wpAnyH_take (i := 6) (oi := { dst := some 68, op := Op.call { callee := Callee.builtin Builtin.len, args := #[Operand.tmp 67], argTypes := #[22] }, type := _, pos := _, after := _, guard := some (4, false) }) (v := undef) rfl (by kernel_rfl) (by kernel_rfl) (by kernel_rfl) (fun _ _ _ h => h) (Or.inr ⟨by rfl, rfl⟩) (by assumption) ?_
          try simp only [Act.put, List.setIfInBounds_toArray, List.set_cons_zero, List.set_cons_succ]
          refine wpAnyH_take (i := 7) (oi := { dst := some 69, op := Op.binOp BinOp.eql 3 (Operand.tmp 68) (Operand.const (Value.int IntKind.i64 0)) 3, type := _, pos := _, after := _, guard := some (4, false) }) (v := undef) rfl (by kernel_rfl) (by kernel_rfl) (by kernel_rfl) (fun _ _ _ h => h) (Or.inr ⟨by rfl, rfl⟩) (by assumption) ?_
          try simp only [Act.put, List.setIfInBounds_toArray, List.set_cons_zero, List.set_cons_succ]
          refine wpAnyH_take (i := 8) (oi := { dst := some 70, op := Op.pick (Operand.tmp 66) (Operand.const (Value.bool true)) (Operand.tmp 69), type := _, pos := _, after := _, guard := none }) (v := ?_) rfl (by kernel_rfl) (by kernel_rfl) (by kernel_rfl) (fun _ _ _ h => h) (Or.inl ⟨by rfl, ?_⟩) (by assumption) ?_
          rotate_left
          · intro w hSw; (try dsimp only at hSw); go_simp; try (first | with_reducible rfl | (refine (if_pos ?_).trans ?_ <;> first | omega | with_reducible rfl))
          try simp only [Act.put, List.setIfInBounds_toArray, List.set_cons_zero, List.set_cons_succ]
          refine wpAnyH_take (i := 9) (oi := { dst := some 71, op := Op.binOp BinOp.eql 4 (Operand.tmp 64) (Operand.tmp 70) 4, type := _, pos := _, after := _, guard := none }) (v := ?_) rfl (by kernel_rfl) (by kernel_rfl) (by kernel_rfl) (fun _ _ _ h => h) (Or.inl ⟨by rfl, ?_⟩) (by assumption) ?_
          rotate_left
          · intro w hSw; (try dsimp only at hSw); go_simp; try (first | with_reducible rfl | (refine (if_pos ?_).trans ?_ <;> first | omega | with_reducible rfl))
          try simp only [Act.put, List.setIfInBounds_toArray, List.set_cons_zero, List.set_cons_succ]
          refine wpAnyH_take (i := 10) (oi := { dst := some 72, op := Op.move (Operand.tmp 71), type := _, pos := _, after := _, guard := none }) (v := ?_) rfl (by kernel_rfl) (by kernel_rfl) (by kernel_rfl) (fun _ _ _ h => h) (Or.inl ⟨by rfl, ?_⟩) (by assumption) ?_
          rotate_left
          · intro w hSw; (try dsimp only at hSw); go_simp; try (first | with_reducible rfl | (refine (if_pos ?_).trans ?_ <;> first | omega | with_reducible rfl))
          try simp only [Act.put, List.setIfInBounds_toArray, List.set_cons_zero, List.set_cons_succ]
          refine wpAnyH_take (i := 11) (oi := { dst := some 73, op := Op.move (Operand.tmp 9), type := _, pos := _, after := _, guard := some (10, true) }) (v := ?_) rfl (by kernel_rfl) (by kernel_rfl) (by kernel_rfl) (fun _ _ _ h => h) (Or.inl ⟨by rfl, ?_⟩) (by assumption) ?_
          rotate_left
          · intro w hSw; (try dsimp only at hSw); go_simp; try (first | with_reducible rfl | (refine (if_pos ?_).trans ?_ <;> first | omega | with_reducible rfl))
          try simp only [Act.put, List.setIfInBounds_toArray, List.set_cons_zero, List.set_cons_succ]
          refine wpAnyH_take (i := 12) (oi := { dst := some 74, op := Op.unOp UnOp.not 4 (Operand.tmp 73), type := _, pos := _, after := _, guard := some (10, true) }) (v := ?_) rfl (by kernel_rfl) (by kernel_rfl) (by kernel_rfl) (fun _ _ _ h => h) (Or.inl ⟨by rfl, ?_⟩) (by assumption) ?_
          rotate_left
          · intro w hSw; (try dsimp only at hSw); go_simp; try (first | with_reducible rfl | (refine (if_pos ?_).trans ?_ <;> first | omega | with_reducible rfl))
          try simp only [Act.put, List.setIfInBounds_toArray, List.set_cons_zero, List.set_cons_succ]
          refine wpAnyH_take (i := 13) (oi := { dst := some 75, op := Op.move (Operand.tmp 74), type := _, pos := _, after := _, guard := some (10, true) }) (v := ?_) rfl (by kernel_rfl) (by kernel_rfl) (by kernel_rfl) (fun _ _ _ h => h) (Or.inl ⟨by rfl, ?_⟩) (by assumption) ?_
          rotate_left
          · intro w hSw; (try dsimp only at hSw); go_simp; try (first | with_reducible rfl | (refine (if_pos ?_).trans ?_ <;> first | omega | with_reducible rfl))
          try simp only [Act.put, List.setIfInBounds_toArray, List.set_cons_zero, List.set_cons_succ]
          refine wpAnyH_take (i := 14) (oi := { dst := some 76, op := Op.load 45 (Operand.tmp 11), type := _, pos := _, after := _, guard := some (13, false) }) (v := ?_) rfl (by kernel_rfl) (by kernel_rfl) (by kernel_rfl) (fun _ _ _ h => h) (Or.inl ⟨by rfl, ?_⟩) (by assumption) ?_
          rotate_left
          · intro w hSw; (try dsimp only at hSw); go_simp; try (first | with_reducible rfl | (refine (if_pos ?_).trans ?_ <;> first | omega | with_reducible rfl))
          try simp only [Act.put, List.setIfInBounds_toArray, List.set_cons_zero, List.set_cons_succ]
          refine wpAnyH_take (i := 15) (oi := { dst := some 77, op := Op.move (Operand.tmp 6), type := _, pos := _, after := _, guard := some (13, false) }) (v := ?_) rfl (by kernel_rfl) (by kernel_rfl) (by kernel_rfl) (fun _ _ _ h => h) (Or.inl ⟨by rfl, ?_⟩) (by assumption) ?_
          rotate_left
          · intro w hSw; (try dsimp only at hSw); go_simp; try (first | with_reducible rfl | (refine (if_pos ?_).trans ?_ <;> first | omega | with_reducible rfl))
          try simp only [Act.put, List.setIfInBounds_toArray, List.set_cons_zero, List.set_cons_succ]
          refine wpAnyH_ready (rs := [16]) (by kernel_rfl) (by simp) ?_
          refine AllReadyH.cons (o := { dst := some 78, op := Op.call { callee := Callee.value (Operand.func 27), args := #[Operand.tmp 76, Operand.tmp 77], argTypes := #[45, 22] }, type := _, pos := _, after := _, guard := some (13, false) }) rfl (fun K hK => ?_) AllReadyH.nil
          rw [if_pos (by rfl)]
          go_simp
          refine (matches_any (d + 1) _ _ (starT t) m _ (HTZ.out.below HW.out) (HMZ.out.below HW.out) (by have := HML.out; omega)).mono ?_
          rintro e w7 ⟨rfl, hb7⟩
          rw [HEZ.out.1]
          replace HW := hid (HW.out.trans (hb7.mono HW.out.size))
          clear hb7
          go_wp2_with fail
          refine hK.out _ _ (by exact HCZ.out _ HW.out) (fun hHeld => ?_)
          clear hK K
          try simp only [Act.put, List.setIfInBounds_toArray, List.set_cons_zero, List.set_cons_succ]
          refine wpAnyH_take (i := 17) (oi := { dst := some 79, op := Op.move (Operand.tmp 78), type := _, pos := _, after := _, guard := some (13, false) }) (v := ?_) rfl (by kernel_rfl) (by kernel_rfl) (by kernel_rfl) (fun _ _ _ h => h) (Or.inl ⟨by rfl, ?_⟩) (by assumption) ?_
          rotate_left
          · intro w hSw; (try dsimp only at hSw); go_simp; try (first | with_reducible rfl | (refine (if_pos ?_).trans ?_ <;> first | omega | with_reducible rfl))
          try simp only [Act.put, List.setIfInBounds_toArray, List.set_cons_zero, List.set_cons_succ]
          refine wpAnyH_take (i := 18) (oi := { dst := some 80, op := Op.load 45 (Operand.tmp 11), type := _, pos := _, after := _, guard := some (17, true) }) (v := ?_) rfl (by kernel_rfl) (by kernel_rfl) (by kernel_rfl) (fun _ _ _ h => h) (Or.inl ⟨by rfl, ?_⟩) (by assumption) ?_
          rotate_left
          · intro w hSw; (try dsimp only at hSw); go_simp; try (first | with_reducible rfl | (refine (if_pos ?_).trans ?_ <;> first | omega | with_reducible rfl))
          try simp only [Act.put, List.setIfInBounds_toArray, List.set_cons_zero, List.set_cons_succ]
          refine wpAnyH_take (i := 20) (oi := { dst := some 82, op := Op.move (Operand.tmp 6), type := _, pos := _, after := _, guard := some (17, true) }) (v := ?_) rfl (by kernel_rfl) (by kernel_rfl) (by kernel_rfl) (fun _ _ _ h => h) (Or.inl ⟨by rfl, ?_⟩) (by assumption) ?_
          rotate_left
          · intro w hSw; (try dsimp only at hSw); go_simp; try (first | with_reducible rfl | (refine (if_pos ?_).trans ?_ <;> first | omega | with_reducible rfl))
          try simp only [Act.put, List.setIfInBounds_toArray, List.set_cons_zero, List.set_cons_succ]
          refine wpAnyH_take (i := 22) (oi := { dst := some 84, op := Op.move (Operand.tmp 6), type := _, pos := _, after := _, guard := some (17, true) }) (v := ?_) rfl (by kernel_rfl) (by kernel_rfl) (by kernel_rfl) (fun _ _ _ h => h) (Or.inl ⟨by rfl, ?_⟩) (by assumption) ?_
          rotate_left
          · intro w hSw; (try dsimp only at hSw); go_simp; try (first | with_reducible rfl | (refine (if_pos ?_).trans ?_ <;> first | omega | with_reducible rfl))
          try simp only [Act.put, List.setIfInBounds_toArray, List.set_cons_zero, List.set_cons_succ]
          refine wpAnyH_ready (rs := [19]) (by kernel_rfl) (by simp) ?_
          refine AllReadyH.cons (o := { dst := some 81, op := Op.buildSlice 22 0 #[], type := _, pos := _, after := _, guard := some (17, true) }) rfl (fun K hK => ?_) AllReadyH.nil
          rw [if_pos (by rfl)]
          go_simp
          have HE8 := hid (empty_own _ trivial HW.out)
          replace HW := hid (HW.out.alloc HW.out.size (.cells #[] 3))
          refine hK.out _ _ (by exact HCZ.out _ HW.out) (fun hHeld => ?_)
          clear hK K
          try simp only [Act.put, List.setIfInBounds_toArray, List.set_cons_zero, List.set_cons_succ]
          refine wpAnyH_ready (rs := [21]) (by kernel_rfl) (by simp) ?_
          refine AllReadyH.cons (o := { dst := some 83, op := Op.call { callee := Callee.builtin Builtin.append, args := #[Operand.tmp 81, Operand.tmp 82], argTypes := #[22, 22] }, type := _, pos := _, after := _, guard := some (17, true) }) rfl (fun K hK => ?_) AllReadyH.nil
          rw [if_pos (by rfl)]
          refine wp_app_nums (.tmp 81) (.tmp 82) rfl (B := Z.heap.size) (xs := []) (ys := m) rfl HE8.out (by rw [← HN5.out]; rfl) (HM5.out.below HW.out) (by have := HML.out; simp; omega) HW.out.size ?_
          intro v8 w8 ho8 hb8 hz8
          replace HW := hid (HW.out.trans hb8)
          have HO8 := hid ho8
          clear ho8 hb8
          refine hK.out _ _ (by exact HCZ.out _ HW.out) (fun hHeld => ?_)
          clear hK K
          try simp only [Act.put, List.setIfInBounds_toArray, List.set_cons_zero, List.set_cons_succ]
          refine wpAnyH_ready (rs := [23]) (by kernel_rfl) (by simp) ?_
          refine AllReadyH.cons (o := { dst := some 85, op := Op.call { callee := Callee.builtin Builtin.append, args := #[Operand.tmp 83, Operand.tmp 84], argTypes := #[22, 22] }, type := _, pos := _, after := _, guard := some (17, true) }) rfl (fun K hK => ?_) AllReadyH.nil
          rw [if_pos (by rfl)]
          refine wp_app_nums (.tmp 83) (.tmp 84) rfl (B := Z.heap.size) (xs := [] ++ m) (ys := m) rfl HO8.out (by rw [← HN5.out]; rfl) (HM5.out.below HW.out) (by have := HML.out; simp; omega) HW.out.size ?_
          intro v9 w9 ho9 hb9 hz9
          replace HW := hid (HW.out.trans hb9)
          have HO9 := hid ((own_nums ho9).mono (S' := Any) fun _ _ _ => trivial)
          clear ho9 hb9
          refine hK.out _ _ (by exact HCZ.out _ HW.out) (fun hHeld => ?_)
          clear hK K
          try simp only [Act.put, List.setIfInBounds_toArray, List.set_cons_zero, List.set_cons_succ]
          refine wpAnyH_ready (rs := [24]) (by kernel_rfl) (by simp) ?_
          refine AllReadyH.cons (o := { dst := some 86, op := Op.call { callee := Callee.value (Operand.func 27), args := #[Operand.tmp 80, Operand.tmp 85], argTypes := #[45, 22] }, type := _, pos := _, after := _, guard := some (17, true) }) rfl (fun K hK => ?_) AllReadyH.nil
          rw [if_pos (by rfl)]
          go_simp
          refine (matches_any (d + 1) _ _ (starT t) (m ++ m) _ (HTZ.out.below HW.out) (by simpa using HO9.out) (by have := HML.out; simp; omega)).mono ?_
          rintro e w10 ⟨rfl, hb10⟩
          rw [HEZ.out.2]
          replace HW := hid (HW.out.trans (hb10.mono HW.out.size))
          clear hb10
          go_wp2_with fail
          refine hK.out _ _ (by exact HCZ.out _ HW.out) (fun hHeld => ?_)
          clear hK K
          try simp only [Act.put, List.setIfInBounds_toArray, List.set_cons_zero, List.set_cons_succ]
          refine wpAnyH_take (i := 25) (oi := { dst := some 87, op := Op.pick (Operand.tmp 79) (Operand.tmp 86) (Operand.const (Value.bool false)), type := _, pos := _, after := _, guard := some (13, false) }) (v := ?_) rfl (by kernel_rfl) (by kernel_rfl) (by kernel_rfl) (fun _ _ _ h => h) (Or.inl ⟨by rfl, ?_⟩) (by assumption) ?_
          rotate_left
          · intro w hSw; (try dsimp only at hSw); go_simp; try (first | with_reducible rfl | (refine (if_pos ?_).trans ?_ <;> first | omega | with_reducible rfl))
          try simp only [Act.put, List.setIfInBounds_toArray, List.set_cons_zero, List.set_cons_succ]
          refine wpAnyH_take (i := 26) (oi := { dst := some 88, op := Op.pick (Operand.tmp 75) (Operand.const (Value.bool true)) (Operand.tmp 87), type := _, pos := _, after := _, guard := some (10, true) }) (v := ?_) rfl (by kernel_rfl) (by kernel_rfl) (by kernel_rfl) (fun _ _ _ h => h) (Or.inl ⟨by rfl, ?_⟩) (by assumption) ?_
          rotate_left
          · intro w hSw; (try dsimp only at hSw); go_simp; try (first | with_reducible rfl | (refine (if_pos ?_).trans ?_ <;> first | omega | with_reducible rfl))
          try simp only [Act.put, List.setIfInBounds_toArray, List.set_cons_zero, List.set_cons_succ]
          refine wpAnyH_take (i := 27) (oi := { dst := some 89, op := Op.pick (Operand.tmp 72) (Operand.tmp 88) (Operand.const (Value.bool false)), type := _, pos := _, after := _, guard := none }) (v := ?_) rfl (by kernel_rfl) (by kernel_rfl) (by kernel_rfl) (fun _ _ _ h => h) (Or.inl ⟨by rfl, ?_⟩) (by assumption) ?_
          rotate_left
          · intro w hSw; (try dsimp only at hSw); go_simp; try (first | with_reducible rfl | (refine (if_pos ?_).trans ?_ <;> first | omega | with_reducible rfl))
          try simp only [Act.put, List.setIfInBounds_toArray, List.set_cons_zero, List.set_cons_succ]
          refine wpAnyH_take (i := 28) (oi := { dst := some 90, op := Op.move (Operand.tmp 89), type := _, pos := _, after := _, guard := none }) (v := ?_) rfl (by kernel_rfl) (by kernel_rfl) (by kernel_rfl) (fun _ _ _ h => h) (Or.inl ⟨by rfl, ?_⟩) (by assumption) ?_
          rotate_left
          · intro w hSw; (try dsimp only at hSw); go_simp; try (first | with_reducible rfl | (refine (if_pos ?_).trans ?_ <;> first | omega | with_reducible rfl))
          try simp only [Act.put, List.setIfInBounds_toArray, List.set_cons_zero, List.set_cons_succ]
          refine wpAnyH_take (i := 29) (oi := { dst := some 91, op := Op.load 45 (Operand.tmp 11), type := _, pos := _, after := _, guard := some (28, true) }) (v := ?_) rfl (by kernel_rfl) (by kernel_rfl) (by kernel_rfl) (fun _ _ _ h => h) (Or.inl ⟨by rfl, ?_⟩) (by assumption) ?_
          rotate_left
          · intro w hSw; (try dsimp only at hSw); go_simp; try (first | with_reducible rfl | (refine (if_pos ?_).trans ?_ <;> first | omega | with_reducible rfl))
          try simp only [Act.put, List.setIfInBounds_toArray, List.set_cons_zero, List.set_cons_succ]
          refine wpAnyH_ready (rs := [30]) (by kernel_rfl) (by simp) ?_
          refine AllReadyH.cons (o := { dst := some 92, op := Op.call { callee := Callee.value (Operand.func 27), args := #[Operand.tmp 91, Operand.const (Value.slice none 0 0)], argTypes := #[45, 22] }, type := _, pos := _, after := _, guard := some (28, true) }) rfl (fun K hK => ?_) AllReadyH.nil
          rw [if_pos (by rfl)]
          go_simp
          refine (matches_any (d + 1) _ _ (starT t) [] _ (HTZ.out.below HW.out) (nums_none _) (by simp)).mono ?_
          rintro e w11 ⟨rfl, hb11⟩
          rw [HE0.out]
          replace HW := hid (HW.out.trans (hb11.mono HW.out.size))
          clear hb11
          go_wp2_with fail
          refine hK.out _ _ (by exact HCZ.out _ HW.out) (fun hHeld => ?_)
          clear hK K
          try simp only [Act.put, List.setIfInBounds_toArray, List.set_cons_zero, List.set_cons_succ]
          refine wpAnyH_take (i := 31) (oi := { dst := some 93, op := Op.pick (Operand.tmp 90) (Operand.tmp 92) (Operand.const (Value.bool false)), type := _, pos := _, after := _, guard := none }) (v := ?_) rfl (by kernel_rfl) (by kernel_rfl) (by kernel_rfl) (fun _ _ _ h => h) (Or.inl ⟨by rfl, ?_⟩) (by assumption) ?_
          rotate_left
          · intro w hSw; (try dsimp only at hSw); go_simp; try (first | with_reducible rfl | (refine (if_pos ?_).trans ?_ <;> first | omega | with_reducible rfl))
          try simp only [Act.put, List.setIfInBounds_toArray, List.set_cons_zero, List.set_cons_succ]
          refine wpAnyH_take (i := 32) (oi := { dst := some 4, op := Op.assign (Operand.tmp 93), type := _, pos := _, after := _, guard := none }) (v := ?_) rfl (by kernel_rfl) (by kernel_rfl) (by kernel_rfl) (fun _ _ _ h => h) (Or.inl ⟨by rfl, ?_⟩) (by assumption) ?_
          rotate_left
          · intro w hSw; (try dsimp only at hSw); go_simp; try (first | with_reducible rfl | (refine (if_pos ?_).trans ?_ <;> first | omega | with_reducible rfl))
          try simp only [Act.put, List.setIfInBounds_toArray, List.set_cons_zero, List.set_cons_succ]
          refine wpAnyH_done (by kernel_rfl) ?_ _
          go_wp2_with fail
          go_ret
          exact ⟨ret_bool (by simp), HBF.out.trans (HW.out.mono HBF.out.size)⟩
        · clear hb1 hb2
          obtain ⟨p0, hp0⟩ : ∃ z, z = w8.heap.size := ⟨_, rfl⟩
          obtain ⟨U1, hU1⟩ : ∃ U, U = (w8.alloc (.cells #[.int .i64 k0, .int .i64 c0, .slice Ax n0 cx] 45)).alloc (.cells #[.int .i64 8, .int .i64 0, .slice (some ⟨p0, 0, none⟩) 1 1] 45) := ⟨_, rfl⟩
          have HU1B := hid (show Below Y.heap.size Y U1 by rw [hU1]; exact (HB8.out.alloc HB8.out.size _).alloc (by have := HB8.out.size; simp; omega) _)
          obtain ⟨⟨e0, e1, e2⟩, -⟩ := HCY.out U1 HU1B.out
          obtain ⟨Z, hZ⟩ : ∃ Z, Z = (U1.alloc (.cells #[.int .i64 k0, .int .i64 c0, .slice Ax n0 cx] 45)).alloc (.cells #[.int .i64 6, .int .i64 0, .slice (some ⟨p0 + 2, 0, none⟩) 1 1] 45) := ⟨_, rfl⟩
          have HS1 := hid (show U1.heap.size = p0 + 2 by rw [hU1, hp0]; simp)
          have HS2 := hid (show Z.heap.size = p0 + 4 by rw [hZ]; have := HS1.out; simp; omega)
          have HTY := hid (show IsTr Z Any (d + 1) (.agg #[.int .i64 8, .int .i64 0, .slice (some ⟨p0, 0, none⟩) 1 1]) (maybeT t) by
            have h1 := wrap_tr (t := t) 8 (HTY0.out.below HB8.out)
            have h2 := h1.below ((Below.refl _ _).alloc (Nat.le_refl _) (.cells #[.int .i64 8, .int .i64 0, .slice (some ⟨p0, 0, none⟩) 1 1] 45))
            rw [← hU1, ← hp0] at h2
            rw [hZ]
            exact h2.below (((Below.refl _ _).alloc (Nat.le_refl _) _).alloc (by simp) _))
          have HTZ := hid (show IsTr Z Any (d + 1) (.agg #[.int .i64 6, .int .i64 0, .slice (some ⟨p0 + 2, 0, none⟩) 1 1]) (starT t) by
            have h1 := wrap_tr (t := t) 6 (HTY0.out.below HU1B.out)
            rw [HS1.out] at h1
            rw [hZ]
            exact h1.below ((Below.refl _ _).alloc (Nat.le_refl _) _))
          have HBZ := hid (show Below Y.heap.size Y Z by rw [hZ]; exact (HU1B.out.alloc HU1B.out.size _).alloc (by have := HU1B.out.size; simp; omega) _)
          have HYR := hid (show Z.heap[p0 + 1]? = some (.cells #[.int .i64 8, .int .i64 0, .slice (some ⟨p0, 0, none⟩) 1 1] 45 (0, 0)) by
            have h1 : U1.heap[p0 + 1]? = some (.cells #[.int .i64 8, .int .i64 0, .slice (some ⟨p0, 0, none⟩) 1 1] 45 (0, 0)) := by
              have h2 := heap_alloc_new (w8.alloc (.cells #[.int .i64 k0, .int .i64 c0, .slice Ax n0 cx] 45)) (.cells #[.int .i64 8, .int .i64 0, .slice (some ⟨p0, 0, none⟩) 1 1] 45)
              rw [← hU1, show (w8.alloc (.cells #[.int .i64 k0, .int .i64 c0, .slice Ax n0 cx] 45)).heap.size = p0 + 1 by rw [hp0]; simp] at h2
              exact h2
            rw [hZ]
            exact (((((Below.refl U1.heap.size U1).alloc (Nat.le_refl _) _).alloc (by simp) _).block (p0 + 1) (by rw [HS1.out]; omega))).trans h1)
          have HZR := hid (show Z.heap[p0 + 3]? = some (.cells #[.int .i64 6, .int .i64 0, .slice (some ⟨p0 + 2, 0, none⟩) 1 1] 45 (0, 0)) by
            have h2 := heap_alloc_new (U1.alloc (.cells #[.int .i64 k0, .int .i64 c0, .slice Ax n0 cx] 45)) (.cells #[.int .i64 6, .int .i64 0, .slice (some ⟨p0 + 2, 0, none⟩) 1 1] 45)
            rw [← hZ, show (U1.alloc (.cells #[.int .i64 k0, .int .i64 c0, .slice Ax n0 cx] 45)).heap.size = p0 + 3 by simp [HS1.out]] at h2
            exact h2)
          have HCZ := hid (show ∀ U : World, Below Z.heap.size Z U → U.cell? ⟨p0 + 1, 0, none⟩ = some (.int .i64 8) ∧ U.cell? ⟨p0 + 1, 1, none⟩ = some (.int .i64 0) ∧ U.cell? ⟨p0 + 1, 2, none⟩ = some (.slice (some ⟨p0, 0, none⟩) 1 1) ∧ U.cell? ⟨p0 + 3, 0, none⟩ = some (.int .i64 6) ∧ U.cell? ⟨p0 + 3, 1, none⟩ = some (.int .i64 0) ∧ U.cell? ⟨p0 + 3, 2, none⟩ = some (.slice (some ⟨p0 + 2, 0, none⟩) 1 1) from fun U hU => by
            obtain ⟨f0, f1, f2, -⟩ := slot3 ((hU.block (p0 + 1) (by rw [HS2.out]; omega)).trans HYR.out)
            obtain ⟨f3, f4, f5, -⟩ := slot3 ((hU.block (p0 + 3) (by rw [HS2.out]; omega)).trans HZR.out)
            exact ⟨f0, f1, f2, f3, f4, f5⟩)
          have HMZ := hid (HMY.out.below HBZ.out)
          have HM5 := hid (show IsNums .i64 Z Any (.slice A5 m.length c5) m by rw [← HN5.out]; exact HMZ.out)
          have HW := hid (Below.refl Z.heap.size Z)
          have HBF := hid (HB.out.trans ((HBY.out.trans (HBZ.out.mono HBY.out.size)).mono HB.out.size))
          have HU1E := hid hU1
          have HZE := hid hZ
          have HP0 := hid hp0
          rw [hU1, hp0] at e0 e1 e2
          clear hU1 hZ hp0 z0 z1 z2
          go_wp2_with fail
          rw [← HP0.out, show p0 + 1 + 1 + 1 = p0 + 3 from rfl, show p0 + 1 + 1 = p0 + 2 from rfl, ← HU1E.out, ← HZE.out]
          clear e0 e1 e2 a0 a1 a2
          have HEY2 := hid (show matchesT (maybeT t) m = true by rw [HEY.out]; rfl)
          have HEZ := hid (HEZ.out (by first | rfl | trivial))
          refine wp_region_held_drew (S := (fun Y => Y.cell? ⟨p0 + 1, 0, none⟩ = some (.int .i64 8) ∧ Y.cell? ⟨p0 + 1, 1, none⟩ = some (.int .i64 0) ∧ Y.cell? ⟨p0 + 1, 2, none⟩ = some (.slice (some ⟨p0, 0, none⟩) 1 1) ∧ Y.cell? ⟨p0 + 3, 0, none⟩ = some (.int .i64 6) ∧ Y.cell? ⟨p0 + 3, 1, none⟩ = some (.int .i64 0) ∧ Y.cell? ⟨p0 + 3, 2, none⟩ = some (.slice (some ⟨p0 + 2, 0, none⟩) 1 1))) (by kernel_rfl) (by exact HCZ.out _ HW.out.drew) (fun hHeld => ?_)
          refine wpAnyH_take (i := 0) (oi := { dst := some 62, op := Op.load 45 (Operand.tmp 10), type := _, pos := _, after := _, guard := none }) (v := ?_) rfl (by kernel_rfl) (by kernel_rfl) (by kernel_rfl) (fun _ _ _ h => h) (Or.inl ⟨by rfl, ?_⟩) (by assumption) ?_
          rotate_left
          · intro w hSw; (try dsimp only at hSw); go_simp; try (first | with_reducible rfl | (refine (if_pos ?_).trans ?_ <;> first | omega | with_reducible rfl))
          try simp only [Act.put, List.setIfInBounds_toArray, List.set_cons_zero, List.set_cons_succ]
          refine wpAnyH_take (i := 1) (oi := { dst := some 63, op := Op.move (Operand.tmp 6), type := _, pos := _, after := _, guard := none }) (v := ?_) rfl (by kernel_rfl) (by kernel_rfl) (by kernel_rfl) (fun _ _ _ h => h) (Or.inl ⟨by rfl, ?_⟩) (by assumption) ?_
          rotate_left
          · intro w hSw; (try dsimp only at hSw); go_simp; try (first | with_reducible rfl | (refine (if_pos ?_).trans ?_ <;> first | omega | with_reducible rfl))
          try simp only [Act.put, List.setIfInBounds_toArray, List.set_cons_zero, List.set_cons_succ]
          refine wpAnyH_take (i := 3) (oi := { dst := some 65, op := Op.move (Operand.tmp 9), type := _, pos := _, after := _, guard := none }) (v := ?_) rfl (by kernel_rfl) (by kernel_rfl) (by kernel_rfl) (fun _ _ _ h => h) (Or.inl ⟨by rfl, ?_⟩) (by assumption) ?_
          rotate_left
          · intro w hSw; (try dsimp only at hSw); go_simp; try (first | with_reducible rfl | (refine (if_pos ?_).trans ?_ <;> first | omega | with_reducible rfl))
          try simp only [Act.put, List.setIfInBounds_toArray, List.set_cons_zero, List.set_cons_succ]
          replace HW := hid HW.out.drew
          refine wpAnyH_ready (rs := [2]) (by kernel_rfl) (by simp) ?_
          refine AllReadyH.cons (o := { dst := some 64, op := Op.call { callee := Callee.value (Operand.func 27), args := #[Operand.tmp 62, Operand.tmp 63], argTypes := #[45, 22] }, type := _, pos := _, after := _, guard := none }) rfl (fun K hK => ?_) AllReadyH.nil
          rw [if_pos (by rfl)]
          go_simp
          refine (matches_any (d + 1) _ _ (maybeT t) m _ (HTY.out.below HW.out) (HMZ.out.below HW.out) (by have := HML.out; omega)).mono ?_
          rintro e w6 ⟨rfl, hb6⟩
          rw [HEY2.out]
          replace HW := hid (HW.out.trans (hb6.mono HW.out.size))
          clear hb6
          go_wp2_with fail
          refine hK.out _ _ (by exact HCZ.out _ HW.out) (fun hHeld => ?_)
          clear hK K
          try simp only [Act.put, List.setIfInBounds_toArray, List.set_cons_zero, List.set_cons_succ]
          refine wpAnyH_take (i := 4) (oi := { dst := some 66, op := Op.move (Operand.tmp 65), type := _, pos := _, after := _, guard := none }) (v := ?_) rfl (by kernel_rfl) (by kernel_rfl) (by kernel_rfl) (fun _ _ _ h => h) (Or.inl ⟨by rfl, ?_⟩) (by assumption) ?_
          rotate_left
          · intro w hSw; (try dsimp only at hSw); go_simp; try (first | with_reducible rfl | (refine (if_pos ?_).trans ?_ <;> first | omega | with_reducible rfl))
          try simp only [Act.put, List.setIfInBounds_toArray, List.set_cons_zero, List.set_cons_succ]
          refine wpAnyH_take (i := 5) (oi := { dst := some 67, op := Op.move (Operand.tmp 6), type := _, pos := _, after := _, guard := some (4, false) }) (v := undef) rfl (by kernel_rfl) (by kernel_rfl) (by kernel_rfl) (fun _ _ _ h => h) (Or.inr ⟨by rfl, rfl⟩) (by assumption) ?_
          try simp only [Act.put, List.setIfInBounds_toArray, List.set_cons_zero, List.set_cons_succ]
          refine wpAnyH_take (i := 6) (oi := { dst := some 68, op := Op.call { callee := Callee.builtin Builtin.len, args := #[Operand.tmp 67], argTypes := #[22] }, type := _, pos := _, after := _, guard := some (4, false) }) (v := undef) rfl (by kernel_rfl) (by kernel_rfl) (by kernel_rfl) (fun _ _ _ h => h) (Or.inr ⟨by rfl, rfl⟩) (by assumption) ?_
          try simp only [Act.put, List.setIfInBounds_toArray, List.set_cons_zero, List.set_cons_succ]
          refine wpAnyH_take (i := 7) (oi := { dst := some 69, op := Op.binOp BinOp.eql 3 (Operand.tmp 68) (Operand.const (Value.int IntKind.i64 0)) 3, type := _, pos := _, after := _, guard := some (4, false) }) (v := undef) rfl (by kernel_rfl) (by kernel_rfl) (by kernel_rfl) (fun _ _ _ h => h) (Or.inr ⟨by rfl, rfl⟩) (by assumption) ?_
          try simp only [Act.put, List.setIfInBounds_toArray, List.set_cons_zero, List.set_cons_succ]
          refine wpAnyH_take (i := 8) (oi := { dst := some 70, op := Op.pick (Operand.tmp 66) (Operand.const (Value.bool true)) (Operand.tmp 69), type := _, pos := _, after := _, guard := none }) (v := ?_) rfl (by kernel_rfl) (by kernel_rfl) (by kernel_rfl) (fun _ _ _ h => h) (Or.inl ⟨by rfl, ?_⟩) (by assumption) ?_
          rotate_left
          · intro w hSw; (try dsimp only at hSw); go_simp; try (first | with_reducible rfl | (refine (if_pos ?_).trans ?_ <;> first | omega | with_reducible rfl))
          try simp only [Act.put, List.setIfInBounds_toArray, List.set_cons_zero, List.set_cons_succ]
          refine wpAnyH_take (i := 9) (oi := { dst := some 71, op := Op.binOp BinOp.eql 4 (Operand.tmp 64) (Operand.tmp 70) 4, type := _, pos := _, after := _, guard := none }) (v := ?_) rfl (by kernel_rfl) (by kernel_rfl) (by kernel_rfl) (fun _ _ _ h => h) (Or.inl ⟨by rfl, ?_⟩) (by assumption) ?_
          rotate_left
          · intro w hSw; (try dsimp only at hSw); go_simp; try (first | with_reducible rfl | (refine (if_pos ?_).trans ?_ <;> first | omega | with_reducible rfl))
          try simp only [Act.put, List.setIfInBounds_toArray, List.set_cons_zero, List.set_cons_succ]
          refine wpAnyH_take (i := 10) (oi := { dst := some 72, op := Op.move (Operand.tmp 71), type := _, pos := _, after := _, guard := none }) (v := ?_) rfl (by kernel_rfl) (by kernel_rfl) (by kernel_rfl) (fun _ _ _ h => h) (Or.inl ⟨by rfl, ?_⟩) (by assumption) ?_
          rotate_left
          · intro w hSw; (try dsimp only at hSw); go_simp; try (first | with_reducible rfl | (refine (if_pos ?_).trans ?_ <;> first | omega | with_reducible rfl))
          try simp only [Act.put, List.setIfInBounds_toArray, List.set_cons_zero, List.set_cons_succ]
          refine wpAnyH_take (i := 11) (oi := { dst := some 73, op := Op.move (Operand.tmp 9), type := _, pos := _, after := _, guard := some (10, true) }) (v := ?_) rfl (by kernel_rfl) (by kernel_rfl) (by kernel_rfl) (fun _ _ _ h => h) (Or.inl ⟨by rfl, ?_⟩) (by assumption) ?_
          rotate_left
          · intro w hSw; (try dsimp only at hSw); go_simp; try (first | with_reducible rfl | (refine (if_pos ?_).trans ?_ <;> first | omega | with_reducible rfl))
          try simp only [Act.put, List.setIfInBounds_toArray, List.set_cons_zero, List.set_cons_succ]
          refine wpAnyH_take (i := 12) (oi := { dst := some 74, op := Op.unOp UnOp.not 4 (Operand.tmp 73), type := _, pos := _, after := _, guard := some (10, true) }) (v := ?_) rfl (by kernel_rfl) (by kernel_rfl) (by kernel_rfl) (fun _ _ _ h => h) (Or.inl ⟨by rfl, ?_⟩) (by assumption) ?_
          rotate_left
          · intro w hSw; (try dsimp only at hSw); go_simp; try (first | with_reducible rfl | (refine (if_pos ?_).trans ?_ <;> first | omega | with_reducible rfl))
          try simp only [Act.put, List.setIfInBounds_toArray, List.set_cons_zero, List.set_cons_succ]
          refine wpAnyH_take (i := 13) (oi := { dst := some 75, op := Op.move (Operand.tmp 74), type := _, pos := _, after := _, guard := some (10, true) }) (v := ?_) rfl (by kernel_rfl) (by kernel_rfl) (by kernel_rfl) (fun _ _ _ h => h) (Or.inl ⟨by rfl, ?_⟩) (by assumption) ?_
          rotate_left
          · intro w hSw; (try dsimp only at hSw); go_simp; try (first | with_reducible rfl | (refine (if_pos ?_).trans ?_ <;> first | omega | with_reducible rfl))
          try simp only [Act.put, List.setIfInBounds_toArray, List.set_cons_zero, List.set_cons_succ]
          refine wpAnyH_take (i := 14) (oi := { dst := some 76, op := Op.load 45 (Operand.tmp 11), type := _, pos := _, after := _, guard := some (13, false) }) (v := ?_) rfl (by kernel_rfl) (by kernel_rfl) (by kernel_rfl) (fun _ _ _ h => h) (Or.inl ⟨by rfl, ?_⟩) (by assumption) ?_
          rotate_left
          · intro w hSw; (try dsimp only at hSw); go_simp; try (first | with_reducible rfl | (refine (if_pos ?_).trans ?_ <;> first | omega | with_reducible rfl))
          try simp only [Act.put, List.setIfInBounds_toArray, List.set_cons_zero, List.set_cons_succ]
          refine wpAnyH_take (i := 15) (oi := { dst := some 77, op := Op.move (Operand.tmp 6), type := _, pos := _, after := _, guard := some (13, false) }) (v := ?_) rfl (by kernel_rfl) (by kernel_rfl) (by kernel_rfl) (fun _ _ _ h => h) (Or.inl ⟨by rfl, ?_⟩) (by assumption) ?_
          rotate_left
          · intro w hSw; (try dsimp only at hSw); go_simp; try (first | with_reducible rfl | (refine (if_pos ?_).trans ?_ <;> first | omega | with_reducible rfl))
          try simp only [Act.put, List.setIfInBounds_toArray, List.set_cons_zero, List.set_cons_succ]
          refine wpAnyH_ready (rs := [16]) (by kernel_rfl) (by simp) ?_
          refine AllReadyH.cons (o := { dst := some 78, op := Op.call { callee := Callee.value (Operand.func 27), args := #[Operand.tmp 76, Operand.tmp 77], argTypes := #[45, 22] }, type := _, pos := _, after := _, guard := some (13, false) }) rfl (fun K hK => ?_) AllReadyH.nil
          rw [if_pos (by rfl)]
          go_simp
          refine (matches_any (d + 1) _ _ (starT t) m _ (HTZ.out.below HW.out) (HMZ.out.below HW.out) (by have := HML.out; omega)).mono ?_
          rintro e w7 ⟨rfl, hb7⟩
          rw [HEZ.out.1]
          replace HW := hid (HW.out.trans (hb7.mono HW.out.size))
          clear hb7
          go_wp2_with fail
          refine hK.out _ _ (by exact HCZ.out _ HW.out) (fun hHeld => ?_)
          clear hK K
          try simp only [Act.put, List.setIfInBounds_toArray, List.set_cons_zero, List.set_cons_succ]
          refine wpAnyH_take (i := 17) (oi := { dst := some 79, op := Op.move (Operand.tmp 78), type := _, pos := _, after := _, guard := some (13, false) }) (v := ?_) rfl (by kernel_rfl) (by kernel_rfl) (by kernel_rfl) (fun _ _ _ h => h) (Or.inl ⟨by rfl, ?_⟩) (by assumption) ?_
          rotate_left
          · intro w hSw; (try dsimp only at hSw); go_simp; try (first | with_reducible rfl | (refine (if_pos ?_).trans ?_ <;> first | omega | with_reducible rfl))
          try simp only [Act.put, List.setIfInBounds_toArray, List.set_cons_zero, List.set_cons_succ]
          refine wpAnyH_take (i := 18) (oi := { dst := some 80, op := Op.load 45 (Operand.tmp 11), type := _, pos := _, after := _, guard := some (17, true) }) (v := ?_) rfl (by kernel_rfl) (by kernel_rfl) (by kernel_rfl) (fun _ _ _ h => h) (Or.inl ⟨by rfl, ?_⟩) (by assumption) ?_
          rotate_left
          · intro w hSw; (try dsimp only at hSw); go_simp; try (first | with_reducible rfl | (refine (if_pos ?_).trans ?_ <;> first | omega | with_reducible rfl))
          try simp only [Act.put, List.setIfInBounds_toArray, List.set_cons_zero, List.set_cons_succ]
          refine wpAnyH_take (i := 20) (oi := { dst := some 82, op := Op.move (Operand.tmp 6), type := _, pos := _, after := _, guard := some (17, true) }) (v := ?_) rfl (by kernel_rfl) (by kernel_rfl) (by kernel_rfl) (fun _ _ _ h => h) (Or.inl ⟨by rfl, ?_⟩) (by assumption) ?_
          rotate_left
          · intro w hSw; (try dsimp only at hSw); go_simp; try (first | with_reducible rfl | (refine (if_pos ?_).trans ?_ <;> first | omega | with_reducible rfl))
          try simp only [Act.put, List.setIfInBounds_toArray, List.set_cons_zero, List.set_cons_succ]
          refine wpAnyH_take (i := 22) (oi := { dst := some 84, op := Op.move (Operand.tmp 6), type := _, pos := _, after := _, guard := some (17, true) }) (v := ?_) rfl (by kernel_rfl) (by kernel_rfl) (by kernel_rfl) (fun _ _ _ h => h) (Or.inl ⟨by rfl, ?_⟩) (by assumption) ?_
          rotate_left
          · intro w hSw; (try dsimp only at hSw); go_simp; try (first | with_reducible rfl | (refine (if_pos ?_).trans ?_ <;> first | omega | with_reducible rfl))
          try simp only [Act.put, List.setIfInBounds_toArray, List.set_cons_zero, List.set_cons_succ]
          refine wpAnyH_ready (rs := [19]) (by kernel_rfl) (by simp) ?_
          refine AllReadyH.cons (o := { dst := some 81, op := Op.buildSlice 22 0 #[], type := _, pos := _, after := _, guard := some (17, true) }) rfl (fun K hK => ?_) AllReadyH.nil
          rw [if_pos (by rfl)]
          go_simp
          have HE8 := hid (empty_own _ trivial HW.out)
          replace HW := hid (HW.out.alloc HW.out.size (.cells #[] 3))
          refine hK.out _ _ (by exact HCZ.out _ HW.out) (fun hHeld => ?_)
          clear hK K
          try simp only [Act.put, List.setIfInBounds_toArray, List.set_cons_zero, List.set_cons_succ]
          refine wpAnyH_ready (rs := [21]) (by kernel_rfl) (by simp) ?_
          refine AllReadyH.cons (o := { dst := some 83, op := Op.call { callee := Callee.builtin Builtin.append, args := #[Operand.tmp 81, Operand.tmp 82], argTypes := #[22, 22] }, type := _, pos := _, after := _, guard := some (17, true) }) rfl (fun K hK => ?_) AllReadyH.nil
          rw [if_pos (by rfl)]
          refine wp_app_nums (.tmp 81) (.tmp 82) rfl (B := Z.heap.size) (xs := []) (ys := m) rfl HE8.out (by rw [← HN5.out]; rfl) (HM5.out.below HW.out) (by have := HML.out; simp; omega) HW.out.size ?_
          intro v8 w8 ho8 hb8 hz8
          replace HW := hid (HW.out.trans hb8)
          have HO8 := hid ho8
          clear ho8 hb8
          refine hK.out _ _ (by exact HCZ.out _ HW.out) (fun hHeld => ?_)
          clear hK K
          try simp only [Act.put, List.setIfInBounds_toArray, List.set_cons_zero, List.set_cons_succ]
          refine wpAnyH_ready (rs := [23]) (by kernel_rfl) (by simp) ?_
          refine AllReadyH.cons (o := { dst := some 85, op := Op.call { callee := Callee.builtin Builtin.append, args := #[Operand.tmp 83, Operand.tmp 84], argTypes := #[22, 22] }, type := _, pos := _, after := _, guard := some (17, true) }) rfl (fun K hK => ?_) AllReadyH.nil
          rw [if_pos (by rfl)]
          refine wp_app_nums (.tmp 83) (.tmp 84) rfl (B := Z.heap.size) (xs := [] ++ m) (ys := m) rfl HO8.out (by rw [← HN5.out]; rfl) (HM5.out.below HW.out) (by have := HML.out; simp; omega) HW.out.size ?_
          intro v9 w9 ho9 hb9 hz9
          replace HW := hid (HW.out.trans hb9)
          have HO9 := hid ((own_nums ho9).mono (S' := Any) fun _ _ _ => trivial)
          clear ho9 hb9
          refine hK.out _ _ (by exact HCZ.out _ HW.out) (fun hHeld => ?_)
          clear hK K
          try simp only [Act.put, List.setIfInBounds_toArray, List.set_cons_zero, List.set_cons_succ]
          refine wpAnyH_ready (rs := [24]) (by kernel_rfl) (by simp) ?_
          refine AllReadyH.cons (o := { dst := some 86, op := Op.call { callee := Callee.value (Operand.func 27), args := #[Operand.tmp 80, Operand.tmp 85], argTypes := #[45, 22] }, type := _, pos := _, after := _, guard := some (17, true) }) rfl (fun K hK => ?_) AllReadyH.nil
          rw [if_pos (by rfl)]
          go_simp
          refine (matches_any (d + 1) _ _ (starT t) (m ++ m) _ (HTZ.out.below HW.out) (by simpa using HO9.out) (by have := HML.out; simp; omega)).mono ?_
          rintro e w10 ⟨rfl, hb10⟩
          rw [HEZ.out.2]
          replace HW := hid (HW.out.trans (hb10.mono HW.out.size))
          clear hb10
          go_wp2_with fail
          refine hK.out _ _ (by exact HCZ.out _ HW.out) (fun hHeld => ?_)
          clear hK K
          try simp only [Act.put, List.setIfInBounds_toArray, List.set_cons_zero, List.set_cons_succ]
          refine wpAnyH_take (i := 25) (oi := { dst := some 87, op := Op.pick (Operand.tmp 79) (Operand.tmp 86) (Operand.const (Value.bool false)), type := _, pos := _, after := _, guard := some (13, false) }) (v := ?_) rfl (by kernel_rfl) (by kernel_rfl) (by kernel_rfl) (fun _ _ _ h => h) (Or.inl ⟨by rfl, ?_⟩) (by assumption) ?_
          rotate_left
          · intro w hSw; (try dsimp only at hSw); go_simp; try (first | with_reducible rfl | (refine (if_pos ?_).trans ?_ <;> first | omega | with_reducible rfl))
          try simp only [Act.put, List.setIfInBounds_toArray, List.set_cons_zero, List.set_cons_succ]
          refine wpAnyH_take (i := 26) (oi := { dst := some 88, op := Op.pick (Operand.tmp 75) (Operand.const (Value.bool true)) (Operand.tmp 87), type := _, pos := _, after := _, guard := some (10, true) }) (v := ?_) rfl (by kernel_rfl) (by kernel_rfl) (by kernel_rfl) (fun _ _ _ h => h) (Or.inl ⟨by rfl, ?_⟩) (by assumption) ?_
          rotate_left
          · intro w hSw; (try dsimp only at hSw); go_simp; try (first | with_reducible rfl | (refine (if_pos ?_).trans ?_ <;> first | omega | with_reducible rfl))
          try simp only [Act.put, List.setIfInBounds_toArray, List.set_cons_zero, List.set_cons_succ]
          refine wpAnyH_take (i := 27) (oi := { dst := some 89, op := Op.pick (Operand.tmp 72) (Operand.tmp 88) (Operand.const (Value.bool false)), type := _, pos := _, after := _, guard := none }) (v := ?_) rfl (by kernel_rfl) (by kernel_rfl) (by kernel_rfl) (fun _ _ _ h => h) (Or.inl ⟨by rfl, ?_⟩) (by assumption) ?_
          rotate_left
          · intro w hSw; (try dsimp only at hSw); go_simp; try (first | with_reducible rfl | (refine (if_pos ?_).trans ?_ <;> first | omega | with_reducible rfl))
          try simp only [Act.put, List.setIfInBounds_toArray, List.set_cons_zero, List.set_cons_succ]
          refine wpAnyH_take (i := 28) (oi := { dst := some 90, op := Op.move (Operand.tmp 89), type := _, pos := _, after := _, guard := none }) (v := ?_) rfl (by kernel_rfl) (by kernel_rfl) (by kernel_rfl) (fun _ _ _ h => h) (Or.inl ⟨by rfl, ?_⟩) (by assumption) ?_
          rotate_left
          · intro w hSw; (try dsimp only at hSw); go_simp; try (first | with_reducible rfl | (refine (if_pos ?_).trans ?_ <;> first | omega | with_reducible rfl))
          try simp only [Act.put, List.setIfInBounds_toArray, List.set_cons_zero, List.set_cons_succ]
          refine wpAnyH_take (i := 29) (oi := { dst := some 91, op := Op.load 45 (Operand.tmp 11), type := _, pos := _, after := _, guard := some (28, true) }) (v := ?_) rfl (by kernel_rfl) (by kernel_rfl) (by kernel_rfl) (fun _ _ _ h => h) (Or.inl ⟨by rfl, ?_⟩) (by assumption) ?_
          rotate_left
          · intro w hSw; (try dsimp only at hSw); go_simp; try (first | with_reducible rfl | (refine (if_pos ?_).trans ?_ <;> first | omega | with_reducible rfl))
          try simp only [Act.put, List.setIfInBounds_toArray, List.set_cons_zero, List.set_cons_succ]
          refine wpAnyH_ready (rs := [30]) (by kernel_rfl) (by simp) ?_
          refine AllReadyH.cons (o := { dst := some 92, op := Op.call { callee := Callee.value (Operand.func 27), args := #[Operand.tmp 91, Operand.const (Value.slice none 0 0)], argTypes := #[45, 22] }, type := _, pos := _, after := _, guard := some (28, true) }) rfl (fun K hK => ?_) AllReadyH.nil
          rw [if_pos (by rfl)]
          go_simp
          refine (matches_any (d + 1) _ _ (starT t) [] _ (HTZ.out.below HW.out) (nums_none _) (by simp)).mono ?_
          rintro e w11 ⟨rfl, hb11⟩
          rw [HE0.out]
          replace HW := hid (HW.out.trans (hb11.mono HW.out.size))
          clear hb11
          go_wp2_with fail
          refine hK.out _ _ (by exact HCZ.out _ HW.out) (fun hHeld => ?_)
          clear hK K
          try simp only [Act.put, List.setIfInBounds_toArray, List.set_cons_zero, List.set_cons_succ]
          refine wpAnyH_take (i := 31) (oi := { dst := some 93, op := Op.pick (Operand.tmp 90) (Operand.tmp 92) (Operand.const (Value.bool false)), type := _, pos := _, after := _, guard := none }) (v := ?_) rfl (by kernel_rfl) (by kernel_rfl) (by kernel_rfl) (fun _ _ _ h => h) (Or.inl ⟨by rfl, ?_⟩) (by assumption) ?_
          rotate_left
          · intro w hSw; (try dsimp only at hSw); go_simp; try (first | with_reducible rfl | (refine (if_pos ?_).trans ?_ <;> first | omega | with_reducible rfl))
          try simp only [Act.put, List.setIfInBounds_toArray, List.set_cons_zero, List.set_cons_succ]
          refine wpAnyH_take (i := 32) (oi := { dst := some 4, op := Op.assign (Operand.tmp 93), type := _, pos := _, after := _, guard := none }) (v := ?_) rfl (by kernel_rfl) (by kernel_rfl) (by kernel_rfl) (fun _ _ _ h => h) (Or.inl ⟨by rfl, ?_⟩) (by assumption) ?_
          rotate_left
          · intro w hSw; (try dsimp only at hSw); go_simp; try (first | with_reducible rfl | (refine (if_pos ?_).trans ?_ <;> first | omega | with_reducible rfl))
          try simp only [Act.put, List.setIfInBounds_toArray, List.set_cons_zero, List.set_cons_succ]
          refine wpAnyH_done (by kernel_rfl) ?_ _
          go_wp2_with fail
          go_ret
          exact ⟨ret_bool (by simp), HBF.out.trans (HW.out.mono HBF.out.size)⟩
end Go.Proofs.Ytjcdcmeclnihbaa
