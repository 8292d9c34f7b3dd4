/- The least automaton, as the reference makes it: the walk. Conditions: a right automaton. -/
import Derived.Test.YtmdkmobcglnmgaaLj
namespace Go.Proofs.Ytmdkmobcglnmgaa
open Go.RowKit
set_option linter.unusedSimpArgs false

theorem fnd_eq {al : Int → Int → Bool} {f : List Int} {z : Int} {k : Nat} (hk : k ≤ f.length) (h1 : ∀ j, j < k → al (nth f j) z = false) (h2 : k < f.length → al (nth f k) z = true) : fnd al f z = k := by
  have hl := fnd_le al f z
  rcases Nat.lt_trichotomy (fnd al f z) k with h | h | h
  · have := fnd_at (al := al) (f := f) (z := z) (by omega)
    rw [h1 _ h] at this; cases this
  · exact h
  · have hlt : k < f.length := by omega
    have h3 := List.not_of_lt_findIdx (p := fun a => al a z) (xs := f) (i := k) h
    have h4 := h2 hlt
    rw [show nth f k = f[k] by simp [nth, List.getElem?_eq_getElem hlt]] at h4
    simp [h4] at h3
/-- Alike, by the matrix. -/
def alM (M : Nat → Nat → Int) (a z : Int) : Bool := decide (M a.toNat z.toNat < 0)
theorem alM_is {d : D} {M : Nat → Nat → Int} (hr : RT d.next d.next.length) (hn : 1 ≤ d.next.length) (h : ∀ p q, p < d.next.length → q < d.next.length → APart d.next d.tells d.next.length p q (M p q)) : AlIs (alM M) d := fun p q hp hq => by
  simp only [alM, decide_eq_true_eq]
  exact (h p q hp hq).alk hr hn hp hq
set_option maxRecDepth 100000 in
set_option maxHeartbeats 4000000 in
theorem refLeast_any (w : World) (nb no nc tb to' tc n : Nat) (d : D) (hn : n = d.next.length) (h : TabX w nb no nc tb to' tc n d.next d.tells) :
    Calls Try.prog 34 #[.agg #[.slice (some ⟨nb, no, none⟩) n nc, .slice (some ⟨tb, to', none⟩) n tc]] w (LeastAns w d) := by
  have HX := hid h
  have HN := hid hn
  have hn0 := h.n1.1
  have hn1000 := h.n1.2
  obtain ⟨D0, hD0⟩ : ∃ D0, D0 = w.heap.size := ⟨_, rfl⟩
  have HD0 := hid hD0
  obtain ⟨nv, hnv⟩ : ∃ nv, nv = Value.slice (some ⟨nb, no, none⟩) n nc := ⟨_, rfl⟩
  obtain ⟨tv, htv⟩ : ∃ tv, tv = Value.slice (some ⟨tb, to', none⟩) n tc := ⟨_, rfl⟩
  have HNV := hid hnv
  have HTV := hid htv
  rw [← hnv, ← htv]
  obtain ⟨w2, hw2⟩ : ∃ w2, w2 = (w.alloc (.cells #[nv, tv] 29)).alloc (.cells #[.slice none 0 0, .slice none 0 0] 29) := ⟨_, rfl⟩
  have HSZ := hid (show w2.heap.size = D0 + 2 by rw [hw2, hD0]; simp)
  have HB2 := hid (show Below w.heap.size w w2 by rw [hw2]; exact ((Below.refl _ _).alloc (Nat.le_refl _) _).alloc (by simp) _)
  have HP0 := hid (show w2.heap[D0]? = some (.cells #[nv, tv] 29 (0, 0)) by rw [hw2, hD0, heap_alloc_old _ _ (by simp)]; exact heap_alloc_new _ _)
  have HP1 := hid (show w2.heap[D0 + 1]? = some (.cells #[.slice none 0 0, .slice none 0 0] 29 (0, 0)) by rw [hw2, hD0]; exact heap_alloc2_new _ _ _)
  obtain ⟨d0, d1, _⟩ := slot2 HP0.out
  rw [hD0, hw2] at d0 d1
  clear h hn hnv htv
  go_enter Try.func34, Try.ntmps34
  go_wp2_with (first
    | (go_at_call 35
       rw [← hw2, HNV.out, HTV.out]
       refine (refApart_any _ nb no nc tb to' tc n d.next d.tells (HX.out.below HB2.out)).mono ?_
       rintro e w4 ⟨xb, rb, M, rfl, hx4, hrb4, hm4, ha4, hb4⟩
       have HB4 := hid (HB2.out.trans (hb4.mono HB2.out.size))
       have HR0 := hid ((hb4.block D0 (by have := HSZ.out; omega)).trans HP0.out)
       have HR1 := hid ((hb4.block (D0 + 1) (by have := HSZ.out; omega)).trans HP1.out)
       have HXB := hid (And.intro hx4 hrb4)
       have HM4 := hid hm4
       have HA4 := hid ha4
       have HS4 := hid hb4.size
       clear hb4 hm4 ha4 hx4 hrb4)
    | fail)
  obtain ⟨X, hX⟩ : ∃ X, X = (w4.alloc (.cells #[.int .i64 0] 3)).alloc (.cells #[.slice none 0 0, .slice none 0 0] 29) := ⟨_, rfl⟩
  obtain ⟨B, hB⟩ : ∃ B, B = w4.heap.size := ⟨_, rfl⟩
  rw [← hX, ← hB, ← hD0]
  have HDB := hid (show D0 + 2 ≤ B by rw [hB]; have := HS4.out; have := HSZ.out; omega)
  have HBX0 := hid (show Below B w4 X by rw [hX, hB]; exact ((Below.refl _ _).alloc (Nat.le_refl _) _).alloc (by simp) _)
  have HLE0 := hid (show LeN B (B + 1) 29 w4 X (.slice (some ⟨B, 0, none⟩) 1 1, [0]) (.slice none 0 0, []) [] (.slice none 0 0) (.slice none 0 0) [] from by
    have hf0 : X.heap[B]? = some (.cells #[.int .i64 0] 3 (0, 0)) := by rw [hX, hB, heap_alloc_old _ _ (by simp)]; exact heap_alloc_new _ _
    refine ⟨HBX0.out, ?_, RowSet.fresh ?_ |>.swap, World.ownsRow_nil _ _ _ _, World.ownsRow_nil _ _ _ _, by omega, by omega, by decide⟩
    · rw [hX, hB]; exact heap_alloc2_new _ _ _
    · refine ⟨fun p hp => ?_, List.pairwise_singleton _ _⟩
      rw [List.mem_singleton.1 hp]
      exact (show IntBlk X B 3 .i64 [0] from hf0).own (l := [0]) (Nat.le_refl _) (by decide))
  obtain ⟨al, hal⟩ : ∃ al, al = alM M := ⟨_, rfl⟩
  have HAL := hid hal
  have HALI := hid (show AlIs al d from by
    rw [hal]
    refine alM_is (by have := HX.out.rt; rwa [HN.out] at this) (by rw [← HN.out]; exact hn0) fun p q hp hq => ?_
    rw [← HN.out] at hp hq ⊢
    exact HA4.out p q hp hq)
  have HRFL := hid (show ∀ s : Nat, s < n → al s s = true from fun s hs => (HALI.out s s (by rw [← HN.out]; exact hs) (by rw [← HN.out]; exact hs)).2 (Alk.refl _ _ _))
  -- what stays below
  have HLOW := hid (show ∀ Y, Below B w4 Y → Y.cell? ⟨D0, 0, none⟩ = some (.slice (some ⟨nb, no, none⟩) n nc) ∧ Y.cell? ⟨D0, 1, none⟩ = some (.slice (some ⟨tb, to', none⟩) n tc) ∧ TabX Y nb no nc tb to' tc n d.next d.tells ∧ (∀ p, p < n → Y.cell? ⟨xb, p, none⟩ = some (.slice (some ⟨rb p, 0, none⟩) n n)) ∧ (∀ p q, p < n → q < n → Y.cell? ⟨rb p, q, none⟩ = some (.int .i64 (M p q))) from fun Y hY => by
    obtain ⟨a, b, _⟩ := slot2 ((hY.block D0 (by have := HDB.out; omega)).trans HR0.out)
    rw [HNV.out] at a
    rw [HTV.out] at b
    rw [hB] at hY
    exact ⟨a, b, (HX.out.below HB4.out).below hY, fun p hp => (HM4.out.below hY).cell hp, fun p q hp hq => (HM4.out.below hY).at hp hq⟩)
  have HBW := hid (show ∀ Y, Below B w4 Y → Below w.heap.size w Y from fun Y hY => HB4.out.trans (hY.mono (by rw [hB]; exact HB4.out.size)))
  clear hX hB d0 d1 hw2 hD0 hal
  go_loopw [4, 6] (fun s4 s6 wr => ∃ (i : Nat) (nx tl : Value) (rows : List (Value × List Int)), s6 = .int .i64 i ∧ Hid (LInv al n d i) ∧ Hid (rows.map (·.2) = (lIter al d i).2.next) ∧
    Hid (LeN B (B + 1) 29 w4 wr (s4, (lIter al d i).1) (.slice none 0 0, []) rows nx tl (lIter al d i).2.tells)) (fun _ s6 _ => 1000 - (intOf s6).toNat)
  case atStart => exact ⟨0, _, _, [], rfl, hid (LInv.zero al d hn0), hid rfl, HLE0⟩
  case round =>
    obtain ⟨i, nx, tl, rows, rfl, HLI, HRO, HM⟩ := hrel
    obtain ⟨st, hst⟩ : ∃ st, st = lIter al d i := ⟨_, rfl⟩
    have HST := hid hst
    have hfl := HLI.out.fi.len HRFL.out
    rw [← hst] at HRO HM hfl
    obtain ⟨fA, fC, hfv, _⟩ := own_arr HM.out.rs.head
    dsimp only at hfv
    subst hfv
    clear HLE0 HBX0 hst
    by_cases hlt : i < st.1.length
    · obtain ⟨q, hq, hqn⟩ := HLI.out.state (by rw [← HST.out]; exact hlt)
      rw [← HST.out] at hq
      have HQ := hid hq
      have HLR := hid (HX.out.rt.2 q hqn)
      have hqi : (q : Int) < (n : Int) := by omega
      have hq0 : 0 ≤ (q : Int) := by omega
      have hii : (i : Int) < (st.1.length : Int) := by omega
      have hi0 : 0 ≤ (i : Int) := by omega
      clear hq
      go_wp2_with fail
      have HFI0 := hid (show FIs al n st.1 by rw [HST.out]; exact HLI.out.fi)
      go_loopw [4, 7, 8] (fun s4 s7 s8 wr => ∃ (k : Nat), k ≤ 37 ∧ s8 = .int .i64 k ∧
        Hid (LeN B (B + 1) 29 w4 wr (s4, (lRow al st.1 ((row d.next q).take k)).1) (s7, (lRow al st.1 ((row d.next q).take k)).2) rows nx tl st.2.tells) ∧
        Hid (FIs al n (lRow al st.1 ((row d.next q).take k)).1)) (fun _ _ s8 _ => 37 - (intOf s8).toNat)
      case atStart => exact ⟨0, by omega, rfl, HM, HFI0⟩
      case round =>
        clear HFI0 HM
        obtain ⟨k, hk, rfl, HM, HFI⟩ := hrel
        by_cases hltk : k < 37
        · have hkl : k < (row d.next q).length := by rw [HLR.out.1]; exact hltk
          obtain ⟨t, ht⟩ : ∃ t : Nat, nth (row d.next q) k = t := ⟨_, (Int.toNat_of_nonneg (HLR.out.2 k hltk).1).symm⟩
          have htn : t < n := by have := (HLR.out.2 k hltk).2; omega
          obtain ⟨s, hs⟩ : ∃ s, s = lRow al st.1 ((row d.next q).take k) := ⟨_, rfl⟩
          have hst := hid (show lRow al st.1 ((row d.next q).take (k + 1)) = lStep al s t by rw [hs, take_nth hkl, lRow_snoc, ht])
          have HSL := hid (show s.2.length = k by rw [hs, lRow_len, List.length_take]; omega)
          have hle := lRow_le al st.1 ((row d.next q).take k)
          have hnF := lRow_nth al st.1 ((row d.next q).take k) hlt
          rw [← hs] at HM HFI hle hnF
          rw [HQ.out] at hnF
          have hsn := HFI.out.len HRFL.out
          obtain ⟨gA, gC, hgv, _⟩ := own_arr HM.out.rs.head
          dsimp only at hgv
          subst hgv
          obtain ⟨gb, go', gC2, hge, _, hgb, hgc⟩ := (own_nums HM.out.rs.head).at (show i < s.1.length by omega)
          dsimp only at hge
          obtain ⟨hgA, hgC⟩ : gA = some ⟨gb, go', none⟩ ∧ gC = gC2 := by simpa using hge
          subst hgA hgC
          rw [hnF] at hgc
          obtain ⟨l0, l1, l2, l3, l4⟩ := HLOW.out _ HM.out.bel
          obtain ⟨b1, o1, c1, r1, _, r2⟩ := l2.rows q hqn
          have r3 := r2 k hltk
          rw [ht] at r3
          have HL3 := hid l3
          have HL4 := hid l4
          have hsi : (i : Int) < (s.1.length : Int) := by omega
          have hkc : (k : Int) < 37 := by omega
          have hk0 : 0 ≤ (k : Int) := by omega
          have htl : (t : Int) < (n : Int) := by omega
          have ht0 : 0 ≤ (t : Int) := by omega
          have HFI1 := hid (HFI.out.step (s := s) ⟨t, rfl, htn⟩)
          clear hs ht hkl hge hgb hnF l1 l2 l3 l4 r2
          go_wp2_with fail
          go_quiet (fail)
          go_wp2_with fail
          have HM1 := hid (HM.out.grown (below_drewN' wr nq _))
          have HL3' := hid (show ∀ p, p < n → (wr.drewN nq).cell? ⟨xb, p, none⟩ = some (.slice (some ⟨rb p, 0, none⟩) n n) from HL3.out)
          have HL4' := hid (show ∀ p q, p < n → q < n → (wr.drewN nq).cell? ⟨rb p, q, none⟩ = some (.int .i64 (M p q)) from HL4.out)
          obtain ⟨wo, hwo⟩ : ∃ wo, wo = wr.drewN nq := ⟨_, rfl⟩
          rw [← hwo] at HM1 HL3' HL4' ⊢
          clear hwo hgc r1 r3 l0 HL3 HL4 HM
          go_loop [10] (fun s10 => ∃ j : Nat, j ≤ s.1.length ∧ s10 = .int .i64 j ∧ Hid (∀ j', j' < j → al (nth s.1 j') t = false)) (fun s10 => s.1.length - (intOf s10).toNat)
          case atStart => exact ⟨0, by omega, rfl, hid (fun j' hj' => by omega)⟩
          case round =>
            obtain ⟨j, hj, rfl, HJ⟩ := hrel
            have HEND := hid (show ∀ (hend : j < s.1.length → al (nth s.1 j) t = true), fnd al s.1 t = j from fun hend => fnd_eq hj HJ.out hend)
            by_cases hjl : j < s.1.length
            · obtain ⟨u, hu, hun⟩ := HFI.out.at' _ (nth_mem hjl)
              obtain ⟨gb2, go2, gC2, hge, _, _, hgc⟩ := (own_nums HM1.out.rs.head).at hjl
              dsimp only at hge
              obtain ⟨⟨rfl, rfl⟩, rfl⟩ : (gb = gb2 ∧ go' = go2) ∧ gC = gC2 := by simpa using hge
              rw [hu] at hgc
              have m1 := HL3'.out u hun
              have m2 := HL4'.out u t hun htn
              obtain ⟨x, hx⟩ : ∃ x, x = M u t := ⟨_, rfl⟩
              rw [← hx] at m2
              have hat : al (nth s.1 j) t = decide (x < 0) := by rw [hu, HAL.out, hx]; rfl
              have hji : (j : Int) < (s.1.length : Int) := by omega
              have hj0 : 0 ≤ (j : Int) := by omega
              have hui : (u : Int) < (n : Int) := by omega
              have hu0 : 0 ≤ (u : Int) := by omega
              by_cases hx0 : 0 ≤ x
              · have HJ2 := hid (show ∀ j', j' < j + 1 → al (nth s.1 j') t = false from fun j' hj' => by
                  by_cases e : j' = j
                  · rw [e, hat]; simp; omega
                  · exact HJ.out j' (by omega))
                clear hge hu hx hat HEND
                go_wp2_with fail
                go_round
                case rel => exact ⟨j + 1, by omega, by go_num, HJ2⟩
                case measure => simp [intOf]; omega
              · have hx1 : x < 0 := by omega
                have hfd : fnd al s.1 t = j := HEND.out fun _ => by rw [hat]; simpa using hx1
                have HST1 := hid (show lStep al s t = (s.1, s.2 ++ [(j : Int)]) by unfold lStep; rw [hfd, if_pos hjl])
                have hje : ((j : Int) == (s.1.length : Int)) = false := by simp; omega
                have HMB := hid (show B ≤ wo.heap.size from HM1.out.size)
                clear hge hu hx hat HEND hx0 hfd
                go_wp2_with (first
                  | (at_builtin; refine wpList_app_int rfl (.tmp 62) (.tmp 64) rfl (w0 := wo) (z := (j : Int)) rfl rfl HM1.out.rs.tail.head rfl (by show s.2.length ≤ _; rw [HSL.out]; omega) HMB.out ?_
                     intro A c w3 hown3 hg3 hat3)
                  | fail)
                have HM3 := hid ((HM1.out.alloc _).putR hg3 hown3 hat3)
                clear hown3 hg3 hat3
                go_wp2_with fail
                go_roundw
                case rel => exact ⟨k + 1, by omega, by go_num, hid (by rw [hst.out, HST1.out]; exact HM3.out), hid (by rw [hst.out]; exact HFI1.out)⟩
                case measure => simp [intOf]; omega
            · have hjs : j = s.1.length := by omega
              have hfd : fnd al s.1 t = s.1.length := by rw [← hjs]; exact HEND.out fun h => absurd h hjl
              have HST1 := hid (show lStep al s t = (s.1 ++ [(t : Int)], s.2 ++ [(s.1.length : Int)]) by unfold lStep; rw [hfd, if_neg (by omega)])
              have HMB := hid (show B ≤ wo.heap.size from HM1.out.size)
              subst hjs
              have hje : ((s.1.length : Int) == (s.1.length : Int)) = true := by simp
              clear HEND hfd
              go_wp2_with (first
                | (at_builtin; refine wpList_app_int rfl (.tmp 58) (.tmp 60) rfl (w0 := wo) (z := (t : Int)) rfl rfl HM1.out.rs.head rfl (by show s.1.length ≤ _; omega) HMB.out ?_
                   intro A2 c2 w2' hown2 hg2 hat2
                   have HM2 := hid ((HM1.out.alloc _).putF hg2 hown2 hat2)
                   have HW2 := hid (show B ≤ w2'.heap.size from Nat.le_trans HMB.out (Nat.le_trans (by simp) hg2.size)))
                | (at_builtin; refine wpList_app_int rfl (.tmp 62) (.tmp 64) rfl (w0 := w2') (z := (s.1.length : Int)) rfl rfl HM2.out.rs.tail.head rfl (by show s.2.length ≤ _; rw [HSL.out]; omega) HW2.out ?_
                   intro A c w3 hown3 hg3 hat3)
                | fail)
              have HM3 := hid ((HM2.out.alloc _).putR hg3 hown3 hat3)
              clear hown3 hg3 hat3 hown2 hg2 hat2
              go_wp2_with fail
              go_roundw
              case rel => exact ⟨k + 1, by omega, by go_num, hid (by rw [hst.out, HST1.out]; simpa using HM3.out), hid (by rw [hst.out]; exact HFI1.out)⟩
              case measure => simp [intOf]; omega
        · obtain rfl : k = 37 := by omega
          have htk : (row d.next q).take 37 = row d.next q := List.take_of_length_le (by rw [HLR.out.1]; exact Nat.le_refl _)
          rw [htk] at HM HFI
          clear htk
          obtain ⟨x0, x1, y0, y1⟩ := slot2 HM.out.out
          have hRO := HRO.out
          have HRL := hid (show rows.length = i by have := congrArg List.length hRO; rw [List.length_map, HST.out, HLI.out.nx] at this; exact this)
          have hrl : rows.length ≤ 1000 := by rw [HRL.out]; omega
          have HTL := hid (show st.2.tells.length = i by rw [HST.out, HLI.out.tl])
          have htl0 : st.2.tells.length ≤ 1000 := by rw [HTL.out]; omega
          obtain ⟨rw0, hrw0⟩ : ∃ r, r = (lRow al st.1 (row d.next q)).2 := ⟨_, rfl⟩
          have HRW0 := hid hrw0
          obtain ⟨F, hF⟩ : ∃ F, F = (lRow al st.1 (row d.next q)).1 := ⟨_, rfl⟩
          have HF := hid hF
          rw [← hrw0, ← hF] at HM
          rw [← hF] at HFI
          obtain ⟨rA, rC, hrv, _⟩ := own_arr HM.out.rs.tail.head
          dsimp only at hrv
          have hiF : i < F.length := by rw [hF]; have := lRow_le al st.1 (row d.next q); omega
          have hFn := HFI.out.len HRFL.out
          obtain ⟨gb, go', gC, hgv, _, hgb, hgc⟩ := (own_nums HM.out.rs.head).at hiF
          dsimp only at hgv
          subst hgv hrv
          have hii' : (i : Int) < (F.length : Int) := by omega
          have HMB := hid (show B ≤ wr.heap.size from HM.out.size)
          obtain ⟨j0, hj0, hj1, hj2, hj3⟩ := info_parts info32
          clear hRO hrw0 hF hgb hgc hii
          go_wp2_with (first
            | (at_builtin; refine wpList_app_s _ rfl (.tmp 67) (.tmp 69) 25 rfl B 32 j0 _ 1 24 Try.underlying25 hj0 hj1 hj2 hj3 rfl (by decide) nx _ _ rfl (HM.out.nxo.alloc _) (some ⟨wr.heap.size, 0, none⟩) 1 1 _ rfl (src_new wr _ 32 1 rfl) (by simp [Value.oneCell']) (by simp only [maxLen]; omega) (by omega) (by have := HMB.out; simp; omega) ?_; intro A5 c5 w5' hown5 hg5 hat5
               have HM5 := hid ((HM.out.alloc _).row hg5 (nx' := .slice A5 (rows.length + 1) c5) (by simpa using hown5))
               obtain ⟨z0, z1, z2, z3⟩ := slot2 HM5.out.1)
            | fail)
          have HM6 := hid HM5.out.2
          obtain ⟨wx, hwx⟩ : ∃ wx, wx = w5'.setCell ⟨B + 1, 0, none⟩ (.slice A5 (rows.length + 1) c5) := ⟨_, rfl⟩
          rw [← hwx] at HM6 ⊢
          clear hwx HM5 hown5 hg5 hat5 x0 x1 y0 y1 z0 z1 z2 z3 hj0 hj1 hj2 hj3 HM HMB
          have HSX := hid (show ∀ Y : World, Below B w4 Y → OwnI Y B (.slice (some ⟨gb, go', none⟩) F.length gC) F →
              (Y.cell? ⟨D0, 1, none⟩ = some (.slice (some ⟨tb, to', none⟩) n tc) ∧ Y.cell? ⟨gb, go' + i, none⟩ = some (.int .i64 (q : Int)) ∧ Y.cell? ⟨tb, to' + q, none⟩ = some (.int .u64 (nth d.tells q))) from fun Y h1 h2 => by
            obtain ⟨_, k1, k3, _⟩ := HLOW.out Y h1
            obtain ⟨b', o', c', e', _, _, k2⟩ := (own_nums h2).at hiF
            obtain ⟨⟨rfl, rfl⟩, rfl⟩ : (gb = b' ∧ go' = o') ∧ gC = c' := by simpa using e'
            have hnF : nth F i = q := by rw [HF.out, lRow_nth al st.1 (row d.next q) hlt]; exact HQ.out
            rw [hnF] at k2
            exact ⟨k1, k2, k3.tells q hqn⟩)
          have hs0 := HSX.out wx HM6.out.bel HM6.out.rs.head
          obtain ⟨s1, s2, s3⟩ := id hs0
          have HS0 := hid hs0
          obtain ⟨tz, htz⟩ : ∃ tz, tz = nth d.tells q := ⟨_, rfl⟩
          have HTZ := hid htz
          rw [← htz] at s3 HS0 HSX
          obtain ⟨x0, x1, y0, y1⟩ := slot2 HM6.out.out
          have HM7 := hid (show LeN B (B + 1) 29 w4 (wx.drew.alloc (.cells #[.int .u64 tz] 52)) (.slice (some ⟨gb, go', none⟩) F.length gC, F) (.slice none 0 0, []) (rows ++ [(.slice rA rw0.length rC, rw0)]) (.slice A5 (rows.length + 1) c5) tl st.2.tells from HM6.out.grown ((Below.drew (Below.refl _ _)).alloc (Nat.le_refl _) _))
          have HS1 := hid (HSX.out _ HM7.out.bel HM7.out.rs.head)
          have hx1 : (wx.alloc (.cells #[.int .u64 tz] 52)).cell? ⟨B + 1, 1, none⟩ = some tl := (slot2 HM7.out.out).2.1
          have HT7 := hid (show wx.drew.ownsRow B 52 1 tl st.2.tells.length (st.2.tells.map (.int .u64)) from HM6.out.tlo)
          have HMB := hid (show B ≤ wx.drew.heap.size from HM6.out.size)
          have HTL0 := hid (show st.2.tells.length ≤ 1010000 by omega)
          clear hs0 htz
          go_wp2_with fail
          refine wp_region_held_drew (S := (fun Y => Y.cell? ⟨D0, 1, none⟩ = some (.slice (some ⟨tb, to', none⟩) n tc) ∧ Y.cell? ⟨gb, go' + i, none⟩ = some (.int .i64 (q : Int)) ∧ Y.cell? ⟨tb, to' + q, none⟩ = some (.int .u64 tz))) (by kernel_rfl) (by exact HS0.out) (fun hHeld => ?_)
          refine wpAnyH_take (i := 0) (oi := { dst := some 72, op := Op.fieldAddr 29 (Operand.tmp 5) 1, type := _, pos := _, after := _, guard := none }) (v := ?_) rfl (by kernel_rfl) (by kernel_rfl) (by kernel_rfl) (fun _ _ _ h => h) (Or.inl ⟨by rfl, ?_⟩) (by assumption) ?_
          rotate_left
          · intro w hSw; (try dsimp only at hSw); go_simp; try with_reducible rfl
          try simp only [Act.put, List.setIfInBounds_toArray, List.set_cons_zero, List.set_cons_succ]
          refine wpAnyH_take (i := 2) (oi := { dst := some 74, op := Op.fieldAddr 29 (Operand.tmp 1) 1, type := _, pos := _, after := _, guard := none }) (v := ?_) rfl (by kernel_rfl) (by kernel_rfl) (by kernel_rfl) (fun _ _ _ h => h) (Or.inl ⟨by rfl, ?_⟩) (by assumption) ?_
          rotate_left
          · intro w hSw; (try dsimp only at hSw); go_simp; try with_reducible rfl
          try simp only [Act.put, List.setIfInBounds_toArray, List.set_cons_zero, List.set_cons_succ]
          refine wpAnyH_take (i := 3) (oi := { dst := some 75, op := Op.load 26 (Operand.tmp 74), type := _, pos := _, after := _, guard := none }) (v := ?_) rfl (by kernel_rfl) (by kernel_rfl) (by kernel_rfl) (fun _ _ _ h => h) (Or.inl ⟨by rfl, ?_⟩) (by assumption) ?_
          rotate_left
          · intro w hSw; (try dsimp only at hSw); go_simp; try with_reducible rfl
          try simp only [Act.put, List.setIfInBounds_toArray, List.set_cons_zero, List.set_cons_succ]
          refine wpAnyH_take (i := 4) (oi := { dst := some 76, op := Op.move (Operand.tmp 4), type := _, pos := _, after := _, guard := none }) (v := ?_) rfl (by kernel_rfl) (by kernel_rfl) (by kernel_rfl) (fun _ _ _ h => h) (Or.inl ⟨by rfl, ?_⟩) (by assumption) ?_
          rotate_left
          · intro w hSw; (try dsimp only at hSw); go_simp; try with_reducible rfl
          try simp only [Act.put, List.setIfInBounds_toArray, List.set_cons_zero, List.set_cons_succ]
          refine wpAnyH_take (i := 5) (oi := { dst := some 77, op := Op.move (Operand.tmp 6), type := _, pos := _, after := _, guard := none }) (v := ?_) rfl (by kernel_rfl) (by kernel_rfl) (by kernel_rfl) (fun _ _ _ h => h) (Or.inl ⟨by rfl, ?_⟩) (by assumption) ?_
          rotate_left
          · intro w hSw; (try dsimp only at hSw); go_simp; try with_reducible rfl
          try simp only [Act.put, List.setIfInBounds_toArray, List.set_cons_zero, List.set_cons_succ]
          refine wpAnyH_take (i := 6) (oi := { dst := some 78, op := Op.indexAddr 32 (Operand.tmp 76) (Operand.tmp 77), type := _, pos := _, after := _, guard := none }) (v := ?_) rfl (by kernel_rfl) (by kernel_rfl) (by kernel_rfl) (fun _ _ _ h => h) (Or.inl ⟨by rfl, ?_⟩) (by assumption) ?_
          rotate_left
          · intro w hSw; (try dsimp only at hSw); go_simp; try with_reducible rfl
          try simp only [Act.put, List.setIfInBounds_toArray, List.set_cons_zero, List.set_cons_succ]
          refine wpAnyH_take (i := 7) (oi := { dst := some 79, op := Op.load 3 (Operand.tmp 78), type := _, pos := _, after := _, guard := none }) (v := ?_) rfl (by kernel_rfl) (by kernel_rfl) (by kernel_rfl) (fun _ _ _ h => h) (Or.inl ⟨by rfl, ?_⟩) (by assumption) ?_
          rotate_left
          · intro w hSw; (try dsimp only at hSw); go_simp; try with_reducible rfl
          try simp only [Act.put, List.setIfInBounds_toArray, List.set_cons_zero, List.set_cons_succ]
          refine wpAnyH_take (i := 8) (oi := { dst := some 80, op := Op.indexAddr 26 (Operand.tmp 75) (Operand.tmp 79), type := _, pos := _, after := _, guard := none }) (v := ?_) rfl (by kernel_rfl) (by kernel_rfl) (by kernel_rfl) (fun _ _ _ h => h) (Or.inl ⟨by rfl, ?_⟩) (by assumption) ?_
          rotate_left
          · intro w hSw; (try dsimp only at hSw); go_simp; try with_reducible rfl
          try simp only [Act.put, List.setIfInBounds_toArray, List.set_cons_zero, List.set_cons_succ]
          refine wpAnyH_take (i := 9) (oi := { dst := some 81, op := Op.load 52 (Operand.tmp 80), type := _, pos := _, after := _, guard := none }) (v := ?_) rfl (by kernel_rfl) (by kernel_rfl) (by kernel_rfl) (fun _ _ _ h => h) (Or.inl ⟨by rfl, ?_⟩) (by assumption) ?_
          rotate_left
          · intro w hSw; (try dsimp only at hSw); go_simp; try with_reducible rfl
          try simp only [Act.put, List.setIfInBounds_toArray, List.set_cons_zero, List.set_cons_succ]
          refine wpAnyH_ready (rs := [1, 10]) (by kernel_rfl) (by simp) ?_
          refine AllReadyH.cons (o := { dst := some 73, op := Op.load 26 (Operand.tmp 72), type := _, pos := _, after := _, guard := none }) rfl ?legA1 (AllReadyH.cons (o := { dst := some 82, op := Op.buildSlice 26 1 #[(0, Operand.tmp 81)], type := _, pos := _, after := _, guard := none }) rfl ?legB1 AllReadyH.nil)
          case' legA1 =>
            intro K hK
            go_simp
            refine hK.out _ _ (by first | exact HS0.out | exact HS1.out) (fun hHeld => ?_)
            clear hK K
            try simp only [Act.put, List.setIfInBounds_toArray, List.set_cons_zero, List.set_cons_succ]
            refine wpAnyH_ready (rs := [10]) (by kernel_rfl) (by simp) ?_
            refine AllReadyH.cons (o := { dst := some 82, op := Op.buildSlice 26 1 #[(0, Operand.tmp 81)], type := _, pos := _, after := _, guard := none }) rfl (fun K hK => ?_) AllReadyH.nil
            go_simp
            refine hK.out _ _ (by exact HS1.out) (fun hHeld => ?_)
            clear hK K
            try simp only [Act.put, List.setIfInBounds_toArray, List.set_cons_zero, List.set_cons_succ]
            refine wpAnyH_ready (rs := [11]) (by kernel_rfl) (by simp) ?_
            refine AllReadyH.cons (o := { dst := some 83, op := Op.call { callee := Callee.builtin Builtin.append, args := #[Operand.tmp 73, Operand.tmp 82], argTypes := #[26, 26] }, type := _, pos := _, after := _, guard := none }) rfl (fun K hK => ?_) AllReadyH.nil
            rw [if_pos (by rfl)]
            refine wp_app_u64 (.tmp 73) (.tmp 82) rfl (w0 := wx.drew) rfl rfl HT7.out rfl HTL0.out HMB.out ?_
            intro A8 c8 w8 hown8 hg8
            have HM8 := hid (HM7.out.tell hg8 hown8)
            have HS8 := hid (HSX.out w8 (HM7.out.seen hg8).1 (HM7.out.seen hg8).2)
            obtain ⟨v0, v1, v2, v3⟩ := slot2 HM8.out.1
            refine hK.out _ _ (by exact HS8.out) (fun hHeld => ?_)
            clear hK K
            try simp only [Act.put, List.setIfInBounds_toArray, List.set_cons_zero, List.set_cons_succ]
            refine wpAnyH_take (i := 12) (oi := { dst := some 84, op := Op.fieldAddr 29 (Operand.tmp 5) 1, type := _, pos := _, after := _, guard := none }) (v := ?_) rfl (by kernel_rfl) (by kernel_rfl) (by kernel_rfl) (fun _ _ _ h => h) (Or.inl ⟨by rfl, ?_⟩) (by assumption) ?_
            rotate_left
            · intro w hSw; (try dsimp only at hSw); go_simp; try with_reducible rfl
            try simp only [Act.put, List.setIfInBounds_toArray, List.set_cons_zero, List.set_cons_succ]
            refine wpAnyH_ready (rs := [13]) (by kernel_rfl) (by simp) ?_
            refine AllReadyH.cons (o := { dst := none, op := Op.store 26 (Operand.tmp 84) (Operand.tmp 83), type := _, pos := _, after := _, guard := none }) rfl (fun K hK => ?_) AllReadyH.nil
            go_simp
            refine hK.out _ _ (by exact HSX.out _ HM8.out.2.bel HM8.out.2.rs.head) (fun hHeld => ?_)
            clear hK K
            try simp only [Act.put, List.setIfInBounds_toArray, List.set_cons_zero, List.set_cons_succ]
            refine wpAnyH_done (by kernel_rfl) ?_ _
          case' legB1 =>
            intro K hK
            go_simp
            refine hK.out _ _ (by exact HS1.out) (fun hHeld => ?_)
            clear hK K
            try simp only [Act.put, List.setIfInBounds_toArray, List.set_cons_zero, List.set_cons_succ]
            refine wpAnyH_ready (rs := [1]) (by kernel_rfl) (by simp) ?_
            refine AllReadyH.cons (o := { dst := some 73, op := Op.load 26 (Operand.tmp 72), type := _, pos := _, after := _, guard := none }) rfl (fun K hK => ?_) AllReadyH.nil
            go_simp
            refine hK.out _ _ (by first | exact HS0.out | exact HS1.out) (fun hHeld => ?_)
            clear hK K
            try simp only [Act.put, List.setIfInBounds_toArray, List.set_cons_zero, List.set_cons_succ]
            refine wpAnyH_ready (rs := [11]) (by kernel_rfl) (by simp) ?_
            refine AllReadyH.cons (o := { dst := some 83, op := Op.call { callee := Callee.builtin Builtin.append, args := #[Operand.tmp 73, Operand.tmp 82], argTypes := #[26, 26] }, type := _, pos := _, after := _, guard := none }) rfl (fun K hK => ?_) AllReadyH.nil
            rw [if_pos (by rfl)]
            refine wp_app_u64 (.tmp 73) (.tmp 82) rfl (w0 := wx.drew) rfl rfl HT7.out rfl HTL0.out HMB.out ?_
            intro A8 c8 w8 hown8 hg8
            have HM8 := hid (HM7.out.tell hg8 hown8)
            have HS8 := hid (HSX.out w8 (HM7.out.seen hg8).1 (HM7.out.seen hg8).2)
            obtain ⟨v0, v1, v2, v3⟩ := slot2 HM8.out.1
            refine hK.out _ _ (by exact HS8.out) (fun hHeld => ?_)
            clear hK K
            try simp only [Act.put, List.setIfInBounds_toArray, List.set_cons_zero, List.set_cons_succ]
            refine wpAnyH_take (i := 12) (oi := { dst := some 84, op := Op.fieldAddr 29 (Operand.tmp 5) 1, type := _, pos := _, after := _, guard := none }) (v := ?_) rfl (by kernel_rfl) (by kernel_rfl) (by kernel_rfl) (fun _ _ _ h => h) (Or.inl ⟨by rfl, ?_⟩) (by assumption) ?_
            rotate_left
            · intro w hSw; (try dsimp only at hSw); go_simp; try with_reducible rfl
            try simp only [Act.put, List.setIfInBounds_toArray, List.set_cons_zero, List.set_cons_succ]
            refine wpAnyH_ready (rs := [13]) (by kernel_rfl) (by simp) ?_
            refine AllReadyH.cons (o := { dst := none, op := Op.store 26 (Operand.tmp 84) (Operand.tmp 83), type := _, pos := _, after := _, guard := none }) rfl (fun K hK => ?_) AllReadyH.nil
            go_simp
            refine hK.out _ _ (by exact HSX.out _ HM8.out.2.bel HM8.out.2.rs.head) (fun hHeld => ?_)
            clear hK K
            try simp only [Act.put, List.setIfInBounds_toArray, List.set_cons_zero, List.set_cons_succ]
            refine wpAnyH_done (by kernel_rfl) ?_ _
          all_goals
            have HM9 := hid HM8.out.2
            have HNX := hid (HLI.out.next (by rw [← HST.out]; exact hlt) (by rw [← HST.out]; exact HQ.out))
            have HLI2 := hid (HLI.out.step HX.out.rt (by rw [← HST.out]; exact hlt))
            have HRO2 := hid (show (rows ++ [(Value.slice rA rw0.length rC, rw0)]).map (·.2) = (lIter al d (i + 1)).2.next by
              rw [HNX.out, ← HST.out, List.map_append, HRO.out, HRW0.out]; rfl)
            clear hown8 hg8 HM8 HS8
            go_wp2_with fail
            go_roundw
            case rel => exact ⟨i + 1, _, _, _, by go_num, HLI2, HRO2, hid (by rw [HNX.out, ← HST.out, ← HF.out, ← HTZ.out]; exact HM9.out)⟩
            case measure => simp [intOf]; omega
    · obtain rfl : i = st.1.length := by have := HLI.out.le; rw [← HST.out] at this; omega
      have hli := HLI.out
      rw [HN.out] at hli
      obtain ⟨hfin, _⟩ := hli.fin (by rw [← HST.out]; exact Nat.le_refl _) (by rw [← HN.out]; exact HRFL.out)
      have HFIN := hid (show leastD al d = st.2 by rw [hfin, ← HST.out])
      obtain ⟨nA, nC, hnx, _⟩ := own_arr HM.out.nxo
      obtain ⟨tA, tC, htx, _⟩ := own_arr HM.out.tlo
      have HRL := hid (show rows.length = st.2.next.length by rw [← HRO.out, List.length_map])
      subst hnx htx
      obtain ⟨x0, x1, _⟩ := slot2 HM.out.out
      have hD1 := (HM.out.bel.block (D0 + 1) (by have := HDB.out; omega)).trans HR1.out
      obtain ⟨y0, y1, y2, y3⟩ := slot2 hD1
      have hs : wr.grownBy ((wr.setCell ⟨D0 + 1, 0, none⟩ (.slice nA rows.length nC)).setCell ⟨D0 + 1, 1, none⟩ (.slice tA st.2.tells.length tC)) (some (D0 + 1)) := grown_setCell (grown_setCell (World.grownBy.refl _ _) _ _) _ _
      have HRS := hid (show RowSet ((wr.setCell ⟨D0 + 1, 0, none⟩ (.slice nA rows.length nC)).setCell ⟨D0 + 1, 1, none⟩ (.slice tA st.2.tells.length tC)) B rows from HM.out.rs.tail.tail.cells hs hD1 (by decide))
      have HNX := hid (show ((wr.setCell ⟨D0 + 1, 0, none⟩ (.slice nA rows.length nC)).setCell ⟨D0 + 1, 1, none⟩ (.slice tA st.2.tells.length tC)).ownsRow B 32 1 (.slice nA rows.length nC) rows.length (rows.map (·.1)) from HM.out.nxo.kept hs (.inr (own_blk_ne HM.out.nxo hD1 (by decide))))
      have HTLX := hid (show ((wr.setCell ⟨D0 + 1, 0, none⟩ (.slice nA rows.length nC)).setCell ⟨D0 + 1, 1, none⟩ (.slice tA st.2.tells.length tC)).ownsRow B 52 1 (.slice tA st.2.tells.length tC) st.2.tells.length (st.2.tells.map (.int .u64)) from HM.out.tlo.kept hs (.inr (own_blk_ne HM.out.tlo hD1 (by decide))))
      have HISD := hid (show IsD ((wr.setCell ⟨D0 + 1, 0, none⟩ (.slice nA rows.length nC)).setCell ⟨D0 + 1, 1, none⟩ (.slice tA st.2.tells.length tC)) (fun b => w.heap.size ≤ b) (.agg #[.slice nA rows.length nC, .slice tA st.2.tells.length tC]) (leastD al d) from by
        have hle : w.heap.size ≤ B := by have := HDB.out; have := HD0.out; omega
        rw [HFIN.out]
        refine ⟨_, _, rfl, ?_, (own_nums HTLX.out).mono fun b hb _ => Nat.le_trans hle hb.1⟩
        have h1 := HRS.out.ownG
        rw [HRO.out, HRL.out] at h1
        have h2 := HNX.out
        rw [HRL.out] at h2 ⊢
        exact (h1.isRows h2).mono fun b hb _ => Nat.le_trans hle hb)
      have HBE := hid (show Below w.heap.size w ((wr.setCell ⟨D0 + 1, 0, none⟩ (.slice nA rows.length nC)).setCell ⟨D0 + 1, 1, none⟩ (.slice tA st.2.tells.length tC)) from ((HBW.out _ HM.out.bel).setCell (p := ⟨D0 + 1, 0, none⟩) (by have := HD0.out; show _ ≤ D0 + 1; omega) _).setCell (p := ⟨D0 + 1, 1, none⟩) (by have := HD0.out; show _ ≤ D0 + 1; omega) _)
      clear hfin hs hD1 hli
      go_wp2_with fail
      exact bodyPost_ret (v := .agg #[.slice nA rows.length nC, .slice tA st.2.tells.length tC]) (by simp [results, Try.results34, go_sem, y0, y1]) rfl ⟨_, _, al, rfl, HALI.out, HISD.out, HBE.out⟩
end Go.Proofs.Ytmdkmobcglnmgaa
