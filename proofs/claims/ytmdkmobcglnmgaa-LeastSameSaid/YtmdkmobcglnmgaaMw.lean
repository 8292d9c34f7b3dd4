/- Which states are told apart, and by how many marks: the reference's walk. Conditions: a right automaton. -/
import Derived.Test.YtmdkmobcglnmgaaAp
namespace Go.Proofs.Ytmdkmobcglnmgaa
open Go.RowKit
set_option linter.unusedSimpArgs false

def ApartAns (w : World) (n : Nat) (rs : List (List Int)) (ts : List Int) (e : Ending) (w' : World) : Prop :=
  ∃ mb rb M, e = .returned (.slice (some ⟨mb, 0, none⟩) n n) ∧ w.heap.size ≤ mb ∧ (∀ p, p < n → w.heap.size ≤ rb p) ∧ MatK w' mb n n rb M ∧ (∀ p q, p < n → q < n → APart rs ts n p q (M p q)) ∧ Below w.heap.size w w'
set_option maxRecDepth 100000 in
set_option maxHeartbeats 4000000 in
theorem refApart_any (w : World) (nb no nc tb to' tc n : Nat) (rs : List (List Int)) (ts : List Int) (h : TabX w nb no nc tb to' tc n rs ts) :
    Calls Try.prog 35 #[.agg #[.slice (some ⟨nb, no, none⟩) n nc, .slice (some ⟨tb, to', none⟩) n tc]] w (ApartAns w n rs ts) := by
  have HX := hid h
  have hn1 := h.n1.1
  have hn2 := h.n1.2
  obtain ⟨Z, hZ⟩ : ∃ Z, Z = (List.replicate n (Value.slice none 0 0)).toArray := ⟨_, rfl⟩
  have HZ := hid hZ
  have HMK := hid (show ∀ w : World, (Instr.makeSlice 25 (.int .i64 (n : Int)) (.int .i64 (n : Int))).run Try.prog w = .ok (.slice (some ⟨w.heap.size, 0, none⟩) n n) (w.alloc (.cells Z 32)) from fun w => by
    rw [hZ]; exact run_make_one (P := Try.prog) 25 32 (.slice none 0 0) 24 rfl Try.underlying25 info32 n (by omega) (by omega) w)
  obtain ⟨Z0, hZ0⟩ : ∃ Z0, Z0 = ((List.replicate n (0 : Int)).map (Value.int .i64)).toArray := ⟨_, rfl⟩
  have HZ0 := hid hZ0
  have HMI := hid (show ∀ w : World, (Instr.makeSlice 32 (.int .i64 (n : Int)) (.int .i64 (n : Int))).run Try.prog w = .ok (.slice (some ⟨w.heap.size, 0, none⟩) n n) (w.alloc (.cells Z0 3)) from fun w => by
    rw [hZ0]; exact run_make_ints (P := Try.prog) 32 3 .i64 .i64 .i64 Try.underlying32 info3 n (by omega) w)
  obtain ⟨D0, hD0⟩ : ∃ D0, D0 = w.heap.size := ⟨_, rfl⟩
  have HD0 := hid hD0
  obtain ⟨w1, hw1⟩ : ∃ w1, w1 = w.alloc (.cells #[.slice (some ⟨nb, no, none⟩) n nc, .slice (some ⟨tb, to', none⟩) n tc] 29) := ⟨_, rfl⟩
  have HS1 := hid (show w1.heap.size = D0 + 1 by rw [hw1, hD0]; simp)
  have HP := hid (show w1.heap[D0]? = some (.cells #[.slice (some ⟨nb, no, none⟩) n nc, .slice (some ⟨tb, to', none⟩) n tc] 29 (0, 0)) by rw [hw1, hD0]; exact heap_alloc_new _ _)
  have HB1 := hid (show Below w.heap.size w w1 by rw [hw1]; exact (Below.refl _ _).alloc (Nat.le_refl _) _)
  obtain ⟨x0, x1, _⟩ := slot2 HP.out
  rw [hw1, hD0] at x0 x1
  have hmk := HMK.out
  clear h hZ hZ0
  go_enter Try.func35, Try.ntmps35
  go_wp2_with fail
  rw [← hw1]
  obtain ⟨mb, hmb⟩ : ∃ mb, mb = w1.heap.size := ⟨_, rfl⟩
  have HMB := hid hmb
  have HMS := hid (show mb = D0 + 1 by rw [hmb]; exact HS1.out)
  rw [← hD0, ← HMS.out]
  have HM0 := hid (show MatK (w1.alloc (.cells Z 32)) mb n 0 (fun _ => 0) (fun _ _ => 0) by rw [hmb, HZ.out]; exact MatK.start _ _ _ _)
  have HB2 := hid (show Below (D0 + 1) w1 (w1.alloc (.cells Z 32)) from (Below.refl _ _).alloc (Nat.le_of_eq HS1.out.symm) _)
  clear hmk x0 x1 hw1 hmb hD0
  go_loopw [5] (fun s5 wr => ∃ (p : Nat) (rb : Nat → Nat) (M : Nat → Nat → Int), p ≤ n ∧ s5 = .int .i64 p ∧ Hid (MatK wr mb n p rb M) ∧ Hid (∀ p', p' < p → mb ≤ rb p') ∧ Hid (∀ p' q', p' < p → q' < n → APart rs ts 0 p' q' (M p' q')) ∧ Hid (Below (D0 + 1) w1 wr)) (fun s5 _ => n - (intOf s5).toNat)
  case atStart => exact ⟨0, _, _, by omega, rfl, HM0, hid (fun p' hp' => by omega), hid (fun p' q' hp' => by omega), HB2⟩
  case round =>
    clear HM0 HB2
    obtain ⟨p, rb, M, hp, rfl, HM, HR, HA, HB⟩ := hrel
    by_cases hlt : p < n
    · have hpi : (p : Int) < (n : Int) := by omega
      have hp0 : 0 ≤ (p : Int) := by omega
      obtain ⟨g, hg⟩ : ∃ g, g = wr.heap.size := ⟨_, rfl⟩
      have hMI := HMI.out
      have HMA := hid (HM.out.below ((Below.refl _ _).alloc (Nat.le_refl _) (.cells Z0 3)))
      have hc := HMA.out.nil (Nat.le_refl _) hlt
      have hf := HMA.out.frozen p
      have HIZ := hid (show IntBlk (wr.alloc (.cells Z0 3)) g 3 .i64 (List.replicate n 0) by
        show (wr.alloc (.cells Z0 3)).heap[g]? = _
        rw [hg, heap_alloc_new, HZ0.out])
      have HM2 := hid (HM.out.add hlt ((Below.refl _ _).alloc (Nat.le_refl _) (.cells Z0 3)) (Nat.le_of_eq hg.symm) HIZ.out)
      have HB2 := hid (show Below (D0 + 1) w1 ((wr.alloc (.cells Z0 3)).setCell ⟨mb, p, none⟩ (.slice (some ⟨g, 0, none⟩) n n)) from (HB.out.alloc (by have := HB.out.size; have := HS1.out; omega) _).setCell (p := ⟨mb, p, none⟩) (by have := HMS.out; show _ ≤ mb; omega) _)
      have HG := hid (show mb ≤ g by rw [hg]; exact Nat.le_of_lt HM.out.lt)
      go_wp2_with fail
      rw [← hg]
      clear hMI hc hf HIZ hg
      obtain ⟨w2, hw2⟩ : ∃ w2, w2 = (wr.alloc (.cells Z0 3)).setCell ⟨mb, p, none⟩ (.slice (some ⟨g, 0, none⟩) n n) := ⟨_, rfl⟩
      rw [← hw2] at HM2 HB2 ⊢
      clear hw2
      obtain ⟨rb2, hrb2⟩ : ∃ rb2 : Nat → Nat, rb2 = fun p' => if p' = p then g else rb p' := ⟨_, rfl⟩
      obtain ⟨M2, hM2⟩ : ∃ M2 : Nat → Nat → Int, M2 = fun p' q' => if p' = p then 0 else M p' q' := ⟨_, rfl⟩
      rw [← hrb2, ← hM2] at HM2
      have HR2 := hid (show ∀ p', p' < p + 1 → mb ≤ rb2 p' from fun p' hp' => by
        rw [hrb2]; simp only
        by_cases e : p' = p
        · rw [if_pos e]; exact HG.out
        · rw [if_neg e]; exact HR.out p' (by omega))
      have HA2 := hid (show ∀ p' q', p' < p → q' < n → APart rs ts 0 p' q' (M2 p' q') from fun p' q' h1 h2 => by
        rw [hM2]; simp only; rw [if_neg (by omega)]; exact HA.out p' q' h1 h2)
      clear hrb2 hM2 HM HR HA HB HMA
      go_loopw [6] (fun s6 wr => ∃ (q : Nat) (M : Nat → Nat → Int), q ≤ n ∧ s6 = .int .i64 q ∧ Hid (MatK wr mb n (p + 1) rb2 M) ∧ Hid (∀ p' q', p' < p → q' < n → APart rs ts 0 p' q' (M p' q')) ∧ Hid (∀ q', q' < q → APart rs ts 0 p q' (M p q')) ∧ Hid (Below (D0 + 1) w1 wr)) (fun s6 _ => n - (intOf s6).toNat)
      case atStart => exact ⟨0, M2, by omega, rfl, HM2, HA2, hid (fun q' hq' => by omega), HB2⟩
      case round =>
        clear HM2 HA2 HB2
        obtain ⟨q, M, hq, rfl, HM, HA, HC, HB⟩ := hrel
        by_cases hltq : q < n
        · have hqi : (q : Int) < (n : Int) := by omega
          have hq0 : 0 ≤ (q : Int) := by omega
          have hc1 := HM.out.cell (p := p) (by omega)
          have hc2 := HM.out.at (p := p) (by omega) hltq
          have hf2 := HM.out.free (p := p) (by omega) q
          obtain ⟨w3, hw3⟩ : ∃ w3, w3 = wr.setCell ⟨rb2 p, q, none⟩ (.int .i64 (-1)) := ⟨_, rfl⟩
          have HM3 := hid (show MatK w3 mb n (p + 1) rb2 (updM M p q (-1)) by rw [hw3]; exact HM.out.set (by omega) hltq _)
          have HB3 := hid (show Below (D0 + 1) w1 w3 by rw [hw3]; exact HB.out.setCell (p := ⟨rb2 p, q, none⟩) (by have := HR2.out p (by omega); have := HMS.out; show _ ≤ rb2 p; omega) _)
          have HT3 := hid (HX.out.below (HB1.out.trans (HB3.out.mono (by have := HD0.out; omega))))
          have HW3 := hid hw3
          clear hw3
          go_wp2_with fail
          rw [← HW3.out]
          have hm1 := HM3.out.cell (p := p) (by omega)
          obtain ⟨x0, x1, _⟩ := slot2 ((HB3.out.block D0 (by omega)).trans HP.out)
          have t1 := HT3.out.tells p hlt
          have t2 := HT3.out.tells q hltq
          have hm2 := HM3.out.at (p := p) (by omega) hltq
          have hmf := HM3.out.free (p := p) (by omega) q
          obtain ⟨a, ha⟩ : ∃ a, a = nth ts p := ⟨_, rfl⟩
          obtain ⟨b, hb⟩ : ∃ b, b = nth ts q := ⟨_, rfl⟩
          rw [← ha] at t1
          rw [← hb] at t2
          by_cases hne : a = b
          · have hd : (a != b) = false := by simpa using hne
            have HAP := hid (show APart rs ts 0 p q (-1) from APart.zero.1 (by rw [← ha, ← hb]; exact hne))
            have HA3 := hid (show ∀ p' q', p' < p → q' < n → APart rs ts 0 p' q' (updM M p q (-1) p' q') from fun p' q' h1 h2 => by rw [updM_ne (by omega)]; exact HA.out p' q' h1 h2)
            have HC3 := hid (show ∀ q', q' < q + 1 → APart rs ts 0 p q' (updM M p q (-1) p q') from fun q' h1 => by
              by_cases e : q' = q
              · rw [e, updM_at]; exact HAP.out
              · rw [updM_ne (by omega)]; exact HC.out q' (by omega))
            clear ha hb hne HM HA HC HB HAP hc1 hc2 hf2
            go_quiet (fail)
            go_wp2_with fail
            go_roundw
            case rel => exact ⟨q + 1, _, by omega, by go_num, hid (HM3.out.drewN _), HA3, HC3, hid (below_drewN HB3.out _)⟩
            case measure => simp [intOf]; omega
          · have hd : (a != b) = true := by simpa using hne
            have HAP := hid (show APart rs ts 0 p q 0 from APart.zero.2 (by rw [← ha, ← hb]; exact hne))
            have HA3 := hid (show ∀ p' q', p' < p → q' < n → APart rs ts 0 p' q' (updM (updM M p q (-1)) p q 0 p' q') from fun p' q' h1 h2 => by rw [updM_ne (by omega), updM_ne (by omega)]; exact HA.out p' q' h1 h2)
            have HC3 := hid (show ∀ q', q' < q + 1 → APart rs ts 0 p q' (updM (updM M p q (-1)) p q 0 p q') from fun q' h1 => by
              by_cases e : q' = q
              · rw [e, updM_at]; exact HAP.out
              · rw [updM_ne (by omega), updM_ne (by omega)]; exact HC.out q' (by omega))
            have HM4 := hid (show ∀ k, MatK ((w3.drewN k).setCell ⟨rb2 p, q, none⟩ (.int .i64 0)) mb n (p + 1) rb2 (updM (updM M p q (-1)) p q 0) from fun k => (HM3.out.drewN k).set (by omega) hltq _)
            have HB4 := hid (show ∀ k, Below (D0 + 1) w1 ((w3.drewN k).setCell ⟨rb2 p, q, none⟩ (.int .i64 0)) from fun k => (below_drewN HB3.out k).setCell (p := ⟨rb2 p, q, none⟩) (by have := HR2.out p (by omega); have := HMS.out; show _ ≤ rb2 p; omega) _)
            clear ha hb hne HM HA HC HB HAP hc1 hc2 hf2
            go_quiet (fail)
            go_wp2_with fail
            go_roundw
            case rel => exact ⟨q + 1, _, by omega, by go_num, hid (HM4.out _), HA3, HC3, hid (HB4.out _)⟩
            case measure => simp [intOf]; omega
        · obtain rfl : q = n := by omega
          have HA3 := hid (show ∀ p' q', p' < p + 1 → q' < q → APart rs ts 0 p' q' (M p' q') from fun p' q' h1 h2 => by
            by_cases e : p' = p
            · rw [e]; exact HC.out q' h2
            · exact HA.out p' q' (by omega) h2)
          go_wp2_with fail
          go_roundw
          case rel => exact ⟨p + 1, rb2, M, by omega, by go_num, HM, HR2, HA3, HB⟩
          case measure => simp [intOf]; omega
    · obtain rfl : n = p := by omega
      clear hlt hp
      go_wp2_with fail
      have HF0 := hid (show ∀ p' q', p' < n → q' < n → APart rs ts 0 p' q' (M p' q') from HA.out)
      clear HA
      go_loopw [7] (fun s7 wr => ∃ (r : Nat) (M : Nat → Nat → Int), r ≤ n ∧ s7 = .int .i64 ((r + 1 : Nat) : Int) ∧ Hid (MatK wr mb n n rb M) ∧ Hid (∀ p' q', p' < n → q' < n → APart rs ts r p' q' (M p' q')) ∧ Hid (Below (D0 + 1) w1 wr)) (fun s7 _ => n + 1 - (intOf s7).toNat)
      case atStart => exact ⟨0, M, by omega, rfl, HM, HF0, HB⟩
      case round =>
        clear HM HF0 HB
        obtain ⟨r, M, hr, rfl, HM, HF, HB⟩ := hrel
        by_cases hltr : r < n
        · have hri : ((r + 1 : Nat) : Int) ≤ (n : Int) := by omega
          have HH0 := hid (HalfM.begin HF.out)
          go_wp2_with fail
          clear HF
          go_loopw [8] (fun s8 wr => ∃ (p : Nat) (M : Nat → Nat → Int), p ≤ n ∧ s8 = .int .i64 p ∧ Hid (MatK wr mb n n rb M) ∧ Hid (HalfM rs ts n r p 0 M) ∧ Hid (Below (D0 + 1) w1 wr)) (fun s8 _ => n - (intOf s8).toNat)
          case atStart => exact ⟨0, M, by omega, rfl, HM, HH0, HB⟩
          case round =>
            clear HM HH0 HB
            obtain ⟨p, M, hp, rfl, HM, HH, HB⟩ := hrel
            by_cases hltp : p < n
            · have hpi : (p : Int) < (n : Int) := by omega
              have hp0 : 0 ≤ (p : Int) := by omega
              go_wp2_with fail
              go_loopw [9] (fun s9 wr => ∃ (q : Nat) (M : Nat → Nat → Int), q ≤ n ∧ s9 = .int .i64 q ∧ Hid (MatK wr mb n n rb M) ∧ Hid (HalfM rs ts n r p q M) ∧ Hid (Below (D0 + 1) w1 wr)) (fun s9 _ => n - (intOf s9).toNat)
              case atStart => exact ⟨0, M, by omega, rfl, HM, HH, HB⟩
              case round =>
                clear HM HH HB
                obtain ⟨q, M, hq, rfl, HM, HH, HB⟩ := hrel
                by_cases hltq : q < n
                · have hqi : (q : Int) < (n : Int) := by omega
                  have hq0 : 0 ≤ (q : Int) := by omega
                  have HP0 := hid (HH.out.pair hltp hltq)
                  go_wp2_with fail
                  go_loopw [10] (fun s10 wr => ∃ (m : Nat) (M : Nat → Nat → Int), m ≤ 37 ∧ s10 = .int .i64 m ∧ Hid (MatK wr mb n n rb M) ∧ Hid (PairM rs ts n r p q m M) ∧ Hid (Below (D0 + 1) w1 wr)) (fun s10 _ => 37 - (intOf s10).toNat)
                  case atStart => exact ⟨0, M, by omega, rfl, HM, HP0, HB⟩
                  case round =>
                    clear HM HP0 HB HH
                    obtain ⟨m, M, hm, rfl, HM, HPM, HB⟩ := hrel
                    have hc1 := HM.out.cell hltp
                    have hc2 := HM.out.at hltp hltq
                    obtain ⟨a, ha⟩ : ∃ a, a = M p q := ⟨_, rfl⟩
                    rw [← ha] at hc2
                    by_cases hlm : m < 37
                    · have hmi : (m : Int) < 37 := by omega
                      have hm0 : 0 ≤ (m : Int) := by omega
                      by_cases hneg : a < 0
                      · have HT := hid (HX.out.below (HB1.out.trans (HB.out.mono (by have := HD0.out; omega))))
                        obtain ⟨b1, o1, c1, r1, _, r2⟩ := HT.out.rows p hltp
                        obtain ⟨b2, o2, c2, s1, _, s2⟩ := HT.out.rows q hltq
                        obtain ⟨hp2, e1⟩ := HT.out.rt.at hltp hlm
                        obtain ⟨hq2, e2⟩ := HT.out.rt.at hltq hlm
                        have r3 := r2 m hlm
                        have s3 := s2 m hlm
                        rw [e1] at r3
                        rw [e2] at s3
                        have hlook := HPM.out.look (by rw [← ha]; exact hneg) hp2 hq2
                        have HA := hid ha
                        obtain ⟨p2, hp2e⟩ : ∃ p2, p2 = stp rs p m := ⟨_, rfl⟩
                        obtain ⟨q2, hq2e⟩ : ∃ q2, q2 = stp rs q m := ⟨_, rfl⟩
                        rw [← hp2e] at r3 hp2 hlook
                        rw [← hq2e] at s3 hq2 hlook
                        have hp2i : (p2 : Int) < (n : Int) := by omega
                        have hq2i : (q2 : Int) < (n : Int) := by omega
                        have hp20 : 0 ≤ (p2 : Int) := by omega
                        have hq20 : 0 ≤ (q2 : Int) := by omega
                        have hc3 := HM.out.cell hp2
                        have hc4 := HM.out.at hp2 hq2
                        obtain ⟨x, hx⟩ : ∃ x, x = M p2 q2 := ⟨_, rfl⟩
                        rw [← hx] at hc4 hlook
                        obtain ⟨x0, x1, _⟩ := slot2 ((HB.out.block D0 (by omega)).trans HP.out)
                        have HPE := hid (And.intro hp2e hq2e)
                        clear r2 s2 e1 e2 ha hx hp2e hq2e x1
                        by_cases hd : dk rs ts r p2 q2
                        · obtain ⟨k1, k2⟩ := hlook.2 hd
                          have k3 : x < ((r + 1 : Nat) : Int) := by omega
                          have HPN := hid (show PairM rs ts n r p q (m + 1) (updM M p q ((r + 1 : Nat) : Int)) from HPM.out.hit (by rw [← HA.out]; exact hneg) hlm (by rw [← HPE.out.1, ← HPE.out.2]; exact hd))
                          have HM4 := hid (show ∀ k, MatK ((wr.drewN k).setCell ⟨rb p, q, none⟩ (.int .i64 ((r + 1 : Nat) : Int))) mb n n rb (updM M p q ((r + 1 : Nat) : Int)) from fun k => (HM.out.drewN k).set hltp hltq _)
                          have HB4 := hid (show ∀ k, Below (D0 + 1) w1 ((wr.drewN k).setCell ⟨rb p, q, none⟩ (.int .i64 ((r + 1 : Nat) : Int))) from fun k => (below_drewN HB.out k).setCell (p := ⟨rb p, q, none⟩) (by have := HR.out p hltp; have := HMS.out; show _ ≤ rb p; omega) _)
                          have hmf := HM.out.free hltp q
                          clear hlook hd
                          go_wp2_with fail
                          go_quiet (fail)
                          go_wp2_with fail
                          go_roundw
                          case rel => exact ⟨m + 1, _, by omega, by go_num, hid (HM4.out _), HPN, hid (HB4.out _)⟩
                          case measure => simp [intOf]; omega
                        · have HPN := hid (show PairM rs ts n r p q (m + 1) M from HPM.out.skip (by rw [← HA.out]; exact hneg) (by rw [← HPE.out.1, ← HPE.out.2]; exact hd))
                          by_cases hx0 : 0 ≤ x
                          · have k3 : ¬ x < ((r + 1 : Nat) : Int) := fun h => hd (hlook.1 ⟨hx0, by omega⟩)
                            have k4 : ((r + 1 : Nat) : Int) ≤ x := by omega
                            clear hlook hd k3
                            go_wp2_with fail
                            go_quiet (fail)
                            go_wp2_with fail
                            go_roundw
                            case rel => first | exact ⟨m + 1, M, by omega, by go_num, hid (HM.out.drewN _), HPN, hid (below_drewN HB.out _)⟩ | exact ⟨m + 1, by omega, by omega, M, hid (HM.out.drewN _), HPN, hid (below_drewN HB.out _)⟩
                            case measure => simp [intOf]; omega
                          · have k4 : x < 0 := by omega
                            clear hlook hd hx0
                            go_wp2_with fail
                            go_quiet (fail)
                            go_wp2_with fail
                            go_roundw
                            case rel => first | exact ⟨m + 1, M, by omega, by go_num, hid (HM.out.drewN _), HPN, hid (below_drewN HB.out _)⟩ | exact ⟨m + 1, by omega, by omega, M, hid (HM.out.drewN _), HPN, hid (below_drewN HB.out _)⟩
                            case measure => simp [intOf]; omega
                      · have hpos : 0 ≤ a := by omega
                        have HHN := hid (show HalfM rs ts n r p (q + 1) M from HPM.out.done (.inl (by rw [← ha]; exact hpos)))
                        clear ha hneg
                        go_wp2_with fail
                        go_roundw
                        case rel => exact ⟨q + 1, M, by omega, by go_num, HM, HHN, HB⟩
                        case measure => simp [intOf]; omega
                    · obtain rfl : m = 37 := by omega
                      have HHN := hid (show HalfM rs ts n r p (q + 1) M from HPM.out.done (.inr (Nat.le_refl _)))
                      clear ha
                      go_wp2_with fail
                      go_roundw
                      case rel => exact ⟨q + 1, M, by omega, by go_num, HM, HHN, HB⟩
                      case measure => simp [intOf]; omega
                · obtain rfl : n = q := by omega
                  have HHN := hid (show HalfM rs ts n r (p + 1) 0 M from HH.out.next)
                  go_wp2_with fail
                  go_roundw
                  case rel => exact ⟨p + 1, M, by omega, by go_num, HM, HHN, HB⟩
                  case measure => simp [intOf]; omega
            · obtain rfl : n = p := by omega
              have HFN := hid (show ∀ p' q', p' < n → q' < n → APart rs ts (r + 1) p' q' (M p' q') from HH.out.fin)
              go_wp2_with fail
              go_roundw
              case rel => exact ⟨r + 1, M, by omega, by go_num, HM, HFN, HB⟩
              case measure => simp [intOf]; omega
        · obtain rfl : n = r := by omega
          have hge : ¬ ((n + 1 : Nat) : Int) ≤ (n : Int) := by omega
          go_wp2_with fail
          go_ret
          have hD := HD0.out
          have hmz := HMS.out
          exact ⟨mb, rb, M, rfl, by omega, fun p' hp' => by have := HR.out p' hp'; omega, HM.out, HF.out, HB1.out.trans (HB.out.mono (by omega))⟩
end Go.Proofs.Ytmdkmobcglnmgaa
