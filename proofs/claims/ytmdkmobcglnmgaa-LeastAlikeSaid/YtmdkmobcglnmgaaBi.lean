/- The first marks that tell two states apart, as the reference reads them off the matrix: the walk. Conditions: a right automaton, its matrix. -/
import Derived.Test.YtmdkmobcglnmgaaBh
namespace Go.Proofs.Ytmdkmobcglnmgaa
open Go.RowKit
set_option linter.unusedSimpArgs false

/-- Marks that lead to a pair, the least mark each time. -/
def PreW (rs : List (List Int)) (M : Nat → Nat → Int) (p0 q0 : Nat) (zs : List Nat) (p q : Nat) : Prop := ∀ r, Greedy rs M p q r → Greedy rs M p0 q0 (zs ++ r)
theorem apart_near {d : D} {n : Nat} {M : Nat → Nat → Int} (hr : RT d.next n) (hA : ∀ p q, p < n → q < n → APart d.next d.tells n p q (M p q)) {p q k m : Nat} (hp : p < n) (hq : q < n) (h : M p q = ((k + 1 : Nat) : Int)) (hm : m < 37) (hd : dk d.next d.tells k (stp d.next p m) (stp d.next q m)) : M (stp d.next p m) (stp d.next q m) = (k : Int) := by
  have hpq := hA p q hp hq
  rcases hpq with ⟨e, _⟩ | ⟨k', e0, e, _, hmin⟩
  · rw [h] at e; omega
  · obtain rfl : k' = k + 1 := by rw [h] at e; omega
    rcases hA _ _ (hr.at hp hm).1 (hr.at hq hm).1 with ⟨_, e2⟩ | ⟨j, e1, e2, e3, e4⟩
    · exact absurd (dk_mono (by omega) hd) e2
    · have h1 : ¬ j < k := fun hlt => hmin (j + 1) (by omega) (.inr ⟨m, hm, e3⟩)
      have h2 : ¬ k < j := fun hlt => e4 k hlt hd
      rw [e2]; omega
theorem apart_step {d : D} {n : Nat} {M : Nat → Nat → Int} (hr : RT d.next n) (hA : ∀ p q, p < n → q < n → APart d.next d.tells n p q (M p q)) {p q k : Nat} (hp : p < n) (hq : q < n) (h : M p q = ((k + 1 : Nat) : Int)) : k + 1 ≤ n ∧ ∃ m, m < 37 ∧ M (stp d.next p m) (stp d.next q m) = (k : Int) := by
  have hpq := hA p q hp hq
  rcases hpq with ⟨e, _⟩ | ⟨k', e0, e, hd, hmin⟩
  · rw [h] at e; omega
  · obtain rfl : k' = k + 1 := by rw [h] at e; omega
    rcases hd with hd | ⟨m, hm, hd⟩
    · exact absurd hd (hmin k (by omega))
    · exact ⟨e0, m, hm, apart_near hr hA hp hq h hm hd⟩
def WordAns (w : World) (d : D) (p q : Nat) (e : Ending) (w' : World) : Prop := ∃ v u, e = .returned v ∧ FirstW d d p q u ∧ IsNums .i64 w' (fun b => w.heap.size ≤ b) v (u.map fun (m : Nat) => (m : Int)) ∧ Below w.heap.size w w'
set_option maxRecDepth 100000 in
set_option maxHeartbeats 4000000 in
theorem word_any (w : World) (nb no nc tb to' tc n xb : Nat) (rb : Nat → Nat) (M : Nat → Nat → Int) (d : D) (h : TabX w nb no nc tb to' tc n d.next d.tells) (hm : MatK w xb n n rb M) (hA : ∀ p q, p < n → q < n → APart d.next d.tells n p q (M p q)) (p0 q0 : Nat) (hp0 : p0 < n) (hq0 : q0 < n) (h0 : 0 ≤ M p0 q0) :
    Calls Try.prog 39 #[.agg #[.slice (some ⟨nb, no, none⟩) n nc, .slice (some ⟨tb, to', none⟩) n tc], .slice (some ⟨xb, 0, none⟩) n n, .int .i64 p0, .int .i64 q0] w (WordAns w d p0 q0) := by
  have HX := hid h
  have HMK := hid hm
  have HA := hid hA
  have hn1000 := h.n1.2
  obtain ⟨w1, hw1⟩ : ∃ w1, w1 = w.alloc (.cells #[.slice (some ⟨nb, no, none⟩) n nc, .slice (some ⟨tb, to', none⟩) n tc] 29) := ⟨_, rfl⟩
  have HB1 := hid (show Below w.heap.size w w1 by rw [hw1]; exact (Below.refl _ _).alloc (Nat.le_refl _) _)
  have HL1 := hid (show w.heap.size < w1.heap.size by rw [hw1]; simp)
  have HP := hid (show w1.heap[w.heap.size]? = some (.cells #[.slice (some ⟨nb, no, none⟩) n nc, .slice (some ⟨tb, to', none⟩) n tc] 29 (0, 0)) by rw [hw1]; exact heap_alloc_new _ _)
  have HLOW := hid (show ∀ Y, Below w1.heap.size w1 Y → Y.cell? ⟨w.heap.size, 0, none⟩ = some (.slice (some ⟨nb, no, none⟩) n nc) ∧ TabX Y nb no nc tb to' tc n d.next d.tells ∧ (∀ p, p < n → Y.cell? ⟨xb, p, none⟩ = some (.slice (some ⟨rb p, 0, none⟩) n n)) ∧ (∀ p q, p < n → q < n → Y.cell? ⟨rb p, q, none⟩ = some (.int .i64 (M p q))) from fun Y hY => by
    obtain ⟨a, _⟩ := slot2 ((hY.block w.heap.size HL1.out).trans HP.out)
    have hb := HB1.out.trans (hY.mono HB1.out.size)
    exact ⟨a, HX.out.below hb, fun p hp => (HMK.out.below hb).cell hp, fun p q hp hq => (HMK.out.below hb).at hp hq⟩)
  have HBW := hid (show ∀ Y, Below w1.heap.size w1 Y → Below w.heap.size w Y from fun Y hY => HB1.out.trans (hY.mono HB1.out.size))
  have HPRE0 := hid (show PreW d.next M p0 q0 [] p0 q0 from fun r hr => hr)
  have HZ0 := hid (show OwnI w1 w1.heap.size (.slice none 0 0) (([] : List Nat).map fun (m : Nat) => (m : Int)) from World.ownsRow_nil _ _ _ _)
  have HH0 := hid h0
  clear h hm hA h0
  go_enter Try.func39, Try.ntmps39
  go_wp2_with fail
  rw [← hw1]
  obtain ⟨D0, hD0⟩ : ∃ D0, D0 = w.heap.size := ⟨_, rfl⟩
  have HD0 := hid hD0
  rw [← hD0] at HLOW ⊢
  clear hw1 hD0
  go_loopw [2, 3, 9] (fun s2 s3 s9 wr => ∃ (p q : Nat) (zs : List Nat), p < n ∧ q < n ∧ s2 = .int .i64 p ∧ s3 = .int .i64 q ∧ Hid (0 ≤ M p q ∧ (zs.length : Int) + M p q ≤ n) ∧ Hid (PreW d.next M p0 q0 zs p q) ∧ Hid (OwnI wr w1.heap.size s9 (zs.map fun (m : Nat) => (m : Int))) ∧ Hid (Below w1.heap.size w1 wr)) (fun s2 s3 _ _ => (M (intOf s2).toNat (intOf s3).toNat).toNat)
  case atStart =>
    refine ⟨p0, q0, [], hp0, hq0, rfl, rfl, hid ⟨HH0.out, ?_⟩, HPRE0, HZ0, hid (Below.refl _ _)⟩
    have := HA.out p0 q0 hp0 hq0
    rcases this with ⟨e, _⟩ | ⟨k, e1, e2, _⟩
    · have := HH0.out; omega
    · rw [e2]; simp; omega
  case round =>
    clear HPRE0 HZ0
    obtain ⟨p, q, zs, hp, hq, rfl, rfl, HM, HPR, HZ, HB⟩ := hrel
    obtain ⟨l0, l1, l2, l3⟩ := HLOW.out _ HB.out
    have c1 := l2 p hp
    have c2 := l3 p q hp hq
    have HL1' := hid l1
    have HL2 := hid l2
    have HL3 := hid l3
    have hpi : (p : Int) < (n : Int) := by omega
    have hpn : 0 ≤ (p : Int) := by omega
    have hqi : (q : Int) < (n : Int) := by omega
    have hqn : 0 ≤ (q : Int) := by omega
    obtain ⟨D, hD⟩ : ∃ D, D = M p q := ⟨_, rfl⟩
    have HD := hid hD
    rw [← hD] at c2
    have hM := HM.out
    rw [← hD] at hM
    obtain ⟨hD1, hD2⟩ := hM
    clear l1 l2 l3 hD
    by_cases hpos : 0 < D
    · obtain ⟨k, hk⟩ : ∃ k : Nat, D = ((k + 1 : Nat) : Int) := ⟨D.toNat - 1, by omega⟩
      have HK := hid (show M p q = ((k + 1 : Nat) : Int) by rw [← HD.out, hk])
      have HDK := hid hk
      obtain ⟨hkn, hex⟩ := apart_step HX.out.rt HA.out hp hq HK.out
      have HEX := hid hex
      have hDk : D ≤ 1000 := by omega
      have hwr : IntKind.i64.wrap (D - 1) = D - 1 := IntWalk.i64_in _ (by omega)
      clear hex hk
      go_wp2_with fail
      go_loopw [10] (fun s10 wr => ∃ m : Nat, m < 37 ∧ s10 = .int .i64 m ∧ Hid (∀ j, j < m → M (stp d.next p j) (stp d.next q j) ≠ (k : Int)) ∧ Hid (OwnI wr w1.heap.size u9 (zs.map fun (m : Nat) => (m : Int))) ∧ Hid (Below w1.heap.size w1 wr)) (fun s10 _ => 37 - (intOf s10).toNat)
      case atStart => exact ⟨0, by omega, rfl, hid (fun j hj => by omega), HZ, HB⟩
      case round =>
        clear HZ HB HL1' HL2 HL3 c1 c2 l0
        obtain ⟨m, hm, rfl, HJ, HZ, HB⟩ := hrel
        obtain ⟨l0, l1, l2, l3⟩ := HLOW.out _ HB.out
        have c1 := l2 p hp
        have c2 := l3 p q hp hq
        rw [← HD.out] at c2
        obtain ⟨b1, o1, k1, r1, _, r2⟩ := l1.rows p hp
        obtain ⟨b2, o2, k2, s1, _, s2⟩ := l1.rows q hq
        obtain ⟨hxn, e1⟩ := l1.rt.at hp hm
        obtain ⟨hyn, e2⟩ := l1.rt.at hq hm
        have r3 := r2 m hm
        have s3 := s2 m hm
        rw [e1] at r3
        rw [e2] at s3
        obtain ⟨x, hx⟩ : ∃ x, x = stp d.next p m := ⟨_, rfl⟩
        obtain ⟨y, hy⟩ : ∃ y, y = stp d.next q m := ⟨_, rfl⟩
        rw [← hx] at r3 hxn
        rw [← hy] at s3 hyn
        have c3 := l2 x hxn
        have c4 := l3 x y hxn hyn
        obtain ⟨E, hE⟩ : ∃ E, E = M x y := ⟨_, rfl⟩
        rw [← hE] at c4
        have hxi : (x : Int) < (n : Int) := by omega
        have hx0 : 0 ≤ (x : Int) := by omega
        have hyi : (y : Int) < (n : Int) := by omega
        have hy0 : 0 ≤ (y : Int) := by omega
        have hmi : (m : Int) < 37 := by omega
        have hm0 : 0 ≤ (m : Int) := by omega
        have HXY := hid (And.intro hx (And.intro hy hE))
        clear l1 l2 l3 r2 s2 e1 e2 hx hy hE
        by_cases heq : E = D - 1
        · have hne : (E != D - 1) = false := by simpa using heq
          have HEK := hid (show M (stp d.next p m) (stp d.next q m) = (k : Int) by rw [← HXY.out.1, ← HXY.out.2.1, ← HXY.out.2.2, heq, HDK.out]; omega)
          clear heq
          go_wp2_with fail
          go_quiet (fail)
          have HB2 := hid (below_drewN HB.out nq)
          have HZ2 := hid (show OwnI (wr.drewN nq) w1.heap.size u9 (zs.map fun (m : Nat) => (m : Int)) from HZ.out)
          obtain ⟨wd, hwd⟩ : ∃ wd, wd = wr.drewN nq := ⟨_, rfl⟩
          rw [← hwd] at HB2 HZ2 ⊢
          have HZL := hid (show (zs.map fun (m : Nat) => (m : Int)).length ≤ 1010000 from by rw [List.length_map]; omega)
          have HSZ := hid HB2.out.size
          clear hwd hne hwr
          go_wp2_with (first
            | (at_builtin; refine wpList_app_int rfl (.tmp 51) (.tmp 53) rfl (w0 := wd) (z := (m : Int)) rfl rfl HZ2.out rfl HZL.out HSZ.out ?_
               intro A7 c7 w7 hown7 hg7 hat7
               have HB7 := hid (below_own (HB2.out.alloc HSZ.out _) (HZ2.out.alloc _) hg7 (Nat.le_trans HSZ.out (by simp))))
            | fail)
          have HZ7 := hid (show OwnI w7 w1.heap.size (.slice A7 (zs.length + 1) c7) ((zs ++ [m]).map fun (m : Nat) => (m : Int)) from by have h := hown7; rw [List.length_map] at h; rw [List.map_append]; exact h)
          obtain ⟨l0, l1, l2, l3⟩ := HLOW.out _ HB7.out
          obtain ⟨b1', o1', k1', r1', _, r2'⟩ := l1.rows p hp
          obtain ⟨b2', o2', k2', s1', _, s2'⟩ := l1.rows q hq
          obtain ⟨_, e1⟩ := l1.rt.at hp hm
          obtain ⟨_, e2⟩ := l1.rt.at hq hm
          have r3' := r2' m hm
          have s3' := s2' m hm
          rw [e1, ← HXY.out.1] at r3'
          rw [e2, ← HXY.out.2.1] at s3'
          have HPR2 := hid (show PreW d.next M p0 q0 (zs ++ [m]) x y from fun r hr => by
            rw [List.append_assoc]
            refine HPR.out _ (Greedy.cons HK.out hm HEK.out HJ.out ?_)
            rw [← HXY.out.1, ← HXY.out.2.1]; exact hr)
          have HM2 := hid (show 0 ≤ M x y ∧ (((zs ++ [m]).length : Nat) : Int) + M x y ≤ n from by
            have h1 := HEK.out
            rw [← HXY.out.1, ← HXY.out.2.1] at h1
            have h2 := HDK.out
            rw [h1, List.length_append, List.length_singleton]
            omega)
          have HMXY := hid (show M x y = (k : Int) from by have h1 := HEK.out; rw [← HXY.out.1, ← HXY.out.2.1] at h1; exact h1)
          clear hown7 hg7 hat7 l1 l2 l3 r2' s2' e1 e2 r1 r3 s1 s3 c1 c2 c3 c4
          go_wp2_with fail
          go_quiet (fail)
          go_wp2_with fail
          go_roundw
          case rel => exact ⟨x, y, zs ++ [m], hxn, hyn, rfl, rfl, HM2, HPR2, hid (show OwnI (w7.drewN nq) w1.heap.size (.slice A7 (zs.length + 1) c7) ((zs ++ [m]).map fun (m : Nat) => (m : Int)) from HZ7.out), hid (below_drewN HB7.out _)⟩
          case measure =>
            simp only [intOf, Int.toNat_natCast]
            rw [HMXY.out, HK.out]; omega
        · have hne : (E != D - 1) = true := by simpa using heq
          have HJ2 := hid (show ∀ j, j < m + 1 → M (stp d.next p j) (stp d.next q j) ≠ (k : Int) from fun j hj => by
            by_cases e : j = m
            · rw [e, ← HXY.out.1, ← HXY.out.2.1, ← HXY.out.2.2]
              intro h
              exact heq (by rw [h, HDK.out]; omega)
            · exact HJ.out j (by omega))
          have hm2 : m + 1 < 37 := by
            refine Nat.lt_of_not_le fun hge => ?_
            obtain ⟨j, hj, hjk⟩ := HEX.out
            exact HJ2.out j (by omega) hjk
          clear heq
          go_wp2_with fail
          go_quiet (fail)
          go_wp2_with fail
          go_roundw
          case rel => exact ⟨m + 1, hm2, by go_num, HJ2, hid (show OwnI (wr.drewN nq) w1.heap.size u9 (zs.map fun (m : Nat) => (m : Int)) from HZ.out), hid (below_drewN HB.out _)⟩
          case measure => simp [intOf]; omega
    · have hD0' : D = 0 := by omega
      have HG := hid (show Greedy d.next M p0 q0 zs from by have h := HPR.out [] (Greedy.nil (by rw [← HD.out]; exact hD0')); rwa [List.append_nil] at h)
      have hDle : D ≤ 0 := by omega
      clear hD0' hpos
      go_wp2_with fail
      go_ret
      exact ⟨_, zs, rfl, (greedy_first HX.out.rt HA.out zs p0 q0 hp0 hq0 HG.out).1, (own_nums HZ.out).mono (fun b hb _ => Nat.le_trans HB1.out.size hb.1), HBW.out _ HB.out⟩
end Go.Proofs.Ytmdkmobcglnmgaa
