/- TrieSets, walked. No conditions but what lies in memory. -/
import Derived.Test.YtehchnagjdmdgaaBb
import Derived.Test.YtehchnagjdmdgaaIz
import Derived.Test.YtehchnagjdmdgaaSm
import Derived.Test.YtehchnagjdmdgaaAw
namespace Go.Proofs.Ytehchnagjdmdgaa
open Go.RowKit
set_option linter.unusedSimpArgs false
theorem may_parts3 {other : Int} {es : List Ent} (h : mayE other es = true) : (∀ e ∈ es, goodE e = true) ∧ 0 ≤ other ∧ other ≤ 255 := by
  unfold mayE at h
  rw [Bool.and_eq_true] at h
  exact ⟨List.all_eq_true.1 h.2, by have := h.1; unfold classB at this; simpa using this⟩
theorem sortB_up {l : List Int} (h : l.Nodup) : (sortB l).Pairwise (· < ·) := by
  have h1 : (sortB l).Pairwise fun a b => decide (a ≤ b) = true := List.pairwise_mergeSort (fun a b c hab hbc => by simp at hab hbc ⊢; omega) (fun a b => by simp; omega) l
  have h2 : (sortB l).Nodup := ((List.mergeSort_perm l _).nodup_iff).2 h
  rw [List.nodup_iff_pairwise_ne] at h2
  exact (h1.and h2).imp fun ⟨a, b⟩ => by simp at a; omega
/-- The classes of a trie: rising bytes, those that numbers have. -/
theorem cells_is {other : Int} {es : List Ent} (h : mayE other es = true) (n : Nat) : (cellsOf (blksTo other es n)).Pairwise (· < ·) ∧ (∀ x ∈ cellsOf (blksTo other es n), 0 ≤ x ∧ x ≤ 255) ∧ (cellsOf (blksTo other es n)).length ≤ 256 ∧ (∀ l ∈ blksTo other es n, ∀ x ∈ l, 0 ≤ x ∧ x ≤ 255) ∧ ∀ x, x ∈ cellsOf (blksTo other es n) ↔ ∃ r : Int, 0 ≤ r ∧ r < ((n * 256 : Nat) : Int) ∧ x = cls other es r := by
  have hp := may_parts3 h
  have h1 : ∀ l ∈ blksTo other es n, ∀ x ∈ l, 0 ≤ x ∧ x ≤ 255 := fun l hl x hx => by
    obtain ⟨q, -, rfl⟩ := blks_all other es n l hl
    exact (blk_byte hp.1 hp.2 q).2 x hx
  have h2 : ∀ x, x ∈ cellsOf (blksTo other es n) ↔ ∃ r : Int, 0 ≤ r ∧ r < ((n * 256 : Nat) : Int) ∧ x = cls other es r := fun x => by
    unfold cellsOf
    rw [mem_sortB, mem_addsC]
    have h := mem_blks other es n x
    rw [show (((n * 256 : Nat) : Int)) = (n : Int) * 256 by omega, ← h]
    simp only [List.not_mem_nil, false_or, List.mem_flatten]
  refine ⟨sortB_up (nodup_addsC List.nodup_nil), fun x hx => ?_, ?_, h1, h2⟩
  · obtain ⟨r, -, -, rfl⟩ := (h2 x).1 hx
    exact cls_byte hp.1 hp.2 r
  · unfold cellsOf
    rw [sortB_len]
    exact adds_byte fun x hx => by
      obtain ⟨l, hl, hx⟩ := List.mem_flatten.1 hx
      exact h1 l hl x hx
theorem setK_any {w : World} {t : Nat} {other y : Int} {es : List Ent} {K : Nat} (hK : K = 1114112) (h : IsTrie w t other es) (hg : ∀ e ∈ es, goodE e = true) (ho : 0 ≤ other ∧ other ≤ 255) :
    Calls Try.prog 15 #[.pointer (some ⟨t, 0, none⟩), .int .i64 y] w fun e w' => ∃ v, e = .returned v ∧ OwnR w' w.heap.size v (setOf other es y K) ∧ Below w.heap.size w w' := by
  subst hK
  exact set_any h hg ho
theorem blocksN_any {w : World} {t : Nat} {other : Int} {es : List Ent} {N : Nat} (hN : N = (blksTo other es 4352).length) (h : IsTrie w t other es) : Calls Try.prog 18 #[.pointer (some ⟨t, 0, none⟩)] w fun e w' => e = .returned (.int .i64 (N : Int)) ∧ Below w.heap.size w w' := by
  rw [hN]
  exact blocks_any h
/-- One step of the count of the classes that are there. -/
theorem up_next {cs : List Int} (hup : cs.Pairwise (· < ·)) {k : Nat} {n : Int} (h1 : ∀ j, j < k → nth cs j < n) (h2 : ∀ j, k ≤ j → j < cs.length → n ≤ nth cs j) : (n ∈ cs → k < cs.length ∧ nth cs k = n ∧ (∀ j, j < k + 1 → nth cs j < n + 1) ∧ ∀ j, k + 1 ≤ j → j < cs.length → n + 1 ≤ nth cs j) ∧ (n ∉ cs → (∀ j, j < k → nth cs j < n + 1) ∧ ∀ j, k ≤ j → j < cs.length → n + 1 ≤ nth cs j) := by
  constructor
  · intro hn
    obtain ⟨j, hj, e⟩ := nth_of_mem hn
    have hkj : k ≤ j := by
      rcases Nat.lt_or_ge j k with h | h
      · have := h1 j h; omega
      · exact h
    have hk : nth cs k = n := by
      rcases Nat.lt_or_ge k j with h | h
      · have h3 := up_nth hup h hj
        have h4 := h2 k (Nat.le_refl _) (by omega)
        omega
      · have : k = j := by omega
        rw [this]; exact e
    refine ⟨by omega, hk, fun j hj => ?_, fun j h3 h4 => ?_⟩
    · by_cases e : j = k
      · rw [e, hk]; omega
      · have := h1 j (by omega); omega
    · have := up_nth hup (show k < j by omega) h4
      omega
  · intro hn
    refine ⟨fun j hj => by have := h1 j hj; omega, fun j h3 h4 => ?_⟩
    have h5 := h2 j h3 h4
    have : nth cs j ≠ n := fun e => hn (e ▸ nth_mem h4)
    omega
set_option maxRecDepth 100000 in
set_option maxHeartbeats 4000000 in
theorem sets_walk (S : Nat → Prop) (other y : Int) (A : Option Addr) (c : Nat) (es : List Ent) (w : World) (h : IsEnts w S (.slice A es.length c) es) :
    Calls Try.prog 5 #[.int .i64 other, .slice A es.length c, .int .i64 y] w fun e w' => e = .returned (.bool true) ∧ Below w.heap.size w w' := by
  have HE := hid h
  have hel := h.le
  clear h
  cases hg : greatE es with
  | true =>
    have HG := hid hg
    clear hg
    go_enter Try.func5, Try.ntmps5
    go_wp2_with fail
    refine (great_any S A c es w HE.out).mono ?_
    rintro e w1 ⟨rfl, hb⟩
    rw [HG.out]
    have HB1 := hid hb
    clear hb
    go_wp2_with fail
    refine (awake_any w1).mono ?_
    rintro e w2 ⟨rfl, hb⟩
    have HB2 := hid (ends_true HB1.out hb)
    clear hb
    go_wp2_with fail
    go_ret
    exact ⟨rfl, HB2.out⟩
  | false =>
  have HG := hid hg
  have HGN := hid (greatE_no hg)
  clear hg
  go_enter Try.func5, Try.ntmps5
  go_wp2_with fail
  refine (great_any S A c es w HE.out).mono ?_
  rintro e w1 ⟨rfl, hb⟩
  rw [HG.out]
  have HB1 := hid hb
  clear hb
  go_wp2_with fail
  refine (awake_any w1).mono ?_
  rintro e w2 ⟨rfl, hb⟩
  have HB2 := hid (ends_true HB1.out hb)
  clear hb
  go_wp2_with fail
  refine (may_any S A c other es w2 (HE.out.below HB2.out)).mono ?_
  rintro e w3 ⟨rfl, hb⟩
  have HB3 := hid (ends_true HB2.out hb)
  clear hb
  cases hm : mayE other es with
  | false =>
    clear hm
    go_wp2_with fail
    go_ret
    exact ⟨rfl, HB3.out⟩
  | true =>
  have HM := hid hm
  have HMP := hid (may_parts3 hm)
  clear hm
  go_wp2_with fail
  refine (to_any S A c es w3 (HE.out.below HB3.out) (by have := HGN.out.1; omega) (fun e he => by have := HGN.out.2 e he; omega)).mono ?_
  rintro e w4 ⟨A4, c4, rfl, hE4, hb⟩
  have HE4 := hid hE4
  have HB4 := hid (ends_true HB3.out hb)
  clear hb hE4
  go_wp2_with fail
  refine (new_right HE4.out (by have := HGN.out.1; omega) HM.out).mono ?_
  rintro e w5 ⟨t, rfl, ht, hb⟩
  have HT5 := hid ht
  have HB5 := hid (ends_true HB4.out hb)
  clear hb ht HE4 HB1 HB2 HB3 HB4
  obtain ⟨K, hK⟩ : ∃ K : Nat, K = 1114112 := ⟨_, rfl⟩
  obtain ⟨P, hP⟩ : ∃ P : Nat, P = 4352 := ⟨_, rfl⟩
  obtain ⟨bs, hbs⟩ : ∃ bs, bs = blksTo other es 4352 := ⟨_, rfl⟩
  obtain ⟨cs, hcs⟩ : ∃ cs, cs = cellsOf bs := ⟨_, rfl⟩
  have HKK := hid hK
  have HBS := hid hbs
  have HCS := hid hcs
  have HCI := hid (show cs.Pairwise (· < ·) ∧ (∀ x ∈ cs, 0 ≤ x ∧ x ≤ 255) ∧ cs.length ≤ 256 ∧ (∀ l ∈ bs, ∀ x ∈ l, 0 ≤ x ∧ x ≤ 255) ∧ ∀ x, x ∈ cs ↔ ∃ r : Int, 0 ≤ r ∧ r < (K : Int) ∧ x = cls other es r by
    rw [hcs, hbs]
    have h := cells_is HM.out 4352
    rw [show 4352 * 256 = K by omega] at h
    exact h)
  have HRS := hid (show ∀ y, refSet other es y = setOf other es y K from fun y => refSet_is HMP.out.1 y (by omega))
  have HEM := hid (show ∀ y, setOf other es y K = [] ↔ ¬ ∃ r : Int, 0 ≤ r ∧ r < (K : Int) ∧ y = cls other es r from fun y => set_empty (n := P) (by omega) (by omega))
  clear hK hP hbs hcs
  go_wp2_with fail
  refine (setK_any (y := y) HKK.out HT5.out HMP.out.1 HMP.out.2).mono ?_
  rintro e w6 ⟨v6, rfl, ho6, hb⟩
  have HO6 := hid ho6
  have HT6 := hid (HT5.out.below hb)
  have HB6 := hid (ends_true HB5.out hb)
  clear ho6 hb HT5 HB5
  go_wp2_with fail
  refine (refSet_any S A c other y es w6 (HE.out.below HB6.out) HMP.out.1 HGN.out.1 HGN.out.2).mono ?_
  rintro e w7 ⟨A7, c7, rfl, ho7, hb⟩
  rw [HRS.out] at ho7 ⊢
  have HO7 := hid ho7
  have HO6b := hid (HO6.out.below hb)
  have HT7 := hid (HT6.out.below hb)
  have HB7 := hid (ends_true HB6.out hb)
  clear ho7 hb HT6 HB6 HO6
  obtain ⟨st, hst⟩ : ∃ st, st = setOf other es y K := ⟨_, rfl⟩
  rw [← hst] at HO7 HO6b ⊢
  clear hst
  obtain ⟨A6, c6, e6⟩ := HO6b.out.is.form
  subst e6
  go_wp2_with fail
  refine (is_any _ _ A6 A7 c6 c7 st st w7 HO6b.out.is HO7.out.is).mono ?_
  rintro e w8 ⟨rfl, hb⟩
  rw [show decide (st = st) = true from decide_eq_true rfl]
  have HT8 := hid (HT7.out.below hb)
  have HB8 := hid (ends_true HB7.out hb)
  clear hb HT7 HB7 HO7 HO6b
  obtain ⟨N, hN⟩ : ∃ N, N = bs.length := ⟨_, rfl⟩
  have HN := hid (show N = (blksTo other es 4352).length by rw [hN, HBS.out])
  clear hN
  go_wp2_with fail
  refine (blocksN_any HN.out HT8.out).mono ?_
  rintro e w9 ⟨rfl, hb⟩
  have HT9 := hid (HT8.out.below hb)
  have HB9 := hid (ends_true HB8.out hb)
  clear hb HT8 HB8
  go_wp2_with fail
  refine (refBlocks_any S A c other es w9 (HE.out.below HB9.out) HMP.out.1 HMP.out.2 HGN.out.1 HGN.out.2 N HN.out).mono ?_
  rintro e w10 ⟨rfl, hb⟩
  have HT10 := hid (HT9.out.below hb)
  have HB10 := hid (ends_true HB9.out hb)
  clear hb HT9 HB9
  go_wp2_with fail
  refine (classes_any HT10.out HBS.out HCI.out.2.2.2.1).mono ?_
  rintro e w11 ⟨v, rfl, ho, hb⟩
  rw [← HCS.out] at ho
  have HB11 := hid (ends_true HB10.out hb)
  have HK := hid (ownI_nums ho)
  obtain ⟨KA, kc, e1⟩ := HK.out.form
  subst e1
  clear ho hb HT10 HB10 HN HBS HCS HM
  have hkl : cs.length ≤ 256 := HCI.out.2.2.1
  go_wp2_with fail
  go_loopw [10, 11] (fun s10 s11 wr => ∃ (k n : Nat), k ≤ cs.length ∧ n ≤ 256 ∧ s10 = .int .i64 k ∧ s11 = .int .i64 n ∧ Hid ((∀ j, j < k → nth cs j < (n : Int)) ∧ ∀ j, k ≤ j → j < cs.length → (n : Int) ≤ nth cs j) ∧ Hid (Below w11.heap.size w11 wr)) (fun _ s11 _ => 256 - (intOf s11).toNat)
  case atStart => exact ⟨0, 0, by omega, by omega, rfl, rfl, hid ⟨fun j hj => (by omega), fun j _ hj => (HCI.out.2.1 _ (nth_mem hj)).1⟩, hid (Below.refl _ _)⟩
  case round =>
    obtain ⟨k, n, hk, hn, rfl, rfl, HI, HB⟩ := hrel
    by_cases hlt : n < 256
    · have HNX := hid (up_next HCI.out.1 HI.out.1 HI.out.2)
      go_wp2_with fail
      refine (refSet_any S A c other (n : Int) es wr (HE.out.below (ends_true HB11.out HB.out)) HMP.out.1 HGN.out.1 HGN.out.2).mono ?_
      rintro e wb ⟨A7, c7, rfl, ho7, hb⟩
      rw [HRS.out]
      have HBB := hid (HB.out.trans (hb.mono HB.out.size))
      have HMM := hid (HCI.out.2.2.2.2 (n : Int))
      have HEE := hid (HEM.out (n : Int))
      obtain ⟨st, hst⟩ : ∃ st, st = setOf other es (n : Int) K := ⟨_, rfl⟩
      rw [← hst] at HEE ⊢
      clear ho7 hb hst
      rcases st with _ | ⟨z, st⟩
      · have hno : (n : Int) ∉ cs := fun e => (HEE.out.1 rfl) (HMM.out.1 e)
        have HNN := hid (HNX.out.2 hno)
        clear hno
        go_wp2_with fail
        exact ⟨⟨k, n + 1, hk, by omega, rfl, by go_num, HNN, HBB⟩, by simp [intOf]; omega⟩
      · have hin : (n : Int) ∈ cs := by
          rcases Classical.em ((n : Int) ∈ cs) with h | h
          · exact h
          · have := HEE.out.2 (fun e => h (HMM.out.2 e)); cases this
        obtain ⟨hkl2, hnk, h3, h4⟩ := HNX.out.1 hin
        have HNN := hid (And.intro h3 h4)
        obtain ⟨kb, ko, kc', e1, -, hkb, hkc⟩ := HK.out.at hkl2
        obtain ⟨rfl, rfl⟩ : KA = some ⟨kb, ko, none⟩ ∧ kc = kc' := by injection e1 with e1 e2 e3; exact ⟨e1, e3⟩
        rw [hnk] at hkc
        have hcell := (HBB.out.cell (p := ⟨kb, ko + k, none⟩) hkb).trans hkc
        have hki : (k : Int) < (cs.length : Int) := by omega
        clear hin h3 h4 hnk hkc e1
        go_wp2_with fail
        exact ⟨⟨k + 1, n + 1, by omega, by omega, by go_num, by go_num, HNN, HBB⟩, by simp [intOf]; omega⟩
    · have hke : k = cs.length := by
        rcases Nat.lt_or_ge k cs.length with h | h
        · have h1 := HI.out.2 k (Nat.le_refl _) h
          have h2 := HCI.out.2.1 _ (nth_mem h)
          omega
        · omega
      have HKE := hid hke
      subst hke
      go_wp2_with fail
      go_ret
      exact ⟨rfl, ends_true HB11.out HB.out⟩
end Go.Proofs.Ytehchnagjdmdgaa
