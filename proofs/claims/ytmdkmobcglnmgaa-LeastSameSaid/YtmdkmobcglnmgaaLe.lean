/- The least automaton: the walk. Conditions: a right automaton. -/
import Derived.Test.YtmdkmobcglnmgaaLq
namespace Go.Proofs.Ytmdkmobcglnmgaa
open Go.RowKit
set_option linter.unusedSimpArgs false

/-- 'append(row, z)' of ints, the new number's cell made just before. -/
theorem wpList_app_int {w : World} {ops : Array Oper} {rest : List Oper} {o : Oper} {a : Act} {Q : Exit → Act → World → Prop} (hg : o.guard = none) (s x : Operand) (hop : o.op = .call { callee := .builtin .append, args := #[s, x], argTypes := #[32, 32] }) {B : Nat} {v : Value} {l : List Int} {w0 : World} {z : Int} (hw : w = w0.alloc (.cells #[.int .i64 z] 3))
    (hs : a.eval s = v) (hown : OwnI w0 B v l) (hx : a.eval x = .slice (some ⟨w0.heap.size, 0, none⟩) 1 1) (hl : l.length ≤ 1010000) (hB : B ≤ w0.heap.size)
    (h : ∀ A c w', OwnI w' B (.slice A (l.length + 1) c) (l ++ [z]) → w.grownBy w' v.ownBlock → ((Value.slice A (l.length + 1) c).ownBlock = v.ownBlock ∨ ∃ g, (Value.slice A (l.length + 1) c).ownBlock = some g ∧ w.heap.size ≤ g) → wpList Try.prog ops Q rest (a.put o.dst (.slice A (l.length + 1) c)) w') : wpList Try.prog ops Q (o :: rest) a w :=
  wpList_plain hg fun _ hK => wp_app_int s x hop hw hs hown hx hl hB fun v' w' h1 h2 h3 => by
    obtain ⟨A, c, e, _⟩ := own_arr h1
    rw [List.length_append, List.length_singleton] at e
    subst e
    exact hK _ _ (h A c w' h1 h2 h3)
theorem info52' : (Try.prog.info? 52).map (fun i => (i.zero, i.size, i.bytes)) = some (some (.int .u64 0), 1, 8) := by kernel_rfl
/-- 'append(row, z)' of what is told, in a drawn region, the new number's cell made just before. -/
theorem wp_app_u64 {w : World} {o : Oper} {a : Act} {Kn : Act → World → Prop} {Q : Exit → Act → World → Prop} (s x : Operand) (hop : o.op = .call { callee := .builtin .append, args := #[s, x], argTypes := #[26, 26] }) {B : Nat} {v : Value} {l : List Int} {w0 : World} {z : Int} (hw : w = w0.alloc (.cells #[.int .u64 z] 52))
    (hs : a.eval s = v) (hown : w0.ownsRow B 52 1 v l.length (l.map (.int .u64))) (hx : a.eval x = .slice (some ⟨w0.heap.size, 0, none⟩) 1 1) (hl : l.length ≤ 1010000) (hB : B ≤ w0.heap.size)
    (h : ∀ A c w', w'.ownsRow B 52 1 (.slice A (l.length + 1) c) (l ++ [z]).length ((l ++ [z]).map (.int .u64)) → w.grownBy w' v.ownBlock → Kn (a.put o.dst (.slice A (l.length + 1) c)) w') : Oper.wp Try.prog o a w Kn Q := by
  obtain ⟨i0, hi0, hz0, hz1, hz2⟩ := info_parts info52'
  subst hw
  refine wp_app _ s x 26 hop B 52 i0 _ 1 8 Try.underlying26 hi0 hz0 hz1 hz2 rfl (by decide) v _ _ hs (hown.alloc _) (some ⟨w0.heap.size, 0, none⟩) 1 1 _ hx (src_new w0 _ 52 1 rfl) (by simp [Value.oneCell']) (by simp only [maxLen]; omega) (by omega) (by simp; omega) fun v' w' h1 h2 h3 => ?_
  obtain ⟨A, c, rfl, _⟩ := own_arr h1
  exact h A c w' (by simpa using h1) h2
def LeastAns (w : World) (d : D) (e : Ending) (w' : World) : Prop :=
  ∃ nv tv al, e = .returned (.agg #[nv, tv]) ∧ AlIs al d ∧ IsD w' (fun b => w.heap.size ≤ b) (.agg #[nv, tv]) (leastD al d) ∧ Below w.heap.size w w'
set_option maxRecDepth 100000 in
set_option maxHeartbeats 4000000 in
theorem least_yes (S : Nat → Prop) (v : Value) (d : D) (w : World) (h : IsD w S v d) (hr : rightB d = true) (hu : ∀ z ∈ d.tells, u64ok z) :
    Calls Try.prog 32 #[v] w (LeastAns w d) := by
  obtain ⟨nv, tv, rfl, _, _⟩ := id h
  have HD := hid h
  have HR := hid hr
  obtain ⟨nb, no, nc, tb, to', tc, rfl, rfl, hx⟩ := tabX_of h hr hu
  have HX := hid hx
  have HU := hid hu
  have hn1 := hx.n1
  obtain ⟨D0, hD0⟩ : ∃ D0, D0 = w.heap.size := ⟨_, rfl⟩
  have HD0 := hid hD0
  obtain ⟨nv, hnv⟩ : ∃ nv, nv = Value.slice (some ⟨nb, no, none⟩) d.next.length nc := ⟨_, rfl⟩
  obtain ⟨tv, htv⟩ : ∃ tv, tv = Value.slice (some ⟨tb, to', none⟩) d.next.length tc := ⟨_, rfl⟩
  have HNV := hid hnv
  have HTV := hid htv
  rw [← hnv, ← htv] at h ⊢
  rw [← hnv, ← htv] at HD
  obtain ⟨w2, hw2⟩ : ∃ w2, w2 = (w.alloc (.cells #[nv, tv] 30)).alloc (.cells #[.slice none 0 0, .slice none 0 0] 30) := ⟨_, rfl⟩
  have hsz : w2.heap.size = D0 + 2 := by rw [hw2, hD0]; simp
  have HSZ := hid hsz
  have hb2 : Below w.heap.size w w2 := by rw [hw2]; exact ((Below.refl _ _).alloc (Nat.le_refl _) _).alloc (by simp) _
  have HB2 := hid hb2
  have HP0 := hid (show w2.heap[D0]? = some (.cells #[nv, tv] 30 (0, 0)) by rw [hw2, hD0, heap_alloc_old _ _ (by simp)]; exact heap_alloc_new _ _)
  have HP1 := hid (show w2.heap[D0 + 1]? = some (.cells #[.slice none 0 0, .slice none 0 0] 30 (0, 0)) by rw [hw2, hD0]; exact heap_alloc2_new _ _ _)
  obtain ⟨d0, d1, _⟩ := slot2 HP0.out
  rw [hD0, hw2] at d0 d1
  have HM0 := hid (show ∀ w : World, IMap (w.alloc (.map #[] 0)) w.heap.size [] from fun w => mapIs_new _ _ _ _)
  have hmm := @run_makeMap Try.prog
  clear h hr hu hx hsz hb2 hnv htv
  go_enter Try.func32, Try.ntmps32
  go_wp2_with (first
    | (go_at_call 26
       refine (right_any S _ d _ (HD.out.below (by first | exact HB2.out | exact (Below.refl _ _).alloc (Nat.le_refl _) _ | exact ((Below.refl _ _).alloc (Nat.le_refl _) _).alloc (by simp) _))).mono ?_
       rintro e w3 ⟨rfl, hb3⟩
       rw [HR.out]
       rw [← hw2] at hb3
       have HB3 := hid (HB2.out.trans (hb3.mono HB2.out.size))
       have HQ0 := hid ((hb3.block D0 (by rw [HSZ.out]; omega)).trans HP0.out)
       have HQ1 := hid ((hb3.block (D0 + 1) (by rw [HSZ.out]; omega)).trans HP1.out)
       obtain ⟨e0, e1, _⟩ := slot2 HQ0.out
       rw [hD0] at e0 e1
       have HS3 := hid hb3.size
       clear hb3)
    | (go_at_call 56
       rw [HNV.out, HTV.out]
       refine (blocks_any _ nb no nc tb to' tc _ _ _ (HX.out.below HB3.out)).mono ?_
       rintro e w4 ⟨bb, l, rfl, hg4, hi4, hl4, hr4, ha4, hb4⟩
       have HB4 := hid (HB3.out.trans (hb4.mono HB3.out.size))
       have HR0 := hid ((hb4.block D0 (by have := HS3.out; have := HSZ.out; omega)).trans HQ0.out)
       have HR1 := hid ((hb4.block (D0 + 1) (by have := HS3.out; have := HSZ.out; omega)).trans HQ1.out)
       have HBB := hid (show D0 + 1 < bb from by have := HS3.out; have := HSZ.out; omega)
       have HLT4 := hid hi4.lt
       have HI4 := hid hi4
       have hc0 := (show IntBlk (w4.alloc (.map #[] 0)) bb 3 .i64 l from hi4.keep (heap_alloc_old _ _ hi4.lt)).cell (j := 0) (by omega)
       have HL := hid (And.intro hl4 (And.intro hr4 ha4))
       have hk0 := hr4 0 (by omega)
       have HK0 := hid (show i64ok (nth l 0) from ⟨by omega, by omega⟩)
       clear hb4 hi4 hl4 hr4 ha4 hg4 hk0)
    | (with_reducible refine wpList_minsert intKey rfl (.tmp 19) (.tmp 22) (.const (.int .i64 0)) 84 rfl Try.underlying84 (HM0.out w4) (nth l 0) HK0.out 0 _ rfl rfl rfl rfl ?_
       intro w5 hm5 hg5)
    | fail)
  obtain ⟨X, hX⟩ : ∃ X, X = (w5.alloc (.cells #[.int .i64 0] 3)).alloc (.cells #[.slice none 0 0, .slice none 0 0] 30) := ⟨_, rfl⟩
  obtain ⟨mb, hmb⟩ : ∃ mb, mb = w4.heap.size := ⟨_, rfl⟩
  obtain ⟨fb0, hfb⟩ : ∃ fb0, fb0 = w5.heap.size := ⟨_, rfl⟩
  rw [← hX, ← hmb, ← hD0, ← hfb]
  have hg5' := hid hg5
  have hz5 : w4.heap.size + 1 ≤ w5.heap.size := by have := hg5.size; simpa using this
  have hlm : mb < fb0 := by rw [hmb, hfb]; omega
  have HLE0 := hid (show LeM mb D0 bb mb (fb0 + 1) nv tv l X (mset [] (nth l 0) 0) (.slice (some ⟨fb0, 0, none⟩) 1 1, [0]) (.slice none 0 0, []) [] (.slice none 0 0) (.slice none 0 0) [] from by
    have hm0 := hm5
    rw [← hmb] at hm0
    have k4 : ∀ b, b < mb → w5.heap[b]? = w4.heap[b]? := fun b hb => (hg5.block b (by simp; omega) (fun e => by injection e with e; omega)).trans (heap_alloc_old _ _ (by omega))
    have kX : ∀ b, b < fb0 → X.heap[b]? = w5.heap[b]? := fun b hb => by rw [hX, heap_alloc_old _ _ (by simp; omega), heap_alloc_old _ _ (by omega)]
    have hbm : bb < mb := by rw [hmb]; exact HLT4.out
    have hD := HBB.out
    have hf0 : X.heap[fb0]? = some (.cells #[.int .i64 0] 3 (0, 0)) := by rw [hX, hfb, heap_alloc_old _ _ (by simp)]; exact heap_alloc_new _ _
    refine ⟨?_, ?_, ?_, hm0.keep (kX mb hlm), ?_, RowSet.fresh ?_ |>.swap, World.ownsRow_nil _ _ _ _, World.ownsRow_nil _ _ _ _, ?_⟩
    · rw [kX _ (by omega), k4 _ (by omega)]; exact HR0.out
    · rw [kX _ (by omega), k4 _ (by omega)]; exact HR1.out
    · exact HI4.out.keep (by rw [kX _ (by omega), k4 _ (by omega)])
    · rw [hX, hfb]; exact heap_alloc2_new _ _ _
    · refine ⟨fun p hp => ?_, List.pairwise_singleton _ _⟩
      rw [List.mem_singleton.1 hp]
      exact (show IntBlk X fb0 3 .i64 [0] from hf0).own (l := [0]) (by omega) (by decide)
    · exact ⟨by omega, hbm, Nat.le_refl _, by omega⟩)
  have HBX := hid (show Below w.heap.size w X from by
    have h1 : Below w.heap.size w (w4.alloc (.map #[] 0)) := HB4.out.alloc HB4.out.size _
    have h2 : Below w.heap.size w w5 := h1.grown hg5 (Nat.le_trans HB4.out.size (by simp)) (fun k hk => by cases hk; exact HB4.out.size)
    rw [hX]
    exact (h2.alloc h2.size _).alloc (Nat.le_trans h2.size (by simp)) _)
  obtain ⟨al, hal⟩ : ∃ al, al = alB l := ⟨_, rfl⟩
  have HAL := hid hal
  have HALI := hid (show AlIs al d from fun p q hp hq => by
    rw [hal]
    simp only [alB, decide_eq_true_eq]
    exact HL.out.2.2 p q hp hq)
  have HNU := hid (show NumIs (mset [] (nth l 0) 0) l [0] from fun c => by
    rw [mget_mset]
    by_cases e : nth l 0 = c
    · rw [if_pos e]; simp [List.findIdx_cons, e]
    · rw [if_neg e]; simp [List.findIdx_cons, e, mget])
  have hn1000 := hn1.2
  have hn0 := hn1.1
  clear hg5 hg5' hm5 hX hmb hfb hc0 e0 e1 d0 d1 hw2 hD0 hmm hal hn1 hz5
  go_loopw [5, 7] (fun s5 s7 wr => ∃ (i : Nat) (m : List (Int × Int)) (nx tl : Value) (rows : List (Value × List Int)), s7 = .int .i64 i ∧ Hid (LInv al d.next.length d i) ∧ Hid (rows.map (·.2) = (lIter al d i).2.next) ∧
    Hid (LeM mb D0 bb mb (fb0 + 1) nv tv l wr m (s5, (lIter al d i).1) (.slice none 0 0, []) rows nx tl (lIter al d i).2.tells) ∧ Hid (NumIs m l (lIter al d i).1) ∧ Hid (Below w.heap.size w wr)) (fun _ s7 _ => 1000 - (intOf s7).toNat)
  case atStart => exact ⟨0, _, _, _, [], rfl, hid (LInv.zero al d hn0), hid rfl, HLE0, HNU, HBX⟩
  case round =>
    obtain ⟨i, m, nx, tl, rows, rfl, HLI, HRO, HM, HN, HB⟩ := hrel
    obtain ⟨st, hst⟩ : ∃ st, st = lIter al d i := ⟨_, rfl⟩
    have HST := hid hst
    have hfl := HLI.out.fi.len (fun s hs => (HALI.out s s hs hs).2 (Alk.refl _ _ _))
    rw [← hst] at HRO HM HN hfl
    obtain ⟨fA, fC, hfv, _⟩ := own_arr HM.out.rs.head
    dsimp only at hfv
    subst hfv
    clear HLE0 HNU HBX hst
    by_cases hlt : i < st.1.length
    · obtain ⟨q, hq, hqn⟩ := HLI.out.state (by rw [← HST.out]; exact hlt)
      rw [← HST.out] at hq
      have HQ := hid hq
      obtain ⟨fb, fo, fc2, hfe, _, hfb, hfc⟩ := (own_nums HM.out.rs.head).at hlt
      obtain ⟨hfA, hfC⟩ : fA = some ⟨fb, fo, none⟩ ∧ fC = fc2 := by simpa using hfe
      subst hfA hfC
      rw [hq] at hfc
      obtain ⟨rb, ro, rc, hrow0, hrb, hrc⟩ := HX.out.rows q hqn
      have hrow := (HB.out.cell (p := ⟨nb, no + q, none⟩) HX.out.nlt).trans hrow0
      have HRC := hid (show ∀ Y, Below w.heap.size w Y → ∀ m, m < 37 → Y.cell? ⟨rb, ro + m, none⟩ = some (.int .i64 (nth (row d.next q) m)) from fun Y hY m hm => (hY.cell (p := ⟨rb, ro + m, none⟩) hrb).trans (hrc m hm))
      obtain ⟨c0, c1, _⟩ := slot2 HM.out.d0
      rw [HNV.out] at c0
      have hqi : (q : Int) < (d.next.length : Int) := by omega
      have hq0 : 0 ≤ (q : Int) := by omega
      have hii : (i : Int) < (st.1.length : Int) := by omega
      have hi0 : 0 ≤ (i : Int) := by omega
      have HLR := hid (HX.out.rt.2 q hqn)
      clear hrc hrb hfe hfb hq c1 hrow0
      go_wp2_with fail
      go_quiet (fail)
      go_wp2_with fail
      have HM0' := hid (HM.out.grown (below_drewN' wr nq _))
      have HB0 := hid (below_drewN HB.out nq)
      obtain ⟨wi, hwi⟩ : ∃ wi, wi = wr.drewN nq := ⟨_, rfl⟩
      rw [← hwi] at HM0' HB0 ⊢
      have HFI0 := hid (show FIs al d.next.length st.1 by rw [HST.out]; exact HLI.out.fi)
      clear hwi hrow c0 hfc
      go_loopw [5, 8, 40] (fun s5 s8 s40 wr => ∃ (k : Nat) (m2 : List (Int × Int)), k ≤ 37 ∧ s40 = .int .i64 k ∧
        Hid (LeM mb D0 bb mb (fb0 + 1) nv tv l wr m2 (s5, (lRow al st.1 ((row d.next q).take k)).1) (s8, (lRow al st.1 ((row d.next q).take k)).2) rows nx tl st.2.tells) ∧
        Hid (FIs al d.next.length (lRow al st.1 ((row d.next q).take k)).1) ∧ Hid (NumIs m2 l (lRow al st.1 ((row d.next q).take k)).1) ∧ Hid (Below w.heap.size w wr)) (fun _ _ s40 _ => 37 - (intOf s40).toNat)
      case atStart => exact ⟨0, m, by omega, rfl, HM0', HFI0, HN, HB0⟩
      case round =>
        clear HM0' HB0 HFI0 HM HN HB
        obtain ⟨k, m2, hk, rfl, HM, HFI, HN, HB⟩ := hrel
        by_cases hltk : k < 37
        · have hkl : k < (row d.next q).length := by rw [HLR.out.1]; exact hltk
          obtain ⟨t, ht⟩ : ∃ t : Nat, nth (row d.next q) k = t := ⟨_, (Int.toNat_of_nonneg (HLR.out.2 k hltk).1).symm⟩
          have htn : t < d.next.length := by have := (HLR.out.2 k hltk).2; omega
          have hcz := HRC.out _ HB.out k hltk
          rw [ht] at hcz
          obtain ⟨s, hs⟩ : ∃ s, s = lRow al st.1 ((row d.next q).take k) := ⟨_, rfl⟩
          have hst := hid (show lRow al st.1 ((row d.next q).take (k + 1)) = lStep al s t by rw [hs, take_nth hkl, lRow_snoc, ht])
          have HSL := hid (show s.2.length = k by rw [hs, lRow_len, List.length_take]; omega)
          rw [← hs] at HM HFI HN
          have hsn := HFI.out.len (fun s hs => (HALI.out s s hs hs).2 (Alk.refl _ _ _))
          have hcb := HM.out.blk.cell (j := t) (by rw [HL.out.1]; exact htn)
          have HKEY := hid (show i64ok (nth l t) from by have := HL.out.2.1 t htn; exact ⟨by omega, by omega⟩)
          have hlook := HN.out.look (t : Int)
          rw [← HAL.out] at hlook
          have htz : ((t : Int)).toNat = t := rfl
          rw [htz] at hlook
          obtain ⟨gA, gC, hgv, _⟩ := own_arr HM.out.rs.head
          dsimp only at hgv
          subst hgv
          have HMB := hid (show mb ≤ wr.heap.size from Nat.le_of_lt HM.out.num.lt)
          have htl : (t : Int) < (d.next.length : Int) := by omega
          have ht0 : 0 ≤ (t : Int) := by omega
          have hkc : (k : Int) < 37 := by omega
          have HFI1 := hid (HFI.out.step (s := s) ⟨t, rfl, htn⟩)
          clear hs ht hkl htz
          by_cases hf : fnd al s.1 t < s.1.length
          · rw [if_pos hf] at hlook
            obtain ⟨j, hj⟩ : ∃ j, j = fnd al s.1 t := ⟨_, rfl⟩
            have HST1 := hid (show lStep al s t = (s.1, s.2 ++ [(j : Int)]) by unfold lStep; rw [if_pos hf, hj])
            rw [← hj] at hlook
            have HLOOK := hid hlook
            clear hf hj hlook
            go_wp2_with (first
              | (at_lookup; refine wpList_mlookup_some true intKey rfl (.tmp 45) (.tmp 49) 84 rfl Try.underlying84 _ (zero3 _) HM.out.num (nth l t) HKEY.out rfl rfl (j : Int) HLOOK.out ?_; intro u hu; rw [hu])
              | (at_builtin; refine wpList_app_int rfl (.tmp 67) (.tmp 69) rfl (w0 := wr) (z := (j : Int)) rfl rfl HM.out.rs.tail.head rfl (by show s.2.length ≤ _; rw [HSL.out]; omega) HMB.out ?_
                 intro A c w3 hown3 hg3 hat3)
              | fail)
            have HM3 := hid ((HM.out.alloc _).putR hg3 hown3 hat3)
            have HB3 := hid (below_own (HB.out.alloc HB.out.size _) (own_base (HM.out.rs.tail.head.alloc _) (show w.heap.size ≤ mb by have := HM.out.lt.1; have := HD0.out; omega)) hg3 (Nat.le_trans HB.out.size (by simp)))
            clear hown3 hg3 hat3
            go_wp2_with fail
            go_roundw
            case rel => exact ⟨k + 1, m2, by omega, by go_num, hid (by rw [hst.out, HST1.out]; exact HM3.out), hid (by rw [hst.out]; exact HFI1.out), hid (by rw [hst.out, HST1.out]; exact HN.out), HB3⟩
            case measure => simp [intOf]; omega
          · rw [if_neg hf] at hlook
            have hfl' : fnd al s.1 t = s.1.length := by have := fnd_le al s.1 t; omega
            have HST1 := hid (show lStep al s t = (s.1 ++ [(t : Int)], s.2 ++ [(s.1.length : Int)]) by unfold lStep; rw [if_neg hf, hfl'])
            have HLOOK := hid hlook
            have HN1 := hid (show NumIs (mset m2 (nth l t) (s.1.length : Int)) l (s.1 ++ [(t : Int)]) from HN.out.step (z := (t : Int)) (by rw [← HAL.out]; exact hf))
            clear hf hfl' hlook
            go_wp2_with (first
              | (at_lookup; refine wpList_mlookup_none true intKey rfl (.tmp 45) (.tmp 49) 84 rfl Try.underlying84 _ (zero3 _) HM.out.num (nth l t) HKEY.out rfl rfl HLOOK.out ?_)
              | (at_mapUpdate; refine wpList_mupdate intKey rfl (.tmp 57) (.tmp 61) (.tmp 62) 84 rfl Try.underlying84 HM.out.num (nth l t) HKEY.out (s.1.length : Int) _ rfl rfl rfl rfl ?_; intro w1 hm1 hg1
                 have HM1 := hid (HM.out.mset hm1 hg1)
                 have HW1 := hid (Nat.le_trans HMB.out hg1.size))
              | (at_builtin; refine wpList_app_int rfl (.tmp 63) (.tmp 65) rfl (w0 := w1) (z := (t : Int)) rfl rfl HM1.out.rs.head rfl (by show s.1.length ≤ _; omega) HW1.out ?_
                 intro A2 c2 w2' hown2 hg2 hat2
                 have HM2 := hid ((HM1.out.alloc _).putF hg2 hown2 hat2)
                 have HW2 := hid (Nat.le_trans HW1.out (Nat.le_trans (by simp) hg2.size)))
              | (at_builtin; refine wpList_app_int rfl (.tmp 67) (.tmp 69) rfl (w0 := w2') (z := (s.1.length : Int)) rfl rfl HM2.out.rs.tail.head rfl (by show s.2.length ≤ _; rw [HSL.out]; omega) HW2.out ?_
                 intro A c w3 hown3 hg3 hat3)
              | fail)
            have hwm : w.heap.size ≤ mb := by have := HM.out.lt.1; have := HD0.out; omega
            have HM3 := hid ((HM2.out.alloc _).putR hg3 hown3 hat3)
            have hb1 := HB.out.grown hg1 HB.out.size (fun q hq => by cases hq; exact hwm)
            have hb2 := below_own (hb1.alloc hb1.size _) (own_base (HM1.out.rs.head.alloc _) hwm) hg2 (Nat.le_trans hb1.size (by simp))
            have HB3 := hid (below_own (hb2.alloc hb2.size _) (own_base (HM2.out.rs.tail.head.alloc _) hwm) hg3 (Nat.le_trans hb2.size (by simp)))
            clear hown3 hg3 hat3 hb1 hb2 hwm hown2 hg2 hat2 hg1 hm1
            go_wp2_with fail
            go_roundw
            case rel => exact ⟨k + 1, _, by omega, by go_num, hid (by rw [hst.out, HST1.out]; simpa using HM3.out), hid (by rw [hst.out]; exact HFI1.out), hid (by rw [hst.out, HST1.out]; exact HN1.out), HB3⟩
            case measure => simp [intOf]; omega
        · obtain rfl : k = 37 := by omega
          have htk : (row d.next q).take 37 = row d.next q := List.take_of_length_le (by rw [HLR.out.1]; exact Nat.le_refl _)
          rw [htk] at HM HN HFI
          clear htk
          obtain ⟨x0, x1, y0, y1⟩ := slot2 HM.out.out
          have hRO := HRO.out
          have HRL := hid (show rows.length = i by have := congrArg List.length hRO; rw [List.length_map, HST.out, HLI.out.nx] at this; exact this)
          have hrl : rows.length ≤ 1000 := by rw [HRL.out]; omega
          have HTL := hid (show st.2.tells.length = i by rw [HST.out, HLI.out.tl])
          have htl0 : st.2.tells.length ≤ 1000 := by rw [HTL.out]; omega
          obtain ⟨rw0, hrw0⟩ : ∃ r, r = (lRow al st.1 (row d.next q)).2 := ⟨_, rfl⟩
          have HRW0 := hid hrw0
          obtain ⟨F, hF⟩ : ∃ F, F = (lRow al st.1 (row d.next q)).1 := ⟨_, rfl⟩
          have HF := hid hF
          rw [← hrw0, ← hF] at HM
          rw [← hF] at HN HFI
          obtain ⟨rA, rC, hrv, _⟩ := own_arr HM.out.rs.tail.head
          dsimp only at hrv
          have hiF : i < F.length := by rw [hF]; have := lRow_le al st.1 (row d.next q); omega
          have hnF : nth F i = q := by rw [hF, lRow_nth al st.1 (row d.next q) hlt]; exact HQ.out
          have hFn := HFI.out.len (fun s hs => (HALI.out s s hs hs).2 (Alk.refl _ _ _))
          obtain ⟨gb, go', gC, hgv, _, hgb, hgc⟩ := (own_nums HM.out.rs.head).at hiF
          dsimp only at hgv
          subst hgv hrv
          rw [hnF] at hgc
          have hii' : (i : Int) < (F.length : Int) := by omega
          have HMB := hid (show mb ≤ wr.heap.size from Nat.le_of_lt HM.out.num.lt)
          obtain ⟨j0, hj0, hj1, hj2, hj3⟩ := info_parts info32
          clear hRO hrw0 hF hnF hgb hii
          go_wp2_with (first
            | (at_builtin; refine wpList_app_s _ rfl (.tmp 73) (.tmp 75) 25 rfl mb 32 j0 _ 1 24 Try.underlying25 hj0 hj1 hj2 hj3 rfl (by decide) nx _ _ rfl (HM.out.nxo.alloc _) (some ⟨wr.heap.size, 0, none⟩) 1 1 _ rfl (src_new wr _ 32 1 rfl) (by simp [Value.oneCell']) (by simp only [maxLen]; omega) (by omega) (by have := HMB.out; simp; omega) ?_; intro A5 c5 w5' hown5 hg5 hat5
               have HM5 := hid ((HM.out.alloc _).row hg5 (nx' := .slice A5 (rows.length + 1) c5) (by simpa using hown5))
               obtain ⟨z0, z1, z2, z3⟩ := slot2 HM5.out.1)
            | fail)
          have HM6 := hid HM5.out.2
          have HB6 := hid (show Below w.heap.size w (w5'.setCell ⟨fb0 + 1, 0, none⟩ (.slice A5 (rows.length + 1) c5)) from
            (below_own (HB.out.alloc HB.out.size _) (own_base (HM.out.nxo.alloc _) (show w.heap.size ≤ mb by have := HM.out.lt.1; have := HD0.out; omega)) hg5 (Nat.le_trans HB.out.size (by simp))).setCell (p := ⟨fb0 + 1, 0, none⟩) (by have := HM.out.lt; have := HD0.out; show _ ≤ fb0 + 1; omega) _)
          obtain ⟨wx, hwx⟩ : ∃ wx, wx = w5'.setCell ⟨fb0 + 1, 0, none⟩ (.slice A5 (rows.length + 1) c5) := ⟨_, rfl⟩
          rw [← hwx] at HM6 HB6 ⊢
          clear hwx HM5 hown5 hg5 hat5 x0 x1 y0 y1 z0 z1 z2 z3 hgc hj0 hj1 hj2 hj3 HM HB HMB
          have HSX := hid (show ∀ Y : World, Y.heap[D0]? = some (.cells #[nv, tv] 30 (0, 0)) → OwnI Y mb (.slice (some ⟨gb, go', none⟩) F.length gC) F → Below w.heap.size w Y →
              (Y.cell? ⟨D0, 1, none⟩ = some (.slice (some ⟨tb, to', none⟩) d.next.length tc) ∧ Y.cell? ⟨gb, go' + i, none⟩ = some (.int .i64 (q : Int)) ∧ Y.cell? ⟨tb, to' + q, none⟩ = some (.int .u64 (nth d.tells q))) from fun Y h1 h2 h3 => by
            obtain ⟨_, k1, _⟩ := slot2 h1
            obtain ⟨b', o', c', e', _, _, k2⟩ := (own_nums h2).at hiF
            obtain ⟨⟨rfl, rfl⟩, rfl⟩ : (gb = b' ∧ go' = o') ∧ gC = c' := by simpa using e'
            rw [HTV.out] at k1
            have hnF : nth F i = q := by rw [HF.out, lRow_nth al st.1 (row d.next q) hlt]; exact HQ.out
            rw [hnF] at k2
            exact ⟨k1, k2, (h3.cell (p := ⟨tb, to' + q, none⟩) HX.out.tlt).trans (HX.out.tells q hqn)⟩)
          have hs0 := HSX.out wx HM6.out.d0 HM6.out.rs.head HB6.out
          obtain ⟨s1, s2, s3⟩ := id hs0
          have HS0 := hid hs0
          obtain ⟨tz, htz⟩ : ∃ tz, tz = nth d.tells q := ⟨_, rfl⟩
          have HTZ := hid htz
          rw [← htz] at s3 HS0 HSX
          obtain ⟨x0, x1, y0, y1⟩ := slot2 HM6.out.out
          have HM7 := hid (show LeM mb D0 bb mb (fb0 + 1) nv tv l (wx.drew.alloc (.cells #[.int .u64 tz] 52)) m2 (.slice (some ⟨gb, go', none⟩) F.length gC, F) (.slice none 0 0, []) (rows ++ [(.slice rA rw0.length rC, rw0)]) (.slice A5 (rows.length + 1) c5) tl st.2.tells from HM6.out.grown ((Below.drew (Below.refl _ _)).alloc (Nat.le_refl _) _))
          have HB7 := hid (show Below w.heap.size w (wx.drew.alloc (.cells #[.int .u64 tz] 52)) from (Below.drew HB6.out).alloc HB6.out.size _)
          have HS1 := hid (HSX.out _ HM7.out.d0 HM7.out.rs.head HB7.out)
          have hx1 : (wx.alloc (.cells #[.int .u64 tz] 52)).cell? ⟨fb0 + 1, 1, none⟩ = some tl := (slot2 HM7.out.out).2.1
          have HT7 := hid (show wx.drew.ownsRow mb 52 1 tl st.2.tells.length (st.2.tells.map (.int .u64)) from HM6.out.tlo)
          have HMB := hid (show mb ≤ wx.drew.heap.size from Nat.le_of_lt HM6.out.num.lt)
          have HTL0 := hid (show st.2.tells.length ≤ 1010000 by omega)
          clear hs0 htz
          go_wp2_with fail
          refine wp_region_held_drew (S := (fun Y => Y.cell? ⟨D0, 1, none⟩ = some (.slice (some ⟨tb, to', none⟩) d.next.length tc) ∧ Y.cell? ⟨gb, go' + i, none⟩ = some (.int .i64 (q : Int)) ∧ Y.cell? ⟨tb, to' + q, none⟩ = some (.int .u64 tz))) (by kernel_rfl) (by exact HS0.out) (fun hHeld => ?_)
          refine wpAnyH_take (i := 0) (oi := { dst := some 78, op := Op.fieldAddr 30 (Operand.tmp 6) 1, type := _, pos := _, after := _, guard := none }) (v := ?_) rfl (by kernel_rfl) (by kernel_rfl) (by kernel_rfl) (fun _ _ _ h => h) (Or.inl ⟨by rfl, ?_⟩) (by assumption) ?_
          rotate_left
          · intro w hSw; (try dsimp only at hSw); go_simp; try with_reducible rfl
          try simp only [Act.put, List.setIfInBounds_toArray, List.set_cons_zero, List.set_cons_succ]
          refine wpAnyH_take (i := 2) (oi := { dst := some 80, op := Op.fieldAddr 30 (Operand.tmp 1) 1, type := _, pos := _, after := _, guard := none }) (v := ?_) rfl (by kernel_rfl) (by kernel_rfl) (by kernel_rfl) (fun _ _ _ h => h) (Or.inl ⟨by rfl, ?_⟩) (by assumption) ?_
          rotate_left
          · intro w hSw; (try dsimp only at hSw); go_simp; try with_reducible rfl
          try simp only [Act.put, List.setIfInBounds_toArray, List.set_cons_zero, List.set_cons_succ]
          refine wpAnyH_take (i := 3) (oi := { dst := some 81, op := Op.load 26 (Operand.tmp 80), type := _, pos := _, after := _, guard := none }) (v := ?_) rfl (by kernel_rfl) (by kernel_rfl) (by kernel_rfl) (fun _ _ _ h => h) (Or.inl ⟨by rfl, ?_⟩) (by assumption) ?_
          rotate_left
          · intro w hSw; (try dsimp only at hSw); go_simp; try with_reducible rfl
          try simp only [Act.put, List.setIfInBounds_toArray, List.set_cons_zero, List.set_cons_succ]
          refine wpAnyH_take (i := 4) (oi := { dst := some 82, op := Op.move (Operand.tmp 5), type := _, pos := _, after := _, guard := none }) (v := ?_) rfl (by kernel_rfl) (by kernel_rfl) (by kernel_rfl) (fun _ _ _ h => h) (Or.inl ⟨by rfl, ?_⟩) (by assumption) ?_
          rotate_left
          · intro w hSw; (try dsimp only at hSw); go_simp; try with_reducible rfl
          try simp only [Act.put, List.setIfInBounds_toArray, List.set_cons_zero, List.set_cons_succ]
          refine wpAnyH_take (i := 5) (oi := { dst := some 83, op := Op.move (Operand.tmp 7), type := _, pos := _, after := _, guard := none }) (v := ?_) rfl (by kernel_rfl) (by kernel_rfl) (by kernel_rfl) (fun _ _ _ h => h) (Or.inl ⟨by rfl, ?_⟩) (by assumption) ?_
          rotate_left
          · intro w hSw; (try dsimp only at hSw); go_simp; try with_reducible rfl
          try simp only [Act.put, List.setIfInBounds_toArray, List.set_cons_zero, List.set_cons_succ]
          refine wpAnyH_take (i := 6) (oi := { dst := some 84, op := Op.indexAddr 32 (Operand.tmp 82) (Operand.tmp 83), type := _, pos := _, after := _, guard := none }) (v := ?_) rfl (by kernel_rfl) (by kernel_rfl) (by kernel_rfl) (fun _ _ _ h => h) (Or.inl ⟨by rfl, ?_⟩) (by assumption) ?_
          rotate_left
          · intro w hSw; (try dsimp only at hSw); go_simp; try with_reducible rfl
          try simp only [Act.put, List.setIfInBounds_toArray, List.set_cons_zero, List.set_cons_succ]
          refine wpAnyH_take (i := 7) (oi := { dst := some 85, op := Op.load 3 (Operand.tmp 84), type := _, pos := _, after := _, guard := none }) (v := ?_) rfl (by kernel_rfl) (by kernel_rfl) (by kernel_rfl) (fun _ _ _ h => h) (Or.inl ⟨by rfl, ?_⟩) (by assumption) ?_
          rotate_left
          · intro w hSw; (try dsimp only at hSw); go_simp; try with_reducible rfl
          try simp only [Act.put, List.setIfInBounds_toArray, List.set_cons_zero, List.set_cons_succ]
          refine wpAnyH_take (i := 8) (oi := { dst := some 86, op := Op.indexAddr 26 (Operand.tmp 81) (Operand.tmp 85), type := _, pos := _, after := _, guard := none }) (v := ?_) rfl (by kernel_rfl) (by kernel_rfl) (by kernel_rfl) (fun _ _ _ h => h) (Or.inl ⟨by rfl, ?_⟩) (by assumption) ?_
          rotate_left
          · intro w hSw; (try dsimp only at hSw); go_simp; try with_reducible rfl
          try simp only [Act.put, List.setIfInBounds_toArray, List.set_cons_zero, List.set_cons_succ]
          refine wpAnyH_take (i := 9) (oi := { dst := some 87, op := Op.load 52 (Operand.tmp 86), type := _, pos := _, after := _, guard := none }) (v := ?_) rfl (by kernel_rfl) (by kernel_rfl) (by kernel_rfl) (fun _ _ _ h => h) (Or.inl ⟨by rfl, ?_⟩) (by assumption) ?_
          rotate_left
          · intro w hSw; (try dsimp only at hSw); go_simp; try with_reducible rfl
          try simp only [Act.put, List.setIfInBounds_toArray, List.set_cons_zero, List.set_cons_succ]
          refine wpAnyH_ready (rs := [1, 10]) (by kernel_rfl) (by simp) ?_
          refine AllReadyH.cons (o := { dst := some 79, op := Op.load 26 (Operand.tmp 78), type := _, pos := _, after := _, guard := none }) rfl ?legA1 (AllReadyH.cons (o := { dst := some 88, op := Op.buildSlice 26 1 #[(0, Operand.tmp 87)], type := _, pos := _, after := _, guard := none }) rfl ?legB1 AllReadyH.nil)
          case' legA1 =>
            intro K hK
            go_simp
            refine hK.out _ _ (by first | exact HS0.out | exact HS1.out) (fun hHeld => ?_)
            clear hK K
            try simp only [Act.put, List.setIfInBounds_toArray, List.set_cons_zero, List.set_cons_succ]
            refine wpAnyH_ready (rs := [10]) (by kernel_rfl) (by simp) ?_
            refine AllReadyH.cons (o := { dst := some 88, op := Op.buildSlice 26 1 #[(0, Operand.tmp 87)], type := _, pos := _, after := _, guard := none }) rfl (fun K hK => ?_) AllReadyH.nil
            go_simp
            refine hK.out _ _ (by exact HS1.out) (fun hHeld => ?_)
            clear hK K
            try simp only [Act.put, List.setIfInBounds_toArray, List.set_cons_zero, List.set_cons_succ]
            refine wpAnyH_ready (rs := [11]) (by kernel_rfl) (by simp) ?_
            refine AllReadyH.cons (o := { dst := some 89, op := Op.call { callee := Callee.builtin Builtin.append, args := #[Operand.tmp 79, Operand.tmp 88], argTypes := #[26, 26] }, type := _, pos := _, after := _, guard := none }) rfl (fun K hK => ?_) AllReadyH.nil
            rw [if_pos (by rfl)]
            refine wp_app_u64 (.tmp 79) (.tmp 88) rfl (w0 := wx.drew) rfl rfl HT7.out rfl HTL0.out HMB.out ?_
            intro A8 c8 w8 hown8 hg8
            have HM8 := hid (HM7.out.tell hg8 hown8)
            have HB8 := hid (below_own HB7.out (own_base HM7.out.tlo (show w.heap.size ≤ mb by have := HM7.out.lt.1; have := HD0.out; omega)) hg8 HB7.out.size)
            have HS8 := hid (HSX.out w8 (HM7.out.seen hg8 (fun q hq => (HM7.out.tlo.lt q hq).1) (own_own HM7.out.rs.head HM7.out.tlo (by decide))).1 (HM7.out.seen hg8 (fun q hq => (HM7.out.tlo.lt q hq).1) (own_own HM7.out.rs.head HM7.out.tlo (by decide))).2 HB8.out)
            obtain ⟨v0, v1, v2, v3⟩ := slot2 HM8.out.1
            refine hK.out _ _ (by exact HS8.out) (fun hHeld => ?_)
            clear hK K
            try simp only [Act.put, List.setIfInBounds_toArray, List.set_cons_zero, List.set_cons_succ]
            refine wpAnyH_take (i := 12) (oi := { dst := some 90, op := Op.fieldAddr 30 (Operand.tmp 6) 1, type := _, pos := _, after := _, guard := none }) (v := ?_) rfl (by kernel_rfl) (by kernel_rfl) (by kernel_rfl) (fun _ _ _ h => h) (Or.inl ⟨by rfl, ?_⟩) (by assumption) ?_
            rotate_left
            · intro w hSw; (try dsimp only at hSw); go_simp; try with_reducible rfl
            try simp only [Act.put, List.setIfInBounds_toArray, List.set_cons_zero, List.set_cons_succ]
            refine wpAnyH_ready (rs := [13]) (by kernel_rfl) (by simp) ?_
            refine AllReadyH.cons (o := { dst := none, op := Op.store 26 (Operand.tmp 90) (Operand.tmp 89), type := _, pos := _, after := _, guard := none }) rfl (fun K hK => ?_) AllReadyH.nil
            go_simp
            refine hK.out _ _ (by exact HSX.out _ HM8.out.2.d0 HM8.out.2.rs.head (HB8.out.setCell (p := ⟨fb0 + 1, 1, none⟩) (by have := HM8.out.2.lt; have := HD0.out; show _ ≤ fb0 + 1; omega) _)) (fun hHeld => ?_)
            clear hK K
            try simp only [Act.put, List.setIfInBounds_toArray, List.set_cons_zero, List.set_cons_succ]
            refine wpAnyH_done (by kernel_rfl) ?_ _
          case' legB1 =>
            intro K hK
            go_simp
            refine hK.out _ _ (by exact HS1.out) (fun hHeld => ?_)
            clear hK K
            try simp only [Act.put, List.setIfInBounds_toArray, List.set_cons_zero, List.set_cons_succ]
            refine wpAnyH_ready (rs := [1]) (by kernel_rfl) (by simp) ?_
            refine AllReadyH.cons (o := { dst := some 79, op := Op.load 26 (Operand.tmp 78), type := _, pos := _, after := _, guard := none }) rfl (fun K hK => ?_) AllReadyH.nil
            go_simp
            refine hK.out _ _ (by first | exact HS0.out | exact HS1.out) (fun hHeld => ?_)
            clear hK K
            try simp only [Act.put, List.setIfInBounds_toArray, List.set_cons_zero, List.set_cons_succ]
            refine wpAnyH_ready (rs := [11]) (by kernel_rfl) (by simp) ?_
            refine AllReadyH.cons (o := { dst := some 89, op := Op.call { callee := Callee.builtin Builtin.append, args := #[Operand.tmp 79, Operand.tmp 88], argTypes := #[26, 26] }, type := _, pos := _, after := _, guard := none }) rfl (fun K hK => ?_) AllReadyH.nil
            rw [if_pos (by rfl)]
            refine wp_app_u64 (.tmp 79) (.tmp 88) rfl (w0 := wx.drew) rfl rfl HT7.out rfl HTL0.out HMB.out ?_
            intro A8 c8 w8 hown8 hg8
            have HM8 := hid (HM7.out.tell hg8 hown8)
            have HB8 := hid (below_own HB7.out (own_base HM7.out.tlo (show w.heap.size ≤ mb by have := HM7.out.lt.1; have := HD0.out; omega)) hg8 HB7.out.size)
            have HS8 := hid (HSX.out w8 (HM7.out.seen hg8 (fun q hq => (HM7.out.tlo.lt q hq).1) (own_own HM7.out.rs.head HM7.out.tlo (by decide))).1 (HM7.out.seen hg8 (fun q hq => (HM7.out.tlo.lt q hq).1) (own_own HM7.out.rs.head HM7.out.tlo (by decide))).2 HB8.out)
            obtain ⟨v0, v1, v2, v3⟩ := slot2 HM8.out.1
            refine hK.out _ _ (by exact HS8.out) (fun hHeld => ?_)
            clear hK K
            try simp only [Act.put, List.setIfInBounds_toArray, List.set_cons_zero, List.set_cons_succ]
            refine wpAnyH_take (i := 12) (oi := { dst := some 90, op := Op.fieldAddr 30 (Operand.tmp 6) 1, type := _, pos := _, after := _, guard := none }) (v := ?_) rfl (by kernel_rfl) (by kernel_rfl) (by kernel_rfl) (fun _ _ _ h => h) (Or.inl ⟨by rfl, ?_⟩) (by assumption) ?_
            rotate_left
            · intro w hSw; (try dsimp only at hSw); go_simp; try with_reducible rfl
            try simp only [Act.put, List.setIfInBounds_toArray, List.set_cons_zero, List.set_cons_succ]
            refine wpAnyH_ready (rs := [13]) (by kernel_rfl) (by simp) ?_
            refine AllReadyH.cons (o := { dst := none, op := Op.store 26 (Operand.tmp 90) (Operand.tmp 89), type := _, pos := _, after := _, guard := none }) rfl (fun K hK => ?_) AllReadyH.nil
            go_simp
            refine hK.out _ _ (by exact HSX.out _ HM8.out.2.d0 HM8.out.2.rs.head (HB8.out.setCell (p := ⟨fb0 + 1, 1, none⟩) (by have := HM8.out.2.lt; have := HD0.out; show _ ≤ fb0 + 1; omega) _)) (fun hHeld => ?_)
            clear hK K
            try simp only [Act.put, List.setIfInBounds_toArray, List.set_cons_zero, List.set_cons_succ]
            refine wpAnyH_done (by kernel_rfl) ?_ _
          all_goals
            have HM9 := hid HM8.out.2
            have HB9 := hid (HB8.out.setCell (p := ⟨fb0 + 1, 1, none⟩) (by have := HM8.out.2.lt; have := HD0.out; show _ ≤ fb0 + 1; omega) (.slice A8 (st.2.tells.length + 1) c8))
            have HNX := hid (HLI.out.next (by rw [← HST.out]; exact hlt) (by rw [← HST.out]; exact HQ.out))
            have HLI2 := hid (HLI.out.step HX.out.rt (by rw [← HST.out]; exact hlt))
            have HRO2 := hid (show (rows ++ [(Value.slice rA rw0.length rC, rw0)]).map (·.2) = (lIter al d (i + 1)).2.next by
              rw [HNX.out, ← HST.out, List.map_append, HRO.out, HRW0.out]; rfl)
            clear hown8 hg8 HM8 HS8 HB8
            go_wp2_with fail
            go_roundw
            case rel => exact ⟨i + 1, m2, _, _, _, by go_num, HLI2, HRO2, hid (by rw [HNX.out, ← HST.out, ← HF.out, ← HTZ.out]; exact HM9.out), hid (by rw [HNX.out, ← HST.out, ← HF.out]; exact HN.out), HB9⟩
            case measure => simp [intOf]; omega
    · obtain rfl : i = st.1.length := by have := HLI.out.le; rw [← HST.out] at this; omega
      obtain ⟨hfin, _⟩ := HLI.out.fin (by rw [← HST.out]; exact Nat.le_refl _) (fun s hs => (HALI.out s s hs hs).2 (Alk.refl _ _ _))
      have HFIN := hid (show leastD al d = st.2 by rw [hfin, ← HST.out])
      obtain ⟨nA, nC, hnx, _⟩ := own_arr HM.out.nxo
      obtain ⟨tA, tC, htx, _⟩ := own_arr HM.out.tlo
      have HRL := hid (show rows.length = st.2.next.length by rw [← HRO.out, List.length_map])
      subst hnx htx
      obtain ⟨x0, x1, _⟩ := slot2 HM.out.out
      obtain ⟨y0, y1, y2, y3⟩ := slot2 HM.out.d1
      have hs : wr.grownBy ((wr.setCell ⟨D0 + 1, 0, none⟩ (.slice nA rows.length nC)).setCell ⟨D0 + 1, 1, none⟩ (.slice tA st.2.tells.length tC)) (some (D0 + 1)) := grown_setCell (grown_setCell (World.grownBy.refl _ _) _ _) _ _
      have HRS := hid (show RowSet ((wr.setCell ⟨D0 + 1, 0, none⟩ (.slice nA rows.length nC)).setCell ⟨D0 + 1, 1, none⟩ (.slice tA st.2.tells.length tC)) mb rows from HM.out.rs.tail.tail.cells hs HM.out.d1 (by decide))
      have HNX := hid (show ((wr.setCell ⟨D0 + 1, 0, none⟩ (.slice nA rows.length nC)).setCell ⟨D0 + 1, 1, none⟩ (.slice tA st.2.tells.length tC)).ownsRow mb 32 1 (.slice nA rows.length nC) rows.length (rows.map (·.1)) from HM.out.nxo.kept hs (.inr (own_blk_ne HM.out.nxo HM.out.d1 (by decide))))
      have HTLX := hid (show ((wr.setCell ⟨D0 + 1, 0, none⟩ (.slice nA rows.length nC)).setCell ⟨D0 + 1, 1, none⟩ (.slice tA st.2.tells.length tC)).ownsRow mb 52 1 (.slice tA st.2.tells.length tC) st.2.tells.length (st.2.tells.map (.int .u64)) from HM.out.tlo.kept hs (.inr (own_blk_ne HM.out.tlo HM.out.d1 (by decide))))
      have HISD := hid (show IsD ((wr.setCell ⟨D0 + 1, 0, none⟩ (.slice nA rows.length nC)).setCell ⟨D0 + 1, 1, none⟩ (.slice tA st.2.tells.length tC)) (fun b => w.heap.size ≤ b) (.agg #[.slice nA rows.length nC, .slice tA st.2.tells.length tC]) (leastD al d) from by
        have hle : w.heap.size ≤ mb := by have := HM.out.lt.1; have := HD0.out; omega
        rw [HFIN.out]
        refine ⟨_, _, rfl, ?_, (own_nums HTLX.out).mono fun b hb _ => Nat.le_trans hle hb.1⟩
        have h1 := HRS.out.ownG
        rw [HRO.out, HRL.out] at h1
        have h2 := HNX.out
        rw [HRL.out] at h2 ⊢
        exact (h1.isRows h2).mono fun b hb _ => Nat.le_trans hle hb)
      have HBE := hid (show Below w.heap.size w ((wr.setCell ⟨D0 + 1, 0, none⟩ (.slice nA rows.length nC)).setCell ⟨D0 + 1, 1, none⟩ (.slice tA st.2.tells.length tC)) from (HB.out.setCell (p := ⟨D0 + 1, 0, none⟩) (by have := HD0.out; show _ ≤ D0 + 1; omega) _).setCell (p := ⟨D0 + 1, 1, none⟩) (by have := HD0.out; show _ ≤ D0 + 1; omega) _)
      clear hfin hs
      go_wp2_with fail
      exact bodyPost_ret (v := .agg #[.slice nA rows.length nC, .slice tA st.2.tells.length tC]) (by simp [results, Try.results32, go_sem, y0, y1]) rfl ⟨_, _, al, rfl, HALI.out, HISD.out, HBE.out⟩
end Go.Proofs.Ytmdkmobcglnmgaa
