/- The search for the first marks that tell two states apart: the walk. Conditions: right automatons, states of theirs. -/
import Derived.Test.YtmdkmobcglnmgaaSa
import Derived.WalkMore
namespace Go.Proofs.Ytmdkmobcglnmgaa
open Go.RowKit
set_option linter.unusedSimpArgs false

def SearchAns (w : World) (A B : D) (p q : Nat) (e : Ending) (w' : World) : Prop :=
  (∃ v u, e = .returned (.tuple #[v, .bool true]) ∧ FirstW A B p q u ∧ IsNums .i64 w' (fun b => w.heap.size ≤ b) v (u.map fun (m : Nat) => (m : Int)) ∧ Below w.heap.size w w') ∨
  (e = .returned (.tuple #[.slice none 0 0, .bool false]) ∧ (∀ v, (∀ m ∈ v, m < 37) → ¬ sep A B p q v) ∧ Below w.heap.size w w')
/-- From the i-th pair back to the j-th. -/
def BackIs (ws : List (List Nat)) (i j : Nat) (zs : List Nat) : Prop := wrd ws i = wrd ws j ++ zs.reverse
set_option maxRecDepth 100000 in
set_option maxHeartbeats 4000000 in
theorem search_any (w : World) (nb no nc tb to' tc nb2 no2 nc2 tb2 to2 tc2 p0 q0 : Nat) (A B : D) (hA : TabX w nb no nc tb to' tc A.next.length A.next A.tells) (hB : TabX w nb2 no2 nc2 tb2 to2 tc2 B.next.length B.next B.tells) (hp : p0 < A.next.length) (hq : q0 < B.next.length) :
    Calls Try.prog 59 #[.agg #[.slice (some ⟨nb, no, none⟩) A.next.length nc, .slice (some ⟨tb, to', none⟩) A.next.length tc], .agg #[.slice (some ⟨nb2, no2, none⟩) B.next.length nc2, .slice (some ⟨tb2, to2, none⟩) B.next.length tc2], .int .i64 p0, .int .i64 q0] w (SearchAns w A B p0 q0) := by
  have HA := hid hA
  have HB := hid hB
  have hA1 := hA.n1.2
  have hB1 := hB.n1.2
  obtain ⟨D0, hD0⟩ : ∃ D0, D0 = w.heap.size := ⟨_, rfl⟩
  have HD0 := hid hD0
  obtain ⟨w2, hw2⟩ : ∃ w2, w2 = (w.alloc (.cells #[.slice (some ⟨nb, no, none⟩) A.next.length nc, .slice (some ⟨tb, to', none⟩) A.next.length tc] 30)).alloc (.cells #[.slice (some ⟨nb2, no2, none⟩) B.next.length nc2, .slice (some ⟨tb2, to2, none⟩) B.next.length tc2] 30) := ⟨_, rfl⟩
  have HSZ := hid (show w2.heap.size = D0 + 2 by rw [hw2, hD0]; simp)
  have HB2 := hid (show Below w.heap.size w w2 by rw [hw2]; exact ((Below.refl _ _).alloc (Nat.le_refl _) _).alloc (by simp) _)
  have HP0 := hid (show w2.heap[D0]? = some (.cells #[.slice (some ⟨nb, no, none⟩) A.next.length nc, .slice (some ⟨tb, to', none⟩) A.next.length tc] 30 (0, 0)) by rw [hw2, hD0, heap_alloc_old _ _ (by simp)]; exact heap_alloc_new _ _)
  have HP1 := hid (show w2.heap[D0 + 1]? = some (.cells #[.slice (some ⟨nb2, no2, none⟩) B.next.length nc2, .slice (some ⟨tb2, to2, none⟩) B.next.length tc2] 30 (0, 0)) by rw [hw2, hD0]; exact heap_alloc2_new _ _ _)
  have HM0 := hid (show TMap ((w2.alloc (.cells #[.int .i64 p0, .int .i64 q0, .int .i64 (-1), .int .i64 0] 108)).alloc (.map #[] 0)) (w2.heap.size + 1) [] from by
    have h := mapIs_new (w2.alloc (.cells #[.int .i64 p0, .int .i64 q0, .int .i64 (-1), .int .i64 0] 108)) pairV pairOk (fun (_ : Unit) u => u = .bool true)
    simpa using h)
  have HPK := hid (show pairOk ((p0 : Int), (q0 : Int)) from ⟨⟨by show _ ≤ (p0 : Int); omega, by show (p0 : Int) ≤ _; omega⟩, ⟨by show _ ≤ (q0 : Int); omega, by show (q0 : Int) ≤ _; omega⟩⟩)
  have hmm := @run_makeMap Try.prog
  clear hA hB
  go_enter Try.func59, Try.ntmps59
  go_wp2_with fail
  rw [← hw2, ← hD0]
  clear hw2 hD0
  go_step3
  go_wp2_with (first
    | (refine wpList_minsert pairKey rfl (.tmp 21) (.tmp 24) (.const (.bool true)) 98 rfl Try.underlying98 HM0.out ((p0 : Int), (q0 : Int)) HPK.out () _ rfl rfl rfl rfl ?_
       intro w5 hm5 hg5)
    | fail)
  clear hmm
  obtain ⟨lb, hlb⟩ : ∃ lb, lb = w2.heap.size := ⟨_, rfl⟩
  have HLB := hid hlb
  rw [← hlb]
  rw [← hlb] at hm5 hg5
  have HLD := hid (show lb = D0 + 2 by rw [hlb]; exact HSZ.out)
  have HSM := hid (show SrM w2 lb (lb + 1) w5 (.slice (some ⟨lb, 0, none⟩) 1 1) [⟨p0, q0, -1, 0⟩] (mset [] ((p0 : Int), (q0 : Int)) ()) from by
    have hz : lb + 2 ≤ w5.heap.size := by have := hg5.size; rw [hlb]; simpa using this
    have h0 : Below lb w2 ((w2.alloc (.cells #[.int .i64 p0, .int .i64 q0, .int .i64 (-1), .int .i64 0] 108)).alloc (.map #[] 0)) := by rw [hlb]; exact ((Below.refl _ _).alloc (Nat.le_refl _) _).alloc (by simp) _
    have hc : w5.heap[lb]? = some (.cells #[.int .i64 p0, .int .i64 q0, .int .i64 (-1), .int .i64 0] 108 (0, 0)) := by
      rw [hg5.block lb (by rw [hlb]; simp; omega) (fun e => by injection e with e; omega), hlb, heap_alloc_old _ _ (by simp)]
      exact heap_alloc_new _ _
    refine ⟨h0.grown hg5 (by rw [hlb]; simp; omega) (fun k hk => by cases hk; omega), ?_, hm5, ?_, by omega, by rw [hlb]; exact Nat.le_refl _⟩
    · exact ⟨rfl, .inr ⟨lb, 1, _, rfl, Nat.le_refl _, hc, Nat.le_refl _, by unfold maxLen; omega, by simp, rfl⟩⟩
    · have h1 : ThIs [] ([] : List En) := fun p => ⟨(fun h => by cases h), (fun h => by simp [prs] at h)⟩
      exact h1.step ⟨p0, q0, -1, 0⟩)
  have HBF := hid (show BF A B p0 q0 [⟨p0, q0, -1, 0⟩] [[]] 0 0 from BF.start hp hq)
  clear hlb hm5 hg5
  go_step3
  go_wp2_with fail
  obtain ⟨N, hN⟩ : ∃ N, N = A.next.length * B.next.length := ⟨_, rfl⟩
  have HNN := hid (show ∀ es ws i m, BF A B p0 q0 es ws i m → es.length ≤ N from fun es ws i m h => by rw [hN]; exact h.size)
  have hN6 : N ≤ 1000000 := by rw [hN]; exact Nat.le_trans (Nat.mul_le_mul hA1 hB1) (by decide)
  have HLOW := hid (show ∀ Y, Below lb w2 Y → Y.cell? ⟨D0, 0, none⟩ = some (.slice (some ⟨nb, no, none⟩) A.next.length nc) ∧ Y.cell? ⟨D0, 1, none⟩ = some (.slice (some ⟨tb, to', none⟩) A.next.length tc) ∧
      Y.cell? ⟨D0 + 1, 0, none⟩ = some (.slice (some ⟨nb2, no2, none⟩) B.next.length nc2) ∧ Y.cell? ⟨D0 + 1, 1, none⟩ = some (.slice (some ⟨tb2, to2, none⟩) B.next.length tc2) ∧
      TabX Y nb no nc tb to' tc A.next.length A.next A.tells ∧ TabX Y nb2 no2 nc2 tb2 to2 tc2 B.next.length B.next B.tells from fun Y hY => by
    have hd := HLD.out
    obtain ⟨a, b, _⟩ := slot2 ((hY.block D0 (by omega)).trans HP0.out)
    obtain ⟨c, d, _⟩ := slot2 ((hY.block (D0 + 1) (by omega)).trans HP1.out)
    rw [HLB.out] at hY
    exact ⟨a, b, c, d, (HA.out.below HB2.out).below hY, (HB.out.below HB2.out).below hY⟩)
  have HBW := hid (show ∀ Y, Below lb w2 Y → Below w.heap.size w Y from fun Y hY => HB2.out.trans (hY.mono (by have := HLD.out; have := HD0.out; omega)))
  clear hN hp hq
  go_loopw [10, 12] (fun s10 s12 wr => ∃ (i : Nat) (es : List En) (ws : List (List Nat)) (td : TD), i ≤ es.length ∧ s12 = .int .i64 i ∧ Hid (SrM w2 lb (lb + 1) wr s10 es td) ∧ Hid (BF A B p0 q0 es ws i 0)) (fun _ s12 _ => N - (intOf s12).toNat)
  case atStart => exact ⟨0, _, _, _, by simp, rfl, HSM, HBF⟩
  case round =>
    clear HSM HBF
    obtain ⟨i, es, ws, td, hi, rfl, HS, HF⟩ := hrel
    have hesN := HNN.out _ _ _ _ HF.out
    obtain ⟨lA, lC, hlv, _⟩ := own_arr HS.out.own
    subst hlv
    by_cases hlt : i < es.length
    · obtain ⟨gb, go', gC, hge, c1, c2, c3, c4⟩ := HS.out.own.at hlt
      obtain ⟨hgA, hgC⟩ : lA = some ⟨gb, go', none⟩ ∧ lC = gC := by simpa using hge
      subst hgA hgC
      obtain ⟨hpn, hqn⟩ := HF.out.st i hlt
      obtain ⟨p, hpe⟩ : ∃ p, p = (ent es i).p := ⟨_, rfl⟩
      obtain ⟨q, hqe⟩ : ∃ q, q = (ent es i).q := ⟨_, rfl⟩
      have HPE := hid hpe
      have HQE := hid hqe
      rw [← hpe] at c1 hpn
      rw [← hqe] at c2 hqn
      obtain ⟨l0, l1, l2, l3, l4, l5⟩ := HLOW.out _ HS.out.bel
      have t1 := l4.tells p hpn
      have t2 := l5.tells q hqn
      have hii : (i : Int) < (es.length : Int) := by omega
      have hi0 : 0 ≤ (i : Int) := by omega
      have hpi : (p : Int) < (A.next.length : Int) := by omega
      have hp0 : 0 ≤ (p : Int) := by omega
      have hqi : (q : Int) < (B.next.length : Int) := by omega
      have hq0 : 0 ≤ (q : Int) := by omega
      obtain ⟨a, ha⟩ : ∃ a, a = nth A.tells p := ⟨_, rfl⟩
      obtain ⟨b, hb⟩ : ∃ b, b = nth B.tells q := ⟨_, rfl⟩
      rw [← ha] at t1
      rw [← hb] at t2
      have HAE := hid ha
      have HBE := hid hb
      clear hge hpe hqe ha hb l4 l5
      by_cases hne : a = b
      · have hd : (a != b) = false := by simpa using hne
        have HEQ := hid hne
        clear hne
        go_wp2_with fail
        go_quiet (fail)
        go_wp2_with fail
        have HS0 := hid (HS.out.grown (below_drewN' wr nq _))
        have HI0 := hid (show i < es.length ∧ (ent es i).p = p ∧ (ent es i).q = q from ⟨hlt, HPE.out.symm, HQE.out.symm⟩)
        obtain ⟨wd, hwd⟩ : ∃ wd, wd = wr.drewN nq := ⟨_, rfl⟩
        rw [← hwd] at HS0 ⊢
        clear hwd c1 c2 c3 c4 t1 t2 l0 l1 l2 l3 hd hii
        go_loopw [10, 51] (fun s10 s51 wr => ∃ (m : Nat) (es : List En) (ws : List (List Nat)) (td : TD), m ≤ 37 ∧ s51 = .int .i64 m ∧ Hid (SrM w2 lb (lb + 1) wr s10 es td) ∧ Hid (BF A B p0 q0 es ws i m) ∧ Hid (i < es.length ∧ (ent es i).p = p ∧ (ent es i).q = q)) (fun _ s51 _ => 37 - (intOf s51).toNat)
        case atStart => exact ⟨0, es, ws, td, by omega, rfl, HS0, HF, HI0⟩
        case round =>
          clear HS0 HI0 HS HF hlt hi hesN HPE HQE
          obtain ⟨m, es, ws, td, hm, rfl, HS, HF, HI⟩ := hrel
          by_cases hlm : m < 37
          · have hesN := HNN.out _ _ _ _ HF.out
            obtain ⟨lA, lC, hlv, _⟩ := own_arr HS.out.own
            subst hlv
            obtain ⟨gb, go', gC, hge, -, -, -, -⟩ := HS.out.own.at HI.out.1
            obtain ⟨hgA, hgC⟩ : lA = some ⟨gb, go', none⟩ ∧ lC = gC := by simpa using hge
            subst hgA hgC
            obtain ⟨c1, c2, -, -⟩ := HS.out.own.cellAt HI.out.1
            rw [HI.out.2.1] at c1
            rw [HI.out.2.2] at c2
            obtain ⟨l0, l1, l2, l3, l4, l5⟩ := HLOW.out _ HS.out.bel
            obtain ⟨b1, o1, k1, r1, _, r2⟩ := l4.rows p hpn
            obtain ⟨b2, o2, k2, s1, _, s2⟩ := l5.rows q hqn
            obtain ⟨hxn, e1⟩ := l4.rt.at hpn hlm
            obtain ⟨hyn, e2⟩ := l5.rt.at hqn hlm
            have r3 := r2 m hlm
            have s3 := s2 m hlm
            rw [e1] at r3
            rw [e2] at s3
            obtain ⟨x, hx⟩ : ∃ x, x = stp A.next p m := ⟨_, rfl⟩
            obtain ⟨y, hy⟩ : ∃ y, y = stp B.next q m := ⟨_, rfl⟩
            rw [← hx] at r3 hxn
            rw [← hy] at s3 hyn
            have hii : (i : Int) < (es.length : Int) := by have := HI.out.1; omega
            have hmi : (m : Int) < 37 := by omega
            have hm0 : 0 ≤ (m : Int) := by omega
            have HOK := hid (show pairOk ((x : Int), (y : Int)) from ⟨⟨by show _ ≤ (x : Int); omega, by show (x : Int) ≤ _; omega⟩, ⟨by show _ ≤ (y : Int); omega, by show (y : Int) ≤ _; omega⟩⟩)
            obtain ⟨ws', hbf⟩ := HF.out.step HA.out.rt HB.out.rt HI.out.1 hlm
            have HBF' := hid hbf
            have HXY := hid (And.intro hx hy)
            by_cases hmem : ((x : Int), (y : Int)) ∈ prs es
            · have HLK := hid (show mget td ((x : Int), (y : Int)) = some () from (HS.out.th _).2 hmem)
              have HST := hid (show bStep A B i es m = es by unfold bStep; rw [HI.out.2.1, HI.out.2.2, ← HXY.out.1, ← HXY.out.2, if_pos hmem])
              clear hmem hx hy hbf e1 e2 r2 s2 l4 l5 hge
              go_wp2_with fail
              go_quiet (fail)
              have HS1 := hid (HS.out.grown (below_drewN' wr nq _))
              obtain ⟨wd, hwd⟩ : ∃ wd, wd = wr.drewN nq := ⟨_, rfl⟩
              rw [← hwd] at HS1 ⊢
              clear hwd
              go_wp2_with (first
                | (at_lookup; refine wpList_mlookup_some false pairKey rfl (.tmp 78) (.tmp 81) 98 rfl Try.underlying98 _ (zero4 _) HS1.out.map ((x : Int), (y : Int)) HOK.out rfl rfl () HLK.out ?_; intro u hu; rw [hu])
                | fail)
              go_roundw
              case rel => exact ⟨m + 1, es, ws', td, by omega, by go_num, HS1, hid (by have h := HBF'.out; rw [HST.out] at h; exact h), HI⟩
              case measure => simp [intOf]; omega
            · have HLK := hid (show mget td ((x : Int), (y : Int)) = none from by
                cases h : mget td ((x : Int), (y : Int)) with
                | none => rfl
                | some u => exact absurd ((HS.out.th _).1 (by rw [h])) hmem)
              have HST := hid (show bStep A B i es m = es ++ [⟨x, y, i, m⟩] by unfold bStep; rw [HI.out.2.1, HI.out.2.2, ← HXY.out.1, ← HXY.out.2, if_neg hmem])
              obtain ⟨j0, hj0, hj1, hj2, hj3⟩ := info_parts info108
              clear hmem hx hy hbf e1 e2 r2 s2 l4 l5 hge
              go_wp2_with fail
              go_quiet (fail)
              have HS1 := hid (HS.out.grown (below_drewN' wr nq _))
              obtain ⟨wd, hwd⟩ : ∃ wd, wd = wr.drewN nq := ⟨_, rfl⟩
              rw [← hwd] at HS1 ⊢
              clear hwd
              go_wp2_with (first
                | (at_lookup; refine wpList_mlookup_none false pairKey rfl (.tmp 78) (.tmp 81) 98 rfl Try.underlying98 _ (zero4 _) HS1.out.map ((x : Int), (y : Int)) HOK.out rfl rfl HLK.out ?_)
                | (at_mapUpdate; refine wpList_mupdate pairKey rfl (.tmp 84) (.tmp 87) (.const (.bool true)) 98 rfl Try.underlying98 HS1.out.map ((x : Int), (y : Int)) HOK.out () _ rfl rfl rfl rfl ?_; intro w6 hm6 hg6
                   have HN6 := hid (HS1.out.note hm6 hg6)
                   have HZ6 := hid (show lb ≤ w6.heap.size from Nat.le_trans HS1.out.size hg6.size))
                | (at_builtin; refine wpList_app_s _ rfl (.tmp 88) (.tmp 94) 109 rfl lb 108 j0 _ 4 32 Try.underlying109 hj0 hj1 hj2 hj3 rfl (by decide) (.slice (some ⟨gb, go', none⟩) es.length lC) es.length (ents es) rfl (HN6.out.2.1.alloc _) (some ⟨w6.heap.size, 0, none⟩) 1 1 _ rfl (src_new4 w6 _ 108 rfl) (by simp [Value.oneCell']) (by simp only [maxLen]; omega) (by omega) (by have := HZ6.out; simp; omega) ?_; intro A7 c7 w7 hown7 hg7 hat7)
                | fail)
              have HS7 := hid (show SrM w2 lb (lb + 1) w7 (.slice A7 (es.length + 1) c7) (es ++ [⟨x, y, i, m⟩]) (mset td ((x : Int), (y : Int)) ()) from by
                have hn := HN6.out
                have ho := hn.2.1.alloc (.cells #[.int .i64 (x : Int), .int .i64 (y : Int), .int .i64 (i : Int), .int .i64 (m : Int)] 108)
                have hm := hn.2.2.alloc (.cells #[.int .i64 (x : Int), .int .i64 (y : Int), .int .i64 (i : Int), .int .i64 (m : Int)] 108)
                refine ⟨below_own (hn.1.alloc HZ6.out _) ho hg7 (Nat.le_trans HZ6.out (by simp)), ?_, ?_, HS1.out.th.step ⟨x, y, i, m⟩, HS1.out.lt⟩
                · unfold OwnE
                  rw [ents_app, List.length_append, List.length_singleton]
                  exact hown7
                · exact hm.grown hg7 (Ne.symm (own_map_ne ho hm)))
              have HI7 := hid (show i < (es ++ [(⟨x, y, i, m⟩ : En)]).length ∧ (ent (es ++ [(⟨x, y, i, m⟩ : En)]) i).p = p ∧ (ent (es ++ [(⟨x, y, i, m⟩ : En)]) i).q = q from ⟨by have := HI.out.1; simp; omega, by rw [ent_left HI.out.1]; exact HI.out.2.1, by rw [ent_left HI.out.1]; exact HI.out.2.2⟩)
              clear hown7 hg7 hat7 hm6 hg6 hj0 hj1 hj2 hj3
              go_wp2_with fail
              go_roundw
              case rel => exact ⟨m + 1, _, ws', _, by omega, by go_num, HS7, hid (by have h := HBF'.out; rw [HST.out] at h; exact h), HI7⟩
              case measure => simp [intOf]; omega
          · obtain rfl : m = 37 := by omega
            have HFN := hid (show BF A B p0 q0 es ws (i + 1) 0 from HF.out.next (by rw [HI.out.2.1, HI.out.2.2, ← HAE.out, ← HBE.out]; exact HEQ.out))
            have hi1 := HI.out.1
            have hesN := HNN.out _ _ _ _ HF.out
            go_wp2_with fail
            go_roundw
            case rel => exact ⟨i + 1, es, ws, td, by omega, by go_num, HS, HFN⟩
            case measure => simp [intOf]; omega
      · have hd : (a != b) = true := by simpa using hne
        have hie : ((i : Int) == (es.length : Int)) = false := by simp; omega
        have HW := hid (show FirstW A B p0 q0 (wrd ws i) from HF.out.found hlt (by rw [← HPE.out, ← HQE.out, ← HAE.out, ← HBE.out]; exact hne))
        clear hne
        go_wp2_with fail
        go_quiet (fail)
        go_wp2_with fail
        have HS0 := hid (HS.out.grown (below_drewN' wr nq _))
        obtain ⟨wd, hwd⟩ : ∃ wd, wd = wr.drewN nq := ⟨_, rfl⟩
        rw [← hwd] at HS0 ⊢
        clear hwd c1 c2 c3 c4 t1 t2 l0 l1 l2 l3 hd
        have HZ0 := hid (show OwnI wd lb (.slice none 0 0) (([] : List Nat).map fun (m : Nat) => (m : Int)) from World.ownsRow_nil _ _ _ _)
        have HK0 := hid (show BackIs ws i i [] from by unfold BackIs; simp)
        go_loopw [12, 16] (fun s12 s16 wr => ∃ (j : Nat) (zs : List Nat), j < es.length ∧ zs.length + j ≤ i ∧ s12 = .int .i64 j ∧ Hid (BackIs ws i j zs) ∧ Hid (SrM w2 lb (lb + 1) wr (.slice (some ⟨gb, go', none⟩) es.length lC) es td) ∧ Hid (OwnI wr lb s16 (zs.map fun (m : Nat) => (m : Int)))) (fun s12 _ _ => (intOf s12).toNat)
        case atStart => exact ⟨i, [], hlt, by simp, rfl, HK0, HS0, HZ0⟩
        case round =>
          clear HS0 HZ0 HK0 HS
          obtain ⟨j, zs, hj, hzj, rfl, HK, HS, HZ⟩ := hrel
          obtain ⟨-, -, c3, c4⟩ := HS.out.own.cellAt hj
          have hji : (j : Int) < (es.length : Int) := by omega
          have hj0 : 0 ≤ (j : Int) := by omega
          by_cases hjz : j = 0
          · subst hjz
            rw [HF.out.z.2.2.1] at c3
            have HWZ := hid (show wrd ws i = zs.reverse from by have h := HK.out; unfold BackIs at h; rw [HF.out.z.2.2.2, List.nil_append] at h; exact h)
            have HREV := hid (show (zs.map fun (m : Nat) => (m : Int)).reverse = (wrd ws i).map fun (m : Nat) => (m : Int) from by rw [HWZ.out, List.map_reverse])
            have HZN := hid (show (zs.map fun (m : Nat) => (m : Int)).length = zs.length from by simp)
            have hzl : zs.length ≤ 1000000 := by omega
            have HBD := hid (HBW.out _ HS.out.bel)
            have HLB2 := hid (show w.heap.size ≤ lb from by have := HLD.out; have := HD0.out; omega)
            by_cases hz0 : zs.length = 0
            · have HZE := hid (show wrd ws i = [] from by rw [HWZ.out, List.eq_nil_of_length_eq_zero hz0]; rfl)
              obtain ⟨oA, oC, hoe, _, hocm, _⟩ := own_arr HZ.out
              rw [HZN.out, hz0] at hoe
              subst hoe
              have HCM := hid hocm
              clear hz0 hocm
              go_wp2_with (first
                | (go_at_call 70; refine (Try.slices_Reverse_int_empty oA oC _).mono ?_; rintro e w7 ⟨rfl, rfl⟩)
                | fail)
              try rw [Exit.noGoto_ret]
              go_ret2
              exact .inl ⟨_, _, rfl, HW.out, by rw [HZE.out]; exact ⟨oA, oC, rfl, Nat.zero_le _, HCM.out, Arr.nil⟩, HBD.out⟩
            · obtain ⟨g, cap, hoe, hgb, hgc, hgm⟩ : ∃ g cap, u16 = .slice (some ⟨g, 0, none⟩) zs.length cap ∧ lb ≤ g ∧ (zs.map fun (m : Nat) => (m : Int)).length ≤ cap ∧ cap ≤ maxLen := by
                rcases HZ.out.2 with ⟨_, h0⟩ | ⟨g, cap, cur, h1, h2, _, h3, h4, _⟩
                · rw [HZN.out] at h0; exact absurd h0 hz0
                · rw [HZN.out] at h1; exact ⟨g, cap, h1, h2, h3, h4⟩
              subst hoe
              have HH := hid (own_holds HZ.out)
              have HGC := hid (And.intro hgb (And.intro hgc hgm))
              have HRL := hid (show ((wrd ws i).map fun (m : Nat) => (m : Int)).length = (zs.map fun (m : Nat) => (m : Int)).length from by rw [← HREV.out, List.length_reverse])
              clear hz0 hgb hgc hgm
              go_wp2_with (first
                | (go_at_call 70; refine (reverse_any g zs.length cap (zs.map fun (m : Nat) => (m : Int)) _ HZN.out HH.out hzl).mono ?_; rintro e w7 ⟨rfl, kk, rfl⟩)
                | fail)
              try rw [Exit.noGoto_ret]
              go_ret2
              refine .inl ⟨_, _, rfl, HW.out, ?_, below_putRow HBD.out (Nat.le_trans HLB2.out HGC.out.1)⟩
              have h1 := Go.Sort.holds_putRow (Value.int .i64) (Go.Sort.ahead wr kk) g 0 (zs.map fun (m : Nat) => (m : Int)).toArray (zs.map fun (m : Nat) => (m : Int)).reverse.toArray (Go.Sort.holds_ahead _ wr kk g 0 _ HH.out) (by simp)
              rw [HREV.out] at h1 ⊢
              rw [← HZN.out, ← HRL.out]
              exact holds_nums h1 (by rw [HRL.out]; exact HGC.out.2.1) HGC.out.2.2 (Nat.le_trans HLB2.out HGC.out.1)
          · obtain ⟨b', hb1, hb2, hb3, hb4, _⟩ := HF.out.par j (by omega) hj
            obtain ⟨mk, hmk⟩ : ∃ mk, mk = (ent es j).mark := ⟨_, rfl⟩
            rw [hb1] at c3
            rw [← hmk] at c4 hb3 hb4
            have HKN := hid (show BackIs ws i b' (zs ++ [mk]) from by
              have h := HK.out
              unfold BackIs at h ⊢
              rw [h, hb4, List.append_assoc, List.reverse_append]; rfl)
            have HZL := hid (show (zs.map fun (m : Nat) => (m : Int)).length ≤ 1010000 from by rw [List.length_map]; omega)
            have HSZ' := hid (show lb ≤ wr.heap.size from HS.out.size)
            have hb0 : 0 ≤ (b' : Int) := by omega
            have HB1 := hid hb1
            clear hb1 hb4 hmk hjz
            go_wp2_with (first
              | (at_builtin; refine wpList_app_int rfl (.tmp 107) (.tmp 113) rfl (w0 := wr) (z := (mk : Int)) rfl rfl HZ.out rfl HZL.out HSZ'.out ?_
                 intro A7 c7 w7 hown7 hg7 hat7
                 have HS7 := hid ((HS.out.grown ((Below.refl _ _).alloc (Nat.le_refl _) (.cells #[.int .i64 (mk : Int)] 3))).other (HZ.out.alloc _) hg7 (by decide))
                 obtain ⟨-, -, d3, -⟩ := HS7.out.own.cellAt hj
                 rw [HB1.out] at d3)
              | fail)
            have HZ7 := hid (show OwnI w7 lb (.slice A7 (zs.length + 1) c7) ((zs ++ [mk]).map fun (m : Nat) => (m : Int)) from by have h := hown7; rw [List.length_map] at h; rw [List.map_append]; exact h)
            clear hown7 hg7 hat7
            go_roundw
            case rel => exact ⟨b', zs ++ [mk], by omega, by rw [List.length_append, List.length_singleton]; omega, rfl, HKN, HS7, HZ7⟩
            case measure => simp [intOf] <;> omega
    · obtain rfl : i = es.length := by omega
      have HNO := hid (show ∀ v, (∀ m ∈ v, m < 37) → ¬ sep A B p0 q0 v from HF.out.none)
      have HBD := hid (HBW.out _ HS.out.bel)
      go_wp2_with fail
      try rw [Exit.noGoto_ret]
      go_ret2
      exact .inr ⟨rfl, HNO.out, HBD.out⟩
end Go.Proofs.Ytmdkmobcglnmgaa
