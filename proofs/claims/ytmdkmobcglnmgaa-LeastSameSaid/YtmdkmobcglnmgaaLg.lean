/- What a state tells; the least automaton of none; the law's own example. No conditions. -/
import Derived.Test.YtmdkmobcglnmgaaLe
import Derived.Test.YtmdkmobcglnmgaaLq
import Derived.Test.YtmdkmobcglnmgaaRun
namespace Go.Proofs.Ytmdkmobcglnmgaa
open Go.RowKit
set_option linter.unusedSimpArgs false

def tellsL (d : D) (s : Int) : Int := if stateB d s = true then nth d.tells s.toNat else 0
set_option maxRecDepth 100000 in
set_option maxHeartbeats 1000000 in
theorem tells_any (S : Nat → Prop) (v : Value) (d : D) (s : Int) (w : World) (h : IsD w S v d) :
    Calls Try.prog 37 #[v, .int .i64 s] w fun e w' => e = .returned (.int .u64 (tellsL d s)) ∧ Below w.heap.size w w' := by
  obtain ⟨nv, tv, rfl, hn, ht⟩ := id h
  obtain ⟨NA, nc, rfl⟩ := hn.form
  obtain ⟨TA, tc, rfl⟩ := ht.form
  obtain ⟨W, hW0⟩ : ∃ W, W = w.alloc (.cells #[.slice NA d.next.length nc, .slice TA d.tells.length tc] 30) := ⟨_, rfl⟩
  have hWb : Below w.heap.size w W := by rw [hW0]; exact (Below.refl _ _).alloc (Nat.le_refl _) _
  have q0 : W.heap[w.heap.size]? = some (.cells #[.slice NA d.next.length nc, .slice TA d.tells.length tc] 30 (0, 0)) := by rw [hW0]; exact heap_alloc_new _ _
  have hcells : ∀ Y, Below W.heap.size W Y → Y.cell? ⟨w.heap.size, 0, none⟩ = some (.slice NA d.next.length nc) ∧ Y.cell? ⟨w.heap.size, 1, none⟩ = some (.slice TA d.tells.length tc) := fun Y hY => by
    have h2 := (hY.block _ (by rw [hW0]; simp)).trans q0
    exact ⟨by rw [cell_of_row _ _ _ _ _ _ h2]; rfl, by rw [cell_of_row _ _ _ _ _ _ h2]; rfl⟩
  have HC := hid hcells
  have HB := hid hWb
  have HD := hid (h.below hWb)
  have HT := hid (ht.below hWb)
  obtain ⟨f1, f2⟩ := hcells W (Below.refl _ _)
  clear hcells q0 hWb h hn ht
  cases hs : stateB d s with
  | false =>
    have hres := hid (show tellsL d s = 0 by unfold tellsL; rw [hs]; rfl)
    have HS := hid hs
    clear hs
    go_enter Try.func37, Try.ntmps37
    go_wp2_with fail
    rw [← hW0]
    clear hW0
    go_wp2_with fail
    refine (state_any S _ d s _ HD.out).mono ?_
    rintro e w1 ⟨rfl, hb1⟩
    rw [HS.out]
    go_wp2_with fail
    go_ret
    exact ⟨ret_int hres.out.symm, HB.out.trans (hb1.mono HB.out.size)⟩
  | true =>
    have hres := hid (show tellsL d s = nth d.tells s.toNat by unfold tellsL; rw [hs]; rfl)
    have hss : 0 ≤ s ∧ s < d.next.length ∧ rightB d = true := by simpa [stateB, and_assoc] using hs
    obtain ⟨hs0, hs1, hr⟩ := hss
    have HR := hid (right_rows hr)
    have HS := hid hs
    have hn1000 := HR.out.1
    obtain ⟨t, rfl⟩ : ∃ t : Nat, s = t := ⟨_, (Int.toNat_of_nonneg hs0).symm⟩
    have htl : t < d.tells.length := by rw [HR.out.2.2.1]; omega
    have htl' : (t : Int) < (d.tells.length : Int) := by omega
    obtain ⟨b, o, c, e0, _, hbm, hcm⟩ := HT.out.at htl
    obtain ⟨rfl, rfl⟩ : TA = some ⟨b, o, none⟩ ∧ tc = c := by simpa using e0
    clear hs hr e0 htl
    go_enter Try.func37, Try.ntmps37
    go_wp2_with fail
    rw [← hW0]
    clear hW0
    go_wp2_with fail
    refine (state_any S _ d t _ HD.out).mono ?_
    rintro e w1 ⟨rfl, hb1⟩
    rw [HS.out]
    obtain ⟨g1, g2⟩ := HC.out w1 hb1
    have hc1 := (hb1.cell (p := ⟨b, o + t, none⟩) hbm).trans hcm
    go_wp2_with fail
    go_ret
    exact ⟨ret_int hres.out.symm, HB.out.trans (hb1.mono HB.out.size)⟩
set_option maxRecDepth 100000 in
set_option maxHeartbeats 1000000 in
theorem least_no (S : Nat → Prop) (v : Value) (d : D) (w : World) (h : IsD w S v d) (hr : rightB d = false) :
    Calls Try.prog 32 #[v] w fun e w' => e = .returned (.agg #[.slice none 0 0, .slice none 0 0]) ∧ Below w.heap.size w w' := by
  obtain ⟨nv, tv, rfl, hn, ht⟩ := id h
  obtain ⟨NA, nc, rfl⟩ := hn.form
  obtain ⟨TA, tc, rfl⟩ := ht.form
  obtain ⟨w2, hw2⟩ : ∃ w2, w2 = (w.alloc (.cells #[.slice NA d.next.length nc, .slice TA d.tells.length tc] 30)).alloc (.cells #[.slice none 0 0, .slice none 0 0] 30) := ⟨_, rfl⟩
  have hb2 : Below w.heap.size w w2 := by rw [hw2]; exact ((Below.refl _ _).alloc (Nat.le_refl _) _).alloc (by simp) _
  have HB2 := hid hb2
  have HD := hid (h.below hb2)
  have HR := hid hr
  have HP0 := hid (show w2.heap[w.heap.size]? = some (.cells #[.slice NA d.next.length nc, .slice TA d.tells.length tc] 30 (0, 0)) by rw [hw2, heap_alloc_old _ _ (by simp)]; exact heap_alloc_new _ _)
  have HP1 := hid (show w2.heap[w.heap.size + 1]? = some (.cells #[.slice none 0 0, .slice none 0 0] 30 (0, 0)) by rw [hw2]; exact heap_alloc2_new _ _ _)
  obtain ⟨d0, d1, _⟩ := slot2 HP0.out
  have hsz : w2.heap.size = w.heap.size + 2 := by rw [hw2]; simp
  have HSZ := hid hsz
  rw [hw2] at d0 d1
  clear h hn ht hr hb2 hsz
  go_enter Try.func32, Try.ntmps32
  go_wp2_with (first
    | (go_at_call 26
       rw [← hw2]
       refine (right_any S _ d _ HD.out).mono ?_
       rintro e w3 ⟨rfl, hb3⟩
       rw [HR.out]
       obtain ⟨e0, e1, e2, e3⟩ := slot2 ((hb3.block (w.heap.size + 1) (by rw [HSZ.out]; omega)).trans HP1.out)
       have HB3 := hid (HB2.out.trans (hb3.mono HB2.out.size))
       clear hb3)
    | fail)
  exact bodyPost_ret (v := .agg #[.slice none 0 0, .slice none 0 0]) (by simp [results, Try.results32, go_sem, e0, e1]) rfl ⟨rfl, (HB3.out.setCell (p := ⟨w.heap.size + 1, 0, none⟩) (by show _ ≤ w.heap.size + 1; omega) _).setCell (p := ⟨w.heap.size + 1, 1, none⟩) (by show _ ≤ w.heap.size + 1; omega) _⟩
theorem nth_repl {n m : Nat} {z : Int} (h : m < n) : nth (List.replicate n z) m = z := by
  unfold nth; rw [List.getElem?_replicate, if_pos h]; rfl
/-- The law's own example. -/
def dEx : D := ⟨[List.replicate 37 1, List.replicate 37 0], [3, 3]⟩
theorem dEx_right : rightB dEx = true := by decide
theorem dEx_alk (p q : Nat) (hp : p < 2) (hq : q < 2) : Alk dEx.next dEx.tells p q := by
  have hr : RT dEx.next 2 := ⟨rfl, fun p hp => by
    have e : ∀ p, p < 2 → ∃ z : Int, (z = 0 ∨ z = 1) ∧ row dEx.next p = List.replicate 37 z := fun p hp => by
      rcases (show p = 0 ∨ p = 1 by omega) with rfl | rfl
      · exact ⟨1, .inr rfl, rfl⟩
      · exact ⟨0, .inl rfl, rfl⟩
    obtain ⟨z, hz, e⟩ := e p hp
    rw [e]
    refine ⟨by simp, fun m hm => ?_⟩
    rw [nth_repl hm]; omega⟩
  have key : ∀ (w : List Nat) (p : Nat), p < 2 → (∀ m ∈ w, m < 37) → nth dEx.tells (goW dEx.next p w) = 3 := by
    intro w
    induction w with
    | nil =>
      intro p hp _
      rcases (show p = 0 ∨ p = 1 by omega) with rfl | rfl <;> rfl
    | cons m w ih => intro p hp hw; exact ih _ (hr.at hp (hw m List.mem_cons_self)).1 fun k hk => hw k (List.mem_cons_of_mem _ hk)
  exact fun w hw => by rw [key w p hp hw, key w q hq hw]
theorem dEx_least {al : Int → Int → Bool} (h : AlIs al dEx) : leastD al dEx = ⟨[List.replicate 37 0], [3]⟩ := by
  have h0 : al 0 0 = true := (h 0 0 (by decide) (by decide)).2 (Alk.refl _ _ _)
  have h1 : al 0 1 = true := (h 0 1 (by decide) (by decide)).2 (dEx_alk 0 1 (by omega) (by omega))
  have st : ∀ l : List Int, lStep al ([0], l) 1 = ([0], l ++ [0]) := fun l => by simp [lStep, fnd, List.findIdx_cons, h1]
  have rw1 : ∀ (n : Nat) (l : List Int), (List.replicate n (1 : Int)).foldl (lStep al) ([0], l) = ([0], l ++ List.replicate n 0) := by
    intro n
    induction n with
    | zero => intro l; simp
    | succ n ih => intro l; rw [List.replicate_succ, List.foldl_cons, st, ih, List.append_assoc]; rfl
  have e1 : lIter al dEx 1 = ([0], ⟨[List.replicate 37 0], [3]⟩) := by
    show lRound al dEx ([0], ⟨[], []⟩) = _
    unfold lRound
    simp only [List.length_nil, List.getElem?_cons_zero]
    have : lRow al [0] (row dEx.next (0 : Int).toNat) = ([0], List.replicate 37 0) := by
      show (List.replicate 37 (1 : Int)).foldl (lStep al) ([0], []) = _
      rw [rw1]; rfl
    rw [this]
    rfl
  show (lIter al dEx 2).2 = _
  rw [lIter_end (i := 1) (by rw [e1]; decide) 2 (by omega), e1]
set_option maxRecDepth 100000 in
set_option maxHeartbeats 4000000 in
theorem awake_any (w : World) : Calls Try.prog 31 #[] w fun e w' => e = .returned (.bool true) ∧ Below w.heap.size w w' := by
  obtain ⟨Z, hZ⟩ : ∃ Z, Z = ((List.replicate 37 (0 : Int)).map (Value.int .i64)).toArray := ⟨_, rfl⟩
  have HZ := hid hZ
  have hmk : ∀ w : World, (Instr.makeSlice 32 (.int .i64 37) (.int .i64 37)).run Try.prog w = .ok (.slice (some ⟨w.heap.size, 0, none⟩) 37 37) (w.alloc (.cells Z 3)) := fun w => by
    rw [hZ]; exact run_make_ints (P := Try.prog) 32 3 .i64 .i64 .i64 Try.underlying32 info3 37 (by omega) w
  clear hZ
  go_enter Try.func31, Try.ntmps31
  go_wp2_with fail
  go_cut [1, 2] from 5 (fun s1 s2 wc => ∃ g1 g2, s1 = .slice (some ⟨g1, 0, none⟩) 37 37 ∧ s2 = .slice (some ⟨g2, 0, none⟩) 37 37 ∧ g1 ≠ g2 ∧ Hid (IntBlk wc g1 3 .i64 (List.replicate 37 0)) ∧ Hid (IntBlk wc g2 3 .i64 (List.replicate 37 0)) ∧ w.heap.size ≤ g1 ∧ w.heap.size ≤ g2 ∧ Hid (Below w.heap.size w wc))
  case first =>
    have h1 := heap_alloc_new w (.cells Z 3)
    have h2 := heap_alloc2_new w (.cells Z 3) (.cells Z 3)
    have h3 := heap_alloc_old (w.alloc (.cells Z 3)) (.cells Z 3) (r := w.heap.size) (by simp)
    have HI1 := hid (show IntBlk ((w.alloc (.cells Z 3)).alloc (.cells Z 3)).drew w.heap.size 3 .i64 (List.replicate 37 0) from by
      show ((w.alloc (.cells Z 3)).alloc (.cells Z 3)).heap[w.heap.size]? = _
      rw [h3, h1, HZ.out])
    have HI2 := hid (show IntBlk ((w.alloc (.cells Z 3)).alloc (.cells Z 3)).drew (w.heap.size + 1) 3 .i64 (List.replicate 37 0) from by
      show ((w.alloc (.cells Z 3)).alloc (.cells Z 3)).heap[w.heap.size + 1]? = _
      rw [h2, HZ.out])
    have HBX := hid (show Below w.heap.size w ((w.alloc (.cells Z 3)).alloc (.cells Z 3)).drew from (((Below.refl _ _).alloc (Nat.le_refl _) _).alloc (by simp) _).drew)
    clear h1 h2 h3
    go_region
    · go_wp2_with fail
      go_meet
      exact ⟨_, _, rfl, rfl, by omega, HI1, HI2, by omega, by omega, HBX⟩
    · go_wp2_with fail
      go_meet
      exact ⟨_, _, rfl, rfl, by omega, HI2, HI1, by omega, by omega, HBX⟩
  case rest =>
    obtain ⟨g1, g2, rfl, rfl, hne, HI1, HI2, hg1, hg2, HBX⟩ := hcut
    clear hmk
    go_wp2_with fail
    go_loopw [3] (fun s3 wr => ∃ k : Nat, k ≤ 37 ∧ s3 = .int .i64 k ∧ Hid (IntBlk wr g1 3 .i64 (List.replicate k 1 ++ List.replicate (37 - k) 0)) ∧ Hid (IntBlk wr g2 3 .i64 (List.replicate 37 0)) ∧ Hid (Below w.heap.size w wr)) (fun s3 _ => 37 - (intOf s3).toNat)
    case atStart => exact ⟨0, by omega, rfl, HI1, HI2, HBX⟩
    case round =>
      clear HI1 HI2 HBX
      obtain ⟨k, hk, rfl, HI1, HI2, HB⟩ := hrel
      by_cases hlt : k < 37
      · have hkc : (k : Int) < 37 := by omega
        have hc := HI1.out.cell (j := k) (by rw [List.length_append, List.length_replicate, List.length_replicate]; omega)
        have hf := HI1.out.frozen k
        have HS := hid (show IntBlk (wr.setCell ⟨g1, k, none⟩ (.int .i64 1)) g1 3 .i64 (List.replicate (k + 1) 1 ++ List.replicate (37 - (k + 1)) 0) from by
          have h := HI1.out.set k 1
          rw [set_here (by simp) hlt] at h
          rw [List.replicate_succ']; exact h)
        have HS2 := hid (show IntBlk (wr.setCell ⟨g1, k, none⟩ (.int .i64 1)) g2 3 .i64 (List.replicate 37 0) from HI2.out.keep (Below.heap_setCell wr _ _ _ (fun e => hne e.symm)))
        go_wp2_with fail
        go_roundw
        case rel => exact ⟨k + 1, by omega, by go_num, HS, HS2, hid (HB.out.setCell (p := ⟨g1, k, none⟩) hg1 _)⟩
        case measure => simp [intOf]; omega
      · obtain rfl : k = 37 := by omega
        have h1 := HI1.out
        rw [Nat.sub_self, List.replicate_zero, List.append_nil] at h1
        obtain ⟨w2, hw2⟩ : ∃ w2, w2 = (wr.alloc (.cells #[.slice (some ⟨g1, 0, none⟩) 37 37, .slice (some ⟨g2, 0, none⟩) 37 37] 32)).alloc (.cells #[.int .u64 3, .int .u64 3] 52) := ⟨_, rfl⟩
        have hb2 : Below wr.heap.size wr w2 := by rw [hw2]; exact ((Below.refl _ _).alloc (Nat.le_refl _) _).alloc (by simp) _
        have HB2 := hid hb2
        have k1 : IntBlk w2 g1 3 .i64 (List.replicate 37 1) := h1.below hb2 h1.lt
        have k2 : IntBlk w2 g2 3 .i64 (List.replicate 37 0) := HI2.out.below hb2 HI2.out.lt
        have k3 : w2.heap[wr.heap.size]? = some (.cells #[.slice (some ⟨g1, 0, none⟩) 37 37, .slice (some ⟨g2, 0, none⟩) 37 37] 32 (0, 0)) := by rw [hw2, heap_alloc_old _ _ (by simp)]; exact heap_alloc_new _ _
        have k4 : w2.heap[wr.heap.size + 1]? = some (.cells #[.int .u64 3, .int .u64 3] 52 (0, 0)) := by rw [hw2]; exact heap_alloc2_new _ _ _
        have HD := hid (show IsD w2 Any (.agg #[.slice (some ⟨wr.heap.size, 0, none⟩) 2 2, .slice (some ⟨wr.heap.size + 1, 0, none⟩) 2 2]) dEx from by
          refine ⟨_, _, rfl, ⟨_, 2, [.slice (some ⟨g1, 0, none⟩) 37 37, .slice (some ⟨g2, 0, none⟩) 37 37], rfl, Nat.le_refl _, by unfold maxLen; omega, fun _ => ⟨_, 0, rfl, trivial, fun k v hk => ?_⟩, rfl, fun k r hk => ?_⟩,
            ⟨_, 2, rfl, Nat.le_refl _, by unfold maxLen; omega, fun _ => ⟨_, 0, rfl, trivial, fun k v hk => ?_⟩⟩⟩
          · rw [Nat.zero_add, cell_of_row _ _ _ _ _ _ k3, ← Array.getElem?_toList]; exact hk
          · match k, hk with
            | 0, hk =>
              obtain rfl : List.replicate 37 1 = r := by simpa [dEx] using hk
              exact ⟨_, rfl, ((k1.nums (by simp)).mono fun _ _ _ => trivial)⟩
            | 1, hk =>
              obtain rfl : List.replicate 37 0 = r := by simpa [dEx] using hk
              exact ⟨_, rfl, ((k2.nums (by simp)).mono fun _ _ _ => trivial)⟩
          · rw [Nat.zero_add, cell_of_row _ _ _ _ _ _ k4, ← Array.getElem?_toList]; exact hk)
        clear h1 hb2 k1 k2 k3 k4
        go_wp2_with (first
          | (go_at_call 32
             rw [← hw2]
             refine (least_yes Any _ dEx _ HD.out dEx_right (fun z hz => by
               have : z = 3 := by simpa [dEx] using hz
               rw [this]; decide)).mono ?_
             rintro e w3 ⟨nv, tv, al, rfl, hal, hisd, hb3⟩
             rw [dEx_least hal] at hisd
             obtain ⟨_, _, e1, hn3, ht3⟩ := hisd
             obtain ⟨rfl, rfl⟩ : nv = _ ∧ tv = _ := by simpa using e1
             obtain ⟨A3, c3, hA3⟩ := hn3.form
             dsimp only [List.length_cons, List.length_nil, Nat.zero_add] at hA3
             subst hA3
             obtain ⟨b4, o4, c4, rfl, _, hb4, hc4⟩ := ht3.at (j := 0) (by decide)
             dsimp only [List.length_cons, List.length_nil, Nat.zero_add] at hc4 ⊢
             have hc5 : ∀ O : Obj, (w3.alloc O).cell? ⟨b4, o4, none⟩ = some (.int .u64 3) := fun O => (((Below.refl w3.heap.size w3).alloc (Nat.le_refl _) O).cell (p := ⟨b4, o4, none⟩) hb4).trans hc4
             have hc6 := hc5 (.cells #[.slice A3 1 c3, .slice (some ⟨b4, o4, none⟩) 1 c4] 30)
             have HB3 := hid (HB.out.trans ((HB2.out.trans (hb3.mono HB2.out.size)).mono HB.out.size))
             clear e1 hn3 ht3 hc5 hb3 hal)
          | fail)
        go_ret
        exact ⟨rfl, HB3.out.alloc HB3.out.size _⟩
end Go.Proofs.Ytmdkmobcglnmgaa
