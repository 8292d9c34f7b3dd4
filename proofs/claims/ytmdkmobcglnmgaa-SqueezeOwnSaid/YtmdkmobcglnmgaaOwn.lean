/- The statement SqueezeOwn, walked: what is made is its own. Conditions: none beyond the input's shape. -/
import Derived.Test.YtmdkmobcglnmgaaAwk
import Derived.Test.YtmdkmobcglnmgaaPg
import Derived.Test.YtmdkmobcglnmgaaTab
namespace Go.Proofs.Ytmdkmobcglnmgaa
open Go.RowKit

theorem own_head {w : World} {B e n c : Nat} {A : Option Addr} {xs : List Value} (h : w.ownsRow B e 1 (.slice A n c) n xs) (hn : 0 < n) :
    ∃ g cs, A = some ⟨g, 0, none⟩ ∧ B ≤ g ∧ w.heap[g]? = some (.cells cs e (0, 0)) ∧ 0 < cs.size := by
  obtain ⟨hl, ⟨h0, _⟩ | ⟨g, cap, cur, he, hb, hh, h1, h2, h3, h4⟩⟩ := h
  · injection h0 with _ h0 _; omega
  · injection he with e1 e2 e3
    subst e1
    exact ⟨g, cur, rfl, hb, hh, by omega⟩
theorem head_cells {w : World} {g e : Nat} {cs : Array Value} (h : w.heap[g]? = some (.cells cs e (0, 0))) (hc : 0 < cs.size) : ∃ u, ∀ Y, Below w.heap.size w Y → Y.frozen? ⟨g, 0, none⟩ = false ∧ Y.cell? ⟨g, 0, none⟩ = some u :=
  ⟨cs[0], fun Y hb => by
    have h2 := (hb.block g (Array.getElem?_eq_some_iff.1 h).1).trans h
    exact ⟨frozen_of_row _ _ _ _ _ h2, by rw [cell_of_row _ _ _ _ _ _ h2]; simp [hc]⟩⟩
theorem blk_ne {w : World} {p q t t' : Nat} {cs cs' : Array Value} (h : w.heap[p]? = some (.cells cs t (0, 0))) (h' : w.heap[q]? = some (.cells cs' t' (0, 0))) (hne : t ≠ t') : p ≠ q := by
  rintro rfl
  rw [h] at h'
  injection h' with h'
  injection h' with _ ht
  exact hne ht
/-- Where what Make made lies. -/
theorem made_cells {w w6 : World} {gs : List Int} {d : D} {gA nA tA : Option Addr} {gc nc tc : Nat} {us : List Value} (h1 : w6.ownsRow w.heap.size 3 1 (.slice gA 37 gc) 37 (gs.map (.int .i64)))
    (h2 : w6.ownsRow w.heap.size 32 1 (.slice nA d.next.length nc) d.next.length us) (h3 : ∃ B, w.heap.size ≤ B ∧ (∀ q, (Value.slice gA 37 gc).ownBlock = some q → q < B) ∧ OwnRows w6 B us (d.next.map fun r => narrowL gs r (manyL gs).toNat))
    (h4 : w6.ownsRow w.heap.size 52 1 (.slice tA d.tells.length tc) d.tells.length (d.tells.map (.int .u64))) (hn : 0 < d.next.length) (ht : 0 < d.tells.length) {M : Nat} (hM : (manyL gs).toNat = M) (hm : 0 < M) :
    ∃ g t nb b u1 u2, gA = some ⟨g, 0, none⟩ ∧ tA = some ⟨t, 0, none⟩ ∧ nA = some ⟨nb, 0, none⟩ ∧ w.heap.size ≤ g ∧ w.heap.size ≤ t ∧ w.heap.size ≤ b ∧ (g ≠ t ∧ g ≠ nb ∧ g ≠ b ∧ t ≠ nb ∧ t ≠ b ∧ nb ≠ b ∧ g < w6.heap.size ∧ t < w6.heap.size ∧ nb < w6.heap.size ∧ b < w6.heap.size) ∧ ∀ Y, Below w6.heap.size w6 Y →
      Y.frozen? ⟨g, 0, none⟩ = false ∧ Y.cell? ⟨g, 0, none⟩ = some u1 ∧ Y.frozen? ⟨t, 0, none⟩ = false ∧ Y.cell? ⟨t, 0, none⟩ = some u2 ∧
      Y.cell? ⟨nb, 0, none⟩ = some (.slice (some ⟨b, 0, none⟩) M M) ∧ Y.frozen? ⟨b, 0, none⟩ = false ∧
      Y.cell? ⟨b, 0, none⟩ = some (.int .i64 (nth (narrowL gs (row d.next 0) M) 0)) := by
  obtain ⟨g, cs1, rfl, g1, g2, g3⟩ := own_head h1 (by decide)
  obtain ⟨t, cs2, rfl, t1, t2, t3⟩ := own_head h4 ht
  have h2' := h2
  obtain ⟨nb, cs3, rfl, n1, n2, n3⟩ := own_head h2 hn
  rw [hM] at h3
  obtain ⟨B, hB, hgB, h3⟩ := h3
  obtain ⟨b, b1, b2, b3, _⟩ := h3.2 0 (narrowL gs (row d.next 0) M) (by rw [List.getElem?_map, some_row hn]; exact Option.map_some _ _)
  rw [narrowL_len] at b1
  obtain ⟨A, c, e0, _, _, hA⟩ := own_arr h2
  obtain ⟨bb, o, e1, _, hlt, hcell⟩ := hA.at b1
  injection e0 with e0 _ _
  obtain ⟨rfl, rfl⟩ : nb = bb ∧ 0 = o := by rw [e1] at e0; simpa using e0
  have hgb := hgB g rfl
  obtain ⟨u1, y12⟩ := head_cells g2 g3
  obtain ⟨u2, y34⟩ := head_cells t2 t3
  have hf : ∀ Y, Below w6.heap.size w6 Y →
      Y.frozen? ⟨g, 0, none⟩ = false ∧ Y.cell? ⟨g, 0, none⟩ = some u1 ∧ Y.frozen? ⟨t, 0, none⟩ = false ∧ Y.cell? ⟨t, 0, none⟩ = some u2 ∧
      Y.cell? ⟨nb, 0, none⟩ = some (.slice (some ⟨b, 0, none⟩) M M) ∧ Y.frozen? ⟨b, 0, none⟩ = false ∧
      Y.cell? ⟨b, 0, none⟩ = some (.int .i64 (nth (narrowL gs (row d.next 0) M) 0)) := fun Y hY => by
    obtain ⟨y1, y2⟩ := y12 Y hY
    obtain ⟨y3, y4⟩ := y34 Y hY
    have hbY := b2.below hY b2.lt
    exact ⟨y1, y2, y3, y4, (hY.cell (p := ⟨nb, 0, none⟩) hlt).trans hcell, hbY.frozen 0, hbY.cell (by rw [narrowL_len]; exact hm)⟩
  exact ⟨g, t, nb, b, u1, u2, rfl, rfl, rfl, g1, t1, Nat.le_trans hB b3, ⟨blk_ne g2 t2 (by decide), blk_ne g2 n2 (by decide), by omega, blk_ne t2 n2 (by decide), blk_ne t2 b2 (by decide), blk_ne n2 b2 (by decide),
    (Array.getElem?_eq_some_iff.1 g2).1, (Array.getElem?_eq_some_iff.1 t2).1, (Array.getElem?_eq_some_iff.1 n2).1, b2.lt⟩, hf⟩

theorem groups_nil (w : World) : Calls Try.prog 16 #[.slice none 0 0] w (OwnedS w 3 1 37 ((groupsL []).map (.int .i64))) :=
  (groups_any (fun _ => True) _ [] w ⟨none, 0, [], rfl, Nat.le_refl _, by simp [maxLen], Arr.nil, rfl, (fun k d h => by simp at h)⟩ (by simp)).mono fun e w' h => by rw [groupsL_len] at h; exact owned_s h

set_option maxRecDepth 100000 in
set_option maxHeartbeats 4000000 in
theorem own_walk (S : Nat → Prop) (NA TA : Option Addr) (nc tc : Nat) (d : D) (w : World) (h : IsD w S (.agg #[.slice NA d.next.length nc, .slice TA d.tells.length tc]) d) :
    Calls Try.prog 5 #[.agg #[.slice NA d.next.length nc, .slice TA d.tells.length tc]] w (fun e w' => e = .returned (.bool true) ∧ Below w.heap.size w w') := by
  obtain ⟨W, hW0⟩ : ∃ W, W = w.alloc (.cells #[.slice NA d.next.length nc, .slice TA d.tells.length tc] 29) := ⟨_, rfl⟩
  have hWb : Below w.heap.size w W := by rw [hW0]; exact (Below.refl _ _).alloc (Nat.le_refl _) _
  have hWz : W.heap.size = w.heap.size + 1 := by rw [hW0]; simp
  have q0 : W.heap[w.heap.size]? = some (.cells #[.slice NA d.next.length nc, .slice TA d.tells.length tc] 29 (0, 0)) := by rw [hW0]; exact heap_alloc_new _ _
  have hcells : ∀ w1, Below W.heap.size W w1 → w1.cell? ⟨w.heap.size, 0, none⟩ = some (.slice NA d.next.length nc) ∧ w1.cell? ⟨w.heap.size, 1, none⟩ = some (.slice TA d.tells.length tc) := by
    intro w1 hb
    have h2 := (hb.block (w.heap.size) (by omega)).trans q0
    exact ⟨by rw [cell_of_row _ _ _ _ _ _ h2]; rfl, by rw [cell_of_row _ _ _ _ _ _ h2]; rfl⟩
  have HC := hid hcells
  have HB := hid hWb
  have HZ := hid hWz
  have HD := hid (h.below hWb)
  obtain ⟨f1, f2⟩ := hcells W (Below.refl _ _)
  clear hcells hWb hWz q0 h
  cases hg : greatB d with
  | true =>
    go_enter Try.func5, Try.ntmps5
    go_wp2_with fail
    rw [← hW0]
    clear hW0
    go_wp2_with (first
      | (go_at_call 14; refine (great_any S _ d _ HD.out).mono ?_; rintro e w1 ⟨rfl, hb1⟩; rw [hg])
      | (go_at_call 13; refine (awake_any _).mono ?_; rintro e w2 ⟨rfl, hb2⟩))
    have hbel := HB.out.trans ((hb1.trans (hb2.mono hb1.size)).mono HB.out.size)
    go_ret
    exact ⟨rfl, hbel⟩
  | false =>
    cases hr : rightB d with
    | false =>
      go_enter Try.func5, Try.ntmps5
      go_wp2_with fail
      rw [← hW0]
      clear hW0
      go_wp2_with (first
        | (go_at_call 14; refine (great_any S _ d _ HD.out).mono ?_; rintro e w1 ⟨rfl, hb1⟩; rw [hg])
        | (go_at_call 13; refine (awake_any _).mono ?_; rintro e w2 ⟨rfl, hb2⟩; have hB2 := hb1.trans (hb2.mono hb1.size); obtain ⟨f3, f4⟩ := HC.out w2 hB2)
        | (go_at_call 15; refine (to_any _ _ _ _ _ _ _).mono ?_; rintro e w3 ⟨rfl, hb3⟩; have hB3 := hB2.trans (hb3.mono hB2.size))
        | (go_at_call 26; refine (right_any S _ d _ ((HD.out.below hB3).below ((Below.refl _ _).alloc (Nat.le_refl _) _))).mono ?_; rintro e w4 ⟨rfl, hb4⟩; rw [hr]; have hB4 : Below W.heap.size W w4 := hB3.trans ((((Below.refl _ _).alloc (Nat.le_refl _) _).trans (hb4.mono (by simp))).mono hB3.size)))
      have hbel := HB.out.trans (hB4.mono HB.out.size)
      go_ret
      exact ⟨rfl, hbel⟩
    | true =>
      obtain ⟨r1, r2, r3, r4⟩ := right_rows hr
      have hgood : goodD [d] = [d] := by simp [goodD, hr]
      have hmany := hid (groupsL_many [d])
      obtain ⟨M, hM⟩ : ∃ M, (manyL (groupsL [d])).toNat = M := ⟨_, rfl⟩
      have hM0 : 0 < M := by have := (manyL_le (groupsL [d])).1; have := groupsL_many [d]; omega
      have HM := hid hM
      clear hM
      have hfits := hid (show ∀ r ∈ d.next, fitsB (groupsL [d]) r (manyL (groupsL [d])).toNat = true from fun r h => groupsL_fits [d] (by rw [hgood]; simp) h)
      have hz0 := groupsL_zero [d]
      obtain ⟨nv, tv, e0, hn, ht⟩ := HD.out.mono (S' := fun _ => True) (fun _ _ _ => trivial)
      obtain ⟨rfl, rfl⟩ : nv = .slice NA d.next.length nc ∧ tv = .slice TA d.tells.length tc := by simpa using e0.symm
      obtain ⟨tb, to', tc', e1, _, htb, hcell⟩ := ht.at (j := 0) (by omega)
      obtain ⟨rfl, rfl⟩ : TA = some ⟨tb, to', none⟩ ∧ tc = tc' := by simpa using e1
      have hl0 : 0 < d.next.length := by omega
      have hl1 : 0 < d.tells.length := by omega
      have R4 := hid r4
      clear r2 r3 r4 r1
      have HN := hid hn
      have HT := hid ht
      have HTC := hid (show ∀ w1, Below W.heap.size W w1 → w1.cell? ⟨tb, to', none⟩ = some (.int .u64 (nth d.tells 0)) from fun w1 hb => (hb.cell (p := ⟨tb, to', none⟩) htb).trans hcell)
      clear hn ht e0 e1 hcell
      go_enter Try.func5, Try.ntmps5
      go_wp2_with fail
      rw [← hW0]
      clear hW0
      go_wp2_with (first
        | (go_at_call 14; refine (great_any S _ d _ HD.out).mono ?_; rintro e w1 ⟨rfl, hb1⟩; rw [hg])
        | (go_at_call 13; refine (awake_any _).mono ?_; rintro e w2 ⟨rfl, hb2⟩; have hB2 := hb1.trans (hb2.mono hb1.size); obtain ⟨f3, f4⟩ := HC.out w2 hB2)
        | (go_at_call 15; refine (to_any _ _ _ _ _ _ _).mono ?_; rintro e w3 ⟨rfl, hb3⟩; have hB3 := hB2.trans (hb3.mono hB2.size))
        | (go_at_call 26; refine (right_any S _ d _ ((HD.out.below hB3).below ((Below.refl _ _).alloc (Nat.le_refl _) _))).mono ?_; rintro e w4 ⟨rfl, hb4⟩; rw [hr]; have hB4 : Below W.heap.size W w4 := hB3.trans ((((Below.refl _ _).alloc (Nat.le_refl _) _).trans (hb4.mono (by simp))).mono hB3.size)
           have hx4 : w4.heap[w3.heap.size]? = some (.cells #[.slice NA d.next.length nc, .slice (some ⟨tb, to', none⟩) d.tells.length tc] 30 (0, 0)) := slot_kept hb4
           have hlt4 : w3.heap.size < w4.heap.size := (Array.getElem?_eq_some_iff.1 hx4).1
           have hc4 : ∀ Y : World, Below w4.heap.size w4 Y → Y.cell? ⟨w3.heap.size, 0, none⟩ = some (.slice NA d.next.length nc) ∧ Y.cell? ⟨w3.heap.size, 1, none⟩ = some (.slice (some ⟨tb, to', none⟩) d.tells.length tc) := fun Y hY => by
             have h2 := (hY.block _ hlt4).trans hx4
             exact ⟨by rw [cell_of_row _ _ _ _ _ _ h2]; rfl, by rw [cell_of_row _ _ _ _ _ _ h2]; rfl⟩
           obtain ⟨x1, x2⟩ := hc4 w4 (Below.refl _ _)
           have HC4 := hid hc4
           clear hc4 hx4)
        | (go_at_call 16; refine (groups_one (fun _ => True) _ 30 _ _ d _ (heap_alloc_new _ _) trivial ((HN.out.below hB4).below ((Below.refl _ _).alloc (Nat.le_refl _) _)) ((HT.out.below hB4).below ((Below.refl _ _).alloc (Nat.le_refl _) _))).mono ?_; rintro e w5 ⟨A5, c5, rfl, hown5, hb5⟩; have hB5 : Below w4.heap.size w4 w5 := ((Below.refl _ _).alloc (Nat.le_refl _) _).trans (hb5.mono (by simp)); obtain ⟨x3, x4⟩ := HC4.out w5 hB5; have HO5 := hid hown5; clear hown5)
        | (go_at_call 21; refine (make_ok _ (fun _ => True) _ _ (groupsL [d]) d _ (own_nums HO5.out) ⟨_, _, rfl, HN.out.below (hB4.trans (hB5.mono hB4.size)), HT.out.below (hB4.trans (hB5.mono hB4.size))⟩ hmany.out hr hfits.out).mono ?_; rintro e w6 ⟨gA, gc, nA, nc6, tA, tc6, us, rfl, ho1, ho2, ho3, ho4, hb6⟩
           have hB6 := hB5.trans (hb6.mono hB5.size)
           have hY7 : Below w6.heap.size w6 (w6.alloc (.cells #[.slice gA 37 gc, .slice nA d.next.length nc6, .slice tA d.tells.length tc6] 40)) := (Below.refl _ _).alloc (Nat.le_refl _) _
           obtain ⟨x5, x6⟩ := HC4.out _ (hB6.trans (hY7.mono hB6.size))
           have x7 := HTC.out _ (hB4.trans ((hB6.trans (hY7.mono hB6.size)).mono hB4.size))
           obtain ⟨g, t, nb, b, u1, u2, rfl, rfl, rfl, kg, kt, kb, ⟨k1, k2, k3, k4, k5, k6, k7, k8, k9, k10⟩, hmc⟩ := made_cells ho1 ho2 ho3 ho4 hl0 hl1 HM.out hM0
           obtain ⟨y1, y2, y3, y4, y5, y6, y7⟩ := hmc _ hY7
           obtain ⟨z1, z2, z3, z4, z5, z6, z7⟩ := hmc _ (Below.refl _ _)
           have hB7 := hb6.trans (hY7.mono hb6.size)
           clear ho1 ho2 ho3 ho4 hmc))
      go_cut [2] from 10 (fun s2 wc => s2 = .bool false ∧ Below w5.heap.size w5 wc)
      case first =>
        have n1 : w6.heap.size ≠ g := by omega
        have n2 : w6.heap.size ≠ t := by omega
        have n3 : w6.heap.size ≠ b := by omega
        have n4 := k2.symm
        have n5 := k4.symm
        have n6 := k1.symm
        have n7 := k3.symm
        have n8 := k5.symm
        go_region
        all_goals
          go_wp2_with fail
          go_meet
          exact ⟨rfl, ((((hb6.setCell kg _).setCell kt _).setCell kb _).alloc (by simpa [World.setCell] using hb6.size) _).drew⟩
      case rest =>
        obtain ⟨rfl, hbc⟩ := hcut
        have hB5c := hB5.trans (hbc.mono hB5.size)
        obtain ⟨v1, v2⟩ := HC4.out wc hB5c
        have hN5 := own_nums HO5.out
        obtain ⟨gb, go, gc', e5, _, hgb, hg0⟩ := hN5.at (j := 0) (by rw [groupsL_len]; decide)
        rw [groupsL_len] at e5
        rw [hz0] at hg0
        obtain ⟨rfl, rfl⟩ : A5 = some ⟨gb, go, none⟩ ∧ c5 = gc' := by simpa using e5
        have HG0 := hid (show ∀ Y, Below w5.heap.size w5 Y → Y.cell? ⟨gb, go, none⟩ = some (.int .i64 0) from fun Y hY => (hY.cell (p := ⟨gb, go, none⟩) hgb).trans hg0)
        have HN5 := hid (hN5.below hbc)
        obtain ⟨z, hzv⟩ : ∃ z, nth (narrowL (groupsL [d]) (row d.next 0) M) 0 = z := ⟨_, rfl⟩
        have hzl : z < (d.next.length : Int) := by
          have h1 := groupsL_narrow [d] (d := d) (by rw [hgood]; simp) (row_mem hl0) 0 (by decide)
          rw [HM.out, hz0] at h1
          have h2 : z = nth (row d.next 0) 0 := hzv.symm.trans h1
          obtain ⟨h3, h4⟩ := R4.out _ (row_mem hl0)
          rw [h2]
          exact (h4 _ (nth_mem (by omega))).2
        have hzd : decide (z < (d.next.length : Int)) = true := by simpa using hzl
        have HZV := hid hzv
        have HBC := hid hbc
        have HB5C := hid hB5c
        have HB45 := hid (hB4.trans (hB5c.mono hB4.size))
        clear hzv hzl hg0 e5 hN5 x1 x2 x3 x4 x5 x6 x7 y1 y2 y3 y4 y5 y6 y7 z1 z2 z3 z4 z5 z6 z7 k1 k2 k3 k4 k5 k6 k7 k8 k9 k10 kg kt kb hB7 hbc hB5c
        go_wp2_with (go_at_call 21; refine (make_ok _ (fun _ => True) _ _ (groupsL [d]) d _ HN5.out ⟨_, _, rfl, HN.out.below HB45.out, HT.out.below HB45.out⟩ hmany.out hr hfits.out).mono ?_; rintro e w8 ⟨gA', gc8, nA', nc8, tA', tc8, us', rfl, ho1, ho2, ho3, ho4, hb8⟩)
        obtain ⟨g', t', nb', b', u1', u2', rfl, rfl, rfl, _, _, _, _, hmc⟩ := made_cells ho1 ho2 ho3 ho4 hl0 hl1 HM.out hM0
        rw [HZV.out] at hmc
        obtain ⟨Wq, hWq⟩ : ∃ Wq, Wq = w8.alloc (.cells #[.slice (some ⟨g', 0, none⟩) 37 gc8, .slice (some ⟨nb', 0, none⟩) d.next.length nc8, .slice (some ⟨t', 0, none⟩) d.tells.length tc8] 40) := ⟨_, rfl⟩
        have hq8 : Below w8.heap.size w8 Wq := by rw [hWq]; exact (Below.refl _ _).alloc (Nat.le_refl _) _
        have hqc : Below wc.heap.size wc Wq := hb8.trans (hq8.mono hb8.size)
        have hq4 : Below w4.heap.size w4 Wq := HB5C.out.trans (hqc.mono HB5C.out.size)
        have hcp : Wq.heap[w8.heap.size]? = some (.cells #[.slice (some ⟨g', 0, none⟩) 37 gc8, .slice (some ⟨nb', 0, none⟩) d.next.length nc8, .slice (some ⟨t', 0, none⟩) d.tells.length tc8] 40 (0, 0)) := by rw [hWq]; exact heap_alloc_new _ _
        have hall : ∀ Y, Below Wq.heap.size Wq Y → Y.cell? ⟨w8.heap.size, 1, none⟩ = some (.slice (some ⟨nb', 0, none⟩) d.next.length nc8) ∧ Y.cell? ⟨nb', 0, none⟩ = some (.slice (some ⟨b', 0, none⟩) M M) ∧
            Y.cell? ⟨b', 0, none⟩ = some (.int .i64 z) ∧ Y.cell? ⟨w3.heap.size, 0, none⟩ = some (.slice NA d.next.length nc) ∧ Y.cell? ⟨w3.heap.size, 1, none⟩ = some (.slice (some ⟨tb, to', none⟩) d.tells.length tc) ∧
            Y.cell? ⟨gb, go, none⟩ = some (.int .i64 0) ∧ Y.cell? ⟨tb, to', none⟩ = some (.int .u64 (nth d.tells 0)) := by
          intro Y hY
          obtain ⟨_, _, _, _, s5, _, s7⟩ := hmc Y (hq8.trans (hY.mono hq8.size))
          obtain ⟨s1, s2⟩ := HC4.out Y (hq4.trans (hY.mono hq4.size))
          have hh := (hY.block w8.heap.size (Array.getElem?_eq_some_iff.1 hcp).1).trans hcp
          have h45 := HB45.out.trans (hqc.mono HB45.out.size)
          exact ⟨by rw [cell_of_row _ _ _ _ _ _ hh]; rfl, s5, s7, s1, s2, HG0.out Y (HBC.out.trans ((hqc.trans (hY.mono hqc.size)).mono HBC.out.size)), HTC.out Y (h45.trans (hY.mono h45.size))⟩
        have HALL := hid hall
        obtain ⟨s1, s2, s3, s4, s5, s6, s7⟩ := hall Wq (Below.refl _ _)
        have hend := hid (HB.out.trans ((HB45.out.trans (hqc.mono HB45.out.size)).mono HB.out.size))
        rw [← hWq]
        clear hmc hcp hall hWq ho1 ho2 ho3 ho4 hq8 hqc hq4
        go_region_held3 (fun Y => Y.cell? ⟨w8.heap.size, 1, none⟩ = some (.slice (some ⟨nb', 0, none⟩) d.next.length nc8) ∧ Y.cell? ⟨nb', 0, none⟩ = some (.slice (some ⟨b', 0, none⟩) M M) ∧
            Y.cell? ⟨b', 0, none⟩ = some (.int .i64 z) ∧ Y.cell? ⟨w3.heap.size, 0, none⟩ = some (.slice NA d.next.length nc) ∧ Y.cell? ⟨w3.heap.size, 1, none⟩ = some (.slice (some ⟨tb, to', none⟩) d.tells.length tc) ∧
            Y.cell? ⟨gb, go, none⟩ = some (.int .i64 0) ∧ Y.cell? ⟨tb, to', none⟩ = some (.int .u64 (nth d.tells 0)))
          (first | go_keep | exact HALL.out _ hB9)
          ((go_at_call 16; refine (groups_nil _).mono ?_; rintro e w9 ⟨A9, c9, rfl, _, hb9⟩; have hB9 : Below Wq.heap.size Wq w9 := (by first | exact hb9 | exact ((Below.refl _ _).drew).trans hb9)))
        all_goals
          go_wp2_with fail
          go_ret
          exact ⟨rfl, hend.out.trans (hB9.mono hend.out.size)⟩
end Go.Proofs.Ytmdkmobcglnmgaa
