/- The statement SqueezeGroups, walked: the grouping of any tables. Conditions: none beyond the input's shape. -/
import Derived.Test.YtmdkmobcglnmgaaRg
import Derived.Test.YtmdkmobcglnmgaaAwk
namespace Go.Proofs.Ytmdkmobcglnmgaa
open Go.RowKit

theorem src_new2 (w : World) (a b : Value) (e : TypeId) : Src (w.alloc (.cells #[a, b] e)) 2 (some ⟨w.heap.size, 0, none⟩) 1 [a, b] :=
  ⟨rfl, fun _ => ⟨_, rfl, fun j u hu => by
    rw [Addr.add_lit, Nat.zero_add]
    have hb : (w.alloc (.cells #[a, b] e)).heap[w.heap.size]? = some (.cells #[a, b] e (0, 0)) := heap_alloc_new w _
    rw [cell_of_row _ _ j _ e (0, 0) hb, ← Array.getElem?_toList]
    exact hu⟩⟩
theorem flat_snoc {qs : List QD} {k : Nat} {q : QD} (h : qs[k]? = some q) : flat ((qs.take (k + 1)).map (·.1)) = flat ((qs.take k).map (·.1)) ++ [q.1.1, q.1.2] := by
  rw [List.take_add_one, h]; simp [flat]

set_option maxRecDepth 100000 in
set_option maxHeartbeats 2000000 in
theorem groupsl_walk (S : Nat → Prop) (v : Value) (ds : List D) (w : World) (h : IsDs w S v ds) :
    Calls Try.prog 3 #[v] w fun e w' => e = .returned (.bool true) ∧ Below w.heap.size w w' := by
  have H := hid h
  have hle : ds.length ≤ 9223372036854775807 := by obtain ⟨A, c, vs, rfl, hl1, hl2, _⟩ := h; unfold maxLen at hl2; omega
  obtain ⟨A, c, vs, rfl, hl1, hl2, hA, hvl, hD⟩ := h
  by_cases h4 : 4 < ds.length
  · have h4i : decide ((4 : Int) < (ds.length : Int)) = true := by simp; omega
    clear hA hD hvl
    go_enter Try.func3, Try.ntmps3
    go_wp2_with (go_at_call 13; refine (awake_any _).mono ?_; rintro e w2 ⟨rfl, hb2⟩)
    go_ret
    exact ⟨rfl, hb2⟩
  · have h4i : decide ((4 : Int) < (ds.length : Int)) = false := by simp; omega
    obtain ⟨i0, hi0, hz0, hz1, hz2⟩ := info_parts info30
    obtain ⟨qs, rfl, rfl, hq⟩ := ds_qs ds vs hvl hD
    have hln : (qs.map (·.2)).length = qs.length := List.length_map _
    have hone := hid (flat_one hq)
    have HA := hid hA
    have HQ := hid hq
    have H2 := H.out
    rw [hln] at hl1 h4i h4 hle H2 ⊢
    have H := hid H2
    clear H2
    clear hA hvl hD hq hln
    go_enter Try.func3, Try.ntmps3
    go_wp2_with (go_at_call 13; refine (awake_any _).mono ?_; rintro e w2 ⟨rfl, hb2⟩)
    have HB2 := hid hb2
    obtain ⟨W, hW⟩ : ∃ W, W = w2 := ⟨_, rfl⟩
    rw [← hW] at hb2 HB2 ⊢
    clear hW
    go_loopw [3, 4] (fun s3 s4 wr => ∃ k : Nat, k ≤ qs.length ∧ s4 = .int .i64 k ∧ wr.ownsRow w.heap.size 30 2 s3 k (flat ((qs.take k).map (·.1))) ∧ Below w.heap.size w wr) (fun _ s4 _ => qs.length - (intOf s4).toNat)
    case atStart => exact ⟨0, by omega, rfl, World.ownsRow_nil _ _ _ _, hb2⟩
    case round =>
      clear hb2
      obtain ⟨k, hk, rfl, hown, hbw⟩ := hrel
      have HO := hid hown
      have hwz := hbw.size
      clear hown
      by_cases hlt : k < qs.length
      · obtain ⟨q, hqk⟩ : ∃ q, qs[k]? = some q := ⟨_, List.getElem?_eq_getElem hlt⟩
        have hst := hid (flat_snoc hqk)
        obtain ⟨fa1, fa2⟩ := flat_at (ps := qs.map (·.1)) (k := k) (p := q.1) (by rw [List.getElem?_map, hqk]; rfl)
        obtain ⟨b1, o1, rfl, _, hb1, hc1⟩ := HA.out.at fa1
        obtain ⟨b1', o1', e1', _, _, hc2⟩ := HA.out.at fa2
        obtain ⟨rfl, rfl⟩ : b1 = b1' ∧ o1 = o1' := by simpa using e1'
        obtain ⟨hqn, hqt⟩ := HQ.out q (List.mem_of_getElem? hqk)
        rw [Nat.mul_comm 2 k] at hc1 hc2
        rw [← Nat.add_assoc] at hc2
        obtain ⟨⟨nv, tv⟩, d⟩ := q
        obtain ⟨NA, nc, e2⟩ := hqn.form
        obtain ⟨TA, tc, e3⟩ := hqt.form
        simp only at e2 e3
        subst e2 e3
        have hc1w : wr.cell? ⟨b1, o1 + k * 2, none⟩ = some (.slice NA d.next.length nc) := (hbw.cell (p := ⟨b1, o1 + k * 2, none⟩) hb1).trans hc1
        have hc2w : wr.cell? ⟨b1, o1 + k * 2 + 1, none⟩ = some (.slice TA d.tells.length tc) := (hbw.cell (p := ⟨b1, o1 + k * 2 + 1, none⟩) hb1).trans hc2
        have HD := hid (show IsD wr S (.agg #[.slice NA d.next.length nc, .slice TA d.tells.length tc]) d from ⟨_, _, rfl, hqn.below hbw, hqt.below hbw⟩)
        have HC1 := hid (fun (Y : World) (hY : Below w.heap.size w Y) => (hY.cell (p := ⟨b1, o1 + k * 2, none⟩) hb1).trans hc1)
        have HC2 := hid (fun (Y : World) (hY : Below w.heap.size w Y) => (hY.cell (p := ⟨b1, o1 + k * 2 + 1, none⟩) hb1).trans hc2)
        clear hc1 hc2 fa1 fa2 e1' hqn hqt hqk
        cases hg : greatB d with
        | true =>
          go_wp2_with (go_at_call 14; refine (great_any S _ d _ HD.out).mono ?_; rintro e w1 ⟨rfl, hb1'⟩; rw [hg])
          go_ret
          exact ⟨rfl, hbw.trans (hb1'.mono hbw.size)⟩
        | false =>
          go_wp2_with (first
            | (go_at_call 14; refine (great_any S _ d _ HD.out).mono ?_; rintro e w1 ⟨rfl, hb1'⟩; rw [hg]
               have hbw1 := hbw.trans (hb1'.mono hwz)
               have f1 := HC1.out _ hbw1
               have f2 := HC2.out _ hbw1)
            | (go_at_call 15; refine (to_any _ _ _ _ _ _ _).mono ?_; rintro e w3 ⟨rfl, hb3⟩; have hbw3 := hbw1.trans (hb3.mono hbw1.size); have hb13 := hb1'.trans (hb3.mono hb1'.size)
               have hO3 := hid (HO.out.kept (grown_of_below hb13 none) (Classical.em _))
               have hz3 := hb13.size)
            | (at_builtin; refine wpList_app _ rfl (.tmp 26) (.tmp 32) 24 rfl w.heap.size 30 i0 _ 2 48 Try.underlying24 hi0 hz0 hz1 hz2 rfl (by decide) u3 _ _ rfl (hO3.out.alloc _) (some ⟨w3.heap.size, 0, none⟩) 1 1 _ rfl (src_new2 w3 _ _ 30) (by simp [Value.oneCell']) (by simp only [maxLen]; omega) (by omega) (by simp; omega) ?_; intro v' w4 hown4 hgrow4 hat4))
          go_roundw
          case rel => exact ⟨k + 1, by omega, by go_num, by rw [hst.out]; exact hown4, below_own (hbw3.alloc (by omega) _) (hO3.out.alloc _) hgrow4 (by simp; omega)⟩
          case measure => simp [intOf]; omega
      · obtain rfl : k = qs.length := by omega
        have hO := HO.out
        rw [List.take_length] at hO
        have hds := hid (own_isDs (S := S) hO (fun q hq => ⟨(HQ.out q hq).1.below hbw, (HQ.out q hq).2.below hbw⟩))
        have HG := hid (groupsL_len (qs.map (·.2)))
        clear hO
        go_wp2_with (first
          | (go_at_call 16; refine (groups_any _ _ _ _ hds.out (by rw [List.length_map]; omega)).mono ?_; rintro e w5 ⟨v5, rfl, hown5, hb5⟩
             have hbw5 := hbw.trans (hb5.mono hwz)
             have HN5 := hid (own_nums hown5)
             clear hown5)
          | (go_at_call 17; refine (refGroups_any S _ _ _ (H.out.below hbw5)).mono ?_; rintro e w6 ⟨v6, rfl, hown6, hb6⟩
             have hbw6 := hbw5.trans (hb6.mono hbw5.size)
             have HN5b := hid (HN5.out.below hb6)
             have HN6 := hid (own_nums hown6)
             clear hown6)
          | (go_at_call 18; refine (f18_any _ _ _ _ _ _ _ HN5b.out HN6.out).mono ?_; rintro e w7 ⟨rfl, n7, rfl⟩; rw [decide_eq_true (rfl : groupsL (qs.map (·.2)) = groupsL (qs.map (·.2)))])
          | (go_at_call 19; refine (many_any _ _ _ _ (HN5b.out.drewN n7)).mono ?_; rintro e w8 ⟨rfl, hb8⟩)
          | (go_at_call 20; refine (refMany_any _ _ _ _ ((HN6.out.drewN n7).below hb8)).mono ?_; rintro e w9 ⟨rfl, hb9⟩))
        go_ret
        have hb79 := (below_drewN hbw6 n7).trans ((hb8.trans (hb9.mono hb8.size)).mono (below_drewN hbw6 n7).size)
        exact ⟨ret_bool (by simp), hb79⟩
end Go.Proofs.Ytmdkmobcglnmgaa
