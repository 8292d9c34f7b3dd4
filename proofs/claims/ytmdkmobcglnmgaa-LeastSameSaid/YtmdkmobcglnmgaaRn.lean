/- Numbers renamed in the order in which they come: the walk. Conditions: at most a thousand numbers. -/
import Derived.Test.YtmdkmobcglnmgaaBw
namespace Go.Proofs.Ytmdkmobcglnmgaa
open Go.RowKit
set_option linter.unusedSimpArgs false

def RenAns (w : World) (l : List Int) (n : Nat) (e : Ending) (w' : World) : Prop :=
  ∃ b, e = .returned (.slice (some ⟨b, 0, none⟩) n n) ∧ w.heap.size ≤ b ∧ IntBlk w' b 3 .i64 (numbered l) ∧ Below w.heap.size w w'
set_option maxRecDepth 100000 in
set_option maxHeartbeats 4000000 in
theorem renamed_any (w : World) (bb n : Nat) (l : List Int) (h : IntBlk w bb 3 .i64 l) (hl : l.length = n) (hn : n ≤ 1000) (hz : ∀ z ∈ l, i64ok z) :
    Calls Try.prog 57 #[.slice (some ⟨bb, 0, none⟩) n n] w (RenAns w l n) := by
  have HI := hid h
  have HL := hid hl
  have HZ := hid hz
  obtain ⟨Z, hZ⟩ : ∃ Z, Z = ((List.replicate n (0 : Int)).map (Value.int .i64)).toArray := ⟨_, rfl⟩
  have HZZ := hid hZ
  have hmk : ∀ w : World, (Instr.makeSlice 32 (.int .i64 (n : Int)) (.int .i64 (n : Int))).run Try.prog w = .ok (.slice (some ⟨w.heap.size, 0, none⟩) n n) (w.alloc (.cells Z 3)) := fun w => by
    rw [hZ]; exact run_make_ints (P := Try.prog) 32 3 .i64 .i64 .i64 Try.underlying32 info3 n (by omega) w
  have hmm := @run_makeMap Try.prog
  obtain ⟨g, hg⟩ : ∃ g, g = w.heap.size := ⟨_, rfl⟩
  have HG := hid hg
  obtain ⟨g2, hg2⟩ : ∃ g2, g2 = g + 1 := ⟨_, rfl⟩
  have hgg : g < g2 := by omega
  have hbb : bb < g := by rw [hg]; exact h.lt
  obtain ⟨W, hW⟩ : ∃ W, W = (w.alloc (.map #[] 0)).alloc (.cells Z 3) := ⟨_, rfl⟩
  have HM0 := hid (show MapIs W g (fun z : Int => Value.int .i64 z) i64ok (fun (n : Int) u => u = .int .i64 n) ([] : List (Int × Int)) from by rw [hW, hg]; exact (mapIs_new _ _ _ _).alloc _)
  have HB0 := hid (show IntBlk W g2 3 .i64 (List.replicate n 0) from by
    have h2 := heap_alloc_new (w.alloc (.map #[] 0)) (.cells Z 3)
    rw [show (w.alloc (.map #[] 0)).heap.size = g2 by rw [hg2, hg]; simp] at h2
    show W.heap[g2]? = _
    rw [hW, h2, hZ])
  have HBW := hid (show Below g w W by rw [hW]; exact ((Below.refl _ _).alloc (by omega) _).alloc (by simp; omega) _)
  clear h hl hz hZ
  go_enter Try.func57, Try.ntmps57
  go_wp2_with fail
  clear hmk hmm
  rw [← hW, ← hg, ← hg2]
  clear hW hg2 hg
  go_loopw [15] (fun s15 wr => ∃ k : Nat, k ≤ n ∧ s15 = .int .i64 k ∧ Hid (MapIs wr g (fun z : Int => Value.int .i64 z) i64ok (fun (n : Int) u => u = .int .i64 n) (numGo (l.take k)).1) ∧
      Hid (IntBlk wr g2 3 .i64 ((numGo (l.take k)).2 ++ List.replicate (n - k) 0)) ∧ Hid (Below g w wr)) (fun s15 _ => n - (intOf s15).toNat)
  case atStart => exact ⟨0, by omega, rfl, HM0, HB0, HBW⟩
  case round =>
    obtain ⟨k, hk, rfl, HM, HB, HBL⟩ := hrel
    clear HM0 HB0 HBW
    by_cases hlt : k < n
    · have hkl : k < l.length := by rw [HL.out]; exact hlt
      obtain ⟨z, hz⟩ : ∃ z, z = nth l k := ⟨_, rfl⟩
      have hc1 : wr.cell? ⟨bb, k, none⟩ = some (.int .i64 z) := by rw [hz]; exact (HBL.out.cell (p := ⟨bb, k, none⟩) hbb).trans (HI.out.cell hkl)
      have HKZ := hid (show i64ok z from HZ.out z (by rw [hz]; exact nth_mem hkl))
      have hst := hid (show numGo (l.take (k + 1)) = numStep (numGo (l.take k)) z by rw [take_nth hkl, numGo_snoc, hz])
      have hkm : (numGo (l.take k)).1.length ≤ 1000 := by have := (numGo_len (l.take k)).2; rw [List.length_take] at this; omega
      have hkl2 : (numGo (l.take k)).2.length = k := by rw [(numGo_len (l.take k)).1, List.length_take]; omega
      have hlen := fun ty => HM.out.len (P := Try.prog) (ty := ty) Try.underlying84
      have hc2 : wr.cell? ⟨g2, k, none⟩ = some (.int .i64 (nth ((numGo (l.take k)).2 ++ List.replicate (n - k) 0) k)) := HB.out.cell (by rw [List.length_append, List.length_replicate]; omega)
      have hf2 := HB.out.frozen k
      have HS := hid (fun y => set_here hkl2 hlt y)
      have HKL := hid hkl2
      clear hz hkl2
      cases hgt : mget (numGo (l.take k)).1 z with
      | some y =>
        have HGT := hid hgt
        have hst2 := hid (show numGo (l.take (k + 1)) = ((numGo (l.take k)).1, (numGo (l.take k)).2 ++ [y]) by rw [hst.out]; unfold numStep; rw [hgt])
        clear hgt hlen
        go_wp2_with (first
          | (at_lookup; refine wpList_mlookup_some true intKey rfl (.tmp 21) (.tmp 22) 84 rfl Try.underlying84 _ (zero3 _) HM.out z HKZ.out rfl rfl y HGT.out ?_; intro u hu; rw [hu])
          | fail)
        go_roundw
        case rel =>
          refine ⟨k + 1, by omega, by go_num, hid ?_, hid ?_, hid (HBL.out.setCell (p := ⟨g2, k, none⟩) (by show _ ≤ g2; omega) _)⟩
          · rw [hst2.out]; exact HM.out.grown (grown_setCell (World.grownBy.refl wr (some g2)) k _) (fun e => by injection e with e; omega)
          · rw [hst2.out, ← HS.out]; exact HB.out.set k y
        case measure => simp [intOf]; omega
      | none =>
        have HGT := hid hgt
        have hst2 := hid (show numGo (l.take (k + 1)) = (mset (numGo (l.take k)).1 z (numGo (l.take k)).1.length, (numGo (l.take k)).2 ++ [((numGo (l.take k)).1.length : Int)]) by rw [hst.out]; unfold numStep; rw [hgt])
        clear hgt
        have HB2 := hid (show ∀ w1 : World, wr.grownBy w1 (some g) → IntBlk w1 g2 3 .i64 ((numGo (l.take k)).2 ++ List.replicate (n - k) 0) from fun w1 h1 => HB.out.keep (h1.block g2 HB.out.lt (fun e => by injection e with e; omega)))
        go_wp2_with (first
          | (at_lookup; refine wpList_mlookup_none true intKey rfl (.tmp 21) (.tmp 22) 84 rfl Try.underlying84 _ (zero3 _) HM.out z HKZ.out rfl rfl HGT.out ?_)
          | (at_mapUpdate
             refine wpList_mupdate intKey rfl (.tmp 30) (.tmp 31) (.tmp 32) 84 rfl Try.underlying84 HM.out z HKZ.out ((numGo (l.take k)).1.length : Int) _ rfl rfl rfl rfl ?_
             intro w1 hm1 hg1
             have e2 : w1.cell? ⟨g2, k, none⟩ = some (.int .i64 (nth ((numGo (l.take k)).2 ++ List.replicate (n - k) 0) k)) := (HB2.out w1 hg1).cell (by have := HKL.out; rw [List.length_append, List.length_replicate]; omega)
             have f2 := (HB2.out w1 hg1).frozen k)
          | fail)
        have hb1 : Below g w w1 := HBL.out.grown hg1 (Nat.le_of_lt HM.out.lt) (fun k hk => by cases hk; exact Nat.le_refl _)
        go_roundw
        case rel =>
          refine ⟨k + 1, by omega, by go_num, hid ?_, hid ?_, hid (hb1.setCell (p := ⟨g2, k, none⟩) (by show _ ≤ g2; omega) _)⟩
          · rw [hst2.out]; exact hm1.grown (grown_setCell (World.grownBy.refl w1 (some g2)) k _) (fun e => by injection e with e; omega)
          · rw [hst2.out, ← HS.out]; exact (HB2.out w1 hg1).set k _
        case measure => simp [intOf]; omega
    · obtain rfl : k = n := by omega
      go_wp2_with fail
      go_ret
      have h := HB.out
      rw [List.take_of_length_le (by rw [HL.out]; exact Nat.le_refl _), Nat.sub_self, List.replicate_zero, List.append_nil] at h
      rw [HG.out] at HBL hgg
      exact ⟨g2, rfl, Nat.le_of_lt hgg, h, HBL.out⟩
end Go.Proofs.Ytmdkmobcglnmgaa
namespace Go.Proofs.Ytmdkmobcglnmgaa
open Go.RowKit

theorem tabX_of {S : Nat → Prop} {w : World} {nv tv : Value} {d : D} (h : IsD w S (.agg #[nv, tv]) d) (hr : rightB d = true) (hu : ∀ z ∈ d.tells, u64ok z) :
    ∃ nb no nc tb to' tc, nv = .slice (some ⟨nb, no, none⟩) d.next.length nc ∧ tv = .slice (some ⟨tb, to', none⟩) d.next.length tc ∧ TabX w nb no nc tb to' tc d.next.length d.next d.tells := by
  obtain ⟨_, _, e1, hn, ht⟩ := h
  obtain ⟨rfl, rfl⟩ : nv = _ ∧ tv = _ := by simpa using e1
  obtain ⟨r1, r2, r3, r4⟩ := right_rows hr
  obtain ⟨A, cA, vs, rfl, hl, hA, hR⟩ := hn.open
  obtain ⟨nb, no, A', c', rfl, _, hnb, _⟩ := hR.at hA (k := 0) (by omega)
  obtain ⟨tb, to', tc, rfl, _, htb, _⟩ := ht.at (j := 0) (by omega)
  refine ⟨nb, no, cA, tb, to', tc, rfl, by rw [r3], ⟨⟨rfl, fun p hp => ⟨(r4 _ (row_mem hp)).1, fun m hm => (r4 _ (row_mem hp)).2 _ (nth_mem (by rw [(r4 _ (row_mem hp)).1]; exact hm))⟩⟩, r3, ⟨r2, r1⟩, hnb, htb, fun k hk => ?_, fun i hi => ?_, hu⟩⟩
  · obtain ⟨b, o, c, e, _, _, hc⟩ := ht.at (j := k) (by omega)
    obtain ⟨⟨rfl, rfl⟩, _⟩ : (tb = b ∧ to' = o) ∧ tc = c := by simpa using e
    exact hc
  · obtain ⟨b, o, A2, c2, e, _, hlt, hc, _, _, _, hA2⟩ := hR.at hA hi
    obtain ⟨rfl, rfl⟩ : nb = b ∧ no = o := by simpa using e
    have hlen := (r4 _ (row_mem hi)).1
    obtain ⟨b2, o2, rfl, _, hb2, _⟩ := hA2.num (j := 0) (by omega)
    refine ⟨b2, o2, c2, by rw [hc, hlen], hb2, fun m hm => ?_⟩
    obtain ⟨b3, o3, e3, _, _, h3⟩ := hA2.num (j := m) (by omega)
    obtain ⟨rfl, rfl⟩ : b2 = b3 ∧ o2 = o3 := by simpa using e3
    exact h3
end Go.Proofs.Ytmdkmobcglnmgaa
namespace Go.Proofs.Ytmdkmobcglnmgaa
open Go.RowKit
set_option linter.unusedSimpArgs false

def ClassAns (w : World) (d : D) (e : Ending) (w' : World) : Prop :=
  ∃ b l, e = .returned (.slice (some ⟨b, 0, none⟩) d.next.length d.next.length) ∧ w.heap.size ≤ b ∧ l.length = d.next.length ∧ (∀ p q, p < d.next.length → q < d.next.length → (nth l p = nth l q ↔ Alk d.next d.tells p q)) ∧ IntBlk w' b 3 .i64 (numbered l) ∧ Below w.heap.size w w'
set_option maxRecDepth 100000 in
set_option maxHeartbeats 4000000 in
theorem classes_yes (S : Nat → Prop) (v : Value) (d : D) (w : World) (h : IsD w S v d) (hr : rightB d = true) (hu : ∀ z ∈ d.tells, u64ok z) :
    Calls Try.prog 33 #[v] w (ClassAns w d) := by
  obtain ⟨nv, tv, rfl, _, _⟩ := id h
  have HD := hid h
  have HR := hid hr
  obtain ⟨nb, no, nc, tb, to', tc, rfl, rfl, hx⟩ := tabX_of h hr hu
  have HX := hid hx
  obtain ⟨n, hn⟩ : ∃ n, n = d.next.length := ⟨_, rfl⟩
  have HN := hid hn
  have HN1 := hid hx.n1
  obtain ⟨B, hB⟩ : ∃ B, B = w.heap.size := ⟨_, rfl⟩
  have HB := hid hB
  obtain ⟨w1, hw1⟩ : ∃ w1, w1 = w.alloc (.cells #[.slice (some ⟨nb, no, none⟩) d.next.length nc, .slice (some ⟨tb, to', none⟩) d.next.length tc] 30) := ⟨_, rfl⟩
  have hx1 : w1.heap[B]? = some (.cells #[.slice (some ⟨nb, no, none⟩) d.next.length nc, .slice (some ⟨tb, to', none⟩) d.next.length tc] 30 (0, 0)) := by rw [hw1, hB]; exact heap_alloc_new _ _
  have HX1 := hid hx1
  have HB1 := hid (show Below w.heap.size w w1 by rw [hw1]; exact (Below.refl _ _).alloc (Nat.le_refl _) _)
  have hsz : w1.heap.size = B + 1 := by rw [hw1, hB]; simp
  have HSZ := hid hsz
  obtain ⟨d0, d1, _⟩ := slot2 hx1
  rw [hB, hw1] at d0 d1
  clear h hr hu hx hn hx1 hsz
  go_enter Try.func33, Try.ntmps33
  go_wp2_with (first
    | (go_at_call 26
       refine (right_any S _ d _ (HD.out.below (by first | exact Below.refl _ _ | exact (Below.refl _ _).alloc (Nat.le_refl _) _))).mono ?_
       rintro e w2 ⟨rfl, hb2⟩
       rw [HR.out]
       rw [← hw1] at hb2
       have HB2 := hid (HB1.out.trans (hb2.mono HB1.out.size))
       obtain ⟨e0, e1, _⟩ := slot2 ((hb2.block B (by rw [HSZ.out]; omega)).trans HX1.out)
       rw [hB] at e0 e1
       clear hb2)
    | (go_at_call 56
       refine (blocks_any _ nb no nc tb to' tc _ _ _ (HX.out.below HB2.out)).mono ?_
       rintro e w3 ⟨b3, l, rfl, hg3, hi3, hl3, hr3, ha3, hb3⟩
       have HB3 := hid (HB2.out.trans (hb3.mono HB2.out.size))
       have HI3 := hid (And.intro hi3 (And.intro hl3 hr3))
       have HA3 := hid ha3
       clear hb3 hi3 hl3 hr3 ha3)
    | (go_at_call 57
       refine (renamed_any _ b3 _ l HI3.out.1 HI3.out.2.1 HN1.out.2 (fun z hz => ?_)).mono ?_
       · obtain ⟨i, hi⟩ := List.getElem?_of_mem hz
         have hlt := (List.getElem?_eq_some_iff.1 hi).1
         have := HI3.out.2.2 i (by rw [← HI3.out.2.1]; exact hlt)
         rw [show nth l i = z by simp [nth, hi]] at this
         have h2 := HN1.out.2
         exact ⟨by omega, by omega⟩
       rintro e w4 ⟨b4, rfl, hg4, hi4, hb4⟩
       have HB4 := hid (HB3.out.trans (hb4.mono HB3.out.size)))
    | fail)
  go_ret
  exact ⟨b4, l, rfl, Nat.le_trans HB3.out.size hg4, HI3.out.2.1, HA3.out, hi4, HB4.out⟩
set_option maxRecDepth 100000 in
set_option maxHeartbeats 4000000 in
theorem classes_no (S : Nat → Prop) (v : Value) (d : D) (w : World) (h : IsD w S v d) (hr : rightB d = false) :
    Calls Try.prog 33 #[v] w fun e w' => e = .returned (.slice none 0 0) ∧ Below w.heap.size w w' := by
  obtain ⟨nv, tv, rfl, _, _⟩ := id h
  have HD := hid h
  have HR := hid hr
  obtain ⟨d0, d1, _⟩ := slot2 (heap_alloc_new w (.cells #[nv, tv] 30))
  have HB1 := hid (show Below w.heap.size w (w.alloc (.cells #[nv, tv] 30)) from (Below.refl _ _).alloc (Nat.le_refl _) _)
  clear h hr
  go_enter Try.func33, Try.ntmps33
  go_wp2_with (first
    | (go_at_call 26
       refine (right_any S _ d _ (HD.out.below (by first | exact Below.refl _ _ | exact (Below.refl _ _).alloc (Nat.le_refl _) _))).mono ?_
       rintro e w2 ⟨rfl, hb2⟩
       rw [HR.out]
       have HB2 := hid (HB1.out.trans (hb2.mono HB1.out.size))
       clear hb2)
    | fail)
  go_ret
  exact ⟨rfl, HB2.out⟩
end Go.Proofs.Ytmdkmobcglnmgaa
