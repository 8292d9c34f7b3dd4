/- Numbers renamed in the order in which they come: the walk. Conditions: at most a thousand numbers. -/
import Derived.Test.YtmdkmobcglnmgaaBw
namespace Go.Proofs.Ytmdkmobcglnmgaa
open Go.RowKit
set_option linter.unusedSimpArgs false

def RenAns (w : World) (l : List Int) (n : Nat) (e : Ending) (w' : World) : Prop :=
  ∃ b, e = .returned (.slice (some ⟨b, 0, none⟩) n n) ∧ w.heap.size ≤ b ∧ IntBlk w' b 3 .i64 (numbered l) ∧ Below w.heap.size w w'
set_option maxRecDepth 100000 in
set_option maxHeartbeats 4000000 in
theorem renamed_any (w : World) (bb n : Nat) (l : List Int) (h : IntBlk w bb 3 .i64 l) (hl : l.length = n) (hn : n ≤ 1000) (hz : ∀ z ∈ l, i64ok z) :
    Calls Try.prog 57 #[.slice (some ⟨bb, 0, none⟩) n n] w (RenAns w l n) := by
  have HI := hid h
  have HL := hid hl
  have HZ := hid hz
  obtain ⟨Z, hZ⟩ : ∃ Z, Z = ((List.replicate n (0 : Int)).map (Value.int .i64)).toArray := ⟨_, rfl⟩
  have HZZ := hid hZ
  have hmk : ∀ w : World, (Instr.makeSlice 32 (.int .i64 (n : Int)) (.int .i64 (n : Int))).run Try.prog w = .ok (.slice (some ⟨w.heap.size, 0, none⟩) n n) (w.alloc (.cells Z 3)) := fun w => by
    rw [hZ]; exact run_make_ints (P := Try.prog) 32 3 .i64 .i64 .i64 Try.underlying32 info3 n (by omega) w
  have hmm := @run_makeMap Try.prog
  obtain ⟨g, hg⟩ : ∃ g, g = w.heap.size := ⟨_, rfl⟩
  have HG := hid hg
  obtain ⟨g2, hg2⟩ : ∃ g2, g2 = g + 1 := ⟨_, rfl⟩
  have hgg : g < g2 := by omega
  have hbb : bb < g := by rw [hg]; exact h.lt
  obtain ⟨W, hW⟩ : ∃ W, W = (w.alloc (.map #[] 0)).alloc (.cells Z 3) := ⟨_, rfl⟩
  have HM0 := hid (show MapIs W g (fun z : Int => Value.int .i64 z) i64ok (fun (n : Int) u => u = .int .i64 n) ([] : List (Int × Int)) from by rw [hW, hg]; exact (mapIs_new _ _ _ _).alloc _)
  have HB0 := hid (show IntBlk W g2 3 .i64 (List.replicate n 0) from by
    have h2 := heap_alloc_new (w.alloc (.map #[] 0)) (.cells Z 3)
    rw [show (w.alloc (.map #[] 0)).heap.size = g2 by rw [hg2, hg]; simp] at h2
    show W.heap[g2]? = _
    rw [hW, h2, hZ])
  have HBW := hid (show Below g w W by rw [hW]; exact ((Below.refl _ _).alloc (by omega) _).alloc (by simp; omega) _)
  clear h hl hz hZ
  go_enter Try.func57, Try.ntmps57
  go_wp2_with fail
  clear hmk hmm
  rw [← hW, ← hg, ← hg2]
  clear hW hg2 hg
  go_loopw [15] (fun s15 wr => ∃ k : Nat, k ≤ n ∧ s15 = .int .i64 k ∧ Hid (MapIs wr g (fun z : Int => Value.int .i64 z) i64ok (fun (n : Int) u => u = .int .i64 n) (numGo (l.take k)).1) ∧
      Hid (IntBlk wr g2 3 .i64 ((numGo (l.take k)).2 ++ List.replicate (n - k) 0)) ∧ Hid (Below g w wr)) (fun s15 _ => n - (intOf s15).toNat)
  case atStart => exact ⟨0, by omega, rfl, HM0, HB0, HBW⟩
  case round =>
    obtain ⟨k, hk, rfl, HM, HB, HBL⟩ := hrel
    clear HM0 HB0 HBW
    by_cases hlt : k < n
    · have hkl : k < l.length := by rw [HL.out]; exact hlt
      obtain ⟨z, hz⟩ : ∃ z, z = nth l k := ⟨_, rfl⟩
      have hc1 : wr.cell? ⟨bb, k, none⟩ = some (.int .i64 z) := by rw [hz]; exact (HBL.out.cell (p := ⟨bb, k, none⟩) hbb).trans (HI.out.cell hkl)
      have HKZ := hid (show i64ok z from HZ.out z (by rw [hz]; exact nth_mem hkl))
      have hst := hid (show numGo (l.take (k + 1)) = numStep (numGo (l.take k)) z by rw [take_nth hkl, numGo_snoc, hz])
      have hkm : (numGo (l.take k)).1.length ≤ 1000 := by have := (numGo_len (l.take k)).2; rw [List.length_take] at this; omega
      have hkl2 : (numGo (l.take k)).2.length = k := by rw [(numGo_len (l.take k)).1, List.length_take]; omega
      have hlen := fun ty => HM.out.len (P := Try.prog) (ty := ty) Try.underlying84
      have hc2 : wr.cell? ⟨g2, k, none⟩ = some (.int .i64 (nth ((numGo (l.take k)).2 ++ List.replicate (n - k) 0) k)) := HB.out.cell (by rw [List.length_append, List.length_replicate]; omega)
      have hf2 := HB.out.frozen k
      have HS := hid (fun y => set_here hkl2 hlt y)
      have HKL := hid hkl2
      clear hz hkl2
      cases hgt : mget (numGo (l.take k)).1 z with
      | some y =>
        have HGT := hid hgt
        have hst2 := hid (show numGo (l.take (k + 1)) = ((numGo (l.take k)).1, (numGo (l.take k)).2 ++ [y]) by rw [hst.out]; unfold numStep; rw [hgt])
        clear hgt hlen
        go_wp2_with (first
          | (at_lookup; refine wpList_mlookup_some true intKey rfl (.tmp 21) (.tmp 22) 84 rfl Try.underlying84 _ (zero3 _) HM.out z HKZ.out rfl rfl y HGT.out ?_; intro u hu; rw [hu])
          | fail)
        go_roundw
        case rel =>
          refine ⟨k + 1, by omega, by go_num, hid ?_, hid ?_, hid (HBL.out.setCell (p := ⟨g2, k, none⟩) (by show _ ≤ g2; omega) _)⟩
          · rw [hst2.out]; exact HM.out.grown (grown_setCell (World.grownBy.refl wr (some g2)) k _) (fun e => by injection e with e; omega)
          · rw [hst2.out, ← HS.out]; exact HB.out.set k y
        case measure => simp [intOf]; omega
      | none =>
        have HGT := hid hgt
        have hst2 := hid (show numGo (l.take (k + 1)) = (mset (numGo (l.take k)).1 z (numGo (l.take k)).1.length, (numGo (l.take k)).2 ++ [((numGo (l.take k)).1.length : Int)]) by rw [hst.out]; unfold numStep; rw [hgt])
        clear hgt
        have HB2 := hid (show ∀ w1 : World, wr.grownBy w1 (some g) → IntBlk w1 g2 3 .i64 ((numGo (l.take k)).2 ++ List.replicate (n - k) 0) from fun w1 h1 => HB.out.keep (h1.block g2 HB.out.lt (fun e => by injection e with e; omega)))
        go_wp2_with (first
          | (at_lookup; refine wpList_mlookup_none true intKey rfl (.tmp 21) (.tmp 22) 84 rfl Try.underlying84 _ (zero3 _) HM.out z HKZ.out rfl rfl HGT.out ?_)
          | (at_mapUpdate
             refine wpList_mupdate intKey rfl (.tmp 30) (.tmp 31) (.tmp 32) 84 rfl Try.underlying84 HM.out z HKZ.out ((numGo (l.take k)).1.length : Int) _ rfl rfl rfl rfl ?_
             intro w1 hm1 hg1
             have e2 : w1.cell? ⟨g2, k, none⟩ = some (.int .i64 (nth ((numGo (l.take k)).2 ++ List.replicate (n - k) 0) k)) := (HB2.out w1 hg1).cell (by have := HKL.out; rw [List.length_append, List.length_replicate]; omega)
             have f2 := (HB2.out w1 hg1).frozen k)
          | fail)
        have hb1 : Below g w w1 := HBL.out.grown hg1 (Nat.le_of_lt HM.out.lt) (fun k hk => by cases hk; exact Nat.le_refl _)
        go_roundw
        case rel =>
          refine ⟨k + 1, by omega, by go_num, hid ?_, hid ?_, hid (hb1.setCell (p := ⟨g2, k, none⟩) (by show _ ≤ g2; omega) _)⟩
          · rw [hst2.out]; exact hm1.grown (grown_setCell (World.grownBy.refl w1 (some g2)) k _) (fun e => by injection e with e; omega)
          · rw [hst2.out, ← HS.out]; exact (HB2.out w1 hg1).set k _
        case measure => simp [intOf]; omega
    · obtain rfl : k = n := by omega
      go_wp2_with fail
      go_ret
      have h := HB.out
      rw [List.take_of_length_le (by rw [HL.out]; exact Nat.le_refl _), Nat.sub_self, List.replicate_zero, List.append_nil] at h
      rw [HG.out] at HBL hgg
      exact ⟨g2, rfl, Nat.le_of_lt hgg, h, HBL.out⟩
end Go.Proofs.Ytmdkmobcglnmgaa
