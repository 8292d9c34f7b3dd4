/- Numbers struck out of a slice of one's own: those of a block. Conditions: at most a thousand. -/
import Derived.Test.YtmdkmobcglnmgaaLw
import Derived.Test.YtmdkmobcglnmgaaDel
import Derived.BigQuiet
namespace Go.Proofs.Ytmdkmobcglnmgaa
open Go.RowKit
set_option linter.unusedSimpArgs false

def inB (blk : List Int) (N : Int) (z : Int) : Bool := nth blk z.toNat == N
/-- What the closure captured, and reads. -/
def ClAt (x : Sx) (blk : List Int) (N : Int) (b3 b6 : Nat) (w : World) : Prop :=
  w.cell? ⟨b3, 0, none⟩ = some (.pointer (some ⟨x.sb, 0, none⟩)) ∧ w.cell? ⟨b6, 0, none⟩ = some (.int .i64 N) ∧ w.cell? ⟨x.sb, 3, none⟩ = some (.slice (some ⟨x.bb, 0, none⟩) x.n x.n) ∧ IntBlk w x.bb 3 .i64 blk
theorem ClAt.grown {x : Sx} {blk : List Int} {N : Int} {b3 b6 g : Nat} {w w' : World} (h : ClAt x blk N b3 b6 w) (hg : w.grownBy w' (some g)) (h1 : g ≠ b3) (h2 : g ≠ b6) (h3 : g ≠ x.sb) (h4 : g ≠ x.bb) : ClAt x blk N b3 b6 w' := by
  obtain ⟨a, b, c, d⟩ := h
  have k : ∀ (q o : Nat) (v : Value), w.cell? ⟨q, o, none⟩ = some v → g ≠ q → w'.cell? ⟨q, o, none⟩ = some v := fun q o v hc hne => by
    rw [World.cell?_of_block (hg.block q (block_lt_of_cell hc) (fun e => by injection e with e; exact hne e.symm))]
    exact hc
  exact ⟨k _ _ _ a h1, k _ _ _ b h2, k _ _ _ c h3, d.keep (hg.block _ d.lt (fun e => by injection e with e; exact h4 e.symm))⟩

set_option maxRecDepth 100000 in
set_option maxHeartbeats 1000000 in
theorem clos_any (x : Sx) (blk : List Int) (N : Int) (b3 b6 : Nat) (t : Nat) (ht : t < blk.length) (hb : blk.length = x.n) (hn1 : x.n ≤ 1000) (w : World) (h : ClAt x blk N b3 b6 w) :
    Calls Try.prog 74 #[.int .i64 t, .pointer (some ⟨b3, 0, none⟩), .pointer (some ⟨b6, 0, none⟩)] w fun e w' => e = .returned (.bool (inB blk N t)) ∧ ∃ k, w.drewN k = w' := by
  obtain ⟨a, b, c, d⟩ := h
  have hc := d.cell ht
  have y1 : (0 : Int) ≤ (t : Int) := by omega
  have y2 : (t : Int) < (x.n : Int) := by omega
  obtain ⟨z, hz⟩ : ∃ z, z = nth blk t := ⟨_, rfl⟩
  rw [← hz] at hc
  have HZ := hid hz
  clear d hz
  go_enter Try.func74, Try.ntmps74
  go_wp2_with fail
  go_quiet (fail)
  go_wp2_with fail
  go_ret
  exact ⟨by show Ending.returned (.bool (z == N)) = _; rw [HZ.out]; rfl, _, rfl⟩
/-- The first of them; -1: none. -/
def firstIdx (p : Int → Bool) (l : List Int) : Int := match l.findIdx? p with
  | some i => (i : Int)
  | none => -1
theorem firstIdx_at {p : Int → Bool} {l : List Int} {k : Nat} (h : k < l.length) (hp : p (nth l k) = true) (ht : ∀ z ∈ l.take k, p z = false) : firstIdx p l = k := by
  have : l.findIdx? p = some k := by
    rw [List.findIdx?_eq_some_iff_getElem]
    refine ⟨h, by rw [nth_some (List.getElem?_eq_getElem h)] at hp; exact hp, fun j hj => ?_⟩
    have := ht (l[j]'(by omega)) (List.mem_take_iff_getElem.2 ⟨j, by omega, rfl⟩)
    simp [this]
  simp [firstIdx, this]
theorem firstIdx_none {p : Int → Bool} {l : List Int} (ht : ∀ z ∈ l, p z = false) : firstIdx p l = -1 := by
  have : l.findIdx? p = none := by
    rw [List.findIdx?_eq_none_iff]
    exact ht
  simp [firstIdx, this]
abbrev closV (b3 b6 : Nat) : Value := .func (.func 74) #[] #[.pointer (some ⟨b3, 0, none⟩), .pointer (some ⟨b6, 0, none⟩)]
set_option maxRecDepth 100000 in
set_option maxHeartbeats 1000000 in
theorem indexI_any (x : Sx) (blk : List Int) (N : Int) (b3 b6 : Nat) (g cap : Nat) (l : List Int) (hl : ∀ z ∈ l, ∃ t : Nat, z = t ∧ t < blk.length) (hln : l.length ≤ 1000) (hb : blk.length = x.n) (hn1 : x.n ≤ 1000) (w : World) (h : ClAt x blk N b3 b6 w)
    (hc : ∀ j, j < l.length → w.cell? ⟨g, j, none⟩ = some (.int .i64 (nth l j))) :
    Calls Try.prog 86 #[.slice (some ⟨g, 0, none⟩) l.length cap, closV b3 b6] w fun e w' => e = .returned (.int .i64 (firstIdx (inB blk N) l)) ∧ ∃ k, w.drewN k = w' := by
  have HC := hid hc
  have HL := hid hl
  have HCL := hid h
  have HBL := hid hb
  clear hc hl h hb
  go_enter Try.func86, Try.ntmps86
  go_wp2_with fail
  go_loopw [8] (fun i wr => ∃ k : Nat, k ≤ l.length ∧ i = .int .i64 k ∧ Hid (∀ z ∈ l.take k, inB blk N z = false) ∧ Hid (∃ q, w.drewN q = wr)) (fun i _ => l.length - (intOf i).toNat)
  case atStart => exact ⟨0, by omega, rfl, hid (fun z hz => by simp at hz), hid ⟨0, rfl⟩⟩
  case round =>
    obtain ⟨k, hk, rfl, HT, HW⟩ := hrel
    obtain ⟨q, hq⟩ := HW.out
    by_cases hlt : k < l.length
    · obtain ⟨t, ht, htl⟩ := HL.out (nth l k) (nth_mem hlt)
      have hck : wr.cell? ⟨g, k, none⟩ = some (.int .i64 (t : Int)) := by rw [← hq, ← ht]; exact HC.out k hlt
      have HCW := hid (show ClAt x blk N b3 b6 wr by rw [← hq]; exact HCL.out)
      have HTT := hid (show nth l k = (t : Int) from ht)
      have HQ := hid hq
      clear ht hq
      cases hr : inB blk N (t : Int) with
      | true =>
        have hres := hid (firstIdx_at hlt (by rw [HTT.out]; exact hr) HT.out)
        have HR := hid hr
        clear hr
        go_wp2_with (go_at_call 74; refine (clos_any x blk N b3 b6 t htl HBL.out hn1 _ HCW.out).mono ?_; rintro e w1 ⟨rfl, q1, hq1⟩; rw [HR.out])
        go_ret
        exact ⟨ret_int hres.out.symm, q + q1, by rw [← hq1, ← HQ.out, World.drewN_drewN]⟩
      | false =>
        have HT' := hid (show ∀ z ∈ l.take (k + 1), inB blk N z = false from fun z hz => by
          rw [take_nth hlt, List.mem_append, List.mem_singleton] at hz
          rcases hz with hz | rfl
          · exact HT.out z hz
          · rw [HTT.out]; exact hr)
        have HR := hid hr
        clear hr
        go_wp2_with (go_at_call 74; refine (clos_any x blk N b3 b6 t htl HBL.out hn1 _ HCW.out).mono ?_; rintro e w1 ⟨rfl, q1, hq1⟩; rw [HR.out])
        go_roundw
        case rel => exact ⟨k + 1, by omega, by go_num, HT', hid ⟨q + q1, by rw [← hq1, ← HQ.out, World.drewN_drewN]⟩⟩
        case measure => simp [intOf]; omega
    · obtain rfl : k = l.length := by omega
      have hres := hid (firstIdx_none (p := inB blk N) (l := l) (by have := HT.out; rw [List.take_length] at this; exact this))
      go_wp2
      go_ret
      exact ⟨ret_int hres.out.symm, q, hq⟩
/-- What is left of a row. -/
def StruckI (w : World) (g cap B : Nat) (l : List Int) (e : Ending) (w' : World) : Prop :=
  e = .returned (.slice (some ⟨g, 0, none⟩) l.length cap) ∧ OwnI w' B (.slice (some ⟨g, 0, none⟩) l.length cap) l ∧ w.grownBy w' (some g)
theorem zero3v (w : World) : (zeroValue 3).run Try.prog w = .ok (.int .i64 0) w := by kernel_rfl
set_option maxRecDepth 100000 in
set_option maxHeartbeats 1000000 in
theorem deleteI_any (x : Sx) (blk : List Int) (N : Int) (b3 b6 : Nat) (g cap B : Nat) (cur : Array Value) (l : List Int) (hl : ∀ z ∈ l, ∃ t : Nat, z = t ∧ t < blk.length) (hln : l.length ≤ 1000) (hb : blk.length = x.n) (hn1 : x.n ≤ 1000) (w : World) (h : ClAt x blk N b3 b6 w)
    (hB : B ≤ g) (hg : w.heap[g]? = some (.cells cur 3 (0, 0))) (hnc : l.length ≤ cap) (hcm : cap ≤ maxLen) (hcs : cur.size = cap) (ht : cur.toList.take l.length = l.map (.int .i64)) (h1 : g ≠ b3) (h2 : g ≠ b6) (h3 : g ≠ x.sb) (h4 : g ≠ x.bb) :
    Calls Try.prog 73 #[.slice (some ⟨g, 0, none⟩) l.length cap, closV b3 b6] w (StruckI w g cap B (l.filter fun z => !inB blk N z)) := by
  have hgl : g < w.heap.size := (Array.getElem?_eq_some_iff.1 hg).1
  have hcm' : cap ≤ 9223372036854775807 := by unfold maxLen at hcm; omega
  have hcell : ∀ (u : World) (cu : Array Value) (j : Nat), u.heap[g]? = some (.cells cu 3 (0, 0)) → j < l.length → cu.toList[j]? = cur.toList[j]? → u.cell? ⟨g, j, none⟩ = some (.int .i64 (nth l j)) := by
    intro u cu j hu hj he
    rw [cell_of_row _ _ _ _ _ _ hu, ← Array.getElem?_toList, he]
    have h5 : (cur.toList.take l.length)[j]? = (l.map (Value.int .i64))[j]? := by rw [ht]
    rw [List.getElem?_take_of_lt hj] at h5
    rw [h5, List.getElem?_map, List.getElem?_eq_getElem hj]
    simp [nth, List.getElem?_eq_getElem hj]
  have HI := hid (indexI_any x blk N b3 b6 g cap l hl hln hb hn1 w h fun j hj => hcell w cur j hg hj rfl)
  have HCELL := hid hcell
  have HG := hid hg
  have HT := hid ht
  have HL := hid hl
  have HC := hid h
  have HBL := hid hb
  have HCS := hid hcs
  obtain ⟨n, hn⟩ : ∃ n, n = l.length := ⟨_, rfl⟩
  have HN := hid hn
  rw [← hn] at hnc hln HI ⊢
  by_cases hbad : firstIdx (inB blk N) l = -1
  · have hall : l.filter (fun z => !inB blk N z) = l := by
      rw [List.filter_eq_self]
      intro z hz
      unfold firstIdx at hbad
      split at hbad
      · omega
      · rename_i h
        rw [List.findIdx?_eq_none_iff] at h
        simpa using h z hz
    have hpb : ((firstIdx (inB blk N) l) == -1) = true := ieq_true hbad
    rw [hbad] at hpb
    have HP := hid hbad
    have HR := hid (show ∀ q, StruckI w g cap B (l.filter fun z => !inB blk N z) (.returned (.slice (some ⟨g, 0, none⟩) n cap)) (w.drewN q) from fun q => by
      unfold StruckI
      rw [hall, hn]
      exact ⟨rfl, ⟨by simp, .inr ⟨g, cap, cur, rfl, hB, hg, by omega, hcm, by omega, by rw [Nat.mul_one]; exact ht⟩⟩, ⟨rfl, rfl, rfl, Nat.le_refl _, fun _ _ _ => rfl⟩⟩)
    clear hg hbad hall hl h hb hcs hn hcell ht
    go_enter Try.func73, Try.ntmps73
    go_wp2_with (go_at_call 86; refine HI.out.mono ?_; rintro e w1 ⟨rfl, q1, rfl⟩; rw [HP.out])
    go_ret
    exact HR.out q1
  · obtain ⟨p, hp⟩ : ∃ p : Nat, firstIdx (inB blk N) l = (p : Int) := by
      unfold firstIdx at hbad ⊢
      split
      · exact ⟨_, rfl⟩
      · rename_i h; rw [h] at hbad; exact absurd rfl hbad
    have hpf : l.findIdx? (inB blk N) = some p := by
      unfold firstIdx at hp
      split at hp
      · rename_i i hi; rw [hi]; congr 1; omega
      · omega
    obtain ⟨hpl', hpbad, hpgood⟩ := List.findIdx?_eq_some_iff_getElem.1 hpf
    have hpl : p < n := by omega
    have hgp : (l.take (p + 1)).filter (fun z => !inB blk N z) = l.take p := by
      have h1 : (l.take p).filter (fun z => !inB blk N z) = l.take p := by
        rw [List.filter_eq_self]
        intro z hz
        obtain ⟨j, hj, rfl⟩ := List.mem_take_iff_getElem.1 hz
        have := hpgood j (by omega)
        simpa using this
      rw [List.take_add_one, List.getElem?_eq_getElem hpl', Option.toList_some, List.filter_append, h1, List.filter_cons, hpbad]
      simp
    have hpb : ((firstIdx (inB blk N) l) == -1) = false := ieq_false hbad
    rw [hp] at hpb
    have HP := hid hp
    have HGP := hid hgp
    clear hg hbad hl h hb hcs hn hcell ht hp hpf hpl' hpbad hpgood hgp
    go_enter Try.func73, Try.ntmps73
    go_wp2_with (go_at_call 86; refine HI.out.mono ?_; rintro e w1 ⟨rfl, q1, rfl⟩; rw [HP.out])
    go_loopw [5, 6] (fun s5 s6 wr => ∃ (j : Nat) (cu : Array Value) (kp : List Int), p < j ∧ j ≤ n ∧ s6 = .int .i64 j ∧ s5 = .int .i64 kp.length ∧ Hid (kp = (l.take j).filter fun z => !inB blk N z) ∧ Hid (wr.heap[g]? = some (.cells cu 3 (0, 0)) ∧ cu.size = cap ∧
      cu.toList.take kp.length = kp.map (.int .i64) ∧ cu.toList.drop j = cur.toList.drop j) ∧ kp.length < j ∧ Hid (w.grownBy wr (some g))) (fun _ s6 _ => n - (intOf s6).toNat)
    case atStart =>
      have hkl : (l.take p).length = p := by rw [List.length_take]; have := HN.out; omega
      refine ⟨p + 1, cur, l.take p, by omega, by omega, by go_num, by rw [hkl], hid HGP.out.symm, hid ⟨HG.out, HCS.out, ?_, rfl⟩, by omega, hid ⟨rfl, rfl, rfl, Nat.le_refl _, fun _ _ _ => rfl⟩⟩
      rw [hkl]
      have h1 := HT.out
      have h2 : cur.toList.take p = (cur.toList.take l.length).take p := by rw [List.take_take]; congr 1; have := HN.out; omega
      rw [h2, h1, List.map_take]
    case round =>
      obtain ⟨j, cu, kp, hpj, hj, rfl, rfl, HK, HCU, hgl2, HGR⟩ := hrel
      by_cases hlt : j < n
      · have hltl : j < l.length := by have := HN.out; omega
        obtain ⟨t, ht, htl⟩ := HL.out (nth l j) (nth_mem hltl)
        have hdr : cu.toList[j]? = cur.toList[j]? := by
          have e0 : (cu.toList.drop j)[0]? = (cur.toList.drop j)[0]? := by rw [HCU.out.2.2.2]
          rw [List.getElem?_drop, List.getElem?_drop] at e0
          exact e0
        have hcj : wr.cell? ⟨g, j, none⟩ = some (.int .i64 (t : Int)) := by rw [← ht]; exact HCELL.out wr cu j HCU.out.1 hltl hdr
        have HCW := hid (show ClAt x blk N b3 b6 wr from HC.out.grown HGR.out h1 h2 h3 h4)
        have HTT := hid (show nth l j = (t : Int) from ht)
        have hdn := hid (show ∀ c' : Array Value, c'.toList.drop j = cu.toList.drop j → c'.toList.drop (j + 1) = cur.toList.drop (j + 1) from fun c' hc' => by
          have e0 : (c'.toList.drop j).drop 1 = (cur.toList.drop j).drop 1 := by rw [hc', HCU.out.2.2.2]
          rw [List.drop_drop, List.drop_drop] at e0
          exact e0)
        clear ht hdr
        cases hr : inB blk N (t : Int) with
        | true =>
          have HR := hid hr
          have hks := hid (show kp = (l.take (j + 1)).filter fun z => !inB blk N z by
            rw [take_nth hltl, List.filter_append, ← HK.out, HTT.out, List.filter_cons, hr]; simp)
          clear hr
          go_wp2_with (go_at_call 74; refine (clos_any x blk N b3 b6 t htl HBL.out hn1 _ HCW.out).mono ?_; rintro e w1 ⟨rfl, q1, rfl⟩; rw [HR.out])
          go_roundw
          case rel => exact ⟨j + 1, cu, kp, by omega, by omega, by go_num, rfl, hks, hid ⟨HCU.out.1, HCU.out.2.1, HCU.out.2.2.1, hdn.out cu rfl⟩, by omega, hid ⟨HGR.out.os, HGR.out.tape, HGR.out.output, HGR.out.size, HGR.out.block⟩⟩
          case measure => simp [intOf]; omega
        | false =>
          have HR := hid hr
          have hks := hid (show kp ++ [(t : Int)] = (l.take (j + 1)).filter fun z => !inB blk N z by
            rw [take_nth hltl, List.filter_append, ← HK.out, HTT.out, List.filter_cons, hr]; simp)
          clear hr
          have hkc : kp.length < cap := by omega
          have hs1 : kp.length < cu.size := by rw [HCU.out.2.1]; exact hkc
          have hcI : wr.cell? ⟨g, kp.length, none⟩ = some cu[kp.length] := by rw [cell_of_row wr g _ cu 3 (0, 0) HCU.out.1, Array.getElem?_eq_getElem hs1]
          have hfI : wr.frozen? ⟨g, kp.length, none⟩ = false := frozen_of_row _ _ _ _ _ HCU.out.1
          go_wp2_with (go_at_call 74; refine (clos_any x blk N b3 b6 t htl HBL.out hn1 _ HCW.out).mono ?_; rintro e w1 ⟨rfl, q1, rfl⟩; rw [HR.out])
          go_roundw
          case rel =>
            have hq := HCU.out
            have e1 := heap_setCell_same (wr.drewN q1) g kp.length cu 3 (.int .i64 (t : Int)) hq.1
            refine ⟨j + 1, _, kp ++ [(t : Int)], by omega, by omega, by go_num, by rw [List.length_append]; go_num, hks, hid ⟨e1, by simp [hq.2.1], ?_, ?_⟩, by simp; omega, hid ?_⟩
            · rw [List.length_append, List.length_singleton, Array.toList_setIfInBounds, List.take_set, List.take_add_one, List.getElem?_eq_getElem (by simpa using hs1), Option.toList_some, List.set_append_right _ _ (by rw [List.length_take]; omega), hq.2.2.1]
              have : kp.length - (kp.map (Value.int .i64)).length = 0 := by simp
              rw [List.map_append, this]
              simp
            · refine hdn.out _ ?_
              rw [Array.toList_setIfInBounds, List.drop_set_of_lt (by omega)]
            · exact grown_setCell (w := wr.drewN q1) ⟨HGR.out.os, HGR.out.tape, HGR.out.output, HGR.out.size, HGR.out.block⟩ _ _
          case measure => simp [intOf]; omega
      · obtain rfl : j = n := by omega
        have hcI : ¬ cap = kp.length := by omega
        have hIn : (kp.length : Int) ≤ (j : Int) := by omega
        have hclr := fun ty => run_clear_blk (P := Try.prog) wr 32 3 ty _ Try.underlying32 (zero3v wr) (by intro u hu; simp [Value.cells] at hu; rw [hu]; rfl) g kp.length (j - kp.length) (cap - kp.length) cu HCU.out.1 (by omega)
          (by rw [HCU.out.2.1]; simp [Value.cells]; omega)
        obtain ⟨w2, cu2, hrun, hg2, hsz2, htk2, hgr2⟩ := hclr 0
        have hfin := hid (show StruckI w g cap B (l.filter fun z => !inB blk N z) (.returned (.slice (some ⟨g, 0, none⟩) kp.length cap)) w2 by
          have hk := HK.out
          rw [HN.out, List.take_length] at hk
          unfold StruckI
          rw [← hk]
          refine ⟨rfl, ⟨by simp, .inr ⟨g, cap, cu2, rfl, hB, hg2, by omega, hcm, by rw [hsz2, HCU.out.2.1]; omega, ?_⟩⟩, grown_trans HGR.out hgr2⟩
          rw [Nat.mul_one, htk2]
          exact HCU.out.2.2.1)
        clear hclr
        go_wp2
        go_ret
        exact hfin.out
end Go.Proofs.Ytmdkmobcglnmgaa
