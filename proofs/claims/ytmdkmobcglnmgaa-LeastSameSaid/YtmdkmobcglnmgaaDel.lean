/- Tables that are not right are struck from a list of the call's own; the library's DeleteFunc and IndexFunc. No conditions. -/
import Derived.Test.YtmdkmobcglnmgaaNum
import Derived.Lib.SliceRun
import Derived.Laws.CopyRow
namespace Go.Proofs.Ytmdkmobcglnmgaa
open Go.RowKit

def badIdx (ds : List D) : Int := match ds.findIdx? (fun d => !rightB d) with
  | some i => i
  | none => -1
theorem badIdx_at {ds : List D} {k : Nat} {d : D} (h : ds[k]? = some d) (hd : rightB d = false) (ht : ∀ x ∈ ds.take k, rightB x = true) : badIdx ds = k := by
  have : ds.findIdx? (fun d => !rightB d) = some k := by
    rw [List.findIdx?_eq_some_iff_getElem]
    have hk := (List.getElem?_eq_some_iff.1 h).1
    have he := (List.getElem?_eq_some_iff.1 h).2
    refine ⟨hk, by rw [he, hd]; rfl, fun j hj => ?_⟩
    have := ht ds[j] (by rw [List.mem_take_iff_getElem]; exact ⟨j, by omega, rfl⟩)
    simp [this]
  simp [badIdx, this]
theorem badIdx_none {ds : List D} (ht : ∀ x ∈ ds, rightB x = true) : badIdx ds = -1 := by
  have : ds.findIdx? (fun d => !rightB d) = none := by
    rw [List.findIdx?_eq_none_iff]
    intro x hx; simp [ht x hx]
  simp [badIdx, this]

/- The predicate that is handed to the library. -/
set_option maxHeartbeats 400000 in
theorem wrong_any (S : Nat → Prop) (v : Value) (d : D) (w : World) (h : IsD w S v d) :
    Calls Try.prog 45 #[v] w fun e w' => e = .returned (.bool (!rightB d)) ∧ Below w.heap.size w w' := by
  obtain ⟨nv, tv, rfl, hn, ht⟩ := h
  obtain ⟨A, cA, rfl⟩ := hn.form
  obtain ⟨T, cT, rfl⟩ := ht.form
  have hD := hid (show IsD w S (.agg #[.slice A d.next.length cA, .slice T d.tells.length cT]) d from ⟨_, _, rfl, hn, ht⟩)
  clear hn ht
  go_enter Try.func45, Try.ntmps45
  go_wp2_with (go_at_call 26; refine (right_any S _ _ _ (hD.out.below ((Below.refl _ _).alloc (Nat.le_refl _) _))).mono ?_; rintro e w1 ⟨rfl, hb1⟩)
  go_ret
  exact ⟨rfl, ((Below.refl _ _).alloc (Nat.le_refl _) _).trans (hb1.mono (by simp))⟩

set_option maxRecDepth 100000 in
set_option maxHeartbeats 400000 in
theorem index_any (S : Nat → Prop) (v : Value) (ds : List D) (w : World) (h : IsDs w S v ds) :
    Calls Try.prog 64 #[v, .func (.func 45) #[] #[]] w fun e w' => e = .returned (.int .i64 (badIdx ds)) ∧ Below w.heap.size w w' := by
  obtain ⟨A, c, vs, rfl, hl1, hl2, hA, hvl, hD⟩ := h
  have hl : ds.length ≤ 9223372036854775807 := by unfold maxLen at hl2; omega
  have HA := hid hA
  have HD := hid hD
  have HV := hid hvl
  clear hA hD hvl
  go_enter Try.func64, Try.ntmps64
  go_wp2_with fail
  go_loopw [8] (fun i wr => ∃ k : Nat, k ≤ ds.length ∧ i = .int .i64 k ∧ Hid (∀ x ∈ ds.take k, rightB x = true) ∧ Below w.heap.size w wr) (fun i _ => ds.length - (intOf i).toNat)
  case atStart => exact ⟨0, by omega, rfl, (fun x hx => by simp at hx), Below.refl _ _⟩
  case round =>
    obtain ⟨k, hk, rfl, hT, hbw⟩ := hrel
    by_cases hlt : k < ds.length
    · obtain ⟨d, hd⟩ : ∃ d, ds[k]? = some d := ⟨_, List.getElem?_eq_getElem hlt⟩
      obtain ⟨b, o, nv, tv, rfl, _, hb, hc1, hc2, hn, htl⟩ := ds_at HA.out HD.out hd
      have HDK := hid hd
      have hDw := hid (show IsD wr S (.agg #[nv, tv]) d from (show IsD w S (.agg #[nv, tv]) d from ⟨_, _, rfl, hn, htl⟩).below hbw)
      have hc1w : wr.cell? ⟨b, o + k * 2, none⟩ = some nv := (hbw.cell (p := ⟨b, o + k * 2, none⟩) hb).trans hc1
      have hc2w : wr.cell? ⟨b, o + k * 2 + 1, none⟩ = some tv := (hbw.cell (p := ⟨b, o + k * 2 + 1, none⟩) hb).trans hc2
      clear hn htl hc1 hc2 hd
      cases hr : rightB d with
      | true =>
        have hrb : (!rightB d) = false := by rw [hr]; rfl
        have HT' : Hid (∀ x ∈ ds.take (k + 1), rightB x = true) := by
          intro x hx
          rw [List.take_add_one, HDK.out, List.mem_append] at hx
          rcases hx with hx | hx
          · exact hT.out x hx
          · simp at hx; rw [hx]; exact hr
        clear hr
        go_wp2_with (go_at_call 45; refine (wrong_any S _ _ _ hDw.out).mono ?_; rintro e w1 ⟨rfl, hb1⟩)
        go_roundw
        case rel => exact ⟨k + 1, by omega, by go_num, HT', hbw.trans (hb1.mono hbw.size)⟩
        case measure => simp [intOf]; omega
      | false =>
        have hrb : (!rightB d) = true := by rw [hr]; rfl
        have hres := hid (badIdx_at HDK.out hr hT.out)
        clear hr
        go_wp2_with (go_at_call 45; refine (wrong_any S _ _ _ hDw.out).mono ?_; rintro e w1 ⟨rfl, hb1⟩)
        go_ret
        exact ⟨ret_int hres.out.symm, hbw.trans (hb1.mono hbw.size)⟩
    · obtain rfl : k = ds.length := by omega
      have hres := hid (badIdx_none (ds := ds) (by have := hT.out; rw [List.take_length] at this; exact this))
      go_wp2
      go_ret
      exact ⟨ret_int hres.out.symm, hbw⟩

/-- Two cells a table. -/
def flat (ps : List (Value × Value)) : List Value := ps.flatMap fun p => [p.1, p.2]
theorem flat_len (ps : List (Value × Value)) : (flat ps).length = 2 * ps.length := by
  induction ps with
  | nil => rfl
  | cons p ps ih => simp only [flat, List.flatMap_cons, List.length_append] at ih ⊢; rw [ih]; simp; omega
theorem flat_append (a b : List (Value × Value)) : flat (a ++ b) = flat a ++ flat b := by simp [flat]
theorem flat_drop (ps : List (Value × Value)) (k : Nat) : (flat ps).drop (2 * k) = flat (ps.drop k) := by
  induction ps generalizing k with
  | nil => simp [flat]
  | cons p ps ih =>
    cases k with
    | zero => rfl
    | succ k =>
      have : 2 * (k + 1) = 2 * k + 1 + 1 := by omega
      rw [this]
      simp only [flat, List.flatMap_cons, List.cons_append, List.nil_append, List.drop_succ_cons]
      exact ih k
theorem flat_take (ps : List (Value × Value)) (k : Nat) : (flat ps).take (2 * k) = flat (ps.take k) := by
  induction ps generalizing k with
  | nil => simp [flat]
  | cons p ps ih =>
    cases k with
    | zero => simp [flat]
    | succ k =>
      have : 2 * (k + 1) = 2 * k + 1 + 1 := by omega
      rw [this]
      simp only [flat, List.flatMap_cons, List.cons_append, List.nil_append, List.take_succ_cons]
      rw [show (List.flatMap (fun p => [p.1, p.2]) ps) = flat ps from rfl, ih k]
      rfl
theorem flat_at {ps : List (Value × Value)} {k : Nat} {p : Value × Value} (h : ps[k]? = some p) : (flat ps)[2 * k]? = some p.1 ∧ (flat ps)[2 * k + 1]? = some p.2 := by
  have h1 := flat_drop ps k
  have h2 : ps.drop k = p :: ps.drop (k + 1) := by
    rw [List.drop_eq_getElem_cons (List.getElem?_eq_some_iff.1 h).1, (List.getElem?_eq_some_iff.1 h).2]
  rw [h2] at h1
  have h3 : ((flat ps).drop (2 * k))[0]? = some p.1 := by rw [h1]; rfl
  have h4 : ((flat ps).drop (2 * k))[1]? = some p.2 := by rw [h1]; rfl
  rw [List.getElem?_drop] at h3 h4
  exact ⟨h3, h4⟩

/-- Tables with their cells. -/
abbrev QD := (Value × Value) × D
def okQ (w : World) (S : Nat → Prop) (q : QD) : Prop := IsRows w S q.1.1 q.2.next ∧ IsNums .u64 w S q.1.2 q.2.tells
def good (qs : List QD) : List QD := qs.filter fun q => rightB q.2
theorem good_len (qs : List QD) : (good qs).length ≤ qs.length := List.length_filter_le _ _
theorem good_snoc (qs : List QD) {k : Nat} {q : QD} (h : qs[k]? = some q) : good (qs.take (k + 1)) = good (qs.take k) ++ if rightB q.2 then [q] else [] := by
  rw [List.take_add_one, h, good, List.filter_append]
  simp [good, List.filter_cons]

/-- What DeleteFunc leaves: the same block; those that are right stand first. -/
def Struck (w : World) (g cap : Nat) (B : Nat) (qs : List QD) (en : Ending) (w' : World) : Prop :=
  en = .returned (.slice (some ⟨g, 0, none⟩) (good qs).length cap) ∧ w'.ownsRow B 30 2 (.slice (some ⟨g, 0, none⟩) (good qs).length cap) (good qs).length (flat ((good qs).map (·.1))) ∧ w.grownBy w' (some g)

theorem zero30 (w : World) : (zeroValue 30).run Try.prog w = .ok (.agg #[.slice none 0 0, .slice none 0 0]) w := by kernel_rfl

theorem qs_isDs {w : World} {S : Nat → Prop} {g n cap : Nat} {cur : Array Value} {qs : List QD} (hg : w.heap[g]? = some (.cells cur 30 (0, 0))) (hn : n = qs.length) (hnc : n ≤ cap) (hcm : cap ≤ maxLen)
    (ht : cur.toList.take (2 * n) = flat (qs.map (·.1))) (hq : ∀ q ∈ qs, okQ w S q) : IsDs w (fun b => S b ∨ b = g) (.slice (some ⟨g, 0, none⟩) n cap) (qs.map (·.2)) := by
  subst hn
  refine ⟨_, cap, flat (qs.map (·.1)), by rw [List.length_map], by rw [List.length_map]; exact hnc, hcm, ?_, by rw [flat_len]; simp, ?_⟩
  · intro _
    refine ⟨g, 0, rfl, .inr rfl, fun k v hv => ?_⟩
    rw [Nat.zero_add, cell_of_row w g k cur 30 (0, 0) hg, ← Array.getElem?_toList]
    rw [← ht, List.getElem?_take] at hv
    split at hv
    · exact hv
    · cases hv
  · intro k d hd
    rw [List.getElem?_map, Option.map_eq_some_iff] at hd
    obtain ⟨q, hqk, rfl⟩ := hd
    obtain ⟨h1, h2⟩ := flat_at (ps := qs.map (·.1)) (k := k) (p := q.1) (by rw [List.getElem?_map, hqk]; rfl)
    obtain ⟨h3, h4⟩ := hq q (List.mem_of_getElem? hqk)
    exact ⟨_, _, h1, h2, h3.mono (fun b h _ => .inl h), h4.mono (fun b h _ => .inl h)⟩

set_option maxRecDepth 100000 in
set_option maxHeartbeats 1000000 in
theorem delete_any (S : Nat → Prop) (g n cap B : Nat) (cur : Array Value) (qs : List QD) (w : World) (hB : B ≤ g) (hS : ∀ b, S b → b ≠ g) (hg : w.heap[g]? = some (.cells cur 30 (0, 0))) (hn : n = qs.length) (hnc : n ≤ cap) (hcm : cap ≤ maxLen) (hcs : cur.size = cap * 2)
    (ht : cur.toList.take (2 * n) = flat (qs.map (·.1))) (hq : ∀ q ∈ qs, okQ w S q) (hn2 : n ≤ 100) :
    Calls Try.prog 43 #[.slice (some ⟨g, 0, none⟩) n cap, .func (.func 45) #[] #[]] w (Struck w g cap B qs) := by
  have hidx := qs_isDs (S := S) hg hn hnc hcm ht hq
  have hgl : g < w.heap.size := (Array.getElem?_eq_some_iff.1 hg).1
  have hcm' : cap ≤ 9223372036854775807 := by unfold maxLen at hcm; omega
  by_cases hbad : badIdx (qs.map (·.2)) = -1
  · have hall : good qs = qs := by
      unfold good
      rw [List.filter_eq_self]
      intro q hq'
      unfold badIdx at hbad
      split at hbad
      · omega
      · rename_i h
        rw [List.findIdx?_eq_none_iff] at h
        have := h q.2 (List.mem_map.2 ⟨q, hq', rfl⟩)
        simpa using this
    have hpb : ((badIdx (qs.map (·.2))) == -1) = true := ieq_true hbad
    rw [hbad] at hpb
    have HI := hid hidx
    have HP := hid hbad
    have hres : ∀ w1, Below w.heap.size w w1 → Struck w g cap B qs (.returned (.slice (some ⟨g, 0, none⟩) n cap)) w1 := by
      intro w1 hb1
      unfold Struck
      rw [hall, ← hn]
      refine ⟨rfl, ⟨by rw [flat_len, List.length_map]; omega, .inr ⟨g, cap, cur, rfl, hB, (hb1.block g hgl).trans hg, hnc, hcm, hcs, by rw [Nat.mul_comm]; exact ht⟩⟩, ⟨hb1.os, hb1.tape, hb1.output, hb1.size, fun i hi _ => hb1.block i hi⟩⟩
    have HR := hid hres
    clear hidx hg ht hq hbad hn hcs hS hall hres
    go_enter Try.func43, Try.ntmps43
    go_wp2_with (go_at_call 64; refine (index_any _ _ _ _ HI.out).mono ?_; rintro e w1 ⟨rfl, hb1⟩; rw [HP.out])
    go_ret
    exact HR.out w1 hb1
  · obtain ⟨p, hp⟩ : ∃ p : Nat, badIdx (qs.map (·.2)) = (p : Int) := by
      unfold badIdx at hbad ⊢
      split
      · exact ⟨_, rfl⟩
      · rename_i h; rw [h] at hbad; exact absurd rfl hbad
    have hpf : (qs.map (·.2)).findIdx? (fun d => !rightB d) = some p := by
      unfold badIdx at hp
      split at hp
      · rename_i i hi; rw [hi]; congr 1; omega
      · omega
    obtain ⟨hpl', hpbad, hpgood⟩ := List.findIdx?_eq_some_iff_getElem.1 hpf
    have hpl : p < n := by rw [List.length_map] at hpl'; omega
    have hgp : (good (qs.take (p + 1))).length = p ∧ good (qs.take (p + 1)) = qs.take p := by
      have h1 : good (qs.take p) = qs.take p := by
        unfold good
        rw [List.filter_eq_self]
        intro q hq'
        obtain ⟨j, hj, rfl⟩ := List.mem_take_iff_getElem.1 hq'
        have := hpgood j (by omega)
        simpa using this
      have h2 : qs[p]? = some qs[p] := List.getElem?_eq_getElem (by omega)
      have h3 : rightB (qs[p]).2 = false := by simpa using hpbad
      rw [good_snoc qs h2, h1, h3]
      simp
      omega
    have hpb : ((badIdx (qs.map (·.2))) == -1) = false := ieq_false hbad
    rw [hp] at hpb
    have HI := hid hidx
    have HG := hid hg
    have HT := hid ht
    have HQ := hid hq
    have HP := hid hp
    have HGP := hid hgp
    have HN := hid hn
    have HCS := hid hcs
    have HS := hid hS
    clear hidx hg ht hq hp hbad hgp hn hcs hS hpf hpl' hpbad hpgood
    go_enter Try.func43, Try.ntmps43
    go_wp2_with (go_at_call 64; refine (index_any _ _ _ _ HI.out).mono ?_; rintro e w1 ⟨rfl, hb1⟩; rw [HP.out])
    go_loopw [5, 6] (fun s5 s6 wr => ∃ (j : Nat) (cu : Array Value), p < j ∧ j ≤ n ∧ s6 = .int .i64 j ∧ s5 = .int .i64 (good (qs.take j)).length ∧ Hid (wr.heap[g]? = some (.cells cu 30 (0, 0)) ∧ cu.size = cap * 2 ∧
      cu.toList.take (2 * (good (qs.take j)).length) = flat ((good (qs.take j)).map (·.1)) ∧ cu.toList.drop (2 * j) = cur.toList.drop (2 * j)) ∧ (good (qs.take j)).length < j ∧ w.grownBy wr (some g)) (fun _ s6 _ => n - (intOf s6).toNat)
    case atStart =>
      refine ⟨p + 1, cur, by omega, by omega, by go_num, by rw [HGP.out.1], ⟨(hb1.block g hgl).trans HG.out, HCS.out, ?_, rfl⟩, by rw [HGP.out.1]; omega, ⟨hb1.os, hb1.tape, hb1.output, hb1.size, fun i hi _ => hb1.block i hi⟩⟩
      rw [HGP.out.1, HGP.out.2]
      have h1 := HT.out
      have h2 : cur.toList.take (2 * p) = (cur.toList.take (2 * n)).take (2 * p) := by rw [List.take_take]; congr 1; omega
      rw [h2, h1, flat_take, List.map_take]
    case round =>
      obtain ⟨j, cu, hpj, hj, rfl, rfl, HC, hgl2, hgr⟩ := hrel
      have hgz := hgr.size
      obtain ⟨I, hI⟩ : ∃ I, I = (good (qs.take j)).length := ⟨_, rfl⟩
      rw [← hI]
      rw [← hI] at hgl2
      have HII := hid hI
      clear hI
      by_cases hlt : j < n
      · obtain ⟨q, hqj⟩ : ∃ q, qs[j]? = some q := ⟨_, List.getElem?_eq_getElem (by rw [← HN.out]; exact hlt)⟩
        have hok := HQ.out q (List.mem_of_getElem? hqj)
        have hD0 : IsD w S (.agg #[q.1.1, q.1.2]) q.2 := ⟨_, _, rfl, hok.1, hok.2⟩
        have hDr := hid (hD0.keep (w' := wr) fun b hb hlt => hgr.block b hlt (fun e => HS.out b hb (by injection e)))
        obtain ⟨fA, fc, hfa⟩ := hok.1.form
        obtain ⟨fT, ft, hfb⟩ := hok.2.form
        have hcells : cu.toList[2 * j]? = some q.1.1 ∧ cu.toList[2 * j + 1]? = some q.1.2 := by
          obtain ⟨h1, h2⟩ := flat_at (ps := qs.map (·.1)) (k := j) (p := q.1) (by rw [List.getElem?_map, hqj]; rfl)
          rw [← HT.out, List.getElem?_take] at h1 h2
          rw [if_pos (by omega)] at h1 h2
          have h3 := HC.out.2.2.2
          have e0 : (cu.toList.drop (2 * j))[0]? = (cur.toList.drop (2 * j))[0]? := by rw [h3]
          have e1 : (cu.toList.drop (2 * j))[1]? = (cur.toList.drop (2 * j))[1]? := by rw [h3]
          rw [List.getElem?_drop, List.getElem?_drop] at e0 e1
          exact ⟨e0.trans h1, e1.trans h2⟩
        have hc1 : wr.cell? ⟨g, j * 2, none⟩ = some q.1.1 := by
          rw [cell_of_row wr g _ cu 30 (0, 0) HC.out.1, ← Array.getElem?_toList, Nat.mul_comm]; exact hcells.1
        have hc2 : wr.cell? ⟨g, j * 2 + 1, none⟩ = some q.1.2 := by
          rw [cell_of_row wr g _ cu 30 (0, 0) HC.out.1, ← Array.getElem?_toList, Nat.mul_comm]; exact hcells.2
        have hgw : g < wr.heap.size := by omega
        rw [hfa] at hc1
        rw [hfb] at hc2
        have hDr' := hDr.out
        rw [hfa, hfb] at hDr'
        have HD := hid hDr'
        have HQJ := hid hqj
        have hI2 : I < cap := by omega
        have hs1 : I * 2 < cu.size := by rw [HC.out.2.1]; omega
        have hs2 : I * 2 + 1 < cu.size := by rw [HC.out.2.1]; omega
        have hfacts : ∀ w1, Below (wr.heap.size + 1) (wr.alloc (.cells #[.slice fA q.2.next.length fc, .slice fT q.2.tells.length ft] 30)) w1 → w1.cell? ⟨wr.heap.size, 0, none⟩ = some (.slice fA q.2.next.length fc) ∧ w1.cell? ⟨wr.heap.size, 1, none⟩ = some (.slice fT q.2.tells.length ft) ∧
            w1.cell? ⟨g, I * 2, none⟩ = some cu[I * 2] ∧ w1.cell? ⟨g, I * 2 + 1, none⟩ = some cu[I * 2 + 1] ∧ w1.frozen? ⟨g, I * 2, none⟩ = false ∧ w1.frozen? ⟨g, I * 2 + 1, none⟩ = false ∧ wr.heap.size < w1.heap.size ∧ w1.heap[g]? = some (.cells cu 30 (0, 0)) := by
          intro w1 hb1
          have hg1 : w1.heap[g]? = some (.cells cu 30 (0, 0)) := (hb1.block g (by omega)).trans ((heap_alloc_old _ _ hgw).trans HC.out.1)
          refine ⟨(hb1.cell (p := ⟨wr.heap.size, 0, none⟩) (by simp)).trans (by simp [go_sem]), (hb1.cell (p := ⟨wr.heap.size, 1, none⟩) (by simp)).trans (by simp [go_sem]), ?_, ?_, frozen_of_row _ _ _ _ _ hg1, frozen_of_row _ _ _ _ _ hg1, by have := hb1.size; simp at this; omega, hg1⟩
          · rw [cell_of_row w1 g _ cu 30 (0, 0) hg1, Array.getElem?_eq_getElem hs1]
          · rw [cell_of_row w1 g _ cu 30 (0, 0) hg1, Array.getElem?_eq_getElem hs2]
        have HF := hid hfacts
        have HQ1 := hid (And.intro hfa hfb)
        clear hfacts hok hD0 hDr hDr' hfa hfb hcells hqj
        cases hr : rightB q.2 with
        | true =>
          have hrb : (!rightB q.2) = false := by rw [hr]; rfl
          have hgs := hid (show good (qs.take (j + 1)) = good (qs.take j) ++ [q] by rw [good_snoc qs HQJ.out, hr]; rfl)
          clear hr
          go_wp2_with (go_at_call 45; refine (wrong_any S _ _ _ (HD.out.below ((Below.refl _ _).alloc (Nat.le_refl _) _))).mono ?_; rintro e w1 ⟨rfl, hb1⟩; obtain ⟨f1, f2, f3, f4, f5, f6, f7, f8⟩ := HF.out w1 (hb1.mono (by simp)))
          go_roundw
          case rel =>
            have hq1 : q.1.1 = .slice fA q.2.next.length fc ∧ q.1.2 = .slice fT q.2.tells.length ft := HQ1.out
            have e1 := heap_setCell_same w1 g (I * 2) cu 30 (.slice fA q.2.next.length fc) f8
            have e2 := heap_setCell_same _ g (I * 2 + 1) _ 30 (.slice fT q.2.tells.length ft) e1
            refine ⟨j + 1, _, by omega, by omega, by go_num, ?_, ⟨e2, ?_, ?_, ?_⟩, ?_, ?_⟩
            · rw [hgs.out, List.length_append, ← HII.out]; rfl
            · simp [HC.out.2.1]
            · rw [hgs.out, List.length_append, ← HII.out, List.map_append, flat_append, Array.toList_setIfInBounds, Array.toList_setIfInBounds, Nat.mul_comm I 2]
              have := take_set2 cu.toList I (.slice fA q.2.next.length fc) (.slice fT q.2.tells.length ft) (by simp; omega)
              rw [show [q].length = 1 from rfl, this]
              have h3 := HC.out.2.2.1
              rw [← HII.out] at h3
              rw [h3]
              simp [flat, hq1.1, hq1.2]
            · rw [Array.toList_setIfInBounds, Array.toList_setIfInBounds, Nat.mul_comm I 2, drop_set2 _ _ _ _ _ (by omega)]
              have h3 := HC.out.2.2.2
              have e0 : (cu.toList.drop (2 * j)).drop 2 = (cur.toList.drop (2 * j)).drop 2 := by rw [h3]
              rw [List.drop_drop, List.drop_drop] at e0
              exact e0
            · rw [hgs.out, List.length_append, ← HII.out]; simp; omega
            · exact grown_setCell (grown_setCell (grown_below (grown_trans hgr (World.grownBy_alloc _ _ _)) hb1) _ _) _ _
          case measure => simp [intOf]; omega
        | false =>
          have hrb : (!rightB q.2) = true := by rw [hr]; rfl
          have hgs := hid (show good (qs.take (j + 1)) = good (qs.take j) by rw [good_snoc qs HQJ.out, hr]; simp)
          clear hr
          go_wp2_with (go_at_call 45; refine (wrong_any S _ _ _ (HD.out.below ((Below.refl _ _).alloc (Nat.le_refl _) _))).mono ?_; rintro e w1 ⟨rfl, hb1⟩)
          go_roundw
          case rel =>
            refine ⟨j + 1, cu, by omega, by omega, by go_num, by rw [hgs.out, ← HII.out], ⟨?_, HC.out.2.1, ?_, ?_⟩, by rw [hgs.out, ← HII.out]; omega, grown_below (grown_trans hgr (World.grownBy_alloc _ _ _)) hb1⟩
            · exact (hb1.block g (by simp; omega)).trans ((heap_alloc_old _ _ hgw).trans HC.out.1)
            · rw [hgs.out]; exact HC.out.2.2.1
            · have h3 := HC.out.2.2.2
              have e0 : (cu.toList.drop (2 * j)).drop 2 = (cur.toList.drop (2 * j)).drop 2 := by rw [h3]
              rw [List.drop_drop, List.drop_drop] at e0
              exact e0
          case measure => simp [intOf]; omega
      · obtain rfl : j = n := by omega
        have hcI : ¬ cap = I := by omega
        have hIn : (I : Int) ≤ (j : Int) := by omega
        have hclr := fun ty => run_clear_blk (P := Try.prog) wr 24 30 ty _ Try.underlying24 (zero30 wr) (by intro u hu; simp [Value.cells] at hu; rcases hu with rfl | rfl <;> rfl) g (I * 2) (j - I) (cap - I) cu HC.out.1 (by omega)
          (by rw [HC.out.2.1]; simp [Value.cells]; omega)
        obtain ⟨w2, cu2, hrun, hg2, hsz2, htk2, hgr2⟩ := hclr 0
        have hfin := hid (show Struck w g cap B qs (.returned (.slice (some ⟨g, 0, none⟩) I cap)) w2 by
          have hII := HII.out
          rw [HN.out, List.take_length] at hII
          unfold Struck
          rw [← hII]
          refine ⟨rfl, ⟨by rw [flat_len, List.length_map]; omega, .inr ⟨g, cap, cu2, rfl, hB, hg2, by omega, hcm, by rw [hsz2]; exact HC.out.2.1, ?_⟩⟩, grown_trans hgr hgr2⟩
          rw [htk2]
          have h3 := HC.out.2.2.1
          rw [HN.out, List.take_length, ← hII, Nat.mul_comm] at h3
          exact h3)
        clear hclr
        go_wp2
        go_ret
        exact hfin.out
end Go.Proofs.Ytmdkmobcglnmgaa
