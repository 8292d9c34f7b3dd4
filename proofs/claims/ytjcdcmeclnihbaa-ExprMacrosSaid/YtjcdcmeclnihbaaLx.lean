/- The document's Matches: from the first place to the last. Condition: a right expression; at most a thousand marks. -/
import Derived.Test.YtjcdcmeclnihbaaLe
import Derived.Test.YtjcdcmeclnihbaaMa
namespace Go.Proofs.Ytjcdcmeclnihbaa
open Go.RowKit
set_option linter.unusedSimpArgs false
theorem matches_is {d : Nat} {t : Tr d} (hr : rightT d t = true) (marks : List Int) : matchesT t marks = true ↔ Lead d t marks 0 marks.length := by
  unfold matchesT
  rw [hr, Bool.true_and, ends_is d t false marks _ (rightT_cnt hr).2 (by simp [noB])]
  constructor
  · rintro ⟨i, hi, h⟩
    cases i with
    | zero => exact h
    | succ i =>
      exfalso
      have : nthB (noB marks.length) i = true := hi
      rw [nthB_no] at this
      cases this
  · exact fun h => ⟨0, rfl, h⟩
theorem bool_eq {a b : Bool} (h : a = true ↔ b = true) : a = b := by cases a <;> cases b <;> simp_all
set_option maxRecDepth 100000 in
set_option maxHeartbeats 2000000 in
/-- The table's corner. -/
theorem corner_any (d : Nat) (v : Value) (t : Tr d) (mv : Value) (marks : List Int) (w : World) (h : IsTr w Any d v t) (hm : IsNums .i64 w Any mv marks) (hlen : marks.length ≤ 1000) :
    Calls Try.prog 29 #[v, mv] w fun e w' => e = .returned (.bool (leadsF d t marks 0 marks.length)) ∧ Below w.heap.size w w' := by
  cases d with
  | zero => exact t.elim
  | succ d =>
    obtain ⟨A, c, rfl, hle, hkids⟩ := h.open
    have HT := hid h
    obtain ⟨kd, hkd⟩ : ∃ kd, kd = Tr.kind t := ⟨_, rfl⟩
    obtain ⟨cl, hcl⟩ : ∃ cl, cl = Tr.cls t := ⟨_, rfl⟩
    obtain ⟨ll, hll⟩ : ∃ ll, ll = (Tr.kids t).length := ⟨_, rfl⟩
    rw [← hkd, ← hcl, ← hll] at HT ⊢
    obtain ⟨M, cm, rfl⟩ := hm.form
    have HM := hid hm
    have HL := hid hlen
    obtain ⟨W, hW⟩ : ∃ W, W = w.alloc (.cells #[.int .i64 kd, .int .i64 cl, .slice A ll c] 51) := ⟨_, rfl⟩
    have HX := hid (box3 hW)
    obtain ⟨m, hmn⟩ : ∃ m, m = marks.length := ⟨_, rfl⟩
    have HMN := hid hmn
    rw [← hmn]
    have HT2 := hid (HT.out.below HX.out.1)
    have HM2 := hid (show IsNums .i64 W Any (.slice M m cm) marks by rw [HMN.out]; exact HM.out.below HX.out.1)
    have hm1 : (m : Int) < ((m + 1 : Nat) : Int) := by omega
    have h01 : (0 : Int) < ((m + 1 : Nat) : Int) := by omega
    clear hkd hcl hll h hkids hm hle hlen hmn
    go_enter Try.func29, Try.ntmps29
    go_wp2_with fail
    rw [← hW]
    refine (leads_any (d + 1) _ t _ marks _ HT2.out HM2.out HL.out).mono ?_
    rintro e w1 ⟨tv, rfl, htab, hb1⟩
    rw [← HMN.out] at htab
    obtain ⟨g, rfl, hg, hr⟩ := htab
    obtain ⟨r, hlt, hc, hj⟩ := hr 0 (by omega)
    have hj := hj m (by omega)
    have HB := hid (HX.out.1.trans (hb1.mono HX.out.1.size))
    clear hg hr hb1 hlt
    go_wp2_with fail
    go_ret
    exact ⟨rfl, HB.out⟩
theorem matchesRef_any (d : Nat) (v : Value) (t : Tr d) (mv : Value) (marks : List Int) (w : World) (hr : rightT d t = true) (h : IsTr w Any d v t) (hm : IsNums .i64 w Any mv marks) (hlen : marks.length ≤ 1000) :
    Calls Try.prog 29 #[v, mv] w fun e w' => e = .returned (.bool (matchesT t marks)) ∧ Below w.heap.size w w' := by
  have e : matchesT t marks = leadsF d t marks 0 marks.length := bool_eq (by
    rw [matches_is hr, leads_is d t false marks (rightT_cnt hr).2 0 marks.length (by omega) (by omega)])
  rw [e]
  exact corner_any d v t mv marks w h hm hlen
end Go.Proofs.Ytjcdcmeclnihbaa
