/- A right automaton is a table, as it comes in. No conditions. -/
import Derived.Test.YtmdkmobcglnmgaaRn
namespace Go.Proofs.Ytmdkmobcglnmgaa
open Go.RowKit

theorem tabX_of {S : Nat → Prop} {w : World} {nv tv : Value} {d : D} (h : IsD w S (.agg #[nv, tv]) d) (hr : rightB d = true) (hu : ∀ z ∈ d.tells, u64ok z) :
    ∃ nb no nc tb to' tc, nv = .slice (some ⟨nb, no, none⟩) d.next.length nc ∧ tv = .slice (some ⟨tb, to', none⟩) d.next.length tc ∧ TabX w nb no nc tb to' tc d.next.length d.next d.tells := by
  obtain ⟨_, _, e1, hn, ht⟩ := h
  obtain ⟨rfl, rfl⟩ : nv = _ ∧ tv = _ := by simpa using e1
  obtain ⟨r1, r2, r3, r4⟩ := right_rows hr
  obtain ⟨A, cA, vs, rfl, hl, hA, hR⟩ := hn.open
  obtain ⟨nb, no, A', c', rfl, _, hnb, _⟩ := hR.at hA (k := 0) (by omega)
  obtain ⟨tb, to', tc, rfl, _, htb, _⟩ := ht.at (j := 0) (by omega)
  refine ⟨nb, no, cA, tb, to', tc, rfl, by rw [r3], ⟨⟨rfl, fun p hp => ⟨(r4 _ (row_mem hp)).1, fun m hm => (r4 _ (row_mem hp)).2 _ (nth_mem (by rw [(r4 _ (row_mem hp)).1]; exact hm))⟩⟩, r3, ⟨r2, r1⟩, hnb, htb, fun k hk => ?_, fun i hi => ?_, hu⟩⟩
  · obtain ⟨b, o, c, e, _, _, hc⟩ := ht.at (j := k) (by omega)
    obtain ⟨⟨rfl, rfl⟩, _⟩ : (tb = b ∧ to' = o) ∧ tc = c := by simpa using e
    exact hc
  · obtain ⟨b, o, A2, c2, e, _, hlt, hc, _, _, _, hA2⟩ := hR.at hA hi
    obtain ⟨rfl, rfl⟩ : nb = b ∧ no = o := by simpa using e
    have hlen := (r4 _ (row_mem hi)).1
    obtain ⟨b2, o2, rfl, _, hb2, _⟩ := hA2.num (j := 0) (by omega)
    refine ⟨b2, o2, c2, by rw [hc, hlen], hb2, fun m hm => ?_⟩
    obtain ⟨b3, o3, e3, _, _, h3⟩ := hA2.num (j := m) (by omega)
    obtain ⟨rfl, rfl⟩ : b2 = b3 ∧ o2 = o3 := by simpa using e3
    exact h3
end Go.Proofs.Ytmdkmobcglnmgaa
