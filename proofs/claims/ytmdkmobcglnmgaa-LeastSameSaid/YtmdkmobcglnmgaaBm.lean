/- Tables alike have one least table: plain. No program here. Conditions: none. -/
import Derived.Test.YtmdkmobcglnmgaaBh
namespace Go.Proofs.Ytmdkmobcglnmgaa
open Go.RowKit

/-- States of two tables, alike. -/
def Alk2 (A B : D) (p q : Nat) : Prop := ∀ w : List Nat, (∀ m ∈ w, m < 37) → nth A.tells (goW A.next p w) = nth B.tells (goW B.next q w)
theorem alkT_iff {A B : D} : AlkT A B ↔ Alk2 A B 0 0 := ⟨fun h w hw => Classical.byContradiction fun hc => h w hw hc, fun h v hv hs => hs (h v hv)⟩
section
variable {A B : D} {p q p' q' : Nat}
theorem Alk2.step (h : Alk2 A B p q) {m : Nat} (hm : m < 37) : Alk2 A B (stp A.next p m) (stp B.next q m) := fun w hw => h (m :: w) fun k hk => by
  rcases List.mem_cons.1 hk with rfl | hk
  · exact hm
  · exact hw k hk
theorem Alk2.same (h : Alk2 A B p q) (k : Alk2 A B p' q') : Alk A.next A.tells p p' ↔ Alk B.next B.tells q q' :=
  ⟨fun ha w hw => (h w hw).symm.trans ((ha w hw).trans (k w hw)), fun ha w hw => (h w hw).trans ((ha w hw).trans (k w hw).symm)⟩
end
/-- States that are known, side by side. -/
def Side (A B : D) (F G : List Int) : Prop := F.length = G.length ∧ ∀ k, k < F.length → Alk2 A B (nth F k).toNat (nth G k).toNat
theorem side_fnd {A B : D} {al be : Int → Int → Bool} (ha : AlIs al A) (hb : AlIs be B) {F G : List Int} (hF : FIs al A.next.length F) (hG : FIs be B.next.length G) (hs : Side A B F G) {z y : Nat} (hz : z < A.next.length) (hy : y < B.next.length) (hzy : Alk2 A B z y) : fnd al F z = fnd be G y := by
  have key : ∀ k, k < F.length → al (nth F k) z = be (nth G k) y := fun k hk => by
    obtain ⟨p, hp, hpn⟩ := hF.at' _ (nth_mem hk)
    obtain ⟨q, hq, hqn⟩ := hG.at' _ (nth_mem (by rw [← hs.1]; exact hk))
    have h1 := hs.2 k hk
    rw [hp, hq] at h1
    rw [hp, hq, Bool.eq_iff_iff, ha p z hpn hz, hb q y hqn hy]
    exact Alk2.same h1 hzy
  have hl := fnd_le be G (y : Int)
  refine fnd_eq (by rw [hs.1]; exact hl) (fun j hj => ?_) (fun hlt => ?_)
  · rw [key j (by rw [hs.1]; omega)]
    have h3 := List.not_of_lt_findIdx (p := fun a => be a (y : Int)) (xs := G) (i := j) hj
    have hjG : j < G.length := by omega
    rw [show nth G j = G[j] by simp [nth, List.getElem?_eq_getElem hjG]]
    simpa using h3
  · rw [key _ hlt]
    exact fnd_at (by rw [← hs.1]; exact hlt)
theorem side_row {A B : D} {al be : Int → Int → Bool} (ha : AlIs al A) (hb : AlIs be B) : ∀ (r r' : List Int) (s s' : List Int × List Int), r.length = r'.length → (∀ m, m < r.length → ∃ z y : Nat, nth r m = z ∧ nth r' m = y ∧ z < A.next.length ∧ y < B.next.length ∧ Alk2 A B z y) →
    FIs al A.next.length s.1 → FIs be B.next.length s'.1 → Side A B s.1 s'.1 → s.2 = s'.2 → Side A B (r.foldl (lStep al) s).1 (r'.foldl (lStep be) s').1 ∧ (r.foldl (lStep al) s).2 = (r'.foldl (lStep be) s').2
  | [], [], s, s', _, _, _, _, h1, h2 => ⟨h1, h2⟩
  | [], _ :: _, _, _, h, _, _, _, _, _ => by cases h
  | _ :: _, [], _, _, h, _, _, _, _, _ => by cases h
  | a :: r, b :: r', s, s', hl, hr, hF, hG, h1, h2 => by
    obtain ⟨z, y, e1, e2, hz, hy, hzy⟩ := hr 0 (by simp)
    obtain rfl : a = z := by simpa [nth] using e1
    obtain rfl : b = y := by simpa [nth] using e2
    have hf := side_fnd ha hb hF hG h1 hz hy hzy
    rw [List.foldl_cons, List.foldl_cons]
    refine side_row ha hb r r' _ _ (by simpa using hl) (fun m hm => ?_) (hF.step ⟨z, rfl, hz⟩) (hG.step ⟨y, rfl, hy⟩) ?_ ?_
    · obtain ⟨z', y', k1, k2, k3⟩ := hr (m + 1) (by simpa using hm)
      exact ⟨z', y', by simpa [nth] using k1, by simpa [nth] using k2, k3⟩
    · simp only [lStep]
      rw [hf, h1.1]
      by_cases hlt : fnd be s'.1 (y : Int) < s'.1.length
      · rw [if_pos hlt, if_pos hlt]; exact h1
      · rw [if_neg hlt, if_neg hlt]
        refine ⟨by simp [h1.1], fun k hk => ?_⟩
        by_cases hk2 : k < s.1.length
        · have e3 : nth (s.1 ++ [(z : Int)]) k = nth s.1 k := by simp [nth, List.getElem?_append_left hk2]
          have e4 : nth (s'.1 ++ [(y : Int)]) k = nth s'.1 k := by simp [nth, List.getElem?_append_left (show k < s'.1.length by rw [← h1.1]; exact hk2)]
          rw [e3, e4]; exact h1.2 k hk2
        · obtain rfl : k = s.1.length := by simp at hk; omega
          have e3 : nth (s.1 ++ [(z : Int)]) s.1.length = z := by simp [nth]
          have e4 : nth (s'.1 ++ [(y : Int)]) s.1.length = y := by rw [h1.1]; simp [nth]
          rw [e3, e4]; exact hzy
    · simp only [lStep]; rw [h2, hf]
theorem side_iter {A B : D} {al be : Int → Int → Bool} (ha : AlIs al A) (hb : AlIs be B) (hA : RT A.next A.next.length) (hB : RT B.next B.next.length) (hnA : 1 ≤ A.next.length) (hnB : 1 ≤ B.next.length) (h : AlkT A B) : ∀ i, Side A B (lIter al A i).1 (lIter be B i).1 ∧ (lIter al A i).2 = (lIter be B i).2
  | 0 => ⟨⟨rfl, fun k hk => by
      obtain rfl : k = 0 := by simp [lIter] at hk; omega
      exact alkT_iff.1 h⟩, rfl⟩
  | i + 1 => by
    obtain ⟨i1, i2⟩ := side_iter ha hb hA hB hnA hnB h i
    obtain ⟨j, _, j2, j3, _⟩ := linv (al := al) hA hnA i
    obtain ⟨k, _, k2, k3, _⟩ := linv (al := be) hB hnB i
    have hFa : FIs al A.next.length (lIter al A i).1 := by rw [j3]; exact j2.fi
    have hFb : FIs be B.next.length (lIter be B i).1 := by rw [k3]; exact k2.fi
    have hn : (lIter al A i).2.next.length = (lIter be B i).2.next.length := by rw [i2]
    show Side A B (lRound al A (lIter al A i)).1 (lRound be B (lIter be B i)).1 ∧ (lRound al A (lIter al A i)).2 = (lRound be B (lIter be B i)).2
    by_cases hlt : (lIter al A i).2.next.length < (lIter al A i).1.length
    · have hlt2 : (lIter be B i).2.next.length < (lIter be B i).1.length := by rw [← hn, ← i1.1]; exact hlt
      obtain ⟨p, hp, hpn⟩ := hFa.at' _ (nth_mem hlt)
      obtain ⟨q, hq, hqn⟩ := hFb.at' _ (nth_mem hlt2)
      have hpq := i1.2 _ hlt
      rw [hp, hn, hq] at hpq
      have hpq' : Alk2 A B p q := hpq
      have e1 : (lIter al A i).1[(lIter al A i).2.next.length]? = some (p : Int) := by rw [some_nth hlt, hp]
      have e2 : (lIter be B i).1[(lIter be B i).2.next.length]? = some (q : Int) := by rw [some_nth hlt2, hq]
      have hrow := side_row ha hb (row A.next p) (row B.next q) ((lIter al A i).1, []) ((lIter be B i).1, []) (by rw [(hA.2 p hpn).1, (hB.2 q hqn).1]) (fun m hm => by
        rw [(hA.2 p hpn).1] at hm
        exact ⟨_, _, (hA.at hpn hm).2, (hB.at hqn hm).2, (hA.at hpn hm).1, (hB.at hqn hm).1, hpq'.step hm⟩) hFa hFb i1 rfl
      have ht : nth A.tells p = nth B.tells q := hpq' [] (fun _ h => by cases h)
      unfold lRound
      rw [e1, e2]
      refine ⟨hrow.1, ?_⟩
      simp only [Int.toNat_natCast]
      have h2 : (lRow al (lIter al A i).1 (row A.next p)).2 = (lRow be (lIter be B i).1 (row B.next q)).2 := hrow.2
      rw [h2, ht, i2]
    · have hge2 : (lIter be B i).1.length ≤ (lIter be B i).2.next.length := by rw [← hn, ← i1.1]; omega
      rw [lRound_end (by omega), lRound_end hge2]
      exact ⟨i1, i2⟩
theorem least_stable {al : Int → Int → Bool} {d : D} (ha : AlIs al d) (hr : RT d.next d.next.length) (hn : 1 ≤ d.next.length) {i : Nat} (hi : d.next.length ≤ i) : leastD al d = (lIter al d i).2 := by
  have hrefl : ∀ s : Nat, s < d.next.length → al s s = true := fun s hs => (ha s s hs hs).2 (Alk.refl _ _ _)
  obtain ⟨j, h1, h2, h3, h4⟩ := linv (al := al) hr hn d.next.length
  have hl := h2.fi.len hrefl
  have hf : (lIter al d j).1.length = j := by
    by_cases e : j < d.next.length
    · exact h4 e
    · have := h2.le; omega
  unfold leastD
  rw [h3, lIter_end (i := j) (by rw [h2.nx, hf]; exact Nat.le_refl _) i (by omega)]
theorem least_alike {A B : D} {al be : Int → Int → Bool} (ha : AlIs al A) (hb : AlIs be B) (hA : RT A.next A.next.length) (hB : RT B.next B.next.length) (hnA : 1 ≤ A.next.length) (hnB : 1 ≤ B.next.length) : AlkT A B ↔ leastD al A = leastD be B := by
  constructor
  · intro h
    rw [least_stable ha hA hnA (i := A.next.length + B.next.length) (by omega), least_stable hb hB hnB (i := A.next.length + B.next.length) (by omega)]
    exact (side_iter ha hb hA hB hnA hnB h _).2
  · intro e
    obtain ⟨F, hF⟩ := least_is ha hA hnA
    obtain ⟨G, hG⟩ := least_is hb hB hnB
    have h1 := hF.alkT hA
    have h2 := hG.alkT hB
    rw [← e] at h2
    exact h1.trans h2.symm
end Go.Proofs.Ytmdkmobcglnmgaa
