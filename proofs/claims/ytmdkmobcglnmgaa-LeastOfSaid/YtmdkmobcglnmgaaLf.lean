/- The least automaton is right, tells the same behind any marks, has no two states alike, and each of its states comes of the first: plain. No conditions. -/
import Derived.Test.YtmdkmobcglnmgaaLa
namespace Go.Proofs.Ytmdkmobcglnmgaa
open Go.RowKit

theorem fnd_at {al : Int → Int → Bool} {f : List Int} {z : Int} (h : fnd al f z < f.length) : al (nth f (fnd al f z)) z = true := by
  have : f[fnd al f z]? = some (nth f (fnd al f z)) := some_nth h
  have h2 := List.findIdx_getElem (p := fun a => al a z) (xs := f) (w := h)
  rw [show nth f (fnd al f z) = f[fnd al f z] by simp [nth, List.getElem?_eq_getElem h]]
  exact h2
theorem lStep_spec {al : Int → Int → Bool} {s : List Int × List Int} {z : Int} (hz : al z z = true) :
    ∃ j : Nat, (lStep al s z).2 = s.2 ++ [(j : Int)] ∧ j < (lStep al s z).1.length ∧ al (nth (lStep al s z).1 j) z = true ∧ (∀ k, s.1.length ≤ k → k < (lStep al s z).1.length → k = j) := by
  refine ⟨fnd al s.1 z, rfl, ?_⟩
  simp only [lStep]
  split
  · rename_i h
    exact ⟨h, fnd_at h, fun k h1 h2 => by omega⟩
  · rename_i h
    have hl := fnd_le al s.1 z
    have e : fnd al s.1 z = s.1.length := by omega
    refine ⟨by simp; omega, ?_, fun k h1 h2 => ?_⟩
    · rw [e]; simpa [nth] using hz
    · simp at h2; omega
theorem lRow_spec {al : Int → Int → Bool} {f r : List Int} (hz : ∀ z ∈ r, al z z = true) :
    (∀ m, m < r.length → ∃ j : Nat, nth (lRow al f r).2 m = j ∧ j < (lRow al f r).1.length ∧ al (nth (lRow al f r).1 j) (nth r m) = true) ∧
    (∀ j, f.length ≤ j → j < (lRow al f r).1.length → ∃ m, m < r.length ∧ nth (lRow al f r).2 m = (j : Nat)) := by
  have key : ∀ k, k ≤ r.length → (∀ m, m < k → ∃ j : Nat, nth (lRow al f (r.take k)).2 m = j ∧ j < (lRow al f (r.take k)).1.length ∧ al (nth (lRow al f (r.take k)).1 j) (nth r m) = true) ∧
      (∀ j, f.length ≤ j → j < (lRow al f (r.take k)).1.length → ∃ m, m < k ∧ nth (lRow al f (r.take k)).2 m = (j : Nat)) := by
    intro k
    induction k with
    | zero =>
      intro _
      refine ⟨fun m h => by omega, fun j h1 h2 => ?_⟩
      simp [lRow] at h2
      omega
    | succ k ih =>
      intro hk
      obtain ⟨i1, i2⟩ := ih (by omega)
      have e : lRow al f (r.take (k + 1)) = lStep al (lRow al f (r.take k)) (nth r k) := by rw [take_nth hk, lRow_snoc]
      obtain ⟨j0, s1, s2, s3, s4⟩ := lStep_spec (al := al) (s := lRow al f (r.take k)) (hz (nth r k) (nth_mem hk))
      have hl2 : (lRow al f (r.take k)).2.length = k := by rw [lRow_len, List.length_take]; omega
      have hle := lStep_le al (lRow al f (r.take k)) (nth r k)
      rw [e]
      refine ⟨fun m hm => ?_, fun j h1 h2 => ?_⟩
      · by_cases hmk : m < k
        · obtain ⟨j, a, b, c⟩ := i1 m hmk
          refine ⟨j, ?_, Nat.lt_of_lt_of_le b hle, ?_⟩
          · rw [s1, ← a]; simp [nth, List.getElem?_append_left (show m < (lRow al f (r.take k)).2.length by omega)]
          · rw [lStep_nth al _ _ b]; exact c
        · obtain rfl : m = k := by omega
          refine ⟨j0, ?_, s2, s3⟩
          rw [s1]; simp [nth, hl2]
      · by_cases hj : j < (lRow al f (r.take k)).1.length
        · obtain ⟨m, a, b⟩ := i2 j h1 hj
          refine ⟨m, by omega, ?_⟩
          rw [s1, ← b]; simp [nth, List.getElem?_append_left (show m < (lRow al f (r.take k)).2.length by omega)]
        · have := s4 j (by omega) h2
          subst this
          refine ⟨k, by omega, ?_⟩
          rw [s1]; simp [nth, hl2]
  have := key r.length (Nat.le_refl _)
  rwa [List.take_length] at this
theorem lRow_out {al : Int → Int → Bool} {f r : List Int} (hz : ∀ z ∈ r, al z z = true) : (lRow al f r).2.length = r.length := lRow_len al f r

/-- What has been told up to the i-th state. -/
structure LT (al : Int → Int → Bool) (d : D) (F : List Int) (rs : List (List Int)) (ts : List Int) (i : Nat) : Prop where
  z : nth F 0 = 0 ∧ 0 < F.length
  row : ∀ j, j < i → (row rs j).length = 37 ∧ nth ts j = nth d.tells (nth F j).toNat ∧ ∀ m, m < 37 → ∃ k : Nat, nth (row rs j) m = k ∧ k < F.length ∧ al (nth F k) (stp d.next (nth F j).toNat m : Nat) = true
  new : ∀ k, 1 ≤ k → k < F.length → ∃ j m, j < i ∧ j < k ∧ m < 37 ∧ nth (Proofs.Ytmdkmobcglnmgaa.row rs j) m = (k : Nat)
theorem row_app_l {rs : List (List Int)} {r : List Int} {j : Nat} (h : j < rs.length) : row (rs ++ [r]) j = row rs j := by simp [row, List.getElem?_append_left h]
theorem row_app_r {rs : List (List Int)} {r : List Int} : row (rs ++ [r]) rs.length = r := by simp [row]
theorem nth_app_l {ts : List Int} {t : Int} {j : Nat} (h : j < ts.length) : nth (ts ++ [t]) j = nth ts j := by simp [nth, List.getElem?_append_left h]
theorem nth_app_r {ts : List Int} {t : Int} : nth (ts ++ [t]) ts.length = t := by simp [nth]
theorem lt_all {al : Int → Int → Bool} {n : Nat} {d : D} (hr : RT d.next n) (hn : 1 ≤ n) (hrefl : ∀ s : Nat, s < n → al s s = true) : ∀ i, LInv al n d i → LT al d (lIter al d i).1 (lIter al d i).2.next (lIter al d i).2.tells i
  | 0, _ => ⟨⟨rfl, by simp [lIter]⟩, fun j h => by omega, fun k h1 h2 => by simp [lIter] at h2; omega⟩
  | i + 1, h => by
    obtain ⟨j, h1, h2, h3, h4⟩ := linv (al := al) hr hn i
    by_cases e : j < i
    · exfalso
      have e1 : lIter al d (i + 1) = lIter al d j := by
        show lRound al d (lIter al d i) = _
        rw [h3, lRound_end (by rw [h2.nx, h4 e]; exact Nat.le_refl _)]
      have := h.nx
      rw [e1, h2.nx] at this
      omega
    · obtain rfl : j = i := by omega
      by_cases hlt : j < (lIter al d j).1.length
      · obtain ⟨a, b, c⟩ := lt_all hr hn hrefl j h2
        obtain ⟨q, hq, hqn⟩ := h2.state hlt
        have e1 := h2.next hlt hq
        have hrow := rt_row hr hqn
        obtain ⟨s1, s2⟩ := lRow_spec (al := al) (f := (lIter al d j).1) (r := row d.next q) (fun z hz => by obtain ⟨t, rfl, ht⟩ := hrow z hz; exact hrefl t ht)
        have h37 := (hr.2 q hqn).1
        have hle := lRow_le al (lIter al d j).1 (row d.next q)
        have hrl := h2.nx
        have htl := h2.tl
        generalize lIter al d j = st at *
        rw [e1]
        refine ⟨⟨by rw [lRow_nth _ _ _ a.2]; exact a.1, by have := a.2; show 0 < (lRow al st.1 (row d.next q)).1.length; omega⟩, fun k hk => ?_, fun k k1 k2 => ?_⟩
        · by_cases hkj : k < j
          · obtain ⟨r1, r2, r3⟩ := b k hkj
            have hkF : k < st.1.length := by omega
            refine ⟨by rw [row_app_l (by omega)]; exact r1, by rw [nth_app_l (by omega), lRow_nth _ _ _ hkF]; exact r2, fun m hm => ?_⟩
            obtain ⟨k', q1, q2, q3⟩ := r3 m hm
            exact ⟨k', by rw [row_app_l (by omega)]; exact q1, Nat.lt_of_lt_of_le q2 hle, by rw [lRow_nth _ _ _ q2, lRow_nth _ _ _ hkF]; exact q3⟩
          · obtain rfl : k = j := by omega
            have er : row (st.2.next ++ [(lRow al st.1 (row d.next q)).2]) k = (lRow al st.1 (row d.next q)).2 := by
              have := row_app_r (rs := st.2.next) (r := (lRow al st.1 (row d.next q)).2); rwa [hrl] at this
            have et : nth (st.2.tells ++ [nth d.tells q]) k = nth d.tells q := by
              have := nth_app_r (ts := st.2.tells) (t := nth d.tells q); rwa [htl] at this
            have ef : nth (lRow al st.1 (row d.next q)).1 k = q := by rw [lRow_nth _ _ _ hlt]; exact hq
            refine ⟨by rw [er, lRow_len]; exact h37, by rw [et, ef]; rfl, fun m hm => ?_⟩
            obtain ⟨k', q1, q2, q3⟩ := s1 m (by omega)
            refine ⟨k', by rw [er]; exact q1, q2, ?_⟩
            rw [ef, show ((q : Int)).toNat = q from rfl, ← (hr.at hqn hm).2]; exact q3
        · by_cases hk2 : k < st.1.length
          · obtain ⟨j', m, j1, j2, j3, j4⟩ := c k k1 hk2
            exact ⟨j', m, by omega, j2, j3, by rw [row_app_l (by omega)]; exact j4⟩
          · obtain ⟨m, m1, m2⟩ := s2 k (by omega) k2
            refine ⟨j, m, by omega, by omega, by omega, ?_⟩
            have er : row (st.2.next ++ [(lRow al st.1 (row d.next q)).2]) j = (lRow al st.1 (row d.next q)).2 := by
              have := row_app_r (rs := st.2.next) (r := (lRow al st.1 (row d.next q)).2); rwa [hrl] at this
            rw [er]; exact m2
      · exfalso
        have e1 : lIter al d (j + 1) = lIter al d j := lRound_end (by rw [h2.nx]; omega)
        have := h.nx
        rw [e1, h2.nx] at this
        omega
/-- The least automaton, by its states' states. -/
structure LeastIs (d : D) (F : List Int) (y : D) : Prop where
  len : y.next.length = F.length ∧ y.tells.length = F.length ∧ F.length ≤ d.next.length
  st : ∀ j, j < F.length → ∃ q : Nat, nth F j = q ∧ q < d.next.length
  no : ∀ i j, i < j → j < F.length → ¬ Alk d.next d.tells (nth F i).toNat (nth F j).toNat
  z : nth F 0 = 0 ∧ 0 < F.length
  row : ∀ j, j < F.length → (row y.next j).length = 37 ∧ nth y.tells j = nth d.tells (nth F j).toNat ∧ ∀ m, m < 37 → ∃ k : Nat, nth (row y.next j) m = k ∧ k < F.length ∧ Alk d.next d.tells (nth F k).toNat (stp d.next (nth F j).toNat m)
  new : ∀ k, 1 ≤ k → k < F.length → ∃ j m, j < k ∧ m < 37 ∧ nth (Proofs.Ytmdkmobcglnmgaa.row y.next j) m = (k : Nat)
theorem least_is {al : Int → Int → Bool} {d : D} (ha : AlIs al d) (hr : RT d.next d.next.length) (hn : 1 ≤ d.next.length) : ∃ F, LeastIs d F (leastD al d) := by
  have hrefl : ∀ s : Nat, s < d.next.length → al s s = true := fun s hs => (ha s s hs hs).2 (Alk.refl _ _ _)
  obtain ⟨j, h1, h2, h3, h4⟩ := linv (al := al) hr hn d.next.length
  have hl := h2.fi.len hrefl
  have hf : (lIter al d j).1.length = j := by
    by_cases e : j < d.next.length
    · exact h4 e
    · have := h2.le; omega
  have h5 := lt_all hr hn hrefl j h2
  refine ⟨(lIter al d j).1, ?_⟩
  unfold leastD
  rw [h3]
  have hst := fun k (hk : k < (lIter al d j).1.length) => h2.fi.at' (nth (lIter al d j).1 k) (nth_mem hk)
  refine ⟨⟨by rw [h2.nx, hf], by rw [h2.tl, hf], hl⟩, hst, fun i k hik hk h => ?_, h5.z, fun k hk => ?_, fun k k1 k2 => ?_⟩
  · have hp := h2.fi.no
    rw [List.pairwise_iff_getElem] at hp
    have := hp i k (by omega) hk hik
    obtain ⟨q, e, hq⟩ := hst i (by omega)
    obtain ⟨q', e', hq'⟩ := hst k hk
    rw [e, e'] at h
    rw [show (lIter al d j).1[i] = nth (lIter al d j).1 i by simp [nth, List.getElem?_eq_getElem (show i < (lIter al d j).1.length by omega)], show (lIter al d j).1[k] = nth (lIter al d j).1 k by simp [nth, List.getElem?_eq_getElem hk], e, e', (ha q q' hq hq').2 h] at this
    cases this
  · obtain ⟨r1, r2, r3⟩ := h5.row k (by omega)
    refine ⟨r1, r2, fun m hm => ?_⟩
    obtain ⟨k', q1, q2, q3⟩ := r3 m hm
    obtain ⟨q, e, hq⟩ := hst k hk
    obtain ⟨q', e', hq'⟩ := hst k' q2
    refine ⟨k', q1, q2, ?_⟩
    rw [e, e'] at q3 ⊢
    exact (ha q' _ hq' (hr.at hq hm).1).1 q3
  · obtain ⟨j', m, a, b, c, e⟩ := h5.new k k1 k2
    exact ⟨j', m, b, c, e⟩
section
variable {d y : D} {F : List Int}
theorem LeastIs.rt (h : LeastIs d F y) : RT y.next y.next.length := ⟨rfl, fun p hp => by
  rw [h.len.1] at hp
  obtain ⟨r1, _, r3⟩ := h.row p hp
  refine ⟨r1, fun m hm => ?_⟩
  obtain ⟨k, e, hk, _⟩ := r3 m hm
  rw [e, h.len.1]
  omega⟩
/-- The same is told behind any marks. -/
theorem LeastIs.go (h : LeastIs d F y) (hr : RT d.next d.next.length) : ∀ (w : List Nat) (j : Nat), j < F.length → (∀ m ∈ w, m < 37) → goW y.next j w < F.length ∧ Alk d.next d.tells (nth F (goW y.next j w)).toNat (goW d.next (nth F j).toNat w)
  | [], j, hj, _ => ⟨hj, Alk.refl _ _ _⟩
  | m :: w, j, hj, hw => by
    have hm := hw m List.mem_cons_self
    have hw' := fun k hk => hw k (List.mem_cons_of_mem _ hk)
    obtain ⟨k, e, hk, ha⟩ := (h.row j hj).2.2 m hm
    have e1 : stp y.next j m = k := by unfold stp; rw [e]; rfl
    obtain ⟨i1, i2⟩ := LeastIs.go h hr w k hk hw'
    show goW y.next (stp y.next j m) w < _ ∧ Alk _ _ (nth F (goW y.next (stp y.next j m) w)).toNat (goW d.next (stp d.next (nth F j).toNat m) w)
    rw [e1]
    refine ⟨i1, i2.trans fun v hv => ?_⟩
    have gapp : ∀ (u : List Nat) (p : Nat), goW d.next (goW d.next p u) v = goW d.next p (u ++ v) := by
      intro u
      induction u with
      | nil => intro p; rfl
      | cons a u ih => intro p; exact ih _
    rw [gapp, gapp]
    exact ha (w ++ v) fun x hx => by
      rcases List.mem_append.1 hx with hx | hx
      · exact hw' x hx
      · exact hv x hx
theorem LeastIs.tell (h : LeastIs d F y) (hr : RT d.next d.next.length) {j : Nat} (hj : j < F.length) {w : List Nat} (hw : ∀ m ∈ w, m < 37) : nth y.tells (goW y.next j w) = nth d.tells (goW d.next (nth F j).toNat w) := by
  obtain ⟨h1, h2⟩ := h.go hr w j hj hw
  rw [(h.row _ h1).2.1, h2.tell]
theorem LeastIs.alk (h : LeastIs d F y) (hr : RT d.next d.next.length) {i j : Nat} (hi : i < F.length) (hj : j < F.length) : Alk y.next y.tells i j ↔ i = j := by
  refine ⟨fun ha => ?_, fun e => e ▸ Alk.refl _ _ _⟩
  have key : ∀ {i j : Nat}, i < F.length → j < F.length → Alk y.next y.tells i j → ¬ i < j := fun {i j} hi hj ha hlt => h.no i j hlt hj fun w hw => by
    rw [← h.tell hr hi hw, ← h.tell hr hj hw]; exact ha w hw
  have h1 := key hi hj ha
  have h2 := key hj hi ha.symm
  omega
end
end Go.Proofs.Ytmdkmobcglnmgaa
