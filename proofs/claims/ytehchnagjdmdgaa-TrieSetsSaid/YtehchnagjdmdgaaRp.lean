/- The document's set of a class, and its blocks, are the trie's. Plain. No conditions but right entries. -/
import Derived.Test.YtehchnagjdmdgaaBp
import Derived.Test.YtehchnagjdmdgaaTp
namespace Go.Proofs.Ytehchnagjdmdgaa
def allR (es : List Ent) : List Rng := (es.map (·.1)).flatten
theorem mem_allR {es : List Ent} {e : Ent} (he : e ∈ es) {x : Rng} (hx : x ∈ e.1) : x ∈ allR es := List.mem_flatten.2 ⟨e.1, List.mem_map.2 ⟨e, he, rfl⟩, hx⟩
theorem right_ok {l : List Rng} (h : rightB l = true) : ∀ x ∈ l, okR x := fun x hx => by
  obtain ⟨k, hk, e⟩ := List.mem_iff_getElem.1 hx
  have h1 := List.all_eq_true.1 h k (List.mem_range.2 hk)
  unfold okAt mayB at h1
  simp only [Bool.and_eq_true, decide_eq_true_eq] at h1
  have h2 : rng l k = x := by simp [rng, List.getElem?_eq_getElem hk, e]
  rw [h2] at h1
  exact ⟨h1.1.1.1, h1.1.1.2, h1.1.2⟩
theorem allR_ok {es : List Ent} (h : ∀ e ∈ es, goodE e = true) : ∀ x ∈ allR es, okR x := fun x hx => by
  obtain ⟨l, hl, hx⟩ := List.mem_flatten.1 hx
  obtain ⟨e, he, rfl⟩ := List.mem_map.1 hl
  have := h e he
  unfold goodE at this
  simp only [Bool.and_eq_true] at this
  exact right_ok this.1.1 x hx
theorem cls_congr {r r' : Int} : ∀ (es : List Ent) (other : Int), (∀ e ∈ es, inS e.1 r = inS e.1 r') → cls other es r = cls other es r'
  | [], _, _ => rfl
  | e :: es, other, h => by
    rw [cls, cls, h e List.mem_cons_self]
    exact cls_congr es _ fun x hx => h x (List.mem_cons_of_mem _ hx)
/-- Between two points a class does not change. -/
theorem seg_const {at' : List Int} {es : List Ent} (h : Pts at' (allR es)) (other : Int) {i : Nat} (hi : i + 1 < at'.length) {r : Int} (h1 : nth at' i ≤ r) (h2 : r < nth at' (i + 1)) : cls other es r = cls other es (nth at' i) :=
  cls_congr es other fun _ he => h.same hi h1 h2 fun _ hx => mem_allR he hx
/-- The segments that are wanted. -/
def segTo (at' : List Int) (P : Int → Bool) : Nat → List Rng
  | 0 => []
  | i + 1 => if P (nth at' i) then segTo at' P i ++ [(nth at' i, nth at' (i + 1) - 1)] else segTo at' P i
theorem seg_len (at' : List Int) (P : Int → Bool) : ∀ k, (segTo at' P k).length ≤ k
  | 0 => Nat.le_refl _
  | k + 1 => by
    have := seg_len at' P k
    unfold segTo
    split
    · simp; omega
    · omega
theorem seg_is {at' : List Int} (hup : at'.Pairwise (· < ·)) (h0 : nth at' 0 = 0) (hm : ∀ x ∈ at', 0 ≤ x ∧ x ≤ 1114112) (P : Int → Bool) : ∀ k : Nat, k < at'.length → (∀ i, i < k → ∀ r, nth at' i ≤ r → r < nth at' (i + 1) → P r = P (nth at' i)) →
    (∀ x ∈ segTo at' P k, okR x) ∧ (∀ r, inS (segTo at' P k) r = (decide (0 ≤ r) && decide (r < nth at' k) && P r))
  | 0, _, _ => ⟨fun x hx => (by cases hx), fun r => by
      show false = _
      rw [h0]
      by_cases h : 0 ≤ r
      · rw [decide_eq_false (show ¬ r < 0 by omega)]; simp
      · rw [decide_eq_false h]; simp⟩
  | k + 1, hk, hP => by
    obtain ⟨h1, h2⟩ := seg_is hup h0 hm P k (by omega) fun i hi => hP i (by omega)
    have hPk := hP k (by omega)
    have hlt : nth at' k < nth at' (k + 1) := up_nth hup (by omega) hk
    have hge := hm _ (nth_mem (show k < at'.length by omega))
    have hge2 := hm _ (nth_mem hk)
    unfold segTo
    obtain ⟨l, hl⟩ : ∃ l, l = segTo at' P k := ⟨_, rfl⟩
    obtain ⟨a, ha⟩ : ∃ a, a = nth at' k := ⟨_, rfl⟩
    obtain ⟨b, hb⟩ : ∃ b, b = nth at' (k + 1) := ⟨_, rfl⟩
    rw [← hl] at h1 h2 ⊢
    rw [← ha] at hlt hge hPk h2 ⊢
    rw [← hb] at hlt hPk hge2 ⊢
    clear hl ha hb hP
    have hsplit : ∀ r, (decide (0 ≤ r) && decide (r < b) && P r) = ((decide (0 ≤ r) && decide (r < a) && P r) || (decide (a ≤ r) && decide (r < b) && P a)) := fun r => by
      by_cases e : a ≤ r
      · by_cases e2 : r < b
        · rw [hPk r e e2, decide_eq_true (show 0 ≤ r by omega), decide_eq_true e2, decide_eq_false (show ¬ r < a by omega), decide_eq_true e]; simp
        · rw [decide_eq_false e2, decide_eq_false (show ¬ r < a by omega)]; simp
      · rw [decide_eq_false e, decide_eq_true (show r < a by omega), decide_eq_true (show r < b by omega)]; simp
    cases hp : P a with
    | false =>
      simp only [Bool.false_eq_true, if_false]
      exact ⟨h1, fun r => by rw [h2, hsplit, hp]; simp⟩
    | true =>
      simp only [if_true]
      refine ⟨fun x hx => ?_, fun r => ?_⟩
      · rcases List.mem_append.1 hx with hx | hx
        · exact h1 x hx
        · rw [List.mem_singleton.1 hx]
          exact ⟨hge.1, by show a ≤ b - 1; omega, by show b - 1 ≤ _; omega⟩
      · rw [hsplit, ← h2, hp, inS_append]
        congr 1
        rw [inS_cons]
        simp only [inS, List.any_nil, Bool.or_false, Bool.and_true]
        rw [show decide (r ≤ b - 1) = decide (r < b) from decide_eq_decide.2 (by omega)]
/-- What Make makes of ranges that may be. -/
def makeR (l : List Rng) : List Rng := gatTo (pts2 l) (inS l) ((pts2 l).length - 1)
theorem make_is {l : List Rng} (hl : ∀ x ∈ l, okR x) : UpR 0 (makeR l) ∧ ∀ r, inS (makeR l) r = (decide (0 ≤ r) && decide (r < 1114112) && inS l r) := by
  have hp := pts2_is l
  have h2 := hp.two
  obtain ⟨h1, h3, -⟩ := gat_is hp.up (hp.first hl) (inS l) ((pts2 l).length - 1) (by omega) fun i hi r ha hb => hp.same (by omega) ha hb fun _ hx => hx
  rw [hp.last hl] at h3
  exact ⟨h1, h3⟩
/-- The document's set. -/
def refSet (other : Int) (es : List Ent) (c : Int) : List Rng := makeR (segTo (pts3 (allR es)) (fun r => decide (getB other es r = c)) ((pts3 (allR es)).length - 1))
theorem refSegs_is {other : Int} {es : List Ent} (h : ∀ e ∈ es, goodE e = true) (c : Int) : (∀ x ∈ segTo (pts3 (allR es)) (fun r => decide (getB other es r = c)) ((pts3 (allR es)).length - 1), okR x) ∧ (∀ r, inS (segTo (pts3 (allR es)) (fun r => decide (getB other es r = c)) ((pts3 (allR es)).length - 1)) r = (decide (0 ≤ r) && decide (r < 1114112) && decide (getB other es r = c))) := by
  have hp := pts3_is (allR es)
  have ha := allR_ok h
  have h2 := hp.two
  have hr := hp.rng ha
  have := seg_is hp.up (hp.first ha) hr (fun r => decide (getB other es r = c)) ((pts3 (allR es)).length - 1) (by omega) fun i hi r h3 h4 => by
    have g1 := hr _ (nth_mem (show i < (pts3 (allR es)).length by omega))
    have g2 := hr _ (nth_mem (show i + 1 < (pts3 (allR es)).length by omega))
    have e : getB other es r = getB other es (nth (pts3 (allR es)) i) := by
      unfold getB
      rw [if_pos (by omega), if_pos (by omega), seg_const hp other (by omega) h3 h4]
    show decide (getB other es r = c) = decide (getB other es (nth (pts3 (allR es)) i) = c)
    rw [e]
  rw [hp.last ha] at this
  exact this
theorem refSet_is {other : Int} {es : List Ent} (h : ∀ e ∈ es, goodE e = true) (c : Int) {K : Nat} (hK : (K : Int) = 1114112) : refSet other es c = setOf other es c K := by
  obtain ⟨h1, h2⟩ := refSegs_is (other := other) h c
  obtain ⟨g1, g2⟩ := make_is h1
  obtain ⟨k1, k2, -⟩ := runs_is (fun r => decide (getB other es r = c)) K
  refine UpR.ext g1 k1 fun r => ?_
  show inS (makeR _) r = inS (runsTo _ K) r
  rw [g2, h2, k2, hK]
  cases decide (0 ≤ r) <;> cases decide (r < 1114112) <;> simp
/-- Is a class there? -/
theorem set_empty {other : Int} {es : List Ent} {c : Int} {n K : Nat} (hK : (K : Int) = (n : Int) * 256) (hK2 : (K : Int) ≤ 1114112) : (setOf other es c K = []) ↔ ¬ ∃ r : Int, 0 ≤ r ∧ r < (K : Int) ∧ c = cls other es r := by
  obtain ⟨k1, k2, -⟩ := runs_is (fun r => decide (getB other es r = c)) K
  have hg : ∀ r : Int, 0 ≤ r → r < (K : Int) → getB other es r = cls other es r := fun r h0 h1 => by unfold getB; rw [if_pos ⟨h0, by omega⟩]
  constructor
  · rintro e ⟨r, h0, h1, h2⟩
    have h3 := k2 r
    rw [show runsTo (fun r => decide (getB other es r = c)) K = [] from e] at h3
    rw [decide_eq_true h0, decide_eq_true h1, hg r h0 h1, ← h2] at h3
    simp [inS] at h3
  · intro h
    refine UpR.ext k1 (show UpR 0 [] from trivial) fun r => ?_
    show inS (runsTo _ K) r = false
    rw [k2]
    by_cases h0 : 0 ≤ r
    · by_cases h1 : r < (K : Int)
      · rw [hg r h0 h1, decide_eq_false (fun e : cls other es r = c => h ⟨r, h0, h1, e.symm⟩)]; simp
      · rw [decide_eq_false h1]; simp
    · rw [decide_eq_false h0]; simp
theorem nth_blk {other : Int} {es : List Ent} {p i : Nat} (hi : i < 256) : nth (blkOf other es p) i = cls other es ((p : Int) * 256 + (i : Nat)) := nth_some (blk_get other es p hi)
/-- How far a text of a block is told when point j comes. -/
def capO (at' : List Int) (p j : Nat) : Nat := (min (nth at' j) ((p : Int) * 256 + 256) - (p : Int) * 256 - 1).toNat
theorem blk_step {at' : List Int} {es : List Ent} (h : Pts at' (allR es)) (other : Int) {p j : Nat} (hj : j + 1 < at'.length) {m : Nat} (hm : nth at' j ≤ (p : Int) * 256 + (m : Nat)) (hm2 : m < 256) (hm3 : (p : Int) * 256 + (m : Nat) < nth at' (j + 1)) : rleTo (blkOf other es p) (capO at' p (j + 1)) = rleTo (blkOf other es p) m := by
  have hc : m ≤ capO at' p (j + 1) ∧ capO at' p (j + 1) ≤ 255 ∧ (p : Int) * 256 + (capO at' p (j + 1) : Nat) < nth at' (j + 1) := by unfold capO; omega
  refine rle_skip' hc.1 fun i h1 h2 => ?_
  rw [nth_blk (by omega), nth_blk hm2, seg_const h other hj (by omega) (by omega), seg_const h other hj hm hm3]
theorem blks_txt {other : Int} {es : List Ent} (hg : ∀ l, ∀ p, l = blkOf other es p → ∀ x ∈ l, 0 ≤ x ∧ x ≤ 255) (p : Nat) : txtB (blkOf other es p) ∈ (blksTo other es p).map txtB ↔ blkOf other es p ∈ blksTo other es p :=
  map_inj_mem fun x hx e => by
    obtain ⟨q, -, rfl⟩ := blks_all other es p x hx
    exact txtB_inj (blk_len _ _ _) (hg _ _ rfl) (blk_len _ _ _) (hg _ _ rfl) e
end Go.Proofs.Ytehchnagjdmdgaa
