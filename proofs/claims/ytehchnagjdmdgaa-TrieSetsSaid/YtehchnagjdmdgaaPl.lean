/- Entries, and the class of a number; how a trie's places are noted, and what each block is. Plain. No conditions. -/
import Derived.Test.YtehchnagjdmdgaaBaseA
namespace Go.Proofs.Ytehchnagjdmdgaa
abbrev Rng := Int × Int
abbrev Ent := List Rng × Int
/-- Is a number in one of some ranges? -/
def inS (l : List Rng) (r : Int) : Bool := l.any fun x => decide (x.1 ≤ r) && decide (r ≤ x.2)
def ent (es : List Ent) (i : Nat) : Ent := es[i]?.getD ([], 0)
/-- The class of a number: the last entry's that has it. -/
def cls (other : Int) : List Ent → Int → Int
  | [], _ => other
  | e :: es, r => cls (if inS e.1 r then e.2 else other) es r
theorem cls_snoc (other : Int) (es : List Ent) (e : Ent) (r : Int) : cls other (es ++ [e]) r = if inS e.1 r then e.2 else cls other es r := by
  induction es generalizing other with
  | nil => rfl
  | cons a es ih => rw [List.cons_append, cls, cls, ih]
theorem ent_some {es : List Ent} {i : Nat} (h : i < es.length) : es[i]? = some (ent es i) := by simp [ent, List.getElem?_eq_getElem h]
theorem ent_mem {es : List Ent} {i : Nat} (h : i < es.length) : ent es i ∈ es := List.mem_of_getElem? (ent_some h)
theorem take_ent {es : List Ent} {i : Nat} (h : i < es.length) : es.take (i + 1) = es.take i ++ [ent es i] := by
  rw [List.take_add_one, ent_some h]; rfl
theorem cls_take {es : List Ent} {i : Nat} (other r : Int) (h : i < es.length) : cls other (es.take (i + 1)) r = if inS (ent es i).1 r then (ent es i).2 else cls other (es.take i) r := by
  rw [take_ent h, cls_snoc]
/-- What is noted of the places: which entry has all of it, which ones some of it. -/
structure Bl where
  whole : Nat → Int
  parts : Nat → List Int
def upd {α : Type} (f : Nat → α) (p : Nat) (a : α) : Nat → α := fun q => if q = p then a else f q
theorem upd_same {α : Type} (f : Nat → α) (p : Nat) (a : α) : upd f p a p = a := by simp [upd]
theorem upd_other {α : Type} (f : Nat → α) {p q : Nat} (a : α) (h : q ≠ p) : upd f p a q = f q := by simp [upd, h]
/-- A place that a range touches. -/
def touch (i : Nat) (x : Rng) (p : Nat) (b : Bl) : Bl :=
  if x.1 ≤ (p : Int) * 256 ∧ (p : Int) * 256 + 255 ≤ x.2 then ⟨upd b.whole p ((i : Int) + 1), upd b.parts p []⟩
  else if b.parts p = [] ∨ (b.parts p).getLast? ≠ some (i : Int) then ⟨b.whole, upd b.parts p (b.parts p ++ [(i : Int)])⟩ else b
/-- The first k places that a range touches. -/
def span (i : Nat) (x : Rng) (b : Bl) : Nat → Bl
  | 0 => b
  | k + 1 => touch i x ((x.1 / 256).toNat + k) (span i x b k)
def placesOf (x : Rng) : Nat := (x.2 / 256 + 1 - x.1 / 256).toNat
def spreadTo (i : Nat) (b : Bl) (l : List Rng) : Bl := l.foldl (fun b x => span i x b (placesOf x)) b
def bl0 : Bl := ⟨fun _ => 0, fun _ => []⟩
/-- The first i entries, noted. -/
def builtTo (es : List Ent) : Nat → Bl
  | 0 => bl0
  | i + 1 => spreadTo i (builtTo es i) (ent es i).1
/-- Entries' numbers painted over a class. -/
def paintL (es : List Ent) : List Int → Int → Int → Int
  | [], c, _ => c
  | j :: js, c, r => paintL es js (if inS (ent es j.toNat).1 r then (ent es j.toNat).2 else c) r
theorem paint_snoc (es : List Ent) (js : List Int) (j c r : Int) : paintL es (js ++ [j]) c r = if inS (ent es j.toNat).1 r then (ent es j.toNat).2 else paintL es js c r := by
  induction js generalizing c with
  | nil => rfl
  | cons a js ih => rw [List.cons_append, paintL, paintL, ih]
def baseOf (es : List Ent) (other : Int) (b : Bl) (p : Nat) : Int := if 0 < b.whole p then (ent es (b.whole p - 1).toNat).2 else other
def valOf (es : List Ent) (other : Int) (b : Bl) (p : Nat) (r : Int) : Int := paintL es (b.parts p) (baseOf es other b p) r
def At (p : Nat) (r : Int) : Prop := (p : Int) * 256 ≤ r ∧ r ≤ (p : Int) * 256 + 255
/-- A place is as its first n entries make it. -/
def AsTo (es : List Ent) (other : Int) (b : Bl) (p n : Nat) : Prop :=
  (∀ r, At p r → valOf es other b p r = cls other (es.take n) r) ∧ (b.parts p).Pairwise (· < ·) ∧ (∀ j ∈ b.parts p, 0 ≤ j ∧ j < n) ∧ 0 ≤ b.whole p ∧ b.whole p ≤ n
theorem up_last {l : List Int} {z : Int} (h : l.Pairwise (· < ·)) (hz : l.getLast? = some z) : ∀ a ∈ l, a ≤ z := by
  obtain ⟨l', rfl⟩ := List.getLast?_eq_some_iff.1 hz
  intro a ha
  rcases List.mem_append.1 ha with ha | ha
  · have := (List.pairwise_append.1 h).2.2 a ha z (by simp)
    omega
  · rw [List.mem_singleton.1 ha]; exact Int.le_refl _
theorem up_snoc {l : List Int} {z : Int} (h : l.Pairwise (· < ·)) (hz : ∀ a ∈ l, a < z) : (l ++ [z]).Pairwise (· < ·) := by
  rw [List.pairwise_append]
  exact ⟨h, by simp, fun a ha b hb => by rw [List.mem_singleton.1 hb]; exact hz a ha⟩
theorem up_len : ∀ {l : List Int} {a n : Int}, l.Pairwise (· < ·) → (∀ j ∈ l, a ≤ j ∧ j < n) → a ≤ n → (l.length : Int) ≤ n - a
  | [], a, n, _, _, han => by simp; omega
  | x :: l, a, n, h, hb, han => by
    obtain ⟨h1, h2⟩ := List.pairwise_cons.1 h
    have hx := hb x List.mem_cons_self
    have := up_len (l := l) (a := x + 1) (n := n) h2 (fun j hj => by have := h1 j hj; have := hb j (List.mem_cons_of_mem _ hj); omega) (by omega)
    simp only [List.length_cons]
    omega
theorem AsTo.len {es : List Ent} {other : Int} {b : Bl} {p n : Nat} (h : AsTo es other b p n) : (b.parts p).length ≤ n := by
  have := up_len (a := 0) (n := (n : Int)) h.2.1 h.2.2.1 (by omega)
  omega
def Mid (es : List Ent) (other : Int) (i : Nat) (T : Nat → Prop) (b : Bl) : Prop := ∀ p, AsTo es other b p (i + 1) ∨ AsTo es other b p i ∧ ¬ T p
theorem Mid.touch {es : List Ent} {other : Int} {i : Nat} {T : Nat → Prop} {b : Bl} {x : Rng} {p : Nat} (h : Mid es other i T b) (hi : i < es.length) (hx : x ∈ (ent es i).1) : Mid es other i (fun q => T q ∨ q = p) (touch i x p b) := by
  intro q
  by_cases hq : q = p
  · subst hq
    left
    unfold Go.Proofs.Ytehchnagjdmdgaa.touch
    split
    · rename_i hc
      refine ⟨fun r hr => ?_, ?_, ?_, ?_, ?_⟩
      · have hin : inS (ent es i).1 r = true := List.any_eq_true.2 ⟨x, hx, by simp only [Bool.and_eq_true, decide_eq_true_eq]; unfold At at hr; omega⟩
        rw [cls_take other r hi, hin]
        simp only [valOf, baseOf, upd_same, paintL]
        rw [if_pos (by omega), show ((i : Int) + 1 - 1).toNat = i by omega]
        rfl
      · simp [upd_same]
      · simp [upd_same]
      · simp only [upd_same]; omega
      · simp only [upd_same]; omega
    · split
      · have hbase : baseOf es other ⟨b.whole, upd b.parts q (b.parts q ++ [(i : Int)])⟩ q = baseOf es other b q := rfl
        have hlt : ∀ j ∈ b.parts q, j < (i : Int) := by
          rename_i _ hc
          intro j hj
          rcases h q with ⟨h1, h2, h3, h4, h5⟩ | ⟨⟨h1, h2, h3, h4, h5⟩, -⟩
          · rcases hc with hc | hc
            · rw [hc] at hj; cases hj
            · have hb := h3 j hj
              by_cases e : j = i
              · exfalso
                cases hz : (b.parts q).getLast? with
                | none => rw [List.getLast?_eq_none_iff.1 hz] at hj; cases hj
                | some z =>
                  have h6 := up_last h2 hz j hj
                  have h7 := h3 z (List.mem_of_getLast? hz)
                  rw [hz] at hc
                  exact hc (by congr 1; omega)
              · omega
          · exact (h3 j hj).2
        have hmem : ∀ j ∈ b.parts q ++ [(i : Int)], 0 ≤ j ∧ j < ((i + 1 : Nat) : Int) := by
          intro j hj
          rcases List.mem_append.1 hj with hj | hj
          · have := hlt j hj
            rcases h q with ⟨-, -, h3, -⟩ | ⟨⟨-, -, h3, -⟩, -⟩
            · have := h3 j hj; omega
            · have := h3 j hj; omega
          · rw [List.mem_singleton.1 hj]; omega
        rcases h q with ⟨h1, h2, h3, h4, h5⟩ | ⟨⟨h1, h2, h3, h4, h5⟩, -⟩
        · refine ⟨fun r hr => ?_, by simp only [upd_same]; exact up_snoc h2 hlt, by simp only [upd_same]; exact hmem, h4, h5⟩
          have e := h1 r hr
          simp only [valOf, upd_same] at e ⊢
          rw [paint_snoc, hbase, e, cls_take other r hi, Int.toNat_natCast]
          split <;> rfl
        · refine ⟨fun r hr => ?_, by simp only [upd_same]; exact up_snoc h2 hlt, by simp only [upd_same]; exact hmem, h4, by show b.whole q ≤ _; omega⟩
          have e := h1 r hr
          simp only [valOf, upd_same] at e ⊢
          rw [paint_snoc, hbase, e, cls_take other r hi, Int.toNat_natCast]
      · rename_i hc
        rcases h q with h | ⟨⟨h1, h2, h3, h4, h5⟩, -⟩
        · exact h
        · exfalso
          apply hc
          by_cases h0 : b.parts q = []
          · exact .inl h0
          · refine .inr fun e => ?_
            have := h3 _ (List.mem_of_getLast? e)
            omega
  · have e : (Go.Proofs.Ytehchnagjdmdgaa.touch i x p b).whole q = b.whole q ∧ (Go.Proofs.Ytehchnagjdmdgaa.touch i x p b).parts q = b.parts q := by
      unfold Go.Proofs.Ytehchnagjdmdgaa.touch
      split
      · exact ⟨upd_other _ _ hq, upd_other _ _ hq⟩
      · split
        · exact ⟨rfl, upd_other _ _ hq⟩
        · exact ⟨rfl, rfl⟩
    have hv : ∀ r, valOf es other (Go.Proofs.Ytehchnagjdmdgaa.touch i x p b) q r = valOf es other b q r := fun r => by simp only [valOf, baseOf, e.1, e.2]
    rcases h q with ⟨h1, h2, h3, h4, h5⟩ | ⟨⟨h1, h2, h3, h4, h5⟩, h6⟩
    · exact .inl ⟨fun r hr => by rw [hv]; exact h1 r hr, by rw [e.2]; exact h2, by rw [e.2]; exact h3, by rw [e.1]; exact h4, by rw [e.1]; exact h5⟩
    · exact .inr ⟨⟨fun r hr => by rw [hv]; exact h1 r hr, by rw [e.2]; exact h2, by rw [e.2]; exact h3, by rw [e.1]; exact h4, by rw [e.1]; exact h5⟩, fun h' => h'.elim h6 hq⟩
theorem Mid.weak {es : List Ent} {other : Int} {i : Nat} {T T' : Nat → Prop} {b : Bl} (h : Mid es other i T b) (hT : ∀ p, T' p → T p) : Mid es other i T' b := fun p => (h p).imp id fun ⟨a, c⟩ => ⟨a, fun h' => c (hT p h')⟩
theorem Mid.span {es : List Ent} {other : Int} {i : Nat} {T : Nat → Prop} {b : Bl} {x : Rng} (h : Mid es other i T b) (hi : i < es.length) (hx : x ∈ (ent es i).1) : ∀ k, Mid es other i (fun q => T q ∨ (x.1 / 256).toNat ≤ q ∧ q < (x.1 / 256).toNat + k) (span i x b k)
  | 0 => h.weak fun p hp => hp.elim id fun h' => by omega
  | k + 1 => ((h.span hi hx k).touch hi hx).weak fun p hp => by
    rcases hp with hp | hp
    · exact .inl (.inl hp)
    · by_cases e : p = (x.1 / 256).toNat + k
      · exact .inr e
      · exact .inl (.inr (by omega))
theorem Mid.spread {es : List Ent} {other : Int} {i : Nat} (hi : i < es.length) : ∀ (l : List Rng) (T : Nat → Prop) (b : Bl), Mid es other i T b → (∀ x ∈ l, x ∈ (ent es i).1 ∧ 0 ≤ x.1 ∧ x.1 ≤ x.2) → Mid es other i (fun p => T p ∨ ∃ x ∈ l, ∃ r, At p r ∧ x.1 ≤ r ∧ r ≤ x.2) (spreadTo i b l)
  | [], T, b, h, _ => h.weak fun p hp => hp.elim id fun ⟨x, hx, _⟩ => by cases hx
  | x :: l, T, b, h, hl => by
    obtain ⟨h1, h2, h3⟩ := hl x List.mem_cons_self
    refine (Mid.spread hi l _ _ (h.span hi h1 (placesOf x)) fun y hy => hl y (List.mem_cons_of_mem _ hy)).weak fun p hp => ?_
    rcases hp with hp | ⟨y, hy, r, hr, hy1, hy2⟩
    · exact .inl (.inl hp)
    · rcases List.mem_cons.1 hy with rfl | hy
      · refine .inl (.inr ?_)
        unfold At at hr
        unfold placesOf
        omega
      · exact .inr ⟨y, hy, r, hr, hy1, hy2⟩
/-- What is noted of right entries. -/
theorem built_as {es : List Ent} {other : Int} (hr : ∀ e ∈ es, ∀ x ∈ e.1, 0 ≤ x.1 ∧ x.1 ≤ x.2) : ∀ n, n ≤ es.length → ∀ p, AsTo es other (builtTo es n) p n
  | 0, _ => fun p => ⟨fun r _ => rfl, List.Pairwise.nil, (fun j hj => by cases hj), Int.le_refl _, Int.le_refl _⟩
  | n + 1, hn => fun p => by
    have ih := built_as (other := other) hr n (by omega)
    have h := Mid.spread (es := es) (other := other) (i := n) hn (ent es n).1 (fun _ => False) (builtTo es n) (fun q => .inr ⟨ih q, id⟩) (fun x hx => ⟨hx, hr _ (ent_mem hn) x hx⟩) p
    rcases h with h | ⟨⟨h1, h2, h3, h4, h5⟩, h6⟩
    · exact h
    · refine ⟨fun r hrp => ?_, h2, fun j hj => by have := h3 j hj; omega, h4, by show (spreadTo n (builtTo es n) (ent es n).1).whole p ≤ _; omega⟩
      rw [cls_take other r hn, if_neg]
      · exact h1 r hrp
      · intro hin
        obtain ⟨x, hx, hx2⟩ := List.any_eq_true.1 hin
        simp only [Bool.and_eq_true, decide_eq_true_eq] at hx2
        exact h6 (.inr ⟨x, hx, r, hrp, hx2.1, hx2.2⟩)
/-- A place's block. -/
def blkOf (other : Int) (es : List Ent) (p : Nat) : List Int := (List.range 256).map fun k => cls other es ((p : Int) * 256 + (k : Nat))
theorem blk_len (other : Int) (es : List Ent) (p : Nat) : (blkOf other es p).length = 256 := by simp [blkOf]
theorem blk_get (other : Int) (es : List Ent) (p : Nat) {k : Nat} (h : k < 256) : (blkOf other es p)[k]? = some (cls other es ((p : Int) * 256 + (k : Nat))) := by simp [blkOf, h]
def addB (bs : List (List Int)) (t : List Int) : List (List Int) := if t ∈ bs then bs else bs ++ [t]
/-- The unlike blocks of the first p places, as they came. -/
def blksTo (other : Int) (es : List Ent) : Nat → List (List Int)
  | 0 => []
  | p + 1 => addB (blksTo other es p) (blkOf other es p)
def firstTo (other : Int) (es : List Ent) : Nat → List Int
  | 0 => []
  | p + 1 => firstTo other es p ++ [(((blksTo other es p).idxOf (blkOf other es p) : Nat) : Int)]
theorem addB_get {bs : List (List Int)} {t r : List Int} {i : Nat} (h : bs[i]? = some r) : (addB bs t)[i]? = some r := by
  unfold addB
  split
  · exact h
  · rw [List.getElem?_append_left (List.getElem?_eq_some_iff.1 h).1]; exact h
theorem addB_idx (bs : List (List Int)) (t : List Int) : (addB bs t)[bs.idxOf t]? = some t := by
  unfold addB
  split
  · rename_i hin
    rw [List.getElem?_eq_getElem (List.idxOf_lt_length_of_mem hin), List.getElem_idxOf]
  · rename_i hin
    rw [List.idxOf_eq_length hin, List.getElem?_append_right (Nat.le_refl _)]
    simp
theorem blks_up {other : Int} {es : List Ent} {p : Nat} {r : List Int} {i : Nat} : ∀ k, (blksTo other es p)[i]? = some r → (blksTo other es (p + k))[i]? = some r
  | 0 => id
  | k + 1 => fun h => addB_get (blks_up k h)
theorem first_len (other : Int) (es : List Ent) : ∀ p, (firstTo other es p).length = p
  | 0 => rfl
  | p + 1 => by rw [firstTo, List.length_append, first_len other es p]; rfl
theorem blks_len (other : Int) (es : List Ent) : ∀ p, (blksTo other es p).length ≤ p
  | 0 => Nat.le_refl _
  | p + 1 => by
    have := blks_len other es p
    unfold blksTo addB
    split
    · omega
    · simp; omega
theorem blks_all (other : Int) (es : List Ent) : ∀ p, ∀ b ∈ blksTo other es p, ∃ q, q < p ∧ b = blkOf other es q
  | 0 => fun b h => by cases h
  | p + 1 => fun b h => by
    unfold blksTo addB at h
    split at h
    · obtain ⟨q, hq, e⟩ := blks_all other es p b h
      exact ⟨q, by omega, e⟩
    · rcases List.mem_append.1 h with h | h
      · obtain ⟨q, hq, e⟩ := blks_all other es p b h
        exact ⟨q, by omega, e⟩
      · exact ⟨p, by omega, List.mem_singleton.1 h⟩
theorem blks_in (other : Int) (es : List Ent) {q : Nat} : ∀ p, q < p → blkOf other es q ∈ blksTo other es p
  | 0 => fun h => by omega
  | p + 1 => fun h => by
    by_cases e : q = p
    · subst e
      exact List.mem_of_getElem? (addB_idx _ _)
    · have h1 := blks_in other es (q := q) p (by omega)
      unfold blksTo addB
      split
      · exact h1
      · exact List.mem_append_left _ h1
/-- Where a place's block stands. -/
theorem first_at {other : Int} {es : List Ent} {q : Nat} : ∀ p, q < p → ∃ k : Nat, (firstTo other es p)[q]? = some (k : Int) ∧ (blksTo other es p)[k]? = some (blkOf other es q)
  | 0 => fun h => by omega
  | p + 1 => fun h => by
    have hl := first_len other es p
    by_cases e : q = p
    · subst e
      exact ⟨_, by rw [firstTo, List.getElem?_append_right (by omega), hl, Nat.sub_self]; rfl, addB_idx _ _⟩
    · obtain ⟨k, h1, h2⟩ := first_at (other := other) (es := es) (q := q) p (by omega)
      exact ⟨k, by rw [firstTo, List.getElem?_append_left (by omega)]; exact h1, addB_get h2⟩
end Go.Proofs.Ytehchnagjdmdgaa
