/- What laying an expression gives: every place's followers are those of the expression, no more (labels of the knots) and no fewer (in every graph above). Plain. No conditions. -/
import Derived.Test.YthdhbkngbmjjkaaG2
namespace Go.Proofs.Ythdhbkngbmjjkaa
set_option linter.unusedVariables false
/-- All that one graph has another one has, too. -/
def Sub (s H : Bs) : Prop := (∀ p, p < s.lfs.length → H.lfs[p]? = s.lfs[p]?) ∧ s.kns.length ≤ H.kns.length ∧
  ∀ k, (∀ z ∈ (kn s.kns k).free, z ∈ (kn H.kns k).free) ∧ (∀ z ∈ (kn s.kns k).lv, z ∈ (kn H.kns k).lv) ∧ (0 < (kn s.kns k).fin → (kn H.kns k).fin = (kn s.kns k).fin)
theorem Sub.refl (s : Bs) : Sub s s := ⟨fun _ _ => rfl, Nat.le_refl _, fun k => ⟨fun _ h => h, fun _ h => h, fun _ => rfl⟩⟩
theorem lfs_len {s H : Bs} (h : ∀ p, p < s.lfs.length → H.lfs[p]? = s.lfs[p]?) : s.lfs.length ≤ H.lfs.length := by
  by_cases e : s.lfs.length = 0
  · omega
  · have h1 := h (s.lfs.length - 1) (by omega)
    rw [List.getElem?_eq_getElem (by omega : s.lfs.length - 1 < s.lfs.length)] at h1
    have := (List.getElem?_eq_some_iff.1 h1).1
    omega
theorem Sub.trans {a b c : Bs} (h : Sub a b) (h2 : Sub b c) : Sub a c := by
  refine ⟨fun p hp => ?_, Nat.le_trans h.2.1 h2.2.1, fun k => ⟨fun z hz => (h2.2.2 k).1 z ((h.2.2 k).1 z hz), fun z hz => (h2.2.2 k).2.1 z ((h.2.2 k).2.1 z hz), fun h0 => ?_⟩⟩
  · have := lfs_len h.1
    rw [h2.1 p (by omega), h.1 p hp]
  · have h1 := (h.2.2 k).2.2 h0
    rw [(h2.2.2 k).2.2 (by omega), h1]
theorem knot_kn (s : Bs) (k : Nat) : kn s.knot.kns k = kn s.kns k := by
  show kn (s.kns ++ [⟨[], [], 0⟩]) k = _
  rw [kn_snoc]
  split
  · rfl
  · rename_i h
    rw [kn_out (by omega)]
    split <;> rfl
theorem arrow_kn {s : Bs} {f : Nat} (t : Nat) (hf : f < s.kns.length) (k : Nat) : kn (s.arrow f t).kns k = if f = k then ⟨(kn s.kns f).free ++ [(t : Int)], (kn s.kns f).lv, (kn s.kns f).fin⟩ else kn s.kns k := kn_set hf
theorem leaf_kn {s : Bs} {f : Nat} (kd cl : Int) (t : Nat) (hf : f < s.kns.length) (k : Nat) : kn (s.leaf kd cl f t).kns k = if f = k then ⟨(kn s.kns f).free, (kn s.kns f).lv ++ [((s.lfs.length + 1 : Nat) : Int)], (kn s.kns f).fin⟩ else kn s.kns k := kn_set hf
theorem Sub.knot (s : Bs) : Sub s s.knot := ⟨fun _ _ => rfl, by rw [knot_len]; omega, fun k => by rw [knot_kn]; exact ⟨fun _ h => h, fun _ h => h, fun _ => rfl⟩⟩
theorem Sub.arrow {s : Bs} {f t : Nat} (hf : f < s.kns.length) : Sub s (s.arrow f t) := ⟨fun _ _ => rfl, by rw [arrow_len]; exact Nat.le_refl _, fun k => by
  rw [arrow_kn t hf]
  split
  · rename_i e
    subst e
    exact ⟨fun z h => List.mem_append.2 (.inl h), fun _ h => h, fun _ => rfl⟩
  · exact ⟨fun _ h => h, fun _ h => h, fun _ => rfl⟩⟩
theorem Sub.leaf {s : Bs} {f t : Nat} {kd cl : Int} (hf : f < s.kns.length) : Sub s (s.leaf kd cl f t) := ⟨fun p hp => by
  show (s.lfs ++ [_])[p]? = _
  rw [List.getElem?_append_left hp], by rw [leaf_len]; exact Nat.le_refl _, fun k => by
  rw [leaf_kn kd cl t hf]
  split
  · rename_i e
    subst e
    exact ⟨fun _ h => h, fun z h => List.mem_append.2 (.inl h), fun _ => rfl⟩
  · exact ⟨fun _ h => h, fun _ h => h, fun _ => rfl⟩⟩
theorem sub_shut (s0 : Bs) : Shut (Sub s0) := ⟨fun s h => h.trans (Sub.knot s), fun s f t h hf _ => h.trans (Sub.arrow hf), fun s k c f t h hf _ => h.trans (Sub.leaf hf)⟩
/-- Where one stands behind a leaf, in a graph above too. -/
theorem Sub.place {s H : Bs} (h : Sub s H) {p : Nat} (h0 : 0 < p) (hp : p ≤ s.lfs.length) : placeK H p = placeK s p := by
  unfold placeK
  rw [if_neg (by omega), if_neg (by omega), h.1 (p - 1) (by omega)]
theorem Sub.way {s H : Bs} (h : Sub s H) {a b : Nat} (hw : Way s.kns a b) : Way H.kns a b := by
  induction hw with
  | refl => exact .refl _
  | step _ hc ih => exact .step ih ((h.2.2 _).1 _ hc)
theorem Yields.via {H : Bs} {a b : Nat} {x : Int} (hw : Way H.kns a b) (h : Yields H b x) : Yields H a x := by
  obtain ⟨c, hc, hg⟩ := h
  exact ⟨c, hw.trans hc, hg⟩
/-- What one may meet first, if behind it stands what K gives; what behind a place. -/
def Into (g : GS) (K : Int → Prop) (x : Int) : Prop := (∃ q : Nat, g.fst q ∧ x = (q : Int)) ∨ (g.emp ∧ K x)
def After (g : GS) (p : Nat) (K : Int → Prop) (x : Int) : Prop := (∃ q : Nat, g.prs p q ∧ x = (q : Int)) ∨ (g.lst p ∧ K x)
theorem into_seq (a b : GS) (K : Int → Prop) (x : Int) : Into (gSeq a b) K x ↔ Into a (Into b K) x := by
  simp only [Into, gSeq]; grind
theorem into_mono {g : GS} {K L : Int → Prop} (h : ∀ x, K x → L x) {x : Int} (hx : Into g K x) : Into g L x := by
  rcases hx with hx | ⟨h1, h2⟩
  · exact .inl hx
  · exact .inr ⟨h1, h x h2⟩
theorem after_mono {g : GS} {p : Nat} {K L : Int → Prop} (h : ∀ x, K x → L x) {x : Int} (hx : After g p K x) : After g p L x := by
  rcases hx with hx | ⟨h1, h2⟩
  · exact .inl hx
  · exact .inr ⟨h1, h x h2⟩
/-- A label of each knot that holds all that it gives, and what each arrow leads to. -/
def Inv (s : Bs) (lab : Nat → Int → Prop) : Prop := ∀ a, (∀ x, Gives s a x → lab a x) ∧ ∀ b : Nat, (b : Int) ∈ (kn s.kns a).free → ∀ x, lab b x → lab a x
theorem Inv.yields {s : Bs} {lab : Nat → Int → Prop} (h : Inv s lab) {a : Nat} {x : Int} (hy : Yields s a x) : lab a x := by
  obtain ⟨b, hw, hg⟩ := hy
  have hb := (h b).1 x hg
  clear hg
  induction hw with
  | refl => exact hb
  | step _ hc ih => exact ih ((h _).2 _ hc x hb)
def upd (lab : Nat → Int → Prop) (k : Nat) (L : Int → Prop) : Nat → Int → Prop := fun j => if j = k then L else lab j
theorem upd_same (lab : Nat → Int → Prop) (k : Nat) (L : Int → Prop) : upd lab k L k = L := if_pos rfl
theorem upd_other {lab : Nat → Int → Prop} {k j : Nat} {L : Int → Prop} (h : j ≠ k) : upd lab k L j = lab j := if_neg h
theorem gives_knot {s : Bs} {k : Nat} {x : Int} : Gives s.knot k x ↔ Gives s k x := by unfold Gives; rw [knot_kn]
theorem gives_out {s : Bs} {k : Nat} (h : s.kns.length ≤ k) (x : Int) : ¬ Gives s k x := by
  unfold Gives
  rw [kn_out h]
  simp
theorem Inv.knot {s : Bs} {lab : Nat → Int → Prop} (h : Inv s lab) (ho : s.ok) (L : Int → Prop) : Inv s.knot (upd lab s.kns.length L) := fun a => by
  by_cases e : a < s.kns.length
  · rw [upd_other (by omega : a ≠ s.kns.length)]
    refine ⟨fun x hx => (h a).1 x (gives_knot.1 hx), fun b hb x hx => ?_⟩
    rw [knot_kn] at hb
    have := ho.1 a _ hb
    rw [upd_other (by omega)] at hx
    exact (h a).2 b hb x hx
  · refine ⟨fun x hx => absurd (gives_knot.1 hx) (gives_out (by omega) x), fun b hb => ?_⟩
    rw [knot_kn, kn_out (by omega)] at hb
    simp at hb
theorem Inv.arrow {s : Bs} {lab : Nat → Int → Prop} (h : Inv s lab) {f t : Nat} (hf : f < s.kns.length) (hl : ∀ x, lab t x → lab f x) : Inv (s.arrow f t) lab := fun a => by
  unfold Gives
  rw [arrow_kn t hf]
  split
  · rename_i e
    subst e
    refine ⟨fun x hx => (h f).1 x hx, fun b hb x hx => ?_⟩
    rcases List.mem_append.1 hb with hb | hb
    · exact (h f).2 b hb x hx
    · have : b = t := by have := List.mem_singleton.1 hb; omega
      subst this
      exact hl x hx
  · exact h a
theorem Inv.leaf {s : Bs} {lab : Nat → Int → Prop} (h : Inv s lab) {f t : Nat} {kd cl : Int} (hf : f < s.kns.length) (hl : lab f ((s.lfs.length + 1 : Nat) : Int)) : Inv (s.leaf kd cl f t) lab := fun a => by
  unfold Gives
  rw [leaf_kn kd cl t hf]
  split
  · rename_i e
    subst e
    refine ⟨fun x hx => ?_, fun b hb x hx => (h f).2 b hb x hx⟩
    rcases hx with hx | hx
    · rcases List.mem_append.1 hx with hx | hx
      · exact (h f).1 x (.inl hx)
      · rw [List.mem_singleton.1 hx]
        exact hl
    · exact (h f).1 x (.inr hx)
  · exact h a
/-- What a way of laying gives: so many leaves, and just these places. -/
structure Lays (f : Nat → Nat → Bs → Bs) (n : Nat) (g : Nat → GS) : Prop where
  win : ∀ o, (g o).within o n
  sub : ∀ frm to s, frm < s.kns.length → to < s.kns.length → Sub s (f frm to s)
  len : ∀ frm to s, frm < s.kns.length → to < s.kns.length → (f frm to s).lfs.length = s.lfs.length + n
  ok : ∀ frm to s, frm < s.kns.length → to < s.kns.length → s.ok → (f frm to s).ok
  compl : ∀ frm to s H, frm < s.kns.length → to < s.kns.length → Sub (f frm to s) H → (∀ x, Into (g s.lfs.length) (Yields H to) x → Yields H frm x) ∧
    ∀ p x, After (g s.lfs.length) p (Yields H to) x → Yields H (placeK H p) x
  sound : ∀ frm to s lab, frm < s.kns.length → to < s.kns.length → s.ok → Inv s lab → (∀ x, Into (g s.lfs.length) (lab to) x → lab frm x) →
    ∃ lab', (∀ k, k < s.kns.length → lab' k = lab k) ∧ Inv (f frm to s) lab' ∧ ∀ p, s.lfs.length < p → p ≤ s.lfs.length + n → ∀ x, lab' (placeK (f frm to s) p) x → After (g s.lfs.length) p (lab to) x
theorem place_lt {s : Bs} (ho : s.ok) {p : Nat} (h0 : 0 < p) (hp : p ≤ s.lfs.length) : placeK s p < s.kns.length := by
  unfold placeK
  rw [if_neg (by omega), List.getElem?_eq_getElem (by omega : p - 1 < s.lfs.length)]
  have := ho.2.2 _ (List.getElem_mem (by omega : p - 1 < s.lfs.length))
  simp only [Option.getD_some]
  omega
theorem lays_seq {T : Type} {f : T → Nat → Nat → Bs → Bs} {n : T → Nat} {g : T → Nat → GS} : ∀ (l : List T), l ≠ [] → (∀ k ∈ l, Lays (f k) (n k) (g k)) → Lays (layS f l) (sumL n l) (seqG g n l)
  | [], h, _ => absurd rfl h
  | [k], _, h => by
    have hk := h k List.mem_cons_self
    have e : seqG g n [k] = g k := by
      funext o
      show gSeq (g k o) gOne = g k o
      exact gSeq_one _
    rw [e, show sumL n [k] = n k from Nat.add_zero _]
    exact hk
  | k :: k2 :: r, _, h => by
    have hk := h k List.mem_cons_self
    have hr := lays_seq (k2 :: r) (by simp) fun x hx => h x (List.mem_cons_of_mem _ hx)
    have e : ∀ frm to s, layS f (k :: k2 :: r) frm to s = layS f (k2 :: r) s.kns.length to (f k frm s.kns.length s.knot) := fun _ _ _ => rfl
    have eg : ∀ o, seqG g n (k :: k2 :: r) o = gSeq (g k o) (seqG g n (k2 :: r) (o + n k)) := fun _ => rfl
    have en : sumL n (k :: k2 :: r) = n k + sumL n (k2 :: r) := rfl
    have K : ∀ frm to (s : Bs), frm < s.kns.length → to < s.kns.length → frm < s.knot.kns.length ∧ s.kns.length < s.knot.kns.length ∧ s.kns.length < (f k frm s.kns.length s.knot).kns.length ∧ to < (f k frm s.kns.length s.knot).kns.length := fun frm to s h1 h2 => by
      have := knot_len s
      have h3 := (hk.sub frm s.kns.length s.knot (by omega) (by omega)).2.1
      exact ⟨by omega, by omega, by omega, by omega⟩
    refine ⟨fun o => (hk.win o).seq (hr.win _), fun frm to s h1 h2 => ?_, fun frm to s h1 h2 => ?_, fun frm to s h1 h2 ho => ?_, fun frm to s H h1 h2 hs => ?_, fun frm to s lab h1 h2 ho hi hl => ?_⟩
    · obtain ⟨a, b, c, d⟩ := K frm to s h1 h2
      rw [e]
      exact ((Sub.knot s).trans (hk.sub _ _ _ a b)).trans (hr.sub _ _ _ c d)
    · obtain ⟨a, b, c, d⟩ := K frm to s h1 h2
      rw [e, hr.len _ _ _ c d, hk.len _ _ _ a b, en]
      show s.lfs.length + _ + _ = _
      omega
    · obtain ⟨a, b, c, d⟩ := K frm to s h1 h2
      rw [e]
      exact hr.ok _ _ _ c d (hk.ok _ _ _ a b ho.knot)
    · obtain ⟨a, b, c, d⟩ := K frm to s h1 h2
      rw [e] at hs
      have hl1 := hk.len _ _ _ a b
      have hl1' : (f k frm s.kns.length s.knot).lfs.length = s.lfs.length + n k := hl1
      obtain ⟨p1, p2⟩ := hk.compl frm s.kns.length s.knot H a b ((hr.sub _ _ _ c d).trans hs)
      obtain ⟨q1, q2⟩ := hr.compl s.kns.length to (f k frm s.kns.length s.knot) H c d hs
      rw [hl1'] at q1 q2
      rw [eg]
      refine ⟨fun x hx => p1 x (into_mono q1 ((into_seq _ _ _ x).1 hx)), fun p x hx => ?_⟩
      rcases hx with ⟨q, hx | hx | ⟨hx, hx2⟩, rfl⟩ | ⟨⟨hx, hx2⟩ | hx, hx3⟩
      · exact p2 p _ (.inl ⟨q, hx, rfl⟩)
      · exact q2 p _ (.inl ⟨q, hx, rfl⟩)
      · exact p2 p _ (.inr ⟨hx, q1 _ (.inl ⟨q, hx2, rfl⟩)⟩)
      · exact p2 p _ (.inr ⟨hx2, q1 _ (.inr ⟨hx, hx3⟩)⟩)
      · exact q2 p _ (.inr ⟨hx, hx3⟩)
    · obtain ⟨a, b, c, d⟩ := K frm to s h1 h2
      have hl1' : (f k frm s.kns.length s.knot).lfs.length = s.lfs.length + n k := hk.len _ _ _ a b
      rw [e, eg, en]
      rw [eg] at hl
      have hto : upd lab s.kns.length (Into (seqG g n (k2 :: r) (s.lfs.length + n k)) (lab to)) to = lab to := upd_other (by omega)
      have hfr : upd lab s.kns.length (Into (seqG g n (k2 :: r) (s.lfs.length + n k)) (lab to)) frm = lab frm := upd_other (by omega)
      obtain ⟨lab1, a1, a2, a3⟩ := hk.sound frm s.kns.length s.knot (upd lab s.kns.length (Into (seqG g n (k2 :: r) (s.lfs.length + n k)) (lab to))) a b ho.knot (hi.knot ho _) (by
        rw [upd_same, hfr]
        exact fun x hx => hl x ((into_seq _ _ _ x).2 hx))
      have hkl := knot_len s
      have b1 : lab1 to = lab to := (a1 to (by omega)).trans hto
      have b2 : lab1 s.kns.length = Into (seqG g n (k2 :: r) (s.lfs.length + n k)) (lab to) := (a1 _ (by omega)).trans (upd_same _ _ _)
      obtain ⟨lab2, c1, c2, c3⟩ := hr.sound s.kns.length to (f k frm s.kns.length s.knot) lab1 c d (hk.ok _ _ _ a b ho.knot) a2 (by rw [hl1', b1, b2]; exact fun x hx => hx)
      rw [hl1', b1] at c3
      rw [upd_same] at a3
      refine ⟨lab2, fun j hj => ?_, c2, fun p hp1 hp2 x hx => ?_⟩
      · rw [c1 j (by have := (hk.sub _ _ _ a b).2.1; omega), a1 j (by omega)]
        exact upd_other (by omega)
      · by_cases hp : p ≤ s.lfs.length + n k
        · rw [(hr.sub _ _ _ c d).place (by omega) (by omega), c1 _ (place_lt (hk.ok _ _ _ a b ho.knot) (by omega) (by omega))] at hx
          rcases a3 p hp1 hp x hx with ⟨q, h3, rfl⟩ | ⟨h3, ⟨q, h4, rfl⟩ | ⟨h4, h5⟩⟩
          · exact .inl ⟨q, .inl h3, rfl⟩
          · exact .inl ⟨q, .inr (.inr ⟨h3, h4⟩), rfl⟩
          · exact .inr ⟨.inl ⟨h4, h3⟩, h5⟩
        · rcases c3 p (by omega) (by omega) x hx with ⟨q, h3, rfl⟩ | ⟨h3, h4⟩
          · exact .inl ⟨q, .inr (.inl h3), rfl⟩
          · exact .inr ⟨.inr h3, h4⟩
theorem lays_alt {T : Type} {f : T → Nat → Nat → Bs → Bs} {n : T → Nat} {g : T → Nat → GS} : ∀ (l : List T), (∀ k ∈ l, Lays (f k) (n k) (g k)) → Lays (fun frm to s => l.foldl (fun s k => f k frm to s) s) (sumL n l) (altG g n l)
  | [], _ => ⟨fun o => ⟨fun _ h => h.elim, fun _ h => h.elim, fun _ _ h => h.elim⟩, fun _ _ s _ _ => Sub.refl s, fun _ _ _ _ _ => rfl, fun _ _ _ _ _ h => h,
      fun _ _ _ _ _ _ _ => ⟨fun x hx => by rcases hx with ⟨_, h, _⟩ | ⟨h, _⟩ <;> exact h.elim, fun p x hx => by rcases hx with ⟨_, h, _⟩ | ⟨h, _⟩ <;> exact h.elim⟩,
      fun _ _ s lab _ _ _ hi _ => ⟨lab, fun _ _ => rfl, hi, fun p h1 h2 => by have : p ≤ s.lfs.length := h2; omega⟩⟩
  | k :: r, h => by
    have hk := h k List.mem_cons_self
    have hr := lays_alt r fun x hx => h x (List.mem_cons_of_mem _ hx)
    have eg : ∀ o, altG g n (k :: r) o = gAlt (g k o) (altG g n r (o + n k)) := fun _ => rfl
    have en : sumL n (k :: r) = n k + sumL n r := rfl
    have K : ∀ frm to (s : Bs), frm < s.kns.length → to < s.kns.length → frm < (f k frm to s).kns.length ∧ to < (f k frm to s).kns.length := fun frm to s h1 h2 => by
      have h3 := (hk.sub frm to s h1 h2).2.1
      exact ⟨by omega, by omega⟩
    refine ⟨fun o => (hk.win o).alt (hr.win _), fun frm to s h1 h2 => ?_, fun frm to s h1 h2 => ?_, fun frm to s h1 h2 ho => ?_, fun frm to s H h1 h2 hs => ?_, fun frm to s lab h1 h2 ho hi hl => ?_⟩
    · obtain ⟨c, d⟩ := K frm to s h1 h2
      exact (hk.sub _ _ _ h1 h2).trans (hr.sub frm to (f k frm to s) c d)
    · obtain ⟨c, d⟩ := K frm to s h1 h2
      have h3 := hr.len frm to (f k frm to s) c d
      rw [hk.len _ _ _ h1 h2] at h3
      show (r.foldl (fun s k => f k frm to s) (f k frm to s)).lfs.length = _
      rw [h3, en]
      omega
    · obtain ⟨c, d⟩ := K frm to s h1 h2
      exact hr.ok frm to (f k frm to s) c d (hk.ok _ _ _ h1 h2 ho)
    · obtain ⟨c, d⟩ := K frm to s h1 h2
      have hs' : Sub (r.foldl (fun s k => f k frm to s) (f k frm to s)) H := hs
      have hl1 := hk.len _ _ _ h1 h2
      obtain ⟨p1, p2⟩ := hk.compl frm to s H h1 h2 ((hr.sub frm to (f k frm to s) c d).trans hs')
      obtain ⟨q1, q2⟩ := hr.compl frm to (f k frm to s) H c d hs'
      rw [hl1] at q1 q2
      rw [eg]
      refine ⟨fun x hx => ?_, fun p x hx => ?_⟩
      · rcases hx with ⟨q, hx | hx, rfl⟩ | ⟨hx | hx, hx2⟩
        · exact p1 _ (.inl ⟨q, hx, rfl⟩)
        · exact q1 _ (.inl ⟨q, hx, rfl⟩)
        · exact p1 _ (.inr ⟨hx, hx2⟩)
        · exact q1 _ (.inr ⟨hx, hx2⟩)
      · rcases hx with ⟨q, hx | hx, rfl⟩ | ⟨hx | hx, hx2⟩
        · exact p2 p _ (.inl ⟨q, hx, rfl⟩)
        · exact q2 p _ (.inl ⟨q, hx, rfl⟩)
        · exact p2 p _ (.inr ⟨hx, hx2⟩)
        · exact q2 p _ (.inr ⟨hx, hx2⟩)
    · obtain ⟨c, d⟩ := K frm to s h1 h2
      have hl1 := hk.len _ _ _ h1 h2
      rw [eg] at hl ⊢
      rw [en]
      obtain ⟨lab1, a1, a2, a3⟩ := hk.sound frm to s lab h1 h2 ho hi fun x hx => hl x (by
        rcases hx with ⟨q, hx, rfl⟩ | ⟨hx, hx2⟩
        · exact .inl ⟨q, .inl hx, rfl⟩
        · exact .inr ⟨.inl hx, hx2⟩)
      obtain ⟨lab2, c1, c2, c3⟩ := hr.sound frm to (f k frm to s) lab1 c d (hk.ok _ _ _ h1 h2 ho) a2 (by
        rw [hl1, a1 to h2, a1 frm h1]
        intro x hx
        refine hl x ?_
        rcases hx with ⟨q, hx, rfl⟩ | ⟨hx, hx2⟩
        · exact .inl ⟨q, .inr hx, rfl⟩
        · exact .inr ⟨.inr hx, hx2⟩)
      rw [hl1, a1 to h2] at c3
      refine ⟨lab2, fun j hj => ?_, c2, fun p hp1 hp2 x hx => ?_⟩
      · rw [c1 j (by have := (hk.sub _ _ _ h1 h2).2.1; omega), a1 j hj]
      · by_cases hp : p ≤ s.lfs.length + n k
        · have hx' : lab2 (placeK (r.foldl (fun s k => f k frm to s) (f k frm to s)) p) x := hx
          rw [(hr.sub frm to (f k frm to s) c d).place (by omega) (by omega), c1 _ (place_lt (hk.ok _ _ _ h1 h2 ho) (by omega) (by omega))] at hx'
          rcases a3 p hp1 hp x hx' with ⟨q, h3, rfl⟩ | ⟨h3, h4⟩
          · exact .inl ⟨q, .inl h3, rfl⟩
          · exact .inr ⟨.inl h3, h4⟩
        · rcases c3 p (by omega) (by omega) x hx with ⟨q, h3, rfl⟩ | ⟨h3, h4⟩
          · exact .inl ⟨q, .inr h3, rfl⟩
          · exact .inr ⟨.inr h3, h4⟩
/-- The last arrows of a part that may stand more than once, or not at all. -/
def backB (kd : Int) (i o : Nat) (s : Bs) : Bs :=
  let s2 := if kd = 7 then s else s.arrow i o
  if kd = 8 then s2 else s2.arrow o i
theorem back_facts {kd : Int} {i o : Nat} {s : Bs} (hi : i < s.kns.length) (ho : o < s.kns.length) : Sub s (backB kd i o s) ∧ (backB kd i o s).lfs = s.lfs ∧ (s.ok → (backB kd i o s).ok) ∧
    (kd ≠ 7 → (o : Int) ∈ (kn (backB kd i o s).kns i).free) ∧ (kd ≠ 8 → (i : Int) ∈ (kn (backB kd i o s).kns o).free) ∧
    ∀ lab, Inv s lab → (kd ≠ 7 → ∀ x, lab o x → lab i x) → (kd ≠ 8 → ∀ x, lab i x → lab o x) → Inv (backB kd i o s) lab := by
  have m1 : ∀ {s : Bs} {f t : Nat}, f < s.kns.length → (t : Int) ∈ (kn (s.arrow f t).kns f).free := fun hf => by
    rw [arrow_kn _ hf, if_pos rfl]
    exact List.mem_append.2 (.inr (List.mem_singleton.2 rfl))
  unfold backB
  by_cases h7 : kd = 7
  · have h8 : ¬ kd = 8 := by omega
    simp only [if_pos h7, if_neg h8]
    exact ⟨Sub.arrow ho, rfl, fun h => h.arrow ho hi, fun h => absurd h7 h, fun _ => m1 ho, fun lab h _ h2 => h.arrow ho (h2 h8)⟩
  · have a1 := arrow_len s i o
    by_cases h8 : kd = 8
    · simp only [if_neg h7, if_pos h8]
      exact ⟨Sub.arrow hi, rfl, fun h => h.arrow hi ho, fun _ => m1 hi, fun h => absurd h8 h, fun lab h h1 _ => h.arrow hi (h1 h7)⟩
    · simp only [if_neg h7, if_neg h8]
      have ho' : o < (s.arrow i o).kns.length := by omega
      have hi' : i < (s.arrow i o).kns.length := by omega
      exact ⟨(Sub.arrow hi).trans (Sub.arrow ho'), rfl, fun h => (h.arrow hi ho).arrow ho' hi', fun _ => ((Sub.arrow (s := s.arrow i o) (t := i) ho').2.2 i).1 _ (m1 hi), fun _ => m1 ho', fun lab h h1 h2 => (h.arrow hi (h1 h7)).arrow ho' (h2 h8)⟩
theorem often_back (kd : Int) (f : Nat → Nat → Bs → Bs) (frm to : Nat) (s : Bs) : oftenB kd f frm to s = backB kd s.kns.length (s.kns.length + 1) (f s.kns.length (s.kns.length + 1) ((s.knot.knot.arrow frm s.kns.length).arrow (s.kns.length + 1) to)) := rfl
theorem lays_often {kd : Int} (hkd : kd = 6 ∨ kd = 7 ∨ kd = 8) {f : Nat → Nat → Bs → Bs} {n : Nat} {g : Nat → GS} (hk : Lays f n g) : Lays (oftenB kd f) n (fun o => gOft kd (g o)) := by
  have P : ∀ frm to (s : Bs), frm < s.kns.length → to < s.kns.length → ∃ p, p = (s.knot.knot.arrow frm s.kns.length).arrow (s.kns.length + 1) to ∧ p.kns.length = s.kns.length + 2 ∧ p.lfs = s.lfs ∧ Sub s p ∧ (s.ok → p.ok) ∧
      (s.kns.length : Int) ∈ (kn p.kns frm).free ∧ (to : Int) ∈ (kn p.kns (s.kns.length + 1)).free ∧
      ∀ lab, Inv s.knot.knot lab → (∀ x, lab s.kns.length x → lab frm x) → (∀ x, lab to x → lab (s.kns.length + 1) x) → Inv p lab := fun frm to s h1 h2 => by
    have k1 := knot_len s
    have k2 := knot_len s.knot
    have k3 := arrow_len s.knot.knot frm s.kns.length
    have hf : frm < s.knot.knot.kns.length := by omega
    have ho : s.kns.length + 1 < (s.knot.knot.arrow frm s.kns.length).kns.length := by omega
    refine ⟨_, rfl, by rw [arrow_len]; omega, rfl, ((Sub.knot s).trans (Sub.knot s.knot)).trans ((Sub.arrow hf).trans (Sub.arrow ho)), fun h => (h.knot.knot.arrow hf (by omega)).arrow ho (by omega), ?_, ?_, fun lab hi a b => (hi.arrow hf a).arrow ho b⟩
    · refine ((Sub.arrow ho).2.2 frm).1 _ ?_
      rw [arrow_kn _ hf, if_pos rfl]
      exact List.mem_append.2 (.inr (List.mem_singleton.2 rfl))
    · rw [arrow_kn _ ho, if_pos rfl]
      exact List.mem_append.2 (.inr (List.mem_singleton.2 rfl))
  refine ⟨fun o => (hk.win o).oft, fun frm to s h1 h2 => ?_, fun frm to s h1 h2 => ?_, fun frm to s h1 h2 ho => ?_, fun frm to s H h1 h2 hs => ?_, fun frm to s lab h1 h2 ho hi hl => ?_⟩
  all_goals
    obtain ⟨p, hp, plen, plfs, psub, pok, pf1, pf2, pinv⟩ := P frm to s h1 h2
    have hin := (hk.sub s.kns.length (s.kns.length + 1) p (by omega) (by omega)).2.1
    obtain ⟨b1, b2, b3, b4, b5, b6⟩ := back_facts (kd := kd) (i := s.kns.length) (o := s.kns.length + 1) (s := f s.kns.length (s.kns.length + 1) p) (by omega) (by omega)
  · rw [often_back, ← hp]
    exact psub.trans ((hk.sub _ _ _ (by omega) (by omega)).trans b1)
  · rw [often_back, ← hp, b2, hk.len _ _ _ (by omega) (by omega), plfs]
  · rw [often_back, ← hp]
    exact b3 (hk.ok _ _ _ (by omega) (by omega) (pok ho))
  · rw [often_back, ← hp] at hs
    obtain ⟨c1, c2⟩ := hk.compl s.kns.length (s.kns.length + 1) p H (by omega) (by omega) (b1.trans hs)
    rw [plfs] at c1 c2
    have hpH : Sub p H := (hk.sub _ _ _ (by omega) (by omega)).trans (b1.trans hs)
    have e1 : ∀ x, Yields H s.kns.length x → Yields H frm x := fun x h => h.via (.step (.refl _) ((hpH.2.2 _).1 _ pf1))
    have e2 : ∀ x, Yields H to x → Yields H (s.kns.length + 1) x := fun x h => h.via (.step (.refl _) ((hpH.2.2 _).1 _ pf2))
    have e3 : kd ≠ 7 → ∀ x, Yields H (s.kns.length + 1) x → Yields H s.kns.length x := fun h7 x h => h.via (.step (.refl _) ((hs.2.2 _).1 _ (b4 h7)))
    have e4 : kd ≠ 8 → ∀ x, Yields H s.kns.length x → Yields H (s.kns.length + 1) x := fun h8 x h => h.via (.step (.refl _) ((hs.2.2 _).1 _ (b5 h8)))
    refine ⟨fun x hx => e1 x ?_, fun q x hx => ?_⟩
    · rcases hx with ⟨q, h, rfl⟩ | ⟨h | h, hx⟩
      · exact c1 _ (.inl ⟨q, h, rfl⟩)
      · exact c1 _ (.inr ⟨h, e2 x hx⟩)
      · exact e3 (by omega) x (e2 x hx)
    · rcases hx with ⟨y, h | ⟨h6, h, h'⟩, rfl⟩ | ⟨h, hx⟩
      · exact c2 q _ (.inl ⟨y, h, rfl⟩)
      · exact c2 q _ (.inr ⟨h, e4 (by omega) _ (c1 _ (.inl ⟨y, h', rfl⟩))⟩)
      · exact c2 q _ (.inr ⟨h, e2 x hx⟩)
  · have k1 := knot_len s
    obtain ⟨Li, hLi⟩ : ∃ Li : Int → Prop, Li = Into (gOft kd (g s.lfs.length)) (lab to) := ⟨_, rfl⟩
    obtain ⟨Lo, hLo⟩ : ∃ Lo : Int → Prop, Lo = fun x => lab to x ∨ (kd ≠ 8 ∧ ∃ q : Nat, (g s.lfs.length).fst q ∧ x = (q : Int)) := ⟨_, rfl⟩
    have u1 : upd (upd lab s.kns.length Li) (s.kns.length + 1) Lo (s.kns.length + 1) = Lo := upd_same _ _ _
    have u2 : upd (upd lab s.kns.length Li) (s.kns.length + 1) Lo s.kns.length = Li := (upd_other (by omega)).trans (upd_same _ _ _)
    have u3 : ∀ j, j < s.kns.length → upd (upd lab s.kns.length Li) (s.kns.length + 1) Lo j = lab j := fun j hj => (upd_other (by omega)).trans (upd_other (by omega))
    have hinv := (hi.knot ho Li).knot ho.knot Lo
    rw [k1] at hinv
    have hp1 := pinv _ hinv (by rw [u2, u3 _ h1, hLi]; exact hl) (by rw [u1, u3 _ h2, hLo]; exact fun x h => .inl h)
    have hfst : ∀ q : Nat, (g s.lfs.length).fst q → Li (q : Int) := fun q h => by rw [hLi]; exact .inl ⟨q, h, rfl⟩
    have hto : (g s.lfs.length).emp ∨ kd ≠ 7 → ∀ x, lab to x → Li x := fun h x hx => by
      rw [hLi]
      refine .inr ⟨?_, hx⟩
      rcases h with h | h
      · exact .inl h
      · exact .inr (by omega)
    obtain ⟨lab1, a1, a2, a3⟩ := hk.sound s.kns.length (s.kns.length + 1) p _ (by omega) (by omega) (pok ho) hp1 (by
      rw [u1, u2, plfs, hLo]
      intro x hx
      rcases hx with ⟨q, h, rfl⟩ | ⟨h, hx | ⟨_, q, h', rfl⟩⟩
      · exact hfst q h
      · exact hto (.inl h) x hx
      · exact hfst q h')
    rw [plfs, u1] at a3
    have v1 : lab1 s.kns.length = Li := (a1 _ (by omega)).trans u2
    have v2 : lab1 (s.kns.length + 1) = Lo := (a1 _ (by omega)).trans u1
    rw [often_back, ← hp]
    refine ⟨lab1, fun j hj => (a1 j (by omega)).trans (u3 j hj), b6 lab1 a2 (fun h7 => ?_) (fun h8 => ?_), fun q hq1 hq2 x hx => ?_⟩
    · rw [v1, v2, hLo]
      intro x hx
      rcases hx with hx | ⟨_, q, h', rfl⟩
      · exact hto (.inr h7) x hx
      · exact hfst q h'
    · rw [v1, v2, hLo, hLi]
      intro x hx
      rcases hx with ⟨q, h, rfl⟩ | ⟨_, hx⟩
      · exact .inr ⟨h8, q, h, rfl⟩
      · exact .inl hx
    · have hlen := hk.len s.kns.length (s.kns.length + 1) p (by omega) (by omega)
      rw [b1.place (by omega) (by rw [hlen, plfs]; omega)] at hx
      rcases a3 q hq1 hq2 x hx with ⟨y, h, rfl⟩ | ⟨h, h'⟩
      · exact .inl ⟨y, .inl h, rfl⟩
      · rw [hLo] at h'
        rcases h' with h' | ⟨h8, y, h', rfl⟩
        · exact .inr ⟨h, h'⟩
        · exact .inl ⟨y, .inr ⟨by omega, h, h'⟩, rfl⟩
theorem lays_arrow : Lays (fun frm to s => s.arrow frm to) 0 (fun _ => gOne) :=
  ⟨fun o => ⟨fun _ h => h.elim, fun _ h => h.elim, fun _ _ h => h.elim⟩, fun _ _ _ h1 _ => Sub.arrow h1, fun _ _ _ _ _ => rfl, fun _ _ _ h1 h2 ho => ho.arrow h1 h2,
    fun frm to s H h1 h2 hs => ⟨fun x hx => by
      rcases hx with ⟨_, h, _⟩ | ⟨_, h⟩
      · exact h.elim
      · refine h.via (.step (.refl _) ((hs.2.2 frm).1 _ ?_))
        rw [arrow_kn to h1, if_pos rfl]
        exact List.mem_append.2 (.inr (List.mem_singleton.2 rfl)), fun p x hx => by rcases hx with ⟨_, h, _⟩ | ⟨h, _⟩ <;> exact h.elim⟩,
    fun frm to s lab h1 h2 ho hi hl => ⟨lab, fun _ _ => rfl, hi.arrow h1 fun x hx => hl x (.inr ⟨trivial, hx⟩), fun p a b => by omega⟩⟩
theorem lays_leaf (kd cl : Int) : Lays (fun frm to s => s.leaf kd cl frm to) 1 (fun o => gLeaf (o + 1)) := by
  have hl : ∀ frm to (s : Bs), (s.leaf kd cl frm to).lfs.length = s.lfs.length + 1 := fun frm to s => by simp [Bs.leaf]
  have hp : ∀ frm to (s : Bs), placeK (s.leaf kd cl frm to) (s.lfs.length + 1) = to := fun frm to s => by
    unfold placeK
    rw [if_neg (by omega), Nat.add_sub_cancel]
    show (((s.lfs ++ [(kd, cl, (to : Int))])[s.lfs.length]?.getD (0, 0, 0)).2.2).toNat = to
    simp
  refine ⟨fun o => ⟨fun q h => by have : q = o + 1 := h; omega, fun q h => by have : q = o + 1 := h; omega, fun _ _ h => h.elim⟩, fun _ _ _ h1 _ => Sub.leaf h1, fun frm to s _ _ => hl frm to s, fun _ _ _ h1 h2 ho => ho.leaf h1 h2,
    fun frm to s H h1 h2 hs => ⟨fun x hx => ?_, fun p x hx => ?_⟩, fun frm to s lab h1 h2 ho hi hl' => ⟨lab, fun _ _ => rfl, hi.leaf h1 (hl' _ (.inl ⟨_, rfl, rfl⟩)), fun p a b x hx => ?_⟩⟩
  · rcases hx with ⟨q, h, rfl⟩ | ⟨h, _⟩
    · obtain rfl : q = s.lfs.length + 1 := h
      refine ⟨frm, .refl _, .inl ((hs.2.2 frm).2.1 _ ?_)⟩
      rw [leaf_kn kd cl to h1, if_pos rfl]
      exact List.mem_append.2 (.inr (List.mem_singleton.2 rfl))
    · exact h.elim
  · rcases hx with ⟨_, h, _⟩ | ⟨h, hx⟩
    · exact h.elim
    · obtain rfl : p = s.lfs.length + 1 := h
      rw [hs.place (by omega) (by rw [hl]; omega), hp]
      exact hx
  · obtain rfl : p = s.lfs.length + 1 := by omega
    rw [hp] at hx
    exact .inr ⟨rfl, hx⟩
end Go.Proofs.Ythdhbkngbmjjkaa
