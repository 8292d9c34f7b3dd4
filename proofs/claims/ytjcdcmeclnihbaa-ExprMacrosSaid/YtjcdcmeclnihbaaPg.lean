/- One part or several; a class's name read. Conditions: a reader in memory. -/
import Derived.Test.YtjcdcmeclnihbaaPf
namespace Go.Proofs.Ytjcdcmeclnihbaa
open Go.RowKit
set_option linter.unusedSimpArgs false
/-- Expressions as a slice of one's own; what they share with others lies where Sm says. -/
def BQ (w : World) (Sm : Nat → Prop) (B : Nat) (v : Value) (l : List PT) : Prop :=
  ∃ d, ∃ ts : List (Tr d), ∃ xs, w.ownsRow B 45 3 v l.length xs ∧ Laid3 w (fun b => (Sm b ∨ B ≤ b) ∧ v.ownBlock ≠ some b) d xs ts ∧ ts.map (toP d) = l
section
variable {w w' : World} {Sm : Nat → Prop} {B : Nat} {v : Value} {l : List PT}
theorem BQ.lt (h : BQ w Sm B v l) : ∀ k, v.ownBlock = some k → B ≤ k ∧ k < w.heap.size := by
  obtain ⟨d, ts, xs, ho, -⟩ := h
  exact fun k hk => ho.lt k hk
theorem BQ.keep (h : BQ w Sm B v l) (hk : ∀ b, Sm b ∨ B ≤ b → b < w.heap.size → w'.heap[b]? = w.heap[b]?) : BQ w' Sm B v l := by
  obtain ⟨d, ts, xs, ho, hl, he⟩ := h
  refine ⟨d, ts, xs, ?_, hl.imp (fun b hb hlt => hk b hb.1 hlt) fun _ h _ => h, he⟩
  obtain ⟨h1, h2 | ⟨g, cap, cur, e, hg, hh, h3, h4, h5, h6⟩⟩ := ho
  · exact ⟨h1, .inl h2⟩
  · exact ⟨h1, .inr ⟨g, cap, cur, e, hg, (hk g (.inr hg) (Array.getElem?_eq_some_iff.1 hh).1).trans hh, h3, h4, h5, h6⟩⟩
theorem BQ.below (h : BQ w Sm B v l) (hb : Below w.heap.size w w') : BQ w' Sm B v l := h.keep fun b _ hlt => hb.block b hlt
theorem BQ.form (h : BQ w Sm B v l) : ∃ A c, v = .slice A l.length c := by
  obtain ⟨d, ts, xs, ho, -, -⟩ := h
  obtain ⟨A, c, e, -⟩ := own_arr ho
  exact ⟨A, c, e⟩
/-- The slice is a node's parts. -/
theorem BQ.tree (h : BQ w Sm B v l) (k c : Int) : ∃ d, ∃ t : Tr (d + 1), IsTr w (fun b => Sm b ∨ B ≤ b) (d + 1) (.agg #[.int .i64 k, .int .i64 c, v]) t ∧ Tr.kind t = k ∧ Tr.cls t = c ∧ (Tr.kids t).map (toP d) = l := by
  obtain ⟨d, ts, xs, ho, hx, he⟩ := h
  refine ⟨d, ((k, c, ts) : Tr (d + 1)), ?_, rfl, rfl, he⟩
  have hn : ts.length = l.length := by rw [← he, List.length_map]
  rw [← hn] at ho
  obtain ⟨A, cp, rfl, h1, h2, h3⟩ := own_arr ho
  refine ⟨A, cp, rfl, h1, h2, fun j u hu => ?_⟩
  obtain ⟨v0, v1, v2, e0, e1, e2, hr⟩ := hx.2 j u hu
  obtain ⟨b, o, eA, ⟨hB, _⟩, hlt, c0⟩ := h3.at e0
  obtain ⟨b', o', eA', _, _, c1⟩ := h3.at e1
  obtain ⟨b'', o'', eA'', _, _, c2⟩ := h3.at e2
  rw [eA] at eA' eA''
  cases eA'
  cases eA''
  exact ⟨b, o, v0, v1, v2, eA, .inr hB, hlt, c0, by rw [Nat.add_assoc]; exact c1, by rw [Nat.add_assoc]; exact c2, hr.mono fun _ h _ => h.1⟩
theorem BQ.node (h : BQ w Sm B v l) (k c : Int) : IsP w (fun b => Sm b ∨ B ≤ b) (.agg #[.int .i64 k, .int .i64 c, v]) (.mk k c l) := by
  obtain ⟨d, t, h1, rfl, rfl, rfl⟩ := h.tree k c
  exact ⟨d + 1, t, h1, rfl⟩
/-- The first of one's own expressions. -/
theorem BQ.first {p : PT} (h : BQ w Sm B v (p :: l)) : ∃ b o c v0 v1 v2, v = .slice (some ⟨b, o, none⟩) (l.length + 1) c ∧ w.cell? ⟨b, o, none⟩ = some v0 ∧ w.cell? ⟨b, o + 1, none⟩ = some v1 ∧ w.cell? ⟨b, o + 2, none⟩ = some v2 ∧ b < w.heap.size ∧ IsP w (fun b => Sm b ∨ B ≤ b) (.agg #[v0, v1, v2]) p := by
  obtain ⟨d, t, ⟨A, c, ev, h3, h4, row⟩, -, -, h2⟩ := h.tree 0 0
  obtain ⟨A', c', ef⟩ := h.form
  cases hkd : Tr.kids t with
  | nil => rw [hkd] at h2; cases h2
  | cons u us =>
    rw [hkd, List.map_cons] at h2
    injection h2 with e1 e2
    rw [hkd] at row
    obtain ⟨b, o, v0, v1, v2, ea, -, hb, c0, c1, c2, ht⟩ := row 0 u rfl
    rw [Nat.zero_mul, Nat.add_zero] at c0 c1 c2
    subst ea
    refine ⟨b, o, c', v0, v1, v2, ?_, c0, c1, c2, hb, d, u, ht, e1⟩
    rw [ef] at ev ⊢
    injection ev with ev
    have h5 := congrArg (fun a : Array Value => a[2]?) ev
    simp at h5
    rw [h5.1, List.length_cons]
end
theorem IsP.put3 {w : World} {S : Nat → Prop} {v : Value} {p : PT} (h : IsP w S v p) {g : Nat} (hg : ∀ b, S b → b ≠ g) (u0 u1 u2 : Value) : IsP (put3w w g u0 u1 u2) S v p :=
  h.imp (fun b hb _ => by
    unfold put3w
    rw [heap_setCell_other _ _ _ _ (hg b hb), heap_setCell_other _ _ _ _ (hg b hb), heap_setCell_other _ _ _ _ (hg b hb)]) fun _ h _ => h
theorem below_put3 {w X : World} {g B : Nat} (h : Below B w X) (hg : B ≤ g) (u0 u1 u2 : Value) : Below B w (put3w X g u0 u1 u2) :=
  ((h.setCell (p := ⟨g, 0, none⟩) hg u0).setCell (p := ⟨g, 1, none⟩) hg u1).setCell (p := ⟨g, 2, none⟩) hg u2
set_option maxRecDepth 100000 in
set_option maxHeartbeats 1000000 in
theorem onep_any {w : World} {Sm : Nat → Prop} {B : Nat} {v : Value} {l : List PT} (k : Int) (h : BQ w Sm B v l) (hn : l ≠ []) (hl : l.length ≤ 200000) :
    Calls Try.prog 80 #[.int .i64 k, v] w fun e w' => ∃ u, e = .returned u ∧ IsP w' (fun b => (Sm b ∨ B ≤ b) ∧ b < w.heap.size) u (oneP k l) ∧ Below w.heap.size w w' := by
  obtain ⟨X, hX⟩ : ∃ X, X = w.alloc (.cells nodeC 45) := ⟨_, rfl⟩
  have HX := hid hX
  have HBX := hid (show Below w.heap.size w X by rw [hX]; exact (Below.refl _ _).alloc (Nat.le_refl _) _)
  obtain ⟨g, hg⟩ : ∃ g, g = w.heap.size := ⟨_, rfl⟩
  have HXB := hid (show X.heap[g]? = some (.cells #[.int .i64 0, .int .i64 0, .slice none 0 0] 45 (0, 0)) by rw [hg, hX]; exact heap_alloc_new _ _)
  have HGE := hid hg
  obtain ⟨y0, y1, y2, yf⟩ := slot3 HXB.out
  have yf0 := yf 0
  have yf1 := yf 1
  have yf2 := yf 2
  clear hg yf hX
  cases l with
  | nil => exact absurd rfl hn
  | cons p l =>
    cases l with
    | nil =>
      obtain ⟨b, o, c, v0, v1, v2, rfl, c0, c1, c2, hb, hp⟩ := h.first
      obtain ⟨kd, cl, A, n, cp, ev⟩ := show ∃ k c A n cp, (Value.agg #[v0, v1, v2]) = .agg #[.int .i64 k, .int .i64 c, .slice A n cp] from by
        obtain ⟨A, c, e⟩ := hp.form
        exact ⟨_, _, _, _, _, e⟩
      obtain ⟨rfl, rfl, rfl⟩ : v0 = .int .i64 kd ∧ v1 = .int .i64 cl ∧ v2 = .slice A n cp := by injection ev with ev; simpa using ev
      have HP := hid (show IsP X (fun b => (Sm b ∨ B ≤ b) ∧ b < w.heap.size) (.agg #[.int .i64 kd, .int .i64 cl, .slice A n cp]) p from (hp.mono fun b h1 h2 => ⟨h1, h2⟩).below HBX.out)
      have hx0 := (HBX.out.cell (p := ⟨b, o, none⟩) hb).trans c0
      have hx1 := (HBX.out.cell (p := ⟨b, o + 1, none⟩) hb).trans c1
      have hx2 := (HBX.out.cell (p := ⟨b, o + 2, none⟩) hb).trans c2
      clear ev hp h c0 c1 c2
      go_enter Try.func80, Try.ntmps80
      go_wp2_with (first
        | (refine wpList_alloc_of rfl 45 rfl (.agg nodeC) zero45 ?_; rw [show (Value.agg nodeC).cells = nodeC from rfl, ← HX.out, ← HGE.out])
        | fail)
      exact ret_node (p := 4) rfl rfl HXB.out rfl ⟨_, rfl, HP.out.put3 (fun b hb => by have := HGE.out; omega) _ _ _, below_put3 HBX.out (Nat.le_of_eq HGE.out.symm) _ _ _⟩
    | cons q l =>
      obtain ⟨A, c, rfl⟩ := h.form
      have HP := hid (show IsP X (fun b => (Sm b ∨ B ≤ b) ∧ b < w.heap.size) (.agg #[.int .i64 k, .int .i64 0, .slice A (p :: q :: l).length c]) (oneP k (p :: q :: l)) from ((h.node k 0).mono fun b h1 h2 => ⟨h1, h2⟩).below HBX.out)
      obtain ⟨m, hm⟩ : ∃ m, m = (p :: q :: l).length := ⟨_, rfl⟩
      have hm2 : ¬ (m : Int) = 1 := by rw [hm]; simp; omega
      have hm3 : (m : Int) ≤ 200000 := by rw [hm]; omega
      rw [← hm] at HP ⊢
      clear hm h hl hn
      go_enter Try.func80, Try.ntmps80
      go_wp2_with (first
        | (refine wpList_alloc_of rfl 45 rfl (.agg nodeC) zero45 ?_; rw [show (Value.agg nodeC).cells = nodeC from rfl, ← HX.out, ← HGE.out])
        | fail)
      exact ret_node (p := 4) rfl rfl HXB.out rfl ⟨_, rfl, HP.out.put3 (fun b hb => by have := HGE.out; omega) _ _ _, below_put3 HBX.out (Nat.le_of_eq HGE.out.symm) _ _ _⟩
/-- What a reader's function leaves. -/
def PostR (Sm : Nat → Prop) (w : World) (r : Nat) (s : ByteArray) (kv : Value) (op bad : Int) (res : Res PT) (e : Ending) (w' : World) : Prop :=
  w.grownBy w' (some r) ∧ ∃ v, e = .returned v ∧ match res with
  | .ok t q => IsP w' (fun b => Sm b ∨ w.heap.size ≤ b) v t ∧ ∃ a' : Nat, a' ≤ s.size ∧ (bsOf s).drop a' = q ∧ Rd w' r s kv a' op bad 0
  | .no q x => x ≠ 0 ∧ (∃ t, IsP w' (fun b => Sm b ∨ w.heap.size ≤ b) v t) ∧ ∃ a' op' : Int, Rd w' r s kv a' op' ((s.size : Int) - (q.length : Int)) x
theorem drop_at {s : ByteArray} {a : Nat} {q : Bs} (ha : a ≤ s.size) (h : (bsOf s).drop a = q) : (a : Int) = (s.size : Int) - (q.length : Int) := by
  have := congrArg List.length h
  rw [List.length_drop, bsOf_len] at this
  omega
theorem hd_cons {l : Bs} (h : hd l ≠ 0) : ∃ q, l = hd l :: q := by
  cases l with
  | nil => exact absurd rfl h
  | cons c l => exact ⟨l, rfl⟩
set_option maxRecDepth 100000 in
set_option maxHeartbeats 1000000 in
theorem rclass_any {Sm : Nat → Prop} {w : World} {r : Nat} {s : ByteArray} {kv : Value} {op bad : Int} (k : Int) (a : Nat) (h : Rd w r s kv a op bad 0) (ha : a ≤ s.size) (hs : s.size ≤ 100000) :
    Calls Try.prog 108 #[.pointer (some ⟨r, 0, none⟩), .int .i64 k] w (PostR Sm w r s kv op bad (classF numB k ((bsOf s).drop a))) := by
  obtain ⟨X, hX⟩ : ∃ X, X = w.alloc (.cells nodeC 45) := ⟨_, rfl⟩
  have HX := hid hX
  obtain ⟨g, hg⟩ : ∃ g, g = w.heap.size := ⟨_, rfl⟩
  have HXB := hid (show X.heap[g]? = some (.cells #[.int .i64 0, .int .i64 0, .slice none 0 0] 45 (0, 0)) by rw [hg, hX]; exact heap_alloc_new _ _)
  have HGE := hid hg
  have HGX := hid (show w.grownBy X (some r) by rw [hX]; exact World.grownBy_alloc _ _ _)
  have HRX := hid (show Rd X r s kv a op bad 0 by rw [hX]; exact h.alloc _)
  have HNE := hid (show g ≠ r by have := h.lt; omega)
  have HOLD := hid (show ∀ Y : World, X.grownBy Y (some r) → Y.heap[g]? = some (.cells #[.int .i64 0, .int .i64 0, .slice none 0 0] 45 (0, 0)) from fun Y hY => (hY.block g (Array.getElem?_eq_some_iff.1 HXB.out).1 (by have := HNE.out; simpa using this)).trans HXB.out)
  obtain ⟨l, hl⟩ : ∃ l, l = skip ((bsOf s).drop a) := ⟨_, rfl⟩
  have HCF := hid (show classF numB k ((bsOf s).drop a) = if isL (hd l) = true then (match numB (nmOf l) with
    | some c => .ok (.mk k c []) (rsOf l)
    | none => .no l 5) else .no l 4 by rw [hl]; rfl)
  have HL := hid hl
  clear hX hg h hl
  go_enter Try.func108, Try.ntmps108
  go_wp2_with (first
    | (refine wpList_alloc_of rfl 45 rfl (.agg nodeC) zero45 ?_; rw [show (Value.agg nodeC).cells = nodeC from rfl, ← HX.out, ← HGE.out])
    | fail)
  refine (peek_any a HRX.out ha hs).mono ?_
  rintro x w1 ⟨rfl, hcb, a1, ha1, ha2, hd1, hr1, hg1⟩
  rw [← HL.out] at hcb hd1 ⊢
  have HR1 := hid hr1
  have HG1 := hid hg1
  have HD1 := hid hd1
  clear hr1 hg1 hd1
  go_wp2_with fail
  refine (letter_any (hd l) w1 hcb).mono ?_
  rintro x w2 ⟨rfl, h2⟩
  rw [h2]
  clear h2 w2
  obtain ⟨-, c1, -⟩ := HR1.out.cells
  cases hlt : isL (hd l) with
  | false =>
    have HRES := hid (HCF.out.trans (if_neg (by rw [hlt]; simp)))
    clear hlt
    go_wp2_with fail
    refine (fail_any (a1 : Int) 4 HR1.out).mono ?_
    rintro x w3 ⟨rfl, hr3, hg3⟩
    have HR3 := hid hr3
    have HG3 := hid (HG1.out.trans hg3)
    clear hr3 hg3 c1
    have HB3 := hid (HOLD.out w3 HG3.out)
    obtain ⟨y0, y1, y2, yf⟩ := slot3 HB3.out
    have yf0 := yf 0
    have yf1 := yf 1
    have yf2 := yf 2
    clear yf
    unfold nodeV nodeC
    go_wp2_with fail
    refine ret_node (p := 4) rfl rfl HB3.out rfl ?_
    rw [HRES.out]
    exact ⟨grown_put3 (HGX.out.trans HG3.out) (Nat.le_of_eq HGE.out.symm) _ _ _, _, rfl, by decide, ⟨_, IsP.leaf _ _ 0 0⟩, _, _, by rw [← drop_at ha2 HD1.out]; exact HR3.out.put3 HNE.out.symm _ _ _⟩
  | true =>
    have HRES := hid (HCF.out.trans (if_pos hlt))
    clear hlt
    go_wp2_with fail
    refine (name_any a1 HR1.out ha2 hs).mono ?_
    rintro x w3 ⟨z, rfl, hz, a3, ha3, ha4, hd3, hr3, hg3⟩
    rw [HD1.out] at hz hd3
    have HZ := hid hz
    have HR3 := hid hr3
    have HG3 := hid (HG1.out.trans hg3)
    have HD3 := hid hd3
    clear hz hr3 hg3 hd3 c1
    go_wp2_with fail
    refine (number_any z w3).mono ?_
    rintro x w4 ⟨c, b, rfl, hnum, hb4⟩
    rw [HZ.out] at hnum
    have HR4 := hid (HR3.out.below hb4)
    have HG4 := hid (show X.grownBy w4 (some r) from HG3.out.trans (grown_of_below hb4 _))
    have HNUM := hid hnum
    clear hnum hb4
    have HB4 := hid (HOLD.out w4 HG4.out)
    obtain ⟨y0, y1, y2, yf⟩ := slot3 HB4.out
    have yf0 := yf 0
    have yf1 := yf 1
    have yf2 := yf 2
    cases b with
    | true =>
      have HRES2 := hid (show classF numB k ((bsOf s).drop a) = .ok (.mk k c []) (rsOf l) by rw [HRES.out, HNUM.out]; rfl)
      clear yf
      go_wp2_with fail
      refine ret_node (p := 4) rfl rfl HB4.out rfl ?_
      rw [HRES2.out]
      exact ⟨grown_put3 (HGX.out.trans HG4.out) (Nat.le_of_eq HGE.out.symm) _ _ _, _, rfl, IsP.leaf _ _ k c, a3, ha4, HD3.out, HR4.out.put3 HNE.out.symm _ _ _⟩
    | false =>
      have HRES2 := hid (show classF numB k ((bsOf s).drop a) = .no l 5 by rw [HRES.out, HNUM.out]; rfl)
      clear y0 y1 y2 yf0 yf1 yf2 yf
      go_wp2_with fail
      refine (fail_any (a1 : Int) 5 HR4.out).mono ?_
      rintro x w5 ⟨rfl, hr5, hg5⟩
      have HR5 := hid hr5
      have HG5 := hid (HG4.out.trans hg5)
      clear hr5 hg5
      have HB5 := hid (HOLD.out w5 HG5.out)
      obtain ⟨y0, y1, y2, yf⟩ := slot3 HB5.out
      have yf0 := yf 0
      have yf1 := yf 1
      have yf2 := yf 2
      clear yf
      unfold nodeV nodeC
      go_wp2_with fail
      refine ret_node (p := 4) rfl rfl HB5.out rfl ?_
      rw [HRES2.out]
      exact ⟨grown_put3 (HGX.out.trans HG5.out) (Nat.le_of_eq HGE.out.symm) _ _ _, _, rfl, by decide, ⟨_, IsP.leaf _ _ 0 0⟩, _, _, by rw [← drop_at ha2 HD1.out]; exact HR5.out.put3 HNE.out.symm _ _ _⟩
end Go.Proofs.Ytjcdcmeclnihbaa
