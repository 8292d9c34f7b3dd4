/- What a state of a table tells, and which states come of the first one: the program's Tells and Reached. No conditions but what lies in memory. -/
import Derived.Test.YthdhbkngbmjjkaaEq
import Derived.Test.YthdhbkngbmjjkaaDw
namespace Go.Proofs.Ythdhbkngbmjjkaa
open Go.RowKit
set_option linter.unusedSimpArgs false
def tellsL (d : D) (s : Int) : Int := if stateB d s = true then nth d.tells s.toNat else 0
set_option maxRecDepth 100000 in
set_option maxHeartbeats 1000000 in
theorem dtells_any (S : Nat → Prop) (v : Value) (d : D) (s : Int) (w : World) (h : IsD w S v d) :
    Calls Try.prog 34 #[v, .int .i64 s] w fun e w' => e = .returned (.int .u64 (tellsL d s)) ∧ Below w.heap.size w w' := by
  obtain ⟨nv, tv, rfl, hn, ht⟩ := id h
  obtain ⟨NA, nc, rfl⟩ := hn.form
  obtain ⟨TA, tc, rfl⟩ := ht.form
  obtain ⟨W, hW0⟩ : ∃ W, W = w.alloc (.cells #[.slice NA d.next.length nc, .slice TA d.tells.length tc] 59) := ⟨_, rfl⟩
  have hWb : Below w.heap.size w W := by rw [hW0]; exact (Below.refl _ _).alloc (Nat.le_refl _) _
  have q0 : W.heap[w.heap.size]? = some (.cells #[.slice NA d.next.length nc, .slice TA d.tells.length tc] 59 (0, 0)) := by rw [hW0]; exact heap_alloc_new _ _
  have hcells : ∀ Y, Below W.heap.size W Y → Y.cell? ⟨w.heap.size, 0, none⟩ = some (.slice NA d.next.length nc) ∧ Y.cell? ⟨w.heap.size, 1, none⟩ = some (.slice TA d.tells.length tc) := fun Y hY => by
    have h2 := (hY.block _ (by rw [hW0]; simp)).trans q0
    exact ⟨by rw [cell_of_row _ _ _ _ _ _ h2]; rfl, by rw [cell_of_row _ _ _ _ _ _ h2]; rfl⟩
  have HC := hid hcells
  have HB := hid hWb
  have HD := hid (h.below hWb)
  have HT := hid (ht.below hWb)
  obtain ⟨f1, f2⟩ := hcells W (Below.refl _ _)
  clear hcells q0 hWb h hn ht
  cases hs : stateB d s with
  | false =>
    have hres := hid (show tellsL d s = 0 by unfold tellsL; rw [hs]; rfl)
    have HS := hid hs
    clear hs
    go_enter Try.func34, Try.ntmps34
    go_wp2_with fail
    rw [← hW0]
    clear hW0
    go_wp2_with fail
    refine (state_any S _ d s _ HD.out).mono ?_
    rintro e w1 ⟨rfl, hb1⟩
    rw [HS.out]
    go_wp2_with fail
    go_ret
    exact ⟨ret_int hres.out.symm, HB.out.trans (hb1.mono HB.out.size)⟩
  | true =>
    have hres := hid (show tellsL d s = nth d.tells s.toNat by unfold tellsL; rw [hs]; rfl)
    have hss : 0 ≤ s ∧ s < d.next.length ∧ rightB d = true := by simpa [stateB, and_assoc] using hs
    obtain ⟨hs0, hs1, hr⟩ := hss
    have HR := hid (right_rows hr)
    have HS := hid hs
    have hn1000 := HR.out.1
    obtain ⟨t, rfl⟩ : ∃ t : Nat, s = t := ⟨_, (Int.toNat_of_nonneg hs0).symm⟩
    have htl : t < d.tells.length := by rw [HR.out.2.2.1]; omega
    have htl' : (t : Int) < (d.tells.length : Int) := by omega
    obtain ⟨b, o, c, e0, _, hbm, hcm⟩ := HT.out.at htl
    obtain ⟨rfl, rfl⟩ : TA = some ⟨b, o, none⟩ ∧ tc = c := by simpa using e0
    clear hs hr e0 htl
    go_enter Try.func34, Try.ntmps34
    go_wp2_with fail
    rw [← hW0]
    clear hW0
    go_wp2_with fail
    refine (state_any S _ d t _ HD.out).mono ?_
    rintro e w1 ⟨rfl, hb1⟩
    rw [HS.out]
    obtain ⟨g1, g2⟩ := HC.out w1 hb1
    have hc1 := (hb1.cell (p := ⟨b, o + t, none⟩) hbm).trans hcm
    go_wp2_with fail
    go_ret
    exact ⟨ret_int hres.out.symm, HB.out.trans (hb1.mono HB.out.size)⟩
/-- What comes of the first state. -/
inductive Dch (d : D) : Int → Prop
  | zero : Dch d 0
  | step {t m : Nat} : Dch d (t : Int) → t < d.next.length → m < 37 → Dch d (nth (row d.next t) m)
/-- A table whose rows lead to its states. -/
def RT (rs : List (List Int)) (n : Nat) : Prop := rs.length = n ∧ ∀ p, p < n → (row rs p).length = 37 ∧ ∀ m, m < 37 → 0 ≤ nth (row rs p) m ∧ nth (row rs p) m < n
theorem right_rt {d : D} (h : rightB d = true) : RT d.next d.next.length := by
  obtain ⟨-, -, -, r4⟩ := right_rows h
  exact ⟨rfl, fun p hp => ⟨(r4 _ (row_mem hp)).1, fun m hm => (r4 _ (row_mem hp)).2 _ (nth_mem (by rw [(r4 _ (row_mem hp)).1]; exact hm))⟩⟩
def stp (rs : List (List Int)) (p m : Nat) : Nat := (nth (row rs p) m).toNat
theorem RT.at {rs : List (List Int)} {n p m : Nat} (h : RT rs n) (hp : p < n) (hm : m < 37) : stp rs p m < n ∧ nth (row rs p) m = (stp rs p m : Nat) := by
  obtain ⟨h1, h2⟩ := (h.2 p hp).2 m hm
  have : nth (row rs p) m = (stp rs p m : Nat) := by unfold stp; omega
  exact ⟨by omega, this⟩
def rStep (l : List Int) (z : Int) : List Int := if z ∈ l then l else l ++ [z]
/-- States that are met, the first i of them looked at, of the next one m marks. -/
structure RM (d : D) (l : List Int) (i m : Nat) : Prop where
  nod : l.Nodup
  st : ∀ z ∈ l, ∃ t : Nat, z = t ∧ t < d.next.length
  z : (0 : Int) ∈ l
  cl : ∀ j n, j < l.length → n < 37 → (j < i ∨ j = i ∧ n < m) → nth (row d.next (nth l j).toNat) n ∈ l
  rch : ∀ z ∈ l, Dch d z
theorem RM.start {d : D} (hn : 1 ≤ d.next.length) : RM d [0] 0 0 := ⟨by simp, fun z hz => ⟨0, by simpa using hz, hn⟩, by simp, fun j n h1 h2 h3 => by omega, fun z hz => by rw [List.mem_singleton.1 hz]; exact .zero⟩
theorem RM.next {d : D} {l : List Int} {i : Nat} (h : RM d l i 37) : RM d l (i + 1) 0 := { h with cl := fun j n h1 h2 h3 => h.cl j n h1 h2 (by omega) }
theorem rStep_mem {l : List Int} {z : Int} : z ∈ rStep l z ∧ ∀ y ∈ l, y ∈ rStep l z := by
  unfold rStep
  split
  · rename_i h; exact ⟨h, fun y hy => hy⟩
  · exact ⟨by simp, fun y hy => by simp [hy]⟩
theorem RM.step {d : D} {l : List Int} {i m : Nat} (h : RM d l i m) (hr : RT d.next d.next.length) (hi : i < l.length) (hm : m < 37) : RM d (rStep l (nth (row d.next (nth l i).toNat) m)) i (m + 1) := by
  obtain ⟨t, ht, htn⟩ := h.st _ (nth_mem hi)
  have hrt : Dch d (t : Int) := ht ▸ h.rch _ (nth_mem hi)
  obtain ⟨z, hz⟩ : ∃ z, z = nth (row d.next (nth l i).toNat) m := ⟨_, rfl⟩
  rw [← hz]
  have hzs : ∃ s : Nat, z = s ∧ s < d.next.length := by
    rw [hz, ht]
    exact ⟨_, (hr.at htn hm).2, (hr.at htn hm).1⟩
  have hzr : Dch d z := by
    rw [hz, ht, Int.toNat_natCast]
    exact .step hrt htn hm
  obtain ⟨m1, m2⟩ := rStep_mem (l := l) (z := z)
  have key : ∀ j, j < l.length → nth (rStep l z) j = nth l j := fun j hj => by
    unfold rStep
    split
    · rfl
    · simp [nth, List.getElem?_append_left hj]
  refine ⟨?_, fun y hy => ?_, m2 _ h.z, fun j n h1 h2 h3 => ?_, fun y hy => ?_⟩
  · unfold rStep
    split
    · exact h.nod
    · rename_i hne
      rw [List.nodup_append]
      exact ⟨h.nod, by simp, fun a ha b hb => by
        rw [List.mem_singleton.1 hb]
        exact fun e => hne (e ▸ ha)⟩
  · unfold rStep at hy
    split at hy
    · exact h.st y hy
    · rcases List.mem_append.1 hy with hy | hy
      · exact h.st y hy
      · rw [List.mem_singleton.1 hy]; exact hzs
  · have hj : j < l.length := by omega
    rw [key j hj]
    by_cases e : j = i ∧ n = m
    · obtain ⟨rfl, rfl⟩ := e
      rw [← hz]; exact m1
    · exact m2 _ (h.cl j n hj h2 (by omega))
  · unfold rStep at hy
    split at hy
    · exact h.rch y hy
    · rcases List.mem_append.1 hy with hy | hy
      · exact h.rch y hy
      · rw [List.mem_singleton.1 hy]; exact hzr
theorem RM.size {d : D} {l : List Int} {i m : Nat} (h : RM d l i m) : l.length ≤ d.next.length := by
  have := nodup_len h.nod (k := (List.range d.next.length).map fun (t : Nat) => (t : Int)) fun z hz => by
    obtain ⟨t, rfl, ht⟩ := h.st z hz
    exact List.mem_map.2 ⟨t, List.mem_range.2 ht, rfl⟩
  simpa using this
/-- At the end: just what comes of the first state. -/
theorem RM.all {d : D} {l : List Int} (h : RM d l l.length 0) (z : Int) : z ∈ l ↔ Dch d z := by
  refine ⟨h.rch z, fun hz => ?_⟩
  induction hz with
  | zero => exact h.z
  | @step t m _ ht hm ih =>
    obtain ⟨i, hi⟩ := List.getElem?_of_mem ih
    have hlt := (List.getElem?_eq_some_iff.1 hi).1
    have := h.cl i m hlt hm (.inl hlt)
    rw [nth_some hi, Int.toNat_natCast] at this
    exact this
abbrev BMap (w : World) (b : Nat) (td : List (Int × Unit)) : Prop := MapIs w b (fun z : Int => Value.int .i64 z) i64ok (fun (_ : Unit) u => u = .bool true) td
def ThI (td : List (Int × Unit)) (l : List Int) : Prop := ∀ p, mget td p = some () ↔ p ∈ l
theorem ThI.step {td : List (Int × Unit)} {l : List Int} (h : ThI td l) (z : Int) : ThI (mset td z ()) (l ++ [z]) := fun p => by
  rw [mget_mset, List.mem_append, List.mem_singleton]
  by_cases hp : z = p
  · rw [if_pos hp]; exact ⟨fun _ => .inr hp.symm, fun _ => rfl⟩
  · rw [if_neg hp, h p]
    exact ⟨fun h => .inl h, fun h => h.resolve_right fun e => hp e.symm⟩
abbrev OwnI (w : World) (B : Nat) (v : Value) (l : List Int) : Prop := w.ownsRow B 3 1 v l.length (l.map (.int .i64))
/-- The memory: what was met, in a row of its own, and in a map. -/
structure RcM (w0 : World) (B T : Nat) (w : World) (lv : Value) (l : List Int) (td : List (Int × Unit)) : Prop where
  bel : Below B w0 w
  own : OwnI w B lv l
  map : BMap w T td
  th : ThI td l
  lt : B ≤ T ∧ B ≤ w0.heap.size
section
variable {w0 w w' : World} {B T : Nat} {lv : Value} {l : List Int} {td : List (Int × Unit)}
theorem RcM.size (h : RcM w0 B T w lv l td) : B ≤ w.heap.size := Nat.le_trans h.lt.2 h.bel.size
theorem RcM.grown (h : RcM w0 B T w lv l td) (hb : Below w.heap.size w w') : RcM w0 B T w' lv l td :=
  ⟨h.bel.trans (hb.mono h.size), h.own.kept (grown_of_below hb none) (Classical.em _), h.map.keep (hb.block _ h.map.lt), h.th, h.lt⟩
theorem RcM.note (h : RcM w0 B T w lv l td) {td' : List (Int × Unit)} (hm : BMap w' T td') (hg : w.grownBy w' (some T)) : Below B w0 w' ∧ OwnI w' B lv l ∧ BMap w' T td' :=
  ⟨h.bel.grown hg h.size (fun k hk => by cases hk; exact h.lt.1), h.own.kept hg (.inr (own_map_ne h.own h.map)), hm⟩
end
/-- 'map[K]V{k: v}'. -/
theorem wpList_minsert {P : Program} {kt et : TypeId} {K V : Type} [DecidableEq K] {enc : K → Value} {ok : K → Prop} {R : V → Value → Prop} {w : World} {b : Nat} {m : List (K × V)}
    {ops : Array Oper} {rest : List Oper} {o : Oper} {a : Act} {Q : Exit → Act → World → Prop} (MK : MKey P kt enc ok) (hg : o.guard = none) (x ix v : Operand) (t : TypeId) (hop : o.op = .insert t x ix v) (ht : P.underlying t = some (.map kt et))
    (h : MapIs w b enc ok R m) (k : K) (hk : ok k) (y : V) (u : Value) (hR : R y u) (hx : a.eval x = .map (some b)) (hi : a.eval ix = enc k) (hv : a.eval v = u)
    (hK : ∀ w', MapIs w' b enc ok R (mset m k y) → w.grownBy w' (some b) → wpList P ops Q rest (a.put o.dst undef) w') : wpList P ops Q (o :: rest) a w := by
  refine wpList_plain hg fun K' hK' => ?_
  obtain ⟨w', hrun, r1, r2⟩ := h.update MK ht hk hR
  unfold Oper.wp
  simp [execOp, hop, hx, hi, hv, hrun, Result.andThen]
  exact hK' _ _ (hK w' r1 r2)
/-- 'append(row, z)' of ints, the new number's cell made just before. -/
theorem wpList_app_int {w : World} {ops : Array Oper} {rest : List Oper} {o : Oper} {a : Act} {Q : Exit → Act → World → Prop} (hg : o.guard = none) (s x : Operand) (hop : o.op = .call { callee := .builtin .append, args := #[s, x], argTypes := #[23, 23] }) {B : Nat} {v : Value} {l : List Int} {w0 : World} {z : Int} (hw : w = w0.alloc (.cells #[.int .i64 z] 3))
    (hs : a.eval s = v) (hown : OwnI w0 B v l) (hx : a.eval x = .slice (some ⟨w0.heap.size, 0, none⟩) 1 1) (hl : l.length ≤ 1010000) (hB : B ≤ w0.heap.size)
    (h : ∀ A c w', OwnI w' B (.slice A (l.length + 1) c) (l ++ [z]) → w.grownBy w' v.ownBlock → wpList Try.prog ops Q rest (a.put o.dst (.slice A (l.length + 1) c)) w') : wpList Try.prog ops Q (o :: rest) a w :=
  wpList_plain hg fun _ hK => by
    obtain ⟨i0, hi0, hz0, hz1, hz2⟩ := info_parts info3
    subst hw
    refine wp_app _ s x 23 hop B 3 i0 _ 1 8 Try.underlying23 hi0 hz0 hz1 hz2 rfl (by decide) v _ _ hs (hown.alloc _) (some ⟨w0.heap.size, 0, none⟩) 1 1 _ hx (src_new w0 _ 3 1 rfl) (by simp [Value.oneCell']) (by simp only [maxLen]; omega) (by omega) (by simp; omega) fun v' w' h1 h2 h3 => ?_
    have h1' : OwnI w' B v' (l ++ [z]) := by
      have : (l ++ [z]).length = l.length + 1 := by simp
      show w'.ownsRow B 3 1 v' (l ++ [z]).length ((l ++ [z]).map (.int .i64))
      rw [this]
      simpa using h1
    obtain ⟨A, c, e, _⟩ := own_arr h1'
    rw [List.length_append, List.length_singleton] at e
    subst e
    exact hK _ _ (h A c w' h1' h2)
theorem zero4 (w : World) : (zeroValue 4).run Try.prog w = .ok (.bool false) w := by kernel_rfl
/-- The rows of a right table, as they lie in memory. -/
structure TabN (w : World) (nb no : Nat) (d : D) : Prop where
  rt : RT d.next d.next.length
  n1 : 1 ≤ d.next.length ∧ d.next.length ≤ 1000
  nlt : nb < w.heap.size
  rows : ∀ i, i < d.next.length → ∃ b o c, w.cell? ⟨nb, no + i, none⟩ = some (.slice (some ⟨b, o, none⟩) 37 c) ∧ b < w.heap.size ∧ ∀ m, m < 37 → w.cell? ⟨b, o + m, none⟩ = some (.int .i64 (nth (row d.next i) m))
theorem TabN.below {w w' : World} {nb no : Nat} {d : D} (h : TabN w nb no d) (hb : Below w.heap.size w w') : TabN w' nb no d :=
  { h with
    nlt := Nat.lt_of_lt_of_le h.nlt hb.size
    rows := fun i hi => by
      obtain ⟨b, o, c, h1, h2, h3⟩ := h.rows i hi
      exact ⟨b, o, c, (hb.cell (p := ⟨nb, no + i, none⟩) h.nlt).trans h1, Nat.lt_of_lt_of_le h2 hb.size, fun m hm => (hb.cell (p := ⟨b, o + m, none⟩) h2).trans (h3 m hm)⟩ }
theorem tabN_of {S : Nat → Prop} {w : World} {nv : Value} {d : D} (hn : IsRows w S nv d.next) (hr : rightB d = true) :
    ∃ nb no nc, nv = .slice (some ⟨nb, no, none⟩) d.next.length nc ∧ TabN w nb no d := by
  obtain ⟨r1, r2, r3, r4⟩ := right_rows hr
  obtain ⟨A, cA, vs, rfl, hl, hA, hR⟩ := hn.open
  obtain ⟨nb, no, A', c', rfl, _, hnb, _⟩ := hR.at hA (k := 0) (by omega)
  refine ⟨nb, no, cA, rfl, right_rt hr, ⟨r2, r1⟩, hnb, fun i hi => ?_⟩
  obtain ⟨b, o, A2, c2, e, _, hlt, hc, _, _, _, hA2⟩ := hR.at hA hi
  obtain ⟨rfl, rfl⟩ : nb = b ∧ no = o := by simpa using e
  have hlen := (r4 _ (row_mem hi)).1
  obtain ⟨b2, o2, rfl, _, hb2, _⟩ := hA2.num (j := 0) (by omega)
  refine ⟨b2, o2, c2, by rw [hc, hlen], hb2, fun m hm => ?_⟩
  obtain ⟨b3, o3, e3, _, _, h3⟩ := hA2.num (j := m) (by omega)
  obtain ⟨rfl, rfl⟩ : b2 = b3 ∧ o2 = o3 := by simpa using e3
  exact h3
set_option maxRecDepth 100000 in
set_option maxHeartbeats 1000000 in
theorem reached_no (S : Nat → Prop) (v : Value) (d : D) (w : World) (h : IsD w S v d) (hr : rightB d = false) :
    Calls Try.prog 35 #[v] w fun e w' => e = .returned (.slice none 0 0) ∧ Below w.heap.size w w' := by
  obtain ⟨nv, tv, rfl, hn, ht⟩ := id h
  obtain ⟨NA, nc, rfl⟩ := hn.form
  obtain ⟨TA, tc, rfl⟩ := ht.form
  obtain ⟨W, hW0⟩ : ∃ W, W = w.alloc (.cells #[.slice NA d.next.length nc, .slice TA d.tells.length tc] 59) := ⟨_, rfl⟩
  have HB := hid (show Below w.heap.size w W by rw [hW0]; exact (Below.refl _ _).alloc (Nat.le_refl _) _)
  obtain ⟨f1, f2, -⟩ := slot2 (show W.heap[w.heap.size]? = some (.cells #[.slice NA d.next.length nc, .slice TA d.tells.length tc] 59 (0, 0)) by rw [hW0]; exact heap_alloc_new _ _)
  have HD := hid (h.below HB.out)
  have HR := hid hr
  clear h hn ht hr
  go_enter Try.func35, Try.ntmps35
  go_wp2_with fail
  rw [← hW0]
  clear hW0
  go_wp2_with fail
  refine (right_any S _ d _ HD.out).mono ?_
  rintro e w1 ⟨rfl, hb1⟩
  rw [HR.out]
  have HB1 := hid (HB.out.trans (hb1.mono HB.out.size))
  clear hb1
  go_wp2_with fail
  go_ret
  exact ⟨rfl, HB1.out⟩
def ReachAns (w : World) (d : D) (e : Ending) (w' : World) : Prop := ∃ v l, e = .returned v ∧ RM d l l.length 0 ∧ IsNums .i64 w' (fun b => w.heap.size ≤ b) v (sortB l) ∧ Below w.heap.size w w'
set_option maxRecDepth 100000 in
set_option maxHeartbeats 4000000 in
theorem reached_yes (S : Nat → Prop) (v : Value) (d : D) (w : World) (h : IsD w S v d) (hr : rightB d = true) :
    Calls Try.prog 35 #[v] w (ReachAns w d) := by
  obtain ⟨nv, tv, rfl, hn, ht⟩ := id h
  have HD := hid h
  have HR := hid hr
  obtain ⟨nb, no, nc, rfl, hx⟩ := tabN_of hn hr
  obtain ⟨TA, tc, rfl⟩ := ht.form
  obtain ⟨tl, htl⟩ : ∃ tl, tl = d.tells.length := ⟨_, rfl⟩
  rw [← htl] at HD ⊢
  clear htl
  have HX := hid hx
  obtain ⟨hn0, hn1000⟩ := hx.n1
  obtain ⟨W, hW⟩ : ∃ W, W = w.alloc (.cells #[.slice (some ⟨nb, no, none⟩) d.next.length nc, .slice TA tl tc] 59) := ⟨_, rfl⟩
  have HB0 := hid (show Below w.heap.size w W by rw [hW]; exact (Below.refl _ _).alloc (Nat.le_refl _) _)
  have HL0 := hid (show w.heap.size < W.heap.size by rw [hW]; simp)
  have HP := hid (show W.heap[w.heap.size]? = some (.cells #[.slice (some ⟨nb, no, none⟩) d.next.length nc, .slice TA tl tc] 59 (0, 0)) by rw [hW]; exact heap_alloc_new _ _)
  have HXX := hid (show ∀ Y, Below W.heap.size W Y → Y.cell? ⟨w.heap.size, 0, none⟩ = some (.slice (some ⟨nb, no, none⟩) d.next.length nc) ∧ Y.cell? ⟨w.heap.size, 1, none⟩ = some (.slice TA tl tc) from fun Y hY => by
    obtain ⟨a, b, _⟩ := slot2 ((hY.block _ HL0.out).trans HP.out)
    exact ⟨a, b⟩)
  obtain ⟨x0, x1⟩ := HXX.out W (Below.refl _ _)
  have hmm := @run_makeMap Try.prog
  have HM0 := hid (show ∀ w : World, BMap ((w.alloc (.cells #[.int .i64 0] 3)).alloc (.map #[] 0)) (w.heap.size + 1) [] from fun w => by
    have h := mapIs_new (w.alloc (.cells #[.int .i64 0] 3)) (fun z : Int => Value.int .i64 z) i64ok (fun (_ : Unit) u => u = .bool true)
    simpa using h)
  have HK0 := hid (show i64ok (0 : Int) from i64_small (by omega))
  clear h hr hn ht hx
  go_enter Try.func35, Try.ntmps35
  go_wp2_with fail
  rw [← hW]
  obtain ⟨D0, hD0⟩ : ∃ D0, D0 = w.heap.size := ⟨_, rfl⟩
  have HD0 := hid hD0
  rw [← hD0] at HXX x0 x1 ⊢
  clear hW hD0
  go_wp2_with (first
    | (go_at_call 33; refine (right_any S _ d _ (HD.out.below HB0.out)).mono ?_; rintro e w1 ⟨rfl, hb1⟩; rw [HR.out]; have HB1 := hid hb1; clear hb1)
    | (refine wpList_minsert intKey rfl (.tmp 12) (.const (.int .i64 0)) (.const (.bool true)) 112 rfl Try.underlying112 (HM0.out w1) (0 : Int) HK0.out () _ rfl rfl rfl rfl ?_
       intro w5 hm5 hg5)
    | fail)
  clear hmm x0 x1
  obtain ⟨lb, hlb⟩ : ∃ lb, lb = w1.heap.size := ⟨_, rfl⟩
  have HLB := hid hlb
  rw [← hlb]
  rw [← hlb] at hm5 hg5
  have HS1 := hid (show W.heap.size ≤ lb by rw [hlb]; exact HB1.out.size)
  have HRC0 := hid (show RcM w1 lb (lb + 1) w5 (.slice (some ⟨lb, 0, none⟩) 1 1) [0] (mset [] (0 : Int) ()) from by
    have hz : lb + 2 ≤ w5.heap.size := by have := hg5.size; rw [hlb]; simpa using this
    have h0 : Below lb w1 ((w1.alloc (.cells #[.int .i64 0] 3)).alloc (.map #[] 0)) := by rw [hlb]; exact ((Below.refl _ _).alloc (Nat.le_refl _) _).alloc (by simp) _
    have hc : w5.heap[lb]? = some (.cells #[.int .i64 0] 3 (0, 0)) := by
      rw [hg5.block lb (by rw [hlb]; simp; omega) (fun e => by injection e with e; omega), hlb, heap_alloc_old _ _ (by simp)]
      exact heap_alloc_new _ _
    refine ⟨h0.grown hg5 (by rw [hlb]; simp; omega) (fun k hk => by cases hk; omega), ?_, hm5, ?_, by omega, by rw [hlb]; exact Nat.le_refl _⟩
    · exact (show IntBlk w5 lb 3 .i64 [0] from hc).own (l := [0]) (Nat.le_refl _) (by decide)
    · have h1 : ThI [] ([] : List Int) := fun p => ⟨(fun h => by cases h), (fun h => by cases h)⟩
      exact h1.step 0)
  have HRM0 := hid (show RM d [0] 0 0 from RM.start hn0)
  have HLOW := hid (show ∀ Y, Below lb w1 Y → Y.cell? ⟨D0, 0, none⟩ = some (.slice (some ⟨nb, no, none⟩) d.next.length nc) ∧ Below w.heap.size w Y from fun Y hY => by
    rw [HLB.out] at hY
    have h1 := HB1.out.trans (hY.mono HB1.out.size)
    exact ⟨(HXX.out Y h1).1, HB0.out.trans (h1.mono HB0.out.size)⟩)
  have HSZ := hid (show ∀ l i m, RM d l i m → l.length ≤ d.next.length from fun l i m h => h.size)
  clear hlb hm5 hg5
  go_wp2_with fail
  go_loopw [3, 5] (fun s3 s5 wr => ∃ (i : Nat) (l : List Int) (td : List (Int × Unit)), i ≤ l.length ∧ s5 = .int .i64 i ∧ Hid (RcM w1 lb (lb + 1) wr s3 l td) ∧ Hid (RM d l i 0)) (fun _ s5 _ => d.next.length - (intOf s5).toNat)
  case atStart => exact ⟨0, _, _, by simp, rfl, HRC0, HRM0⟩
  case round =>
    clear HRC0 HRM0
    obtain ⟨i, l, td, hi, rfl, HM, HRM⟩ := hrel
    have hln := HSZ.out _ _ _ HRM.out
    obtain ⟨lA, lC, hlv, -⟩ := own_arr HM.out.own
    subst hlv
    by_cases hlt : i < l.length
    · obtain ⟨q, hq, hqn⟩ := HRM.out.st _ (nth_mem hlt)
      obtain ⟨gb, go', gC, hge, -, -, hgc⟩ := (own_nums HM.out.own).at hlt
      obtain ⟨hgA, hgC⟩ : lA = some ⟨gb, go', none⟩ ∧ lC = gC := by simpa using hge
      subst hgA hgC
      rw [hq] at hgc
      obtain ⟨l0, hbw⟩ := HLOW.out _ HM.out.bel
      obtain ⟨rb, ro, rc, hrow0, hrb, hrc⟩ := HX.out.rows q hqn
      have hrow := (hbw.cell (p := ⟨nb, no + q, none⟩) HX.out.nlt).trans hrow0
      have HRC := hid (show ∀ Y, Below w.heap.size w Y → ∀ m, m < 37 → Y.cell? ⟨rb, ro + m, none⟩ = some (.int .i64 (nth (row d.next q) m)) from fun Y hY m hm => (hY.cell (p := ⟨rb, ro + m, none⟩) hrb).trans (hrc m hm))
      have HQ := hid (show i < l.length ∧ nth l i = (q : Int) from ⟨hlt, hq⟩)
      have hqi : (q : Int) < (d.next.length : Int) := by omega
      have hq0 : 0 ≤ (q : Int) := by omega
      have hii : (i : Int) < (l.length : Int) := by omega
      have hi0 : 0 ≤ (i : Int) := by omega
      clear hq hge hrow0 hrb hrc hbw
      go_wp2_with fail
      go_quiet (fail)
      go_wp2_with fail
      have HM0' := hid (HM.out.grown (below_drewN' wr nq _))
      obtain ⟨wd, hwd⟩ : ∃ wd, wd = wr.drewN nq := ⟨_, rfl⟩
      rw [← hwd] at HM0' ⊢
      clear hwd hrow l0 hgc hii
      go_loopw [3, 29] (fun s3 s29 wr => ∃ (m : Nat) (l : List Int) (td : List (Int × Unit)), m ≤ 37 ∧ s29 = .int .i64 m ∧ Hid (RcM w1 lb (lb + 1) wr s3 l td) ∧ Hid (RM d l i m) ∧ Hid (i < l.length ∧ nth l i = (q : Int))) (fun _ s29 _ => 37 - (intOf s29).toNat)
      case atStart => exact ⟨0, l, td, by omega, rfl, HM0', HRM, HQ⟩
      case round =>
        clear HM0' HM HRM HQ hlt hi hln
        obtain ⟨m, l, td, hm, rfl, HM, HRM, HQ⟩ := hrel
        have hln := HSZ.out _ _ _ HRM.out
        by_cases hlm : m < 37
        · obtain ⟨lA, lC, hlv, -⟩ := own_arr HM.out.own
          subst hlv
          obtain ⟨hzn, e1⟩ := HX.out.rt.at hqn hlm
          have hcz := HRC.out _ (HLOW.out _ HM.out.bel).2 m hlm
          rw [e1] at hcz
          obtain ⟨t, ht⟩ : ∃ t, t = stp d.next q m := ⟨_, rfl⟩
          rw [← ht] at hcz hzn
          have hmi : (m : Int) < 37 := by omega
          have hm0 : 0 ≤ (m : Int) := by omega
          have HOK := hid (show i64ok (t : Int) from i64_small (by omega))
          have HST := hid (show RM d (rStep l (t : Int)) i (m + 1) from by
            have h := HRM.out.step HX.out.rt HQ.out.1 hlm
            rw [HQ.out.2] at h
            have e2 : nth (row d.next ((q : Int)).toNat) m = (t : Int) := by rw [ht]; exact e1
            rw [e2] at h; exact h)
          clear e1 ht
          by_cases hmem : (t : Int) ∈ l
          · have HLK := hid (show mget td (t : Int) = some () from (HM.out.th _).2 hmem)
            have HST2 := hid (show rStep l (t : Int) = l by unfold rStep; rw [if_pos hmem])
            clear hmem
            go_wp2_with (first
              | (at_lookup; refine wpList_mlookup_some false intKey rfl (.tmp 33) (.tmp 34) 112 rfl Try.underlying112 _ (zero4 _) HM.out.map (t : Int) HOK.out rfl rfl () HLK.out ?_; intro u hu; rw [hu])
              | fail)
            go_roundw
            case rel => exact ⟨m + 1, l, td, by omega, by go_num, HM, hid (by have h := HST.out; rw [HST2.out] at h; exact h), HQ⟩
            case measure => simp [intOf]; omega
          · have HLK := hid (show mget td (t : Int) = none from by
              cases h : mget td (t : Int) with
              | none => rfl
              | some u => exact absurd ((HM.out.th _).1 (by rw [h])) hmem)
            have HST2 := hid (show rStep l (t : Int) = l ++ [(t : Int)] by unfold rStep; rw [if_neg hmem])
            clear hmem
            go_wp2_with (first
              | (at_lookup; refine wpList_mlookup_none false intKey rfl (.tmp 33) (.tmp 34) 112 rfl Try.underlying112 _ (zero4 _) HM.out.map (t : Int) HOK.out rfl rfl HLK.out ?_)
              | (at_mapUpdate; refine wpList_mupdate intKey rfl (.tmp 37) (.tmp 38) (.const (.bool true)) 112 rfl Try.underlying112 HM.out.map (t : Int) HOK.out () _ rfl rfl rfl rfl ?_; intro w6 hm6 hg6
                 have HN6 := hid (HM.out.note hm6 hg6)
                 have HZ6 := hid (show lb ≤ w6.heap.size from Nat.le_trans HM.out.size hg6.size))
              | (at_builtin; refine wpList_app_int rfl (.tmp 39) (.tmp 41) rfl (w0 := w6) (z := (t : Int)) rfl rfl HN6.out.2.1 rfl (by omega) HZ6.out ?_
                 intro A7 c7 w7 hown7 hg7)
              | fail)
            have HM7 := hid (show RcM w1 lb (lb + 1) w7 (.slice A7 (l.length + 1) c7) (l ++ [(t : Int)]) (mset td (t : Int) ()) from by
              have hn := HN6.out
              have ho := hn.2.1.alloc (.cells #[.int .i64 (t : Int)] 3)
              have hm := hn.2.2.alloc (.cells #[.int .i64 (t : Int)] 3)
              exact ⟨below_own (hn.1.alloc HZ6.out _) ho hg7 (Nat.le_trans HZ6.out (by simp)), hown7, hm.grown hg7 (Ne.symm (own_map_ne ho hm)), HM.out.th.step (t : Int), HM.out.lt⟩)
            have HQ7 := hid (show i < (l ++ [(t : Int)]).length ∧ nth (l ++ [(t : Int)]) i = (q : Int) from ⟨by have := HQ.out.1; simp; omega, by rw [show nth (l ++ [(t : Int)]) i = nth l i by simp [nth, List.getElem?_append_left HQ.out.1]]; exact HQ.out.2⟩)
            clear hown7 hg7 hm6 hg6
            go_wp2_with fail
            go_roundw
            case rel => exact ⟨m + 1, _, _, by omega, by go_num, HM7, hid (by have h := HST.out; rw [HST2.out] at h; exact h), HQ7⟩
            case measure => simp [intOf]; omega
        · obtain rfl : m = 37 := by omega
          have HRN := hid (show RM d l (i + 1) 0 from HRM.out.next)
          have hi1 := HQ.out.1
          go_wp2_with fail
          go_roundw
          case rel => exact ⟨i + 1, l, td, by omega, by go_num, HM, HRN⟩
          case measure => simp [intOf]; omega
    · obtain rfl : i = l.length := by omega
      have HBD := hid (HLOW.out _ HM.out.bel).2
      have HLE := hid (show w.heap.size ≤ lb from by have := HS1.out; have := HL0.out; omega)
      have HSR := hid (sort_call HM.out.own HM.out.size (by omega))
      go_wp2_with (first
        | (go_at_call 55; refine HSR.out.mono ?_; rintro e w7 ⟨rfl, ho7, hb7⟩; have HO7 := hid ho7; have HB7 := hid hb7; clear ho7 hb7)
        | fail)
      go_ret
      refine ⟨.slice lA l.length lC, l, rfl, HRM.out, ?_, HBD.out.trans (HB7.out.mono HLE.out)⟩
      have h := HO7.out
      rw [← sortB_len l] at h ⊢
      exact (own_nums h).mono fun b hb _ => Nat.le_trans HLE.out hb.1
end Go.Proofs.Ythdhbkngbmjjkaa
