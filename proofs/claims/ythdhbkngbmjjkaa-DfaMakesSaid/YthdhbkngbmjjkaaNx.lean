/- The automaton of right expressions, once there are no more than is asked of. Conditions: none but trees in memory. -/
import Derived.Test.YthdhbkngbmjjkaaAw
import Derived.Test.YthdhbkngbmjjkaaGr
namespace Go.Proofs.Ythdhbkngbmjjkaa
open Go.RowKit
theorem BTr.row {w : World} {B d : Nat} {v : Value} {l : List (Tr d)} (h : BTr w B d v l) : ∃ A c, v = .slice A l.length c ∧ l.length ≤ c ∧ c ≤ maxLen ∧ Row3 (IsTr w (fun b => b < w.heap.size) d) w (fun b => b < w.heap.size) A l := by
  obtain ⟨xs, ho, hx⟩ := h
  obtain ⟨A, cp, rfl, h1, h2, h3⟩ := own_arr ho
  refine ⟨A, cp, rfl, h1, h2, fun j u hu => ?_⟩
  obtain ⟨v0, v1, v2, e0, e1, e2, hr⟩ := hx.2 j u hu
  obtain ⟨b, o, eA, ⟨hB, _⟩, hlt, c0⟩ := h3.at e0
  obtain ⟨b', o', eA', _, _, c1⟩ := h3.at e1
  obtain ⟨b'', o'', eA'', _, _, c2⟩ := h3.at e2
  rw [eA] at eA' eA''
  cases eA'
  cases eA''
  exact ⟨b, o, v0, v1, v2, eA, hlt, hlt, c0, by rw [Nat.add_assoc]; exact c1, by rw [Nat.add_assoc]; exact c2, hr.mono fun _ _ h => h⟩
/-- What the automaton of right expressions always is. -/
def Good (s : Bs) : Prop := s.ok ∧ s.fin64 ∧ s.lfs.length ≤ 160 ∧ ∀ z, (nextOf s z).length ≤ 160
theorem rights_all {d : Nat} {l : List (Tr d)} (hc : cntE d l ≤ 160) (hr : rightE d l = true) : ∀ t ∈ l, rightT d t = true := fun t ht => by
  have h1 := cntL_mem (f := fun k => cnt d k) ht
  unfold cntE at hc
  rw [rightT_fits (by omega)]
  exact List.all_eq_true.1 hr t ht
theorem leaves_few {d : Nat} (l : List (Tr d)) : sumL (fun t => leavesT d t) l ≤ cntE d l := sumL_le (leavesT_le d) l
theorem built_good {d : Nat} {l : List (Tr d)} (hc : cntE d l ≤ 160) (hr : rightE d l = true) (hn : l.length ≤ 40) : Good (builtB l) ∧ (builtB l).lfs.length = sumL (fun t => leavesT d t) l := by
  obtain ⟨e1, e2, e3, e4, e5⟩ := buildL_keeps l 0 1 startB startB_ok.1 startB_ok.2.1 startB_ok.2.2 (by simp [startB]) (by omega) (rights_all hc hr)
  have h5 : (builtB l).lfs.length = sumL (fun t => leavesT d t) l := by
    show (buildL 0 l startB).lfs.length = _
    rw [e5]; simp [startB]
  have h6 := leaves_few l
  exact ⟨⟨e1, e2, by omega, fun z => by have := next_len (s := builtB l) e1 (built_tot _) e4 z; omega⟩, h5⟩
set_option maxRecDepth 100000 in
theorem new_right (d : Nat) (A : Option Addr) (c : Nat) (l : List (Tr d)) (search : Bool) (w : World) (h : Row3 (IsTr w (fun b => b < w.heap.size) d) w (fun b => b < w.heap.size) A l) (hc : cntE d l ≤ 160) (hr : rightE d l = true) (hn : l.length ≤ 40) :
    Calls Try.prog 15 #[.bool search, .slice A l.length c] w fun e w' => ∃ g, e = .returned (.tuple #[.pointer (some ⟨g, 0, none⟩), .int .i64 0]) ∧ IsNfa w' g search (builtB l) ∧ Below w.heap.size w w' := by
  refine new_any d A c l search w h hn (rights_all hc hr) _ (fun h7 => ?_) (fun _ w' g b1 b2 H hnb hk _ _ _ _ _ hb => ⟨g, rfl, ⟨_, _, _, _, hnb, hk⟩, hb⟩)
  have := leaves_few l
  omega
theorem next_rng {s : Bs} (ho : s.ok) (z : Int) : ∀ x ∈ nextOf s z, 1 ≤ x ∧ x ≤ s.lfs.length := by
  unfold nextOf
  split
  · intro x hx
    obtain ⟨y, -, hy⟩ := List.mem_flatMap.1 hx
    exact ho.2.1 _ x hy
  · intro x hx
    simp at hx
theorem step_rng {search : Bool} {s : Bs} {m : Int} {l : List Int} (ho : s.ok) : ∀ x ∈ stepB search s m l, 0 ≤ x ∧ x ≤ s.lfs.length := fun x hx => by
  have h := (setB_mem _ x).1 hx
  unfold rawB at h
  rcases List.mem_append.1 h with h | h
  · cases search <;> simp at h
    subst h
    omega
  · obtain ⟨z, -, h⟩ := List.mem_flatMap.1 h
    have := next_rng ho z x (List.mem_filter.1 h).1
    omega
theorem step_few {search : Bool} {s : Bs} {m : Int} {l : List Int} (ho : s.ok) : (stepB search s m l).length ≤ s.lfs.length + 1 := by
  have h := nodup_len (l := stepB search s m l) (k := (List.range (s.lfs.length + 1)).map Int.ofNat) ((setB_lt _).imp fun h => by omega) fun x hx => by
    have h := step_rng ho x hx
    exact List.mem_map.2 ⟨x.toNat, List.mem_range.2 (by omega), by simp; omega⟩
  simpa using h
theorem i64_small {z : Int} (h : -1 ≤ z ∧ z ≤ 1000000) : i64ok z := by unfold i64ok; simp [Lit.wf, IntKind.min, IntKind.max, IntKind.bits, IntKind.signed]; omega
theorem step_i64 {search : Bool} {s : Bs} {m : Int} {l : List Int} (hg : Good s) : ∀ z ∈ stepB search s m l, i64ok z := fun z hz => i64_small (by have := step_rng hg.1 z hz; have := hg.2.2.1; omega)
theorem step_10000 {search : Bool} {s : Bs} {m : Int} {l : List Int} (hg : Good s) : (stepB search s m l).length ≤ 161 := by have := step_few (search := search) (m := m) (l := l) hg.1; have := hg.2.2.1; omega
theorem good_next {s : Bs} (hg : Good s) : ∀ z, (nextOf s z).length ≤ 1000000 := fun z => by have := hg.2.2.2 z; omega
/-- One step of a good automaton. -/
theorem gstep_any (g : Nat) (search : Bool) (s : Bs) (S : Nat → Prop) (v : Value) (l : List Int) (m : Int) (w : World) (h : IsNfa w g search s) (hg : Good s) (hv : IsNums .i64 w S v l) (hok : ∀ z ∈ l, i64ok z) (hl : l.length ≤ 10000) :
    Calls Try.prog 24 #[.pointer (some ⟨g, 0, none⟩), v, .int .i64 m] w fun e w' => ∃ v', e = .returned v' ∧ IsNums .i64 w' (fun b => w.heap.size ≤ b) v' (stepB search s m l) ∧ Below w.heap.size w w' :=
  step_any g search s S v l m w h hg.1 (good_next hg) hv hok hl (by have := hg.2.2.1; omega)
/-- 'append(x, y...)' of numbers, x of one's own. -/
theorem wp_app_nums {w : World} {o : Oper} {a : Act} {Kn : Act → World → Prop} {Q : Exit → Act → World → Prop} (s x : Operand) (ho : o.op = .call { callee := .builtin .append, args := #[s, x], argTypes := #[23, 23] })
    {B : Nat} {v : Value} {xs : List Int} (hs : a.eval s = v) (hown : w.ownsRow B 3 1 v xs.length (xs.map (.int .i64))) {S : Nat → Prop} {A : Option Addr} {c : Nat} {ys : List Int} (hx : a.eval x = .slice A ys.length c) (hy : IsNums .i64 w S (.slice A ys.length c) ys)
    (hl : xs.length + ys.length ≤ 1000000) (hB : B ≤ w.heap.size)
    (hk : ∀ v' w', w'.ownsRow B 3 1 v' (xs ++ ys).length ((xs ++ ys).map (.int .i64)) → Below B w w' → B ≤ w'.heap.size → Kn (a.put o.dst v') w') : Oper.wp Try.prog o a w Kn Q := by
  obtain ⟨i0, hi0, hz0, hz1, hz2⟩ := info_parts info3
  obtain ⟨A', c', e, -, -, hA⟩ := hy
  obtain ⟨rfl, rfl⟩ : A = A' ∧ c = c' := by injection e with e1 e2 e3; exact ⟨e1, e3⟩
  refine wp_app w s x 23 ho B 3 i0 _ 1 8 Try.underlying23 hi0 hz0 hz1 hz2 rfl (by decide) v xs.length (xs.map (.int .i64)) hs hown A ys.length c (ys.map (.int .i64)) hx (hA.src (by simp) (by omega)) (one_nums _ ys) (by simp only [maxLen]; omega) (by omega) hB ?_
  intro v' w' h1 h2 h3
  exact hk v' w' (by simpa using h1) (below_own (Below.refl _ _) hown h2 hB) (Nat.le_trans hB h2.size)
theorem wpList_wants {P : Program} {ops : Array Oper} {Q : Exit → Act → World → Prop} {a : Act} {w : World} {rest : List Oper} {o : Oper} (h : Region.wanted o (yielded ops a.tmps) = true) (hw : o.wp P a w (wpList P ops Q rest) Q) : wpList P ops Q (o :: rest) a w := by
  unfold wpList
  rw [if_pos h]
  exact .inl hw
theorem wpList_app_nums {w : World} {ops : Array Oper} {rest : List Oper} {o : Oper} {a : Act} {Q : Exit → Act → World → Prop} (hgd : Region.wanted o (yielded ops a.tmps) = true) (s x : Operand) (ho : o.op = .call { callee := .builtin .append, args := #[s, x], argTypes := #[23, 23] })
    {B : Nat} {v : Value} {xs : List Int} (hs : a.eval s = v) (hown : w.ownsRow B 3 1 v xs.length (xs.map (.int .i64))) {S : Nat → Prop} {A : Option Addr} {c : Nat} {ys : List Int} (hx : a.eval x = .slice A ys.length c) (hy : IsNums .i64 w S (.slice A ys.length c) ys)
    (hl : xs.length + ys.length ≤ 1000000) (hB : B ≤ w.heap.size)
    (hk : ∀ v' w', w'.ownsRow B 3 1 v' (xs ++ ys).length ((xs ++ ys).map (.int .i64)) → Below B w w' → B ≤ w'.heap.size → wpList Try.prog ops Q rest (a.put o.dst v') w') : wpList Try.prog ops Q (o :: rest) a w :=
  wpList_wants hgd (wp_app_nums s x ho hs hown hx hy hl hB hk)
end Go.Proofs.Ythdhbkngbmjjkaa
