/- Words of this family: a range over a map that a call has made, whatever its elements are. No conditions. -/
import Derived.Test.YtmdkmobcglnmgaaBaseM
import Derived.Maps.RangeWalk
namespace Go.Proofs.Ytmdkmobcglnmgaa
open Go.RowKit Go.WideElems Go.Maps Go.WideShapes

/-- An element read as itself. -/
def asIs (v : Value) : Option (DataW Value × List MemPlace) := some (.held v, [])
/-- A range over block b goes on: which keys are still to come. -/
def RangeIs {K V : Type} (P : Program) (kt : TypeId) (w : World) (b r : Nat) (enc : K → Value) (ok : K → Prop) (R : V → Value → Prop) (m : List (K × V)) (left : K → Bool) (cnt : Nat) : Prop :=
  MapIs w b enc ok R m ∧ ∃ n D L, w.ranges P kt asIs b r n D L cnt ∧ ∀ p ∈ m, ∀ kl, keyOf P kt (enc p.1) = some kl → L kl = left p.1

section
variable {P : Program} {kt et : TypeId} {K V : Type} {enc : K → Value} {ok : K → Prop} {R : V → Value → Prop} {w w' : World} {b r cnt : Nat} {m : List (K × V)} {left : K → Bool}

theorem MapIs.ownsAs (MK : MKey P kt enc ok) (h : MapIs w b enc ok R m) (hl : m.length ≤ maxLen) : ∃ D, w.ownsMap P kt asIs b m.length D := by
  obtain ⟨es, clock, hb, hsz, ho, hok, hel, hborn, huni⟩ := h
  have hat : ∀ e ∈ es.toList, ∃ (i : Nat) (p : K × V), m[i]? = some p ∧ es[i]? = some e ∧ e.key = enc p.1 := by
    intro e he
    obtain ⟨i, hi⟩ := List.getElem?_of_mem he
    have hi' : es[i]? = some e := by rw [← Array.getElem?_toList]; exact hi
    have hlt : i < m.length := by rw [← hsz]; exact (Array.getElem?_eq_some_iff.1 hi').1
    obtain ⟨e', h1, h2, _⟩ := hel i _ _ (List.getElem?_eq_getElem hlt)
    rw [hi'] at h1
    cases h1
    exact ⟨i, m[i], List.getElem?_eq_getElem hlt, hi', h2⟩
  refine ⟨_, es, clock, hb, ⟨by rw [hsz]; exact hl, ⟨fun x hx => ?_, ?_, ?_⟩, fun x hx => ?_⟩, Nat.le_of_eq hsz, rfl⟩
  · obtain ⟨i, p, _, h2, _⟩ := hat x hx
    exact hborn i x h2
  · unfold List.Nodup
    rw [List.pairwise_map, List.pairwise_iff_getElem]
    intro i j hi hj hij e
    simp only [Array.length_toList] at hi hj
    have := huni i j _ _ (Array.getElem?_eq_getElem hi) (Array.getElem?_eq_getElem hj) (by simpa using e)
    omega
  · unfold List.Nodup
    rw [List.pairwise_map, List.pairwise_iff_getElem]
    intro i j hi hj hij e
    simp only [Array.length_toList] at hi hj
    obtain ⟨e1, h1, k1, _⟩ := hel i m[i].1 m[i].2 (List.getElem?_eq_getElem (by omega))
    obtain ⟨e2, h2, k2, _⟩ := hel j m[j].1 m[j].2 (List.getElem?_eq_getElem (by omega))
    rw [Array.getElem?_eq_getElem hi] at h1
    rw [Array.getElem?_eq_getElem hj] at h2
    cases h1
    cases h2
    have := List.pairwise_iff_getElem.1 ho i j (by omega) (by omega) hij
    exact this (MK.inj (by rw [← k1, ← k2]; simpa using e))
  · obtain ⟨i, p, h1, h2, h3⟩ := hat x hx
    obtain ⟨l, hl⟩ := MK.key (hok p (List.mem_of_getElem? h1))
    exact ⟨_, rd_mk (born := x.born) (key := x.key) (val := x.val) (by rw [h3]; exact hl) rfl⟩

theorem MapIs.oks (h : MapIs w b enc ok R m) : ∀ p ∈ m, ok p.1 := by
  obtain ⟨es, clock, hb, hsz, ho, hok, _⟩ := h
  exact hok

/-- What the step finds: an entry. -/
theorem ranges_mem (MK : MKey P kt enc ok) (hm : MapIs w b enc ok R m) {n : Nat} {D : DataW Value} {L : Lit → Bool} (hr : w.ranges P kt asIs b r n D L cnt) {key v : Value} {kl : Lit} {y : DataW Value × List MemPlace}
    (hkey : keyOf P kt key = some kl) (hlk : L kl = true) (hv : asIs v = some y) (hat : ∀ zd, D.atKey kl zd = y.1) : ∃ k u, (k, u) ∈ m ∧ enc k = key ∧ R u v := by
  obtain ⟨es, clock, since, seen, c0, hb, F, hs, hD, hr, _, _, _, hin, _⟩ := hr
  obtain ⟨es', clock', hb', hsz, ho, hok, hel, hborn, huni⟩ := hm
  rw [hb] at hb'
  cases hb'
  obtain ⟨x, hx, hxk⟩ := hin kl hlk
  obtain ⟨i, hi⟩ := List.getElem?_of_mem hx
  have hi' : es[i]? = some x := by rw [← Array.getElem?_toList]; exact hi
  have hlt : i < m.length := by rw [← hsz]; exact (Array.getElem?_eq_some_iff.1 hi').1
  obtain ⟨e', h1, h2, h3⟩ := hel i m[i].1 m[i].2 (List.getElem?_eq_getElem hlt)
  rw [hi'] at h1
  cases h1
  obtain ⟨y', hy'⟩ := F.reads x hx
  have hk' := rd_key hy'
  rw [rg_of hy'] at hxk
  have hke : x.key = key := MK.law.inj (by rw [hk', hxk]) hkey
  refine ⟨m[i].1, m[i].2, List.getElem_mem hlt, by rw [← h2, hke], ?_⟩
  obtain ⟨z, hz, hz2⟩ := rd_val hy'
  have hmem : (kl, z.1) ∈ (es.toList.map (rg P kt asIs)).foldr DataW.insert [] := by
    rw [mem_sorted]
    refine List.mem_map.2 ⟨x, hx, ?_⟩
    rw [rg_of hy', ← hz2, ← hxk]
  have ha := hat .nil
  rw [hD, WideAt.atKey_mem _ (MK.law.key hkey) (((sorted_perm _).pairwise_iff (fun {_ _} hne => Ne.symm hne)).2 (Maps.fit_apart MK.law F)) hmem] at ha
  unfold asIs at hz hv
  cases hz
  cases hv
  injection ha with ha
  rw [← ha]
  exact h3

theorem RangeIs.map (h : RangeIs P kt w b r enc ok R m left cnt) : MapIs w b enc ok R m := h.1
theorem RangeIs.lt (h : RangeIs P kt w b r enc ok R m left cnt) : r < w.heap.size := by
  obtain ⟨_, n, D, L, hr, _⟩ := h
  exact hr.lt
theorem RangeIs.left_eq (h : RangeIs P kt w b r enc ok R m left cnt) : w.rangeLeft b r = cnt := by
  obtain ⟨_, n, D, L, hr, _⟩ := h
  exact hr.left_eq
theorem RangeIs.kept {row : Option Nat} (h : RangeIs P kt w b r enc ok R m left cnt) (hg : w.grownBy w' row) (hb : some b ≠ row) (hr : some r ≠ row) : RangeIs P kt w' b r enc ok R m left cnt := by
  obtain ⟨hm, n, D, L, hrg, hL⟩ := h
  exact ⟨hm.grown hg hb, n, D, L, hrg.kept hg hb hr, hL⟩
theorem RangeIs.below (h : RangeIs P kt w b r enc ok R m left cnt) (hb : Below w.heap.size w w') : RangeIs P kt w' b r enc ok R m left cnt :=
  h.kept (grown_of_below hb none) (by simp) (by simp)

theorem wpList_range_is {ops : Array Oper} {rest : List Oper} {o : Oper} {a : Act} {Q : Exit → Act → World → Prop} (hg : o.guard = none) (mo : Operand) (t : TypeId) (hop : o.op = Op.range t mo) (MK : MKey P kt enc ok) (ht : P.underlying t = some (.map kt et))
    (hm : a.eval mo = .map (some b)) (h : MapIs w b enc ok R m) (hl : m.length ≤ maxLen)
    (hK : ∀ w' cnt, RangeIs P kt w' b w.heap.size enc ok R m (fun _ => true) cnt → w.grownBy w' none → w'.heap.size = w.heap.size + 1 → wpList P ops Q rest (a.put o.dst (.pointer (some ⟨w.heap.size, 0, none⟩))) w') :
    wpList P ops Q (o :: rest) a w := by
  obtain ⟨D, hown⟩ := h.ownsAs MK hl
  refine wpList_range_own w hg mo t hop kt et MK.law ht asIs b m.length D hm hown fun w' hr hgr hsz => ?_
  refine hK w' _ ⟨h.grown hgr (by simp), m.length, D, _, hr, fun p hp kl hkl => ?_⟩ hgr hsz
  obtain ⟨es, clock, hb, hsz', ho, hok, hel, hborn, huni⟩ := h
  obtain ⟨es', clock', hb', F, _, rfl⟩ := hown
  rw [hb] at hb'
  cases hb'
  obtain ⟨i, hi⟩ := List.getElem?_of_mem hp
  obtain ⟨e, he, hek, hev⟩ := hel i p.1 p.2 hi
  rw [Maps.has_eq, List.any_eq_true]
  have hx : e ∈ es.toList := List.mem_of_getElem? (i := i) (by rw [Array.getElem?_toList]; exact he)
  obtain ⟨y', hy'⟩ := F.reads e hx
  have hk' := rd_key hy'
  rw [hek, hkl] at hk'
  injection hk' with hk'
  refine ⟨rg P kt asIs e, mem_sorted.2 (List.mem_map.2 ⟨e, hx, rfl⟩), ?_⟩
  rw [rg_of hy', ← hk']
  exact WideAt.sameKey_self (MK.law.key hkl)

theorem wpList_next_is [DecidableEq K] {ops : Array Oper} {rest : List Oper} {o : Oper} {a : Act} {Q : Exit → Act → World → Prop} (hg : o.guard = none) (it : Operand) (hop : o.op = Op.next it false) (MK : MKey P kt enc ok)
    (hit : a.eval it = .pointer (some ⟨r, 0, none⟩)) (h : RangeIs P kt w b r enc ok R m left cnt)
    (hDone : (∀ p ∈ m, left p.1 = false) → wpList P ops Q rest (a.put o.dst (.tuple #[.bool false])) w)
    (hMore : ∀ (k : K) (v : V) (u : Value) (w' : World) (cnt' : Nat), (k, v) ∈ m → left k = true → R v u → RangeIs P kt w' b r enc ok R m (fun z => left z && !decide (z = k)) cnt' → cnt' < cnt → w.grownBy w' (some r) → w'.heap.size = w.heap.size →
      (Instr.entry (.pointer (some ⟨r, 0, none⟩))).run P w' = .ok (.tuple #[enc k, u]) w' → wpList P ops Q rest (a.put o.dst (.tuple #[.bool true, enc k, u])) w') :
    wpList P ops Q (o :: rest) a w := by
  refine wpList_plain hg fun K' hK' => ?_
  unfold Oper.wp
  obtain ⟨hm, n, D, L, hr, hL⟩ := h
  rcases hr.next MK.law o.type with ⟨h0, hl, hrun⟩ | ⟨key, v, kl, y, w', cnt', hkey, hlk, hv, hat, hrun, hrg, hlt, hgr, hsz, hen⟩
  · simp [execOp, hop, hit, hrun, Result.andThen]
    exact hK' _ _ (hDone fun p hp => by
      obtain ⟨l, hl'⟩ := MK.key (hm.oks p hp)
      rw [← hL p hp _ hl']
      exact hl _)
  · obtain ⟨k, u, hmem, rfl, hR⟩ := ranges_mem MK hm hr hkey hlk hv hat
    simp [execOp, hop, hit, hrun, Result.andThen]
    refine hK' _ _ (hMore k u v w' cnt' hmem (by rw [← hL _ hmem _ hkey]; exact hlk) hR ⟨hm.grown hgr (fun e => hr.ne (by injection e with e; exact e.symm)), n, D, _, hrg, fun p hp kl' hkl' => ?_⟩ hlt hgr hsz hen)
    simp only [hL p hp kl' hkl']
    by_cases e : p.1 = k
    · rw [e] at hkl'
      rw [hkey] at hkl'
      cases hkl'
      rw [WideAt.sameKey_self (MK.law.key hkey)]
      simp [e]
    · have : kl' ≠ kl := fun h' => e (MK.inj (MK.law.inj hkl' (by rw [h']; exact hkey)))
      rw [Maps.sameKey_ne this]
      simp [e]
end
end Go.Proofs.Ytmdkmobcglnmgaa
