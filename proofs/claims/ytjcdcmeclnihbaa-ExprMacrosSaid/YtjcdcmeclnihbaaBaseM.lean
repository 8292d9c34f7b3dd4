/- Words of this family: a map that a call has made, as a list of keys and elements, in the order in which they came. No conditions. -/
import Derived.Test.YtjcdcmeclnihbaaBaseB
import Derived.Maps.Own
import Derived.Maps.OwnOps
import Derived.Maps.OwnSet
import Derived.Maps.Keyed
namespace Go.Proofs.Ytjcdcmeclnihbaa
open Go.RowKit

section plain
variable {K V : Type} [DecidableEq K]
def mget : List (K × V) → K → Option V
  | [], _ => none
  | (a, v) :: r, k => if a = k then some v else mget r k
def mset : List (K × V) → K → V → List (K × V)
  | [], k, v => [(k, v)]
  | (a, u) :: r, k, v => if a = k then (a, v) :: r else (a, u) :: mset r k v
def mdel : List (K × V) → K → List (K × V)
  | [], _ => []
  | (a, u) :: r, k => if a = k then r else (a, u) :: mdel r k
/-- No key twice. -/
def Once (m : List (K × V)) : Prop := m.Pairwise fun p q => p.1 ≠ q.1

theorem mget_none {m : List (K × V)} {k : K} (h : ∀ p ∈ m, p.1 ≠ k) : mget m k = none := by
  induction m with
  | nil => rfl
  | cons p r ih =>
    obtain ⟨a, v⟩ := p
    have : a ≠ k := h (a, v) (by simp)
    simp only [mget, if_neg this]
    exact ih fun q hq => h q (List.mem_cons_of_mem _ hq)
theorem mget_none_iff {m : List (K × V)} {k : K} : mget m k = none ↔ ∀ p ∈ m, p.1 ≠ k := by
  refine ⟨fun h => ?_, mget_none⟩
  induction m with
  | nil => intro p hp; cases hp
  | cons p r ih =>
    obtain ⟨a, v⟩ := p
    simp only [mget] at h
    split at h
    · cases h
    · rename_i hn
      intro q hq
      rcases List.mem_cons.1 hq with rfl | hq
      · exact hn
      · exact ih h q hq
theorem mget_mem {m : List (K × V)} {k : K} {v : V} (h : mget m k = some v) : (k, v) ∈ m := by
  induction m with
  | nil => cases h
  | cons p r ih =>
    obtain ⟨a, u⟩ := p
    simp only [mget] at h
    split at h
    · rename_i e; cases h; rw [e]; exact List.mem_cons_self
    · exact List.mem_cons_of_mem _ (ih h)
theorem mget_of_mem {m : List (K × V)} (ho : Once m) {k : K} {v : V} (h : (k, v) ∈ m) : mget m k = some v := by
  induction m with
  | nil => cases h
  | cons p r ih =>
    obtain ⟨a, u⟩ := p
    obtain ⟨h1, h2⟩ := List.pairwise_cons.1 ho
    simp only [mget]
    rcases List.mem_cons.1 h with e | hr
    · cases e; rw [if_pos rfl]
    · rw [if_neg (h1 _ hr)]; exact ih h2 hr
theorem mget_at {m : List (K × V)} (ho : Once m) {j : Nat} {k : K} {v : V} (h : m[j]? = some (k, v)) : mget m k = some v := mget_of_mem ho (List.mem_of_getElem? h)
theorem mset_new {m : List (K × V)} {k : K} (v : V) (h : ∀ p ∈ m, p.1 ≠ k) : mset m k v = m ++ [(k, v)] := by
  induction m with
  | nil => rfl
  | cons p r ih =>
    obtain ⟨a, u⟩ := p
    have : a ≠ k := h (a, u) (by simp)
    simp only [mset, if_neg this, List.cons_append]
    rw [ih fun q hq => h q (List.mem_cons_of_mem _ hq)]
theorem mset_old {m : List (K × V)} (ho : Once m) {j : Nat} {k : K} {u : V} (h : m[j]? = some (k, u)) (v : V) : mset m k v = m.set j (k, v) := by
  induction m generalizing j with
  | nil => simp at h
  | cons p r ih =>
    obtain ⟨a, u'⟩ := p
    obtain ⟨h1, h2⟩ := List.pairwise_cons.1 ho
    cases j with
    | zero => simp at h; obtain ⟨rfl, rfl⟩ := h; simp [mset]
    | succ j =>
      simp at h
      have : a ≠ k := h1 _ (List.mem_of_getElem? h)
      simp only [mset, if_neg this, List.set_cons_succ]
      rw [ih h2 h]
theorem mdel_new {m : List (K × V)} {k : K} (h : ∀ p ∈ m, p.1 ≠ k) : mdel m k = m := by
  induction m with
  | nil => rfl
  | cons p r ih =>
    obtain ⟨a, u⟩ := p
    have : a ≠ k := h (a, u) (by simp)
    simp only [mdel, if_neg this]
    rw [ih fun q hq => h q (List.mem_cons_of_mem _ hq)]
theorem mdel_old {m : List (K × V)} (ho : Once m) {j : Nat} {k : K} {u : V} (h : m[j]? = some (k, u)) : mdel m k = m.eraseIdx j := by
  induction m generalizing j with
  | nil => simp at h
  | cons p r ih =>
    obtain ⟨a, u'⟩ := p
    obtain ⟨h1, h2⟩ := List.pairwise_cons.1 ho
    cases j with
    | zero => simp at h; obtain ⟨rfl, rfl⟩ := h; simp [mdel]
    | succ j =>
      simp at h
      have : a ≠ k := h1 _ (List.mem_of_getElem? h)
      simp only [mdel, if_neg this, List.eraseIdx_cons_succ]
      rw [ih h2 h]
theorem mget_mset (m : List (K × V)) (k : K) (v : V) (k' : K) : mget (mset m k v) k' = if k = k' then some v else mget m k' := by
  induction m with
  | nil => simp [mset, mget]
  | cons p r ih =>
    obtain ⟨a, u⟩ := p
    simp only [mset]
    by_cases h : a = k
    · subst h
      rw [if_pos rfl]
      by_cases h2 : a = k'
      · simp [mget, h2]
      · simp [mget, h2]
    · rw [if_neg h]
      by_cases h2 : a = k'
      · subst h2
        have : ¬ k = a := fun e => h e.symm
        simp [mget, this]
      · simp only [mget, if_neg h2]; exact ih
theorem mem_mset {m : List (K × V)} {k : K} {v : V} {p : K × V} (h : p ∈ mset m k v) : p = (k, v) ∨ p ∈ m := by
  induction m with
  | nil => simp [mset] at h; exact .inl h
  | cons q r ih =>
    obtain ⟨a, u⟩ := q
    simp only [mset] at h
    split at h
    · rename_i e
      subst e
      rcases List.mem_cons.1 h with rfl | h
      · exact .inl rfl
      · exact .inr (List.mem_cons_of_mem _ h)
    · rcases List.mem_cons.1 h with rfl | h
      · exact .inr List.mem_cons_self
      · rcases ih h with h | h
        · exact .inl h
        · exact .inr (List.mem_cons_of_mem _ h)
theorem once_mset {m : List (K × V)} (ho : Once m) (k : K) (v : V) : Once (mset m k v) := by
  induction m with
  | nil => exact List.pairwise_cons.2 ⟨(fun _ h => by cases h), List.Pairwise.nil⟩
  | cons p r ih =>
    obtain ⟨a, u⟩ := p
    obtain ⟨h1, h2⟩ := List.pairwise_cons.1 ho
    simp only [mset]
    split
    · exact List.pairwise_cons.2 ⟨h1, h2⟩
    · rename_i hn
      refine List.pairwise_cons.2 ⟨fun q hq => ?_, ih h2⟩
      rcases mem_mset hq with rfl | hq
      · exact hn
      · exact h1 q hq
theorem mem_mdel {m : List (K × V)} {k : K} {p : K × V} (h : p ∈ mdel m k) : p ∈ m := by
  induction m with
  | nil => exact h
  | cons q r ih =>
    obtain ⟨a, u⟩ := q
    simp only [mdel] at h
    split at h
    · exact List.mem_cons_of_mem _ h
    · rcases List.mem_cons.1 h with rfl | h
      · exact List.mem_cons_self
      · exact List.mem_cons_of_mem _ (ih h)
theorem once_mdel {m : List (K × V)} (ho : Once m) (k : K) : Once (mdel m k) := by
  induction m with
  | nil => exact ho
  | cons p r ih =>
    obtain ⟨a, u⟩ := p
    obtain ⟨h1, h2⟩ := List.pairwise_cons.1 ho
    simp only [mdel]
    split
    · exact h2
    · exact List.pairwise_cons.2 ⟨fun q hq => h1 q (mem_mdel hq), ih h2⟩
theorem mget_mdel {m : List (K × V)} (ho : Once m) (k k' : K) : mget (mdel m k) k' = if k = k' then none else mget m k' := by
  induction m with
  | nil => simp [mdel, mget]
  | cons p r ih =>
    obtain ⟨a, u⟩ := p
    obtain ⟨h1, h2⟩ := List.pairwise_cons.1 ho
    simp only [mdel]
    by_cases h : a = k
    · subst h
      rw [if_pos rfl]
      by_cases h3 : a = k'
      · subst h3
        rw [if_pos rfl]
        exact mget_none fun q hq => (h1 q hq).symm
      · simp [mget, h3]
    · rw [if_neg h]
      by_cases h3 : a = k'
      · subst h3
        have : ¬ k = a := fun e => h e.symm
        simp [mget, this]
      · simp only [mget, if_neg h3]; exact ih h2
end plain

/-- Keys of a map: how they stand in memory. -/
structure MKey (P : Program) (kt : TypeId) {K : Type} (enc : K → Value) (ok : K → Prop) : Prop where
  inj : ∀ {a b : K}, enc a = enc b → a = b
  key : ∀ {a : K}, ok a → ∃ l, keyOf P kt (enc a) = some l
  law : Maps.Keyed P kt

/-- Block b is a map with just these entries. -/
def MapIs {K V : Type} (w : World) (b : Nat) (enc : K → Value) (ok : K → Prop) (R : V → Value → Prop) (m : List (K × V)) : Prop :=
  ∃ (es : Array MapEntry) (clock : Nat), w.heap[b]? = some (.map es clock) ∧ es.size = m.length ∧ Once m ∧ (∀ p ∈ m, ok p.1) ∧
    (∀ (i : Nat) (k : K) (v : V), m[i]? = some (k, v) → ∃ e, es[i]? = some e ∧ e.key = enc k ∧ R v e.val) ∧
    (∀ (i : Nat) (e : MapEntry), es[i]? = some e → e.born < clock) ∧ (∀ (i j : Nat) (e e' : MapEntry), es[i]? = some e → es[j]? = some e' → e.born = e'.born → i = j)

section maps
variable {P : Program} {kt et : TypeId} {K V : Type} {enc : K → Value} {ok : K → Prop} {R R' : V → Value → Prop} {w w' : World} {b : Nat} {m : List (K × V)}

theorem MapIs.lt (h : MapIs w b enc ok R m) : b < w.heap.size := by
  obtain ⟨es, clock, hb, _⟩ := h
  exact (Array.getElem?_eq_some_iff.1 hb).1
theorem MapIs.keep (h : MapIs w b enc ok R m) (hk : w'.heap[b]? = w.heap[b]?) : MapIs w' b enc ok R m := by
  obtain ⟨es, clock, hb, h⟩ := h
  exact ⟨es, clock, hk.trans hb, h⟩
theorem MapIs.below (h : MapIs w b enc ok R m) (hb : Below w.heap.size w w') : MapIs w' b enc ok R m := h.keep (hb.block b h.lt)
theorem MapIs.turn (h : MapIs w b enc ok R m) (hR : ∀ k v u, (k, v) ∈ m → R v u → R' v u) : MapIs w b enc ok R' m := by
  obtain ⟨es, clock, hb, h1, h2, h3, h4, h5, h6⟩ := h
  refine ⟨es, clock, hb, h1, h2, h3, fun i k v hi => ?_, h5, h6⟩
  obtain ⟨e, he, hk, hv⟩ := h4 i k v hi
  exact ⟨e, he, hk, hR k v _ (List.mem_of_getElem? hi) hv⟩
theorem mapIs_new (w : World) (enc : K → Value) (ok : K → Prop) (R : V → Value → Prop) : MapIs (w.alloc (.map #[] 0)) w.heap.size enc ok R ([] : List (K × V)) :=
  ⟨#[], 0, (MapKept.heap_alloc w _).1, rfl, List.Pairwise.nil, (fun p h => by cases h), (fun i k v h => by simp at h), (fun i e h => by simp at h), (fun i j e e' h => by simp at h)⟩
theorem MapIs.once (h : MapIs w b enc ok R m) : Once m := by
  obtain ⟨es, clock, hb, h1, h2, _⟩ := h
  exact h2

/-- What a look for a key finds. -/
theorem MapIs.find (MK : MKey P kt enc ok) (h : MapIs w b enc ok R m) {k : K} (hk : ok k) : ∃ es clock, w.heap[b]? = some (.map es clock) ∧
    (((Instr.findKey kt (enc k) es.toList).run P w = .ok none w ∧ (∀ p ∈ m, p.1 ≠ k)) ∨
     ∃ j e v, (Instr.findKey kt (enc k) es.toList).run P w = .ok (some (j, e.val)) w ∧ es[j]? = some e ∧ e.key = enc k ∧ R v e.val ∧ m[j]? = some (k, v)) := by
  obtain ⟨es, clock, hb, hsz, ho, hok, hel, hborn, huni⟩ := h
  refine ⟨es, clock, hb, ?_⟩
  obtain ⟨l, hl⟩ := MK.key hk
  have hes : ∀ e ∈ es.toList, ∃ (i : Nat) (p : K × V), m[i]? = some p ∧ es[i]? = some e ∧ e.key = enc p.1 := by
    intro e he
    obtain ⟨i, hi⟩ := List.getElem?_of_mem he
    have hi' : es[i]? = some e := by rw [← Array.getElem?_toList]; exact hi
    have hlt : i < m.length := by rw [← hsz]; exact (Array.getElem?_eq_some_iff.1 hi').1
    obtain ⟨e', h1, h2, _⟩ := hel i _ _ (List.getElem?_eq_getElem hlt)
    rw [hi'] at h1
    cases h1
    exact ⟨i, m[i], List.getElem?_eq_getElem hlt, hi', h2⟩
  rcases MK.law.find w hl es.toList (fun e he => by
      obtain ⟨i, p, hp, _, hk'⟩ := hes e he
      rw [hk']
      exact MK.key (hok p (List.mem_of_getElem? hp))) with ⟨h1, h2⟩ | ⟨j, e, h1, h2, h3⟩
  · refine .inl ⟨h1, fun p hp e => ?_⟩
    obtain ⟨i, hi⟩ := List.getElem?_of_mem hp
    obtain ⟨e', he', hk', _⟩ := hel i p.1 p.2 hi
    refine h2 e' ?_ (by rw [hk', e])
    exact List.mem_of_getElem? (i := i) (by rw [Array.getElem?_toList]; exact he')
  · have h2' : es[j]? = some e := by rw [← Array.getElem?_toList]; exact h2
    have hlt : j < m.length := by rw [← hsz]; exact (Array.getElem?_eq_some_iff.1 h2').1
    obtain ⟨e', he', hk', hv'⟩ := hel j m[j].1 m[j].2 (List.getElem?_eq_getElem hlt)
    rw [h2'] at he'
    cases he'
    have : m[j].1 = k := MK.inj (by rw [← hk', h3])
    exact .inr ⟨j, e, m[j].2, h1, h2', h3, hv', by rw [List.getElem?_eq_getElem hlt, ← this]⟩

theorem MapIs.lookup [DecidableEq K] (MK : MKey P kt enc ok) (h : MapIs w b enc ok R m) {t : TypeId} (ht : P.underlying t = some (.map kt et)) {z : Value} (hz : (zeroValue et).run P w = .ok z w) {k : K} (hk : ok k) (c : Bool) :
    (mget m k = none ∧ (Instr.lookup t (.map (some b)) (enc k) c).run P w = .ok (if c then .tuple #[z, .bool false] else z) w) ∨
    ∃ v u, mget m k = some v ∧ R v u ∧ (Instr.lookup t (.map (some b)) (enc k) c).run P w = .ok (if c then .tuple #[u, .bool true] else u) w := by
  have ho := h.once
  obtain ⟨l, hl⟩ := MK.key hk
  obtain ⟨es, clock, hb, hf⟩ := h.find MK hk
  rcases hf with ⟨h1, h2⟩ | ⟨j, e, v, h1, h2, h3, h4, h5⟩
  · exact .inl ⟨mget_none h2, by simp [Instr.lookup, run_underlying ht, MapKept.run_getObj_map hb, MK.law.check w _ hl, h1, hz, Result.andThen]⟩
  · exact .inr ⟨v, e.val, mget_at ho h5, h4, by simp [Instr.lookup, run_underlying ht, MapKept.run_getObj_map hb, MK.law.check w _ hl, h1, Result.andThen]⟩

theorem MapIs.update [DecidableEq K] (MK : MKey P kt enc ok) (h : MapIs w b enc ok R m) {t : TypeId} (ht : P.underlying t = some (.map kt et)) {k : K} (hk : ok k) {v : V} {u : Value} (hv : R v u) :
    ∃ w', (Instr.mapUpdate t (.map (some b)) (enc k) u).run P w = .ok () w' ∧ MapIs w' b enc ok R (mset m k v) ∧ w.grownBy w' (some b) := by
  have hlt := h.lt
  obtain ⟨l, hl⟩ := MK.key hk
  obtain ⟨es', clock', hb', hf⟩ := h.find MK hk
  obtain ⟨es, clock, hb, hsz, ho, hok, hel, hborn, huni⟩ := h
  rw [hb'] at hb
  cases hb
  have hgrow : ∀ o, w.grownBy { w with heap := w.heap.setIfInBounds b o } (some b) := fun o => ⟨rfl, rfl, rfl, by simp, fun i _ hi => by
    have : ¬ b = i := fun e => hi (by rw [e])
    simp [this]⟩
  have hsame : ∀ o, ({ w with heap := w.heap.setIfInBounds b o } : World).heap[b]? = some o := fun o => by simp [hlt]
  rcases hf with ⟨h1, h2⟩ | ⟨j, e, v0, h1, h2, h3, h4, h5⟩
  · refine ⟨_, by simp [Instr.mapUpdate, run_underlying ht, MapKept.run_getObj_map hb', MK.law.check w _ hl, h1, Result.andThen, MapKept.run_setObj_map _ hb']; rfl, ?_, hgrow _⟩
    rw [mset_new v h2]
    refine ⟨_, _, hsame _, by simp [hsz], ?_, ?_, ?_, ?_, ?_⟩
    · exact List.pairwise_append.2 ⟨ho, List.pairwise_singleton _ _, fun p hp q hq => by
        obtain rfl := List.mem_singleton.1 hq
        exact h2 p hp⟩
    · intro p hp
      rcases List.mem_append.1 hp with hp | hp
      · exact hok p hp
      · obtain rfl := List.mem_singleton.1 hp; exact hk
    · intro i k' v' hi
      by_cases hi1 : i < m.length
      · rw [List.getElem?_append_left hi1] at hi
        obtain ⟨e, he, hk', hv'⟩ := hel i k' v' hi
        exact ⟨e, by rw [Array.getElem?_push, if_neg (by omega)]; exact he, hk', hv'⟩
      · rw [List.getElem?_append_right (by omega)] at hi
        have : i = m.length := by
          have := (List.getElem?_eq_some_iff.1 hi).1
          simp at this; omega
        subst this
        simp at hi
        obtain ⟨rfl, rfl⟩ := hi
        exact ⟨_, by rw [Array.getElem?_push, if_pos hsz.symm], rfl, hv⟩
    · intro i e he
      rw [Array.getElem?_push] at he
      split at he
      · cases he; exact Nat.lt_succ_self _
      · exact Nat.lt_succ_of_lt (hborn i e he)
    · intro i j e e' he he' hbe
      rw [Array.getElem?_push] at he he'
      split at he <;> split at he'
      · omega
      · cases he; have := hborn j e' he'; simp at hbe; omega
      · cases he'; have := hborn i e he; simp at hbe; omega
      · exact huni i j e e' he he' hbe
  · have hst := MK.law.stays w hl
    have hrun : (Instr.mapUpdate t (.map (some b)) (enc k) u).run P w = .ok () { w with heap := w.heap.setIfInBounds b (.map (es'.modify j fun e => { e with key := enc k, val := u }) clock') } := by
      simp [Instr.mapUpdate, run_underlying ht, MapKept.run_getObj_map hb', MK.law.check w _ hl, h1, Result.andThen, MapKept.run_setObj_map _ hb', h2, h3, hst]
    refine ⟨_, hrun, ?_, hgrow _⟩
    rw [mset_old ho h5 v]
    have hj : j < m.length := (List.getElem?_eq_some_iff.1 h5).1
    refine ⟨_, _, hsame _, by simp [hsz], ?_, ?_, ?_, ?_, ?_⟩
    · rw [← mset_old ho h5 v]; exact once_mset ho k v
    · intro p hp
      rw [← mset_old ho h5 v] at hp
      rcases mem_mset hp with rfl | hp
      · exact hk
      · exact hok p hp
    · intro i k' v' hi
      rw [List.getElem?_set] at hi
      rw [Array.getElem?_modify]
      by_cases hij : j = i
      · subst hij
        rw [if_pos rfl, if_pos hj] at hi
        cases hi
        rw [if_pos rfl, h2]
        exact ⟨_, rfl, rfl, hv⟩
      · rw [if_neg hij] at hi
        rw [if_neg hij]
        exact hel i k' v' hi
    · intro i e0 he
      rw [Array.getElem?_modify] at he
      split at he
      · rename_i e1; subst e1; rw [h2] at he; cases he; exact hborn j e h2
      · exact hborn i e0 he
    · intro i i' e0 e1 he he' hbe
      have key : ∀ (i : Nat) (e0 : MapEntry), (es'.modify j fun e => { e with key := enc k, val := u })[i]? = some e0 → ∃ e2, es'[i]? = some e2 ∧ e2.born = e0.born := by
        intro i e0 he
        rw [Array.getElem?_modify] at he
        split at he
        · rename_i e1; subst e1; rw [h2] at he; cases he; exact ⟨e, h2, rfl⟩
        · exact ⟨e0, he, rfl⟩
      obtain ⟨a1, ha1, hb1⟩ := key i e0 he
      obtain ⟨a2, ha2, hb2⟩ := key i' e1 he'
      exact huni i i' a1 a2 ha1 ha2 (by rw [hb1, hb2, hbe])

theorem MapIs.len (h : MapIs w b enc ok R m) {t ty : TypeId} (ht : P.underlying t = some (.map kt et)) : (Builtin.len_ #[t] ty #[.map (some b)]).run P w = .ok (.int .i64 m.length) w := by
  obtain ⟨es, clock, hb, hsz, _⟩ := h
  simp [Builtin.len_, run_underlying ht, MapKept.run_getObj_map hb, Result.andThen, goInt, hsz]

theorem own_map_ne {base e size n : Nat} {v : Value} {xs : List Value} (h : w.ownsRow base e size v n xs) (hm : MapIs w b enc ok R m) : v.ownBlock ≠ some b := by
  obtain ⟨es, clock, hb, _⟩ := hm
  rcases h.2 with ⟨rfl, _⟩ | ⟨g, cap, cur, rfl, _, hh, _⟩
  · simp [Value.ownBlock]
  · intro e
    have : g = b := by simpa [Value.ownBlock] using e
    subst this
    rw [hh] at hb
    cases hb
theorem MapIs.grown {row : Option Nat} (h : MapIs w b enc ok R m) (hg : w.grownBy w' row) (hne : some b ≠ row) : MapIs w' b enc ok R m := h.keep (hg.block b h.lt hne)
theorem MapIs.alloc (h : MapIs w b enc ok R m) (o : Obj) : MapIs (w.alloc o) b enc ok R m := h.keep (heap_alloc_old w o h.lt)
theorem own_kept_map {base e size n : Nat} {v : Value} {xs : List Value} (h : w.ownsRow base e size v n xs) (hm : MapIs w b enc ok R m) (hg : w.grownBy w' (some b)) : w'.ownsRow base e size v n xs :=
  h.kept hg (.inr (own_map_ne h hm))

end maps

section ops
variable {P : Program} {kt et : TypeId} {K V : Type} [DecidableEq K] {enc : K → Value} {ok : K → Prop} {R : V → Value → Prop} {w : World} {b : Nat} {m : List (K × V)}
  {ops : Array Oper} {rest : List Oper} {o : Oper} {a : Act} {Q : Exit → Act → World → Prop}

/-- 'v, ok := m[k]' and 'm[k]'. -/
theorem wpList_mlookup (c : Bool) (MK : MKey P kt enc ok) (hg : o.guard = none) (x ix : Operand) (t : TypeId) (hop : o.op = .lookup t x ix c) (ht : P.underlying t = some (.map kt et)) (z : Value) (hz : (zeroValue et).run P w = .ok z w)
    (h : MapIs w b enc ok R m) (k : K) (hk : ok k) (hx : a.eval x = .map (some b)) (hi : a.eval ix = enc k)
    (hn : mget m k = none → wpList P ops Q rest (a.put o.dst (if c then .tuple #[z, .bool false] else z)) w)
    (hs : ∀ v u, mget m k = some v → R v u → wpList P ops Q rest (a.put o.dst (if c then .tuple #[u, .bool true] else u)) w) : wpList P ops Q (o :: rest) a w := by
  refine wpList_plain hg fun K' hK' => ?_
  unfold Oper.wp
  rcases h.lookup MK ht hz hk c with ⟨h1, h2⟩ | ⟨v, u, h1, h2, h3⟩
  · simp [execOp, hop, hx, hi, h2, Result.andThen]
    exact hK' _ _ (hn h1)
  · simp [execOp, hop, hx, hi, h3, Result.andThen]
    exact hK' _ _ (hs v u h1 h2)

theorem wpList_mlookup_none (c : Bool) (MK : MKey P kt enc ok) (hg : o.guard = none) (x ix : Operand) (t : TypeId) (hop : o.op = .lookup t x ix c) (ht : P.underlying t = some (.map kt et)) (z : Value) (hz : (zeroValue et).run P w = .ok z w)
    (h : MapIs w b enc ok R m) (k : K) (hk : ok k) (hx : a.eval x = .map (some b)) (hi : a.eval ix = enc k) (hm : mget m k = none)
    (hn : wpList P ops Q rest (a.put o.dst (if c then .tuple #[z, .bool false] else z)) w) : wpList P ops Q (o :: rest) a w :=
  wpList_mlookup c MK hg x ix t hop ht z hz h k hk hx hi (fun _ => hn) fun v u e _ => by rw [hm] at e; cases e
theorem wpList_mlookup_some (c : Bool) (MK : MKey P kt enc ok) (hg : o.guard = none) (x ix : Operand) (t : TypeId) (hop : o.op = .lookup t x ix c) (ht : P.underlying t = some (.map kt et)) (z : Value) (hz : (zeroValue et).run P w = .ok z w)
    (h : MapIs w b enc ok R m) (k : K) (hk : ok k) (hx : a.eval x = .map (some b)) (hi : a.eval ix = enc k) (v : V) (hm : mget m k = some v)
    (hs : ∀ u, R v u → wpList P ops Q rest (a.put o.dst (if c then .tuple #[u, .bool true] else u)) w) : wpList P ops Q (o :: rest) a w :=
  wpList_mlookup c MK hg x ix t hop ht z hz h k hk hx hi (fun e => by rw [hm] at e; cases e) fun v' u e hR => by
    rw [hm] at e; cases e; exact hs u hR

/-- 'm[k] = v'. -/
theorem wpList_mupdate (MK : MKey P kt enc ok) (hg : o.guard = none) (x ix v : Operand) (t : TypeId) (hop : o.op = .mapUpdate t x ix v) (ht : P.underlying t = some (.map kt et))
    (h : MapIs w b enc ok R m) (k : K) (hk : ok k) (y : V) (u : Value) (hR : R y u) (hx : a.eval x = .map (some b)) (hi : a.eval ix = enc k) (hv : a.eval v = u)
    (hK : ∀ w', MapIs w' b enc ok R (mset m k y) → w.grownBy w' (some b) → wpList P ops Q rest (a.put o.dst undef) w') : wpList P ops Q (o :: rest) a w := by
  refine wpList_plain hg fun K' hK' => ?_
  obtain ⟨w', hrun, r1, r2⟩ := h.update MK ht hk hR
  unfold Oper.wp
  simp [execOp, hop, hx, hi, hv, hrun, Result.andThen]
  exact hK' _ _ (hK w' r1 r2)
end ops

end Go.Proofs.Ytjcdcmeclnihbaa
