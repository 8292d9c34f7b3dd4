/- 'm[k], n[j] = v, u' at new keys: an entry is made, then its value is stored (the model's mapEntry and entryStore). Condition: a key that the map does not have. -/
import Derived.Test.YthdhbkngbmjjkaaBaseM
import Derived.Test.YthdhbkngbmjjkaaNp
namespace Go.Proofs.Ythdhbkngbmjjkaa
open Go.RowKit
section
variable {P : Program} {kt et : TypeId} {K V : Type} {enc : K → Value} {ok : K → Prop} {R : V → Value → Prop} {w w' : World} {b : Nat} {m : List (K × V)} {k : K} {cl : Nat}
/-- A map with an entry more whose value is still to be stored. -/
def MapOpen (w : World) (b : Nat) (enc : K → Value) (ok : K → Prop) (R : V → Value → Prop) (m : List (K × V)) (k : K) (cl : Nat) : Prop :=
  ok k ∧ (∀ p ∈ m, p.1 ≠ k) ∧ ∃ (es : Array MapEntry) (z : Value), w.heap[b]? = some (.map (es.push { key := enc k, val := z, born := cl }) (cl + 1)) ∧ es.size = m.length ∧ Once m ∧ (∀ p ∈ m, ok p.1) ∧
    (∀ (i : Nat) (k : K) (v : V), m[i]? = some (k, v) → ∃ e, es[i]? = some e ∧ e.key = enc k ∧ R v e.val) ∧
    (∀ (i : Nat) (e : MapEntry), es[i]? = some e → e.born < cl) ∧ (∀ (i j : Nat) (e e' : MapEntry), es[i]? = some e → es[j]? = some e' → e.born = e'.born → i = j)
theorem MapOpen.keep (h : MapOpen w b enc ok R m k cl) (hk : w'.heap[b]? = w.heap[b]?) : MapOpen w' b enc ok R m k cl := by
  obtain ⟨h1, h2, es, z, hb, r⟩ := h
  exact ⟨h1, h2, es, z, hk.trans hb, r⟩
theorem MapIs.entry_new (MK : MKey P kt enc ok) (h : MapIs w b enc ok R m) {t : TypeId} (ht : P.underlying t = some (.map kt et)) (hk : ok k) (hn : ∀ p ∈ m, p.1 ≠ k) {z : Value} (hz : (zeroValue et).run P w = .ok z w) :
    ∃ w1 cl, (Instr.mapEntry t (.map (some b)) (enc k)).run P w = .ok (.tuple #[z, .int .i64 (cl : Nat)]) w1 ∧ MapOpen w1 b enc ok R m k cl ∧ w.grownBy w1 (some b) := by
  have hlt := h.lt
  obtain ⟨l, hl⟩ := MK.key hk
  obtain ⟨es', clock', hb', hf⟩ := h.find MK hk
  obtain ⟨es, clock, hb, hsz, ho, hok, hel, hborn, huni⟩ := h
  rw [hb'] at hb
  cases hb
  rcases hf with ⟨h1, -⟩ | ⟨j, e, v0, h1, h2, h3, h4, h5⟩
  · refine ⟨{ w with heap := w.heap.setIfInBounds b (.map (es'.push { key := enc k, val := z, born := clock' }) (clock' + 1)) }, clock', ?_, ⟨hk, hn, es', z, by simp [hlt], hsz, ho, hok, hel, hborn, huni⟩, ⟨rfl, rfl, rfl, by simp, fun i _ hi => ?_⟩⟩
    · simp [Instr.mapEntry, run_underlying ht, MapKept.run_getObj_map hb', MK.law.check w _ hl, h1, hz, Result.andThen, MapKept.run_setObj_map _ hb', goInt]
    · have : ¬ b = i := fun e => hi (by rw [e])
      simp [this]
  · exact absurd rfl (hn (k, v0) (List.mem_of_getElem? h5))
theorem findIdx_push {es : Array MapEntry} {x : MapEntry} {cl : Nat} (h : ∀ (i : Nat) (e : MapEntry), es[i]? = some e → e.born < cl) (hx : x.born = cl) : (es.push x).findIdx? (fun e => (e.born : Int) == (cl : Int)) = some es.size := by
  have h0 : es.findIdx? (fun e => (e.born : Int) == (cl : Int)) = none := by
    rw [Array.findIdx?_eq_none_iff]
    intro e he
    obtain ⟨i, hi, rfl⟩ := Array.getElem_of_mem he
    have := h i es[i] (Array.getElem?_eq_getElem hi)
    simp
    omega
  rw [Array.findIdx?_push, h0]
  simp [hx]
theorem MapOpen.store (h : MapOpen w b enc ok R m k cl) (t : TypeId) {v : V} {u : Value} (hv : R v u) :
    ∃ w3, (Instr.entryStore t (.map (some b)) (.int .i64 (cl : Nat)) u).run P w = .ok () w3 ∧ MapIs w3 b enc ok R (m ++ [(k, v)]) ∧ w.grownBy w3 (some b) := by
  obtain ⟨hk, hn, es, z, hb, hsz, ho, hok, hel, hborn, huni⟩ := h
  have hlt := (Array.getElem?_eq_some_iff.1 hb).1
  have hfi := findIdx_push (x := { key := enc k, val := z, born := cl }) hborn rfl
  have hmod : (es.push { key := enc k, val := z, born := cl }).modify es.size (fun e => { e with val := u }) = es.push { key := enc k, val := u, born := cl } := by
    apply Array.ext_getElem?
    intro i
    rw [Array.getElem?_modify, Array.getElem?_push, Array.getElem?_push]
    by_cases e : es.size = i
    · rw [if_pos e, if_pos e.symm, if_pos e.symm]; rfl
    · rw [if_neg e, if_neg (Ne.symm e), if_neg (Ne.symm e)]
  refine ⟨{ w with heap := w.heap.setIfInBounds b (.map (es.push { key := enc k, val := u, born := cl }) (cl + 1)) }, ?_, ?_, ⟨rfl, rfl, rfl, by simp, fun i _ hi => ?_⟩⟩
  · simp [Instr.entryStore, MapKept.run_getObj_map hb, asInt, asIntOf, hfi, Result.andThen, MapKept.run_setObj_map _ hb, hmod]
  · refine ⟨es.push { key := enc k, val := u, born := cl }, cl + 1, by simp [hlt], by simp [hsz], ?_, ?_, ?_, ?_, ?_⟩
    · exact List.pairwise_append.2 ⟨ho, List.pairwise_singleton _ _, fun p hp q hq => by
        obtain rfl := List.mem_singleton.1 hq
        exact hn p hp⟩
    · intro p hp
      rcases List.mem_append.1 hp with hp | hp
      · exact hok p hp
      · obtain rfl := List.mem_singleton.1 hp; exact hk
    · intro i k' v' hi
      by_cases hi1 : i < m.length
      · rw [List.getElem?_append_left hi1] at hi
        obtain ⟨e, he, hk', hv'⟩ := hel i k' v' hi
        exact ⟨e, by rw [Array.getElem?_push, if_neg (by omega)]; exact he, hk', hv'⟩
      · rw [List.getElem?_append_right (by omega)] at hi
        have : i = m.length := by
          have := (List.getElem?_eq_some_iff.1 hi).1
          simp at this; omega
        subst this
        simp at hi
        obtain ⟨rfl, rfl⟩ := hi
        exact ⟨_, by rw [Array.getElem?_push, if_pos hsz.symm], rfl, hv⟩
    · intro i e he
      rw [Array.getElem?_push] at he
      split at he
      · cases he; exact Nat.lt_succ_self _
      · exact Nat.lt_succ_of_lt (hborn i e he)
    · intro i j e e' he he' hbe
      rw [Array.getElem?_push] at he he'
      split at he <;> split at he'
      · omega
      · cases he; have := hborn j e' he'; simp at hbe; omega
      · cases he'; have := hborn i e he; simp at hbe; omega
      · exact huni i j e e' he he' hbe
  · have : ¬ b = i := fun e => hi (by rw [e])
    simp [this]
theorem wp_mentry {o : Oper} {a : Act} {Kn' : Act → World → Prop} {Q : Exit → Act → World → Prop} (MK : MKey P kt enc ok) (x ix : Operand) (t : TypeId) (hop : o.op = .mapEntry t x ix) (ht : P.underlying t = some (.map kt et)) {z : Value} (hz : (zeroValue et).run P w = .ok z w)
    (h : MapIs w b enc ok R m) (hk : ok k) (hn : ∀ p ∈ m, p.1 ≠ k) (hx : a.eval x = .map (some b)) (hi : a.eval ix = enc k)
    (hK : ∀ w1 cl, MapOpen w1 b enc ok R m k cl → w.grownBy w1 (some b) → Kn' (a.put o.dst (.tuple #[z, .int .i64 (cl : Nat)])) w1) : o.wp P a w Kn' Q := by
  obtain ⟨w1, cl, hrun, r1, r2⟩ := h.entry_new MK ht hk hn hz
  unfold Oper.wp
  simp [execOp, hop, hx, hi, hrun, Result.andThen]
  exact hK w1 cl r1 r2
theorem wp_mstore {o : Oper} {a : Act} {Kn' : Act → World → Prop} {Q : Exit → Act → World → Prop} (x ix v : Operand) (t : TypeId) (hop : o.op = .entryStore t x ix v) (h : MapOpen w b enc ok R m k cl) (y : V) (u : Value) (hR : R y u) (hx : a.eval x = .map (some b)) (hi : a.eval ix = .int .i64 (cl : Nat)) (hv : a.eval v = u)
    (hK : ∀ w1, MapIs w1 b enc ok R (m ++ [(k, y)]) → w.grownBy w1 (some b) → Kn' (a.put o.dst undef) w1) : o.wp P a w Kn' Q := by
  obtain ⟨w1, hrun, r1, r2⟩ := h.store (P := P) t hR
  unfold Oper.wp
  simp [execOp, hop, hx, hi, hv, hrun, Result.andThen]
  exact hK w1 r1 r2
end
end Go.Proofs.Ythdhbkngbmjjkaa
