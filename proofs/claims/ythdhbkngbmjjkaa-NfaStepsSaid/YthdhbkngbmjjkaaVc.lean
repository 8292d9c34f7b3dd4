/- The automaton of a list of expressions, as plain lists: what it keeps; a store of an end in memory. No conditions. -/
import Derived.Test.YthdhbkngbmjjkaaVb
import Derived.Test.YthdhbkngbmjjkaaNf
import Derived.Test.YthdhbkngbmjjkaaRr
namespace Go.Proofs.Ythdhbkngbmjjkaa
open Go.RowKit
def expB {d : Nat} (i : Nat) (t : Tr d) (s : Bs) : Bs := layB d t (s.kns.length + 1) s.kns.length (((s.knot.fin s.kns.length ((i + 1 : Nat) : Int)).knot).arrow 0 (s.kns.length + 1))
def buildL {d : Nat} : Nat → List (Tr d) → Bs → Bs
  | _, [], s => s
  | i, t :: r, s => buildL (i + 1) r (expB i t s)
def startB : Bs := ⟨[], [⟨[], [], 0⟩]⟩
def builtB {d : Nat} (l : List (Tr d)) : Bs := buildL 0 l startB
def Bs.fin64 (s : Bs) : Prop := ∀ i, 0 ≤ (kn s.kns i).fin ∧ (kn s.kns i).fin ≤ 64
theorem fin_len (s : Bs) (k : Nat) (e : Int) : (s.fin k e).kns.length = s.kns.length := by simp [Bs.fin]
theorem Bs.le.fin {s : Bs} {m k : Nat} {e : Int} (h : s.le m) (hk : k < s.kns.length) : (s.fin k e).le m := by
  refine ⟨h.1, by rw [fin_len]; exact h.2.1, fun i => ?_⟩
  show (kn (s.kns.set k _) i).free.length ≤ m ∧ (kn (s.kns.set k _) i).lv.length ≤ m
  rw [kn_set hk]
  split
  · exact h.2.2 k
  · exact h.2.2 i
theorem cnt_of_right {d : Nat} {t : Tr d} (h : rightT d t = true) : cnt d t ≤ 2000 ∧ fitsT d false t = true := by
  unfold rightT at h
  rw [Bool.and_eq_true, decide_eq_true_eq] at h
  have := (sizeT_le (d := d) (t := t) (most := 2000) (by omega)).1 h.1
  exact ⟨by omega, h.2⟩
/-- What the steps before the laying give. -/
theorem exp_pre {s : Bs} {i m : Nat} (ho : s.ok) (hf : s.fin64) (hl : s.le m) (h0 : 0 < s.kns.length) (hi : i < 40) (s4 : Bs) (h4 : s4 = ((s.knot.fin s.kns.length ((i + 1 : Nat) : Int)).knot).arrow 0 (s.kns.length + 1)) :
    s4.ok ∧ s4.fin64 ∧ s4.le (m + 3) ∧ s4.kns.length = s.kns.length + 2 ∧ s4.lfs = s.lfs := by
  have k1 := knot_len s
  have k2 := fin_len s.knot s.kns.length ((i + 1 : Nat) : Int)
  have k3 := knot_len (s.knot.fin s.kns.length ((i + 1 : Nat) : Int))
  have k4 : s4.kns.length = s.kns.length + 2 := by rw [h4, arrow_len]; omega
  refine ⟨?_, fun j => ?_, ?_, k4, by rw [h4]; rfl⟩
  · rw [h4]; exact ((ho.knot.fin (by omega)).knot).arrow (by omega) (by omega)
  · rw [h4, arrow_fin (by omega), knot_fin]
    show 0 ≤ (kn (s.knot.kns.set s.kns.length _) j).fin ∧ (kn (s.knot.kns.set s.kns.length _) j).fin ≤ 64
    rw [kn_set (by omega)]
    split
    · simp only; omega
    · rw [knot_fin]; exact hf j
  · rw [h4]
    exact (((hl.knot.fin (by omega)).knot).arrow (by omega)).mono (by omega)
theorem expB_keeps {d : Nat} {t : Tr d} {s : Bs} {i m : Nat} (ho : s.ok) (hf : s.fin64) (hl : s.le m) (h0 : 0 < s.kns.length) (hi : i < 40) (ht : rightT d t = true) :
    (expB i t s).ok ∧ (expB i t s).fin64 ∧ (expB i t s).le (m + 12 * cnt d t) ∧ 0 < (expB i t s).kns.length ∧ (expB i t s).lfs.length = s.lfs.length + leavesT d t := by
  obtain ⟨a, b, c, e, f⟩ := exp_pre ho hf hl h0 hi _ rfl
  obtain ⟨p, q, r, u⟩ := layB_keeps d false t (cnt_of_right ht).2 (s.kns.length + 1) s.kns.length _ (by rw [e]; omega) (by rw [e]; omega)
  obtain ⟨x, y⟩ := layB_ok d t (s.kns.length + 1) s.kns.length _ _ (by rw [e]; omega) (by rw [e]; omega) c
  simp only at q y
  have hc := cnt_pos' d t
  refine ⟨p a, fun j => ?_, ?_, ?_, ?_⟩
  · have := q j
    have := b j
    show 0 ≤ (kn (layB d t _ _ _).kns j).fin ∧ (kn (layB d t _ _ _).kns j).fin ≤ 64
    omega
  · exact Bs.le.mono x (by omega)
  · show 0 < (layB d t _ _ _).kns.length
    omega
  · rw [← f]; exact r
theorem startB_ok : startB.ok ∧ startB.fin64 ∧ startB.le 1 := by
  have h : ∀ i, (kn startB.kns i) = ⟨[], [], 0⟩ := fun i => by
    show kn ([] ++ [⟨[], [], 0⟩]) i = _
    rw [kn_snoc]
    split
    · simp [kn]
    · split <;> rfl
  refine ⟨⟨fun i z hz => ?_, fun i z hz => ?_, fun x hx => ?_⟩, fun i => ?_, ⟨by decide, by decide, fun i => ?_⟩⟩
  · rw [h] at hz; simp at hz
  · rw [h] at hz; simp at hz
  · simp [startB] at hx
  · rw [h]; simp
  · rw [h]; simp
theorem buildL_keeps {d : Nat} : ∀ (l : List (Tr d)) (i m : Nat) (s : Bs), s.ok → s.fin64 → s.le m → 0 < s.kns.length → i + l.length ≤ 40 → (∀ t ∈ l, rightT d t = true) →
    (buildL i l s).ok ∧ (buildL i l s).fin64 ∧ (buildL i l s).le (m + 24000 * l.length) ∧ 0 < (buildL i l s).kns.length ∧ (buildL i l s).lfs.length = s.lfs.length + sumL (fun t => leavesT d t) l
  | [], _, _, _, h1, h2, h3, h4, _, _ => ⟨h1, h2, h3.mono (by omega), h4, rfl⟩
  | t :: r, i, m, s, h1, h2, h3, h4, h5, h6 => by
    have hr := h6 t (List.mem_cons_self ..)
    have hc := (cnt_of_right hr).1
    rw [List.length_cons] at h5
    obtain ⟨a, b, c, e, f⟩ := expB_keeps (i := i) h1 h2 h3 h4 (by omega) hr
    obtain ⟨p, q, u, v, x⟩ := buildL_keeps r (i + 1) _ _ a b c e (by omega) (fun y hy => h6 y (List.mem_cons_of_mem _ hy))
    refine ⟨p, q, Bs.le.mono u (by rw [List.length_cons]; omega), v, ?_⟩
    simp only [buildL, sumL]
    rw [x, f]
    omega
theorem buildL_take {d : Nat} {l : List (Tr d)} {k : Nat} (h : k < l.length) : ∀ {i : Nat} {s : Bs}, buildL i (l.take (k + 1)) s = expB (i + k) l[k] (buildL i (l.take k) s) := by
  induction l generalizing k with
  | nil => simp at h
  | cons t r ih =>
    intro i s
    cases k with
    | zero => rfl
    | succ k =>
      have := ih (k := k) (by simpa using h) (i := i + 1) (s := expB i t s)
      rw [show i + 1 + k = i + (k + 1) by omega] at this
      exact this
/-- An end told: a store into a knot. -/
theorem NB.tell {w : World} {g B kb n kc k : Nat} {search : Bool} {lv m1 m2 : Value} {s : Bs} {V : Nat → Value} {e : Int} (hB : B ≤ g) (hg : w.heap[g]? = some (.cells #[.bool search, lv, .slice (some ⟨kb, 0, none⟩) n kc, m1, m2] 85 (0, 0)))
    (hl : LfAt w B lv s.lfs) (ho : w.ownsRow B 87 3 (.slice (some ⟨kb, 0, none⟩) n kc) n (flat3 n (knC V s.kns))) (hn : n = s.kns.length) (hr : Rows3 w B (2 * n) V (knZ s.kns)) (hk : k < n) :
    NB (w.setCell ⟨kb, k * 3 + 2, none⟩ (.int .i64 e)) g B search m1 m2 (s.fin k e) ∧ Below B w (w.setCell ⟨kb, k * 3 + 2, none⟩ (.int .i64 e)) ∧ Kp w (w.setCell ⟨kb, k * 3 + 2, none⟩ (.int .i64 e)) ∧
      w.cell? ⟨kb, k * 3 + 2, none⟩ = some (.int .i64 (kn s.kns k).fin) ∧ w.frozen? ⟨kb, k * 3 + 2, none⟩ = false ∧ w.cell? ⟨g, 2, none⟩ = some (.slice (some ⟨kb, 0, none⟩) n kc) := by
  have hkg : kb ≠ g := by
    have h1 := own_blk_ne ho hg (by decide)
    intro e; exact h1 (by rw [e]; rfl)
  have hkB : B ≤ kb := (ho.lt kb rfl).1
  obtain ⟨g', cap', cur', e1, -, hh, -⟩ := id (ho.2.resolve_left (by simp))
  simp only [Value.slice.injEq, Option.some.injEq, Addr.mk.injEq, and_true] at e1
  rw [← e1.1] at hh
  have hst := (ho.stored (k * 3 + 2) (.int .i64 e)).1
  have hgs : (w.setCell ⟨kb, k * 3 + 2, none⟩ (.int .i64 e)).heap[g]? = _ := (heap_setCell_other _ _ _ _ (fun e => hkg e.symm)).trans hg
  have hne : ∀ (b : Nat) (cs : Array Value) (T : TypeId), T ≠ 87 → w.heap[b]? = some (.cells cs T (0, 0)) → (w.setCell ⟨kb, k * 3 + 2, none⟩ (.int .i64 e)).heap[b]? = w.heap[b]? := fun b cs T hT hb => heap_setCell_other _ _ _ _ (fun e => by
      have e' : b = kb := e
      rw [e', hh] at hb
      injection hb with hb
      injection hb with _ hb
      exact hT hb.symm)
  have hcc := ho.cellAt (k * 3 + 2) (by omega)
  have hfl := flat3_at (f := knC V s.kns) (n := n) (i := k) (j := 2) hk (by omega)
  refine ⟨⟨hB, lv, _, hgs, hl.keep fun b cs hb => hne b cs 91 (by decide) hb, V, ?_, ?_⟩, (Below.refl _ _).setCell (p := ⟨kb, k * 3 + 2, none⟩) hkB _, Kp.set hh (by simp), hcc.trans hfl, ho.frozenAt _, (slot5 hg).2.2.1⟩
  · rw [fin_len, ← hn]
    rw [flat3_set hk (by omega)] at hst
    refine (flat3_congr (f := _) fun i hi => ?_) ▸ hst
    show _ = knC V (s.kns.set k ⟨(kn s.kns k).free, (kn s.kns k).lv, e⟩) i
    simp only [knC]
    rw [kn_set (by omega)]
    by_cases e : i = k
    · subst e; simp
    · rw [if_neg e, if_neg (Ne.symm e)]
  · rw [fin_len, ← hn]
    refine Rows3.congr (hr.keep fun b cs hb => hne b cs 3 (by decide) hb) (fun _ _ => rfl) fun a ha => ?_
    show knZ s.kns a = knZ (s.kns.set k _) a
    unfold knZ
    rw [kn_set (by omega)]
    by_cases e : k = a / 2
    · rw [if_pos e, ← e]
    · rw [if_neg e]
end Go.Proofs.Ythdhbkngbmjjkaa
