/- What a leaf's two stores leave; laying an expression between two knots, as plain lists. No conditions. -/
import Derived.Test.YthdhbkngbmjjkaaNf
import Derived.Test.YthdhbkngbmjjkaaBx
namespace Go.Proofs.Ythdhbkngbmjjkaa
open Go.RowKit
theorem LfAt.more {w : World} {B : Nat} {v : Value} {ls : List (Int × Int × Int)} {a b c : Int} (h : w.ownsRow B 91 3 v (ls.length + 1) (flat3 ls.length (lfC ls) ++ [.int .i64 a, .int .i64 b, .int .i64 c])) : LfAt w B v (ls ++ [(a, b, c)]) := by
  unfold LfAt
  rw [List.length_append, List.length_singleton, flat3_succ]
  have e : flat3 ls.length (lfC (ls ++ [(a, b, c)])) = flat3 ls.length (lfC ls) := flat3_congr fun i hi => by
    simp only [lfC]
    rw [List.getElem?_append_left hi]
  have e2 : lfC (ls ++ [(a, b, c)]) ls.length = (.int .i64 a, .int .i64 b, .int .i64 c) := by
    simp [lfC]
  rw [e, e2]
  exact h
/-- .. the leaves' row has grown, and is stored. -/
theorem leaf_step1 {w W w' : World} {g B : Nat} {search : Bool} {lv kv m1 m2 v' : Value} {s : Bs} {a b c : Int} (hg : W.heap[g]? = some (.cells #[.bool search, lv, kv, m1, m2] 85 (0, 0))) (hl : LfAt W B lv s.lfs) (hk : KnAt W B kv s.kns) (hBs : B ≤ w.heap.size) (hB : B ≤ g) (hbw : Below w.heap.size w W)
    (hgrow : W.grownBy w' lv.ownBlock) (hown : w'.ownsRow B 91 3 v' (s.lfs.length + 1) (flat3 s.lfs.length (lfC s.lfs) ++ [.int .i64 a, .int .i64 b, .int .i64 c])) :
    w'.heap[g]? = some (.cells #[.bool search, lv, kv, m1, m2] 85 (0, 0)) ∧ NB (w'.setCell ⟨g, 1, none⟩ v') g B search m1 m2 ⟨s.lfs ++ [(a, b, c)], s.kns⟩ ∧ Below B w w' ∧ Kp w w' ∧ Below B w (w'.setCell ⟨g, 1, none⟩ v') ∧ Kp w (w'.setCell ⟨g, 1, none⟩ v') := by
  have hgl := (Array.getElem?_eq_some_iff.1 hg).1
  have hne : lv.ownBlock ≠ some g := own_blk_ne hl hg (by decide)
  have hgw := (hgrow.block g hgl (Ne.symm hne)).trans hg
  have hgs := heap_setCell_same w' g 1 _ 85 v' hgw
  have hb1 : Below B w w' := (hbw.mono hBs).grown hgrow (Nat.le_trans hBs hbw.size) fun k hk => (hl.lt k hk).1
  have hk1 : Kp w w' := (Kp.below hbw).trans (Kp.grown hl (by simp) hgrow)
  refine ⟨hgw, ⟨hB, v', kv, hgs, LfAt.more (ownsRow_setCell_other hown (own_blk_ne hown hgw (by decide)) _), hk.keep fun x cs hx => (heap_setCell_other _ _ _ _ (fun e => ?_)).trans (hgrow.block x ?_ ?_)⟩, hb1, hk1, hb1.setCell (p := ⟨g, 1, none⟩) hB _, hk1.trans (Kp.set hgw (by simp))⟩
  · have e' : x = g := e
    subst e'
    rcases hx with hx | hx <;> (rw [hg] at hx; injection hx with hx; injection hx with _ hx; cases hx)
  · rcases hx with hx | hx <;> exact (Array.getElem?_eq_some_iff.1 hx).1
  · rcases hx with hx | hx
    · exact fun e => own_blk_ne hl hx (by decide) e.symm
    · exact fun e => own_blk_ne hl hx (by decide) e.symm
/-- .. a knot's row of leaves has grown, and is stored. -/
theorem leaf_step2 {w W w' : World} {g B kb n kc frm : Nat} {search : Bool} {lv m1 m2 fv v' : Value} {s : Bs} {ks : List Kn} {V : Nat → Value} {zs : List Int} {z : Int} (hks : ks = s.kns) (ho : W.ownsRow B 87 3 (.slice (some ⟨kb, 0, none⟩) n kc) n (flat3 n (knC V ks))) (hn : n = ks.length) (hr : Rows3 W B (2 * n) V (knZ ks)) (hf : frm < n)
    (hfv : fv = V (2 * frm + 1)) (hzs : zs = (kn ks frm).lv) (hg : W.heap[g]? = some (.cells #[.bool search, lv, .slice (some ⟨kb, 0, none⟩) n kc, m1, m2] 85 (0, 0))) (hl : LfAt W B lv s.lfs) (hBs : B ≤ w.heap.size) (hB : B ≤ g) (hbw : Below w.heap.size w W)
    (hgrow : W.grownBy w' fv.ownBlock) (hat : v'.ownBlock = fv.ownBlock ∨ v'.ownBlock = some W.heap.size) (hown : w'.ownsRow B 3 1 v' (zs.length + 1) (zs.map (.int .i64) ++ [.int .i64 z])) :
    w'.heap[g]? = some (.cells #[.bool search, lv, .slice (some ⟨kb, 0, none⟩) n kc, m1, m2] 85 (0, 0)) ∧ (∃ u, w'.cell? ⟨kb, frm * 3 + 1, none⟩ = some u ∧ w'.frozen? ⟨kb, frm * 3 + 1, none⟩ = false) ∧ (w'.setCell ⟨kb, frm * 3 + 1, none⟩ v').heap[g]? = some (.cells #[.bool search, lv, .slice (some ⟨kb, 0, none⟩) n kc, m1, m2] 85 (0, 0)) ∧
      NB (w'.setCell ⟨kb, frm * 3 + 1, none⟩ v') g B search m1 m2 ⟨s.lfs, s.kns.set frm ⟨(kn s.kns frm).free, (kn s.kns frm).lv ++ [z], (kn s.kns frm).fin⟩⟩ ∧ Below B w (w'.setCell ⟨kb, frm * 3 + 1, none⟩ v') ∧ Kp w (w'.setCell ⟨kb, frm * 3 + 1, none⟩ v') := by
  have hrf := hr.1 (2 * frm + 1) (by omega)
  rw [← hfv] at hrf
  have hgl := (Array.getElem?_eq_some_iff.1 hg).1
  have hne1 : fv.ownBlock ≠ some g := own_blk_ne hrf hg (by decide)
  have hgw := (hgrow.block g hgl (Ne.symm hne1)).trans hg
  have ho' := ho.kept hgrow (own_own ho hrf (by decide))
  have hkg : kb ≠ g := by
    have h1 := own_blk_ne ho hg (by decide)
    intro e; exact h1 (by rw [e]; rfl)
  have hkB : B ≤ kb := (ho.lt kb rfl).1
  have hgs : (w'.setCell ⟨kb, frm * 3 + 1, none⟩ v').heap[g]? = some (.cells #[.bool search, lv, .slice (some ⟨kb, 0, none⟩) n kc, m1, m2] 85 (0, 0)) := (heap_setCell_other _ _ _ _ (fun e => hkg e.symm)).trans hgw
  have hcc := ho'.cellAt (frm * 3 + 1) (by omega)
  have hfl := flat3_at (f := knC V ks) (n := n) (i := frm) (j := 1) hf (by omega)
  have hl' : LfAt (w'.setCell ⟨kb, frm * 3 + 1, none⟩ v') B lv s.lfs := hl.keep fun b cs hb => (heap_setCell_other _ _ _ _ (fun e => by
      obtain ⟨g', cap', cur', e1, -, hh, -⟩ := ho.2.resolve_left (by simp)
      simp only [Value.slice.injEq, Option.some.injEq, Addr.mk.injEq, and_true] at e1
      rw [e, e1.1, hh] at hb
      injection hb with hb
      injection hb with _ hb
      cases hb)).trans (hgrow.block b (Array.getElem?_eq_some_iff.1 hb).1 (fun e => own_blk_ne hrf hb (by decide) e.symm))
  have hput := KnAt.put (k' := ⟨(kn ks frm).free, zs ++ [z], (kn ks frm).fin⟩) (zs := zs ++ [z]) ho hn hr hf (j := 1) (by omega) (by simpa using hown) (by rw [← hfv]; exact hgrow) (by
    rw [← hfv]
    rcases hat with e | e
    · exact .inl e
    · exact .inr ⟨_, Nat.le_refl _, e⟩) (by rw [if_neg (by omega)])
  refine ⟨hgw, ⟨_, hcc.trans hfl, ho'.frozenAt _⟩, hgs, ⟨hB, lv, _, hgs, hl', ?_⟩, ?_, ?_⟩
  · rw [← hks, ← hzs]
    exact hput
  · exact (((hbw.mono hBs).grown hgrow (Nat.le_trans hBs hbw.size) fun k hk => (hrf.lt k hk).1).setCell (p := ⟨kb, frm * 3 + 1, none⟩) hkB _)
  · obtain ⟨g', cap', cur', e1, -, hh, -⟩ := ho'.2.resolve_left (by simp)
    simp only [Value.slice.injEq, Option.some.injEq, Addr.mk.injEq, and_true] at e1
    rw [← e1.1] at hh
    exact (Kp.below hbw).trans ((Kp.grown hrf (by simp) hgrow).trans (Kp.set hh (by simp)))
/-! ### laying, as plain lists -/
def layS {T : Type} (f : T → Nat → Nat → Bs → Bs) : List T → Nat → Nat → Bs → Bs
  | [], _, _, s => s
  | [k], frm, to, s => f k frm to s
  | k :: k2 :: r, frm, to, s => layS f (k2 :: r) s.kns.length to (f k frm s.kns.length s.knot)
def oftenB (kd : Int) (f : Nat → Nat → Bs → Bs) (frm to : Nat) (s : Bs) : Bs :=
  let i := s.kns.length
  let o := s.kns.length + 1
  let s1 := f i o ((s.knot.knot.arrow frm i).arrow o to)
  let s2 := if kd = 7 then s1 else s1.arrow i o
  if kd = 8 then s2 else s2.arrow o i
def layB : (d : Nat) → Tr d → Nat → Nat → Bs → Bs
  | 0, _, _, _, s => s
  | d + 1, t, frm, to, s =>
    if Tr.kind t = 4 then layS (fun k f o s => layB d k f o s) (Tr.kids t) frm to s
    else if Tr.kind t = 5 then (Tr.kids t).foldl (fun s k => layB d k frm to s) s
    else if Tr.kind t = 6 ∨ Tr.kind t = 7 ∨ Tr.kind t = 8 then
      match Tr.kids t with
      | [] => s
      | k :: _ => oftenB (Tr.kind t) (fun f o s => layB d k f o s) frm to s
    else if Tr.kind t = 9 then s.arrow frm to
    else s.leaf (Tr.kind t) (Tr.cls t) frm to
/-- How much there is at most. -/
def Bs.le (s : Bs) (m : Nat) : Prop := s.lfs.length ≤ m ∧ s.kns.length ≤ m ∧ ∀ i, (kn s.kns i).free.length ≤ m ∧ (kn s.kns i).lv.length ≤ m
theorem Bs.le.mono {s : Bs} {m n : Nat} (h : s.le m) (hmn : m ≤ n) : s.le n := ⟨by have := h.1; omega, by have := h.2.1; omega, fun i => by have := h.2.2 i; omega⟩
theorem Bs.le.knot {s : Bs} {m : Nat} (h : s.le m) : s.knot.le (m + 1) := by
  refine ⟨by have := h.1; show s.lfs.length ≤ _; omega, by show (s.kns ++ _).length ≤ _; have := h.2.1; simp; omega, fun i => ?_⟩
  show (kn (s.kns ++ [⟨[], [], 0⟩]) i).free.length ≤ _ ∧ (kn (s.kns ++ [⟨[], [], 0⟩]) i).lv.length ≤ _
  rw [kn_snoc]
  have := h.2.2 i
  split
  · omega
  · split <;> simp
theorem Bs.le.arrow {s : Bs} {m frm to : Nat} (h : s.le m) (hf : frm < s.kns.length) : (s.arrow frm to).le (m + 1) := by
  refine ⟨by have := h.1; show s.lfs.length ≤ _; omega, by show (s.kns.set _ _).length ≤ _; have := h.2.1; rw [List.length_set]; omega, fun i => ?_⟩
  unfold Bs.arrow
  simp only
  rw [kn_set hf]
  have h1 := h.2.2 i
  have h2 := h.2.2 frm
  split
  · simp; omega
  · omega
theorem Bs.le.leaf {s : Bs} {m frm to : Nat} {kd cl : Int} (h : s.le m) (hf : frm < s.kns.length) : (s.leaf kd cl frm to).le (m + 1) := by
  refine ⟨by have := h.1; show (s.lfs ++ [_]).length ≤ _; rw [List.length_append, List.length_singleton]; omega, by show (s.kns.set _ _).length ≤ _; have := h.2.1; rw [List.length_set]; omega, fun i => ?_⟩
  unfold Bs.leaf
  simp only
  rw [kn_set hf]
  have h1 := h.2.2 i
  have h2 := h.2.2 frm
  split
  · simp; omega
  · omega
theorem arrow_len (s : Bs) (f t : Nat) : (s.arrow f t).kns.length = s.kns.length := by simp [Bs.arrow]
theorem leaf_len (s : Bs) (k c : Int) (f t : Nat) : (s.leaf k c f t).kns.length = s.kns.length := by simp [Bs.leaf]
theorem knot_len (s : Bs) : s.knot.kns.length = s.kns.length + 1 := by simp [Bs.knot]
/-- Laying adds so much at most; knots never go. -/
def LayOk (f : Nat → Nat → Bs → Bs) (c : Nat) : Prop := ∀ frm to (s : Bs) m, frm < s.kns.length → to < s.kns.length → s.le m → (f frm to s).le (m + 6 * c) ∧ s.kns.length ≤ (f frm to s).kns.length
theorem layS_ok {T : Type} {f : T → Nat → Nat → Bs → Bs} {c : T → Nat} (hf : ∀ k, LayOk (f k) (c k)) : ∀ (l : List T) frm to (s : Bs) m, frm < s.kns.length → to < s.kns.length → s.le m →
    (layS f l frm to s).le (m + 6 * cntL c l + l.length) ∧ s.kns.length ≤ (layS f l frm to s).kns.length
  | [], _, _, s, m, _, _, h => ⟨h.mono (by simp [cntL]), Nat.le_refl _⟩
  | [k], frm, to, s, m, h1, h2, h => by
    obtain ⟨a, b⟩ := hf k frm to s m h1 h2 h
    exact ⟨a.mono (by simp only [cntL, List.length_singleton]; omega), b⟩
  | k :: k2 :: r, frm, to, s, m, h1, h2, h => by
    have hk := knot_len s
    obtain ⟨a, b⟩ := hf k frm s.kns.length s.knot (m + 1) (by omega) (by omega) h.knot
    obtain ⟨a2, b2⟩ := layS_ok hf (k2 :: r) s.kns.length to (f k frm s.kns.length s.knot) _ (by omega) (by omega) a
    refine ⟨a2.mono ?_, by show _ ≤ (layS f (k2 :: r) s.kns.length to (f k frm s.kns.length s.knot)).kns.length; omega⟩
    simp only [cntL, List.length_cons]
    omega
theorem layA_ok {T : Type} {f : T → Nat → Nat → Bs → Bs} {c : T → Nat} (hf : ∀ k, LayOk (f k) (c k)) : ∀ (l : List T) frm to (s : Bs) m, frm < s.kns.length → to < s.kns.length → s.le m →
    (l.foldl (fun s k => f k frm to s) s).le (m + 6 * cntL c l) ∧ s.kns.length ≤ (l.foldl (fun s k => f k frm to s) s).kns.length
  | [], _, _, s, m, _, _, h => ⟨h.mono (by simp [cntL]), Nat.le_refl _⟩
  | k :: r, frm, to, s, m, h1, h2, h => by
    obtain ⟨a, b⟩ := hf k frm to s m h1 h2 h
    obtain ⟨a2, b2⟩ := layA_ok hf r frm to (f k frm to s) _ (by omega) (by omega) a
    refine ⟨a2.mono ?_, by show _ ≤ (r.foldl (fun s k => f k frm to s) (f k frm to s)).kns.length; omega⟩
    simp only [cntL]
    omega
theorem often_ok {kd : Int} {f : Nat → Nat → Bs → Bs} {c : Nat} (hf : LayOk f c) {frm to : Nat} {s : Bs} {m : Nat} (h1 : frm < s.kns.length) (_h2 : to < s.kns.length) (h : s.le m) :
    (oftenB kd f frm to s).le (m + 6 * c + 6) ∧ s.kns.length ≤ (oftenB kd f frm to s).kns.length := by
  have k2 : s.knot.knot.kns.length = s.kns.length + 2 := by rw [knot_len, knot_len]
  have a1 := (h.knot.knot.arrow (frm := frm) (to := s.kns.length) (by omega))
  have a2 := a1.arrow (frm := s.kns.length + 1) (to := to) (by rw [arrow_len]; omega)
  obtain ⟨a3, b3⟩ := hf s.kns.length (s.kns.length + 1) _ _ (by rw [arrow_len, arrow_len]; omega) (by rw [arrow_len, arrow_len]; omega) a2
  rw [arrow_len, arrow_len] at b3
  have a4 := a3.arrow (frm := s.kns.length) (to := s.kns.length + 1) (by omega)
  unfold oftenB
  by_cases h7 : kd = 7
  · have h8 : ¬ kd = 8 := by omega
    simp only [if_pos h7, if_neg h8]
    exact ⟨(a3.arrow (by omega)).mono (by omega), by rw [arrow_len]; omega⟩
  · by_cases h8 : kd = 8
    · simp only [if_neg h7, if_pos h8]
      exact ⟨a4.mono (by omega), by rw [arrow_len]; omega⟩
    · simp only [if_neg h7, if_neg h8]
      exact ⟨(a4.arrow (by rw [arrow_len]; omega)).mono (by omega), by rw [arrow_len, arrow_len]; omega⟩
theorem cnt_pos' : ∀ (d : Nat) (t : Tr d), 1 ≤ cnt d t
  | 0, t => t.elim
  | d + 1, t => by simp only [cnt]; omega
theorem cntL_len' {T : Type} {c : T → Nat} (hc : ∀ k, 1 ≤ c k) : ∀ l : List T, l.length ≤ cntL c l
  | [] => Nat.le_refl _
  | k :: r => by have := cntL_len' hc r; have := hc k; simp only [cntL, List.length_cons]; omega
theorem layB_ok : ∀ (d : Nat) (t : Tr d), LayOk (fun f o s => layB d t f o s) (2 * cnt d t - 1)
  | 0, t => t.elim
  | d + 1, t => by
    intro frm to s m h1 h2 h
    have ih := layB_ok d
    have hL : ∀ l : List (Tr d), cntL (fun k => 2 * cnt d k - 1) l + l.length = 2 * cntL (fun k => cnt d k) l := fun l => by
      induction l with
      | nil => rfl
      | cons k r ihr =>
        have := cnt_pos' d k
        simp only [cntL, List.length_cons]
        omega
    have hlen := hL (Tr.kids t)
    simp only [layB, cnt]
    split
    · obtain ⟨a, b⟩ := layS_ok ih (Tr.kids t) frm to s m h1 h2 h
      exact ⟨a.mono (by omega), b⟩
    split
    · obtain ⟨a, b⟩ := layA_ok ih (Tr.kids t) frm to s m h1 h2 h
      exact ⟨a.mono (by omega), b⟩
    split
    · cases hk : Tr.kids t with
      | nil => exact ⟨h.mono (by omega), Nat.le_refl _⟩
      | cons k r =>
        obtain ⟨a, b⟩ := often_ok (kd := Tr.kind t) (ih k) h1 h2 h
        have := cnt_pos' d k
        refine ⟨a.mono ?_, b⟩
        simp only [cntL]
        omega
    split
    · exact ⟨(h.arrow h1).mono (by omega), by rw [arrow_len]; exact Nat.le_refl _⟩
    · exact ⟨(h.leaf h1).mono (by omega), by rw [leaf_len]; exact Nat.le_refl _⟩
end Go.Proofs.Ythdhbkngbmjjkaa
