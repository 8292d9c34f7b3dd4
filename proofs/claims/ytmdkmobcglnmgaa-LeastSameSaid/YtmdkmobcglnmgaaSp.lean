/- States in blocks: a map of rows of one's own; the splitter in memory. No conditions. -/
import Derived.Test.YtmdkmobcglnmgaaKy
import Derived.Test.YtmdkmobcglnmgaaNum
namespace Go.Proofs.Ytmdkmobcglnmgaa
open Go.RowKit

/-- A row: its value, and the numbers in it. -/
abbrev GV := Value × List Int
abbrev gR (v : GV) (u : Value) : Prop := u = v.1
abbrev GMap (w : World) (b : Nat) (st : List (Int × GV)) : Prop := MapIs w b (fun z : Int => Value.int .i64 z) i64ok gR st
def lst (st : List (Int × GV)) (b : Int) : List Int := ((mget st b).map (·.2)).getD []
def rowV (st : List (Int × GV)) (b : Int) : Value := ((mget st b).map (·.1)).getD (.slice none 0 0)
theorem lst_mset (st : List (Int × GV)) (b : Int) (x : GV) (c : Int) : lst (mset st b x) c = if b = c then x.2 else lst st c := by
  unfold lst
  rw [mget_mset]
  split <;> rfl
theorem mem_mset_ne {K V : Type} [DecidableEq K] {m : List (K × V)} (ho : Once m) {k : K} {v : V} {p : K × V} (h : p ∈ mset m k v) : p = (k, v) ∨ (p ∈ m ∧ p.1 ≠ k) := by
  by_cases e : p.1 = k
  · left
    have h1 := mget_of_mem (once_mset ho k v) (k := p.1) (v := p.2) h
    rw [mget_mset, if_pos e.symm] at h1
    cases h1
    rw [← e]
  · rcases mem_mset h with rfl | h
    · exact absurd rfl e
    · exact .inr ⟨h, e⟩
theorem pairwise_mset {K V : Type} [DecidableEq K] {R : K × V → K × V → Prop} (hs : ∀ {p q}, R p q → R q p) {m : List (K × V)} (ho : Once m) (h : m.Pairwise R) {k : K} {v : V} (hk : ∀ p ∈ m, p.1 ≠ k → R p (k, v)) : (mset m k v).Pairwise R := by
  induction m with
  | nil => exact List.pairwise_singleton _ _
  | cons p r ih =>
    obtain ⟨a, u⟩ := p
    obtain ⟨h1, h2⟩ := List.pairwise_cons.1 h
    obtain ⟨o1, o2⟩ := List.pairwise_cons.1 ho
    simp only [mset]
    split
    · rename_i e
      subst e
      exact List.pairwise_cons.2 ⟨fun q hq => hs (hk q (List.mem_cons_of_mem _ hq) (fun e => o1 q hq e.symm)), h2⟩
    · rename_i e
      refine List.pairwise_cons.2 ⟨fun q hq => ?_, ih o2 h2 fun q hq hne => hk q (List.mem_cons_of_mem _ hq) hne⟩
      rcases mem_mset hq with rfl | hq
      · exact hk (a, u) List.mem_cons_self e
      · exact h1 q hq
/-- Two rows lie apart. -/
def Aprt (u v : Value) : Prop := ∀ g, u.ownBlock = some g → v.ownBlock ≠ some g
theorem Aprt.symm {u v : Value} (h : Aprt u v) : Aprt v u := fun g h1 h2 => h g h2 h1
theorem Aprt.ne {u v : Value} (h : Aprt u v) : u.ownBlock = none ∨ u.ownBlock ≠ v.ownBlock := by
  cases e : u.ownBlock with
  | none => exact .inl rfl
  | some g => exact .inr fun e2 => h g e e2.symm
theorem aprt_nil (u : Value) : Aprt u (.slice none 0 0) := fun g _ h => by cases h
abbrev OwnI (w : World) (B : Nat) (v : Value) (l : List Int) : Prop := w.ownsRow B 3 1 v l.length (l.map (.int .i64))
/-- The rows of a map: each is the call's own, and they lie apart. -/
def Rows (w : World) (B : Nat) (st : List (Int × GV)) : Prop := (∀ p ∈ st, OwnI w B p.2.1 p.2.2) ∧ st.Pairwise fun p q => Aprt p.2.1 q.2.1
def NotIn (g : Nat) (st : List (Int × GV)) : Prop := ∀ p ∈ st, p.2.1.ownBlock ≠ some g
theorem Rows.nil (w : World) (B : Nat) : Rows w B [] := ⟨fun _ h => (by cases h), List.Pairwise.nil⟩
theorem Rows.row {w : World} {B : Nat} {st : List (Int × GV)} (h : Rows w B st) (b : Int) : OwnI w B (rowV st b) (lst st b) := by
  unfold rowV lst
  cases hg : mget st b with
  | none => exact World.ownsRow_nil _ _ _ _
  | some x => exact h.1 (b, x) (mget_mem hg)
theorem Rows.apart {w : World} {B : Nat} {st : List (Int × GV)} (h : Rows w B st) {p : Int × GV} (hp : p ∈ st) {b : Int} (hne : p.1 ≠ b) : Aprt p.2.1 (rowV st b) := by
  unfold rowV
  cases hg : mget st b with
  | none => exact aprt_nil _
  | some x =>
    have hm := mget_mem hg
    obtain ⟨i, hi⟩ := List.getElem?_of_mem hp
    obtain ⟨j, hj⟩ := List.getElem?_of_mem hm
    obtain ⟨hi1, hi2⟩ := List.getElem?_eq_some_iff.1 hi
    obtain ⟨hj1, hj2⟩ := List.getElem?_eq_some_iff.1 hj
    have hpw := List.pairwise_iff_getElem.1 h.2
    rcases Nat.lt_trichotomy i j with hlt | rfl | hlt
    · have := hpw i j hi1 hj1 hlt
      rw [hi2, hj2] at this
      exact this
    · rw [hi2] at hj2
      subst hj2
      exact absurd rfl hne
    · have := hpw j i hj1 hi1 hlt
      rw [hi2, hj2] at this
      exact this.symm
theorem Rows.grown {w w' : World} {B : Nat} {row : Option Nat} {st : List (Int × GV)} (h : Rows w B st) (hg : w.grownBy w' row) (hne : ∀ p ∈ st, p.2.1.ownBlock = none ∨ p.2.1.ownBlock ≠ row) : Rows w' B st :=
  ⟨fun p hp => (h.1 p hp).kept hg (hne p hp), h.2⟩
/-- A row is written anew, or has moved. -/
theorem Rows.put {w w' : World} {B : Nat} {st : List (Int × GV)} (h : Rows w B st) (ho : Once st) {b : Int} {v' : Value} {l' : List Int} (hg : w.grownBy w' (rowV st b).ownBlock) (hown : OwnI w' B v' l')
    (hat : v'.ownBlock = (rowV st b).ownBlock ∨ ∃ g, v'.ownBlock = some g ∧ w.heap.size ≤ g) : Rows w' B (mset st b (v', l')) := by
  have hap : ∀ p ∈ st, p.1 ≠ b → Aprt p.2.1 v' := by
    intro p hp hne g h1 h2
    rcases hat with e | ⟨g', e, hg'⟩
    · exact h.apart hp hne g h1 (by rw [← e]; exact h2)
    · rw [e] at h2
      injection h2 with h2
      have := ((h.1 p hp).lt g h1).2
      omega
  refine ⟨fun p hp => ?_, pairwise_mset (fun h => h.symm) ho h.2 hap⟩
  rcases mem_mset_ne ho hp with rfl | ⟨hp, hne⟩
  · exact hown
  · exact (h.1 p hp).kept hg (h.apart hp hne).ne
theorem NotIn.put {w : World} {g : Nat} {st : List (Int × GV)} (h : NotIn g st) {b : Int} {v' : Value} {l' : List Int} (hlt : g < w.heap.size) (hat : v'.ownBlock = (rowV st b).ownBlock ∨ ∃ g', v'.ownBlock = some g' ∧ w.heap.size ≤ g') : NotIn g (mset st b (v', l')) := fun p hp => by
  rcases mem_mset hp with rfl | hp
  · intro h2
    rcases hat with e | ⟨g', e, hg'⟩
    · have h3 : (rowV st b).ownBlock = some g := e.symm.trans h2
      unfold rowV at h3
      cases hm : mget st b with
      | none => rw [hm] at h3; cases h3
      | some x =>
        rw [hm] at h3
        exact h _ (mget_mem hm) h3
    · have h3 := e.symm.trans h2
      injection h3 with h3
      omega
  · exact h p hp

/-- What a splitter's fields hold that stays: the blocks of its parts, its table. -/
structure Sx where
  B : Nat
  sb : Nat
  bb : Nat
  bs : Nat
  bt : Nat
  nb : Nat
  no : Nat
  nc : Nat
  tb : Nat
  to' : Nat
  tc : Nat
  n : Nat
def Sx.ok (x : Sx) : Prop := x.B ≤ x.sb ∧ x.B ≤ x.bb ∧ x.B ≤ x.bs ∧ x.B ≤ x.bt ∧ x.bs ≠ x.bt
abbrev TMap (w : World) (b : Nat) (td : List ((Int × Int) × Unit)) : Prop := MapIs w b pairV pairOk (fun (_ : Unit) u => u = .bool true) td
def SHead (x : Sx) (w : World) (fv : Value) (many : Int) : Prop :=
  w.heap[x.sb]? = some (.cells #[.slice (some ⟨x.nb, x.no, none⟩) x.n x.nc, .slice (some ⟨x.tb, x.to', none⟩) x.n x.tc, fv, .slice (some ⟨x.bb, 0, none⟩) x.n x.n, .map (some x.bs), .map (some x.bt), .int .i64 many] 101 (0, 0))
/-- The splitter in memory. -/
def SpM (x : Sx) (w : World) (fv : Value) (many : Int) (blk : List Int) (st : List (Int × GV)) (td : List ((Int × Int) × Unit)) : Prop :=
  SHead x w fv many ∧ IntBlk w x.bb 3 .i64 blk ∧ GMap w x.bs st ∧ Rows w x.B st ∧ NotIn x.bb st ∧ TMap w x.bt td
section
variable {x : Sx} {w w' : World} {fv : Value} {many : Int} {blk : List Int} {st : List (Int × GV)} {td : List ((Int × Int) × Unit)}
theorem SHead.cells (h : SHead x w fv many) : w.cell? ⟨x.sb, 0, none⟩ = some (.slice (some ⟨x.nb, x.no, none⟩) x.n x.nc) ∧ w.cell? ⟨x.sb, 1, none⟩ = some (.slice (some ⟨x.tb, x.to', none⟩) x.n x.tc) ∧ w.cell? ⟨x.sb, 2, none⟩ = some fv ∧
    w.cell? ⟨x.sb, 3, none⟩ = some (.slice (some ⟨x.bb, 0, none⟩) x.n x.n) ∧ w.cell? ⟨x.sb, 4, none⟩ = some (.map (some x.bs)) ∧ w.cell? ⟨x.sb, 5, none⟩ = some (.map (some x.bt)) ∧ w.cell? ⟨x.sb, 6, none⟩ = some (.int .i64 many) :=
  ⟨by rw [cell_of_row _ _ _ _ _ _ h]; rfl, by rw [cell_of_row _ _ _ _ _ _ h]; rfl, by rw [cell_of_row _ _ _ _ _ _ h]; rfl, by rw [cell_of_row _ _ _ _ _ _ h]; rfl, by rw [cell_of_row _ _ _ _ _ _ h]; rfl, by rw [cell_of_row _ _ _ _ _ _ h]; rfl, by rw [cell_of_row _ _ _ _ _ _ h]; rfl⟩
theorem SHead.frozen (h : SHead x w fv many) (j : Nat) : w.frozen? ⟨x.sb, j, none⟩ = false := frozen_of_row _ _ _ _ _ h
theorem SHead.lt (h : SHead x w fv many) : x.sb < w.heap.size := (Array.getElem?_eq_some_iff.1 h).1
theorem SHead.keep (h : SHead x w fv many) (hk : w'.heap[x.sb]? = w.heap[x.sb]?) : SHead x w' fv many := hk.trans h
theorem SHead.setMany (h : SHead x w fv many) (z : Int) : SHead x (w.setCell ⟨x.sb, 6, none⟩ (.int .i64 z)) fv z := heap_setCell_same w x.sb 6 _ 101 _ h
theorem SHead.setFrom (h : SHead x w fv many) (v : Value) : SHead x (w.setCell ⟨x.sb, 2, none⟩ v) v many := heap_setCell_same w x.sb 2 _ 101 _ h
theorem SHead.ne_map {K V : Type} {enc : K → Value} {ok : K → Prop} {R : V → Value → Prop} {b : Nat} {m : List (K × V)} (h : SHead x w fv many) (hm : MapIs w b enc ok R m) : x.sb ≠ b := fun e => by
  obtain ⟨es, clock, hb, _⟩ := hm
  rw [← e, show w.heap[x.sb]? = _ from h] at hb
  cases hb
theorem SHead.ne_blk {g : Nat} {k : IntKind} {l : List Int} (h : SHead x w fv many) (hb : IntBlk w g 3 k l) : x.sb ≠ g := fun e => by
  have h1 : w.heap[g]? = _ := hb
  rw [← e, show w.heap[x.sb]? = _ from h] at h1
  injection h1 with h1
  injection h1 with _ h1
  cases h1
theorem SHead.ne_row (h : SHead x w fv many) {B n : Nat} {v : Value} {xs : List Value} (ho : w.ownsRow B 3 1 v n xs) : v.ownBlock ≠ some x.sb := own_blk_ne ho h (by decide)
theorem blk_ne_map {K V : Type} {enc : K → Value} {ok : K → Prop} {R : V → Value → Prop} {b g : Nat} {m : List (K × V)} {k : IntKind} {l : List Int} (h : IntBlk w g 3 k l) (hm : MapIs w b enc ok R m) : g ≠ b := fun e => by
  obtain ⟨es, clock, hb, _⟩ := hm
  rw [← e, show w.heap[g]? = _ from h] at hb
  cases hb
/-- Anything elsewhere is written, or made. -/
theorem SpM.grown {row : Option Nat} (h : SpM x w fv many blk st td) (hg : w.grownBy w' row) (h1 : some x.sb ≠ row) (h2 : some x.bb ≠ row) (h3 : some x.bs ≠ row) (h4 : some x.bt ≠ row) (h5 : ∀ p ∈ st, p.2.1.ownBlock = none ∨ p.2.1.ownBlock ≠ row) : SpM x w' fv many blk st td := by
  obtain ⟨a, b, c, d, e, f⟩ := h
  exact ⟨a.keep (hg.block _ a.lt h1), b.keep (hg.block _ b.lt h2), c.grown hg h3, d.grown hg h5, e, f.grown hg h4⟩
theorem SpM.below (h : SpM x w fv many blk st td) (hb : Below w.heap.size w w') : SpM x w' fv many blk st td :=
  h.grown (grown_of_below hb none) (by simp) (by simp) (by simp) (by simp) fun _ _ => Classical.em _
theorem SpM.setMany (h : SpM x w fv many blk st td) (z : Int) : SpM x (w.setCell ⟨x.sb, 6, none⟩ (.int .i64 z)) fv z blk st td := by
  obtain ⟨a, b, c, d, e, f⟩ := h
  have hg : w.grownBy (w.setCell ⟨x.sb, 6, none⟩ (.int .i64 z)) (some x.sb) := grown_setCell (World.grownBy.refl w _) 6 _
  exact ⟨a.setMany z, b.keep (hg.block _ b.lt (fun e => a.ne_blk b (by injection e with e; exact e.symm))), c.grown hg (fun e => a.ne_map c (by injection e with e; exact e.symm)), d.grown hg fun p hp => .inr (a.ne_row (d.1 p hp)), e, f.grown hg (fun e => a.ne_map f (by injection e with e; exact e.symm))⟩
theorem SpM.setFrom (h : SpM x w fv many blk st td) (v : Value) : SpM x (w.setCell ⟨x.sb, 2, none⟩ v) v many blk st td := by
  obtain ⟨a, b, c, d, e, f⟩ := h
  have hg : w.grownBy (w.setCell ⟨x.sb, 2, none⟩ v) (some x.sb) := grown_setCell (World.grownBy.refl w _) 2 _
  exact ⟨a.setFrom v, b.keep (hg.block _ b.lt (fun e => a.ne_blk b (by injection e with e; exact e.symm))), c.grown hg (fun e => a.ne_map c (by injection e with e; exact e.symm)), d.grown hg fun p hp => .inr (a.ne_row (d.1 p hp)), e, f.grown hg (fun e => a.ne_map f (by injection e with e; exact e.symm))⟩
theorem SpM.setBlk (h : SpM x w fv many blk st td) (j : Nat) (z : Int) : SpM x (w.setCell ⟨x.bb, j, none⟩ (.int .i64 z)) fv many (blk.set j z) st td := by
  obtain ⟨a, b, c, d, e, f⟩ := h
  have hg : w.grownBy (w.setCell ⟨x.bb, j, none⟩ (.int .i64 z)) (some x.bb) := grown_setCell (World.grownBy.refl w _) j _
  exact ⟨a.keep (hg.block _ a.lt (fun e => a.ne_blk b (by injection e))), b.set j z, c.grown hg (fun e => blk_ne_map b c (by injection e with e; exact e.symm)), d.grown hg fun p hp => .inr (e p hp), e, f.grown hg (fun e => blk_ne_map b f (by injection e with e; exact e.symm))⟩
/-- A row's new value, then the map's entry. -/
theorem SpM.row (hx : x.ok) (h : SpM x w fv many blk st td) {b : Int} {v' : Value} {l' : List Int} {w1 : World} (hg : w.grownBy w1 (rowV st b).ownBlock) (hown : OwnI w1 x.B v' l') (hat : v'.ownBlock = (rowV st b).ownBlock ∨ ∃ g, v'.ownBlock = some g ∧ w.heap.size ≤ g)
    (hm : GMap w' x.bs (mset st b (v', l'))) (hg2 : w1.grownBy w' (some x.bs)) (hm1 : GMap w1 x.bs st) : SpM x w' fv many blk (mset st b (v', l')) td := by
  obtain ⟨a, bk, c, d, e, f⟩ := h
  have hr := d.row b
  have a1 := a.keep (hg.block _ a.lt (Ne.symm (a.ne_row hr)))
  have hbb : some x.bb ≠ (rowV st b).ownBlock := by
    intro h2
    unfold rowV at h2
    cases hq : mget st b with
    | none => rw [hq] at h2; cases h2
    | some y => rw [hq] at h2; exact e _ (mget_mem hq) h2.symm
  have b1 := bk.keep (hg.block _ bk.lt hbb)
  have r1 := d.put c.once hg hown hat
  have f1 := f.grown hg (Ne.symm (own_map_ne hr f))
  exact ⟨a1.keep (hg2.block _ a1.lt (fun e => a1.ne_map hm1 (by injection e))), b1.keep (hg2.block _ b1.lt (fun e => blk_ne_map b1 hm1 (by injection e))), hm, r1.grown hg2 fun p hp => .inr (own_map_ne (r1.1 p hp) hm1), e.put bk.lt hat, f1.grown hg2 (fun e => hx.2.2.2.2 (by injection e with e; exact e.symm))⟩
theorem SpM.todo (hx : x.ok) (h : SpM x w fv many blk st td) {td' : List ((Int × Int) × Unit)} (hm : TMap w' x.bt td') (hg : w.grownBy w' (some x.bt)) : SpM x w' fv many blk st td' := by
  obtain ⟨a, b, c, d, e, f⟩ := h
  exact ⟨a.keep (hg.block _ a.lt (fun e => a.ne_map f (by injection e))), b.keep (hg.block _ b.lt (fun e => blk_ne_map b f (by injection e))), c.grown hg (fun e => hx.2.2.2.2 (by injection e)), d.grown hg fun p hp => .inr (own_map_ne (d.1 p hp) f), e, hm⟩
end
/-- What the table tells, in its cells. -/
def TellsAt (x : Sx) (w : World) (ts : List Int) : Prop := ts.length = x.n ∧ x.tb < x.B ∧ ∀ k, k < x.n → w.cell? ⟨x.tb, x.to' + k, none⟩ = some (.int .u64 (nth ts k))
theorem TellsAt.below {x : Sx} {w w' : World} {ts : List Int} (h : TellsAt x w ts) (hb : Below x.B w w') : TellsAt x w' ts :=
  ⟨h.1, h.2.1, fun k hk => (hb.cell (p := ⟨x.tb, x.to' + k, none⟩) h.2.1).trans (h.2.2 k hk)⟩
/-- The table's rows, in their cells. -/
def NextAt (x : Sx) (w : World) (rs : List (List Int)) : Prop := rs.length = x.n ∧ x.nb < x.B ∧ ∀ i, i < x.n → (row rs i).length = 37 ∧ (∀ m, m < 37 → 0 ≤ nth (row rs i) m ∧ nth (row rs i) m < x.n) ∧
  ∃ b o c, w.cell? ⟨x.nb, x.no + i, none⟩ = some (.slice (some ⟨b, o, none⟩) 37 c) ∧ b < x.B ∧ ∀ m, m < 37 → w.cell? ⟨b, o + m, none⟩ = some (.int .i64 (nth (row rs i) m))
theorem NextAt.below {x : Sx} {w w' : World} {rs : List (List Int)} (h : NextAt x w rs) (hb : Below x.B w w') : NextAt x w' rs :=
  ⟨h.1, h.2.1, fun i hi => by
    obtain ⟨h1, h2, b, o, c, h3, h4, h5⟩ := h.2.2 i hi
    exact ⟨h1, h2, b, o, c, (hb.cell (p := ⟨x.nb, x.no + i, none⟩) h.2.1).trans h3, h4, fun m hm => (hb.cell (p := ⟨b, o + m, none⟩) h4).trans (h5 m hm)⟩⟩
end Go.Proofs.Ytmdkmobcglnmgaa
