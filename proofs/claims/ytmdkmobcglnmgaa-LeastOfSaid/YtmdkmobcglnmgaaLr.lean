/- Rows of the call's own, no two in one block; the memory that the least automaton takes while it is made. No conditions. -/
import Derived.Test.YtmdkmobcglnmgaaLq
import Derived.Test.YtmdkmobcglnmgaaBaseD
namespace Go.Proofs.Ytmdkmobcglnmgaa
open Go.RowKit

theorem Aprt.none {u v : Value} (h : u.ownBlock = none) : Aprt u v := fun g h1 _ => by rw [h] at h1; cases h1
/-- Rows of numbers, each a row of the call's own, no two in one block. -/
def RowSet (w : World) (B : Nat) (l : List (Value × List Int)) : Prop := (∀ p ∈ l, OwnI w B p.1 p.2) ∧ l.Pairwise fun p q => Aprt p.1 q.1
section
variable {w w' : World} {B : Nat} {l l' : List (Value × List Int)}
theorem RowSet.nil (w : World) (B : Nat) : RowSet w B [] := ⟨fun _ h => (by cases h), List.Pairwise.nil⟩
theorem RowSet.head {p : Value × List Int} (h : RowSet w B (p :: l)) : OwnI w B p.1 p.2 := h.1 p List.mem_cons_self
theorem RowSet.tail {p : Value × List Int} (h : RowSet w B (p :: l)) : RowSet w B l := ⟨fun q hq => h.1 q (List.mem_cons_of_mem _ hq), (List.pairwise_cons.1 h.2).2⟩
theorem RowSet.fresh (h : RowSet w B l) : RowSet w B ((.slice none 0 0, []) :: l) :=
  ⟨fun p hp => by
    rcases List.mem_cons.1 hp with rfl | hp
    · exact World.ownsRow_nil _ _ _ _
    · exact h.1 p hp, List.pairwise_cons.2 ⟨fun _ _ => Aprt.none rfl, h.2⟩⟩
theorem RowSet.perm (h : RowSet w B l) (hp : l.Perm l') : RowSet w B l' := ⟨fun p h1 => h.1 p (hp.mem_iff.2 h1), (hp.pairwise_iff (fun {_ _} h => h.symm)).1 h.2⟩
theorem RowSet.keep {row : Option Nat} (h : RowSet w B l) (hg : w.grownBy w' row) (hne : ∀ p ∈ l, p.1.ownBlock = none ∨ p.1.ownBlock ≠ row) : RowSet w' B l := ⟨fun p hp => (h.1 p hp).kept hg (hne p hp), h.2⟩
theorem RowSet.below (h : RowSet w B l) (hb : Below w.heap.size w w') : RowSet w' B l := h.keep (grown_of_below hb none) fun _ _ => Classical.em _
theorem RowSet.alloc (h : RowSet w B l) (o : Obj) : RowSet (w.alloc o) B l := ⟨fun p hp => (h.1 p hp).alloc o, h.2⟩
theorem RowSet.cells {g t : Nat} {cs : Array Value} (h : RowSet w B l) (hg : w.grownBy w' (some g)) (hb : w.heap[g]? = some (.cells cs t (0, 0))) (ht : 3 ≠ t) : RowSet w' B l := h.keep hg fun p hp => .inr (own_blk_ne (h.1 p hp) hb ht)
theorem RowSet.map {K V : Type} {enc : K → Value} {ok : K → Prop} {R : V → Value → Prop} {b : Nat} {m : List (K × V)} (h : RowSet w B l) (hg : w.grownBy w' (some b)) (hm : MapIs w b enc ok R m) : RowSet w' B l := h.keep hg fun p hp => .inr (own_map_ne (h.1 p hp) hm)
theorem RowSet.other {B' e size n : Nat} {v : Value} {xs : List Value} (h : RowSet w B l) (hg : w.grownBy w' v.ownBlock) (ho : w.ownsRow B' e size v n xs) (ht : 3 ≠ e) : RowSet w' B l := h.keep hg fun p hp => own_own (h.1 p hp) ho ht
theorem RowSet.put {v v' : Value} {z z' : List Int} (h : RowSet w B ((v, z) :: l)) (hg : w.grownBy w' v.ownBlock) (hown : OwnI w' B v' z') (hat : v'.ownBlock = v.ownBlock ∨ ∃ g, v'.ownBlock = some g ∧ w.heap.size ≤ g) : RowSet w' B ((v', z') :: l) := by
  obtain ⟨h1, h2⟩ := h
  obtain ⟨h3, h4⟩ := List.pairwise_cons.1 h2
  refine ⟨fun p hp => ?_, List.pairwise_cons.2 ⟨fun q hq g hv => ?_, h4⟩⟩
  · rcases List.mem_cons.1 hp with rfl | hp
    · exact hown
    · exact (h1 p (List.mem_cons_of_mem _ hp)).kept hg (h3 p hp).symm.ne
  · rcases hat with e | ⟨g', e, hg'⟩
    · exact h3 q hq g (by rw [← e]; exact hv)
    · intro hq2
      have hlt := ((h1 q (List.mem_cons_of_mem _ hq)).lt g hq2).2
      have : some g = some g' := hv.symm.trans e
      injection this with this
      omega
theorem RowSet.swap {p q : Value × List Int} (h : RowSet w B (p :: q :: l)) : RowSet w B (q :: p :: l) := h.perm (List.Perm.swap q p l)
theorem RowSet.push {p q : Value × List Int} (h : RowSet w B (p :: q :: l)) : RowSet w B (p :: (l ++ [q])) := h.perm (List.Perm.cons _ (by simpa using (List.perm_append_comm : ([q] ++ l).Perm (l ++ [q]))))
theorem RowSet.ownG (h : RowSet w B l) : OwnG w B (l.map (·.1)) (l.map (·.2)) := ⟨by simp, fun j r hr => by
  obtain ⟨p, hp, rfl⟩ := List.mem_map.1 (List.mem_of_getElem? hr)
  rw [List.getElem?_map] at hr
  cases hq : l[j]? with
  | none => rw [hq] at hr; cases hr
  | some q =>
    rw [hq] at hr
    have hq2 : q.2 = p.2 := by simpa using hr
    refine ⟨q.1, by simp [hq], ?_⟩
    have := h.1 q (List.mem_of_getElem? hq)
    rw [← hq2]; exact this⟩
end

/-- 'map[K]V{k: v}'. -/
theorem wpList_minsert {P : Program} {kt et : TypeId} {K V : Type} [DecidableEq K] {enc : K → Value} {ok : K → Prop} {R : V → Value → Prop} {w : World} {b : Nat} {m : List (K × V)}
    {ops : Array Oper} {rest : List Oper} {o : Oper} {a : Act} {Q : Exit → Act → World → Prop} (MK : MKey P kt enc ok) (hg : o.guard = none) (x ix v : Operand) (t : TypeId) (hop : o.op = .insert t x ix v) (ht : P.underlying t = some (.map kt et))
    (h : MapIs w b enc ok R m) (k : K) (hk : ok k) (y : V) (u : Value) (hR : R y u) (hx : a.eval x = .map (some b)) (hi : a.eval ix = enc k) (hv : a.eval v = u)
    (hK : ∀ w', MapIs w' b enc ok R (mset m k y) → w.grownBy w' (some b) → wpList P ops Q rest (a.put o.dst undef) w') : wpList P ops Q (o :: rest) a w := by
  refine wpList_plain hg fun K' hK' => ?_
  obtain ⟨w', hrun, r1, r2⟩ := h.update MK ht hk hR
  unfold Oper.wp
  simp [execOp, hop, hx, hi, hv, hrun, Result.andThen]
  exact hK' _ _ (hK w' r1 r2)

abbrev IMap (w : World) (b : Nat) (m : List (Int × Int)) : Prop := MapIs w b (fun z : Int => Value.int .i64 z) i64ok (fun (n : Int) u => u = .int .i64 n) m
/-- What the making of the least automaton keeps in memory. -/
structure LeM (B D0 bb mb p : Nat) (nv tv : Value) (bl : List Int) (w : World) (m : List (Int × Int)) (f r : Value × List Int) (rows : List (Value × List Int)) (nx tl : Value) (ts : List Int) : Prop where
  d0 : w.heap[D0]? = some (.cells #[nv, tv] 30 (0, 0))
  d1 : w.heap[D0 + 1]? = some (.cells #[.slice none 0 0, .slice none 0 0] 30 (0, 0))
  blk : IntBlk w bb 3 .i64 bl
  num : IMap w mb m
  out : w.heap[p]? = some (.cells #[nx, tl] 30 (0, 0))
  rs : RowSet w B (f :: r :: rows)
  nxo : w.ownsRow B 32 1 nx rows.length (rows.map (·.1))
  tlo : w.ownsRow B 52 1 tl ts.length (ts.map (.int .u64))
  lt : D0 + 1 < B ∧ bb < B ∧ B ≤ mb ∧ B ≤ p
section
variable {B D0 bb mb p : Nat} {nv tv : Value} {bl : List Int} {w w' : World} {m : List (Int × Int)} {f r : Value × List Int} {rows : List (Value × List Int)} {nx tl : Value} {ts : List Int}
theorem LeM.mb_ne (h : LeM B D0 bb mb p nv tv bl w m f r rows nx tl ts) : p ≠ mb := fun e => by
  have h1 := h.out
  obtain ⟨es, c, h2, _⟩ := h.num
  rw [e, h2] at h1
  cases h1
theorem LeM.grown (h : LeM B D0 bb mb p nv tv bl w m f r rows nx tl ts) (hb : Below w.heap.size w w') : LeM B D0 bb mb p nv tv bl w' m f r rows nx tl ts :=
  have hlt : ∀ {g : Nat} {o : Obj}, w.heap[g]? = some o → g < w.heap.size := fun h => (Array.getElem?_eq_some_iff.1 h).1
  ⟨(hb.block _ (hlt h.d0)).trans h.d0, (hb.block _ (hlt h.d1)).trans h.d1, h.blk.keep (hb.block _ h.blk.lt), h.num.keep (hb.block _ h.num.lt), (hb.block _ (hlt h.out)).trans h.out, h.rs.below hb,
   h.nxo.kept (grown_of_below hb none) (Classical.em _), h.tlo.kept (grown_of_below hb none) (Classical.em _), h.lt⟩
theorem LeM.alloc (h : LeM B D0 bb mb p nv tv bl w m f r rows nx tl ts) (o : Obj) : LeM B D0 bb mb p nv tv bl (w.alloc o) m f r rows nx tl ts := h.grown ((Below.refl _ _).alloc (Nat.le_refl _) _)
/-- A row of numbers from B on is written. -/
theorem LeM.parts {g : Option Nat} (h : LeM B D0 bb mb p nv tv bl w m f r rows nx tl ts) (hg : w.grownBy w' g) (hB : ∀ q, g = some q → B ≤ q) : w'.heap[D0]? = some (.cells #[nv, tv] 30 (0, 0)) ∧ w'.heap[D0 + 1]? = some (.cells #[.slice none 0 0, .slice none 0 0] 30 (0, 0)) ∧ IntBlk w' bb 3 .i64 bl := by
  have hl := h.lt
  have hlt : ∀ {g : Nat} {o : Obj}, w.heap[g]? = some o → g < w.heap.size := fun h => (Array.getElem?_eq_some_iff.1 h).1
  have ne : ∀ q, q < B → some q ≠ g := fun q hq e => by have := hB q e.symm; omega
  exact ⟨(hg.block _ (hlt h.d0) (ne _ (by omega))).trans h.d0, (hg.block _ (hlt h.d1) (ne _ (by omega))).trans h.d1, h.blk.keep (hg.block _ h.blk.lt (ne _ (by omega)))⟩
theorem LeM.seen {g : Option Nat} (h : LeM B D0 bb mb p nv tv bl w m f r rows nx tl ts) (hg : w.grownBy w' g) (hB : ∀ q, g = some q → B ≤ q) (hne : f.1.ownBlock = none ∨ f.1.ownBlock ≠ g) : w'.heap[D0]? = some (.cells #[nv, tv] 30 (0, 0)) ∧ OwnI w' B f.1 f.2 :=
  ⟨(h.parts hg hB).1, h.rs.head.kept hg hne⟩
theorem LeM.mset (h : LeM B D0 bb mb p nv tv bl w m f r rows nx tl ts) {m' : List (Int × Int)} (hm : IMap w' mb m') (hg : w.grownBy w' (some mb)) : LeM B D0 bb mb p nv tv bl w' m' f r rows nx tl ts := by
  obtain ⟨a, b, c⟩ := h.parts hg (fun q hq => by cases hq; exact h.lt.2.2.1)
  have hne := h.mb_ne
  exact ⟨a, b, c, hm, (hg.block _ (Array.getElem?_eq_some_iff.1 h.out).1 (fun e => hne (by injection e))).trans h.out, h.rs.map hg h.num, h.nxo.kept hg (.inr (own_map_ne h.nxo h.num)), h.tlo.kept hg (.inr (own_map_ne h.tlo h.num)), h.lt⟩
/-- Either row at the head is written. -/
theorem LeM.put (h : LeM B D0 bb mb p nv tv bl w m f r rows nx tl ts) {v : Value} {B2 n : Nat} {xs : List Value} (ho : w.ownsRow B2 3 1 v n xs) (hB : B ≤ B2) (hg : w.grownBy w' v.ownBlock) {f' r' : Value × List Int} (hrs : RowSet w' B (f' :: r' :: rows)) : LeM B D0 bb mb p nv tv bl w' m f' r' rows nx tl ts := by
  obtain ⟨a, b, c⟩ := h.parts hg (fun q hq => Nat.le_trans hB (ho.lt q hq).1)
  exact ⟨a, b, c, h.num.keep (hg.block _ h.num.lt (Ne.symm (own_map_ne ho h.num))), (hg.block _ (Array.getElem?_eq_some_iff.1 h.out).1 (Ne.symm (own_blk_ne ho h.out (by decide)))).trans h.out, hrs, h.nxo.kept hg (own_own h.nxo ho (by decide)), h.tlo.kept hg (own_own h.tlo ho (by decide)), h.lt⟩
theorem LeM.putF {v : Value} {z z' : List Int} (h : LeM B D0 bb mb p nv tv bl w m (v, z) r rows nx tl ts) (hg : w.grownBy w' v.ownBlock) {v' : Value} (hown : OwnI w' B v' z') (hat : v'.ownBlock = v.ownBlock ∨ ∃ g, v'.ownBlock = some g ∧ w.heap.size ≤ g) : LeM B D0 bb mb p nv tv bl w' m (v', z') r rows nx tl ts :=
  h.put h.rs.head (Nat.le_refl _) hg (h.rs.put hg hown hat)
theorem LeM.putR {v : Value} {z z' : List Int} (h : LeM B D0 bb mb p nv tv bl w m f (v, z) rows nx tl ts) (hg : w.grownBy w' v.ownBlock) {v' : Value} (hown : OwnI w' B v' z') (hat : v'.ownBlock = v.ownBlock ∨ ∃ g, v'.ownBlock = some g ∧ w.heap.size ≤ g) : LeM B D0 bb mb p nv tv bl w' m f (v', z') rows nx tl ts :=
  h.put h.rs.tail.head (Nat.le_refl _) hg (h.rs.swap.put hg hown hat).swap
/-- The row is done. -/
theorem LeM.row {v : Value} {z : List Int} (h : LeM B D0 bb mb p nv tv bl w m f (v, z) rows nx tl ts) (hg : w.grownBy w' nx.ownBlock) {nx' : Value} (hown : w'.ownsRow B 32 1 nx' (rows ++ [(v, z)]).length ((rows ++ [(v, z)]).map (·.1))) :
    w'.heap[p]? = some (.cells #[nx, tl] 30 (0, 0)) ∧ LeM B D0 bb mb p nv tv bl (w'.setCell ⟨p, 0, none⟩ nx') m f (.slice none 0 0, []) (rows ++ [(v, z)]) nx' tl ts := by
  have hl := h.lt
  obtain ⟨a, b, c⟩ := h.parts hg (fun q hq => (h.nxo.lt q hq).1)
  have ho : w'.heap[p]? = some (.cells #[nx, tl] 30 (0, 0)) := (hg.block _ (Array.getElem?_eq_some_iff.1 h.out).1 (Ne.symm (own_blk_ne h.nxo h.out (by decide)))).trans h.out
  have hs : w'.grownBy (w'.setCell ⟨p, 0, none⟩ nx') (some p) := grown_setCell (World.grownBy.refl _ _) _ _
  have hlt : ∀ {g : Nat} {o : Obj}, w'.heap[g]? = some o → g < w'.heap.size := fun h => (Array.getElem?_eq_some_iff.1 h).1
  have hn : IMap w' mb m := h.num.keep (hg.block _ h.num.lt (Ne.symm (own_map_ne h.nxo h.num)))
  have hr : RowSet w' B (f :: (v, z) :: rows) := h.rs.other hg h.nxo (by decide)
  have ne : ∀ q, q < B → some q ≠ some p := fun q hq e => by injection e with e; omega
  have hne := h.mb_ne
  have ht := h.tlo.kept hg (own_own h.tlo h.nxo (by decide))
  exact ⟨ho, (hs.block _ (hlt a) (ne _ (by omega))).trans a, (hs.block _ (hlt b) (ne _ (by omega))).trans b, c.keep (hs.block _ c.lt (ne _ (by omega))), hn.keep (hs.block _ hn.lt (fun e => hne (by injection e with e; exact e.symm))),
    heap_setCell_same w' p 0 _ 30 _ ho, (hr.push.cells hs ho (by decide)).perm (by
      have h1 : (f :: (rows ++ [(v, z)])).Perm (f :: (rows ++ [(v, z)])) := List.Perm.refl _
      exact h1) |>.fresh.swap, hown.kept hs (.inr (own_blk_ne hown ho (by decide))), ht.kept hs (.inr (own_blk_ne ht ho (by decide))), h.lt⟩
/-- What the state tells is done. -/
theorem LeM.tell (h : LeM B D0 bb mb p nv tv bl w m f r rows nx tl ts) (hg : w.grownBy w' tl.ownBlock) {tl' : Value} {z : Int} (hown : w'.ownsRow B 52 1 tl' (ts ++ [z]).length ((ts ++ [z]).map (.int .u64))) :
    w'.heap[p]? = some (.cells #[nx, tl] 30 (0, 0)) ∧ LeM B D0 bb mb p nv tv bl (w'.setCell ⟨p, 1, none⟩ tl') m f r rows nx tl' (ts ++ [z]) := by
  have hl := h.lt
  obtain ⟨a, b, c⟩ := h.parts hg (fun q hq => (h.tlo.lt q hq).1)
  have ho : w'.heap[p]? = some (.cells #[nx, tl] 30 (0, 0)) := (hg.block _ (Array.getElem?_eq_some_iff.1 h.out).1 (Ne.symm (own_blk_ne h.tlo h.out (by decide)))).trans h.out
  have hs : w'.grownBy (w'.setCell ⟨p, 1, none⟩ tl') (some p) := grown_setCell (World.grownBy.refl _ _) _ _
  have hlt : ∀ {g : Nat} {o : Obj}, w'.heap[g]? = some o → g < w'.heap.size := fun h => (Array.getElem?_eq_some_iff.1 h).1
  have hn : IMap w' mb m := h.num.keep (hg.block _ h.num.lt (Ne.symm (own_map_ne h.tlo h.num)))
  have hr : RowSet w' B (f :: r :: rows) := h.rs.other hg h.tlo (by decide)
  have ne : ∀ q, q < B → some q ≠ some p := fun q hq e => by injection e with e; omega
  have hne := h.mb_ne
  have hx := h.nxo.kept hg (own_own h.nxo h.tlo (by decide))
  exact ⟨ho, (hs.block _ (hlt a) (ne _ (by omega))).trans a, (hs.block _ (hlt b) (ne _ (by omega))).trans b, c.keep (hs.block _ c.lt (ne _ (by omega))), hn.keep (hs.block _ hn.lt (fun e => hne (by injection e with e; exact e.symm))),
    heap_setCell_same w' p 1 _ 30 _ ho, hr.cells hs ho (by decide), hx.kept hs (.inr (own_blk_ne hx ho (by decide))), hown.kept hs (.inr (own_blk_ne hown ho (by decide))), h.lt⟩
end
end Go.Proofs.Ytmdkmobcglnmgaa
