/- The least automaton, plain: as it is met from the first state on. No conditions. -/
import Derived.Test.YtmdkmobcglnmgaaRn
import Derived.Test.YtmdkmobcglnmgaaBaseD
namespace Go.Proofs.Ytmdkmobcglnmgaa
open Go.RowKit

/-- The place of the first that is alike. -/
def fnd (al : Int → Int → Bool) (f : List Int) (z : Int) : Nat := f.findIdx fun a => al a z
/-- A state is met: who is known, and the row. -/
def lStep (al : Int → Int → Bool) (s : List Int × List Int) (z : Int) : List Int × List Int := (if fnd al s.1 z < s.1.length then s.1 else s.1 ++ [z], s.2 ++ [(fnd al s.1 z : Int)])
def lRow (al : Int → Int → Bool) (f r : List Int) : List Int × List Int := r.foldl (lStep al) (f, [])
/-- A state's row is told. -/
def lRound (al : Int → Int → Bool) (d : D) (s : List Int × D) : List Int × D :=
  match s.1[s.2.next.length]? with
  | none => s
  | some q => ((lRow al s.1 (row d.next q.toNat)).1, ⟨s.2.next ++ [(lRow al s.1 (row d.next q.toNat)).2], s.2.tells ++ [nth d.tells q.toNat]⟩)
def lIter (al : Int → Int → Bool) (d : D) : Nat → List Int × D
  | 0 => ([0], ⟨[], []⟩)
  | i + 1 => lRound al d (lIter al d i)
/-- The least automaton, by who is alike. -/
def leastD (al : Int → Int → Bool) (d : D) : D := (lIter al d d.next.length).2

theorem lRow_snoc (al : Int → Int → Bool) (f r : List Int) (z : Int) : lRow al f (r ++ [z]) = lStep al (lRow al f r) z := by simp [lRow, List.foldl_append]
theorem lStep_len (al : Int → Int → Bool) (s : List Int × List Int) (z : Int) : (lStep al s z).2.length = s.2.length + 1 := by simp [lStep]
theorem lRow_len (al : Int → Int → Bool) (f r : List Int) : (lRow al f r).2.length = r.length := by
  have key : ∀ (r : List Int) (s : List Int × List Int), (r.foldl (lStep al) s).2.length = s.2.length + r.length := by
    intro r
    induction r with
    | nil => intro s; rfl
    | cons z r ih => intro s; simp only [List.foldl_cons, List.length_cons]; rw [ih, lStep_len]; omega
  have := key r (f, [])
  simpa [lRow] using this
/-- Who is known: states, no two alike. -/
structure FIs (al : Int → Int → Bool) (n : Nat) (f : List Int) : Prop where
  at' : ∀ z ∈ f, ∃ s : Nat, z = s ∧ s < n
  no : f.Pairwise fun a b => al a b = false
theorem FIs.step {al : Int → Int → Bool} {n : Nat} {s : List Int × List Int} (h : FIs al n s.1) {z : Int} (hz : ∃ t : Nat, z = t ∧ t < n) : FIs al n (lStep al s z).1 := by
  simp only [lStep]
  split
  · exact h
  · rename_i hn
    refine ⟨fun y hy => ?_, ?_⟩
    · rcases List.mem_append.1 hy with hy | hy
      · exact h.at' y hy
      · rw [List.mem_singleton.1 hy]; exact hz
    · rw [List.pairwise_append]
      refine ⟨h.no, List.pairwise_singleton _ _, fun a ha b hb => ?_⟩
      rw [List.mem_singleton.1 hb]
      cases e : al a z with
      | false => rfl
      | true => exact absurd (List.findIdx_lt_length_of_exists ⟨a, ha, e⟩) hn
theorem FIs.row {al : Int → Int → Bool} {n : Nat} {f : List Int} (h : FIs al n f) : ∀ {r : List Int}, (∀ z ∈ r, ∃ t : Nat, z = t ∧ t < n) → FIs al n (lRow al f r).1 := by
  have key : ∀ (r : List Int) (s : List Int × List Int), FIs al n s.1 → (∀ z ∈ r, ∃ t : Nat, z = t ∧ t < n) → FIs al n (r.foldl (lStep al) s).1 := by
    intro r
    induction r with
    | nil => intro s hs _; exact hs
    | cons z r ih => intro s hs hr; exact ih _ (hs.step (hr z (by simp))) fun y hy => hr y (by simp [hy])
  intro r hr
  exact key r (f, []) h hr
theorem FIs.len {al : Int → Int → Bool} {n : Nat} {f : List Int} (h : FIs al n f) (hr : ∀ s : Nat, s < n → al s s = true) : f.length ≤ n := by
  have hd : f.Nodup := by
    have := h.no
    unfold List.Nodup
    rw [List.pairwise_iff_getElem] at this ⊢
    intro i j hi hj hij e
    have h2 := this i j hi hj hij
    rw [← e] at h2
    obtain ⟨s, h3, h4⟩ := h.at' f[i] (List.getElem_mem hi)
    rw [h3, hr s h4] at h2
    cases h2
  have := nodup_len hd (k := (List.range n).map fun (i : Nat) => (i : Int)) fun z hz => by
    obtain ⟨t, h1, h2⟩ := h.at' z hz
    exact List.mem_map.2 ⟨t, List.mem_range.2 h2, h1.symm⟩
  simpa using this
/-- The numbers of blocks, as they are kept. -/
def NumIs (m : List (Int × Int)) (bl f : List Int) : Prop := ∀ c : Int, mget m c = if f.findIdx (fun a => decide (nth bl a.toNat = c)) < f.length then some ((f.findIdx (fun a => decide (nth bl a.toNat = c)) : Nat) : Int) else none
abbrev alB (bl : List Int) (a z : Int) : Bool := decide (nth bl a.toNat = nth bl z.toNat)
theorem NumIs.look {m : List (Int × Int)} {bl f : List Int} (h : NumIs m bl f) (z : Int) : mget m (nth bl z.toNat) = if fnd (alB bl) f z < f.length then some ((fnd (alB bl) f z : Nat) : Int) else none := h _
theorem fnd_le (al : Int → Int → Bool) (f : List Int) (z : Int) : fnd al f z ≤ f.length := List.findIdx_le_length
theorem NumIs.step {m : List (Int × Int)} {bl f : List Int} (h : NumIs m bl f) {z : Int} (hn : ¬ fnd (alB bl) f z < f.length) : NumIs (mset m (nth bl z.toNat) (f.length : Int)) bl (f ++ [z]) := fun c => by
  rw [mget_mset, List.findIdx_append, List.length_append, List.length_singleton]
  by_cases e : nth bl z.toNat = c
  · subst e
    have hn' : ¬ f.findIdx (fun a => decide (nth bl a.toNat = nth bl z.toNat)) < f.length := hn
    rw [if_pos rfl, if_neg hn']
    simp [List.findIdx_cons]
  · rw [if_neg e, h c]
    by_cases h2 : f.findIdx (fun a => decide (nth bl a.toNat = c)) < f.length
    · rw [if_pos h2, if_pos h2, if_pos (by omega)]
    · rw [if_neg h2, if_neg h2, if_neg]
      simp [List.findIdx_cons, e]
      omega
theorem lRound_end {al : Int → Int → Bool} {d : D} {s : List Int × D} (h : s.1.length ≤ s.2.next.length) : lRound al d s = s := by
  unfold lRound
  rw [List.getElem?_eq_none h]
theorem lIter_end {al : Int → Int → Bool} {d : D} {i : Nat} (h : (lIter al d i).1.length ≤ (lIter al d i).2.next.length) : ∀ j, i ≤ j → lIter al d j = lIter al d i := by
  intro j hj
  induction j with
  | zero => rw [show i = 0 by omega]
  | succ j ih =>
    by_cases e : i = j + 1
    · rw [e]
    · show lRound al d (lIter al d j) = _
      rw [ih (by omega), lRound_end h]
end Go.Proofs.Ytmdkmobcglnmgaa
namespace Go.Proofs.Ytmdkmobcglnmgaa
open Go.RowKit

theorem Aprt.none {u v : Value} (h : u.ownBlock = none) : Aprt u v := fun g h1 _ => by rw [h] at h1; cases h1
/-- Rows of numbers, each a row of the call's own, no two in one block. -/
def RowSet (w : World) (B : Nat) (l : List (Value × List Int)) : Prop := (∀ p ∈ l, OwnI w B p.1 p.2) ∧ l.Pairwise fun p q => Aprt p.1 q.1
section
variable {w w' : World} {B : Nat} {l l' : List (Value × List Int)}
theorem RowSet.nil (w : World) (B : Nat) : RowSet w B [] := ⟨fun _ h => (by cases h), List.Pairwise.nil⟩
theorem RowSet.head {p : Value × List Int} (h : RowSet w B (p :: l)) : OwnI w B p.1 p.2 := h.1 p List.mem_cons_self
theorem RowSet.tail {p : Value × List Int} (h : RowSet w B (p :: l)) : RowSet w B l := ⟨fun q hq => h.1 q (List.mem_cons_of_mem _ hq), (List.pairwise_cons.1 h.2).2⟩
theorem RowSet.fresh (h : RowSet w B l) : RowSet w B ((.slice none 0 0, []) :: l) :=
  ⟨fun p hp => by
    rcases List.mem_cons.1 hp with rfl | hp
    · exact World.ownsRow_nil _ _ _ _
    · exact h.1 p hp, List.pairwise_cons.2 ⟨fun _ _ => Aprt.none rfl, h.2⟩⟩
theorem RowSet.perm (h : RowSet w B l) (hp : l.Perm l') : RowSet w B l' := ⟨fun p h1 => h.1 p (hp.mem_iff.2 h1), (hp.pairwise_iff (fun {_ _} h => h.symm)).1 h.2⟩
theorem RowSet.keep {row : Option Nat} (h : RowSet w B l) (hg : w.grownBy w' row) (hne : ∀ p ∈ l, p.1.ownBlock = none ∨ p.1.ownBlock ≠ row) : RowSet w' B l := ⟨fun p hp => (h.1 p hp).kept hg (hne p hp), h.2⟩
theorem RowSet.below (h : RowSet w B l) (hb : Below w.heap.size w w') : RowSet w' B l := h.keep (grown_of_below hb none) fun _ _ => Classical.em _
theorem RowSet.alloc (h : RowSet w B l) (o : Obj) : RowSet (w.alloc o) B l := ⟨fun p hp => (h.1 p hp).alloc o, h.2⟩
theorem RowSet.cells {g t : Nat} {cs : Array Value} (h : RowSet w B l) (hg : w.grownBy w' (some g)) (hb : w.heap[g]? = some (.cells cs t (0, 0))) (ht : 3 ≠ t) : RowSet w' B l := h.keep hg fun p hp => .inr (own_blk_ne (h.1 p hp) hb ht)
theorem RowSet.map {K V : Type} {enc : K → Value} {ok : K → Prop} {R : V → Value → Prop} {b : Nat} {m : List (K × V)} (h : RowSet w B l) (hg : w.grownBy w' (some b)) (hm : MapIs w b enc ok R m) : RowSet w' B l := h.keep hg fun p hp => .inr (own_map_ne (h.1 p hp) hm)
theorem RowSet.other {B' e size n : Nat} {v : Value} {xs : List Value} (h : RowSet w B l) (hg : w.grownBy w' v.ownBlock) (ho : w.ownsRow B' e size v n xs) (ht : 3 ≠ e) : RowSet w' B l := h.keep hg fun p hp => own_own (h.1 p hp) ho ht
theorem RowSet.put {v v' : Value} {z z' : List Int} (h : RowSet w B ((v, z) :: l)) (hg : w.grownBy w' v.ownBlock) (hown : OwnI w' B v' z') (hat : v'.ownBlock = v.ownBlock ∨ ∃ g, v'.ownBlock = some g ∧ w.heap.size ≤ g) : RowSet w' B ((v', z') :: l) := by
  obtain ⟨h1, h2⟩ := h
  obtain ⟨h3, h4⟩ := List.pairwise_cons.1 h2
  refine ⟨fun p hp => ?_, List.pairwise_cons.2 ⟨fun q hq g hv => ?_, h4⟩⟩
  · rcases List.mem_cons.1 hp with rfl | hp
    · exact hown
    · exact (h1 p (List.mem_cons_of_mem _ hp)).kept hg (h3 p hp).symm.ne
  · rcases hat with e | ⟨g', e, hg'⟩
    · exact h3 q hq g (by rw [← e]; exact hv)
    · intro hq2
      have hlt := ((h1 q (List.mem_cons_of_mem _ hq)).lt g hq2).2
      have : some g = some g' := hv.symm.trans e
      injection this with this
      omega
theorem RowSet.swap {p q : Value × List Int} (h : RowSet w B (p :: q :: l)) : RowSet w B (q :: p :: l) := h.perm (List.Perm.swap q p l)
theorem RowSet.push {p q : Value × List Int} (h : RowSet w B (p :: q :: l)) : RowSet w B (p :: (l ++ [q])) := h.perm (List.Perm.cons _ (by simpa using (List.perm_append_comm : ([q] ++ l).Perm (l ++ [q]))))
theorem RowSet.ownG (h : RowSet w B l) : OwnG w B (l.map (·.1)) (l.map (·.2)) := ⟨by simp, fun j r hr => by
  obtain ⟨p, hp, rfl⟩ := List.mem_map.1 (List.mem_of_getElem? hr)
  rw [List.getElem?_map] at hr
  cases hq : l[j]? with
  | none => rw [hq] at hr; cases hr
  | some q =>
    rw [hq] at hr
    have hq2 : q.2 = p.2 := by simpa using hr
    refine ⟨q.1, by simp [hq], ?_⟩
    have := h.1 q (List.mem_of_getElem? hq)
    rw [← hq2]; exact this⟩
end

/-- 'map[K]V{k: v}'. -/
theorem wpList_minsert {P : Program} {kt et : TypeId} {K V : Type} [DecidableEq K] {enc : K → Value} {ok : K → Prop} {R : V → Value → Prop} {w : World} {b : Nat} {m : List (K × V)}
    {ops : Array Oper} {rest : List Oper} {o : Oper} {a : Act} {Q : Exit → Act → World → Prop} (MK : MKey P kt enc ok) (hg : o.guard = none) (x ix v : Operand) (t : TypeId) (hop : o.op = .insert t x ix v) (ht : P.underlying t = some (.map kt et))
    (h : MapIs w b enc ok R m) (k : K) (hk : ok k) (y : V) (u : Value) (hR : R y u) (hx : a.eval x = .map (some b)) (hi : a.eval ix = enc k) (hv : a.eval v = u)
    (hK : ∀ w', MapIs w' b enc ok R (mset m k y) → w.grownBy w' (some b) → wpList P ops Q rest (a.put o.dst undef) w') : wpList P ops Q (o :: rest) a w := by
  refine wpList_plain hg fun K' hK' => ?_
  obtain ⟨w', hrun, r1, r2⟩ := h.update MK ht hk hR
  unfold Oper.wp
  simp [execOp, hop, hx, hi, hv, hrun, Result.andThen]
  exact hK' _ _ (hK w' r1 r2)

abbrev IMap (w : World) (b : Nat) (m : List (Int × Int)) : Prop := MapIs w b (fun z : Int => Value.int .i64 z) i64ok (fun (n : Int) u => u = .int .i64 n) m
/-- What the making of the least automaton keeps in memory. -/
structure LeM (B D0 bb mb p : Nat) (nv tv : Value) (bl : List Int) (w : World) (m : List (Int × Int)) (f r : Value × List Int) (rows : List (Value × List Int)) (nx tl : Value) (ts : List Int) : Prop where
  d0 : w.heap[D0]? = some (.cells #[nv, tv] 30 (0, 0))
  d1 : w.heap[D0 + 1]? = some (.cells #[.slice none 0 0, .slice none 0 0] 30 (0, 0))
  blk : IntBlk w bb 3 .i64 bl
  num : IMap w mb m
  out : w.heap[p]? = some (.cells #[nx, tl] 30 (0, 0))
  rs : RowSet w B (f :: r :: rows)
  nxo : w.ownsRow B 32 1 nx rows.length (rows.map (·.1))
  tlo : w.ownsRow B 52 1 tl ts.length (ts.map (.int .u64))
  lt : D0 + 1 < B ∧ bb < B ∧ B ≤ mb ∧ B ≤ p
section
variable {B D0 bb mb p : Nat} {nv tv : Value} {bl : List Int} {w w' : World} {m : List (Int × Int)} {f r : Value × List Int} {rows : List (Value × List Int)} {nx tl : Value} {ts : List Int}
theorem LeM.mb_ne (h : LeM B D0 bb mb p nv tv bl w m f r rows nx tl ts) : p ≠ mb := fun e => by
  have h1 := h.out
  obtain ⟨es, c, h2, _⟩ := h.num
  rw [e, h2] at h1
  cases h1
theorem LeM.grown (h : LeM B D0 bb mb p nv tv bl w m f r rows nx tl ts) (hb : Below w.heap.size w w') : LeM B D0 bb mb p nv tv bl w' m f r rows nx tl ts :=
  have hlt : ∀ {g : Nat} {o : Obj}, w.heap[g]? = some o → g < w.heap.size := fun h => (Array.getElem?_eq_some_iff.1 h).1
  ⟨(hb.block _ (hlt h.d0)).trans h.d0, (hb.block _ (hlt h.d1)).trans h.d1, h.blk.keep (hb.block _ h.blk.lt), h.num.keep (hb.block _ h.num.lt), (hb.block _ (hlt h.out)).trans h.out, h.rs.below hb,
   h.nxo.kept (grown_of_below hb none) (Classical.em _), h.tlo.kept (grown_of_below hb none) (Classical.em _), h.lt⟩
theorem LeM.alloc (h : LeM B D0 bb mb p nv tv bl w m f r rows nx tl ts) (o : Obj) : LeM B D0 bb mb p nv tv bl (w.alloc o) m f r rows nx tl ts := h.grown ((Below.refl _ _).alloc (Nat.le_refl _) _)
/-- A row of numbers from B on is written. -/
theorem LeM.parts {g : Option Nat} (h : LeM B D0 bb mb p nv tv bl w m f r rows nx tl ts) (hg : w.grownBy w' g) (hB : ∀ q, g = some q → B ≤ q) : w'.heap[D0]? = some (.cells #[nv, tv] 30 (0, 0)) ∧ w'.heap[D0 + 1]? = some (.cells #[.slice none 0 0, .slice none 0 0] 30 (0, 0)) ∧ IntBlk w' bb 3 .i64 bl := by
  have hl := h.lt
  have hlt : ∀ {g : Nat} {o : Obj}, w.heap[g]? = some o → g < w.heap.size := fun h => (Array.getElem?_eq_some_iff.1 h).1
  have ne : ∀ q, q < B → some q ≠ g := fun q hq e => by have := hB q e.symm; omega
  exact ⟨(hg.block _ (hlt h.d0) (ne _ (by omega))).trans h.d0, (hg.block _ (hlt h.d1) (ne _ (by omega))).trans h.d1, h.blk.keep (hg.block _ h.blk.lt (ne _ (by omega)))⟩
theorem LeM.seen {g : Option Nat} (h : LeM B D0 bb mb p nv tv bl w m f r rows nx tl ts) (hg : w.grownBy w' g) (hB : ∀ q, g = some q → B ≤ q) (hne : f.1.ownBlock = none ∨ f.1.ownBlock ≠ g) : w'.heap[D0]? = some (.cells #[nv, tv] 30 (0, 0)) ∧ OwnI w' B f.1 f.2 :=
  ⟨(h.parts hg hB).1, h.rs.head.kept hg hne⟩
theorem LeM.mset (h : LeM B D0 bb mb p nv tv bl w m f r rows nx tl ts) {m' : List (Int × Int)} (hm : IMap w' mb m') (hg : w.grownBy w' (some mb)) : LeM B D0 bb mb p nv tv bl w' m' f r rows nx tl ts := by
  obtain ⟨a, b, c⟩ := h.parts hg (fun q hq => by cases hq; exact h.lt.2.2.1)
  have hne := h.mb_ne
  exact ⟨a, b, c, hm, (hg.block _ (Array.getElem?_eq_some_iff.1 h.out).1 (fun e => hne (by injection e))).trans h.out, h.rs.map hg h.num, h.nxo.kept hg (.inr (own_map_ne h.nxo h.num)), h.tlo.kept hg (.inr (own_map_ne h.tlo h.num)), h.lt⟩
/-- Either row at the head is written. -/
theorem LeM.put (h : LeM B D0 bb mb p nv tv bl w m f r rows nx tl ts) {v : Value} {B2 n : Nat} {xs : List Value} (ho : w.ownsRow B2 3 1 v n xs) (hB : B ≤ B2) (hg : w.grownBy w' v.ownBlock) {f' r' : Value × List Int} (hrs : RowSet w' B (f' :: r' :: rows)) : LeM B D0 bb mb p nv tv bl w' m f' r' rows nx tl ts := by
  obtain ⟨a, b, c⟩ := h.parts hg (fun q hq => Nat.le_trans hB (ho.lt q hq).1)
  exact ⟨a, b, c, h.num.keep (hg.block _ h.num.lt (Ne.symm (own_map_ne ho h.num))), (hg.block _ (Array.getElem?_eq_some_iff.1 h.out).1 (Ne.symm (own_blk_ne ho h.out (by decide)))).trans h.out, hrs, h.nxo.kept hg (own_own h.nxo ho (by decide)), h.tlo.kept hg (own_own h.tlo ho (by decide)), h.lt⟩
theorem LeM.putF {v : Value} {z z' : List Int} (h : LeM B D0 bb mb p nv tv bl w m (v, z) r rows nx tl ts) (hg : w.grownBy w' v.ownBlock) {v' : Value} (hown : OwnI w' B v' z') (hat : v'.ownBlock = v.ownBlock ∨ ∃ g, v'.ownBlock = some g ∧ w.heap.size ≤ g) : LeM B D0 bb mb p nv tv bl w' m (v', z') r rows nx tl ts :=
  h.put h.rs.head (Nat.le_refl _) hg (h.rs.put hg hown hat)
theorem LeM.putR {v : Value} {z z' : List Int} (h : LeM B D0 bb mb p nv tv bl w m f (v, z) rows nx tl ts) (hg : w.grownBy w' v.ownBlock) {v' : Value} (hown : OwnI w' B v' z') (hat : v'.ownBlock = v.ownBlock ∨ ∃ g, v'.ownBlock = some g ∧ w.heap.size ≤ g) : LeM B D0 bb mb p nv tv bl w' m f (v', z') rows nx tl ts :=
  h.put h.rs.tail.head (Nat.le_refl _) hg (h.rs.swap.put hg hown hat).swap
/-- The row is done. -/
theorem LeM.row {v : Value} {z : List Int} (h : LeM B D0 bb mb p nv tv bl w m f (v, z) rows nx tl ts) (hg : w.grownBy w' nx.ownBlock) {nx' : Value} (hown : w'.ownsRow B 32 1 nx' (rows ++ [(v, z)]).length ((rows ++ [(v, z)]).map (·.1))) :
    w'.heap[p]? = some (.cells #[nx, tl] 30 (0, 0)) ∧ LeM B D0 bb mb p nv tv bl (w'.setCell ⟨p, 0, none⟩ nx') m f (.slice none 0 0, []) (rows ++ [(v, z)]) nx' tl ts := by
  have hl := h.lt
  obtain ⟨a, b, c⟩ := h.parts hg (fun q hq => (h.nxo.lt q hq).1)
  have ho : w'.heap[p]? = some (.cells #[nx, tl] 30 (0, 0)) := (hg.block _ (Array.getElem?_eq_some_iff.1 h.out).1 (Ne.symm (own_blk_ne h.nxo h.out (by decide)))).trans h.out
  have hs : w'.grownBy (w'.setCell ⟨p, 0, none⟩ nx') (some p) := grown_setCell (World.grownBy.refl _ _) _ _
  have hlt : ∀ {g : Nat} {o : Obj}, w'.heap[g]? = some o → g < w'.heap.size := fun h => (Array.getElem?_eq_some_iff.1 h).1
  have hn : IMap w' mb m := h.num.keep (hg.block _ h.num.lt (Ne.symm (own_map_ne h.nxo h.num)))
  have hr : RowSet w' B (f :: (v, z) :: rows) := h.rs.other hg h.nxo (by decide)
  have ne : ∀ q, q < B → some q ≠ some p := fun q hq e => by injection e with e; omega
  have hne := h.mb_ne
  have ht := h.tlo.kept hg (own_own h.tlo h.nxo (by decide))
  exact ⟨ho, (hs.block _ (hlt a) (ne _ (by omega))).trans a, (hs.block _ (hlt b) (ne _ (by omega))).trans b, c.keep (hs.block _ c.lt (ne _ (by omega))), hn.keep (hs.block _ hn.lt (fun e => hne (by injection e with e; exact e.symm))),
    heap_setCell_same w' p 0 _ 30 _ ho, (hr.push.cells hs ho (by decide)).perm (by
      have h1 : (f :: (rows ++ [(v, z)])).Perm (f :: (rows ++ [(v, z)])) := List.Perm.refl _
      exact h1) |>.fresh.swap, hown.kept hs (.inr (own_blk_ne hown ho (by decide))), ht.kept hs (.inr (own_blk_ne ht ho (by decide))), h.lt⟩
/-- What the state tells is done. -/
theorem LeM.tell (h : LeM B D0 bb mb p nv tv bl w m f r rows nx tl ts) (hg : w.grownBy w' tl.ownBlock) {tl' : Value} {z : Int} (hown : w'.ownsRow B 52 1 tl' (ts ++ [z]).length ((ts ++ [z]).map (.int .u64))) :
    w'.heap[p]? = some (.cells #[nx, tl] 30 (0, 0)) ∧ LeM B D0 bb mb p nv tv bl (w'.setCell ⟨p, 1, none⟩ tl') m f r rows nx tl' (ts ++ [z]) := by
  have hl := h.lt
  obtain ⟨a, b, c⟩ := h.parts hg (fun q hq => (h.tlo.lt q hq).1)
  have ho : w'.heap[p]? = some (.cells #[nx, tl] 30 (0, 0)) := (hg.block _ (Array.getElem?_eq_some_iff.1 h.out).1 (Ne.symm (own_blk_ne h.tlo h.out (by decide)))).trans h.out
  have hs : w'.grownBy (w'.setCell ⟨p, 1, none⟩ tl') (some p) := grown_setCell (World.grownBy.refl _ _) _ _
  have hlt : ∀ {g : Nat} {o : Obj}, w'.heap[g]? = some o → g < w'.heap.size := fun h => (Array.getElem?_eq_some_iff.1 h).1
  have hn : IMap w' mb m := h.num.keep (hg.block _ h.num.lt (Ne.symm (own_map_ne h.tlo h.num)))
  have hr : RowSet w' B (f :: r :: rows) := h.rs.other hg h.tlo (by decide)
  have ne : ∀ q, q < B → some q ≠ some p := fun q hq e => by injection e with e; omega
  have hne := h.mb_ne
  have hx := h.nxo.kept hg (own_own h.nxo h.tlo (by decide))
  exact ⟨ho, (hs.block _ (hlt a) (ne _ (by omega))).trans a, (hs.block _ (hlt b) (ne _ (by omega))).trans b, c.keep (hs.block _ c.lt (ne _ (by omega))), hn.keep (hs.block _ hn.lt (fun e => hne (by injection e with e; exact e.symm))),
    heap_setCell_same w' p 1 _ 30 _ ho, hr.cells hs ho (by decide), hx.kept hs (.inr (own_blk_ne hx ho (by decide))), hown.kept hs (.inr (own_blk_ne hown ho (by decide))), h.lt⟩
end
end Go.Proofs.Ytmdkmobcglnmgaa
namespace Go.Proofs.Ytmdkmobcglnmgaa
open Go.RowKit

structure LInv (al : Int → Int → Bool) (n : Nat) (d : D) (i : Nat) : Prop where
  nx : (lIter al d i).2.next.length = i
  tl : (lIter al d i).2.tells.length = i
  le : i ≤ (lIter al d i).1.length
  fi : FIs al n (lIter al d i).1
theorem lStep_le (al : Int → Int → Bool) (s : List Int × List Int) (z : Int) : s.1.length ≤ (lStep al s z).1.length := by
  simp only [lStep]; split <;> simp
theorem lRow_le (al : Int → Int → Bool) (f r : List Int) : f.length ≤ (lRow al f r).1.length := by
  have key : ∀ (r : List Int) (s : List Int × List Int), s.1.length ≤ (r.foldl (lStep al) s).1.length := by
    intro r
    induction r with
    | nil => intro s; exact Nat.le_refl _
    | cons z r ih => intro s; exact Nat.le_trans (lStep_le al s z) (ih _)
  exact key r (f, [])
theorem lStep_nth (al : Int → Int → Bool) (s : List Int × List Int) (z : Int) {i : Nat} (hi : i < s.1.length) : nth (lStep al s z).1 i = nth s.1 i := by
  simp only [lStep]; split
  · rfl
  · simp [nth, List.getElem?_append_left hi]
theorem lRow_nth (al : Int → Int → Bool) (f r : List Int) {i : Nat} (hi : i < f.length) : nth (lRow al f r).1 i = nth f i := by
  have key : ∀ (r : List Int) (s : List Int × List Int), i < s.1.length → nth (r.foldl (lStep al) s).1 i = nth s.1 i := by
    intro r
    induction r with
    | nil => intro s _; rfl
    | cons z r ih => intro s hs; exact (ih _ (Nat.lt_of_lt_of_le hs (lStep_le al s z))).trans (lStep_nth al s z hs)
  exact key r (f, []) hi
theorem LInv.zero (al : Int → Int → Bool) {n : Nat} (d : D) (hn : 1 ≤ n) : LInv al n d 0 :=
  ⟨rfl, rfl, Nat.zero_le _, ⟨fun z hz => ⟨0, by simpa [lIter] using hz, hn⟩, List.pairwise_singleton _ _⟩⟩
theorem LInv.state {al : Int → Int → Bool} {n : Nat} {d : D} {i : Nat} (h : LInv al n d i) (hi : i < (lIter al d i).1.length) : ∃ q : Nat, nth (lIter al d i).1 i = q ∧ q < n := h.fi.at' _ (nth_mem hi)
theorem LInv.next {al : Int → Int → Bool} {n : Nat} {d : D} {i : Nat} (h : LInv al n d i) (hi : i < (lIter al d i).1.length) {q : Nat} (hq : nth (lIter al d i).1 i = q) :
    lIter al d (i + 1) = ((lRow al (lIter al d i).1 (row d.next q)).1, ⟨(lIter al d i).2.next ++ [(lRow al (lIter al d i).1 (row d.next q)).2], (lIter al d i).2.tells ++ [nth d.tells q]⟩) := by
  show lRound al d (lIter al d i) = _
  unfold lRound
  rw [h.nx, some_nth hi, hq]
  rfl
theorem rt_row {rs : List (List Int)} {n : Nat} (hr : RT rs n) {q : Nat} (hq : q < n) : ∀ z ∈ row rs q, ∃ t : Nat, z = t ∧ t < n := fun z hz => by
  obtain ⟨m, hm⟩ := List.getElem?_of_mem hz
  have hlt := (List.getElem?_eq_some_iff.1 hm).1
  obtain ⟨h1, h2⟩ := hr.2 q hq
  have h3 := h2 m (by omega)
  rw [nth_some hm] at h3
  exact ⟨z.toNat, by omega, by omega⟩
theorem LInv.step {al : Int → Int → Bool} {n : Nat} {d : D} {i : Nat} (h : LInv al n d i) (hr : RT d.next n) (hi : i < (lIter al d i).1.length) : LInv al n d (i + 1) := by
  obtain ⟨q, hq, hqn⟩ := h.state hi
  have e := h.next hi hq
  refine ⟨?_, ?_, ?_, ?_⟩
  · rw [e]; simp [h.nx]
  · rw [e]; simp [h.tl]
  · rw [e]; exact Nat.le_trans hi (lRow_le _ _ _)
  · rw [e]; exact h.fi.row (rt_row hr hqn)
theorem LInv.fin {al : Int → Int → Bool} {d : D} {i : Nat} (h : LInv al d.next.length d i) (hi : (lIter al d i).1.length ≤ i) (hrefl : ∀ s : Nat, s < d.next.length → al s s = true) : leastD al d = (lIter al d i).2 ∧ i ≤ d.next.length := by
  have h1 := h.fi.len hrefl
  have h2 := h.le
  refine ⟨?_, by omega⟩
  unfold leastD
  rw [lIter_end (i := i) (by rw [h.nx]; exact hi) _ (by omega)]
theorem linv {al : Int → Int → Bool} {n : Nat} {d : D} (hr : RT d.next n) (hn : 1 ≤ n) : ∀ i, ∃ j, j ≤ i ∧ LInv al n d j ∧ lIter al d i = lIter al d j ∧ (j < i → (lIter al d j).1.length = j)
  | 0 => ⟨0, Nat.le_refl _, LInv.zero al d hn, rfl, fun h => by omega⟩
  | i + 1 => by
    obtain ⟨j, h1, h2, h3, h4⟩ := linv (al := al) hr hn i
    by_cases e : j < i
    · refine ⟨j, by omega, h2, ?_, fun _ => h4 e⟩
      show lRound al d (lIter al d i) = _
      rw [h3, lRound_end (by rw [h2.nx, h4 e]; exact Nat.le_refl _)]
    · obtain rfl : j = i := by omega
      by_cases e2 : j < (lIter al d j).1.length
      · exact ⟨j + 1, Nat.le_refl _, h2.step hr e2, rfl, fun h => by omega⟩
      · have := h2.le
        exact ⟨j, by omega, h2, lRound_end (by rw [h2.nx]; omega), fun _ => by omega⟩
/-- Who is alike, told of states. -/
def AlIs (al : Int → Int → Bool) (d : D) : Prop := ∀ p q : Nat, p < d.next.length → q < d.next.length → (al p q = true ↔ Alk d.next d.tells p q)
theorem fnd_congr {al al' : Int → Int → Bool} {z : Int} : ∀ {f : List Int}, (∀ a ∈ f, al a z = al' a z) → fnd al f z = fnd al' f z
  | [], _ => rfl
  | a :: f, h => by
    have ih := fnd_congr (f := f) fun b hb => h b (List.mem_cons_of_mem _ hb)
    unfold fnd at ih ⊢
    rw [List.findIdx_cons, List.findIdx_cons, ih, h a List.mem_cons_self]
theorem AlIs.eq {al al' : Int → Int → Bool} {d : D} (h : AlIs al d) (h' : AlIs al' d) {a z : Int} (ha : ∃ s : Nat, a = s ∧ s < d.next.length) (hz : ∃ s : Nat, z = s ∧ s < d.next.length) : al a z = al' a z := by
  obtain ⟨p, rfl, hp⟩ := ha
  obtain ⟨q, rfl, hq⟩ := hz
  rw [Bool.eq_iff_iff, h p q hp hq, h' p q hp hq]
theorem lRow_congr {al al' : Int → Int → Bool} {d : D} (h : AlIs al d) (h' : AlIs al' d) : ∀ {r : List Int} (s : List Int × List Int), FIs al d.next.length s.1 → (∀ z ∈ r, ∃ t : Nat, z = t ∧ t < d.next.length) → r.foldl (lStep al) s = r.foldl (lStep al') s
  | [], _, _, _ => rfl
  | z :: r, s, hs, hz => by
    have h1 : lStep al s z = lStep al' s z := by
      unfold lStep
      rw [fnd_congr fun a ha => h.eq h' (hs.at' a ha) (hz z List.mem_cons_self)]
    rw [List.foldl_cons, List.foldl_cons, ← h1]
    exact lRow_congr h h' _ (hs.step (hz z List.mem_cons_self)) fun y hy => hz y (List.mem_cons_of_mem _ hy)
theorem leastD_uniq {al al' : Int → Int → Bool} {d : D} (h : AlIs al d) (h' : AlIs al' d) (hr : RT d.next d.next.length) (hn : 1 ≤ d.next.length) : leastD al d = leastD al' d := by
  have key : ∀ i, lIter al d i = lIter al' d i := by
    intro i
    induction i with
    | zero => rfl
    | succ i ih =>
      show lRound al d (lIter al d i) = lRound al' d (lIter al' d i)
      rw [← ih]
      obtain ⟨j, _, h2, h3, _⟩ := linv (al := al) hr hn i
      unfold lRound
      cases hq : (lIter al d i).1[(lIter al d i).2.next.length]? with
      | none => rfl
      | some q =>
        have hfi : FIs al d.next.length (lIter al d i).1 := by rw [h3]; exact h2.fi
        obtain ⟨s, rfl, hs⟩ := hfi.at' q (List.mem_of_getElem? hq)
        have h1 : lRow al (lIter al d i).1 (row d.next (s : Int).toNat) = lRow al' (lIter al d i).1 (row d.next (s : Int).toNat) := lRow_congr h h' _ hfi (rt_row hr hs)
        simp only [h1]
  unfold leastD
  rw [key]
end Go.Proofs.Ytmdkmobcglnmgaa
namespace Go.Proofs.Ytmdkmobcglnmgaa
open Go.RowKit

theorem fnd_at {al : Int → Int → Bool} {f : List Int} {z : Int} (h : fnd al f z < f.length) : al (nth f (fnd al f z)) z = true := by
  have : f[fnd al f z]? = some (nth f (fnd al f z)) := some_nth h
  have h2 := List.findIdx_getElem (p := fun a => al a z) (xs := f) (w := h)
  rw [show nth f (fnd al f z) = f[fnd al f z] by simp [nth, List.getElem?_eq_getElem h]]
  exact h2
theorem lStep_spec {al : Int → Int → Bool} {s : List Int × List Int} {z : Int} (hz : al z z = true) :
    ∃ j : Nat, (lStep al s z).2 = s.2 ++ [(j : Int)] ∧ j < (lStep al s z).1.length ∧ al (nth (lStep al s z).1 j) z = true ∧ (∀ k, s.1.length ≤ k → k < (lStep al s z).1.length → k = j) := by
  refine ⟨fnd al s.1 z, rfl, ?_⟩
  simp only [lStep]
  split
  · rename_i h
    exact ⟨h, fnd_at h, fun k h1 h2 => by omega⟩
  · rename_i h
    have hl := fnd_le al s.1 z
    have e : fnd al s.1 z = s.1.length := by omega
    refine ⟨by simp; omega, ?_, fun k h1 h2 => ?_⟩
    · rw [e]; simpa [nth] using hz
    · simp at h2; omega
theorem lRow_spec {al : Int → Int → Bool} {f r : List Int} (hz : ∀ z ∈ r, al z z = true) :
    (∀ m, m < r.length → ∃ j : Nat, nth (lRow al f r).2 m = j ∧ j < (lRow al f r).1.length ∧ al (nth (lRow al f r).1 j) (nth r m) = true) ∧
    (∀ j, f.length ≤ j → j < (lRow al f r).1.length → ∃ m, m < r.length ∧ nth (lRow al f r).2 m = (j : Nat)) := by
  have key : ∀ k, k ≤ r.length → (∀ m, m < k → ∃ j : Nat, nth (lRow al f (r.take k)).2 m = j ∧ j < (lRow al f (r.take k)).1.length ∧ al (nth (lRow al f (r.take k)).1 j) (nth r m) = true) ∧
      (∀ j, f.length ≤ j → j < (lRow al f (r.take k)).1.length → ∃ m, m < k ∧ nth (lRow al f (r.take k)).2 m = (j : Nat)) := by
    intro k
    induction k with
    | zero =>
      intro _
      refine ⟨fun m h => by omega, fun j h1 h2 => ?_⟩
      simp [lRow] at h2
      omega
    | succ k ih =>
      intro hk
      obtain ⟨i1, i2⟩ := ih (by omega)
      have e : lRow al f (r.take (k + 1)) = lStep al (lRow al f (r.take k)) (nth r k) := by rw [take_nth hk, lRow_snoc]
      obtain ⟨j0, s1, s2, s3, s4⟩ := lStep_spec (al := al) (s := lRow al f (r.take k)) (hz (nth r k) (nth_mem hk))
      have hl2 : (lRow al f (r.take k)).2.length = k := by rw [lRow_len, List.length_take]; omega
      have hle := lStep_le al (lRow al f (r.take k)) (nth r k)
      rw [e]
      refine ⟨fun m hm => ?_, fun j h1 h2 => ?_⟩
      · by_cases hmk : m < k
        · obtain ⟨j, a, b, c⟩ := i1 m hmk
          refine ⟨j, ?_, Nat.lt_of_lt_of_le b hle, ?_⟩
          · rw [s1, ← a]; simp [nth, List.getElem?_append_left (show m < (lRow al f (r.take k)).2.length by omega)]
          · rw [lStep_nth al _ _ b]; exact c
        · obtain rfl : m = k := by omega
          refine ⟨j0, ?_, s2, s3⟩
          rw [s1]; simp [nth, hl2]
      · by_cases hj : j < (lRow al f (r.take k)).1.length
        · obtain ⟨m, a, b⟩ := i2 j h1 hj
          refine ⟨m, by omega, ?_⟩
          rw [s1, ← b]; simp [nth, List.getElem?_append_left (show m < (lRow al f (r.take k)).2.length by omega)]
        · have := s4 j (by omega) h2
          subst this
          refine ⟨k, by omega, ?_⟩
          rw [s1]; simp [nth, hl2]
  have := key r.length (Nat.le_refl _)
  rwa [List.take_length] at this
theorem lRow_out {al : Int → Int → Bool} {f r : List Int} (hz : ∀ z ∈ r, al z z = true) : (lRow al f r).2.length = r.length := lRow_len al f r

/-- What has been told up to the i-th state. -/
structure LT (al : Int → Int → Bool) (d : D) (F : List Int) (rs : List (List Int)) (ts : List Int) (i : Nat) : Prop where
  z : nth F 0 = 0 ∧ 0 < F.length
  row : ∀ j, j < i → (row rs j).length = 37 ∧ nth ts j = nth d.tells (nth F j).toNat ∧ ∀ m, m < 37 → ∃ k : Nat, nth (row rs j) m = k ∧ k < F.length ∧ al (nth F k) (stp d.next (nth F j).toNat m : Nat) = true
  new : ∀ k, 1 ≤ k → k < F.length → ∃ j m, j < i ∧ j < k ∧ m < 37 ∧ nth (Proofs.Ytmdkmobcglnmgaa.row rs j) m = (k : Nat)
theorem row_app_l {rs : List (List Int)} {r : List Int} {j : Nat} (h : j < rs.length) : row (rs ++ [r]) j = row rs j := by simp [row, List.getElem?_append_left h]
theorem row_app_r {rs : List (List Int)} {r : List Int} : row (rs ++ [r]) rs.length = r := by simp [row]
theorem nth_app_l {ts : List Int} {t : Int} {j : Nat} (h : j < ts.length) : nth (ts ++ [t]) j = nth ts j := by simp [nth, List.getElem?_append_left h]
theorem nth_app_r {ts : List Int} {t : Int} : nth (ts ++ [t]) ts.length = t := by simp [nth]
theorem lt_all {al : Int → Int → Bool} {n : Nat} {d : D} (hr : RT d.next n) (hn : 1 ≤ n) (hrefl : ∀ s : Nat, s < n → al s s = true) : ∀ i, LInv al n d i → LT al d (lIter al d i).1 (lIter al d i).2.next (lIter al d i).2.tells i
  | 0, _ => ⟨⟨rfl, by simp [lIter]⟩, fun j h => by omega, fun k h1 h2 => by simp [lIter] at h2; omega⟩
  | i + 1, h => by
    obtain ⟨j, h1, h2, h3, h4⟩ := linv (al := al) hr hn i
    by_cases e : j < i
    · exfalso
      have e1 : lIter al d (i + 1) = lIter al d j := by
        show lRound al d (lIter al d i) = _
        rw [h3, lRound_end (by rw [h2.nx, h4 e]; exact Nat.le_refl _)]
      have := h.nx
      rw [e1, h2.nx] at this
      omega
    · obtain rfl : j = i := by omega
      by_cases hlt : j < (lIter al d j).1.length
      · obtain ⟨a, b, c⟩ := lt_all hr hn hrefl j h2
        obtain ⟨q, hq, hqn⟩ := h2.state hlt
        have e1 := h2.next hlt hq
        have hrow := rt_row hr hqn
        obtain ⟨s1, s2⟩ := lRow_spec (al := al) (f := (lIter al d j).1) (r := row d.next q) (fun z hz => by obtain ⟨t, rfl, ht⟩ := hrow z hz; exact hrefl t ht)
        have h37 := (hr.2 q hqn).1
        have hle := lRow_le al (lIter al d j).1 (row d.next q)
        have hrl := h2.nx
        have htl := h2.tl
        generalize lIter al d j = st at *
        rw [e1]
        refine ⟨⟨by rw [lRow_nth _ _ _ a.2]; exact a.1, by have := a.2; show 0 < (lRow al st.1 (row d.next q)).1.length; omega⟩, fun k hk => ?_, fun k k1 k2 => ?_⟩
        · by_cases hkj : k < j
          · obtain ⟨r1, r2, r3⟩ := b k hkj
            have hkF : k < st.1.length := by omega
            refine ⟨by rw [row_app_l (by omega)]; exact r1, by rw [nth_app_l (by omega), lRow_nth _ _ _ hkF]; exact r2, fun m hm => ?_⟩
            obtain ⟨k', q1, q2, q3⟩ := r3 m hm
            exact ⟨k', by rw [row_app_l (by omega)]; exact q1, Nat.lt_of_lt_of_le q2 hle, by rw [lRow_nth _ _ _ q2, lRow_nth _ _ _ hkF]; exact q3⟩
          · obtain rfl : k = j := by omega
            have er : row (st.2.next ++ [(lRow al st.1 (row d.next q)).2]) k = (lRow al st.1 (row d.next q)).2 := by
              have := row_app_r (rs := st.2.next) (r := (lRow al st.1 (row d.next q)).2); rwa [hrl] at this
            have et : nth (st.2.tells ++ [nth d.tells q]) k = nth d.tells q := by
              have := nth_app_r (ts := st.2.tells) (t := nth d.tells q); rwa [htl] at this
            have ef : nth (lRow al st.1 (row d.next q)).1 k = q := by rw [lRow_nth _ _ _ hlt]; exact hq
            refine ⟨by rw [er, lRow_len]; exact h37, by rw [et, ef]; rfl, fun m hm => ?_⟩
            obtain ⟨k', q1, q2, q3⟩ := s1 m (by omega)
            refine ⟨k', by rw [er]; exact q1, q2, ?_⟩
            rw [ef, show ((q : Int)).toNat = q from rfl, ← (hr.at hqn hm).2]; exact q3
        · by_cases hk2 : k < st.1.length
          · obtain ⟨j', m, j1, j2, j3, j4⟩ := c k k1 hk2
            exact ⟨j', m, by omega, j2, j3, by rw [row_app_l (by omega)]; exact j4⟩
          · obtain ⟨m, m1, m2⟩ := s2 k (by omega) k2
            refine ⟨j, m, by omega, by omega, by omega, ?_⟩
            have er : row (st.2.next ++ [(lRow al st.1 (row d.next q)).2]) j = (lRow al st.1 (row d.next q)).2 := by
              have := row_app_r (rs := st.2.next) (r := (lRow al st.1 (row d.next q)).2); rwa [hrl] at this
            rw [er]; exact m2
      · exfalso
        have e1 : lIter al d (j + 1) = lIter al d j := lRound_end (by rw [h2.nx]; omega)
        have := h.nx
        rw [e1, h2.nx] at this
        omega
/-- The least automaton, by its states' states. -/
structure LeastIs (d : D) (F : List Int) (y : D) : Prop where
  len : y.next.length = F.length ∧ y.tells.length = F.length ∧ F.length ≤ d.next.length
  st : ∀ j, j < F.length → ∃ q : Nat, nth F j = q ∧ q < d.next.length
  no : ∀ i j, i < j → j < F.length → ¬ Alk d.next d.tells (nth F i).toNat (nth F j).toNat
  z : nth F 0 = 0 ∧ 0 < F.length
  row : ∀ j, j < F.length → (row y.next j).length = 37 ∧ nth y.tells j = nth d.tells (nth F j).toNat ∧ ∀ m, m < 37 → ∃ k : Nat, nth (row y.next j) m = k ∧ k < F.length ∧ Alk d.next d.tells (nth F k).toNat (stp d.next (nth F j).toNat m)
  new : ∀ k, 1 ≤ k → k < F.length → ∃ j m, j < k ∧ m < 37 ∧ nth (Proofs.Ytmdkmobcglnmgaa.row y.next j) m = (k : Nat)
theorem least_is {al : Int → Int → Bool} {d : D} (ha : AlIs al d) (hr : RT d.next d.next.length) (hn : 1 ≤ d.next.length) : ∃ F, LeastIs d F (leastD al d) := by
  have hrefl : ∀ s : Nat, s < d.next.length → al s s = true := fun s hs => (ha s s hs hs).2 (Alk.refl _ _ _)
  obtain ⟨j, h1, h2, h3, h4⟩ := linv (al := al) hr hn d.next.length
  have hl := h2.fi.len hrefl
  have hf : (lIter al d j).1.length = j := by
    by_cases e : j < d.next.length
    · exact h4 e
    · have := h2.le; omega
  have h5 := lt_all hr hn hrefl j h2
  refine ⟨(lIter al d j).1, ?_⟩
  unfold leastD
  rw [h3]
  have hst := fun k (hk : k < (lIter al d j).1.length) => h2.fi.at' (nth (lIter al d j).1 k) (nth_mem hk)
  refine ⟨⟨by rw [h2.nx, hf], by rw [h2.tl, hf], hl⟩, hst, fun i k hik hk h => ?_, h5.z, fun k hk => ?_, fun k k1 k2 => ?_⟩
  · have hp := h2.fi.no
    rw [List.pairwise_iff_getElem] at hp
    have := hp i k (by omega) hk hik
    obtain ⟨q, e, hq⟩ := hst i (by omega)
    obtain ⟨q', e', hq'⟩ := hst k hk
    rw [e, e'] at h
    rw [show (lIter al d j).1[i] = nth (lIter al d j).1 i by simp [nth, List.getElem?_eq_getElem (show i < (lIter al d j).1.length by omega)], show (lIter al d j).1[k] = nth (lIter al d j).1 k by simp [nth, List.getElem?_eq_getElem hk], e, e', (ha q q' hq hq').2 h] at this
    cases this
  · obtain ⟨r1, r2, r3⟩ := h5.row k (by omega)
    refine ⟨r1, r2, fun m hm => ?_⟩
    obtain ⟨k', q1, q2, q3⟩ := r3 m hm
    obtain ⟨q, e, hq⟩ := hst k hk
    obtain ⟨q', e', hq'⟩ := hst k' q2
    refine ⟨k', q1, q2, ?_⟩
    rw [e, e'] at q3 ⊢
    exact (ha q' _ hq' (hr.at hq hm).1).1 q3
  · obtain ⟨j', m, a, b, c, e⟩ := h5.new k k1 k2
    exact ⟨j', m, b, c, e⟩
section
variable {d y : D} {F : List Int}
theorem LeastIs.rt (h : LeastIs d F y) : RT y.next y.next.length := ⟨rfl, fun p hp => by
  rw [h.len.1] at hp
  obtain ⟨r1, _, r3⟩ := h.row p hp
  refine ⟨r1, fun m hm => ?_⟩
  obtain ⟨k, e, hk, _⟩ := r3 m hm
  rw [e, h.len.1]
  omega⟩
/-- The same is told behind any marks. -/
theorem LeastIs.go (h : LeastIs d F y) (hr : RT d.next d.next.length) : ∀ (w : List Nat) (j : Nat), j < F.length → (∀ m ∈ w, m < 37) → goW y.next j w < F.length ∧ Alk d.next d.tells (nth F (goW y.next j w)).toNat (goW d.next (nth F j).toNat w)
  | [], j, hj, _ => ⟨hj, Alk.refl _ _ _⟩
  | m :: w, j, hj, hw => by
    have hm := hw m List.mem_cons_self
    have hw' := fun k hk => hw k (List.mem_cons_of_mem _ hk)
    obtain ⟨k, e, hk, ha⟩ := (h.row j hj).2.2 m hm
    have e1 : stp y.next j m = k := by unfold stp; rw [e]; rfl
    obtain ⟨i1, i2⟩ := LeastIs.go h hr w k hk hw'
    show goW y.next (stp y.next j m) w < _ ∧ Alk _ _ (nth F (goW y.next (stp y.next j m) w)).toNat (goW d.next (stp d.next (nth F j).toNat m) w)
    rw [e1]
    refine ⟨i1, i2.trans fun v hv => ?_⟩
    have gapp : ∀ (u : List Nat) (p : Nat), goW d.next (goW d.next p u) v = goW d.next p (u ++ v) := by
      intro u
      induction u with
      | nil => intro p; rfl
      | cons a u ih => intro p; exact ih _
    rw [gapp, gapp]
    exact ha (w ++ v) fun x hx => by
      rcases List.mem_append.1 hx with hx | hx
      · exact hw' x hx
      · exact hv x hx
theorem LeastIs.tell (h : LeastIs d F y) (hr : RT d.next d.next.length) {j : Nat} (hj : j < F.length) {w : List Nat} (hw : ∀ m ∈ w, m < 37) : nth y.tells (goW y.next j w) = nth d.tells (goW d.next (nth F j).toNat w) := by
  obtain ⟨h1, h2⟩ := h.go hr w j hj hw
  rw [(h.row _ h1).2.1, h2.tell]
theorem LeastIs.alk (h : LeastIs d F y) (hr : RT d.next d.next.length) {i j : Nat} (hi : i < F.length) (hj : j < F.length) : Alk y.next y.tells i j ↔ i = j := by
  refine ⟨fun ha => ?_, fun e => e ▸ Alk.refl _ _ _⟩
  have key : ∀ {i j : Nat}, i < F.length → j < F.length → Alk y.next y.tells i j → ¬ i < j := fun {i j} hi hj ha hlt => h.no i j hlt hj fun w hw => by
    rw [← h.tell hr hi hw, ← h.tell hr hj hw]; exact ha w hw
  have h1 := key hi hj ha
  have h2 := key hj hi ha.symm
  omega
end
end Go.Proofs.Ytmdkmobcglnmgaa
