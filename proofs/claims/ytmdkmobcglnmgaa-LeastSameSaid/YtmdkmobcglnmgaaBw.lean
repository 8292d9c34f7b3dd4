/- Of each state a block of alike ones: the walk. Conditions: a right table of at most a thousand states. -/
import Derived.Test.YtmdkmobcglnmgaaHp
import Derived.Sort.OwnSorted
namespace Go.Proofs.Ytmdkmobcglnmgaa
open Go.RowKit
set_option linter.unusedSimpArgs false

theorem alloc_if (w : World) (o : Obj) (b : Nat) : (w.alloc o).heap[b]? = if b = w.heap.size then some o else w.heap[b]? := by
  by_cases h : b = w.heap.size
  · rw [if_pos h, h]; exact heap_alloc_new w o
  · rw [if_neg h]
    by_cases hlt : b < w.heap.size
    · exact heap_alloc_old w o hlt
    · have h2 : (w.alloc o).heap.size = w.heap.size + 1 := by simp
      rw [Array.getElem?_eq_none (by omega), Array.getElem?_eq_none (by omega)]
theorem mapIs_at {K V : Type} (w : World) (b : Nat) (enc : K → Value) (ok : K → Prop) (R : V → Value → Prop) (h : w.heap[b]? = some (.map #[] 0)) : MapIs w b enc ok R ([] : List (K × V)) :=
  ⟨#[], 0, h, rfl, List.Pairwise.nil, (fun p h => by cases h), (fun i k v h => by simp at h), (fun i e h => by simp at h), (fun i j e e' h => by simp at h)⟩
theorem heap_drew (w : World) : w.drew.heap = w.heap := rfl
theorem sx_ok {B sb bb bs bt nb no nc tb to' tc n : Nat} (h : B ≤ sb ∧ B ≤ bb ∧ B ≤ bs ∧ B ≤ bt ∧ bs ≠ bt) : Sx.ok ⟨B, sb, bb, bs, bt, nb, no, nc, tb, to', tc, n⟩ := h
theorem four_at (w1 : World) (B : Nat) (hz : w1.heap.size = B + 1) (o1 o2 o3 o4 : Obj) :
    ((((w1.alloc o1).alloc o2).alloc o3).alloc o4).drew.heap[B + 1]? = some o1 ∧ ((((w1.alloc o1).alloc o2).alloc o3).alloc o4).drew.heap[B + 1 + 1]? = some o2 ∧
    ((((w1.alloc o1).alloc o2).alloc o3).alloc o4).drew.heap[B + 1 + 1 + 1]? = some o3 ∧ ((((w1.alloc o1).alloc o2).alloc o3).alloc o4).drew.heap[B + 1 + 1 + 1 + 1]? = some o4 ∧
    ∀ w, Below B w w1 → Below B w ((((w1.alloc o1).alloc o2).alloc o3).alloc o4).drew := by
  have z1 : (w1.alloc o1).heap.size = B + 1 + 1 := by simp [hz]
  have z2 : ((w1.alloc o1).alloc o2).heap.size = B + 1 + 1 + 1 := by simp [hz]
  have z3 : (((w1.alloc o1).alloc o2).alloc o3).heap.size = B + 1 + 1 + 1 + 1 := by simp [hz]
  simp only [heap_drew]
  refine ⟨?_, ?_, ?_, ?_, fun w h => Below.drew ((((h.alloc (by omega) _).alloc (by omega) _).alloc (by omega) _).alloc (by omega) _)⟩
  · rw [alloc_if, z3, if_neg (by omega), alloc_if, z2, if_neg (by omega), alloc_if, z1, if_neg (by omega), alloc_if, hz, if_pos rfl]
  · rw [alloc_if, z3, if_neg (by omega), alloc_if, z2, if_neg (by omega), alloc_if, z1, if_pos rfl]
  · rw [alloc_if, z3, if_neg (by omega), alloc_if, z2, if_pos rfl]
  · rw [alloc_if, z3, if_pos rfl]
/-- A splitter that begins. -/
theorem spm_start (x : Sx) (w : World) (h1 : SHead x w (.slice none 0 0) 0) (h2 : w.heap[x.bb]? = some (.cells ((List.replicate x.n (0 : Int)).map (Value.int .i64)).toArray 3 (0, 0))) (h3 : w.heap[x.bs]? = some (.map #[] 0)) (h4 : w.heap[x.bt]? = some (.map #[] 0)) :
    SpM x w (.slice none 0 0) 0 (List.replicate x.n 0) [] [] :=
  ⟨h1, h2, mapIs_at _ _ _ _ _ h3, Rows.nil _ _, (fun p h => by cases h), mapIs_at _ _ _ _ _ h4⟩
/-- The table, as it comes in. -/
structure TabX (w : World) (nb no nc tb to' tc n : Nat) (rs : List (List Int)) (ts : List Int) : Prop where
  rt : RT rs n
  tl : ts.length = n
  n1 : 1 ≤ n ∧ n ≤ 1000
  nlt : nb < w.heap.size
  tlt : tb < w.heap.size
  tells : ∀ k, k < n → w.cell? ⟨tb, to' + k, none⟩ = some (.int .u64 (nth ts k))
  rows : ∀ i, i < n → ∃ b o c, w.cell? ⟨nb, no + i, none⟩ = some (.slice (some ⟨b, o, none⟩) 37 c) ∧ b < w.heap.size ∧ ∀ m, m < 37 → w.cell? ⟨b, o + m, none⟩ = some (.int .i64 (nth (row rs i) m))
  u64 : ∀ z ∈ ts, u64ok z
theorem TabX.below {w w' : World} {nb no nc tb to' tc n : Nat} {rs : List (List Int)} {ts : List Int} (h : TabX w nb no nc tb to' tc n rs ts) (hb : Below w.heap.size w w') : TabX w' nb no nc tb to' tc n rs ts :=
  { h with
    nlt := Nat.lt_of_lt_of_le h.nlt hb.size
    tlt := Nat.lt_of_lt_of_le h.tlt hb.size
    tells := fun k hk => (hb.cell (p := ⟨tb, to' + k, none⟩) h.tlt).trans (h.tells k hk)
    rows := fun i hi => by
      obtain ⟨b, o, c, h1, h2, h3⟩ := h.rows i hi
      exact ⟨b, o, c, (hb.cell (p := ⟨nb, no + i, none⟩) h.nlt).trans h1, Nat.lt_of_lt_of_le h2 hb.size, fun m hm => (hb.cell (p := ⟨b, o + m, none⟩) h2).trans (h3 m hm)⟩ }
theorem TabX.tellsAt {x : Sx} {w w' : World} {rs : List (List Int)} {ts : List Int} (h : TabX w x.nb x.no x.nc x.tb x.to' x.tc x.n rs ts) (hB : x.B = w.heap.size) (hb : Below x.B w w') : TellsAt x w' ts :=
  TellsAt.below (x := x) (w := w) ⟨h.tl, by rw [hB]; exact h.tlt, h.tells⟩ hb
theorem TabX.nextAt {x : Sx} {w w' : World} {rs : List (List Int)} {ts : List Int} (h : TabX w x.nb x.no x.nc x.tb x.to' x.tc x.n rs ts) (hB : x.B = w.heap.size) (hb : Below x.B w w') : NextAt x w' rs :=
  NextAt.below (x := x) (w := w) ⟨h.rt.1, by rw [hB]; exact h.nlt, fun i hi => ⟨(h.rt.2 i hi).1, (h.rt.2 i hi).2, by rw [hB]; exact h.rows i hi⟩⟩ hb
/-- The answer: a number of each state; one number just of alike ones. -/
def BlocksAns (w : World) (n : Nat) (rs : List (List Int)) (ts : List Int) (e : Ending) (w' : World) : Prop :=
  ∃ bb l, e = .returned (.slice (some ⟨bb, 0, none⟩) n n) ∧ w.heap.size ≤ bb ∧ IntBlk w' bb 3 .i64 l ∧ l.length = n ∧ (∀ p, p < n → 0 ≤ nth l p ∧ nth l p < n) ∧ (∀ p q, p < n → q < n → (nth l p = nth l q ↔ Alk rs ts p q)) ∧ Below w.heap.size w w'

/-- No row lies between the two blocks. -/
def OutR (F0 F1 : Nat) (st : List (Int × GV)) : Prop := ∀ p ∈ st, ∀ b, p.2.1.ownBlock = some b → b < F0 ∨ F1 ≤ b
/-- What is taken, or nothing is left. -/
def Pend (rs : List (List Int)) (ts : List Int) (n : Nat) (blk : List Int) (st : List (Int × GV)) (td : TD) (many : Int) (bk : Bool) (k : Int × Int) : Prop :=
  (bk = true ∧ ∃ td0, Once td0 ∧ (k, ()) ∈ td0 ∧ td = mdel td0 k ∧ HI rs ts n blk st td0 many ∧ Stab rs n blk td0 (fun _ => False) 0) ∨
  (bk = false ∧ td = [] ∧ HI rs ts n blk st [] many ∧ Stab rs n blk [] (fun _ => False) 0)
theorem Kept.keepIn {x : Sx} {w w' : World} {r : Option Nat} {F0 F1 : Nat} (h : Kept x r w w') (h1 : x.sb < F0 ∧ x.bb < F0 ∧ x.bs < F0 ∧ x.bt < F0) (hF : F1 ≤ w.heap.size) (hr : ∀ b, r = some b → b < F0 ∨ F1 ≤ b) : KeepIn F0 F1 w w' := fun b b0 b1 =>
  h.2 b (by omega) (by omega) (by omega) (by omega) (by omega) (fun e => by have := hr b e.symm; omega)
theorem hi_lst {rs : List (List Int)} {ts blk : List Int} {st : List (Int × GV)} {td : TD} {many : Int} {n : Nat} (h : HI rs ts n blk st td many) {b : Int} (hb : 0 ≤ b ∧ b < many) : (∀ z ∈ lst st b, ∃ t : Nat, z = t ∧ t < n) ∧ (lst st b).length ≤ n := by
  obtain ⟨a1, a2, _⟩ := h.stI b hb.1 hb.2
  have k : ∀ z ∈ lst st b, ∃ t : Nat, z = t ∧ t < n := fun z hz => by
    obtain ⟨p, h1, h2, _⟩ := (a1 z).1 hz
    exact ⟨p, h2, h1⟩
  refine ⟨k, ?_⟩
  have := nodup_len a2 (k := (List.range n).map fun (i : Nat) => (i : Int)) fun z hz => by
    obtain ⟨t, h1, h2⟩ := k z hz
    exact List.mem_map.2 ⟨t, List.mem_range.2 h2, h1.symm⟩
  simpa using this
theorem come_len {rs : List (List Int)} {n m : Nat} {blk : List Int} {b : Int} {ml : List (Int × GV)} (h : ComeIs rs n blk b m ml) : ml.length ≤ n := by
  obtain ⟨ho, hin, hne⟩ := h
  have h1 : (ml.map fun p => p.1).Nodup := by
    unfold List.Nodup
    rw [List.pairwise_map]
    exact ho
  have := nodup_len h1 (k := (List.range n).map fun (i : Nat) => nth blk i) fun z hz => by
    obtain ⟨p, hp, rfl⟩ := List.mem_map.1 hz
    obtain ⟨z, hz⟩ := List.exists_mem_of_ne_nil _ (hne _ hp)
    have hz' : z ∈ lst ml p.1 := by unfold lst; rw [mget_of_mem ho (k := p.1) (v := p.2) hp]; exact hz
    obtain ⟨i, h1, _, h3, _⟩ := ((hin p.1).1 z).1 hz'
    exact List.mem_map.2 ⟨i, List.mem_range.2 h1, h3⟩
  simpa using this
/-- The comers' rows that are still to be looked at. -/
def Left (x : Sx) (F1 : Nat) (w : World) (ml : List (Int × GV)) (left : Int → Bool) (st : List (Int × GV)) : Prop := ∀ p ∈ ml, left p.1 = true →
  OwnI w x.B p.2.1 p.2.2 ∧ (∀ b, p.2.1.ownBlock = some b → F1 ≤ b ∧ b ≠ x.bb) ∧ ∀ p' ∈ st, Aprt p'.2.1 p.2.1
theorem mdel_length {K V : Type} [DecidableEq K] {m : List (K × V)} {k : K} {v : V} (h : (k, v) ∈ m) (ho : Once m) : (mdel m k).length + 1 = m.length := by
  obtain ⟨j, hj⟩ := List.getElem?_of_mem h
  have hlt := (List.getElem?_eq_some_iff.1 hj).1
  rw [mdel_old ho hj, List.length_eraseIdx, if_pos hlt]
  omega
theorem RangeIs.keep {K V : Type} {P : Program} {kt : TypeId} {w w' : World} {b r cnt : Nat} {enc : K → Value} {ok : K → Prop} {R : V → Value → Prop} {m : List (K × V)} {left : K → Bool} (h : RangeIs P kt w b r enc ok R m left cnt)
    (h1 : w'.heap[b]? = w.heap[b]?) (h2 : w'.heap[r]? = w.heap[r]?) : RangeIs P kt w' b r enc ok R m left cnt := by
  obtain ⟨hm, n, D, L, ⟨es, clock, since, seen, c0, hb, F, hs, hD, hr, rest⟩, hL⟩ := h
  exact ⟨hm.keep h1, n, D, L, ⟨es, clock, since, seen, c0, h1.trans hb, F, hs, hD, h2.trans hr, rest⟩, hL⟩
theorem blocks_less {n M M2 t t2 T : Nat} (h1 : M2 ≤ n) (h2 : M ≤ M2) (h3 : t ≤ t2) (h4 : t2 ≤ n * 37) (h5 : M2 = M → t2 + 1 = T) : (n - M2) * (37 * n + 1) + t < (n - M) * (37 * n + 1) + (T - 1) + 1 := by
  rcases Nat.lt_or_ge M M2 with h | h
  · have k : (n - M2 + 1) * (37 * n + 1) ≤ (n - M) * (37 * n + 1) := Nat.mul_le_mul_right _ (by omega)
    rw [Nat.add_mul, Nat.one_mul] at k
    generalize (n - M2) * (37 * n + 1) = a at *
    generalize (n - M) * (37 * n + 1) = b at *
    omega
  · have e : M2 = M := by omega
    have := h5 e
    rw [e]
    generalize (n - M) * (37 * n + 1) = b at *
    omega
theorem own_iter_ne {K V : Type} {P : Program} {kt : TypeId} {enc : K → Value} {ok : K → Prop} {R : V → Value → Prop} {w : World} {b r cnt : Nat} {m : List (K × V)} {left : K → Bool} {base e size n : Nat} {v : Value} {xs : List Value}
    (h : w.ownsRow base e size v n xs) (hr : RangeIs P kt w b r enc ok R m left cnt) : v.ownBlock = none ∨ v.ownBlock ≠ some r := by
  obtain ⟨_, _, _, _, hrg, _⟩ := hr
  exact .inr fun e => row_ne_iter h hrg e.symm
theorem rowV_aprt {st : List (Int × GV)} {v : Value} (h : ∀ p ∈ st, Aprt p.2.1 v) (c : Int) : Aprt (rowV st c) v := by
  unfold rowV
  cases hg : mget st c with
  | none => exact fun g h => by cases h
  | some y => exact h _ (mget_mem hg)
theorem rowV_out {F0 F1 : Nat} {st : List (Int × GV)} (h : OutR F0 F1 st) (c : Int) : ∀ b, (rowV st c).ownBlock = some b → b < F0 ∨ F1 ≤ b := by
  unfold rowV
  cases hg : mget st c with
  | none => exact fun g h => by cases h
  | some y => exact h _ (mget_mem hg)
theorem pw_aprt {ml : List (Int × GV)} (h : ml.Pairwise fun p q => Aprt p.2.1 q.2.1) {p q : Int × GV} (hp : p ∈ ml) (hq : q ∈ ml) (hne : p.1 ≠ q.1) : Aprt p.2.1 q.2.1 := by
  induction ml with
  | nil => cases hp
  | cons a l ih =>
    obtain ⟨h1, h2⟩ := List.pairwise_cons.1 h
    rcases List.mem_cons.1 hp with rfl | hp'
    · rcases List.mem_cons.1 hq with rfl | hq'
      · exact absurd rfl hne
      · exact h1 q hq'
    · rcases List.mem_cons.1 hq with rfl | hq'
      · exact (h1 p hp').symm
      · exact ih h2 hp' hq'
/-- What is left, behind a split. -/
theorem Left.split {x : Sx} {F1 : Nat} {w w' : World} {ml st : List (Int × GV)} {left : Int → Bool} {fv : Value} {many c : Int} {blk : List Int} {td : TD} {vo v' : Value} {ol l' : List Int} (h : Left x F1 w ml left st) (hs : SpM x w fv many blk st td)
    (hk : Kept x (rowV st c).ownBlock w w') (hpw : ml.Pairwise fun p q => Aprt p.2.1 q.2.1) (hm : (c, (vo, ol)) ∈ ml) (hv : v'.ownBlock = (rowV st c).ownBlock) :
    Left x F1 w' ml (fun z => left z && !decide (z = c)) (mset (mset st many (vo, ol)) c (v', l')) := fun p hp hl => by
  simp only [Bool.and_eq_true, Bool.not_eq_true', decide_eq_false_iff_not] at hl
  obtain ⟨h1, h2, h3⟩ := h p hp hl.1
  have hra := rowV_aprt h3 c
  refine ⟨own_keep h1 fun b hb => hk.2 b (h1.lt b hb).2 (fun e => hs.1.ne_row h1 (by rw [hb, e])) (h2 b hb).2 (fun e => own_map_ne h1 hs.2.2.1 (by rw [hb, e])) (fun e => own_map_ne h1 hs.2.2.2.2.2 (by rw [hb, e])) (fun e => hra b e.symm hb), h2, fun p' hp' => ?_⟩
  rcases mem_mset hp' with rfl | hp'
  · exact fun b e1 e2 => hra b (hv.symm.trans e1) e2
  · rcases mem_mset hp' with rfl | hp'
    · exact pw_aprt (p := (c, (vo, ol))) hpw hm hp (fun e => hl.2 e.symm)
    · exact h3 p' hp'
theorem OutR.split {F0 F1 : Nat} {st : List (Int × GV)} (h : OutR F0 F1 st) {many c : Int} {vo v' : Value} {ol l' : List Int} (ho : ∀ b, vo.ownBlock = some b → F1 ≤ b) (hv : v'.ownBlock = (rowV st c).ownBlock) : OutR F0 F1 (mset (mset st many (vo, ol)) c (v', l')) := fun p hp b hb => by
  rcases mem_mset hp with rfl | hp
  · exact rowV_out h c b (hv.symm.trans hb)
  · rcases mem_mset hp with rfl | hp
    · exact .inr (ho b hb)
    · exact h p hp b hb
def manyOf (w : World) (sb : Nat) : Nat := match w.cell? ⟨sb, 6, none⟩ with | some (.int _ z) => z.toNat | _ => 0
def todoOf (w : World) (bt : Nat) : Nat := match w.heap[bt]? with | some (.map es _) => es.size | _ => 0
def takenOf : Value → Nat | .bool true => 1 | _ => 0
theorem manyOf_is {x : Sx} {w : World} {fv : Value} {many : Int} {blk : List Int} {st : List (Int × GV)} {td : TD} (h : SpM x w fv many blk st td) : manyOf w x.sb = many.toNat := by
  unfold manyOf
  rw [h.1.cells.2.2.2.2.2.2]
theorem todoOf_is {x : Sx} {w : World} {fv : Value} {many : Int} {blk : List Int} {st : List (Int × GV)} {td : TD} (h : SpM x w fv many blk st td) : todoOf w x.bt = td.length := by
  obtain ⟨es, clock, hb, hs, _⟩ := h.2.2.2.2.2
  unfold todoOf
  rw [hb]
  exact hs
set_option maxRecDepth 100000 in
set_option maxHeartbeats 8000000 in
theorem blocks_any (w : World) (nb no nc tb to' tc n : Nat) (rs : List (List Int)) (ts : List Int) (h : TabX w nb no nc tb to' tc n rs ts) :
    Calls Try.prog 56 #[.agg #[.slice (some ⟨nb, no, none⟩) n nc, .slice (some ⟨tb, to', none⟩) n tc]] w (BlocksAns w n rs ts) := by
  have HTX := hid h
  have hn1 := h.n1
  obtain ⟨Z, hZ⟩ : ∃ Z, Z = ((List.replicate n (0 : Int)).map (Value.int .i64)).toArray := ⟨_, rfl⟩
  have HZ := hid hZ
  have hmk : ∀ w : World, (Instr.makeSlice 32 (.int .i64 (n : Int)) (.int .i64 (n : Int))).run Try.prog w = .ok (.slice (some ⟨w.heap.size, 0, none⟩) n n) (w.alloc (.cells Z 3)) := fun w => by
    rw [hZ]; exact run_make_ints (P := Try.prog) 32 3 .i64 .i64 .i64 Try.underlying32 info3 n (by omega) w
  have hmm := @run_makeMap Try.prog
  obtain ⟨B, hBe⟩ : ∃ B, B = w.heap.size := ⟨_, rfl⟩
  have HBE := hid hBe
  obtain ⟨w1, hw1⟩ : ∃ w1, w1 = w.alloc (.cells #[.slice (some ⟨nb, no, none⟩) n nc, .slice (some ⟨tb, to', none⟩) n tc] 30) := ⟨_, rfl⟩
  have HW1 := hid hw1
  have hx1 : w1.heap[B]? = some (.cells #[.slice (some ⟨nb, no, none⟩) n nc, .slice (some ⟨tb, to', none⟩) n tc] 30 (0, 0)) := by rw [hw1, hBe]; exact heap_alloc_new _ _
  have HX1 := hid hx1
  have hz1 : w1.heap.size = B + 1 := by rw [hw1, hBe]; simp
  have HZ1 := hid hz1
  have HB1 := hid (show Below B w w1 by rw [hw1, hBe]; exact (Below.refl _ _).alloc (Nat.le_refl _) _)
  obtain ⟨d0, d1, _⟩ := slot2 hx1
  have HKC := hid (show ∀ Y, Below (B + 1) w1 Y → Y.cell? ⟨B, 0, none⟩ = some (.slice (some ⟨nb, no, none⟩) n nc) ∧ Y.cell? ⟨B, 1, none⟩ = some (.slice (some ⟨tb, to', none⟩) n tc) from fun Y hY =>
    ⟨(hY.cell (p := ⟨B, 0, none⟩) (by simp)).trans d0, (hY.cell (p := ⟨B, 1, none⟩) (by simp)).trans d1⟩)
  clear h hZ hx1
  go_enter Try.func56, Try.ntmps56
  go_wp2_with fail
  rw [← hw1, ← hBe]
  clear hw1 hBe
  go_cut [3] from 8 (fun s3 wc => ∃ x : Sx, (x.B = B ∧ x.nb = nb ∧ x.no = no ∧ x.nc = nc ∧ x.tb = tb ∧ x.to' = to' ∧ x.tc = tc ∧ x.n = n) ∧ s3 = .pointer (some ⟨x.sb, 0, none⟩) ∧ x.ok ∧ SpM x wc (.slice none 0 0) 0 (List.replicate x.n 0) [] [] ∧ Below x.B w wc)
  case first =>
    go_region_held3 (fun Y => Y.cell? ⟨B, 0, none⟩ = some (.slice (some ⟨nb, no, none⟩) n nc) ∧ Y.cell? ⟨B, 1, none⟩ = some (.slice (some ⟨tb, to', none⟩) n tc))
      (exact HKC.out _ (by (repeat' (first | exact Below.refl _ _ | refine Below.drew ?_ | refine Below.alloc ?_ ?_ _)) <;> (first | omega | (simp <;> omega)))) (fail)
    all_goals
      go_wp2_with fail
      go_meet
      first
        | (refine ⟨⟨B, B + 1 + 1 + 1 + 1, B + 1, B + 1 + 1, B + 1 + 1 + 1, nb, no, nc, tb, to', tc, n⟩, ⟨rfl, rfl, rfl, rfl, rfl, rfl, rfl, rfl⟩, rfl, sx_ok ?_, spm_start _ _ (four_at w1 B hz1 _ _ _ _).2.2.2.1 ((four_at w1 B hz1 _ _ _ _).1.trans (by rw [HZ.out])) (four_at w1 B hz1 _ _ _ _).2.1 (four_at w1 B hz1 _ _ _ _).2.2.1, (four_at w1 B hz1 _ _ _ _).2.2.2.2 w HB1.out⟩; omega)
        | (refine ⟨⟨B, B + 1 + 1 + 1 + 1, B + 1, B + 1 + 1 + 1, B + 1 + 1, nb, no, nc, tb, to', tc, n⟩, ⟨rfl, rfl, rfl, rfl, rfl, rfl, rfl, rfl⟩, rfl, sx_ok ?_, spm_start _ _ (four_at w1 B hz1 _ _ _ _).2.2.2.1 ((four_at w1 B hz1 _ _ _ _).1.trans (by rw [HZ.out])) (four_at w1 B hz1 _ _ _ _).2.2.1 (four_at w1 B hz1 _ _ _ _).2.1, (four_at w1 B hz1 _ _ _ _).2.2.2.2 w HB1.out⟩; omega)
        | (refine ⟨⟨B, B + 1 + 1 + 1 + 1, B + 1 + 1, B + 1, B + 1 + 1 + 1, nb, no, nc, tb, to', tc, n⟩, ⟨rfl, rfl, rfl, rfl, rfl, rfl, rfl, rfl⟩, rfl, sx_ok ?_, spm_start _ _ (four_at w1 B hz1 _ _ _ _).2.2.2.1 ((four_at w1 B hz1 _ _ _ _).2.1.trans (by rw [HZ.out])) (four_at w1 B hz1 _ _ _ _).1 (four_at w1 B hz1 _ _ _ _).2.2.1, (four_at w1 B hz1 _ _ _ _).2.2.2.2 w HB1.out⟩; omega)
        | (refine ⟨⟨B, B + 1 + 1 + 1 + 1, B + 1 + 1, B + 1 + 1 + 1, B + 1, nb, no, nc, tb, to', tc, n⟩, ⟨rfl, rfl, rfl, rfl, rfl, rfl, rfl, rfl⟩, rfl, sx_ok ?_, spm_start _ _ (four_at w1 B hz1 _ _ _ _).2.2.2.1 ((four_at w1 B hz1 _ _ _ _).2.1.trans (by rw [HZ.out])) (four_at w1 B hz1 _ _ _ _).2.2.1 (four_at w1 B hz1 _ _ _ _).1, (four_at w1 B hz1 _ _ _ _).2.2.2.2 w HB1.out⟩; omega)
        | (refine ⟨⟨B, B + 1 + 1 + 1 + 1, B + 1 + 1 + 1, B + 1, B + 1 + 1, nb, no, nc, tb, to', tc, n⟩, ⟨rfl, rfl, rfl, rfl, rfl, rfl, rfl, rfl⟩, rfl, sx_ok ?_, spm_start _ _ (four_at w1 B hz1 _ _ _ _).2.2.2.1 ((four_at w1 B hz1 _ _ _ _).2.2.1.trans (by rw [HZ.out])) (four_at w1 B hz1 _ _ _ _).1 (four_at w1 B hz1 _ _ _ _).2.1, (four_at w1 B hz1 _ _ _ _).2.2.2.2 w HB1.out⟩; omega)
        | (refine ⟨⟨B, B + 1 + 1 + 1 + 1, B + 1 + 1 + 1, B + 1 + 1, B + 1, nb, no, nc, tb, to', tc, n⟩, ⟨rfl, rfl, rfl, rfl, rfl, rfl, rfl, rfl⟩, rfl, sx_ok ?_, spm_start _ _ (four_at w1 B hz1 _ _ _ _).2.2.2.1 ((four_at w1 B hz1 _ _ _ _).2.2.1.trans (by rw [HZ.out])) (four_at w1 B hz1 _ _ _ _).2.1 (four_at w1 B hz1 _ _ _ _).1, (four_at w1 B hz1 _ _ _ _).2.2.2.2 w HB1.out⟩; omega)
        | fail
  case rest =>
    clear hmk hmm hz1 d0 d1 HKC HB1 HX1 HZ1 HW1 HZ
    obtain ⟨x, ⟨rfl, rfl, rfl, rfl, rfl, rfl, rfl, rfl⟩, rfl, hx, hsp, hbw⟩ := hcut
    have HX := hid hx
    have HB0 := hid hbw
    have HS0 := hid hsp
    have HT0 := hid (HTX.out.tellsAt HBE.out hbw)
    have HWB : x.B ≤ w.heap.size := Nat.le_of_eq HBE.out
    clear hx hsp hbw
    go_wp2_with (first
      | (go_at_call 65
         refine (first_any x HX.out _ ts hn1.2 HTX.out.u64 _ HT0.out HS0.out (Nat.le_trans HWB HB0.out.size)).mono ?_
         rintro e w2 ⟨rfl, st0, td0, hsp2, hst2, htd2, hb2⟩
         have HS2 := hid hsp2
         have HB2 := hid (HB0.out.trans hb2)
         obtain ⟨HI0, HSTAB0⟩ := hi_start HTX.out.rt HTX.out.tl hsp2.2.2.1.once hst2 htd2
         have HI1 := hid HI0
         have HST1 := hid HSTAB0
         clear hsp2 hst2 htd2 hb2 HI0 HSTAB0 HS0 HB0 HT0)
      | (go_at_call 66
         refine (turned_any x HX.out rs _ _ _ _ hn1.2 _ (HTX.out.nextAt HBE.out HB2.out) HS2.out (Nat.le_trans HWB HB2.out.size)).mono ?_
         rintro e w3 ⟨rfl, fv, us, hsp3, hus3, hdn3, hb3⟩
         have HS3 := hid hsp3
         have HF3 := hid (FromAt.start hus3 hdn3)
         have HB3 := hid (HB2.out.trans hb3)
         have HF0 := hid (show x.B ≤ w2.heap.size from Nat.le_trans HWB HB2.out.size)
         have HF01 := hid (show w2.heap.size ≤ w3.heap.size from hb3.size)
         have HLT := hid (show x.sb < w2.heap.size ∧ x.bb < w2.heap.size ∧ x.bs < w2.heap.size ∧ x.bt < w2.heap.size from ⟨HS2.out.1.lt, HS2.out.2.1.lt, HS2.out.2.2.1.lt, HS2.out.2.2.2.2.2.lt⟩)
         have HRL := hid (show ∀ p ∈ st0, ∀ b, p.2.1.ownBlock = some b → b < w2.heap.size from fun p hp b e => ((HS2.out.2.2.2.1.1 p hp).lt b e).2)
         obtain ⟨F0, hF0⟩ : ∃ F0, F0 = w2.heap.size := ⟨_, rfl⟩
         obtain ⟨F1, hF1⟩ : ∃ F1, F1 = w3.heap.size := ⟨_, rfl⟩
         rw [← hF0] at HF3 HF0 HF01 HLT HRL
         rw [← hF1] at HF3 HF01
         have HF1E := hid hF1
         clear hsp3 hus3 hdn3 hb3 HS2 HB2 hF0 hF1)
      | (go_at_call 67
         refine (next_any x HX.out _ _ _ _ td0 (Nat.le_trans (hi_todo HI1.out HS3.out.2.2.2.2.2.once) (by omega)) _ HS3.out (Nat.le_trans HWB HB3.out.size)).mono ?_
         rintro e w4 ⟨hb4, hkp4, han⟩
         have HB4 := hid (HB3.out.trans hb4)
         have HK4 := hid hkp4
         clear hb4 hkp4
         have HAN := hid (show ∃ k bk td, e = .returned (.tuple #[pairV k, .bool bk]) ∧ SpM x w4 fv _ _ st0 td ∧ ((bk = true ∧ (k, ()) ∈ td0 ∧ td = mdel td0 k) ∨ (bk = false ∧ td0 = [] ∧ td = td0)) from by
           rcases han with ⟨k, hk, he, hs⟩ | ⟨h0, he, hs⟩
           · exact ⟨k, true, _, he, hs, .inl ⟨rfl, hk, rfl⟩⟩
           · exact ⟨_, false, _, he, hs, .inr ⟨rfl, h0, rfl⟩⟩)
         clear han
         obtain ⟨k, bk, td, rfl, hs4, hor⟩ := HAN.out
         have HS4 := hid hs4
         have HOR := hid hor
         clear HAN hs4 hor
         obtain ⟨k1, k2⟩ := k)
      | fail)
    obtain ⟨blk0, hblk0⟩ : ∃ l, l = numbered ts := ⟨_, rfl⟩
    obtain ⟨many0, hmany0⟩ : ∃ m, m = ((numGo ts).1.length : Int) := ⟨_, rfl⟩
    rw [← hblk0, ← hmany0] at HI1 HS3 HS4
    rw [← hblk0] at HST1
    clear hblk0 hmany0
    obtain ⟨w5, hw5⟩ : ∃ w5, w5 = w4.alloc (.cells #[.int .i64 k1, .int .i64 k2] 102) := ⟨_, rfl⟩
    rw [← hw5]
    have HQ5 := hid (show w5.heap[w4.heap.size]? = some (.cells #[.int .i64 k1, .int .i64 k2] 102 (0, 0)) by rw [hw5]; exact heap_alloc_new _ _)
    have hg5 : w4.grownBy w5 none := by rw [hw5]; exact World.grownBy_alloc w4 _ none
    have HB5 := hid (HB4.out.grown hg5 (Nat.le_trans HWB HB4.out.size) (fun k hk => by cases hk))
    have HS5 := hid (SpM.grown HS4.out hg5 (by simp) (by simp) (by simp) (by simp) (fun _ _ => Classical.em _))
    have HK5 := hid (HK4.out.trans (Kept.grown hg5 (.inl rfl)))
    have HF5 := hid (HF3.out.keep (HK5.out.keepIn HLT.out (Nat.le_of_eq HF1E.out) (fun b e => by cases e)))
    have HFS := hid (show F1 ≤ w4.heap.size ∧ F1 ≤ w5.heap.size from ⟨by rw [HF1E.out]; exact HK4.out.1, by rw [HF1E.out]; exact HK5.out.1⟩)
    have HPE := hid (show Pend rs ts x.n blk0 st0 td many0 bk (k1, k2) from by
      rcases HOR.out with ⟨a, b, c⟩ | ⟨a, b, c⟩
      · exact .inl ⟨a, td0, HS3.out.2.2.2.2.2.once, b, c, HI1.out, HST1.out⟩
      · subst b; exact .inr ⟨a, c, HI1.out, HST1.out⟩)
    have HOT := hid (show OutR F0 F1 st0 from fun p hp b e => .inl (HRL.out p hp b e))
    clear hw5 hg5 HS4 HB4 HK4 HK5 HF3 HOR HI1 HST1 HS3 HRL HF1E HB3
    go_loopw [4, 5] (fun s4 s5 wr => ∃ (q : Nat) (k1 k2 : Int) (bk : Bool) (many : Int) (blk : List Int) (st : List (Int × GV)) (td : TD), s4 = .pointer (some ⟨q, 0, none⟩) ∧ s5 = .bool bk ∧ Hid (wr.heap[q]? = some (.cells #[.int .i64 k1, .int .i64 k2] 102 (0, 0))) ∧
      Hid (SpM x wr fv many blk st td) ∧ Hid (Pend rs ts x.n blk st td many bk (k1, k2)) ∧ Hid (FromAt wr F0 F1 fv x.n rs) ∧ Hid (F1 ≤ q ∧ F1 ≤ wr.heap.size) ∧ Hid (OutR F0 F1 st) ∧ Hid (Below x.B w wr)) (fun _ s5 wr => (x.n - manyOf wr x.sb) * (37 * x.n + 1) + todoOf wr x.bt + takenOf s5)
    case atStart => exact ⟨_, k1, k2, bk, many0, blk0, st0, td, rfl, rfl, HQ5, HS5, HPE, HF5, HFS, HOT, HB5⟩
    case round =>
      obtain ⟨q, k1, k2, bk, many, blk, st, td, rfl, rfl, HQ, HS, HP, HF, HFB, HO, HB⟩ := hrel
      clear HQ5 HS5 HPE HF5 HFS HOT HB5
      cases bk with
      | false =>
        obtain ⟨h1, h2, h3⟩ : td = [] ∧ HI rs ts x.n blk st [] many ∧ Stab rs x.n blk [] (fun _ => False) 0 := by
          rcases HP.out with ⟨h, _⟩ | ⟨_, h⟩
          · cases h
          · exact h
        have c3 := HS.out.1.cells.2.2.2.1
        have HH2 := hid h2
        have HH3 := hid h3
        clear h1 h2 h3
        go_wp2_with fail
        go_ret
        exact ⟨x.bb, blk, rfl, Nat.le_trans (Nat.le_of_eq HBE.out.symm) HX.out.2.1, HS.out.2.1, HH2.out.len, fun p hp => ⟨(HH2.out.rng p hp).1, Int.lt_of_lt_of_le (HH2.out.rng p hp).2 (hi_many HH2.out)⟩, fun p q hp hq => hi_end HTX.out.rt HH2.out HH3.out hp hq, HBE.out ▸ HB.out⟩
      | true =>
        obtain ⟨td0, ho0, hk0, rfl, hi0, hst0⟩ : ∃ td0, Once td0 ∧ ((k1, k2), ()) ∈ td0 ∧ td = mdel td0 (k1, k2) ∧ HI rs ts x.n blk st td0 many ∧ Stab rs x.n blk td0 (fun _ => False) 0 := by
          rcases HP.out with ⟨_, h⟩ | ⟨h, _⟩
          · exact h
          · cases h
        obtain ⟨b1, b2, b3, b4⟩ := hi0.tdK (k1, k2) (mget_of_mem ho0 hk0)
        obtain ⟨m, rfl⟩ : ∃ m : Nat, k2 = m := ⟨k2.toNat, by simp only at b3; omega⟩
        have hm : m < 37 := by simp only at b4; omega
        have hmn := hi_many hi0
        have hb : 0 ≤ k1 ∧ k1 < many := ⟨b1, b2⟩
        have hb' : 0 ≤ k1 ∧ k1 ≤ 1000 := ⟨b1, by omega⟩
        have HLS := hid (hi_lst hi0 hb)
        have HR0 := hid (HR.start (b0 := k1) (m0 := m) hi0 ho0 hst0)
        have HBK := hid (show ∀ i, i < x.n → 0 ≤ nth blk i ∧ nth blk i ≤ 1000 from fun i hi => ⟨(hi0.rng i hi).1, by have := (hi0.rng i hi).2; omega⟩)
        have HI0 := hid hi0
        have HTL := hid (show (mdel td0 (k1, (m : Int))).length + 1 = td0.length from mdel_length hk0 ho0)
        obtain ⟨a0, a1, _, _⟩ := slot2 HQ.out
        clear HP ho0 hk0 hi0 hst0 b1 b2 b3 b4
        go_wp2_with (first
          | (go_at_call 68
             refine (leads_any x rs F0 F1 fv many blk st _ k1 hb' m hm hn1.2 _ HS.out HF.out HFB.out.2 HTX.out.rt.1 HI0.out.len HBK.out HLS.out.1 HLS.out.2).mono ?_
             rintro e w1 ⟨ml, rfl, hgm, hrows, hld, hbel⟩
             have HGM := hid hgm
             have HRW := hid hrows
             have HCI := hid (come_is HTX.out.rt hm HI0.out hb hgm.once hld)
             have HBL := hid hbel
             have hcl := come_len HCI.out
             clear hgm hrows hld hbel)
          | (at_range
             refine wpList_range_is rfl (.tmp 37) 97 rfl intKey Try.underlying97 rfl HGM.out (by unfold maxLen; omega) ?_
             intro w2 cnt hrg2 hg2 hs2)
          | go_in)
        go_frame
        obtain ⟨g, hg⟩ : ∃ g, g = wr.heap.size := ⟨_, rfl⟩
        obtain ⟨r, hr⟩ : ∃ r, r = w1.heap.size := ⟨_, rfl⟩
        have hgr : g < r := by rw [hg, hr]; exact HGM.out.lt
        have HG2 := hid (show wr.grownBy w2 none from grown_trans (grown_of_below HBL.out none) hg2)
        have HS2 := hid (SpM.grown HS.out HG2.out (by simp) (by simp) (by simp) (by simp) (fun _ _ => Classical.em _))
        have HQ2 := hid ((HG2.out.block q (Array.getElem?_eq_some_iff.1 HQ.out).1 (by simp)).trans HQ.out)
        have HF2 := hid (HF.out.keep (show KeepIn F0 F1 wr w2 from fun b _ h2 => HG2.out.block b (by have := HFB.out.2; omega) (by simp)))
        have HB2 := hid (HB.out.grown HG2.out (Nat.le_trans HWB HB.out.size) (fun k hk => by cases hk))
        have HL2 := hid (show Left x F1 w2 ml (fun _ => true) st from fun p hp _ => by
          have ho := HRW.out.1 p hp
          refine ⟨ownsRow_mono (ho.kept hg2 (Classical.em _)) (Nat.le_trans HWB HB.out.size), fun b hb => ⟨Nat.le_trans HFB.out.2 (ho.lt b hb).1, fun e => ?_⟩, fun p' hp' b h1 h2 => ?_⟩
          · have h1 := (ho.lt b hb).1
            have h2 := HS.out.2.1.lt
            omega
          · have h3 := (ho.lt b h2).1
            have h4 := ((HS.out.2.2.2.1.1 p' hp').lt b h1).2
            omega)
        have HPW := hid HRW.out.2
        have HGR := hid (show F1 ≤ g from by rw [hg]; exact HFB.out.2)
        have HQG := hid (show q < g from by rw [hg]; exact (Array.getElem?_eq_some_iff.1 HQ.out).1)
        rw [← hr] at hrg2 ⊢
        rw [← hg] at hrg2
        have HRG := hid hrg2
        have HMZ := hid (show manyOf wr x.sb = many.toNat ∧ todoOf wr x.bt = td0.length - 1 from ⟨manyOf_is HS.out, by rw [todoOf_is HS.out]; have := HTL.out; omega⟩)
        have HTD := hid (hi_todo HR0.out.hi HS.out.2.2.2.2.2.once)
        obtain ⟨wo, rfl⟩ : ∃ wo : World, wo = wr := ⟨_, rfl⟩
        have HQP := hid HFB.out.1
        clear hrg2 hg2 hs2 HS HF HB HFB HQ HGM HRW HBL HG2 hr hg a0 a1 HBK HLS
        go_loopw [6] (fun _ wr => ∃ (left : Int → Bool) (cnt : Nat) (many2 : Int) (blk2 : List Int) (st2 : List (Int × GV)) (td2 : TD), Hid (RangeIs Try.prog 3 wr g r (fun z : Int => Value.int .i64 z) i64ok gR ml left cnt) ∧
          Hid (HR rs ts x.n blk k1 m left blk2 st2 td2 many2) ∧ Hid (SpM x wr fv many2 blk2 st2 td2) ∧ Hid (Left x F1 wr ml left st2) ∧ Hid (wr.heap[q]? = some (.cells #[.int .i64 k1, .int .i64 (m : Int)] 102 (0, 0))) ∧ Hid (FromAt wr F0 F1 fv x.n rs) ∧
          Hid (OutR F0 F1 st2) ∧ Hid (Below x.B w wr) ∧ Hid (r < wr.heap.size) ∧ Hid (many ≤ many2 ∧ (many2 = many → td2.length + 1 = td0.length))) (fun _ wr => wr.rangeLeft g r)
        case atStart => exact ⟨_, _, many, blk, st, _, HRG, HR0, HS2, HL2, HQ2, HF2, HO, HB2, hid HRG.out.lt, hid ⟨Int.le_refl _, fun _ => HTL.out⟩⟩
        case round =>
          obtain ⟨left, cnt', many2, blk2, st2, td2, HRGr, HRr, HSr, HLr, HQr, HFr, HOr, HBr, HRL, HMM⟩ := hrel
          clear HRG HR0 HS2 HL2 HQ2 HF2 HO HB2
          go_wp2_with (at_next; refine wpList_next_is rfl (.tmp 38) rfl intKey rfl HRGr.out ?_ ?_)
          · intro hl0
            have HST := hid (HRr.out.fin HCI.out fun p hp => by first | exact hl0 p.1 p.2 hp | exact hl0 p.1 p.2.1 p.2.2 hp)
            clear hl0
            obtain ⟨a0, a1, _, _⟩ := slot2 HQr.out
            have HWS := hid (show x.sb < wr.heap.size ∧ x.bb < wr.heap.size ∧ x.bs < wr.heap.size ∧ x.bt < wr.heap.size ∧ F1 ≤ wr.heap.size from by
              obtain ⟨z1, z2, z3, z4⟩ := HLT.out
              have := HF01.out
              have := HGR.out
              have := HRL.out
              omega)
            have HS13 := hid (HSr.out.below ((Below.refl _ _).alloc (Nat.le_refl _) (.cells #[.int .i64 k1, .int .i64 (m : Int)] 102)))
            have HKA := hid (show Kept x none wr (wr.alloc (.cells #[.int .i64 k1, .int .i64 (m : Int)] 102)) from Kept.grown (World.grownBy_alloc wr _ none) (.inl rfl))
            go_wp2_with (first
              | (go_at_call 67
                 refine (next_any x HX.out fv many2 blk2 st2 td2 (Nat.le_trans (hi_todo HRr.out.hi HSr.out.2.2.2.2.2.once) (by omega)) _ HS13.out (Nat.le_trans HWB (Nat.le_trans HBr.out.size HKA.out.1))).mono ?_
                 rintro e w4 ⟨hb4, hk4, han⟩
                 have HAN := hid (show ∃ k bk td, e = .returned (.tuple #[pairV k, .bool bk]) ∧ SpM x w4 fv many2 blk2 st2 td ∧ ((bk = true ∧ (k, ()) ∈ td2 ∧ td = mdel td2 k) ∨ (bk = false ∧ td2 = [] ∧ td = td2)) from by
                   rcases han with ⟨k, hk, he, hs⟩ | ⟨h0, he, hs⟩
                   · exact ⟨k, true, _, he, hs, .inl ⟨rfl, hk, rfl⟩⟩
                   · exact ⟨_, false, _, he, hs, .inr ⟨rfl, h0, rfl⟩⟩)
                 have HKB4 := hid (HKA.out.trans hk4)
                 have HBB4 := hid (HBr.out.trans ((show Below x.B wr (wr.alloc (.cells #[.int .i64 k1, .int .i64 (m : Int)] 102)) from (Below.refl _ _).alloc (Nat.le_trans HWB HBr.out.size) _).trans hb4))
                 have HQ4 := hid (show w4.heap[wr.heap.size]? = some (.cells #[.int .i64 k1, .int .i64 (m : Int)] 102 (0, 0)) from (hk4.2 wr.heap.size (by simp) (by have := HWS.out; omega) (by have := HWS.out; omega) (by have := HWS.out; omega) (by have := HWS.out; omega) (by simp)).trans (heap_alloc_new _ _))
                 clear hb4 hk4 han
                 obtain ⟨k, bk, td, rfl, hs4, hor⟩ := HAN.out
                 have HS4 := hid hs4
                 have HOR := hid hor
                 clear HAN hs4 hor
                 obtain ⟨k1', k2'⟩ := k
                 obtain ⟨b0, b1, g0, g1⟩ := slot2 HQ4.out
                 have HQ5 := hid (show (w4.setCell ⟨wr.heap.size, 0, none⟩ (.int .i64 k1')).heap[wr.heap.size]? = some (.cells #[.int .i64 k1', .int .i64 (m : Int)] 102 (0, 0)) from heap_setCell_same w4 _ 0 _ 102 _ HQ4.out)
                 obtain ⟨b2, b3, g2, g3⟩ := slot2 HQ5.out)
              | fail)
            have hg6 : w4.grownBy ((w4.setCell ⟨wr.heap.size, 0, none⟩ (.int .i64 k1')).setCell ⟨wr.heap.size, 1, none⟩ (.int .i64 k2')) (some wr.heap.size) := grown_setCell (grown_setCell (World.grownBy.refl w4 _) 0 _) 1 _
            have HG6 := hid hg6
            obtain ⟨z1, z2, z3, z4, z5⟩ := HWS.out
            have hs6 := SpM.grown HS4.out hg6 (fun e => by injection e with e; omega) (fun e => by injection e with e; omega) (fun e => by injection e with e; omega) (fun e => by injection e with e; omega) (fun p hp => .inr (fun e => Nat.lt_irrefl _ ((HSr.out.2.2.2.1.1 p hp).lt _ e).2))
            have HS6 := hid hs6
            clear hg6 hs6
            constructor
            · refine ⟨wr.heap.size, k1', k2', bk, many2, blk2, st2, td, rfl, rfl, hid (heap_setCell_same _ _ 1 _ 102 _ HQ5.out), HS6, hid ?_, hid (HFr.out.keep fun b y0 y1 => ?_), hid ⟨z5, Nat.le_trans (Nat.le_trans z5 HKB4.out.1) HG6.out.size⟩, HOr, hid (HBB4.out.grown HG6.out (Nat.le_trans HWB HBB4.out.size) (fun k hk => by cases hk; exact Nat.le_trans HWB HBr.out.size))⟩
              · rcases HOR.out with ⟨a, b, c⟩ | ⟨a, b, c⟩
                · exact .inl ⟨a, td2, HSr.out.2.2.2.2.2.once, b, c, HRr.out.hi, HST.out⟩
                · have h1 := HRr.out.hi
                  have h2 := HST.out
                  rw [b] at h1 h2
                  exact .inr ⟨a, c.trans b, h1, h2⟩
              · exact (HG6.out.block b (by have := HKB4.out.1; omega) (fun e => by injection e with e; omega)).trans (HKB4.out.keepIn HLT.out z5 (fun b e => by cases e) b y0 y1)
            · rw [manyOf_is HS6.out, todoOf_is HS6.out, HMZ.out.1, HMZ.out.2, Nat.add_assoc]
              have h0 := HI0.out.pos
              have h1 := hi_many HRr.out.hi
              obtain ⟨h2, h3⟩ := HMM.out
              refine blocks_less (t2 := td2.length) (by omega) (by omega) ?_ (hi_todo HRr.out.hi HSr.out.2.2.2.2.2.once) (fun e => h3 (by omega))
              rcases HOR.out with ⟨a, b, c⟩ | ⟨a, b, c⟩
              · rw [c, a]
                exact Nat.le_of_eq (mdel_length b HSr.out.2.2.2.2.2.once)
              · rw [c, a]
                exact Nat.le_refl _
          · intro c ya yb u w3 cnt3 hmem hlk hu hrg3 hlt3 hg3 hs3 hen
            have hu' : u = ya := hu
            subst hu'
            obtain ⟨ho, hob, hap⟩ := HLr.out (c, (u, yb)) hmem hlk
            obtain ⟨c1, c2, e1, hbl⟩ := HRr.out.block HCI.out hmem hlk
            have hrF : F1 < r ∧ x.sb < r ∧ x.bb < r ∧ x.bs < r ∧ x.bt < r ∧ q < r ∧ x.B ≤ r := by
              obtain ⟨z1, z2, z3, z4⟩ := HLT.out
              have := HF01.out
              have := HGR.out
              have := HQG.out
              have := HF0.out
              omega
            obtain ⟨z0, z1, z2, z3, z4, z5, z6⟩ := hrF
            have HO3 := hid (show OwnI w3 x.B u yb from ho.kept hg3 (own_iter_ne ho HRGr.out))
            have HS3 := hid (SpM.grown HSr.out hg3 (fun e => by injection e with e; omega) (fun e => by injection e with e; omega) (fun e => by injection e with e; omega) (fun e => by injection e with e; omega) (fun p hp => own_iter_ne (HSr.out.2.2.2.1.1 p hp) HRGr.out))
            have HL3 := hid (show Left x F1 w3 ml left st2 from fun p hp hl => by
              obtain ⟨h1, h2, h3⟩ := HLr.out p hp hl
              exact ⟨h1.kept hg3 (own_iter_ne h1 HRGr.out), h2, h3⟩)
            have HQ3 := hid ((hg3.block q (Array.getElem?_eq_some_iff.1 HQr.out).1 (fun e => by injection e with e; omega)).trans HQr.out)
            have HF3 := hid (HFr.out.keep (show KeepIn F0 F1 wr w3 from fun b _ h2 => hg3.block b (by have := HRL.out; omega) (fun e => by injection e with e; omega)))
            have HB3 := hid (HBr.out.grown hg3 (Nat.le_trans HWB HBr.out.size) (fun k hk => by cases hk; exact z6))
            have HRG3 := hid hrg3
            have HLT3 := hid (show w3.rangeLeft g r < wr.rangeLeft g r by rw [HRGr.out.left_eq, hrg3.left_eq]; exact hlt3)
            have HMEM := hid (And.intro hmem hlk)
            have HOB := hid (And.intro hob hap)
            have HC12 := hid (And.intro c1 c2)
            have HKC := hid (show i64ok c from HCI.out.1 |> fun _ => HRG3.out.1.oks _ hmem)
            have HROWC := hid (HS3.out.2.2.2.1.row c)
            have HRL3 := hid (show r < w3.heap.size from by rw [hs3]; exact HRL.out)
            obtain ⟨yA, yc, hyv0, _⟩ := own_arr ho
            have hyv : u = .slice yA yb.length yc := hyv0
            clear hyv0
            obtain ⟨LA, Lc, hLv, _⟩ := own_arr HROWC.out
            have HLV := hid hLv
            have HYV := hid hyv
            have c4 := HS3.out.1.cells.2.2.2.2.1
            obtain ⟨hst1, hst2⟩ := hi_lst HRr.out.hi HC12.out
            have HOLS := hid (show ∀ z ∈ yb, ∃ s : Nat, z = s ∧ s < blk2.length from fun z hz => by
              obtain ⟨p, h1, h2, _⟩ := ((HCI.out.2.1 c).1 z).1 (by rw [e1]; exact hz)
              exact ⟨p, h2, by rw [HRr.out.hi.len]; exact h1⟩)
            have HLS := hid (show ∀ z ∈ lst st2 c, ∃ s : Nat, z = s ∧ s < blk2.length from by rw [HRr.out.hi.len]; exact hst1)
            have HLN := hid (HRr.out.hi.stI c HC12.out.1 HC12.out.2).2.2
            have HM2 := hid (show 0 ≤ many2 ∧ many2 ≤ 1000 from ⟨HRr.out.hi.pos, by have := hi_many HRr.out.hi; omega⟩)
            subst hyv
            clear hmem hlk hrg3 hlt3 hg3 hs3 hob hap HRGr HSr HLr HQr HFr HBr ho c1 c2 hbl hLv e1 hu HRL HYV hst1
            by_cases hlt : yb.length < (lst st2 c).length
            · go_wp2_with (first
                | (at_lookup; refine wpList_look_row rfl (.tmp 49) (.tmp 50) rfl HS3.out.2.2.1 c HKC.out rfl rfl ?_; rw [HLV.out])
                | (go_at_call 69
                   refine (split_any x HX.out fv many2 blk2 st2 td2 c _ yb HM2.out HC12.out HRr.out.hi.len hn1.2 HOLS.out (by omega) HLS.out (by omega) HLN.out _ HS3.out HO3.out (fun p hp _ => HOB.out.2 p hp) (fun e => (HOB.out.1 _ e).2 rfl) (Nat.le_trans HWB HB3.out.size)).mono ?_
                   rintro e w5 ⟨rfl, hb5, hk5, v', td', hv', htp, hs5⟩
                   have HB5 := hid (HB3.out.trans hb5)
                   have HK5 := hid hk5
                   have HV5 := hid hv'
                   have HT5 := hid htp
                   have HS5 := hid hs5
                   clear hb5 hk5 hv' htp hs5)
                | fail)
              have HQP' := HQP.out
              obtain ⟨y1, y2, y3, y4⟩ := HLT.out
              have y5 := HF01.out
              have y6 := HGR.out
              have HRG5 := hid (HRG3.out.keep (HK5.out.2 g (by have := HRL3.out; omega) (by omega) (by omega) (by omega) (by omega) (fun e => own_map_ne HROWC.out HRG3.out.map e.symm)) (HK5.out.2 r HRL3.out (by omega) (by omega) (by omega) (by omega) (fun e => by
                rcases own_iter_ne HROWC.out HRG3.out with h | h
                · rw [h] at e; cases e
                · exact h e.symm)))
              constructor
              · refine ⟨_, cnt3, many2 + 1, _, _, td', HRG5, hid (HR.split HRr.out HTX.out.rt hm HI0.out.coarse HCI.out HMEM.out.1 HMEM.out.2 hlt HT5.out _ v'), HS5, hid (HL3.out.split HS3.out HK5.out HPW.out HMEM.out.1 HV5.out), hid ?_, hid (HF3.out.keep (HK5.out.keepIn HLT.out (by have := HRL3.out; omega) (rowV_out HOr.out c))), hid (HOr.out.split (fun b hb => (HOB.out.1 b hb).1) HV5.out), HB5, hid (Nat.lt_of_lt_of_le HRL3.out HK5.out.1), hid ⟨by have := HMM.out.1; omega, fun e => by have := HMM.out.1; omega⟩⟩
                exact (HK5.out.2 q (by have := HRL3.out; omega) (by omega) (by omega) (by omega) (by omega) (fun e => own_blk_ne HROWC.out HQ3.out (by decide) e.symm)).trans HQ3.out
              · rw [HRG5.out.left_eq, ← HRG3.out.left_eq]
                exact HLT3.out
            · go_wp2_with (first
                | (at_lookup; refine wpList_look_row rfl (.tmp 49) (.tmp 50) rfl HS3.out.2.2.1 c HKC.out rfl rfl ?_; rw [HLV.out])
                | fail)
              constructor
              · refine ⟨_, cnt3, many2, blk2, st2, td2, HRG3, hid (HR.skip HRr.out HCI.out HMEM.out.1 HMEM.out.2 hlt), HS3, hid (fun p hp hl => HL3.out p hp (by simp only [Bool.and_eq_true] at hl; exact hl.1)), HQ3, HF3, HOr, HB3, HRL3, HMM⟩
              · exact HLT3.out
end Go.Proofs.Ytmdkmobcglnmgaa
