/- Words of this family: blocks of numbers of the call's own, written in place. No conditions. -/
import Derived.Test.YtjcdcmeclnihbaaBaseM
import Derived.Deep.RegionHeld3
namespace Go.Proofs.Ytjcdcmeclnihbaa
open Go.RowKit

/-- Block g is just the numbers l. -/
def IntBlk (w : World) (g : Nat) (e : TypeId) (k : IntKind) (l : List Int) : Prop := w.heap[g]? = some (.cells ((l.map (Value.int k)).toArray) e (0, 0))
section
variable {w w' : World} {g e : Nat} {k : IntKind} {l : List Int}
theorem IntBlk.lt (h : IntBlk w g e k l) : g < w.heap.size := (Array.getElem?_eq_some_iff.1 h).1
theorem IntBlk.cell (h : IntBlk w g e k l) {j : Nat} (hj : j < l.length) : w.cell? ⟨g, j, none⟩ = some (.int k (nth l j)) := by
  rw [cell_of_row w g j _ e (0, 0) h]; simp [some_nth hj]
theorem IntBlk.frozen (h : IntBlk w g e k l) (j : Nat) : w.frozen? ⟨g, j, none⟩ = false := frozen_of_row _ _ _ _ _ h
theorem IntBlk.set (h : IntBlk w g e k l) (j : Nat) (z : Int) : IntBlk (w.setCell ⟨g, j, none⟩ (.int k z)) g e k (l.set j z) := by
  unfold IntBlk
  rw [heap_setCell_same w g j _ e _ h]
  simp
theorem IntBlk.keep (h : IntBlk w g e k l) (hk : w'.heap[g]? = w.heap[g]?) : IntBlk w' g e k l := hk.trans h
theorem IntBlk.below (h : IntBlk w g e k l) {B : Nat} (hb : Below B w w') (hg : g < B) : IntBlk w' g e k l := h.keep (hb.block g hg)
theorem IntBlk.nums (h : IntBlk w g e k l) (hl : l.length ≤ 9223372036854775807) : IsNums k w (fun b => b = g) (.slice (some ⟨g, 0, none⟩) l.length l.length) l :=
  ⟨_, _, rfl, Nat.le_refl _, by unfold maxLen; omega, fun _ => ⟨g, 0, rfl, rfl, fun j v hv => by
    rw [Nat.zero_add, cell_of_row w g j _ e (0, 0) h]; simpa using hv⟩⟩
theorem IntBlk.own (h : IntBlk w g e k l) {B : Nat} (hB : B ≤ g) (hl : l.length ≤ 9223372036854775807) : w.ownsRow B e 1 (.slice (some ⟨g, 0, none⟩) l.length l.length) l.length (l.map (.int k)) :=
  ⟨by simp, .inr ⟨g, l.length, _, rfl, hB, h, Nat.le_refl _, by unfold maxLen; omega, by simp, List.take_of_length_le (by simp)⟩⟩
end
theorem run_make_ints {P : Program} (t e : TypeId) (k kl kc : IntKind) (ht : P.underlying t = some (.slice e)) (hi : (P.info? e).map (fun i => (i.zero, i.size, i.bytes)) = some (some (.int k 0), 1, 8))
    (n : Nat) (hn : n ≤ 1000000) (w : World) : (Instr.makeSlice t (.int kl (n : Int)) (.int kc (n : Int))).run P w = .ok (.slice (some ⟨w.heap.size, 0, none⟩) n n) (w.alloc (.cells (((List.replicate n (0 : Int)).map (Value.int k)).toArray) e)) := by
  obtain ⟨i, hi0, hz, hs, hb⟩ := info_parts hi
  have hr := run_make (P := P) w t e i (.int k 0) ht hi0 hz kl kc n n (by omega) (by omega) (by rw [hb]; omega) (by omega)
  simp only [Int.toNat_natCast, hs, Nat.mul_one] at hr
  rw [hr]
  congr 2
  have h2 : (madeCells (Value.int k 0).cells n) = (((List.replicate n (0 : Int)).map (Value.int k)).toArray) := by
    apply Array.ext'
    show (madeCells #[Value.int k 0] n).toList = _
    rw [toList_madeCells_one]; simp
  rw [h2]
theorem nth_set {l : List Int} {i j : Nat} {z : Int} (h : i < l.length) : nth (l.set i z) j = if i = j then z else nth l j := by
  simp only [nth, List.getElem?_set]
  by_cases e : i = j
  · subst e; simp [h]
  · simp [e]

/-- append, the new value written out. -/
theorem wpList_app_s {P : Program} (w : World) {ops : Array Oper} {rest : List Oper} {o : Oper} {a : Act} {Q : Exit → Act → World → Prop} (hgd : o.guard = none) (s x : Operand) (t : TypeId)
    (ho : o.op = .call { callee := .builtin .append, args := #[s, x], argTypes := #[t, t] })
    (base : Nat) (e : TypeId) (i : TypeInfo) (z : Value) (size bytes : Nat) (ht : P.underlying t = some (.slice e)) (hi : P.info? e = some i) (hz : i.zero = some z)
    (hsize : i.size = size) (hby : i.bytes = bytes) (hzs : z.cells.size = size) (hsz : 0 < size)
    (v : Value) (n : Nat) (xs : List Value) (hs : a.eval s = v) (hown : w.ownsRow base e size v n xs)
    (A : Option Addr) (m c : Nat) (news : List Value) (hx : a.eval x = .slice A m c) (hr : Src w size A m news) (h1 : ∀ u ∈ news, u.oneCell' = true)
    (h63 : n + m ≤ maxLen) (hbytes : (n + m) * bytes ≤ 140737488355328) (hbase : base ≤ w.heap.size)
    (h : ∀ A' c' w', w'.ownsRow base e size (.slice A' (n + m) c') (n + m) (xs ++ news) → w.grownBy w' v.ownBlock → ((Value.slice A' (n + m) c').ownBlock = v.ownBlock ∨ (Value.slice A' (n + m) c').ownBlock = some w.heap.size) → wpList P ops Q rest (a.put o.dst (.slice A' (n + m) c')) w') : wpList P ops Q (o :: rest) a w :=
  wpList_app w hgd s x t ho base e i z size bytes ht hi hz hsize hby hzs hsz v n xs hs hown A m c news hx hr h1 h63 hbytes hbase fun v' w' h2 h3 h4 => by
    obtain ⟨A', c', rfl, _⟩ := own_arr h2
    exact h A' c' w' h2 h3 h4

/-- Blocks of different element types differ. -/
theorem own_blk_ne {w : World} {base e size n g t : Nat} {v : Value} {xs : List Value} {cs : Array Value} (h : w.ownsRow base e size v n xs) (hg : w.heap[g]? = some (.cells cs t (0, 0))) (hne : e ≠ t) : v.ownBlock ≠ some g := by
  rcases h.2 with ⟨rfl, _⟩ | ⟨g', cap, cur, rfl, _, hh, _⟩
  · simp [Value.ownBlock]
  · intro he
    have : g' = g := by simpa [Value.ownBlock] using he
    subst this
    rw [hh] at hg
    injection hg with hg
    injection hg with _ ht
    exact hne ht

theorem own_own {w : World} {b b' e e' size size' n n' : Nat} {v v' : Value} {xs ys : List Value} (h : w.ownsRow b e size v n xs) (h' : w.ownsRow b' e' size' v' n' ys) (hne : e ≠ e') : v.ownBlock = none ∨ v.ownBlock ≠ v'.ownBlock := by
  rcases h'.2 with ⟨rfl, _⟩ | ⟨g, cap, cur, rfl, _, hh, _⟩
  · exact Classical.em _
  · exact .inr (own_blk_ne h hh hne)

/-- Rows of numbers, each a block of the call's own. -/
def OwnRows (w : World) (B : Nat) (us : List Value) (rs : List (List Int)) : Prop :=
  us.length = rs.length ∧ ∀ (j : Nat) (r : List Int), rs[j]? = some r → ∃ b, us[j]? = some (.slice (some ⟨b, 0, none⟩) r.length r.length) ∧ IntBlk w b 3 .i64 r ∧ B ≤ b ∧ r.length ≤ 1000000
theorem OwnRows.nil (w : World) (B : Nat) : OwnRows w B [] [] := ⟨rfl, fun j r h => by simp at h⟩
theorem OwnRows.keep {w w' : World} {B : Nat} {us : List Value} {rs : List (List Int)} (h : OwnRows w B us rs) (hk : ∀ b l, IntBlk w b 3 .i64 l → w'.heap[b]? = w.heap[b]?) : OwnRows w' B us rs :=
  ⟨h.1, fun j r hr => by
    obtain ⟨b, h1, h2, h3⟩ := h.2 j r hr
    exact ⟨b, h1, h2.keep (hk b r h2), h3⟩⟩
theorem OwnRows.below {w w' : World} {B : Nat} {us : List Value} {rs : List (List Int)} (h : OwnRows w B us rs) (hb : Below w.heap.size w w') : OwnRows w' B us rs := h.keep fun b _ hi => hb.block b hi.lt
/-- .. while a row of another type is written. -/
theorem OwnRows.grown {w w' : World} {B : Nat} {us : List Value} {rs : List (List Int)} (h : OwnRows w B us rs) {g t : Nat} {cs : Array Value} (hg : w.grownBy w' (some g)) (hb : w.heap[g]? = some (.cells cs t (0, 0))) (hne : t ≠ 3) : OwnRows w' B us rs :=
  h.keep fun b _ hi => hg.block b hi.lt (fun e => by
    injection e with e
    subst e
    unfold IntBlk at hi
    rw [hi] at hb
    injection hb with hb
    injection hb with _ ht
    exact hne ht.symm)
theorem OwnRows.grownOwn {w w' : World} {B base e size n : Nat} {v : Value} {us xs : List Value} {rs : List (List Int)} (h : OwnRows w B us rs) (hg : w.grownBy w' v.ownBlock) (ho : w.ownsRow base e size v n xs) (hne : e ≠ 3) : OwnRows w' B us rs :=
  h.keep fun b _ hi => hg.block b hi.lt (Ne.symm (own_blk_ne ho hi hne))
theorem OwnRows.snoc {w : World} {B b : Nat} {us : List Value} {rs : List (List Int)} {r : List Int} (h : OwnRows w B us rs) (hb : IntBlk w b 3 .i64 r) (hB : B ≤ b) (hl : r.length ≤ 1000000) : OwnRows w B (us ++ [.slice (some ⟨b, 0, none⟩) r.length r.length]) (rs ++ [r]) := by
  obtain ⟨h1, h2⟩ := h
  refine ⟨by simp [h1], fun j r' hj => ?_⟩
  by_cases hjl : j < rs.length
  · rw [List.getElem?_append_left hjl] at hj
    obtain ⟨b', k1, k2, k3, k4⟩ := h2 j r' hj
    exact ⟨b', by rw [List.getElem?_append_left (by omega)]; exact k1, k2, k3, k4⟩
  · rw [List.getElem?_append_right (by omega)] at hj
    have : j = rs.length := by
      have := (List.getElem?_eq_some_iff.1 hj).1
      simp at this; omega
    subst this
    simp at hj
    subst hj
    exact ⟨b, by rw [List.getElem?_append_right (by omega), h1]; simp, hb, hB, hl⟩
theorem OwnRows.isRows {w : World} {B e : Nat} {v : Value} {us : List Value} {rs : List (List Int)} (h : OwnRows w B us rs) (ho : w.ownsRow B e 1 v rs.length us) : IsRows w (fun b => B ≤ b) v rs := by
  obtain ⟨A, c, rfl, h1, h2, hA⟩ := own_arr ho
  refine ⟨A, c, us, rfl, h1, h2, hA.mono (fun b hb _ => hb.1), h.1, fun j r hr => ?_⟩
  obtain ⟨b, k1, k2, k3, k4⟩ := h.2 j r hr
  exact ⟨_, k1, (k2.nums (by omega)).mono (fun b' hb' _ => by subst hb'; exact k3)⟩

end Go.Proofs.Ytjcdcmeclnihbaa
