/- The narrow table: what the program's Make returns. Conditions: a grouping and a table that are not too long. -/
import Derived.Test.YtmdkmobcglnmgaaNar
import Derived.Deep.RegionWith
import Derived.Deep.Cut
namespace Go.Proofs.Ytmdkmobcglnmgaa
open Go.RowKit

theorem nums_src {k : IntKind} {w : World} {S : Nat → Prop} {v : Value} {zs : List Int} (h : IsNums k w S v zs) : ∃ A c, v = .slice A zs.length c ∧ Src w 1 A zs.length (zs.map (Value.int k)) := by
  obtain ⟨A, c, e, _, _, hA⟩ := h
  exact ⟨A, c, e, hA.src (by simp) (by omega)⟩
theorem manyAux_le (gs : List Int) : ∀ n, manyAux gs = some n → 0 ≤ n ∧ n ≤ gs.length ∧ ∀ g ∈ gs, 0 ≤ g ∧ g < n := by
  have key : ∀ (gs : List Int) (m n : Int), gs.foldl manyStep (some m) = some n → m ≤ n ∧ n ≤ m + gs.length ∧ ∀ g ∈ gs, 0 ≤ g ∧ g < n := by
    intro gs
    induction gs with
    | nil => intro m n h; cases h; exact ⟨Int.le_refl _, by simp, (fun g h => by cases h)⟩
    | cons x l ih =>
      intro m n h
      simp only [List.foldl_cons] at h
      by_cases hx : x < 0 ∨ m < x
      · rw [show manyStep (some m) x = none by simp [manyStep, hx], manyStep_none] at h; cases h
      · rw [show manyStep (some m) x = some (if m < x + 1 then x + 1 else m) by simp [manyStep, hx]] at h
        obtain ⟨h1, h2, h3⟩ := ih _ n h
        have h4 : m ≤ (if m < x + 1 then x + 1 else m) ∧ (if m < x + 1 then x + 1 else m) ≤ m + 1 ∧ x + 1 ≤ (if m < x + 1 then x + 1 else m) := by split <;> omega
        refine ⟨by omega, by simp only [List.length_cons]; omega, fun g hg => ?_⟩
        rcases List.mem_cons.1 hg with rfl | hg
        · omega
        · exact h3 g hg
  intro n h
  obtain ⟨h1, h2, h3⟩ := key gs 0 n h
  exact ⟨h1, by omega, h3⟩
theorem manyL_le (gs : List Int) : 0 ≤ manyL gs ∧ manyL gs ≤ 37 ∧ (manyL gs ≠ 0 → gs.length = 37 ∧ ∀ m, m < 37 → 0 ≤ nth gs m ∧ nth gs m < manyL gs) := by
  unfold manyL
  split
  · rename_i h37
    cases h : manyAux gs with
    | none => exact ⟨by simp, by simp, fun hn => absurd rfl hn⟩
    | some n =>
      obtain ⟨h1, h2, h3⟩ := manyAux_le gs n h
      exact ⟨by simpa using h1, by simp; omega, fun _ => ⟨h37, fun m hm => h3 _ (nth_mem (by omega))⟩⟩
  · exact ⟨by simp, by simp, fun hn => absurd rfl hn⟩

theorem OwnRows.keepB {w w' : World} {B : Nat} {us : List Value} {rs : List (List Int)} (h : OwnRows w B us rs) (hk : ∀ b, B ≤ b → b < w.heap.size → w'.heap[b]? = w.heap[b]?) : OwnRows w' B us rs :=
  ⟨h.1, fun j r hr => by
    obtain ⟨b, h1, h2, h3, h4⟩ := h.2 j r hr
    exact ⟨b, h1, h2.keep (hk b h3 h2.lt), h3, h4⟩⟩
theorem OwnRows.base {w : World} {B B' : Nat} {us : List Value} {rs : List (List Int)} (h : OwnRows w B us rs) (hB : B' ≤ B) : OwnRows w B' us rs :=
  ⟨h.1, fun j r hr => by
    obtain ⟨b, h1, h2, h3, h4⟩ := h.2 j r hr
    exact ⟨b, h1, h2, Nat.le_trans hB h3, h4⟩⟩
/-- What Make answers. -/
def MakeAns (w : World) (gs : List Int) (d : D) (e : Ending) (w' : World) : Prop :=
  Below w.heap.size w w' ∧
  ((manyL gs = 0 ∨ rightB d = false) ∧ e = .returned (.tuple #[.agg #[.slice none 0 0, .slice none 0 0, .slice none 0 0], .int .i64 1]) ∨
   (manyL gs ≠ 0 ∧ rightB d = true ∧ (∃ r ∈ d.next, fitsB gs r (manyL gs).toNat = false)) ∧ e = .returned (.tuple #[.agg #[.slice none 0 0, .slice none 0 0, .slice none 0 0], .int .i64 4]) ∨
   (manyL gs ≠ 0 ∧ rightB d = true ∧ (∀ r ∈ d.next, fitsB gs r (manyL gs).toNat = true)) ∧ ∃ gv nv tv us, e = .returned (.tuple #[.agg #[gv, nv, tv], .int .i64 0]) ∧
     w'.ownsRow w.heap.size 3 1 gv 37 (gs.map (.int .i64)) ∧ w'.ownsRow w.heap.size 32 1 nv d.next.length us ∧ (∃ B, w.heap.size ≤ B ∧ (∀ q, gv.ownBlock = some q → q < B) ∧ OwnRows w' B us (d.next.map fun r => narrowL gs r (manyL gs).toNat)) ∧ w'.ownsRow w.heap.size 52 1 tv d.tells.length (d.tells.map (.int .u64)))

/-- A returned row of the call's own, the value written out. -/
def OwnedS (w : World) (e size n : Nat) (xs : List Value) (en : Ending) (w' : World) : Prop :=
  ∃ A c, en = .returned (.slice A n c) ∧ w'.ownsRow w.heap.size e size (.slice A n c) n xs ∧ Below w.heap.size w w'
theorem owned_s {w : World} {e size n : Nat} {xs : List Value} {en : Ending} {w' : World} (h : Owned w e size n xs en w') : OwnedS w e size n xs en w' := by
  obtain ⟨v, he, ho, hb⟩ := h
  obtain ⟨A, c, rfl, _⟩ := own_arr ho
  exact ⟨A, c, he, ho, hb⟩
theorem clone49_s (A : Option Addr) (n c : Nat) (xs : List Value) (w : World) (hs : Src w 1 A n xs) (h1 : ∀ u ∈ xs, u.oneCell' = true) (hb : n * 8 ≤ 140737488355328) :
    Calls Try.prog 49 #[.slice A n c] w (OwnedS w 3 1 n xs) := (clone49_any A n c xs w hs h1 hb).mono fun _ _ h => owned_s h
theorem clone50_s (A : Option Addr) (n c : Nat) (xs : List Value) (w : World) (hs : Src w 1 A n xs) (h1 : ∀ u ∈ xs, u.oneCell' = true) (hb : n * 8 ≤ 140737488355328) :
    Calls Try.prog 50 #[.slice A n c] w (OwnedS w 52 1 n xs) := (clone50_any A n c xs w hs h1 hb).mono fun _ _ h => owned_s h
theorem slot_kept {X Y : World} {cs : Array Value} {t : TypeId} (h : Below (X.alloc (.cells cs t)).heap.size (X.alloc (.cells cs t)) Y) : Y.heap[X.heap.size]? = some (.cells cs t (0, 0)) :=
  (h.block _ (by simp)).trans (heap_alloc_new X _)
theorem slot_kept_d {X Y : World} {cs : Array Value} {t : TypeId} (h : Below (X.alloc (.cells cs t)).drew.heap.size (X.alloc (.cells cs t)).drew Y) : Y.heap[X.heap.size]? = some (.cells cs t (0, 0)) :=
  (h.block _ (show X.heap.size < (X.alloc (.cells cs t)).heap.size by simp)).trans (heap_alloc_new X _)
theorem slot3 {Y : World} {p : Nat} {a b c : Value} {t : TypeId} (h : Y.heap[p]? = some (.cells #[a, b, c] t (0, 0))) :
    Y.cell? ⟨p, 0, none⟩ = some a ∧ Y.cell? ⟨p, 1, none⟩ = some b ∧ Y.cell? ⟨p, 2, none⟩ = some c ∧ Y.frozen? ⟨p, 0, none⟩ = false ∧ Y.frozen? ⟨p, 1, none⟩ = false ∧ Y.frozen? ⟨p, 2, none⟩ = false :=
  ⟨by rw [cell_of_row _ _ _ _ _ _ h]; rfl, by rw [cell_of_row _ _ _ _ _ _ h]; rfl, by rw [cell_of_row _ _ _ _ _ _ h]; rfl, frozen_of_row _ _ _ _ _ h, frozen_of_row _ _ _ _ _ h, frozen_of_row _ _ _ _ _ h⟩
theorem own_base {w : World} {B B' e size n : Nat} {v : Value} {xs : List Value} (h : w.ownsRow B e size v n xs) (hB : B' ≤ B) : w.ownsRow B' e size v n xs := by
  obtain ⟨hl, hc⟩ := h
  refine ⟨hl, hc.imp id ?_⟩
  rintro ⟨g, cap, cur, e, hb, rest⟩
  exact ⟨g, cap, cur, e, Nat.le_trans hB hb, rest⟩
theorem own_ne_ge {w : World} {B e size n p : Nat} {v : Value} {xs : List Value} (h : w.ownsRow B e size v n xs) (hp : w.heap.size ≤ p) : v.ownBlock ≠ some p := fun e => by have := (h.lt p e).2; omega
theorem own_ne_lt {w : World} {B e size n p : Nat} {v : Value} {xs : List Value} (h : w.ownsRow B e size v n xs) (hp : p < B) : v.ownBlock ≠ some p := fun e => by have := (h.lt p e).1; omega
theorem set3 {Y W : World} {B p e e' n n' t : Nat} {a b c a0 b0 c0 v3 v4 : Value} {xs ys : List Value} (hy : Y.heap[p]? = some (.cells #[a0, b0, c0] t (0, 0))) (h3 : Y.ownsRow B e 1 v3 n xs) (h4 : Y.ownsRow B e' 1 v4 n' ys)
    (n3 : v3.ownBlock ≠ some p) (n4 : v4.ownBlock ≠ some p) (hb : Below B W Y) (hp : B ≤ p) :
    (((Y.setCell ⟨p, 0, none⟩ a).setCell ⟨p, 1, none⟩ b).setCell ⟨p, 2, none⟩ c).heap[p]? = some (.cells #[a, b, c] t (0, 0)) ∧
    (((Y.setCell ⟨p, 0, none⟩ a).setCell ⟨p, 1, none⟩ b).setCell ⟨p, 2, none⟩ c).ownsRow B e 1 v3 n xs ∧ (((Y.setCell ⟨p, 0, none⟩ a).setCell ⟨p, 1, none⟩ b).setCell ⟨p, 2, none⟩ c).ownsRow B e' 1 v4 n' ys ∧
    Below B W (((Y.setCell ⟨p, 0, none⟩ a).setCell ⟨p, 1, none⟩ b).setCell ⟨p, 2, none⟩ c) := by
  have e1 := heap_setCell_same Y p 0 _ t a hy
  have e2 := heap_setCell_same _ p 1 _ t b e1
  have e3 := heap_setCell_same _ p 2 _ t c e2
  have hg : Y.grownBy (((Y.setCell ⟨p, 0, none⟩ a).setCell ⟨p, 1, none⟩ b).setCell ⟨p, 2, none⟩ c) (some p) := grown_setCell (grown_setCell (grown_setCell (World.grownBy.refl _ _) _ _) _ _) _ _
  exact ⟨e3, h3.kept hg (.inr n3), h4.kept hg (.inr n4), ((hb.setCell hp _).setCell hp _).setCell hp _⟩
theorem info32 : (Try.prog.info? 32).map (fun i => (i.zero, i.size, i.bytes)) = some (some (.slice none 0 0), 1, 24) := by kernel_rfl
theorem info25 : (Try.prog.info? 25).map (fun i => (i.zero, i.size, i.bytes)) = some (some (.slice none 0 0), 1, 24) := by kernel_rfl
theorem setB {Y W : World} {B p t : Nat} {a b c u : Value} (hy : Y.heap[p]? = some (.cells #[a, b, c] t (0, 0))) (hb : Below B W Y) (hp : B ≤ p) :
    (Y.setCell ⟨p, 1, none⟩ u).heap[p]? = some (.cells #[a, u, c] t (0, 0)) ∧ Below B W (Y.setCell ⟨p, 1, none⟩ u) ∧ Y.grownBy (Y.setCell ⟨p, 1, none⟩ u) (some p) :=
  ⟨heap_setCell_same Y p 1 _ t u hy, hb.setCell hp _, grown_setCell (World.grownBy.refl _ _) _ _⟩
theorem ieq0 {n : Int} (h : n ≠ 0) : (n == 0) = false := ieq_false h

set_option maxRecDepth 100000 in
set_option maxHeartbeats 4000000 in
theorem make_any (S S' : Nat → Prop) (vg vd : Value) (gs : List Int) (d : D) (w : World) (hg : IsNums .i64 w S vg gs) (hd : IsD w S' vd d) :
    Calls Try.prog 21 #[vg, vd] w (MakeAns w gs d) := by
  obtain ⟨GA, gc, hvg, hgsrc⟩ := nums_src hg
  obtain ⟨nv, tv, rfl, hn, ht⟩ := hd
  obtain ⟨NA, nc, rfl⟩ := hn.form
  obtain ⟨TA, tc, e, htsrc⟩ := nums_src ht
  subst e
  subst hvg
  have HG := hid hg
  have HGS := hid hgsrc
  have HTS := hid htsrc
  have HN := hid hn
  have HD := hid (show IsD w S' (.agg #[.slice NA d.next.length nc, .slice TA d.tells.length tc]) d from ⟨_, _, rfl, hn, ht⟩)
  obtain ⟨W, hW0⟩ : ∃ W, W = (w.alloc (Obj.cells #[Value.slice NA d.next.length nc, Value.slice TA d.tells.length tc] 30)).alloc (Obj.cells #[.slice none 0 0, .slice none 0 0, .slice none 0 0] 40) := ⟨_, rfl⟩
  have hWb : Below w.heap.size w W := by rw [hW0]; exact ((Below.refl _ _).alloc (Nat.le_refl _) _).alloc (by simp) _
  have q0 : W.cell? ⟨w.heap.size, 0, none⟩ = some (Value.slice NA d.next.length nc) := by rw [hW0]; simp [go_sem]
  have q1 : W.cell? ⟨w.heap.size, 1, none⟩ = some (Value.slice TA d.tells.length tc) := by rw [hW0]; simp [go_sem]
  have q2 : W.heap[w.heap.size + 1]? = some (.cells #[.slice none 0 0, .slice none 0 0, .slice none 0 0] 40 (0, 0)) := by rw [hW0]; exact heap_alloc2_new _ _ _
  have hWz : W.heap.size = w.heap.size + 2 := by rw [hW0]; simp
  have hfacts : ∀ w1, Below W.heap.size W w1 → w1.cell? ⟨w.heap.size, 0, none⟩ = some (Value.slice NA d.next.length nc) ∧ w1.cell? ⟨w.heap.size, 1, none⟩ = some (Value.slice TA d.tells.length tc) ∧
      w1.cell? ⟨w.heap.size + 1, 0, none⟩ = some (.slice none 0 0) ∧ w1.cell? ⟨w.heap.size + 1, 1, none⟩ = some (.slice none 0 0) ∧ w1.cell? ⟨w.heap.size + 1, 2, none⟩ = some (.slice none 0 0) ∧
      w1.frozen? ⟨w.heap.size + 1, 0, none⟩ = false ∧ w1.frozen? ⟨w.heap.size + 1, 1, none⟩ = false ∧ w1.frozen? ⟨w.heap.size + 1, 2, none⟩ = false ∧ w.heap.size + 1 < w1.heap.size := by
    intro w1 hb
    have h2 : w1.heap[w.heap.size + 1]? = some (.cells #[.slice none 0 0, .slice none 0 0, .slice none 0 0] 40 (0, 0)) := (hb.block _ (by omega)).trans q2
    refine ⟨(hb.cell (p := ⟨w.heap.size, 0, none⟩) (by simp; omega)).trans q0, (hb.cell (p := ⟨w.heap.size, 1, none⟩) (by simp; omega)).trans q1, ?_, ?_, ?_, frozen_of_row _ _ _ _ _ h2, frozen_of_row _ _ _ _ _ h2, frozen_of_row _ _ _ _ _ h2, by have := hb.size; omega⟩ <;>
    · rw [cell_of_row _ _ _ _ _ _ h2]; rfl
  have HW := hid hW0
  have HF := hid hfacts
  clear hg hgsrc hn ht htsrc hW0 hfacts
  obtain ⟨hm0, hm37, hmr⟩ := manyL_le gs
  have hend : ∀ (w1 : World) (c0 c1 c2 : Value), Below w.heap.size w w1 → Below w.heap.size w (((w1.setCell ⟨w.heap.size + 1, 0, none⟩ c0).setCell ⟨w.heap.size + 1, 1, none⟩ c1).setCell ⟨w.heap.size + 1, 2, none⟩ c2) := fun w1 c0 c1 c2 h => ((h.setCell (by simp) _).setCell (by simp) _).setCell (by simp) _
  have HE := hid hend
  clear hend q0 q1 q2
  by_cases hz : manyL gs = 0
  · have hzb := ieq_true hz
    have hres := hid (show manyL gs = 0 ∨ rightB d = false from .inl hz)
    clear hz hmr
    go_enter Try.func21, Try.ntmps21
    go_wp2_with fail
    rw [← HW.out]
    refine (many_any S _ _ _ (HG.out.below hWb)).mono ?_
    rintro e w1 ⟨rfl, hb1⟩
    obtain ⟨f1, f2, f3, f4, f5, f6, f7, f8, f9⟩ := HF.out w1 hb1
    go_wp2_with fail
    have hbel := hWb.trans (hb1.mono hWb.size)
    exact bodyPost_ret (v := .tuple #[.agg #[.slice none 0 0, .slice none 0 0, .slice none 0 0], .int .i64 1]) (by simp [results, Try.results21, go_sem, f3, f4, f5]) rfl ⟨HE.out _ _ _ _ hbel, .inl ⟨hres.out, rfl⟩⟩
  · have hzb := ieq0 hz
    cases hr : rightB d with
    | false =>
      have hres := hid (show manyL gs = 0 ∨ rightB d = false from .inr hr)
      have hrb : (!rightB d) = true := by rw [hr]; rfl
      clear hz hmr hr
      go_enter Try.func21, Try.ntmps21
      go_wp2_with fail
      rw [← HW.out]
      refine (many_any S _ _ _ (HG.out.below hWb)).mono ?_
      rintro e w1 ⟨rfl, hb1⟩
      obtain ⟨f1, f2, f3, f4, f5, f6, f7, f8, f9⟩ := HF.out w1 hb1
      go_wp2_with fail
      refine (right_any S' _ _ _ ((HD.out.below hWb).below hb1)).mono ?_
      rintro e w2 ⟨rfl, hb2⟩
      have hb12 := hb1.trans (hb2.mono hb1.size)
      obtain ⟨g1, g2, g3, g4, g5, g6, g7, g8, g9⟩ := HF.out w2 hb12
      clear f1 f2 f3 f4 f5 f6 f7 f8 f9
      go_wp2_with fail
      have hbel := hWb.trans (hb12.mono hWb.size)
      exact bodyPost_ret (v := .tuple #[.agg #[.slice none 0 0, .slice none 0 0, .slice none 0 0], .int .i64 1]) (by simp [results, Try.results21, go_sem, g3, g4, g5]) rfl ⟨HE.out _ _ _ _ hbel, .inl ⟨hres.out, rfl⟩⟩
    | true =>
      have hrb : (!rightB d) = false := by rw [hr]; rfl
      have hres := hid (show manyL gs ≠ 0 ∧ rightB d = true from ⟨hz, hr⟩)
      have hmr' := hid (hmr hz)
      clear hz hmr hr
      go_enter Try.func21, Try.ntmps21
      go_wp2_with fail
      rw [← HW.out]
      refine (many_any S _ _ _ (HG.out.below hWb)).mono ?_
      rintro e w1 ⟨rfl, hb1⟩
      obtain ⟨f1, f2, f3, f4, f5, f6, f7, f8, f9⟩ := HF.out w1 hb1
      go_wp2_with fail
      refine (right_any S' _ _ _ ((HD.out.below hWb).below hb1)).mono ?_
      rintro e w2 ⟨rfl, hb2⟩
      have hb12 := hb1.trans (hb2.mono hb1.size)
      obtain ⟨g1, g2, g3, g4, g5, g6, g7, g8, g9⟩ := HF.out w2 hb12
      clear f1 f2 f3 f4 f5 f6 f7 f8 f9
      go_wp2_with fail
      have hGS2 := (HGS.out.below hWb).below hb12
      have hTS2 := (HTS.out.below hWb).below hb12
      have o1 := one_nums .i64 gs
      have o2 := one_nums .u64 d.tells
      have b1 : gs.length * 8 ≤ 140737488355328 := by have := hmr'.out.1; omega
      have b2 : d.tells.length * 8 ≤ 140737488355328 := by have := right_rows hres.out.2; omega
      go_cut [7] from 12 (fun s7 wc => ∃ p gv tv, s7 = .pointer (some ⟨p, 0, none⟩) ∧ W.heap.size ≤ p ∧ wc.heap[p]? = some (.cells #[gv, .slice none 0 0, tv] 40 (0, 0)) ∧
        wc.ownsRow W.heap.size 3 1 gv gs.length (gs.map (.int .i64)) ∧ wc.ownsRow W.heap.size 52 1 tv d.tells.length (d.tells.map (.int .u64)) ∧ Below W.heap.size W wc)
      case first =>
        have hk2 : ∀ Y : World, Below w2.heap.size w2 Y → Y.cell? ⟨w.heap.size, 1, none⟩ = some (Value.slice TA d.tells.length tc) := fun Y h1 => (HF.out Y (hb12.trans (h1.mono hb12.size))).2.1
        have HK2 := hid hk2
        have HGS2 := hid hGS2
        have HTS2 := hid hTS2
        have O1 := hid o1
        have O2 := hid o2
        clear hk2 hGS2 hTS2 o1 o2
        go_region_held3 (fun w' => w'.cell? ⟨w.heap.size, 1, none⟩ = some (Value.slice TA d.tells.length tc))
          (first | go_keep | exact HK2.out _ hB3 | exact HK2.out _ hB4 | exact HK2.out _ (hB4.alloc hB4.size _) | exact HK2.out _ (((hB4.setCell (by first | exact Nat.le_refl _ | exact hB3.size) _).setCell (by first | exact Nat.le_refl _ | exact hB3.size) _).setCell (by first | exact Nat.le_refl _ | exact hB3.size) _))
          (first
          | (go_at_call 49; refine (clone49_s GA gs.length gc _ _ (by first | exact HGS2.out | exact HGS2.out.below (((Below.refl _ _).alloc (Nat.le_refl _) _).drew) | exact HGS2.out.below ((Below.refl _ _).alloc (Nat.le_refl _) _)) O1.out b1).mono ?_; rintro e w3 ⟨A3, c3, rfl, hown3, hb3⟩; have hB3 : Below w2.heap.size w2 w3 := (by first | exact ((Below.refl _ _).drew).trans hb3 | exact (((Below.refl _ _).alloc (Nat.le_refl _) _).drew).trans (hb3.mono (by simp))); have y3 := slot_kept_d (X := w2) hb3)
          | (go_at_call 49; refine (clone49_s GA gs.length gc _ _ (by first | exact HGS2.out | exact HGS2.out.below (((Below.refl _ _).alloc (Nat.le_refl _) _).drew) | exact HGS2.out.below ((Below.refl _ _).alloc (Nat.le_refl _) _)) O1.out b1).mono ?_; rintro e w3 ⟨A3, c3, rfl, hown3, hb3⟩; have hB3 : Below w2.heap.size w2 w3 := (by first | exact ((Below.refl _ _).drew).trans hb3 | exact (((Below.refl _ _).alloc (Nat.le_refl _) _).drew).trans (hb3.mono (by simp))))
          | (go_at_call 50; refine (clone50_s TA d.tells.length tc _ _ (by first | exact HTS2.out.below hB3 | exact (HTS2.out.below hB3).below ((Below.refl _ _).alloc (Nat.le_refl _) _)) O2.out b2).mono ?_; rintro e w4 ⟨A4, c4, rfl, hown4, hb4⟩; have hB4 : Below w2.heap.size w2 w4 := (by first | exact hB3.trans (hb4.mono hB3.size) | exact (hB3.alloc hB3.size _).trans (hb4.mono (by have := hB3.size; simp; omega))); have y4 := slot_kept (X := w3) hb4; obtain ⟨z1, z2, z3, z4, z5, z6⟩ := slot3 y4)
          | (go_at_call 50; refine (clone50_s TA d.tells.length tc _ _ (by first | exact HTS2.out.below hB3 | exact (HTS2.out.below hB3).below ((Below.refl _ _).alloc (Nat.le_refl _) _)) O2.out b2).mono ?_; rintro e w4 ⟨A4, c4, rfl, hown4, hb4⟩; have hB4 : Below w2.heap.size w2 w4 := (by first | exact hB3.trans (hb4.mono hB3.size) | exact (hB3.alloc hB3.size _).trans (hb4.mono (by have := hB3.size; simp; omega))); have y4 := (hb4.block w2.heap.size (by have := hb3.size; simp at this ⊢; omega)).trans y3; obtain ⟨z1, z2, z3, z4, z5, z6⟩ := slot3 y4)
          | (go_at_call 50; refine (clone50_s TA d.tells.length tc _ _ (by first | exact HTS2.out.below hB3 | exact (HTS2.out.below hB3).below ((Below.refl _ _).alloc (Nat.le_refl _) _)) O2.out b2).mono ?_; rintro e w4 ⟨A4, c4, rfl, hown4, hb4⟩; have hB4 : Below w2.heap.size w2 w4 := (by first | exact hB3.trans (hb4.mono hB3.size) | exact (hB3.alloc hB3.size _).trans (hb4.mono (by have := hB3.size; simp; omega)))))
        · have hz3 := hb3.size
          have hz4 := hb4.size
          have hz2 : W.heap.size ≤ w2.heap.size := hb12.size
          have k3 := own_base ((hown3.kept (grown_of_below hb4 none) (Classical.em _))) hz2
          have k4 := own_base hown4 (show W.heap.size ≤ w3.heap.size from Nat.le_trans hz2 hz3)
          have kb := hb12.trans (hB4.mono hz2)
          go_wp2_with fail
          go_meet
          exact ⟨_, _, _, rfl, Nat.le_trans hz2 hB4.size, heap_alloc_new _ _, k3.alloc _, k4.alloc _, kb.alloc kb.size _⟩
        · have hz3 := hb3.size
          have hz4 := hb4.size
          simp only [World.size_alloc] at hz4
          have hz2 : W.heap.size ≤ w2.heap.size := hb12.size
          have k3 := own_base (((hown3.alloc _).kept (grown_of_below hb4 none) (Classical.em _))) hz2
          have k4 := own_base hown4 (show W.heap.size ≤ _ from by simp; exact Nat.le_succ_of_le (Nat.le_trans hz2 hz3))
          have kb := hb12.trans (hB4.mono hz2)
          have kk := set3 (a := .slice A3 gs.length c3) (b := .slice none 0 0) (c := .slice A4 d.tells.length c4) y4 k3 k4 (own_ne_ge hown3 (Nat.le_refl _)) (own_ne_lt hown4 (by simp)) kb (Nat.le_trans hz2 hz3)
          go_wp2_with fail
          go_meet
          exact ⟨_, _, _, rfl, Nat.le_trans hz2 hz3, kk.1, kk.2.1, kk.2.2.1, kk.2.2.2⟩
        · have hz3 := hb3.size
          have hz4 := hb4.size
          have hz2 : W.heap.size ≤ w2.heap.size := hb12.size
          have k3 := own_base ((hown3.kept (grown_of_below hb4 none) (Classical.em _))) (by show W.heap.size ≤ (w2.alloc _).heap.size; simp; omega)
          have k4 := own_base hown4 (show W.heap.size ≤ w3.heap.size from by have := hB3.size; omega)
          have kb := hb12.trans (hB4.mono hz2)
          have kk := set3 (a := .slice A3 gs.length c3) (b := .slice none 0 0) (c := .slice A4 d.tells.length c4) y4 k3 k4 (own_ne_lt hown3 (by simp)) (own_ne_lt hown4 (by have := hb3.size; simp at this; omega)) kb hz2
          go_wp2_with fail
          go_meet
          exact ⟨_, _, _, rfl, hz2, kk.1, kk.2.1, kk.2.2.1, kk.2.2.2⟩
      case rest =>
        obtain ⟨p, gv, tv, rfl, hp, hblk, hown3, hown4, hbc⟩ := hcut
        have hbcw := hWb.trans (hbc.mono hWb.size)
        obtain ⟨f1, f2, f3, f4, f5, f6, f7, f8, f9⟩ := HF.out wc hbc
        obtain ⟨i0, hi0, hz0, hz1, hz2⟩ := info_parts info32
        obtain ⟨gA, gC, rfl, _⟩ := own_arr hown3
        obtain ⟨tA, tC, rfl, _⟩ := own_arr hown4
        obtain ⟨M, hM⟩ : ∃ M : Nat, manyL gs = (M : Int) := ⟨(manyL gs).toNat, by omega⟩
        rw [hM] at hm37 hmr'
        have hMN := hid hM
        obtain ⟨pz1, pz2, pz3, pz4, pz5, pz6⟩ := slot3 hblk
        have HO3 := hid hown3
        have HO4 := hid hown4
        have HBK := hid hblk
        have hrr := hid (right_rows hres.out.2)
        have hn1000 : d.next.length ≤ 1000 := hrr.out.1
        clear hown3 hown4 hblk g1 g2 g3 g4 g5 g6 g7 g8 g9 b1 b2 hGS2 hTS2 o1 o2 f2
        rw [hM]
        clear hM hzb
        go_wp2_with fail
        go_loopw [31] (fun s31 wr => ∃ (k : Nat) (nx : Value) (us : List Value), k ≤ d.next.length ∧ s31 = .int .i64 k ∧ Hid (wr.heap[p]? = some (.cells #[.slice gA gs.length gC, nx, .slice tA d.tells.length tC] 40 (0, 0)) ∧
          wr.ownsRow W.heap.size 32 1 nx k us ∧ (wc.heap.size ≤ wr.heap.size ∧ OwnRows wr wc.heap.size us ((d.next.take k).map fun r => narrowL gs r M)) ∧ (∀ r ∈ d.next.take k, fitsB gs r M = true) ∧
          wr.ownsRow W.heap.size 3 1 (.slice gA gs.length gC) gs.length (gs.map (.int .i64)) ∧ wr.ownsRow W.heap.size 52 1 (.slice tA d.tells.length tC) d.tells.length (d.tells.map (.int .u64))) ∧ Below W.heap.size W wr) (fun s31 _ => d.next.length - (intOf s31).toNat)
        case atStart => exact ⟨0, _, [], by omega, rfl, ⟨HBK.out, World.ownsRow_nil _ _ _ _, ⟨Nat.le_refl _, OwnRows.nil _ _⟩, (fun r hr => by simp at hr), HO3.out, HO4.out⟩, hbc⟩
        case round =>
          obtain ⟨k, nx, us', hk, rfl, HR, hbr⟩ := hrel
          obtain ⟨nA, nC, rfl, _⟩ := own_arr HR.out.2.1
          clear pz1 pz2 pz3 pz4 pz5 pz6 f1 f3 f4 f5 f6 f7 f8 f9
          obtain ⟨pz1, pz2, pz3, pz4, pz5, pz6⟩ := slot3 HR.out.1
          obtain ⟨f1, f2, f3, f4, f5, f6, f7, f8, f9⟩ := HF.out wr hbr
          have hpl : p < wr.heap.size := (Array.getElem?_eq_some_iff.1 HR.out.1).1
          have hbw := hWb.trans (hbr.mono hWb.size)
          have hwz := hbr.size
          by_cases hlt : k < d.next.length
          · obtain ⟨NA', nc', us, e0, hnl, hNA, hNR⟩ := (HN.out.below hbw).open
            obtain ⟨e1, e2⟩ : NA = NA' ∧ nc = nc' := by simpa using e0
            subst e1 e2
            obtain ⟨b1, o1, A1, c1, rfl, _, hb1, hc1, hl1, hl2, hl3, hN1⟩ := hNR.at hNA hlt
            have hrw := hid (show IsNums .i64 wr S' (.slice A1 (row d.next k).length c1) (row d.next k) from ⟨A1, c1, rfl, hl2, hl3, hN1⟩)
            have hgw := hid (HG.out.below hbw)
            have hr37 := hid (hrr.out.2.2.2 _ (row_mem hlt)).1
            have hst := hid (take_row hlt)
            clear e0 hNA hNR hN1
            have hf9 : ∀ w5, Below wr.heap.size wr w5 → w5.heap[p]? = some (.cells #[.slice gA gs.length gC, .slice nA k nC, .slice tA d.tells.length tC] 40 (0, 0)) := fun w5 h5 => (h5.block p hpl).trans HR.out.1
            have HF9 := hid hf9
            clear hf9
            cases hfit : fitsB gs (row d.next k) M with
            | true =>
              have HFit := hid hfit
              clear hfit
              have hf10 : ∀ (w5 w6 : World) (O : Obj), Below wr.heap.size wr w5 → (w5.alloc O).grownBy w6 (Value.slice nA k nC).ownBlock → w6.heap[p]? = some (.cells #[.slice gA gs.length gC, .slice nA k nC, .slice tA d.tells.length tC] 40 (0, 0)) := fun w5 w6 O h5 h6 => by
                have := h5.size
                exact (h6.block p (by simp; omega) (Ne.symm (own_blk_ne HR.out.2.1 HR.out.1 (by decide)))).trans ((heap_alloc_old _ _ (by omega)).trans (HF9.out w5 h5))
              have HF10 := hid hf10
              have hone1 : (Value.slice (some ⟨wr.heap.size, 0, none⟩) M M).oneCell' = true := rfl
              clear hf10 f1 f3 f4 f5 f6 f7 f8 f9
              go_wp2_with (first
                | (go_at_call 51; refine (narrow_yes S S' _ _ gs (row d.next k) M _ hgw.out hrw.out hmr'.out.1 hr37.out hmr'.out.2 (by omega) HFit.out).mono ?_; rintro e w5 ⟨rfl, hblk5, hb5⟩; obtain ⟨y1, y2, y3, y4, y5, y6⟩ := slot3 (HF9.out w5 hb5); have hbz5 := hblk5.lt; have HB5 := hid hblk5; clear hblk5)
                | (at_builtin; refine wpList_app_s _ rfl (.tmp 46) (.tmp 48) 25 rfl W.heap.size 32 i0 _ 1 24 Try.underlying25 hi0 hz0 hz1 hz2 rfl (by decide) (.slice nA k nC) k us' rfl ((HR.out.2.1.kept (grown_of_below hb5 none) (Classical.em _)).alloc _) (some ⟨w5.heap.size, 0, none⟩) 1 1 _ rfl (src_new w5 _ 32 1 rfl) (by simp [Value.oneCell']) (by simp only [maxLen]; omega) (by omega) (by have := hb5.size; simp; omega) ?_; intro xA xC w6 hown6 hgrow6 hat6; obtain ⟨x1, x2, x3, x4, x5, x6⟩ := slot3 (HF10.out w5 w6 _ hb5 hgrow6)))
              have hz5 := hb5.size
              have hp6 := HF10.out w5 w6 _ hb5 hgrow6
              obtain ⟨k1, k2, k3⟩ := setB (u := .slice xA (k + 1) xC) hp6 (below_own ((hbr.trans (hb5.mono hbr.size)).alloc (by omega) _) ((HR.out.2.1.kept (grown_of_below hb5 none) (Classical.em _)).alloc _) hgrow6 (by simp; omega)) hp
              go_roundw
              case rel =>
                refine ⟨k + 1, _, _, by omega, by go_num, ⟨k1, hown6.kept k3 (.inr (own_blk_ne hown6 hp6 (by decide))), ?_, ?_, ?_, ?_⟩, k2⟩
                · rw [hst.out, List.map_append]
                  have h1 : OwnRows w5 wc.heap.size us' _ := HR.out.2.2.1.2.below hb5
                  have h2 := h1.snoc HB5.out HR.out.2.2.1.1 (by rw [narrowL_len]; omega)
                  rw [narrowL_len] at h2
                  have h3 := (h2.below ((Below.refl _ w5).alloc (Nat.le_refl _) _)).grownOwn hgrow6 ((HR.out.2.1.kept (grown_of_below hb5 none) (Classical.em _)).alloc _) (by decide)
                  exact ⟨Nat.le_trans HR.out.2.2.1.1 (Nat.le_trans hb5.size (Nat.le_trans (by simp) (Nat.le_trans hgrow6.size k3.size))), h3.grown k3 hp6 (by decide)⟩
                · intro r hr
                  rw [hst.out, List.mem_append] at hr
                  rcases hr with hr | hr
                  · exact HR.out.2.2.2.1 r hr
                  · rw [List.mem_singleton.1 hr]; exact HFit.out
                · have h1 := (HR.out.2.2.2.2.1.kept (grown_of_below hb5 none) (Classical.em _)).alloc (Obj.cells #[Value.slice (some ⟨wr.heap.size, 0, none⟩) M M] 32)
                  have h2 := h1.kept hgrow6 (own_own HR.out.2.2.2.2.1 HR.out.2.1 (by decide))
                  exact h2.kept k3 (.inr (own_blk_ne h2 hp6 (by decide)))
                · have h1 := (HR.out.2.2.2.2.2.kept (grown_of_below hb5 none) (Classical.em _)).alloc (Obj.cells #[Value.slice (some ⟨wr.heap.size, 0, none⟩) M M] 32)
                  have h2 := h1.kept hgrow6 (own_own HR.out.2.2.2.2.2 HR.out.2.1 (by decide))
                  exact h2.kept k3 (.inr (own_blk_ne h2 hp6 (by decide)))
              case measure => simp [intOf]; omega
            | false =>
              have HFit := hid hfit
              clear hfit
              go_wp2_with (go_at_call 51; refine (narrow_no S S' _ _ gs (row d.next k) M _ hgw.out hrw.out hmr'.out.1 hr37.out hmr'.out.2 (by omega) HFit.out).mono ?_; rintro e w5 ⟨rfl, hb5⟩; obtain ⟨f1, f2, f3, f4, f5, f6, f7, f8, f9⟩ := HF.out w5 (hbr.trans (hb5.mono hbr.size)))
              have hbel := hWb.trans ((hbr.trans (hb5.mono hbr.size)).mono hWb.size)
              exact bodyPost_ret (v := .tuple #[.agg #[.slice none 0 0, .slice none 0 0, .slice none 0 0], .int .i64 4]) (by simp [results, Try.results21, go_sem, f3, f4, f5]) rfl
                ⟨HE.out _ _ _ _ hbel, .inr (.inl ⟨⟨hres.out.1, hres.out.2, _, row_mem hlt, by rw [hMN.out]; exact HFit.out⟩, rfl⟩)⟩
          · obtain rfl : k = d.next.length := by omega
            go_wp2_with fail
            have hbel := HE.out _ (.slice gA gs.length gC) (.slice nA d.next.length nC) (.slice tA d.tells.length tC) hbw
            have hgq : wr.grownBy (((wr.setCell ⟨w.heap.size + 1, 0, none⟩ (.slice gA gs.length gC)).setCell ⟨w.heap.size + 1, 1, none⟩ (.slice nA d.next.length nC)).setCell ⟨w.heap.size + 1, 2, none⟩ (.slice tA d.tells.length tC)) (some (w.heap.size + 1)) := grown_setCell (grown_setCell (grown_setCell (World.grownBy.refl _ _) _ _) _ _) _ _
            have hHR := HR.out
            rw [List.take_length] at hHR
            have r1 := own_base (hHR.2.2.2.2.1.kept hgq (.inr (own_ne_lt hHR.2.2.2.2.1 (by omega)))) (show w.heap.size ≤ W.heap.size by omega)
            have r2 := own_base (hHR.2.2.2.2.2.kept hgq (.inr (own_ne_lt hHR.2.2.2.2.2 (by omega)))) (show w.heap.size ≤ W.heap.size by omega)
            have r3 := own_base (hHR.2.1.kept hgq (.inr (own_ne_lt hHR.2.1 (by omega)))) (show w.heap.size ≤ W.heap.size by omega)
            have hcz := hbc.size
            have r4 := hHR.2.2.1.2.keepB (fun b hb hlt => hgq.block b hlt (fun e => by injection e with e; omega))
            have hq3 : (((wr.setCell ⟨w.heap.size + 1, 0, none⟩ (.slice gA gs.length gC)).setCell ⟨w.heap.size + 1, 1, none⟩ (.slice nA d.next.length nC)).setCell ⟨w.heap.size + 1, 2, none⟩ (.slice tA d.tells.length tC)).heap.size = wr.heap.size := by simp [World.setCell]
            have hg37 := hmr'.out.1
            rw [hg37] at r1
            refine bodyPost_ret (v := .tuple #[.agg #[.slice gA gs.length gC, .slice nA d.next.length nC, .slice tA d.tells.length tC], .int .i64 0]) (by simp [results, Try.results21, go_sem, f3, f4, f5]) rfl
              ⟨hbel, .inr (.inr ⟨⟨hres.out.1, hres.out.2, by rw [hMN.out]; exact hHR.2.2.2.1⟩, _, _, _, _, rfl, by rw [hg37]; exact r1, r3, ⟨wc.heap.size, by omega, fun q hq => (HO3.out.lt q hq).2, by rw [hMN.out]; exact r4⟩, r2⟩)⟩
end Go.Proofs.Ytmdkmobcglnmgaa
