/- Expressions as plain trees (a number bounds how deep they are), and how they lie in memory. Conditions: none. -/
import Derived.Test.YthdhbkngbmjjkaaProg
import Derived.Test.YthdhbkngbmjjkaaBaseA
namespace Go.Proofs.Ythdhbkngbmjjkaa
open Go.RowKit

/-- Trees that are less than d deep: a kind, a class, the parts. -/
def Tr : Nat → Type
  | 0 => Empty
  | d + 1 => Int × Int × List (Tr d)
def Tr.kind {d : Nat} (t : Tr (d + 1)) : Int := t.1
def Tr.cls {d : Nat} (t : Tr (d + 1)) : Int := t.2.1
def Tr.kids {d : Nat} (t : Tr (d + 1)) : List (Tr d) := t.2.2

/-- Structs of three cells, one after another, each of which reads as R says. -/
def Row3 {T : Type} (R : Value → T → Prop) (w : World) (S : Nat → Prop) (A : Option Addr) (l : List T) : Prop :=
  ∀ (k : Nat) (t : T), l[k]? = some t → ∃ b o v0 v1 v2, A = some ⟨b, o, none⟩ ∧ S b ∧ b < w.heap.size ∧ w.cell? ⟨b, o + k * 3, none⟩ = some v0 ∧ w.cell? ⟨b, o + k * 3 + 1, none⟩ = some v1 ∧ w.cell? ⟨b, o + k * 3 + 2, none⟩ = some v2 ∧ R (.agg #[v0, v1, v2]) t

/-- A tree in memory: a struct of its kind, its class and its parts. -/
def IsTr (w : World) (S : Nat → Prop) : (d : Nat) → Value → Tr d → Prop
  | 0, _, _ => False
  | d + 1, v, t => ∃ A c, v = .agg #[.int .i64 (Tr.kind t), .int .i64 (Tr.cls t), .slice A (Tr.kids t).length c] ∧ (Tr.kids t).length ≤ c ∧ c ≤ maxLen ∧ Row3 (IsTr w S d) w S A (Tr.kids t)

section
variable {w w' : World} {S S' : Nat → Prop}
theorem Row3.imp {T : Type} {R R' : Value → T → Prop} {A : Option Addr} {l : List T} (h : Row3 R w S A l) (hk : ∀ b, S b → b < w.heap.size → w'.heap[b]? = w.heap[b]?)
    (hS : ∀ b, S b → b < w.heap.size → S' b) (hR : ∀ v t, t ∈ l → R v t → R' v t) : Row3 R' w' S' A l := fun k t ht => by
  obtain ⟨b, o, v0, v1, v2, e, hs, hlt, c0, c1, c2, hr⟩ := h k t ht
  have hh := hk b hs hlt
  have hlt' : b < w'.heap.size := by
    have h1 : w'.heap[b]? = some w.heap[b] := hh.trans (Array.getElem?_eq_getElem hlt)
    exact (Array.getElem?_eq_some_iff.1 h1).1
  exact ⟨b, o, v0, v1, v2, e, hS b hs hlt, hlt', (World.cell?_of_block (a := ⟨b, _, none⟩) hh).trans c0, (World.cell?_of_block (a := ⟨b, _, none⟩) hh).trans c1,
    (World.cell?_of_block (a := ⟨b, _, none⟩) hh).trans c2, hR _ t (List.mem_of_getElem? ht) hr⟩
theorem IsTr.imp (hk : ∀ b, S b → b < w.heap.size → w'.heap[b]? = w.heap[b]?) (hS : ∀ b, S b → b < w.heap.size → S' b) : ∀ (d : Nat) (v : Value) (t : Tr d), IsTr w S d v t → IsTr w' S' d v t := by
  intro d
  induction d with
  | zero => intro v t h; exact h
  | succ d ih =>
    intro v t h
    obtain ⟨A, c, e, h1, h2, h3⟩ := h
    exact ⟨A, c, e, h1, h2, h3.imp hk hS fun v t _ hr => ih v t hr⟩
theorem IsTr.keep {d : Nat} {v : Value} {t : Tr d} (h : IsTr w S d v t) (hk : ∀ b, S b → b < w.heap.size → w'.heap[b]? = w.heap[b]?) : IsTr w' S d v t := IsTr.imp hk (fun _ h _ => h) d v t h
theorem IsTr.mono {d : Nat} {v : Value} {t : Tr d} (h : IsTr w S d v t) (hS : ∀ b, S b → b < w.heap.size → S' b) : IsTr w S' d v t := IsTr.imp (fun _ _ _ => rfl) hS d v t h
theorem IsTr.below {d : Nat} {v : Value} {t : Tr d} (h : IsTr w S d v t) (hb : Below w.heap.size w w') : IsTr w' S d v t := h.keep fun b _ hlt => hb.block b hlt
theorem Row3.keep {d : Nat} {A : Option Addr} {l : List (Tr d)} (h : Row3 (IsTr w S d) w S A l) (hk : ∀ b, S b → b < w.heap.size → w'.heap[b]? = w.heap[b]?) : Row3 (IsTr w' S d) w' S A l :=
  h.imp hk (fun _ h _ => h) fun _ _ _ hr => hr.keep hk
theorem Row3.below {d : Nat} {A : Option Addr} {l : List (Tr d)} (h : Row3 (IsTr w S d) w S A l) (hb : Below w.heap.size w w') : Row3 (IsTr w' S d) w' S A l := h.keep fun b _ hlt => hb.block b hlt
/-- A tree opened. -/
theorem IsTr.open {d : Nat} {v : Value} {t : Tr (d + 1)} (h : IsTr w S (d + 1) v t) : ∃ A c, v = .agg #[.int .i64 (Tr.kind t), .int .i64 (Tr.cls t), .slice A (Tr.kids t).length c] ∧ (Tr.kids t).length ≤ 9223372036854775807 ∧ Row3 (IsTr w S d) w S A (Tr.kids t) := by
  obtain ⟨A, c, e, h1, h2, h3⟩ := h
  exact ⟨A, c, e, by unfold maxLen at h2; omega, h3⟩
/-- What a tree's three cells are. -/
theorem IsTr.cells {d : Nat} {v0 v1 v2 : Value} {t : Tr d} (h : IsTr w S d (.agg #[v0, v1, v2]) t) : ∃ k c A n cp, v0 = .int .i64 k ∧ v1 = .int .i64 c ∧ v2 = .slice A n cp := by
  cases d with
  | zero => exact h.elim
  | succ d =>
    obtain ⟨A, c, e, _⟩ := h
    injection e with e
    simp only [Array.mk.injEq, List.cons.injEq, and_true] at e
    exact ⟨_, _, _, _, _, e.1, e.2.1, e.2.2⟩
/-- A part: its cells, and what they read as. -/
theorem Row3.at {d : Nat} {A : Option Addr} {l : List (Tr d)} (h : Row3 (IsTr w S d) w S A l) {k : Nat} {t : Tr d} (hk : l[k]? = some t) :
    ∃ b o v0 v1 v2, A = some ⟨b, o, none⟩ ∧ S b ∧ b < w.heap.size ∧ w.cell? ⟨b, o + k * 3, none⟩ = some v0 ∧ w.cell? ⟨b, o + k * 3 + 1, none⟩ = some v1 ∧ w.cell? ⟨b, o + k * 3 + 2, none⟩ = some v2 ∧ IsTr w S d (.agg #[v0, v1, v2]) t := h k t hk
end
end Go.Proofs.Ythdhbkngbmjjkaa
namespace Go.Proofs.Ythdhbkngbmjjkaa
open Go.RowKit

def sizeL {T : Type} (f : Int → T → Int) (most : Int) : Int → List T → Int
  | sum, [] => sum
  | sum, k :: r => if sum ≤ most then sizeL f most (sum + f (most - sum) k) r else sum
/-- How many nodes, up to some and one. -/
def sizeT : (d : Nat) → Int → Tr d → Int
  | 0, _, _ => 0
  | d + 1, most, t => sizeL (fun m k => sizeT d m k) most 1 (Tr.kids t)

theorem sizeL_bd {T : Type} {f : Int → T → Int} {most : Int} (hf : ∀ m k, 0 ≤ m → 1 ≤ f m k ∧ f m k ≤ m + 1) (l : List T) : ∀ sum : Int, 1 ≤ sum → sum ≤ most + 1 → 1 ≤ sizeL f most sum l ∧ sizeL f most sum l ≤ most + 1 := by
  induction l with
  | nil => intro sum h1 h2; exact ⟨h1, h2⟩
  | cons k r ih =>
    intro sum h1 h2
    simp only [sizeL]
    split
    · have := hf (most - sum) k (by omega)
      exact ih _ (by omega) (by omega)
    · exact ⟨h1, h2⟩
theorem sizeT_bd : ∀ (d : Nat) (most : Int) (t : Tr d), 0 ≤ most → 1 ≤ sizeT d most t ∧ sizeT d most t ≤ most + 1 := by
  intro d
  induction d with
  | zero => intro most t _; exact t.elim
  | succ d ih => intro most t h; exact sizeL_bd (fun m k hm => ih m k hm) _ 1 (by omega) (by omega)

set_option maxRecDepth 100000 in
set_option maxHeartbeats 1000000 in
theorem size_any (S : Nat → Prop) : ∀ (d : Nat) (v : Value) (t : Tr d) (most : Int) (w : World), IsTr w S d v t → 0 ≤ most → most ≤ 1000000 →
    Calls Try.prog 61 #[v, .int .i64 most] w fun e w' => e = .returned (.int .i64 (sizeT d most t)) ∧ Below w.heap.size w w' := by
  intro d
  induction d with
  | zero => intro v t; exact t.elim
  | succ d ih =>
    intro v t most w h hm0 hm1
    obtain ⟨A, c, rfl, hle, hkids⟩ := h.open
    obtain ⟨kd, hkd⟩ : ∃ kd, kd = Tr.kind t := ⟨_, rfl⟩
    obtain ⟨cl, hcl⟩ : ∃ cl, cl = Tr.cls t := ⟨_, rfl⟩
    rw [← hkd, ← hcl]
    clear hkd hcl h
    obtain ⟨l, hl⟩ : ∃ l, l = Tr.kids t := ⟨_, rfl⟩
    have hres := hid (show sizeT (d + 1) most t = sizeL (fun m k => sizeT d m k) most 1 l by rw [hl]; rfl)
    rw [← hl] at hle hkids ⊢
    clear hl
    obtain ⟨W, hW0⟩ : ∃ W, W = w.alloc (.cells #[.int .i64 kd, .int .i64 cl, .slice A l.length c] 48) := ⟨_, rfl⟩
    have hWb : Below w.heap.size w W := by rw [hW0]; exact (Below.refl _ _).alloc (Nat.le_refl _) _
    have q0 : W.heap[w.heap.size]? = some (.cells #[.int .i64 kd, .int .i64 cl, .slice A l.length c] 48 (0, 0)) := by rw [hW0]; exact heap_alloc_new _ _
    have HC := hid (show ∀ Y, Below W.heap.size W Y → Y.cell? ⟨w.heap.size, 2, none⟩ = some (.slice A l.length c) from fun Y hY => by
      have h2 := (hY.block _ (by rw [hW0]; simp)).trans q0
      rw [cell_of_row _ _ _ _ _ _ h2]; rfl)
    have HB := hid hWb
    have HK := hid (hkids.below hWb)
    have IH := hid ih
    clear q0 hWb hkids ih
    go_enter Try.func61, Try.ntmps61
    go_wp2_with fail
    rw [← hW0]
    clear hW0
    go_wp2_with fail
    go_loopw [5, 6] (fun s5 s6 wr => ∃ (k : Nat) (z : Int), k ≤ l.length ∧ s6 = .int .i64 k ∧ s5 = .int .i64 z ∧ 1 ≤ z ∧ z ≤ most + 1 ∧ Hid (sizeL (fun m k => sizeT d m k) most z (l.drop k) = sizeT (d + 1) most t) ∧ Hid (Below W.heap.size W wr)) (fun _ s6 _ => l.length - (intOf s6).toNat)
    case atStart => exact ⟨0, 1, by omega, rfl, rfl, by omega, by omega, hid hres.out.symm, hid (Below.refl _ _)⟩
    case round =>
      obtain ⟨k, z, hk, rfl, rfl, hz0, hz1, HT, HW⟩ := hrel
      have f2 := HC.out _ HW.out
      by_cases hlt : k < l.length
      · by_cases hzm : z ≤ most
        · obtain ⟨b, o, v0, v1, v2, rfl, _, hbs, c0, c1, c2, ht⟩ := (HK.out.below HW.out).at (List.getElem?_eq_getElem hlt)
          have HTr := hid ht
          clear ht
          go_wp2_with fail
          refine (IH.out _ _ _ _ HTr.out (by omega) (by omega)).mono ?_
          rintro e w1 ⟨rfl, hb1⟩
          have hbd := sizeT_bd d (most - z) l[k] (by omega)
          have HN := hid (show sizeL (fun m k => sizeT d m k) most (z + sizeT d (most - z) l[k]) (l.drop (k + 1)) = sizeT (d + 1) most t by
            rw [← HT.out, List.drop_eq_getElem_cons hlt]; simp only [sizeL]; rw [if_pos hzm])
          obtain ⟨q, hq⟩ : ∃ q, q = sizeT d (most - z) l[k] := ⟨_, rfl⟩
          rw [← hq] at hbd HN ⊢
          clear hq
          go_wp2_with fail
          go_roundw
          case rel => exact ⟨k + 1, z + q, by omega, by go_num, rfl, by omega, by omega, HN, hid (HW.out.trans (hb1.mono HW.out.size))⟩
          case measure => simp [intOf]; omega
        · have HE := hid (show sizeT (d + 1) most t = z by
            rw [← HT.out, List.drop_eq_getElem_cons hlt]; simp only [sizeL]; rw [if_neg hzm])
          go_wp2_with fail
          go_ret
          exact ⟨ret_int HE.out.symm, HB.out.trans (HW.out.mono HB.out.size)⟩
      · have HE := hid (show sizeT (d + 1) most t = z by
          rw [← HT.out, List.drop_eq_nil_of_le (by omega)]; rfl)
        go_wp2_with fail
        go_ret
        exact ⟨ret_int HE.out.symm, HB.out.trans (HW.out.mono HB.out.size)⟩
end Go.Proofs.Ythdhbkngbmjjkaa
namespace Go.Proofs.Ythdhbkngbmjjkaa
open Go.RowKit

set_option maxRecDepth 100000 in
set_option maxHeartbeats 1000000 in
theorem esize_any (S : Nat → Prop) : ∀ (d : Nat) (v : Value) (t : Tr d) (most : Int) (w : World), IsTr w S d v t → 0 ≤ most → most ≤ 1000000 →
    Calls Try.prog 72 #[v, .int .i64 most] w fun e w' => e = .returned (.int .i64 (sizeT d most t)) ∧ Below w.heap.size w w' := by
  intro d
  induction d with
  | zero => intro v t; exact t.elim
  | succ d ih =>
    intro v t most w h hm0 hm1
    obtain ⟨A, c, rfl, hle, hkids⟩ := h.open
    obtain ⟨kd, hkd⟩ : ∃ kd, kd = Tr.kind t := ⟨_, rfl⟩
    obtain ⟨cl, hcl⟩ : ∃ cl, cl = Tr.cls t := ⟨_, rfl⟩
    rw [← hkd, ← hcl]
    clear hkd hcl h
    obtain ⟨l, hl⟩ : ∃ l, l = Tr.kids t := ⟨_, rfl⟩
    have hres := hid (show sizeT (d + 1) most t = sizeL (fun m k => sizeT d m k) most 1 l by rw [hl]; rfl)
    rw [← hl] at hle hkids ⊢
    clear hl
    obtain ⟨W, hW0⟩ : ∃ W, W = w.alloc (.cells #[.int .i64 kd, .int .i64 cl, .slice A l.length c] 52) := ⟨_, rfl⟩
    have hWb : Below w.heap.size w W := by rw [hW0]; exact (Below.refl _ _).alloc (Nat.le_refl _) _
    have q0 : W.heap[w.heap.size]? = some (.cells #[.int .i64 kd, .int .i64 cl, .slice A l.length c] 52 (0, 0)) := by rw [hW0]; exact heap_alloc_new _ _
    have HC := hid (show ∀ Y, Below W.heap.size W Y → Y.cell? ⟨w.heap.size, 2, none⟩ = some (.slice A l.length c) from fun Y hY => by
      have h2 := (hY.block _ (by rw [hW0]; simp)).trans q0
      rw [cell_of_row _ _ _ _ _ _ h2]; rfl)
    have HB := hid hWb
    have HK := hid (hkids.below hWb)
    have IH := hid ih
    clear q0 hWb hkids ih
    go_enter Try.func72, Try.ntmps72
    go_wp2_with fail
    rw [← hW0]
    clear hW0
    go_wp2_with fail
    go_loopw [5, 11] (fun s5 s6 wr => ∃ (k : Nat) (z : Int), k ≤ l.length ∧ s6 = .int .i64 k ∧ s5 = .int .i64 z ∧ 1 ≤ z ∧ z ≤ most + 1 ∧ Hid (sizeL (fun m k => sizeT d m k) most z (l.drop k) = sizeT (d + 1) most t) ∧ Hid (Below W.heap.size W wr)) (fun _ s6 _ => l.length - (intOf s6).toNat)
    case atStart => exact ⟨0, 1, by omega, rfl, rfl, by omega, by omega, hid hres.out.symm, hid (Below.refl _ _)⟩
    case round =>
      obtain ⟨k, z, hk, rfl, rfl, hz0, hz1, HT, HW⟩ := hrel
      have f2 := HC.out _ HW.out
      by_cases hlt : k < l.length
      · obtain ⟨b, o, v0, v1, v2, rfl, -, hbs, c0, c1, c2, ht⟩ := (HK.out.below HW.out).at (List.getElem?_eq_getElem hlt)
        obtain ⟨k0, k1, A2, n2, cp2, rfl, rfl, rfl⟩ := ht.cells
        have HTr := hid ht
        clear ht
        by_cases hzm : z ≤ most
        · go_wp2_with fail
          obtain ⟨X, hX⟩ : ∃ X, X = wr.alloc (.cells #[.int .i64 k0, .int .i64 k1, .slice A2 n2 cp2] 52) := ⟨_, rfl⟩
          have HX := hid (show Below wr.heap.size wr X by rw [hX]; exact (Below.refl _ _).alloc (Nat.le_refl _) _)
          have HTX := hid (HTr.out.below HX.out)
          rw [← hX]
          clear hX
          refine (IH.out _ _ _ _ HTX.out (by omega) (by omega)).mono ?_
          rintro e w1 ⟨rfl, hb1⟩
          have hbd := sizeT_bd d (most - z) l[k] (by omega)
          have HN := hid (show sizeL (fun m k => sizeT d m k) most (z + sizeT d (most - z) l[k]) (l.drop (k + 1)) = sizeT (d + 1) most t by
            rw [← HT.out, List.drop_eq_getElem_cons hlt]; simp only [sizeL]; rw [if_pos hzm])
          obtain ⟨q, hq⟩ : ∃ q, q = sizeT d (most - z) l[k] := ⟨_, rfl⟩
          rw [← hq] at hbd HN ⊢
          clear hq
          go_wp2_with fail
          go_roundw
          case rel => exact ⟨k + 1, z + q, by omega, by go_num, rfl, by omega, by omega, HN, hid (HW.out.trans ((HX.out.trans (hb1.mono HX.out.size)).mono HW.out.size))⟩
          case measure => simp [intOf]; omega
        · have HE := hid (show sizeT (d + 1) most t = z by
            rw [← HT.out, List.drop_eq_getElem_cons hlt]; simp only [sizeL]; rw [if_neg hzm])
          go_wp2_with fail
          go_ret
          exact ⟨ret_int HE.out.symm, HB.out.trans ((HW.out.alloc HW.out.size _).mono HB.out.size)⟩
      · have HE := hid (show sizeT (d + 1) most t = z by
          rw [← HT.out, List.drop_eq_nil_of_le (by omega)]; rfl)
        go_wp2_with fail
        go_ret
        exact ⟨ret_int HE.out.symm, HB.out.trans (HW.out.mono HB.out.size)⟩
end Go.Proofs.Ythdhbkngbmjjkaa
namespace Go.Proofs.Ythdhbkngbmjjkaa
open Go.RowKit

/-- Where the first one stands, counted from k on; below 0: there is none. -/
def idx {T : Type} (p : T → Bool) : Nat → List T → Int
  | _, [] => -1
  | k, x :: r => if p x = true then (k : Int) else idx p (k + 1) r
theorem idx_pos {T : Type} (p : T → Bool) (l : List T) : ∀ k : Nat, (0 : Int) ≤ idx p k l ↔ l.any p = true := by
  induction l with
  | nil => intro k; simp [idx]
  | cons x r ih =>
    intro k
    by_cases h : p x = true
    · simp [idx, h]
    · simp [idx, h, ih (k + 1)]
theorem idx_any {T : Type} (p : T → Bool) (l : List T) (k : Nat) : decide ((0 : Int) ≤ idx p k l) = l.any p := by
  have h := idx_pos p l k
  cases e : l.any p with
  | true => simpa using h.2 e
  | false => rw [e] at h; simpa using h

def least (k : Int) : Int := if k = 4 ∨ k = 5 then 2 else if k = 6 ∨ k = 7 ∨ k = 8 then 1 else 0
def most (k : Int) : Int := if k = 4 ∨ k = 5 then 2000 else if k = 6 ∨ k = 7 ∨ k = 8 then 1 else 0
/-- Whether a node may be, by itself or within another one. -/
def fitB (within : Bool) (k c n : Int) : Bool := decide (0 ≤ k ∧ k ≤ 9) && !(decide (k = 9) && within) && decide (least k ≤ n ∧ n ≤ most k) && (if k = 0 ∨ k = 2 then decide (0 ≤ c ∧ c < 36) else decide (c = 0))
def fitsT : (d : Nat) → Bool → Tr d → Bool
  | 0, _, _ => false
  | d + 1, within, t => fitB within (Tr.kind t) (Tr.cls t) (Tr.kids t).length && (Tr.kids t).all (fun x => fitsT d true x)

set_option maxRecDepth 100000 in
theorem many_any (k : Int) (w : World) : Calls Try.prog 80 #[.int .i64 k] w fun e w' => e = .returned (.tuple #[.int .i64 (least k), .int .i64 (most k)]) ∧ w' = w := by
  by_cases h4 : k = 4
  · subst h4
    go_enter Try.func80, Try.ntmps80
    go_wp2
    go_ret2
    exact ⟨rfl, rfl⟩
  by_cases h5 : k = 5
  · subst h5
    go_enter Try.func80, Try.ntmps80
    go_wp2
    go_ret2
    exact ⟨rfl, rfl⟩
  by_cases h6 : k = 6
  · subst h6
    go_enter Try.func80, Try.ntmps80
    go_wp2
    go_ret2
    exact ⟨rfl, rfl⟩
  by_cases h7 : k = 7
  · subst h7
    go_enter Try.func80, Try.ntmps80
    go_wp2
    go_ret2
    exact ⟨rfl, rfl⟩
  by_cases h8 : k = 8
  · subst h8
    go_enter Try.func80, Try.ntmps80
    go_wp2
    go_ret2
    exact ⟨rfl, rfl⟩
  have e1 : least k = 0 := by unfold least; rw [if_neg (by omega), if_neg (by omega)]
  have e2 : most k = 0 := by unfold most; rw [if_neg (by omega), if_neg (by omega)]
  rw [e1, e2]
  have b4 := ieq_false h4
  have b5 := ieq_false h5
  have b6 := ieq_false h6
  have b7 := ieq_false h7
  have b8 := ieq_false h8
  clear h4 h5 h6 h7 h8 e1 e2
  go_enter Try.func80, Try.ntmps80
  go_wp2
  go_ret2
  exact ⟨rfl, rfl⟩

/-- What fits answers of trees less than d deep. -/
def FitsIH (S : Nat → Prop) (d : Nat) : Prop := ∀ (v : Value) (t : Tr d) (on : Bool) (w : World), IsTr w S d v t → Calls Try.prog 73 #[v, .bool on] w fun e w' => e = .returned (.bool (fitsT d on t)) ∧ Below w.heap.size w w'
set_option maxRecDepth 100000 in
theorem fits1_any (S : Nat → Prop) (d : Nat) (IH : Hid (FitsIH S d)) (v : Value) (t : Tr d) (w : World) (h : IsTr w S d v t) : Calls Try.prog 81 #[v] w fun e w' => e = .returned (.bool (!fitsT d true t)) ∧ Below w.heap.size w w' := by
  cases d with
  | zero => exact t.elim
  | succ d =>
    obtain ⟨A, c, rfl, hle, -⟩ := h.open
    obtain ⟨W, hW0⟩ : ∃ W, W = w.alloc (.cells #[.int .i64 (Tr.kind t), .int .i64 (Tr.cls t), .slice A (Tr.kids t).length c] 52) := ⟨_, rfl⟩
    have HB := hid (show Below w.heap.size w W by rw [hW0]; exact (Below.refl _ _).alloc (Nat.le_refl _) _)
    have HT := hid (h.below HB.out)
    clear h
    go_enter Try.func81, Try.ntmps81
    go_wp2_with fail
    rw [← hW0]
    refine (IH.out _ _ _ _ HT.out).mono ?_
    rintro e w1 ⟨rfl, hb1⟩
    go_wp2_with fail
    go_ret
    exact ⟨rfl, HB.out.trans (hb1.mono HB.out.size)⟩
end Go.Proofs.Ythdhbkngbmjjkaa
namespace Go.Proofs.Ythdhbkngbmjjkaa
open Go.RowKit

set_option maxRecDepth 100000 in
set_option maxHeartbeats 1000000 in
theorem indexFits_any (S : Nat → Prop) (d : Nat) (IH : Hid (FitsIH S d)) (A : Option Addr) (c : Nat) (l : List (Tr d)) (w : World) (h : Row3 (IsTr w S d) w S A l) (hle : l.length ≤ 9223372036854775807) :
    Calls Try.prog 71 #[.slice A l.length c, .func (.func 81) #[] #[]] w fun e w' => e = .returned (.int .i64 (idx (fun t => !fitsT d true t) 0 l)) ∧ Below w.heap.size w w' := by
  have HK := hid h
  clear h
  go_enter Try.func71, Try.ntmps71
  go_wp2_with fail
  go_loopw [8] (fun s8 wr => ∃ k : Nat, k ≤ l.length ∧ s8 = .int .i64 k ∧ Hid (idx (fun t => !fitsT d true t) k (l.drop k) = idx (fun t => !fitsT d true t) 0 l) ∧ Hid (Below w.heap.size w wr)) (fun s8 _ => l.length - (intOf s8).toNat)
  case atStart => exact ⟨0, by omega, rfl, rfl, hid (Below.refl _ _)⟩
  case round =>
    obtain ⟨k, hk, rfl, HT, HW⟩ := hrel
    by_cases hlt : k < l.length
    · obtain ⟨b, o, v0, v1, v2, rfl, -, hbs, c0, c1, c2, ht⟩ := (HK.out.below HW.out).at (List.getElem?_eq_getElem hlt)
      have HTr := hid ht
      clear ht
      cases hf : fitsT d true l[k] with
      | true =>
        have HN := hid (show idx (fun t => !fitsT d true t) (k + 1) (l.drop (k + 1)) = idx (fun t => !fitsT d true t) 0 l by
          rw [← HT.out, List.drop_eq_getElem_cons hlt]; simp only [idx]; rw [if_neg (by simp [hf])])
        have HF := hid hf
        clear hf
        go_wp2_with (go_at_call 81; refine (fits1_any S d IH _ _ _ HTr.out).mono ?_; rintro e w1 ⟨rfl, hb1⟩; rw [HF.out])
        go_roundw
        case rel => exact ⟨k + 1, by omega, by go_num, HN, hid (HW.out.trans (hb1.mono HW.out.size))⟩
        case measure => simp [intOf]; omega
      | false =>
        have HN := hid (show (k : Int) = idx (fun t => !fitsT d true t) 0 l by
          rw [← HT.out, List.drop_eq_getElem_cons hlt]; simp only [idx]; rw [if_pos (by simp [hf])])
        have HF := hid hf
        clear hf
        go_wp2_with (go_at_call 81; refine (fits1_any S d IH _ _ _ HTr.out).mono ?_; rintro e w1 ⟨rfl, hb1⟩; rw [HF.out])
        go_ret
        exact ⟨ret_int HN.out, HW.out.trans (hb1.mono HW.out.size)⟩
    · have HN := hid (show (-1 : Int) = idx (fun t => !fitsT d true t) 0 l by
        rw [← HT.out, List.drop_eq_nil_of_le (by omega)]; rfl)
      go_wp2_with fail
      go_ret
      exact ⟨ret_int HN.out, HW.out⟩

set_option maxRecDepth 100000 in
theorem containsFits_any (S : Nat → Prop) (d : Nat) (IH : Hid (FitsIH S d)) (A : Option Addr) (c : Nat) (l : List (Tr d)) (w : World) (h : Row3 (IsTr w S d) w S A l) (hle : l.length ≤ 9223372036854775807) :
    Calls Try.prog 41 #[.slice A l.length c, .func (.func 81) #[] #[]] w fun e w' => e = .returned (.bool (l.any fun t => !fitsT d true t)) ∧ Below w.heap.size w w' := by
  go_enter Try.func41, Try.ntmps41
  go_wp2_with fail
  refine (indexFits_any S d IH A c l _ h hle).mono ?_
  rintro e w1 ⟨rfl, hb1⟩
  go_wp2_with fail
  go_ret
  exact ⟨ret_bool (idx_any _ _ _), hb1⟩
end Go.Proofs.Ythdhbkngbmjjkaa
namespace Go.Proofs.Ythdhbkngbmjjkaa
open Go.RowKit

theorem ilt_true {a b : Int} (h : a < b) : decide (a < b) = true := by simpa using h
theorem ilt_false {a b : Int} (h : ¬ a < b) : decide (a < b) = false := by simpa using h
theorem ile_true {a b : Int} (h : a ≤ b) : decide (a ≤ b) = true := by simpa using h
theorem ile_false {a b : Int} (h : ¬ a ≤ b) : decide (a ≤ b) = false := by simpa using h
theorem fitB_lo {on : Bool} {k c n : Int} (h : k < 0) : fitB on k c n = false := by unfold fitB; rw [decide_eq_false (p := 0 ≤ k ∧ k ≤ 9) (by omega)]; rfl
theorem fitB_hi {on : Bool} {k c n : Int} (h : 9 < k) : fitB on k c n = false := by unfold fitB; rw [decide_eq_false (p := 0 ≤ k ∧ k ≤ 9) (by omega)]; rfl
theorem fitB_in {c n : Int} : fitB true 9 c n = false := by unfold fitB; simp
theorem fitB_few {on : Bool} {k c n : Int} (h : n < least k ∨ most k < n) : fitB on k c n = false := by unfold fitB; rw [decide_eq_false (p := least k ≤ n ∧ n ≤ most k) (by omega)]; simp
theorem fitB_named {on : Bool} {k c n : Int} (h : k = 0 ∨ k = 2) (hc : c < 0 ∨ 36 ≤ c) : fitB on k c n = false := by unfold fitB; rw [if_pos h, decide_eq_false (p := 0 ≤ c ∧ c < 36) (by omega)]; simp
theorem fitB_plain {on : Bool} {k c n : Int} (h : ¬ (k = 0 ∨ k = 2)) (hc : c ≠ 0) : fitB on k c n = false := by unfold fitB; rw [if_neg h, decide_eq_false (p := c = 0) hc]; simp
theorem fitB_yes {on : Bool} {k c n : Int} (h0 : 0 ≤ k) (h9 : k ≤ 9) (hin : ¬ (k = 9 ∧ on = true)) (hl : least k ≤ n) (hm : n ≤ most k) (hc : if k = 0 ∨ k = 2 then 0 ≤ c ∧ c < 36 else c = 0) : fitB on k c n = true := by
  unfold fitB
  rw [decide_eq_true (p := 0 ≤ k ∧ k ≤ 9) ⟨h0, h9⟩, decide_eq_true (p := least k ≤ n ∧ n ≤ most k) ⟨hl, hm⟩]
  have h1 : (decide (k = 9) && on) = false := by
    cases on with
    | false => simp
    | true => simpa using hin
  rw [h1]
  split
  · rename_i h; rw [if_pos h] at hc; simpa using hc
  · rename_i h; rw [if_neg h] at hc; simpa using hc

theorem any_not {T : Type} (l : List T) (p : T → Bool) : (!(l.any fun t => !p t)) = l.all p := by
  induction l with
  | nil => rfl
  | cons x r ih => simp only [List.any_cons, List.all_cons, Bool.not_or, Bool.not_not, ih]

set_option maxRecDepth 100000 in
set_option maxHeartbeats 4000000 in
theorem fits_any (S : Nat → Prop) : ∀ d : Nat, FitsIH S d := by
  intro d
  induction d with
  | zero => intro v t; exact t.elim
  | succ d ih =>
    intro v t on w h
    obtain ⟨A, c, rfl, hle, hkids⟩ := h.open
    obtain ⟨kd, hkd⟩ : ∃ kd, kd = Tr.kind t := ⟨_, rfl⟩
    obtain ⟨cl, hcl⟩ : ∃ cl, cl = Tr.cls t := ⟨_, rfl⟩
    obtain ⟨l, hl⟩ : ∃ l, l = Tr.kids t := ⟨_, rfl⟩
    have hres := hid (show fitsT (d + 1) on t = (fitB on kd cl l.length && l.all (fun x => fitsT d true x)) by rw [hl, hkd, hcl]; rfl)
    rw [← hkd, ← hcl, ← hl]
    rw [← hl] at hkids hle
    clear hkd hcl hl h
    obtain ⟨W, hW0⟩ : ∃ W, W = w.alloc (.cells #[.int .i64 kd, .int .i64 cl, .slice A l.length c] 52) := ⟨_, rfl⟩
    have HB := hid (show Below w.heap.size w W by rw [hW0]; exact (Below.refl _ _).alloc (Nat.le_refl _) _)
    have HW := hid hW0
    have HK := hid (hkids.below HB.out)
    have IH := hid ih
    clear hkids ih hW0
    have hno : fitB on kd cl l.length = false → Hid (false = fitsT (d + 1) on t) := fun h => hid (by rw [hres.out, h]; rfl)
    have HN := hid hno
    clear hno
    by_cases h1 : kd < 0
    · have b0 := ieq_false (show kd ≠ 0 by omega)
      have b2 := ieq_false (show kd ≠ 2 by omega)
      have b1 := ilt_true h1
      have HE := HN.out (fitB_lo h1)
      clear h1
      go_enter Try.func73, Try.ntmps73
      go_wp2_with fail
      refine (many_any _ _).mono ?_
      rintro e w1 ⟨rfl, rfl⟩
      go_wp2_with fail
      go_ret
      exact ⟨ret_bool HE.out, by rw [← HW.out]; exact HB.out⟩
    by_cases h2 : 9 < kd
    · have b0 := ieq_false (show kd ≠ 0 by omega)
      have b2 := ieq_false (show kd ≠ 2 by omega)
      have b1 := ilt_false h1
      have b3 := ilt_true h2
      have HE := HN.out (fitB_hi h2)
      clear h1 h2
      go_enter Try.func73, Try.ntmps73
      go_wp2_with fail
      refine (many_any _ _).mono ?_
      rintro e w1 ⟨rfl, rfl⟩
      go_wp2_with fail
      go_ret
      exact ⟨ret_bool HE.out, by rw [← HW.out]; exact HB.out⟩
    have b1 := ilt_false h1
    have b3 := ilt_false h2
    by_cases h3 : kd = 9 ∧ on = true
    · obtain ⟨rfl, rfl⟩ := h3
      have HE := HN.out fitB_in
      clear h1 h2 b1 b3
      go_enter Try.func73, Try.ntmps73
      go_wp2_with fail
      refine (many_any _ _).mono ?_
      rintro e w1 ⟨rfl, rfl⟩
      go_wp2_with fail
      go_ret
      exact ⟨ret_bool HE.out, by rw [← HW.out]; exact HB.out⟩
    obtain ⟨q, hq⟩ : ∃ q, q = (kd == 9) := ⟨_, rfl⟩
    have hp : q = true → on = false := fun h => by
      rw [hq] at h
      cases on with
      | false => rfl
      | true => exact absurd ⟨by simpa using h, rfl⟩ h3
    have b9 := hq.symm
    have H123 := hid (show 0 ≤ kd ∧ kd ≤ 9 ∧ ¬ (kd = 9 ∧ on = true) from ⟨by omega, by omega, h3⟩)
    clear h1 h2 h3 hq
    obtain ⟨x0, hx0⟩ : ∃ x, x = (kd == 0) := ⟨_, rfl⟩
    obtain ⟨x2, hx2⟩ : ∃ x, x = (kd == 2) := ⟨_, rfl⟩
    have b0 := hx0.symm
    have b2 := hx2.symm
    clear hx0 hx2
    have HNM := hid (show (x0 || x2) = true ↔ (kd = 0 ∨ kd = 2) by rw [← b0, ← b2]; simp)
    have HP := hid hp
    clear hp
    have hq1 : q = false ∨ (q = true ∧ on = false) := by
      cases q with
      | false => exact .inl rfl
      | true => exact .inr ⟨rfl, HP.out rfl⟩
    obtain ⟨n, hn⟩ : ∃ n : Int, n = l.length := ⟨_, rfl⟩
    by_cases hl : (l.length : Int) < least kd
    · have bl := ilt_true hl
      have HE := HN.out (fitB_few (.inl hl))
      clear hl
      rcases hq1 with rfl | ⟨rfl, rfl⟩ <;> cases x0 <;> cases x2
      all_goals
        go_enter Try.func73, Try.ntmps73
        go_wp2_with fail
        refine (many_any _ _).mono ?_
        rintro e w1 ⟨rfl, rfl⟩
        go_wp2_with fail
        go_ret
        exact ⟨ret_bool HE.out, by rw [← HW.out]; exact HB.out⟩
    have bl := ilt_false hl
    by_cases hm : most kd < (l.length : Int)
    · have bm := ilt_true hm
      have HE := HN.out (fitB_few (.inr hm))
      clear hl hm
      rcases hq1 with rfl | ⟨rfl, rfl⟩ <;> cases x0 <;> cases x2
      all_goals
        go_enter Try.func73, Try.ntmps73
        go_wp2_with fail
        refine (many_any _ _).mono ?_
        rintro e w1 ⟨rfl, rfl⟩
        go_wp2_with fail
        go_ret
        exact ⟨ret_bool HE.out, by rw [← HW.out]; exact HB.out⟩
    have bm := ilt_false hm
    have HLM := hid (show least kd ≤ (l.length : Int) ∧ (l.length : Int) ≤ most kd from ⟨by omega, by omega⟩)
    clear hl hm
    have HL := hid hle
    clear hle
    by_cases hn : kd = 0 ∨ kd = 2
    · have hq0 : q = false := by rw [← b9]; rcases hn with rfl | rfl <;> rfl
      subst hq0
      by_cases hc : cl < 0
      · have bc := ilt_true hc
        have HE := HN.out (fitB_named hn (.inl hc))
        clear hc
        rcases hn with rfl | rfl
        all_goals
          subst b0 b2
          go_enter Try.func73, Try.ntmps73
          go_wp2_with fail
          refine (many_any _ _).mono ?_
          rintro e w1 ⟨rfl, rfl⟩
          go_wp2_with fail
          go_ret
          exact ⟨ret_bool HE.out, by rw [← HW.out]; exact HB.out⟩
      by_cases hd : 36 ≤ cl
      · have bc := ilt_false hc
        have bd := ile_true hd
        have HE := HN.out (fitB_named hn (.inr hd))
        clear hc hd
        rcases hn with rfl | rfl
        all_goals
          subst b0 b2
          go_enter Try.func73, Try.ntmps73
          go_wp2_with fail
          refine (many_any _ _).mono ?_
          rintro e w1 ⟨rfl, rfl⟩
          go_wp2_with fail
          go_ret
          exact ⟨ret_bool HE.out, by rw [← HW.out]; exact HB.out⟩
      have bc := ilt_false hc
      have bd := ile_false hd
      have HE := hid (show fitsT (d + 1) on t = l.all (fun x => fitsT d true x) by
        rw [hres.out, fitB_yes H123.out.1 H123.out.2.1 H123.out.2.2 HLM.out.1 HLM.out.2 (by rw [if_pos hn]; exact ⟨by omega, by omega⟩)]; rfl)
      clear hc hd
      rcases hn with rfl | rfl
      all_goals
        subst b0 b2
        go_enter Try.func73, Try.ntmps73
        go_wp2_with fail
        refine (many_any _ _).mono ?_
        rintro e w1 ⟨rfl, rfl⟩
        go_wp2_with fail
        rw [← HW.out]
        refine (containsFits_any S d IH A c l _ HK.out HL.out).mono ?_
        rintro e w1 ⟨rfl, hb1⟩
        go_wp2_with fail
        go_ret
        exact ⟨ret_bool (by rw [HE.out, any_not]), HB.out.trans (hb1.mono HB.out.size)⟩
    have h0' : x0 = false := by rw [← b0]; exact ieq_false (fun h => hn (.inl h))
    have h2' : x2 = false := by rw [← b2]; exact ieq_false (fun h => hn (.inr h))
    subst h0' h2'
    by_cases hc : cl = 0
    · subst hc
      have HE := hid (show fitsT (d + 1) on t = l.all (fun x => fitsT d true x) by
        rw [hres.out, fitB_yes H123.out.1 H123.out.2.1 H123.out.2.2 HLM.out.1 HLM.out.2 (by rw [if_neg hn])]; rfl)
      clear hn
      rcases hq1 with rfl | ⟨rfl, rfl⟩
      all_goals
        go_enter Try.func73, Try.ntmps73
        go_wp2_with fail
        refine (many_any _ _).mono ?_
        rintro e w1 ⟨rfl, rfl⟩
        go_wp2_with fail
        rw [← HW.out]
        refine (containsFits_any S d IH A c l _ HK.out HL.out).mono ?_
        rintro e w1 ⟨rfl, hb1⟩
        go_wp2_with fail
        go_ret
        exact ⟨ret_bool (by rw [HE.out, any_not]), HB.out.trans (hb1.mono HB.out.size)⟩
    have bc := ine_true hc
    have HE := HN.out (fitB_plain hn hc)
    clear hn hc
    rcases hq1 with rfl | ⟨rfl, rfl⟩
    all_goals
      go_enter Try.func73, Try.ntmps73
      go_wp2_with fail
      refine (many_any _ _).mono ?_
      rintro e w1 ⟨rfl, rfl⟩
      go_wp2_with fail
      go_ret
      exact ⟨ret_bool HE.out, by rw [← HW.out]; exact HB.out⟩

end Go.Proofs.Ythdhbkngbmjjkaa
