/- A boxed struct of three cells. No conditions. -/
import Derived.Test.YthdhbkngbmjjkaaTr
namespace Go.Proofs.Ythdhbkngbmjjkaa
open Go.RowKit
theorem box3 {w W : World} {v0 v1 v2 : Value} {T : Nat} (hW : W = w.alloc (.cells #[v0, v1, v2] T)) : Below w.heap.size w W ∧
    ∀ Y, Below W.heap.size W Y → Y.cell? ⟨w.heap.size, 0, none⟩ = some v0 ∧ Y.cell? ⟨w.heap.size, 1, none⟩ = some v1 ∧ Y.cell? ⟨w.heap.size, 2, none⟩ = some v2 := by
  have hb : Below w.heap.size w W := by rw [hW]; exact (Below.refl _ _).alloc (Nat.le_refl _) _
  have q0 : W.heap[w.heap.size]? = some (.cells #[v0, v1, v2] T (0, 0)) := by rw [hW]; exact heap_alloc_new _ _
  refine ⟨hb, fun Y hY => ?_⟩
  have h2 := (hY.block _ (by rw [hW]; simp)).trans q0
  refine ⟨?_, ?_, ?_⟩ <;> (rw [cell_of_row _ _ _ _ _ _ h2]; rfl)
end Go.Proofs.Ythdhbkngbmjjkaa
namespace Go.Proofs.Ythdhbkngbmjjkaa
open Go.RowKit
/-- Right, of an expression by itself. -/
def rightT (d : Nat) (t : Tr d) : Bool := decide (sizeT d 2000 t ≤ 2000) && fitsT d false t
set_option maxRecDepth 100000 in
theorem eright_any (S : Nat → Prop) (d : Nat) (v : Value) (t : Tr d) (w : World) (h : IsTr w S d v t) :
    Calls Try.prog 43 #[v] w fun e w' => e = .returned (.bool (rightT d t)) ∧ Below w.heap.size w w' := by
  have H := hid h
  cases d with
  | zero => exact t.elim
  | succ d =>
    obtain ⟨A, c, rfl, hle, -⟩ := h.open
    clear h
    obtain ⟨W, hW0⟩ : ∃ W, W = w.alloc (.cells #[.int .i64 (Tr.kind t), .int .i64 (Tr.cls t), .slice A (Tr.kids t).length c] 52) := ⟨_, rfl⟩
    have HX := hid (box3 hW0)
    have HT := hid (H.out.below HX.out.1)
    clear H
    obtain ⟨k, hk⟩ : ∃ k, k = sizeT (d + 1) 2000 t := ⟨_, rfl⟩
    by_cases hs : k ≤ 2000
    · have bs := ile_true hs
      have HE := hid (show fitsT (d + 1) false t = rightT (d + 1) t by unfold rightT; rw [← hk, bs]; rfl)
      clear hs
      go_enter Try.func43, Try.ntmps43
      go_wp2_with fail
      rw [← hW0]
      refine (esize_any S _ _ _ _ _ HT.out (by omega) (by omega)).mono ?_
      rintro e w1 ⟨rfl, hb1⟩
      rw [← hk]
      clear hk
      obtain ⟨g0, g1, g2⟩ := HX.out.2 w1 hb1
      go_wp2_with fail
      refine (fits_any S _ _ _ _ _ (HT.out.below hb1)).mono ?_
      rintro e w2 ⟨rfl, hb2⟩
      rw [HE.out]
      go_wp2_with fail
      go_ret
      exact ⟨rfl, HX.out.1.trans ((hb1.trans (hb2.mono hb1.size)).mono HX.out.1.size)⟩
    · have bs := ile_false hs
      have HE := hid (show false = rightT (d + 1) t by unfold rightT; rw [← hk, bs]; rfl)
      clear hs
      go_enter Try.func43, Try.ntmps43
      go_wp2_with fail
      rw [← hW0]
      refine (esize_any S _ _ _ _ _ HT.out (by omega) (by omega)).mono ?_
      rintro e w1 ⟨rfl, hb1⟩
      rw [← hk]
      clear hk
      go_wp2_with fail
      go_ret
      exact ⟨ret_bool HE.out, HX.out.1.trans (hb1.mono HX.out.1.size)⟩
end Go.Proofs.Ythdhbkngbmjjkaa
namespace Go.Proofs.Ythdhbkngbmjjkaa
open Go.RowKit
def cntL {T : Type} (f : T → Nat) : List T → Nat
  | [] => 0
  | k :: r => f k + cntL f r
def cnt : (d : Nat) → Tr d → Nat
  | 0, _ => 0
  | d + 1, t => 1 + cntL (fun k => cnt d k) (Tr.kids t)
theorem cntL_mem {T : Type} {f : T → Nat} {l : List T} {x : T} (h : x ∈ l) : f x ≤ cntL f l := by
  induction l with
  | nil => simp at h
  | cons k r ih =>
    simp only [cntL]
    rcases List.mem_cons.1 h with rfl | h
    · omega
    · have := ih h; omega
theorem cntL_drop {T : Type} {f : T → Nat} {l : List T} {k : Nat} (h : k < l.length) : cntL f (l.drop k) = f l[k] + cntL f (l.drop (k + 1)) := by
  rw [List.drop_eq_getElem_cons h]; rfl
theorem cntL_len {T : Type} {f : T → Nat} (hf : ∀ x, 1 ≤ f x) (l : List T) : l.length ≤ cntL f l := by
  induction l with
  | nil => simp [cntL]
  | cons k r ih => have := hf k; simp only [cntL, List.length_cons]; omega
theorem cnt_pos : ∀ (d : Nat) (t : Tr d), 1 ≤ cnt d t := by
  intro d t
  cases d with
  | zero => exact t.elim
  | succ d => simp only [cnt]; omega
theorem sizeL_cnt {T : Type} {f : Int → T → Int} {c : T → Nat} {most : Int} (hf : ∀ m k, 0 ≤ m → ((c k : Int) ≤ m → f m k = c k) ∧ (m < c k → m < f m k)) (l : List T) :
    ∀ sum : Int, sum ≤ most → (sum + cntL c l ≤ most → sizeL f most sum l = sum + cntL c l) ∧ (most < sum + cntL c l → most < sizeL f most sum l) := by
  induction l with
  | nil => intro sum h; simp only [sizeL, cntL]; exact ⟨fun _ => by omega, fun _ => by omega⟩
  | cons k r ih =>
    intro sum h
    simp only [sizeL, cntL]
    rw [if_pos h]
    obtain ⟨h1, h2⟩ := hf (most - sum) k (by omega)
    by_cases hk : (c k : Int) ≤ most - sum
    · rw [h1 hk]
      obtain ⟨h3, h4⟩ := ih (sum + c k) (by omega)
      exact ⟨fun _ => by rw [h3 (by omega)]; omega, fun _ => h4 (by omega)⟩
    · have h5 := h2 (by omega)
      refine ⟨fun _ => by omega, fun _ => ?_⟩
      have h6 : ∀ (s : Int) (r : List T), most < s → most < sizeL f most s r := by
        intro s r hs
        cases r with
        | nil => exact hs
        | cons a r => simp only [sizeL]; rw [if_neg (by omega)]; exact hs
      exact h6 _ r (by omega)
theorem sizeT_cnt : ∀ (d : Nat) (most : Int) (t : Tr d), 0 ≤ most → ((cnt d t : Int) ≤ most → sizeT d most t = cnt d t) ∧ (most < cnt d t → most < sizeT d most t) := by
  intro d
  induction d with
  | zero => intro m t; exact t.elim
  | succ d ih =>
    intro most t h
    obtain ⟨s, hs⟩ : ∃ s, s = sizeT (d + 1) most t := ⟨_, rfl⟩
    obtain ⟨c, hc⟩ : ∃ c, c = cntL (fun k => cnt d k) (Tr.kids t) := ⟨_, rfl⟩
    have hs' : s = sizeL (fun m k => sizeT d m k) most 1 (Tr.kids t) := hs
    have hcn : cnt (d + 1) t = 1 + c := by rw [hc]; rfl
    rw [← hs, hcn]
    by_cases h1 : 1 ≤ most
    · have H := sizeL_cnt (f := fun m k => sizeT d m k) (c := fun k => cnt d k) (fun m k hm => ih m k hm) (Tr.kids t) 1 h1
      rw [← hs', ← hc] at H
      exact ⟨fun _ => by rw [H.1 (by omega)]; omega, fun _ => H.2 (by omega)⟩
    · have h0 : most = 0 := by omega
      subst h0
      refine ⟨fun _ => by omega, fun _ => ?_⟩
      rw [hs']
      cases Tr.kids t with
      | nil => simp [sizeL]
      | cons a r => simp only [sizeL]; rw [if_neg (by omega)]; omega
theorem sizeT_le {d : Nat} {most : Int} {t : Tr d} (h : 0 ≤ most) : sizeT d most t ≤ most ↔ (cnt d t : Int) ≤ most := by
  obtain ⟨h1, h2⟩ := sizeT_cnt d most t h
  by_cases hc : (cnt d t : Int) ≤ most
  · rw [h1 hc]
  · have := h2 (by omega); omega
end Go.Proofs.Ythdhbkngbmjjkaa
