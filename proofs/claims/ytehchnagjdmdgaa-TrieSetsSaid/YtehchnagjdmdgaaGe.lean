/- The class of a number, by a trie; no trie of entries that may not be. Conditions: a trie, entries in memory. -/
import Derived.Test.YtehchnagjdmdgaaNw
namespace Go.Proofs.Ytehchnagjdmdgaa
open Go.RowKit
set_option linter.unusedSimpArgs false
theorem IsTrie.below {w w' : World} {t : Nat} {other : Int} {es : List Ent} (h : IsTrie w t other es) (hb : Below w.heap.size w w') : IsTrie w' t other es := by
  obtain ⟨B, h⟩ := h
  exact ⟨B, h.below hb⟩
theorem Tb.read {w : World} {B t : Nat} {other : Int} {first : List Int} {bs : List (List Int)} (h : Tb w B t other first bs) (hall : ∀ l ∈ bs, l.length = 256) : w.cell? ⟨t, 0, none⟩ = some (.int .i64 other) ∧ ∃ VA vc, w.cell? ⟨t, 4353, none⟩ = some (.slice VA bs.length vc) ∧
    ∀ (p k ix : Nat) (l : List Int), k < 256 → first[p]? = some (ix : Int) → bs[ix]? = some l → ∃ bb bo, VA = some ⟨bb, bo, none⟩ ∧ ix < bs.length ∧ w.cell? ⟨t, 1 + p, none⟩ = some (.int .u16 (ix : Int)) ∧ w.cell? ⟨bb, bo + ix * 256 + k, none⟩ = some (.int .u8 (nth l k)) := by
  obtain ⟨VA, vc, c1, h1, -⟩ := h.blocksCell
  obtain ⟨cs, v, g1, g2, g3, g4, -⟩ := h.blk
  refine ⟨by rw [cell_of_row w t 0 cs 73 (0, 0) g1]; exact g3, VA, vc, c1, fun p k ix l hk e1 e2 => ?_⟩
  obtain ⟨A', c', e, -, -, harr⟩ := own_arr h1
  have hg := flatB_get bs hall ix k _ e2 hk
  obtain ⟨bb, bo, ea, -, -, hc⟩ := harr.at hg
  refine ⟨bb, bo, ?_, (List.getElem?_eq_some_iff.1 e2).1, ?_, ?_⟩
  · injection e with e3
    rw [e3]; exact ea
  · rw [cell_of_row w t _ cs 73 (0, 0) g1, g4 p (List.getElem?_eq_some_iff.1 e1).1, nth_some e1]
  · rw [Nat.add_assoc]; exact hc
theorem all256 (other : Int) (es : List Ent) (m : Nat) : ∀ l ∈ blksTo other es m, l.length = 256 := fun l hl => by
  obtain ⟨q, -, rfl⟩ := blks_all other es m l hl
  exact blk_len _ _ _
theorem read_of {w : World} {B t m : Nat} {other : Int} {es : List Ent} (h : Tb w B t other (firstTo other es m) (blksTo other es m)) : w.cell? ⟨t, 0, none⟩ = some (.int .i64 other) ∧ ∃ VA vc, w.cell? ⟨t, 4353, none⟩ = some (.slice VA (blksTo other es m).length vc) ∧
    ∀ p k, p < m → k < 256 → ∃ bb bo, ∃ ix : Nat, VA = some ⟨bb, bo, none⟩ ∧ ix < (blksTo other es m).length ∧ ix < m ∧ w.cell? ⟨t, 1 + p, none⟩ = some (.int .u16 (ix : Int)) ∧ w.cell? ⟨bb, bo + ix * 256 + k, none⟩ = some (.int .u8 (cls other es ((p : Int) * 256 + (k : Nat)))) := by
  obtain ⟨c0, VA, vc, c1, hr⟩ := h.read (all256 other es m)
  refine ⟨c0, VA, vc, c1, fun p k hp hk => ?_⟩
  obtain ⟨ix, e1, e2⟩ := first_at (other := other) (es := es) (q := p) m hp
  obtain ⟨bb, bo, ea, h1, h2, h3⟩ := hr p k ix _ hk e1 e2
  have hle := blks_len other es m
  exact ⟨bb, bo, ix, ea, h1, by omega, h2, by rw [h3, nth_some (blk_get other es p hk)]⟩
/-- A trie's cells, as Get reads them. -/
theorem IsTrie.read {w : World} {t : Nat} {other : Int} {es : List Ent} (h : IsTrie w t other es) : w.cell? ⟨t, 0, none⟩ = some (.int .i64 other) ∧ ∃ VA vc, ∃ n : Nat, w.cell? ⟨t, 4353, none⟩ = some (.slice VA n vc) ∧ n = (blksTo other es 4352).length ∧
    ∀ p k, p < 4352 → k < 256 → ∃ bb bo, ∃ ix : Nat, VA = some ⟨bb, bo, none⟩ ∧ ix < n ∧ ix < 4352 ∧ w.cell? ⟨t, 1 + p, none⟩ = some (.int .u16 (ix : Int)) ∧ w.cell? ⟨bb, bo + ix * 256 + k, none⟩ = some (.int .u8 (cls other es ((p : Int) * 256 + (k : Nat)))) := by
  obtain ⟨B, h⟩ := h
  obtain ⟨c0, VA, vc, c1, hr⟩ := read_of h
  exact ⟨c0, VA, vc, _, c1, rfl, hr⟩
set_option maxRecDepth 100000 in
set_option maxHeartbeats 2000000 in
theorem get_any {w : World} {t : Nat} {other r : Int} {es : List Ent} (h : IsTrie w t other es) (hg : ∀ e ∈ es, goodE e = true) (ho : 0 ≤ other ∧ other ≤ 255) (hr : -2147483648 ≤ r ∧ r ≤ 2147483647) :
    Calls Try.prog 13 #[.pointer (some ⟨t, 0, none⟩), .int .i32 r] w fun e w' => e = .returned (.int .i64 (getB other es r)) ∧ Below w.heap.size w w' := by
  obtain ⟨c0, VA, vc, n, cb, -, hrd⟩ := h.read
  by_cases h0 : 0 ≤ r
  · by_cases h1 : r ≤ 1114111
    · obtain ⟨p, hp⟩ : ∃ p : Nat, r / 256 = (p : Int) := ⟨(r / 256).toNat, by omega⟩
      obtain ⟨k, hk⟩ : ∃ k : Nat, r % 256 = (k : Int) := ⟨(r % 256).toNat, by omega⟩
      obtain ⟨bb, bo, ix, rfl, hx, hx2, c1, c2⟩ := hrd p k (by omega) (by omega)
      have HV := hid (show cls other es ((p : Int) * 256 + (k : Nat)) = getB other es r by unfold getB; rw [if_pos ⟨h0, h1⟩]; congr 1; omega)
      rw [HV.out] at c2
      obtain ⟨y, hy⟩ : ∃ y, y = getB other es r := ⟨_, rfl⟩
      have hyb : 0 ≤ y ∧ y ≤ 255 := by rw [hy, ← HV.out]; exact cls_byte hg ho _
      rw [← hy] at c2 ⊢
      have hpi : (p : Int) < 4352 := by omega
      have hki : (k : Int) < 256 := by omega
      clear h hrd hy
      go_enter Try.func13, Try.ntmps13
      go_wp2_with fail
      go_region
      all_goals
        go_wp2_with fail
        go_ret
        exact ⟨rfl, by exact (Below.refl _ _).drew⟩
    · have HV := hid (show other = getB other es r by unfold getB; rw [if_neg (fun h => h1 h.2)])
      clear h hrd
      go_enter Try.func13, Try.ntmps13
      go_wp2_with fail
      go_ret
      exact ⟨ret_int HV.out, Below.refl _ _⟩
  · have HV := hid (show other = getB other es r by unfold getB; rw [if_neg (fun h => h0 h.1)])
    clear h hrd
    go_enter Try.func13, Try.ntmps13
    go_wp2_with fail
    go_ret
    exact ⟨ret_int HV.out, Below.refl _ _⟩
set_option maxRecDepth 100000 in
set_option maxHeartbeats 2000000 in
theorem new_not {A : Option Addr} {c : Nat} {S : Nat → Prop} {es : List Ent} {other : Int} {w : World} (h : IsEnts w S (.slice A es.length c) es) (hl : es.length ≤ 200) (hm : mayE other es = false) :
    Calls Try.prog 10 #[.int .i64 other, .slice A es.length c] w fun e w' => e = .returned (.tuple #[.pointer none, .int .i64 1]) ∧ Below w.heap.size w w' := by
  have HE := hid h
  cases hc : classB other with
  | true =>
    have HC := hid hc
    have HA := hid (show (!(es.all goodE)) = true by unfold mayE at hm; rw [hc, Bool.true_and] at hm; rw [hm]; rfl)
    clear h hm hc
    go_enter Try.func10, Try.ntmps10
    go_wp2_with fail
    refine (class_any other _).mono ?_
    rintro e w0 ⟨rfl, hw0⟩
    rw [hw0, HC.out]
    clear hw0 w0
    go_wp2_with fail
    refine (contains_any S A c es _ HE.out).mono ?_
    rintro e w1 ⟨rfl, hb1⟩
    rw [HA.out]
    go_wp2_with fail
    go_ret2
    exact ⟨rfl, hb1⟩
  | false =>
    have HC := hid hc
    clear h hm hc
    go_enter Try.func10, Try.ntmps10
    go_wp2_with fail
    refine (class_any other _).mono ?_
    rintro e w0 ⟨rfl, hw0⟩
    rw [hw0, HC.out]
    clear hw0 w0
    go_wp2_with fail
    go_ret2
    exact ⟨rfl, Below.refl _ _⟩
end Go.Proofs.Ytehchnagjdmdgaa
