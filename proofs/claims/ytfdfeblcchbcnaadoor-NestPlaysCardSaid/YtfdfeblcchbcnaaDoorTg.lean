/- Tags in memory; plain: a start tag and its end tag lead back. Conditions: counts within what they may be. -/
import Derived.Test.YtfdfeblcchbcnaaDoorAk
namespace Go.Proofs.YtfdfeblcchbcnaaDoor
open Go.RowKit

/-- A tag. -/
structure T3 where
  kind : Int
  name : ByteArray
  single : Bool
/-- Tags in memory, one after another. -/
def TagsAt (w : World) (A : Option Addr) (l : List T3) : Prop := ∀ (k : Nat) (t : T3), l[k]? = some t → ∃ b o : Nat, A = some ⟨b, o, none⟩ ∧ b < w.heap.size ∧
  w.cell? ⟨b, o + k * 3, none⟩ = some (.int .i64 t.kind) ∧ w.cell? ⟨b, o + k * 3 + 1, none⟩ = some (.string t.name) ∧ w.cell? ⟨b, o + k * 3 + 2, none⟩ = some (.bool t.single) ∧ t.name.size ≤ 9223372036854775807
theorem cell_below {w w' : World} {b o : Nat} (hb : Below w.heap.size w w') (h : b < w.heap.size) : w'.cell? ⟨b, o, none⟩ = w.cell? ⟨b, o, none⟩ := by
  unfold World.cell?
  rw [hb.block b h]
/-- The three cells of a tag. -/
def TagIn (w : World) (b o k : Nat) (t : T3) : Prop := w.cell? ⟨b, o + k * 3, none⟩ = some (.int .i64 t.kind) ∧ w.cell? ⟨b, o + k * 3 + 1, none⟩ = some (.string t.name) ∧ w.cell? ⟨b, o + k * 3 + 2, none⟩ = some (.bool t.single)
theorem TagsAt.at {w w' : World} {A : Option Addr} {l : List T3} (h : TagsAt w A l) (hb : Below w.heap.size w w') {k : Nat} (hk : k < l.length) :
    ∃ (b o : Nat) (t : T3), A = some ⟨b, o, none⟩ ∧ b < w.heap.size ∧ l[k]? = some t ∧ TagIn w' b o k t ∧ t.name.size ≤ 9223372036854775807 := by
  obtain ⟨b, o, e, hlt, h1, h2, h3, h4⟩ := h k l[k] (List.getElem?_eq_getElem hk)
  exact ⟨b, o, l[k], e, hlt, List.getElem?_eq_getElem hk, ⟨by rw [cell_below hb hlt]; exact h1, by rw [cell_below hb hlt]; exact h2, by rw [cell_below hb hlt]; exact h3⟩, h4⟩

/-- All counts at most so much. -/
def leN (s : NS) (k : Int) : Prop := s.h ≤ k ∧ s.p ≤ k ∧ s.n ≤ k
theorem turnI_le {c k : Int} (on : Bool) {by' : Int} (hb : by' ≤ 1) (h : c ≤ k) (h0 : 0 ≤ k) : turnI c on by' ≤ k + 1 := by
  unfold turnI turnV
  split <;> omega
theorem takeS_le {s : NS} {k : Int} (kind : Int) (v : Nat) (single : Bool) (h : leN s k) (h0 : 0 ≤ k) : leN (takeS s kind v single) (k + 1) := by
  have hid' : leN s (k + 1) := ⟨by have := h.1; omega, by have := h.2.1; omega, by have := h.2.2; omega⟩
  unfold takeS startS endS
  split
  · split
    · exact hid'
    · exact ⟨turnI_le _ (by omega) h.1 h0, turnI_le _ (by omega) h.2.1 h0, turnI_le _ (by omega) h.2.2 h0⟩
  · split
    · split
      · exact hid'
      · exact ⟨turnI_le _ (by omega) h.1 h0, turnI_le _ (by omega) h.2.1 h0, turnI_le _ (by omega) h.2.2 h0⟩
    · exact hid'
/-- Who hides counts nothing else. -/
theorem hides_all : allNames.all (fun s => !bitB (valOf s) 4 || (!bitB (valOf s) 8 && !bitB (valOf s) 16)) = true := by decide +kernel
theorem hides (s : List UInt8) : bitB (valOf s) 4 = true → bitB (valOf s) 8 = false ∧ bitB (valOf s) 16 = false := by
  intro h
  by_cases hm : s ∈ allNames
  · have := List.all_eq_true.1 hides_all s hm
    rw [h] at this
    simpa using this
  · rw [valOf_none hm] at h
    simp [bitB] at h
theorem back_one {s : NS} {v : Nat} (hv : bitB v 4 = true → bitB v 8 = false ∧ bitB v 16 = false) (ho : okN s) (hl : leN s 254) : takeS (takeS s 2 v false) 3 v false = s := by
  obtain ⟨⟨h1, h2⟩, ⟨h3, h4⟩, h5, h6⟩ := ho
  obtain ⟨l1, l2, l3⟩ := hl
  obtain ⟨h, p, n⟩ := s
  simp only [] at h1 h2 h3 h4 h5 h6 l1 l2 l3
  have up : ∀ c : Int, 0 ≤ c → c ≤ 254 → min (max (min (max (c + 1) 0) 255 + -1) 0) 255 = c := fun c a b => by omega
  cases e2 : bitB v 2 with
  | true => simp [takeS, startS, endS, e2]
  | false =>
    cases e4 : bitB v 4 with
    | true =>
      obtain ⟨e8, e16⟩ := hv e4
      simp [takeS, startS, endS, e2, addS, addK, turnI, turnV, e4, e8, e16, up h h1 l1]
    | false =>
      by_cases hz : h = 0
      · subst hz
        cases e8 : bitB v 8 <;> cases e16 : bitB v 16 <;> simp [takeS, startS, endS, e2, addS, addK, turnI, turnV, e4, e8, e16, up p h3 l2, up n h5 l3]
      · simp [takeS, startS, endS, e2, addS, addK, turnI, e4, hz]
/-- Start tags taken. -/
def ups (s : NS) (l : List T3) : NS := l.foldl (fun s t => takeS s 2 (valOf t.name.data.toList) false) s
theorem ups_succ {s : NS} {l : List T3} {k : Nat} {t : T3} (h : l[k]? = some t) : ups s (l.take (k + 1)) = takeS (ups s (l.take k)) 2 (valOf t.name.data.toList) false := by
  unfold ups
  rw [List.take_add_one, h, Option.toList_some, List.foldl_append]
  rfl
theorem ups_ok {s : NS} (h : okN s) (l : List T3) : okN (ups s l) := by
  induction l generalizing s with
  | nil => exact h
  | cons t l ih => exact ih (takeS_ok _ _ _ h)
theorem ups_le {s : NS} {k : Int} (h : leN s k) (h0 : 0 ≤ k) (l : List T3) : leN (ups s l) (k + l.length) := by
  induction l generalizing s k with
  | nil => simpa [ups] using h
  | cons t l ih =>
    have := ih (takeS_le 2 (valOf t.name.data.toList) false h h0) (by omega)
    rw [List.length_cons]
    have e : k + 1 + (l.length : Int) = k + ((l.length + 1 : Nat) : Int) := by omega
    rw [← e]
    exact this
theorem down_one {s : NS} {l : List T3} {k : Nat} {t : T3} (h : l[k]? = some t) (ho : okN s) (hl : leN s 40) (hk : l.length ≤ 40) : takeS (ups s (l.take (k + 1))) 3 (valOf t.name.data.toList) false = ups s (l.take k) := by
  rw [ups_succ h]
  refine back_one (hides _) (ups_ok ho _) ?_
  have := ups_le hl (by omega) (l.take k)
  have hlen : ((l.take k).length : Int) ≤ 40 := by rw [List.length_take]; omega
  exact ⟨by have := this.1; omega, by have := this.2.1; omega, by have := this.2.2; omega⟩
end Go.Proofs.YtfdfeblcchbcnaaDoor
