/- Of each state its class: the walk. Conditions: a right automaton. -/
import Derived.Test.YtmdkmobcglnmgaaTx
namespace Go.Proofs.Ytmdkmobcglnmgaa
open Go.RowKit
set_option linter.unusedSimpArgs false

def ClassAns (w : World) (d : D) (e : Ending) (w' : World) : Prop :=
  ∃ b l, e = .returned (.slice (some ⟨b, 0, none⟩) d.next.length d.next.length) ∧ w.heap.size ≤ b ∧ l.length = d.next.length ∧ (∀ p q, p < d.next.length → q < d.next.length → (nth l p = nth l q ↔ Alk d.next d.tells p q)) ∧ IntBlk w' b 3 .i64 (numbered l) ∧ Below w.heap.size w w'
set_option maxRecDepth 100000 in
set_option maxHeartbeats 4000000 in
theorem classes_yes (S : Nat → Prop) (v : Value) (d : D) (w : World) (h : IsD w S v d) (hr : rightB d = true) (hu : ∀ z ∈ d.tells, u64ok z) :
    Calls Try.prog 33 #[v] w (ClassAns w d) := by
  obtain ⟨nv, tv, rfl, _, _⟩ := id h
  have HD := hid h
  have HR := hid hr
  obtain ⟨nb, no, nc, tb, to', tc, rfl, rfl, hx⟩ := tabX_of h hr hu
  have HX := hid hx
  obtain ⟨n, hn⟩ : ∃ n, n = d.next.length := ⟨_, rfl⟩
  have HN := hid hn
  have HN1 := hid hx.n1
  obtain ⟨B, hB⟩ : ∃ B, B = w.heap.size := ⟨_, rfl⟩
  have HB := hid hB
  obtain ⟨w1, hw1⟩ : ∃ w1, w1 = w.alloc (.cells #[.slice (some ⟨nb, no, none⟩) d.next.length nc, .slice (some ⟨tb, to', none⟩) d.next.length tc] 30) := ⟨_, rfl⟩
  have hx1 : w1.heap[B]? = some (.cells #[.slice (some ⟨nb, no, none⟩) d.next.length nc, .slice (some ⟨tb, to', none⟩) d.next.length tc] 30 (0, 0)) := by rw [hw1, hB]; exact heap_alloc_new _ _
  have HX1 := hid hx1
  have HB1 := hid (show Below w.heap.size w w1 by rw [hw1]; exact (Below.refl _ _).alloc (Nat.le_refl _) _)
  have hsz : w1.heap.size = B + 1 := by rw [hw1, hB]; simp
  have HSZ := hid hsz
  obtain ⟨d0, d1, _⟩ := slot2 hx1
  rw [hB, hw1] at d0 d1
  clear h hr hu hx hn hx1 hsz
  go_enter Try.func33, Try.ntmps33
  go_wp2_with (first
    | (go_at_call 26
       refine (right_any S _ d _ (HD.out.below (by first | exact Below.refl _ _ | exact (Below.refl _ _).alloc (Nat.le_refl _) _))).mono ?_
       rintro e w2 ⟨rfl, hb2⟩
       rw [HR.out]
       rw [← hw1] at hb2
       have HB2 := hid (HB1.out.trans (hb2.mono HB1.out.size))
       obtain ⟨e0, e1, _⟩ := slot2 ((hb2.block B (by rw [HSZ.out]; omega)).trans HX1.out)
       rw [hB] at e0 e1
       clear hb2)
    | (go_at_call 56
       refine (blocks_any _ nb no nc tb to' tc _ _ _ (HX.out.below HB2.out)).mono ?_
       rintro e w3 ⟨b3, l, rfl, hg3, hi3, hl3, hr3, ha3, hb3⟩
       have HB3 := hid (HB2.out.trans (hb3.mono HB2.out.size))
       have HI3 := hid (And.intro hi3 (And.intro hl3 hr3))
       have HA3 := hid ha3
       clear hb3 hi3 hl3 hr3 ha3)
    | (go_at_call 57
       refine (renamed_any _ b3 _ l HI3.out.1 HI3.out.2.1 HN1.out.2 (fun z hz => ?_)).mono ?_
       · obtain ⟨i, hi⟩ := List.getElem?_of_mem hz
         have hlt := (List.getElem?_eq_some_iff.1 hi).1
         have := HI3.out.2.2 i (by rw [← HI3.out.2.1]; exact hlt)
         rw [show nth l i = z by simp [nth, hi]] at this
         have h2 := HN1.out.2
         exact ⟨by omega, by omega⟩
       rintro e w4 ⟨b4, rfl, hg4, hi4, hb4⟩
       have HB4 := hid (HB3.out.trans (hb4.mono HB3.out.size)))
    | fail)
  go_ret
  exact ⟨b4, l, rfl, Nat.le_trans HB3.out.size hg4, HI3.out.2.1, HA3.out, hi4, HB4.out⟩
set_option maxRecDepth 100000 in
set_option maxHeartbeats 4000000 in
theorem classes_no (S : Nat → Prop) (v : Value) (d : D) (w : World) (h : IsD w S v d) (hr : rightB d = false) :
    Calls Try.prog 33 #[v] w fun e w' => e = .returned (.slice none 0 0) ∧ Below w.heap.size w w' := by
  obtain ⟨nv, tv, rfl, _, _⟩ := id h
  have HD := hid h
  have HR := hid hr
  obtain ⟨d0, d1, _⟩ := slot2 (heap_alloc_new w (.cells #[nv, tv] 30))
  have HB1 := hid (show Below w.heap.size w (w.alloc (.cells #[nv, tv] 30)) from (Below.refl _ _).alloc (Nat.le_refl _) _)
  clear h hr
  go_enter Try.func33, Try.ntmps33
  go_wp2_with (first
    | (go_at_call 26
       refine (right_any S _ d _ (HD.out.below (by first | exact Below.refl _ _ | exact (Below.refl _ _).alloc (Nat.le_refl _) _))).mono ?_
       rintro e w2 ⟨rfl, hb2⟩
       rw [HR.out]
       have HB2 := hid (HB1.out.trans (hb2.mono HB1.out.size))
       clear hb2)
    | fail)
  go_ret
  exact ⟨rfl, HB2.out⟩
end Go.Proofs.Ytmdkmobcglnmgaa
