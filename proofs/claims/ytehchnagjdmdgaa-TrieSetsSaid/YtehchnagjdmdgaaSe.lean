/- All numbers of a class. Conditions: a trie in memory. -/
import Derived.Test.YtehchnagjdmdgaaSt
import Derived.Test.YtehchnagjdmdgaaTo
namespace Go.Proofs.Ytehchnagjdmdgaa
open Go.RowKit
set_option linter.unusedSimpArgs false
set_option maxRecDepth 100000 in
set_option maxHeartbeats 2000000 in
theorem set_any {w : World} {t : Nat} {other y : Int} {es : List Ent} (h : IsTrie w t other es) (hg : ∀ e ∈ es, goodE e = true) (ho : 0 ≤ other ∧ other ≤ 255) :
    Calls Try.prog 15 #[.pointer (some ⟨t, 0, none⟩), .int .i64 y] w fun e w' => ∃ v, e = .returned v ∧ OwnR w' w.heap.size v (runsTo (fun r => decide (getB other es r = y)) 1114112) ∧ Below w.heap.size w w' := by
  have H := hid h
  clear h
  go_enter Try.func15, Try.ntmps15
  go_wp2_with fail
  go_loopw [5, 6, 7] (fun s5 s6 s7 wr => ∃ (k : Nat) (v : Value), k ≤ 1114112 ∧ s6 = .int .i32 k ∧ s5 = v ∧ Hid (OwnR wr w.heap.size v (runsTo (fun r => decide (getB other es r = y)) k)) ∧ Hid (Below w.heap.size w wr)) (fun _ s6 _ _ => 1114112 - (intOf s6).toNat)
  case atStart => exact ⟨0, _, by omega, rfl, rfl, hid (OwnR.nil _ _), hid (Below.refl _ _)⟩
  case round =>
    obtain ⟨k, v, hk, rfl, e5, HR, HB⟩ := hrel
    subst e5
    by_cases hlt : k < 1114112
    · go_wp2_with fail
      refine (get_any (r := (k : Int)) (H.out.below HB.out) hg ho (by omega)).mono ?_
      rintro e w1 ⟨rfl, hb1⟩
      have HB1 := hid (HB.out.trans (hb1.mono HB.out.size))
      have HR1 := hid (HR.out.below hb1)
      clear hb1
      by_cases hy : getB other es k = y
      · have HL := hid (runs_len (fun r => decide (getB other es r = y)) k)
        have HY := hid (show (fun r => decide (getB other es r = y)) (k : Int) = true by simpa using hy)
        obtain ⟨l, hl⟩ : ∃ l, l = runsTo (fun r => decide (getB other es r = y)) k := ⟨_, rfl⟩
        have HS := hid (show runsTo (fun r => decide (getB other es r = y)) (k + 1) = runStep (fun r => decide (getB other es r = y)) k l by rw [hl]; rfl)
        rw [← hl] at HR1 HL
        clear hl HR
        rcases List.eq_nil_or_concat l with rfl | ⟨i, x, rfl⟩
        · obtain ⟨A1, c1, e1⟩ := HR1.out.is.form
          subst e1
          go_wp2_with (at_builtin; refine wpList_app_rng rfl (.tmp 40) (.tmp 44) rfl (w0 := w1) (y := ((k : Int), (k : Int))) rfl rfl HR1.out rfl ⟨by show -2147483648 ≤ (k : Int) ∧ (k : Int) ≤ 2147483647; omega, by show -2147483648 ≤ (k : Int) ∧ (k : Int) ≤ 2147483647; omega⟩ (by have := HL.out; simp only [List.length_nil, List.length_append, List.length_singleton] at this ⊢; omega) HB1.out.size ?_; intro A4 c4 w4 ho4 hg4 hv4)
          have HB4 := hid ((HB1.out.alloc HB1.out.size (.cells #[.int .i32 k, .int .i32 k] 56)).grown hg4 (by have := HB1.out.size; simp; omega) fun j e => (HR1.out.1.lt j e).1)
          exact ⟨⟨k + 1, _, by omega, by go_num, rfl, hid (show OwnR w4 w.heap.size _ _ by rw [HS.out]; unfold runStep; rw [if_pos HY.out]; exact ho4), HB4⟩, by simp [intOf]; omega⟩
        · rw [List.concat_eq_append] at HR1 HL HS
          obtain ⟨g, c1, e1, hgb, hgs⟩ := HR1.out.1.form (by simp)
          rw [show (i ++ [x]).length = i.length + 1 by simp] at e1
          subst e1
          have hil : i.length ≤ 600000 := by have := HL.out; simp only [List.length_append, List.length_singleton] at this; omega
          have hcl : w1.cell? ⟨g, i.length * 2 + 1, none⟩ = some (.int .i32 x.2) := by
            have h := HR1.out.1.cells rfl (i.length * 2 + 1) (.int .i32 x.2) (flatV_get _ i.length (pairR x) (by simp)).2
            simpa [Addr.add] using h
          have hfr : w1.frozen? ⟨g, i.length * 2 + 1, none⟩ = false := by
            have h := HR1.out.1
            rw [List.length_append, List.length_singleton] at h
            exact h.frozenAt _
          have HKB := hid (show (k : Int) ≤ 1114111 by omega)
          by_cases hx2 : x.2 = (k : Int) - 1
          · go_wp2_with fail
            have HX := hid hx2
            clear hx2 hcl hfr
            exact ⟨⟨k + 1, _, by omega, by go_num, rfl, hid (show OwnR _ w.heap.size _ _ by
              rw [HS.out]; unfold runStep; rw [if_pos HY.out, List.getLast?_append]
              simp only [List.getLast?_singleton, Option.some_or]
              rw [if_pos HX.out, List.dropLast_concat]
              exact HR1.out.setLast rfl (by have := HKB.out; omega)), hid (HB1.out.setCell (p := ⟨g, i.length * 2 + 1, none⟩) hgb _)⟩, by simp [intOf]; omega⟩
          · go_wp2_with (at_builtin; refine wpList_app_rng rfl (.tmp 40) (.tmp 44) rfl (w0 := w1) (y := ((k : Int), (k : Int))) rfl rfl HR1.out rfl ⟨by show -2147483648 ≤ (k : Int) ∧ (k : Int) ≤ 2147483647; omega, by show -2147483648 ≤ (k : Int) ∧ (k : Int) ≤ 2147483647; omega⟩ (by have := HL.out; simp only [List.length_nil, List.length_append, List.length_singleton] at this ⊢; omega) HB1.out.size ?_; intro A4 c4 w4 ho4 hg4 hv4)
            have HX := hid hx2
            clear hx2 hcl hfr
            have HB4 := hid ((HB1.out.alloc HB1.out.size (.cells #[.int .i32 k, .int .i32 k] 56)).grown hg4 (by have := HB1.out.size; simp; omega) fun j e => (HR1.out.1.lt j e).1)
            have HO4 := hid ho4
            clear ho4 hg4 hv4
            exact ⟨⟨k + 1, _, by omega, by go_num, rfl, hid (show OwnR w4 w.heap.size _ _ by
              rw [HS.out]; unfold runStep; rw [if_pos HY.out, List.getLast?_append]
              simp only [List.getLast?_singleton, Option.some_or]
              rw [if_neg HX.out]
              have h := HO4.out; rwa [List.length_append, List.length_singleton] at h), HB4⟩, by simp [intOf]; omega⟩
      · go_wp2_with fail
        exact ⟨⟨k + 1, _, by omega, by go_num, rfl, hid (show OwnR w1 w.heap.size _ _ by rw [show runsTo (fun r => decide (getB other es r = y)) (k + 1) = runsTo (fun r => decide (getB other es r = y)) k from by show runStep _ _ _ = _; unfold runStep; rw [if_neg (by simpa using hy)]]; exact HR1.out), HB1⟩, by simp [intOf]; omega⟩
    · obtain rfl : k = 1114112 := by omega
      go_wp2_with fail
      go_ret
      exact ⟨_, rfl, HR.out, HB.out⟩
end Go.Proofs.Ytehchnagjdmdgaa
