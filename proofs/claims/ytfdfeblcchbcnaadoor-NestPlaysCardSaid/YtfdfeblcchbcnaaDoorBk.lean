/- The statement NestBack walked. Condition: the table of blanks as it is laid. -/
import Derived.Test.YtfdfeblcchbcnaaDoorTg
namespace Go.Proofs.YtfdfeblcchbcnaaDoor
open Go.RowKit

/-- Take, of a nest that the call itself made: whatever it answers. -/
def TookB (g : Nat) (w0 : World) (s' : NS) (e : Ending) (w' : World) : Prop := (∃ f c, e = .returned (.tuple #[.bool f, .bool c])) ∧ IsNest w' g s' ∧ Below w0.heap.size w0 w'
theorem take_some (g : Nat) (w0 : World) (s : NS) (kind : Int) (name : ByteArray) (single : Bool) (w : World) (hg : w0.heap.size ≤ g) (hb : Below w0.heap.size w0 w) (hs : IsNest w g s) (ho : okN s) (hz : name.size ≤ 60) (ht : Tab w0) :
    Calls Tryd.prog 16 #[.pointer (some ⟨g, 0, none⟩), tokV kind 0 0 name 0 single] w (TookB g w0 (takeS s kind (valOf name.data.toList) single)) :=
  (take_own w0.heap.size g w0 s _ _ _ (valOf name.data.toList) kind 0 0 name 0 single w rfl hg hb hs ho rfl (by omega) ht rfl rfl rfl).mono fun _ _ ⟨h1, h2, h3⟩ => ⟨⟨_, _, h1⟩, h2, h3⟩

theorem tag_grown {w0 wr w4 : World} {b o k : Nat} {t : T3} (hb : b < w0.heap.size) (h1 : Below w0.heap.size w0 wr) (h2 : Below w0.heap.size w0 w4) (h : TagIn wr b o k t) : TagIn w4 b o k t := by
  have e : ∀ x : Nat, w4.cell? ⟨b, x, none⟩ = wr.cell? ⟨b, x, none⟩ := fun x => (cell_below h2 hb).trans (cell_below h1 hb).symm
  exact ⟨(e _).trans h.1, (e _).trans h.2.1, (e _).trans h.2.2⟩
set_option maxRecDepth 100000 in
set_option maxHeartbeats 4000000 in
theorem back_walk (A B : Option Addr) (cl cf : Nat) (l first : List T3) (w : World) (hl : TagsAt w A l) (hf : TagsAt w B first) (hlm : l.length ≤ 9223372036854775807) (hfm : first.length ≤ 9223372036854775807) (ht : Tab w) :
    Calls Tryd.prog 7 #[.slice A l.length cl, .slice B first.length cf] w fun e w' => e = .returned (.bool true) ∧ Below w.heap.size w w' := by
  have HT := hid ht
  have HL := hid hl
  have HF := hid hf
  clear ht hl hf
  by_cases h1 : 40 < l.length
  · go_enter Tryd.func7, Tryd.ntmps7
    go_wp2_with fail
    refine (nawake_any _ HT.out).mono ?_
    rintro e w1 ⟨rfl, hb1⟩
    go_wp2_with fail
    go_ret
    exact ⟨rfl, hb1⟩
  by_cases h2 : 40 < first.length
  · go_enter Tryd.func7, Tryd.ntmps7
    go_wp2_with fail
    refine (nawake_any _ HT.out).mono ?_
    rintro e w1 ⟨rfl, hb1⟩
    go_wp2_with fail
    go_ret
    exact ⟨rfl, hb1⟩
  have hl40 : l.length ≤ 40 := by omega
  have hf40 : first.length ≤ 40 := by omega
  clear hlm hfm
  go_enter Tryd.func7, Tryd.ntmps7
  go_wp2_with fail
  refine (nawake_any _ HT.out).mono ?_
  rintro e w1 ⟨rfl, hb1⟩
  have HB1 := hid hb1
  clear hb1
  go_wp2_with fail
  refine (new_any _).mono ?_
  rintro e w3 ⟨rfl, hw3⟩
  obtain ⟨g, hg⟩ : ∃ g, g = w1.heap.size := ⟨_, rfl⟩
  rw [← hg]
  have hwg : w.heap.size ≤ g := by rw [hg]; exact HB1.out.size
  have HN3 := hid (show IsNest w3 g ⟨0, 0, 0⟩ by rw [← hw3, hg]; exact heap_alloc_new _ _)
  have HB3 := hid (show Below w.heap.size w w3 by rw [← hw3]; exact HB1.out.alloc HB1.out.size _)
  clear hw3 hg HB1
  clear h1 h2
  go_wp2_with fail
  go_loopw [6] (fun s6 wr => ∃ (k : Nat) (s : NS), k ≤ first.length ∧ s6 = .int .i64 k ∧ Hid (IsNest wr g s ∧ okN s ∧ leN s k) ∧ Hid (Below w.heap.size w wr)) (fun s6 _ => first.length - (intOf s6).toNat)
  case atStart => exact ⟨0, ⟨0, 0, 0⟩, by omega, rfl, hid ⟨HN3.out, ok0, by unfold leN; simp⟩, HB3⟩
  case round =>
    obtain ⟨k, s, hk, rfl, HN, HB⟩ := hrel
    clear HN3 HB3
    by_cases hlt : k < first.length
    · obtain ⟨b, o, t, rfl, hbs, htk, ⟨c0, c1, c2⟩, hsz⟩ := HF.out.at HB.out hlt
      clear htk
      have hbz : b < wr.heap.size := by have := HB.out.size; omega
      by_cases hz : 60 < t.name.size
      · go_wp2_with fail
        go_ret
        exact ⟨rfl, HB.out⟩
      · have hzn := hid (show t.name.size ≤ 60 by omega)
        have H0 := hid (show TagIn wr b o k t from ⟨c0, c1, c2⟩)
        go_wp2_with fail
        go_region_held3 (fun Y => Y.cell? ⟨b, o + k * 3, none⟩ = some (.int .i64 t.kind) ∧ Y.cell? ⟨b, o + k * 3 + 1, none⟩ = some (.string t.name) ∧ Y.cell? ⟨b, o + k * 3 + 2, none⟩ = some (.bool t.single))
          (first | exact tag_grown hbs HB.out hn4.2 H0.out | exact H0.out)
          (first | (go_at_call 16; refine (take_some g w s t.kind t.name t.single _ hwg (by first | exact HB.out | exact Below.drew HB.out) (by exact HN.out.1) HN.out.2.1 hzn.out HT.out).mono ?_; rintro e w4 ⟨⟨f, c, rfl⟩, hn4⟩))
        all_goals
          have HN4 := hid (show IsNest w4 g (takeS s t.kind (valOf t.name.data.toList) t.single) ∧ okN (takeS s t.kind (valOf t.name.data.toList) t.single) ∧ leN (takeS s t.kind (valOf t.name.data.toList) t.single) ((k + 1 : Nat) : Int) from
            ⟨hn4.1, takeS_ok _ _ _ HN.out.2.1, by have h := takeS_le t.kind (valOf t.name.data.toList) t.single HN.out.2.2 (by omega); simpa using h⟩)
          have HB4 := hid hn4.2
          clear hn4
          go_wp2_with fail
          go_roundw
          case rel => exact ⟨k + 1, _, by omega, by go_num, HN4, HB4⟩
          case measure => simp [intOf]; omega
    · have hl40' := hid (show leN s 40 from by
        have h := HN.out.2.2
        exact ⟨by have := h.1; omega, by have := h.2.1; omega, by have := h.2.2; omega⟩)
      have HN5 := hid (show IsNest wr g (ups s (l.take 0)) from HN.out.1)
      have HO := hid HN.out.2.1
      go_wp2_with fail
      refine (hidden_any g s wr HN.out.1).mono ?_
      rintro e w4 ⟨rfl, rfl⟩
      go_wp2_with fail
      refine (pre_any g s wr HN.out.1).mono ?_
      rintro e w4 ⟨rfl, rfl⟩
      go_wp2_with fail
      refine (nobreak_any g s wr HN.out.1).mono ?_
      rintro e w4 ⟨rfl, rfl⟩
      clear HN hk hlt HF
      go_wp2_with fail
      go_loopw [10] (fun s10 wr => ∃ k : Nat, k ≤ l.length ∧ s10 = .int .i64 k ∧ Hid (IsNest wr g (ups s (l.take k)) ∧ ∀ i t, i < k → l[i]? = some t → t.name.size ≤ 60) ∧ Hid (Below w.heap.size w wr)) (fun s10 _ => l.length - (intOf s10).toNat)
      case atStart => exact ⟨0, by omega, rfl, hid ⟨HN5.out, fun i t hi => absurd hi (by omega)⟩, HB⟩
      case round =>
        obtain ⟨m, hm, rfl, HN, HBx⟩ := hrel
        clear HN5 HB
        by_cases hlt : m < l.length
        · obtain ⟨b, o, t, rfl, hbs, htk, ⟨c0, c1, c2⟩, hsz⟩ := HL.out.at HBx.out hlt
          have HTK := hid htk
          clear htk
          by_cases hz : 60 < t.name.size
          · go_wp2_with fail
            go_ret
            exact ⟨rfl, HBx.out⟩
          · have hzn := hid (show t.name.size ≤ 60 by omega)
            go_wp2_with fail
            refine (take_some g w _ 2 t.name false _ hwg HBx.out HN.out.1 (ups_ok HO.out _) hzn.out HT.out).mono ?_
            rintro e w4 ⟨⟨f, c, rfl⟩, hn4, hb4⟩
            have HN4 := hid (show IsNest w4 g (ups s (l.take (m + 1))) ∧ ∀ i t, i < m + 1 → l[i]? = some t → t.name.size ≤ 60 from ⟨by rw [ups_succ HTK.out]; exact hn4, fun i t' hi ht' => by
              by_cases e : i = m
              · subst e
                obtain rfl : t = t' := Option.some.inj (HTK.out.symm.trans ht')
                exact hzn.out
              · exact HN.out.2 i t' (by omega) ht'⟩)
            have HB4 := hid hb4
            clear hn4 hb4
            go_wp2_with fail
            go_roundw
            case rel => exact ⟨m + 1, by omega, by go_num, HN4, HB4⟩
            case measure => simp [intOf]; omega
        · obtain rfl : m = l.length := by omega
          clear hlt hm
          have HZ := hid (show ∀ t ∈ l, t.name.size ≤ 60 from fun t ht => by
            obtain ⟨i, hi⟩ := List.mem_iff_getElem?.1 ht
            exact HN.out.2 i t (List.getElem?_eq_some_iff.1 hi).1 hi)
          go_wp2_with fail
          go_loopw [11] (fun s11 wr => ∃ k : Nat, k ≤ l.length ∧ s11 = .int .i64 ((k : Int) - 1) ∧ Hid (IsNest wr g (ups s (l.take k))) ∧ Hid (Below w.heap.size w wr)) (fun s11 _ => (intOf s11 + 1).toNat)
          case atStart => exact ⟨l.length, by omega, rfl, hid HN.out.1, HBx⟩
          case round =>
            obtain ⟨k, hk, rfl, HN', HB'⟩ := hrel
            clear HN HBx
            by_cases hk0 : 0 < k
            · obtain ⟨j, rfl⟩ : ∃ j, k = j + 1 := ⟨k - 1, by omega⟩
              obtain ⟨b, o, t, rfl, hbs, htk, ⟨c0, c1, c2⟩, hsz⟩ := HL.out.at HB'.out (show j < l.length by omega)
              have HTK := hid htk
              have hzn := hid (HZ.out t (List.mem_of_getElem? htk))
              clear htk
              have ej : ((j + 1 : Nat) : Int) - 1 = (j : Int) := by omega
              rw [ej]
              go_wp2_with fail
              refine (take_some g w _ 3 t.name false _ hwg HB'.out HN'.out (ups_ok HO.out _) hzn.out HT.out).mono ?_
              rintro e w4 ⟨⟨f, c, rfl⟩, hn4, hb4⟩
              have HN4 := hid (show IsNest w4 g (ups s (l.take j)) by rw [← down_one HTK.out HO.out hl40'.out hl40]; exact hn4)
              have HB4 := hid hb4
              clear hn4 hb4
              go_wp2_with fail
              go_roundw
              case rel => exact ⟨j, by omega, by go_num, HN4, HB4⟩
              case measure => simp [intOf] <;> omega
            · obtain rfl : k = 0 := by omega
              have HN6 := hid (show IsNest wr g s from HN'.out)
              clear HN' hk0 hk
              go_wp2_with fail
              refine (hidden_any g s wr HN6.out).mono ?_
              rintro e w4 ⟨rfl, rfl⟩
              go_wp2_with fail
              refine (pre_any g s wr HN6.out).mono ?_
              rintro e w4 ⟨rfl, rfl⟩
              go_wp2_with fail
              refine (nobreak_any g s wr HN6.out).mono ?_
              rintro e w4 ⟨rfl, rfl⟩
              go_wp2_with fail
              go_ret
              exact ⟨rfl, HB'.out⟩
end Go.Proofs.YtfdfeblcchbcnaaDoor
