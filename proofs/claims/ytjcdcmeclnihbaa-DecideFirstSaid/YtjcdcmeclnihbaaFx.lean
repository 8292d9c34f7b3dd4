/- The law DecideFirst: the walk. Condition: none. -/
import Derived.Test.YtjcdcmeclnihbaaHi
import Derived.Test.YtjcdcmeclnihbaaFo
import Derived.Deep.CutRange
namespace Go.Proofs.Ytjcdcmeclnihbaa
open Go.RowKit
set_option linter.unusedSimpArgs false
theorem fhid_len (ig kp ids : List Int) : (hidL ig kp (ids.map classOf)).length = ids.length := by simp [hidL]
theorem fbr_len {d : Nat} (t : Tx d) (ids : List Int) : (breaksP t ids).length = ids.length + 1 := by simp [breaksP, brL]
theorem tx_rules {w : World} {S : Nat → Prop} {d B T n8 : Nat} {iv kv rv : Value} {t : Tx d} {A8 : Option Addr} {c8 : Nat} {l : List (Rl d)} (h : IsTx w S d (.agg #[iv, kv, rv]) t) (ho : OwnRl w B T d (.slice A8 n8 c8) l) (hn : n8 = l.length) :
    IsTx w Any d (.agg #[iv, kv, .slice A8 n8 c8]) (⟨t.ig, t.kp, l⟩ : Tx d) := by
  obtain ⟨iv', kv', A, c, e, h1, h2, -⟩ := h
  simp only [Value.agg.injEq, Array.mk.injEq, List.cons.injEq, and_true] at e
  obtain ⟨rfl, rfl, -⟩ := e
  obtain ⟨A', c', e2, h3, h4, h5⟩ := ho.rows
  simp only [Value.slice.injEq] at e2
  obtain ⟨rfl, rfl, rfl⟩ := e2
  exact ⟨_, _, _, _, rfl, h1.mono fun _ _ _ => trivial, h2.mono fun _ _ _ => trivial, h3, h4, h5⟩
/-- The worlds that region 9 comes by. -/
theorem first_a {W8 : World} {N1 p d : Nat} {br : Bool} {t : Tx (d + 1)} {A3 : Option Addr} {xs : List Value} (hN : N1 = W8.heap.size) (hx : Arr W8 (fun b => b < p) A3 xs) (hl : Laid7 W8 (fun b => b < p) (d + 1) xs t.rs) :
    (Below N1 W8 (W8.drew.alloc (.cells #[] 47)) ∧ OwnRl (W8.drew.alloc (.cells #[] 47)) N1 p (d + 1) (.slice (some ⟨W8.heap.size, 0, none⟩) 0 0) [] ∧ Src (W8.drew.alloc (.cells #[] 47)) 7 A3 t.rs.length xs ∧ Laid7 (W8.drew.alloc (.cells #[] 47)) (fun b => b < p) (d + 1) xs t.rs ∧ N1 ≤ (W8.drew.alloc (.cells #[] 47)).heap.size) ∧
    (Below N1 W8 (W8.drew.alloc (.cells #[.int .i64 9, .int .i64 0, .slice none 0 0, .int .i64 9, .int .i64 0, .slice none 0 0, .bool br] 47)) ∧ True) ∧
    (Below N1 W8 ((W8.drew.alloc (.cells #[] 47)).alloc (.cells #[.int .i64 9, .int .i64 0, .slice none 0 0, .int .i64 9, .int .i64 0, .slice none 0 0, .bool br] 47)) ∧ OwnRl ((W8.drew.alloc (.cells #[] 47)).alloc (.cells #[.int .i64 9, .int .i64 0, .slice none 0 0, .int .i64 9, .int .i64 0, .slice none 0 0, .bool br] 47)) N1 p (d + 1) (.slice (some ⟨W8.heap.size, 0, none⟩) 0 0) [] ∧ Src ((W8.drew.alloc (.cells #[] 47)).alloc (.cells #[.int .i64 9, .int .i64 0, .slice none 0 0, .int .i64 9, .int .i64 0, .slice none 0 0, .bool br] 47)) 7 A3 t.rs.length xs ∧ Laid7 ((W8.drew.alloc (.cells #[] 47)).alloc (.cells #[.int .i64 9, .int .i64 0, .slice none 0 0, .int .i64 9, .int .i64 0, .slice none 0 0, .bool br] 47)) (fun b => b < p) (d + 1) xs t.rs ∧ N1 ≤ ((W8.drew.alloc (.cells #[] 47)).alloc (.cells #[.int .i64 9, .int .i64 0, .slice none 0 0, .int .i64 9, .int .i64 0, .slice none 0 0, .bool br] 47)).heap.size ∧
      ∀ Y, ((W8.drew.alloc (.cells #[] 47)).alloc (.cells #[.int .i64 9, .int .i64 0, .slice none 0 0, .int .i64 9, .int .i64 0, .slice none 0 0, .bool br] 47)).grownBy Y (some W8.heap.size) → Src Y 7 (some ⟨W8.heap.size + 1, 0, none⟩) 1 [.int .i64 9, .int .i64 0, .slice none 0 0, .int .i64 9, .int .i64 0, .slice none 0 0, .bool br]) ∧
    (Below N1 W8 ((W8.drew.alloc (.cells #[.int .i64 9, .int .i64 0, .slice none 0 0, .int .i64 9, .int .i64 0, .slice none 0 0, .bool br] 47)).alloc (.cells #[] 47)) ∧ OwnRl ((W8.drew.alloc (.cells #[.int .i64 9, .int .i64 0, .slice none 0 0, .int .i64 9, .int .i64 0, .slice none 0 0, .bool br] 47)).alloc (.cells #[] 47)) N1 p (d + 1) (.slice (some ⟨W8.heap.size + 1, 0, none⟩) 0 0) [] ∧ Src ((W8.drew.alloc (.cells #[.int .i64 9, .int .i64 0, .slice none 0 0, .int .i64 9, .int .i64 0, .slice none 0 0, .bool br] 47)).alloc (.cells #[] 47)) 7 A3 t.rs.length xs ∧ Laid7 ((W8.drew.alloc (.cells #[.int .i64 9, .int .i64 0, .slice none 0 0, .int .i64 9, .int .i64 0, .slice none 0 0, .bool br] 47)).alloc (.cells #[] 47)) (fun b => b < p) (d + 1) xs t.rs ∧ N1 ≤ ((W8.drew.alloc (.cells #[.int .i64 9, .int .i64 0, .slice none 0 0, .int .i64 9, .int .i64 0, .slice none 0 0, .bool br] 47)).alloc (.cells #[] 47)).heap.size ∧
      ∀ Y, ((W8.drew.alloc (.cells #[.int .i64 9, .int .i64 0, .slice none 0 0, .int .i64 9, .int .i64 0, .slice none 0 0, .bool br] 47)).alloc (.cells #[] 47)).grownBy Y (some (W8.heap.size + 1)) → Src Y 7 (some ⟨W8.heap.size, 0, none⟩) 1 [.int .i64 9, .int .i64 0, .slice none 0 0, .int .i64 9, .int .i64 0, .slice none 0 0, .bool br]) := by
  have b0 : ∀ o, Below W8.heap.size W8 (W8.drew.alloc o) := fun o => (Below.refl _ _).drew.alloc (Nat.le_refl _) _
  have b1 : ∀ o o', Below W8.heap.size W8 ((W8.drew.alloc o).alloc o') := fun o o' => (b0 o).alloc (b0 o).size _
  have hl7 : xs.length = t.rs.length * 7 := hl.1
  have hs : ∀ Y, Below W8.heap.size W8 Y → Src Y 7 A3 t.rs.length xs := fun Y hY => (hx.below hY).src hl7 (by omega)
  have hy : ∀ Y, Below W8.heap.size W8 Y → Laid7 Y (fun b => b < p) (d + 1) xs t.rs := fun Y hY => hl.imp (fun b _ hlt => hY.block b hlt) fun _ h _ => h
  have ho : ∀ (Y : World) g, W8.heap.size ≤ g → Y.heap[g]? = some (.cells #[] 47 (0, 0)) → OwnRl Y W8.heap.size p (d + 1) (.slice (some ⟨g, 0, none⟩) 0 0) [] := fun Y g hg hh =>
    ⟨[], ⟨rfl, .inr ⟨g, 0, #[], rfl, hg, hh, Nat.le_refl _, Nat.zero_le _, rfl, rfl⟩⟩, rfl, fun k r hr => by simp at hr⟩
  have hz : ∀ o, (W8.drew.alloc o).heap.size = W8.heap.size + 1 := fun o => by simp
  have hn : ∀ o, (W8.drew.alloc o).heap[W8.heap.size]? = some o := fun o => heap_alloc_new W8.drew o
  have hn2 : ∀ o o', ((W8.drew.alloc o).alloc o').heap[W8.heap.size + 1]? = some o' := fun o o' => by have := heap_alloc_new (W8.drew.alloc o) o'; rw [hz] at this; exact this
  have hn1 : ∀ o o', ((W8.drew.alloc o).alloc o').heap[W8.heap.size]? = some o := fun o o' => (heap_alloc_old _ _ (by rw [hz]; omega)).trans (hn o)
  have hsr : ∀ (Y : World) g, Y.heap[g]? = some (.cells #[.int .i64 9, .int .i64 0, .slice none 0 0, .int .i64 9, .int .i64 0, .slice none 0 0, .bool br] 47 (0, 0)) → Src Y 7 (some ⟨g, 0, none⟩) 1 [.int .i64 9, .int .i64 0, .slice none 0 0, .int .i64 9, .int .i64 0, .slice none 0 0, .bool br] := fun Y g hb => ⟨rfl, fun _ => ⟨_, rfl, fun j u hu => by
    rw [Addr.add_lit, Nat.zero_add, cell_of_row _ _ j _ _ _ hb, ← Array.getElem?_toList]; exact hu⟩⟩
  subst hN
  refine ⟨⟨b0 _, ho _ _ (Nat.le_refl _) (hn _), hs _ (b0 _), hy _ (b0 _), (b0 _).size⟩, ⟨b0 _, trivial⟩, ⟨b1 _ _, ho _ _ (Nat.le_refl _) (hn1 _ _), hs _ (b1 _ _), hy _ (b1 _ _), (b1 _ _).size, fun Y hY => hsr _ _ ?_⟩, ⟨b1 _ _, ho _ _ (by omega) (hn2 _ _), hs _ (b1 _ _), hy _ (b1 _ _), (b1 _ _).size, fun Y hY => hsr _ _ ?_⟩⟩
  · exact (hY.block _ (by simp) (by simp)).trans (hn2 _ _)
  · exact (hY.block _ (by simp; omega) (by simp)).trans (hn1 _ _)
set_option maxRecDepth 100000 in
set_option maxHeartbeats 8000000 in
theorem first_walk (d : Nat) (v lv : Value) (t : Tx (d + 1)) (ids : List Int) (br : Bool) (w : World) (h : IsTx w Any (d + 1) v t) (hl : IsNums .i64 w Any lv ids) :
    Calls Try.prog 7 #[v, lv, .bool br] w fun e w' => e = .returned (.bool true) ∧ Below w.heap.size w w' := by
  obtain ⟨I, ic, K, kc, A, c, rfl, -, -, -, -, hrs9, -⟩ := h.open
  have H := hid h
  clear h
  obtain ⟨M, cm, rfl⟩ := hl.form
  have hle := hl.le
  have HMw := hid hl
  clear hl
  obtain ⟨q, hq⟩ : ∃ q, q = w.heap.size := ⟨_, rfl⟩
  obtain ⟨W, hW0⟩ : ∃ W, W = w.alloc (.cells #[.slice I t.ig.length ic, .slice K t.kp.length kc, .slice A t.rs.length c] 25) := ⟨_, rfl⟩
  have HX := hid (box3 hW0)
  have HWw := hid HX.out.1
  have HT := hid (H.out.below HWw.out)
  have HM := hid (HMw.out.below HWw.out)
  rw [← hq] at HX
  clear H HMw
  cases hg : greatX t with
  | true =>
    have HG := hid hg
    clear hg
    go_enter Try.func7, Try.ntmps7
    go_wp2_with fail
    rw [← hW0]
    refine (great_any (d + 1) _ t W HT.out).mono ?_
    rintro e w1 ⟨rfl, hb1⟩
    rw [HG.out]
    go_wp2_with fail
    refine (awake_any w1).mono ?_
    rintro e w2 ⟨rfl, hb2⟩
    go_wp2_with fail
    go_ret
    exact ⟨rfl, HWw.out.trans ((hb1.trans (hb2.mono hb1.size)).mono HWw.out.size)⟩
  | false =>
    have HG := hid hg
    obtain ⟨hn45, hcnt⟩ := great_no hg
    have HSM := hid (show t.rs.length ≤ 1000 ∧ ∀ r ∈ t.rs, cnt (d + 1) r.L ≤ 2000 ∧ cnt (d + 1) r.R ≤ 2000 from ⟨by omega, fun r hr => by have := hcnt r hr; omega⟩)
    have HSM2 := hid (show SmallT t from HSM.out.2)
    clear hg hn45 hcnt
    by_cases h60 : (14 : Int) < ids.length
    · have b60 := ilt_true h60
      clear h60
      go_enter Try.func7, Try.ntmps7
      go_wp2_with fail
      rw [← hW0]
      refine (great_any (d + 1) _ t W HT.out).mono ?_
      rintro e w1 ⟨rfl, hb1⟩
      rw [HG.out]
      go_wp2_with fail
      refine (awake_any w1).mono ?_
      rintro e w2 ⟨rfl, hb2⟩
      go_wp2_with fail
      go_ret
      exact ⟨rfl, HWw.out.trans ((hb1.trans (hb2.mono hb1.size)).mono HWw.out.size)⟩
    · have b60 := ilt_false h60
      have hn60 : ids.length ≤ 14 := by omega
      clear h60
      by_cases h30 : (30 : Int) < t.rs.length
      · have b30 := ilt_true h30
        clear h30
        go_enter Try.func7, Try.ntmps7
        go_wp2_with fail
        rw [← hW0]
        refine (great_any (d + 1) _ t W HT.out).mono ?_
        rintro e w1 ⟨rfl, hb1⟩
        rw [HG.out, ← hq]
        obtain ⟨h0, h1, h2⟩ := HX.out.2 _ hb1
        clear hq hW0
        go_wp2_with fail
        refine (awake_any w1).mono ?_
        rintro e w2 ⟨rfl, hb2⟩
        go_wp2_with fail
        go_ret
        exact ⟨rfl, HWw.out.trans ((hb1.trans (hb2.mono hb1.size)).mono HWw.out.size)⟩
      · have b30 := ilt_false h30
        have hn30 : t.rs.length ≤ 30 := by omega
        clear h30
        go_enter Try.func7, Try.ntmps7
        go_wp2_with fail
        rw [← hW0]
        refine (great_any (d + 1) _ t W HT.out).mono ?_
        rintro e w1 ⟨rfl, hb1⟩
        rw [HG.out, ← hq]
        obtain ⟨h0, h1, h2⟩ := HX.out.2 _ hb1
        clear hq hW0
        go_wp2_with fail
        refine (awake_any w1).mono ?_
        rintro e w2 ⟨rfl, hb2⟩
        have HB2 := hid (hb1.trans (hb2.mono hb1.size))
        clear h0 h1 h2
        obtain ⟨h0, h1, h2⟩ := HX.out.2 _ HB2.out
        clear hb1 hb2
        go_wp2_with fail
        refine (totext_any (d + 1) _ t _ (HT.out.below HB2.out) HSM.out.2 HSM.out.1).mono ?_
        rintro e w3 ⟨v3, rfl, ht3, hb3⟩
        have HB3 := hid (HB2.out.trans (hb3.mono HB2.out.size))
        have HT3 := hid ht3
        obtain ⟨I3, ic3, K3, kc3, A3, c3, rfl, -, -, -, -, -, hR3⟩ := ht3.open
        have HR3 := hid hR3
        clear hb3 ht3 h0 h1 h2 hR3
        obtain ⟨p, hp⟩ : ∃ p, p = w3.heap.size := ⟨_, rfl⟩
        obtain ⟨W3, hW3⟩ : ∃ W, W = w3.alloc (.cells #[.slice I3 t.ig.length ic3, .slice K3 t.kp.length kc3, .slice A3 t.rs.length c3] 33) := ⟨_, rfl⟩
        have HX3 := hid (box3 hW3)
        rw [← hp] at HX3
        obtain ⟨h0, h1, h2⟩ := HX3.out.2 _ (Below.refl _ _)
        rw [hW3] at h0 h1 h2
        have HP := hid hp
        have HPW := hid (show W3.heap[p]? = some (.cells #[.slice I3 t.ig.length ic3, .slice K3 t.kp.length kc3, .slice A3 t.rs.length c3] 33 (0, 0)) by rw [hW3, hp]; exact heap_alloc_new _ _)
        have HB3' := hid (show Below W.heap.size W W3 from HB3.out.trans (by rw [hp] at HX3; exact HX3.out.1.mono HB3.out.size))
        have HT3' := hid (show IsTx W3 Any (d + 1) _ t from HT3.out.below (by rw [hp] at HX3; exact HX3.out.1))
        have HR3' := hid (HR3.out.below (by rw [hp] at HX3; exact HX3.out.1))
        go_wp2_with fail
        rw [← hW3]
        clear hW3 h0 h1 h2
        refine (txRight_any Any (d + 1) _ t _ HT3'.out).mono ?_
        rintro e w4 ⟨rfl, hb4⟩
        have HB4 := hid (HB3'.out.trans (hb4.mono HB3'.out.size))
        cases hr : txB t with
        | false =>
          clear hr
          rw [← hp]
          go_wp2_with fail
          go_ret
          exact ⟨rfl, HWw.out.trans (HB4.out.mono HWw.out.size)⟩
        | true =>
          have HRT := hid hr
          have HB34 := hid hb4
          have HTW4 := hid (HT3'.out.below hb4)
          have HR4 := hid (HR3'.out.below hb4)
          have HX4 := hid (HX3.out.2 _ hb4)
          have HPL := hid (show p < w4.heap.size by have h1 := block_lt_of_cell HX4.out.1; exact h1)
          have HP4 := hid (show w4.heap[p]? = some (.cells #[.slice I3 t.ig.length ic3, .slice K3 t.kp.length kc3, .slice A3 t.rs.length c3] 33 (0, 0)) from (hb4.block p (by have h1 := HX3.out.2 _ (Below.refl _ _); exact block_lt_of_cell h1.1)).trans HPW.out)
          rw [← hp]
          clear hr hb4 hp
          obtain ⟨g8, hg8⟩ : ∃ g, g = w4.heap.size := ⟨_, rfl⟩
          obtain ⟨W5, hW5⟩ : ∃ W, W = w4.alloc (.cells #[.int .i64 9, .int .i64 0, .slice none 0 0, .int .i64 9, .int .i64 0, .slice none 0 0, .bool br] 47) := ⟨_, rfl⟩
          have HX5 := hid (box7 hW5)
          go_upto_region 7 with fail
          rw [← hW5, ← hg8]
          rw [← hg8] at HX5
          have HG8 := hid hg8
          clear hW5 hg8
          have HB5 := hid (HB4.out.trans ((show Below w4.heap.size w4 W5 by rw [← HG8.out]; exact HX5.out.1).mono HB4.out.size))
          have HP5 := hid ((HX5.out.1.block p (by rw [HG8.out]; exact HPL.out)).trans HP4.out)
          go_cut [9, 10] from 16 (fun s9 s10 wc => ∃ gy gz, s9 = .pointer (some ⟨gy, 0, none⟩) ∧ s10 = .pointer (some ⟨gz, 0, none⟩) ∧ gy ≠ gz ∧ W5.heap.size ≤ gy ∧ W5.heap.size ≤ gz ∧ wc.heap[gy]? = some (.cells #[.slice I3 t.ig.length ic3, .slice K3 t.kp.length kc3, .slice A3 t.rs.length c3] 33 (0, 0)) ∧
            wc.heap[gz]? = some (.cells #[.slice I3 t.ig.length ic3, .slice K3 t.kp.length kc3, .slice A3 t.rs.length c3] 33 (0, 0)) ∧ Below W5.heap.size W5 wc)
          case first =>
            obtain ⟨h0, h1, h2, -⟩ := slot3 HP5.out
            have hz5 : p < W5.heap.size := (Array.getElem?_eq_some_iff.1 HP5.out).1
            have hA1 := heap_alloc_new W5 (.cells #[.slice I3 t.ig.length ic3, .slice K3 t.kp.length kc3, .slice A3 t.rs.length c3] 33)
            obtain ⟨Wa, hWa⟩ : ∃ W, W = W5.alloc (.cells #[.slice I3 t.ig.length ic3, .slice K3 t.kp.length kc3, .slice A3 t.rs.length c3] 33) := ⟨_, rfl⟩
            rw [← hWa] at hA1
            have hs1 : Wa.heap.size = W5.heap.size + 1 := by rw [hWa]; simp
            have hA2 := heap_alloc_new Wa (.cells #[.slice I3 t.ig.length ic3, .slice K3 t.kp.length kc3, .slice A3 t.rs.length c3] 33)
            have hA3 : (Wa.alloc (.cells #[.slice I3 t.ig.length ic3, .slice K3 t.kp.length kc3, .slice A3 t.rs.length c3] 33)).heap[W5.heap.size]? = some (.cells #[.slice I3 t.ig.length ic3, .slice K3 t.kp.length kc3, .slice A3 t.rs.length c3] 33 (0, 0)) := (heap_alloc_old _ _ (by omega)).trans hA1
            rw [hs1] at hA2
            have hBB : Below W5.heap.size W5 (Wa.alloc (.cells #[.slice I3 t.ig.length ic3, .slice K3 t.kp.length kc3, .slice A3 t.rs.length c3] 33)) := (show Below W5.heap.size W5 Wa by rw [hWa]; exact (Below.refl _ _).alloc (Nat.le_refl _) _).alloc (by omega) _
            rw [hWa] at hA2 hA3 hBB
            have HA2 := hid hA2
            have HA3 := hid hA3
            have HBB := hid hBB
            clear hA1 hA2 hA3 hBB hs1 hWa
            go_region
            all_goals
              go_wp2_with fail
              go_meet
              first
              | exact ⟨_, _, rfl, rfl, by simp, by simp, by simp, HA3.out, HA2.out, HBB.out.drew⟩
              | exact ⟨_, _, rfl, rfl, by simp, by simp, by simp, HA2.out, HA3.out, HBB.out.drew⟩
          case rest =>
            obtain ⟨gy, gz, rfl, rfl, hyz, hy, hz, hgy, hgz, hbc⟩ := hcut
            have HGY := hid hgy
            have HGZ := hid hgz
            have HBC := hid hbc
            have HYZ := hid (And.intro hyz (And.intro hy hz))
            have HBc := hid (HB5.out.trans (hbc.mono HB5.out.size))
            have HPC := hid ((hbc.block p (Array.getElem?_eq_some_iff.1 HP5.out).1).trans HP5.out)
            have HPG := hid (show p < W5.heap.size ∧ g8 < W5.heap.size from ⟨(Array.getElem?_eq_some_iff.1 HP5.out).1, by obtain ⟨e0, -⟩ := HX5.out.2 _ (Below.refl _ _); exact block_lt_of_cell e0⟩)
            have HTP := hid (show Row7 wc (fun b => b < p) (d + 1) A3 t.rs from HR3.out.imp (fun b _ hlt => by
              have h1 := (HX3.out.1.block b (by rw [HP.out]; exact hlt))
              have h2 : b < W3.heap.size := Nat.lt_of_lt_of_le hlt (by rw [HP.out] at HX3; exact HX3.out.1.size)
              have h3 := HB34.out.block b h2
              have h4 : b < w4.heap.size := Nat.lt_of_lt_of_le h2 HB34.out.size
              have h5 := HX5.out.1.block b (by rw [HG8.out]; exact h4)
              exact (HBC.out.block b (by have := HPG.out.1; rw [HP.out] at this; omega)).trans (h5.trans (h3.trans h1))) fun b _ hlt => by rw [HP.out]; exact hlt)
            clear hyz hy hz hgy hgz hbc
            obtain ⟨xs, hxs, hlx⟩ := HTP.out.laid
            have HXS := hid hxs
            have HLX := hid hlx
            clear hxs hlx
            obtain ⟨N0, hN0⟩ : ∃ N, N = wc.heap.size := ⟨_, rfl⟩
            obtain ⟨Wd, hWd⟩ : ∃ W, W = wc.alloc (.cells #[.int .i64 9, .int .i64 0, .slice none 0 0, .int .i64 9, .int .i64 0, .slice none 0 0, .bool br] 47) := ⟨_, rfl⟩
            have HBd := hid (show Below N0 wc Wd by rw [hWd, hN0]; exact (Below.refl _ _).alloc (Nat.le_refl _) _)
            have HOd := hid (show OwnRl Wd N0 p (d + 1) (.slice (some ⟨N0, 0, none⟩) 1 1) [always d br] by rw [hWd, hN0]; exact always_own wc p d br)
            have HN0 := hid hN0
            have HXd := hid (HXS.out.below (by rw [← HN0.out]; exact HBd.out))
            have HLd := hid (HLX.out.imp (w' := Wd) (fun b _ hlt => HBd.out.block b (by rw [HN0.out]; exact hlt)) fun _ h _ => h)
            obtain ⟨a0, a1, a2, a3, a4, a5, a6⟩ := HX5.out.2 _ HBC.out
            have HPd := hid ((HBd.out.block p (by rw [HN0.out]; exact (Array.getElem?_eq_some_iff.1 HPC.out).1)).trans HPC.out)
            obtain ⟨-, -, h2, -⟩ := slot3 HPd.out
            have hpN : p ≤ N0 := by rw [hN0]; exact Nat.le_of_lt (Array.getElem?_eq_some_iff.1 HPC.out).1
            have hNd : N0 ≤ Wd.heap.size := by have h1 := HBd.out.size; rw [hN0]; exact h1
            have hxl : xs.length = t.rs.length * 7 := HLX.out.1
            have HGYd := hid ((HBd.out.block gy (by rw [HN0.out]; exact (Array.getElem?_eq_some_iff.1 HGY.out).1)).trans HGY.out)
            have HGYN := hid (show gy < N0 by rw [hN0]; exact (Array.getElem?_eq_some_iff.1 HGY.out).1)
            have HXL := hid hxl
            have HGZN := hid (show gz < N0 by rw [hN0]; exact (Array.getElem?_eq_some_iff.1 HGZ.out).1)
            have HNEy := hid (show some gy ≠ (Value.slice (some ⟨N0, 0, none⟩) 1 1).ownBlock from fun e => by have h1 := HGYN.out; simp [Value.ownBlock] at e; omega)
            have HNEz := hid (show some gz ≠ (Value.slice (some ⟨N0, 0, none⟩) 1 1).ownBlock from fun e => by have h1 := HGZN.out; simp [Value.ownBlock] at e; omega)
            rw [hWd] at h2
            clear hxl hN0
            go_wp2_with (first
              | (at_builtin; (refine wpList_plain rfl fun _ hKK => ?_); rw [← hWd, ← HN0.out]; (refine wp_app_rls (.tmp 46) (.tmp 48) rfl (A := A3) (c := c3) (n := t.rs.length) (ys := xs) (m := t.rs) rfl HOd.out rfl rfl (HXd.out.src HXL.out (by omega)) HLd.out (by simp; omega) hNd hpN ?_); intro v' w' hown hgrow hge; refine hKK _ _ ?_; obtain ⟨A8, c8, e8, -⟩ := hown.rows; obtain ⟨n8, hn8⟩ : ∃ n, n = ([always d br] ++ t.rs).length := ⟨_, rfl⟩; rw [← hn8] at e8; subst e8; have HN8 := hid hn8; have HOW := hid hown; have HGW := hid hgrow; have HGYw := hid ((hgrow.block gy (by have h1 := HGYN.out; omega) HNEy.out).trans HGYd.out); have HBw := hid (((HBC.out.trans (HBd.out.mono (by rw [HN0.out]; exact HBC.out.size))).grown hgrow (Nat.le_trans (show W5.heap.size ≤ N0 by rw [HN0.out]; exact HBC.out.size) hNd) (fun k hk => Nat.le_trans (show W5.heap.size ≤ N0 by rw [HN0.out]; exact HBC.out.size) (hge k hk)))); obtain ⟨k0, k1, k2, hf⟩ := slot3 HGYw.out; have hf2 := hf 2; clear hf hn8 hown hgrow hge)
              | fail)
            obtain ⟨W8, hW8⟩ : ∃ W, W = w'.setCell ⟨gy, 2, none⟩ (.slice A8 n8 c8) := ⟨_, rfl⟩
            have HGY8 := hid (show W8.heap[gy]? = some (.cells #[.slice I3 t.ig.length ic3, .slice K3 t.kp.length kc3, .slice A8 n8 c8] 33 (0, 0)) by rw [hW8]; exact heap_setCell_same _ gy 2 _ 33 _ HGYw.out)
            have hoth : ∀ b, b ≠ gy → W8.heap[b]? = w'.heap[b]? := fun b hb => by rw [hW8]; exact heap_setCell_other _ _ _ _ hb
            have HO8 := hid (HOW.out.keep (w' := W8) (fun b hb _ => hoth b (by have h1 := HPG.out.1; have h2 := HYZ.out.2.1; omega)) fun b hb _ => hoth b (by have h1 := HGYN.out; omega))
            have HB8 := hid (show Below W5.heap.size W5 W8 by rw [hW8]; exact HBw.out.setCell (p := ⟨gy, 2, none⟩) HYZ.out.2.1 _)
            have HGZ8 := hid ((hoth gz (Ne.symm HYZ.out.1)).trans ((HGW.out.block gz (by have h1 := HGZN.out; omega) HNEz.out).trans ((HBd.out.block gz HGZN.out).trans HGZ.out)))
            rw [← hW8]
            clear hW8 hoth k0 k1 k2 hf2 h2 a0 a1 a2 a3 a4 a5 a6 hWd
            have HP8 := hid ((HB8.out.block p HPG.out.1).trans HP5.out)
            have HXE := hid (HXS.out.keep (w' := W8) fun b hb hlt => by
              have h1 := HB8.out.block b (Nat.lt_trans hb HPG.out.1)
              have h2 := HBC.out.block b (Nat.lt_trans hb HPG.out.1)
              exact h1.trans h2.symm)
            have HLE8 := hid (HLX.out.imp (w' := W8) (fun b hb hlt => by
              have h1 := HB8.out.block b (Nat.lt_trans hb HPG.out.1)
              have h2 := HBC.out.block b (Nat.lt_trans hb HPG.out.1)
              exact h1.trans h2.symm) fun _ h _ => h)
            obtain ⟨N1, hN1⟩ : ∃ N, N = W8.heap.size := ⟨_, rfl⟩
            have HN1 := hid hN1
            have HS9 := hid (show ∀ Y, Below N1 W8 Y → Y.cell? ⟨p, 2, none⟩ = some (.slice A3 t.rs.length c3) ∧ Y.cell? ⟨g8, 0, none⟩ = some (.int .i64 9) ∧ Y.cell? ⟨g8, 1, none⟩ = some (.int .i64 0) ∧ Y.cell? ⟨g8, 2, none⟩ = some (.slice none 0 0) ∧ Y.cell? ⟨g8, 3, none⟩ = some (.int .i64 9) ∧ Y.cell? ⟨g8, 4, none⟩ = some (.int .i64 0) ∧ Y.cell? ⟨g8, 5, none⟩ = some (.slice none 0 0) ∧ Y.cell? ⟨g8, 6, none⟩ = some (.bool br) from fun Y hY =>
              ⟨(slot3 ((hY.block p (by rw [hN1]; exact (Array.getElem?_eq_some_iff.1 HP8.out).1)).trans HP8.out)).2.2.1, HX5.out.2 _ (HB8.out.trans (hY.mono (by rw [hN1]; exact HB8.out.size)))⟩)
            clear hN1 hpN hNd
            go_cut [10] from 16 (fun s10 wc2 => s10 = .pointer (some ⟨gz, 0, none⟩) ∧ ∃ Az nz cz, nz = (t.rs ++ [always d br]).length ∧ wc2.heap[gz]? = some (.cells #[.slice I3 t.ig.length ic3, .slice K3 t.kp.length kc3, .slice Az nz cz] 33 (0, 0)) ∧ OwnRl wc2 N1 p (d + 1) (.slice Az nz cz) (t.rs ++ [always d br]) ∧ W8.grownBy wc2 (some gz))
            case first =>
              have hG1 : gz < N1 := by rw [HN1.out]; exact (Array.getElem?_eq_some_iff.1 HGZ8.out).1
              have HGZ1 := hid hG1
              have hpz : p ≠ gz := by have h1 := HPG.out.1; have h2 := HYZ.out.2.2; omega
              have h8z : g8 ≠ gz := by have h1 := HPG.out.2; have h2 := HYZ.out.2.2; omega
              have HSE := hid (show ∀ Y u, Below N1 W8 Y → (Y.setCell ⟨gz, 2, none⟩ u).cell? ⟨p, 2, none⟩ = some (.slice A3 t.rs.length c3) ∧ (Y.setCell ⟨gz, 2, none⟩ u).cell? ⟨g8, 0, none⟩ = some (.int .i64 9) ∧ (Y.setCell ⟨gz, 2, none⟩ u).cell? ⟨g8, 1, none⟩ = some (.int .i64 0) ∧ (Y.setCell ⟨gz, 2, none⟩ u).cell? ⟨g8, 2, none⟩ = some (.slice none 0 0) ∧ (Y.setCell ⟨gz, 2, none⟩ u).cell? ⟨g8, 3, none⟩ = some (.int .i64 9) ∧ (Y.setCell ⟨gz, 2, none⟩ u).cell? ⟨g8, 4, none⟩ = some (.int .i64 0) ∧ (Y.setCell ⟨gz, 2, none⟩ u).cell? ⟨g8, 5, none⟩ = some (.slice none 0 0) ∧ (Y.setCell ⟨gz, 2, none⟩ u).cell? ⟨g8, 6, none⟩ = some (.bool br) from fun Y u hY => by
                obtain ⟨b0, b1, b2, b3, b4, b5, b6, b7⟩ := HS9.out Y hY
                exact ⟨(cell_set_other (.inl hpz)).trans b0, (cell_set_other (.inl h8z)).trans b1, (cell_set_other (.inl h8z)).trans b2, (cell_set_other (.inl h8z)).trans b3, (cell_set_other (.inl h8z)).trans b4, (cell_set_other (.inl h8z)).trans b5, (cell_set_other (.inl h8z)).trans b6, (cell_set_other (.inl h8z)).trans b7⟩)
              have HPN := hid (show p ≤ N1 by have h1 := (Array.getElem?_eq_some_iff.1 HP8.out).1; rw [HN1.out]; omega)
              have hA := first_a (br := br) (d := d) (t := t) (A3 := A3) (p := p) HN1.out HXE.out HLE8.out
              have HFa := hid hA.1
              have HFb := hid hA.2.1
              have HFab := hid hA.2.2.1
              have HFba := hid hA.2.2.2
              clear hG1 hpz h8z hA
              refine wp_region_held_drew (S := (fun Y => Y.cell? ⟨p, 2, none⟩ = some (.slice A3 t.rs.length c3) ∧ Y.cell? ⟨g8, 0, none⟩ = some (.int .i64 9) ∧ Y.cell? ⟨g8, 1, none⟩ = some (.int .i64 0) ∧ Y.cell? ⟨g8, 2, none⟩ = some (.slice none 0 0) ∧ Y.cell? ⟨g8, 3, none⟩ = some (.int .i64 9) ∧ Y.cell? ⟨g8, 4, none⟩ = some (.int .i64 0) ∧ Y.cell? ⟨g8, 5, none⟩ = some (.slice none 0 0) ∧ Y.cell? ⟨g8, 6, none⟩ = some (.bool br))) (by kernel_rfl) (by exact HS9.out _ (by rw [HN1.out]; exact (Below.refl _ _).drew)) (fun hHeld => ?_)
              refine wpAnyH_take (i := 1) (oi := { dst := some 52, op := Op.fieldAddr 33 (Operand.tmp 7) 2, type := _, pos := _, after := _, guard := none }) (v := ?_) rfl (by kernel_rfl) (by kernel_rfl) (by kernel_rfl) (fun _ _ _ h => h) (Or.inl ⟨by rfl, ?_⟩) (by assumption) ?_
              rotate_left
              · intro w hSw; (try dsimp only at hSw); go_simp; try with_reducible rfl
              try simp only [Act.put, List.setIfInBounds_toArray, List.set_cons_zero, List.set_cons_succ]
              refine wpAnyH_take (i := 2) (oi := { dst := some 53, op := Op.load 31 (Operand.tmp 52), type := _, pos := _, after := _, guard := none }) (v := ?_) rfl (by kernel_rfl) (by kernel_rfl) (by kernel_rfl) (fun _ _ _ h => h) (Or.inl ⟨by rfl, ?_⟩) (by assumption) ?_
              rotate_left
              · intro w hSw; (try dsimp only at hSw); go_simp; try with_reducible rfl
              try simp only [Act.put, List.setIfInBounds_toArray, List.set_cons_zero, List.set_cons_succ]
              refine wpAnyH_take (i := 4) (oi := { dst := some 55, op := Op.load 47 (Operand.tmp 8), type := _, pos := _, after := _, guard := none }) (v := ?_) rfl (by kernel_rfl) (by kernel_rfl) (by kernel_rfl) (fun _ _ _ h => h) (Or.inl ⟨by rfl, ?_⟩) (by assumption) ?_
              rotate_left
              · intro w hSw; (try dsimp only at hSw); go_simp; try with_reducible rfl
              try simp only [Act.put, List.setIfInBounds_toArray, List.set_cons_zero, List.set_cons_succ]
              refine wpAnyH_ready (rs := [0, 5]) (by kernel_rfl) (by simp) ?_
              refine AllReadyH.cons (o := { dst := some 51, op := Op.buildSlice 31 0 #[], type := _, pos := _, after := _, guard := none }) rfl ?legA1 (AllReadyH.cons (o := { dst := some 56, op := Op.buildSlice 31 1 #[(0, Operand.tmp 55)], type := _, pos := _, after := _, guard := none }) rfl ?legB1 AllReadyH.nil)
              case' legA1 =>
                intro K hK
                go_simp
                skip
                refine hK.out _ _ (by first | exact HS9.out _ HFa.out.1 | exact HS9.out _ HFba.out.1) (fun hHeld => ?_)
                clear hK K
                try simp only [Act.put, List.setIfInBounds_toArray, List.set_cons_zero, List.set_cons_succ]
                refine wpAnyH_ready (rs := [3, 5]) (by kernel_rfl) (by simp) ?_
                refine AllReadyH.cons (o := { dst := some 54, op := Op.call { callee := Callee.builtin Builtin.append, args := #[Operand.tmp 51, Operand.tmp 53], argTypes := #[31, 31] }, type := _, pos := _, after := _, guard := none }) rfl ?legA1a (AllReadyH.cons (o := { dst := some 56, op := Op.buildSlice 31 1 #[(0, Operand.tmp 55)], type := _, pos := _, after := _, guard := none }) rfl ?legB1a AllReadyH.nil)
                case' legA1a =>
                  intro K hK
                  rw [if_pos (by rfl)]
                  first | (refine wp_app_rls (.tmp 51) (.tmp 53) rfl (w := W8.drew.alloc (.cells #[] 47)) (B := N1) (T := p) (l := []) (m := t.rs) (A := A3) (c := c3) (n := t.rs.length) (ys := xs) rfl HFa.out.2.1 rfl rfl HFa.out.2.2.1 HFa.out.2.2.2.1 (by simp; omega) HFa.out.2.2.2.2 HPN.out ?_; intro v4 w6 hown hgrow hge; have HB6 := hid (HFa.out.1.grown hgrow HFa.out.2.2.2.2 hge); have HO6 := hid hown; clear hown hgrow hge) | (refine wp_app_rls (.tmp 51) (.tmp 53) rfl (w := (W8.drew.alloc (.cells #[] 47)).alloc (.cells #[.int .i64 9, .int .i64 0, .slice none 0 0, .int .i64 9, .int .i64 0, .slice none 0 0, .bool br] 47)) (B := N1) (T := p) (l := []) (m := t.rs) (A := A3) (c := c3) (n := t.rs.length) (ys := xs) rfl HFab.out.2.1 rfl rfl HFab.out.2.2.1 HFab.out.2.2.2.1 (by simp; omega) HFab.out.2.2.2.2.1 HPN.out ?_; intro v4 w6 hown hgrow hge; have HB6 := hid (HFab.out.1.grown hgrow HFab.out.2.2.2.2.1 hge); have HO6 := hid hown; have HSR := hid (HFab.out.2.2.2.2.2 w6 hgrow); clear hown hgrow hge) | (refine wp_app_rls (.tmp 51) (.tmp 53) rfl (w := (W8.drew.alloc (.cells #[.int .i64 9, .int .i64 0, .slice none 0 0, .int .i64 9, .int .i64 0, .slice none 0 0, .bool br] 47)).alloc (.cells #[] 47)) (B := N1) (T := p) (l := []) (m := t.rs) (A := A3) (c := c3) (n := t.rs.length) (ys := xs) rfl HFba.out.2.1 rfl rfl HFba.out.2.2.1 HFba.out.2.2.2.1 (by simp; omega) HFba.out.2.2.2.2.1 HPN.out ?_; intro v4 w6 hown hgrow hge; have HB6 := hid (HFba.out.1.grown hgrow HFba.out.2.2.2.2.1 hge); have HO6 := hid hown; have HSR := hid (HFba.out.2.2.2.2.2 w6 hgrow); clear hown hgrow hge) | fail
                  refine hK.out _ _ (by exact HS9.out _ HB6.out) (fun hHeld => ?_)
                  clear hK K
                  try simp only [Act.put, List.setIfInBounds_toArray, List.set_cons_zero, List.set_cons_succ]
                  refine wpAnyH_ready (rs := [5]) (by kernel_rfl) (by simp) ?_
                  refine AllReadyH.cons (o := { dst := some 56, op := Op.buildSlice 31 1 #[(0, Operand.tmp 55)], type := _, pos := _, after := _, guard := none }) rfl (fun K hK => ?_) AllReadyH.nil
                  go_simp
                  skip
                  refine hK.out _ _ (by first | exact HS9.out _ HFb.out.1 | exact HS9.out _ HFab.out.1 | exact HS9.out _ (HB6.out.alloc (by have h1 := HB6.out.size; rw [HN1.out]; exact h1) _)) (fun hHeld => ?_)
                  clear hK K
                  try simp only [Act.put, List.setIfInBounds_toArray, List.set_cons_zero, List.set_cons_succ]
                  refine wpAnyH_ready (rs := [6]) (by kernel_rfl) (by simp) ?_
                  refine AllReadyH.cons (o := { dst := some 57, op := Op.call { callee := Callee.builtin Builtin.append, args := #[Operand.tmp 54, Operand.tmp 56], argTypes := #[31, 31] }, type := _, pos := _, after := _, guard := none }) rfl (fun K hK => ?_) AllReadyH.nil
                  rw [if_pos (by rfl)]
                  first | (refine wp_app_rls (.tmp 54) (.tmp 56) rfl (w := w6) (B := N1) (T := p) (l := [] ++ t.rs) (m := [always d br]) (n := 1) (c := 1) rfl HO6.out rfl rfl HSR.out (always_laid _ p d br) (by simp; omega) (by have h1 := HB6.out.size; rw [HN1.out]; exact h1) HPN.out ?_; intro v7 w7 hown hgrow hge; have HB7 := hid (HB6.out.grown hgrow (by have h1 := HB6.out.size; rw [HN1.out]; exact h1) hge)) | (refine wp_app_rls (.tmp 54) (.tmp 56) rfl (w := w6.alloc (.cells #[.int .i64 9, .int .i64 0, .slice none 0 0, .int .i64 9, .int .i64 0, .slice none 0 0, .bool br] 47)) (B := N1) (T := p) (l := [] ++ t.rs) (m := [always d br]) (n := 1) (c := 1) rfl (HO6.out.below ((Below.refl _ _).alloc (Nat.le_refl _) _)) rfl rfl (always_src w6 br) (always_laid _ p d br) (by simp; omega) (by have h1 := HB6.out.size; rw [HN1.out]; simp; omega) HPN.out ?_; intro v7 w7 hown hgrow hge; have HB7 := hid ((HB6.out.alloc (by have h1 := HB6.out.size; rw [HN1.out]; exact h1) _).grown hgrow (by have h1 := HB6.out.size; rw [HN1.out]; simp; omega) hge)) | fail
                  rw [List.nil_append] at hown
                  obtain ⟨Az, cz, ez, -⟩ := hown.rows
                  obtain ⟨nz, hnz⟩ : ∃ n, n = (t.rs ++ [always d br]).length := ⟨_, rfl⟩
                  rw [← hnz] at ez
                  subst ez
                  have HNZ := hid hnz
                  have HO7 := hid hown
                  have HGZ7 := hid ((HB7.out.block gz HGZ1.out).trans HGZ8.out)
                  obtain ⟨z0, z1, z2, hzf⟩ := slot3 HGZ7.out
                  have hzf2 := hzf 2
                  clear hnz hown hgrow hge hzf
                  refine hK.out _ _ (by exact HS9.out _ HB7.out) (fun hHeld => ?_)
                  clear hK K
                  try simp only [Act.put, List.setIfInBounds_toArray, List.set_cons_zero, List.set_cons_succ]
                  refine wpAnyH_take (i := 7) (oi := { dst := some 58, op := Op.fieldAddr 33 (Operand.tmp 10) 2, type := _, pos := _, after := _, guard := none }) (v := ?_) rfl (by kernel_rfl) (by kernel_rfl) (by kernel_rfl) (fun _ _ _ h => h) (Or.inl ⟨by rfl, ?_⟩) (by assumption) ?_
                  rotate_left
                  · intro w hSw; (try dsimp only at hSw); go_simp; try with_reducible rfl
                  try simp only [Act.put, List.setIfInBounds_toArray, List.set_cons_zero, List.set_cons_succ]
                  refine wpAnyH_ready (rs := [8]) (by kernel_rfl) (by simp) ?_
                  refine AllReadyH.cons (o := { dst := none, op := Op.store 31 (Operand.tmp 58) (Operand.tmp 57), type := _, pos := _, after := _, guard := none }) rfl (fun K hK => ?_) AllReadyH.nil
                  go_simp
                  refine hK.out _ _ (by exact HSE.out _ _ HB7.out) (fun hHeld => ?_)
                  clear hK K
                  try simp only [Act.put, List.setIfInBounds_toArray, List.set_cons_zero, List.set_cons_succ]
                  refine wpAnyH_done (by kernel_rfl) ?_ _
                case' legB1a =>
                  intro K hK
                  go_simp
                  skip
                  refine hK.out _ _ (by first | exact HS9.out _ HFb.out.1 | exact HS9.out _ HFab.out.1 | exact HS9.out _ (HB6.out.alloc (by have h1 := HB6.out.size; rw [HN1.out]; exact h1) _)) (fun hHeld => ?_)
                  clear hK K
                  try simp only [Act.put, List.setIfInBounds_toArray, List.set_cons_zero, List.set_cons_succ]
                  refine wpAnyH_ready (rs := [3]) (by kernel_rfl) (by simp) ?_
                  refine AllReadyH.cons (o := { dst := some 54, op := Op.call { callee := Callee.builtin Builtin.append, args := #[Operand.tmp 51, Operand.tmp 53], argTypes := #[31, 31] }, type := _, pos := _, after := _, guard := none }) rfl (fun K hK => ?_) AllReadyH.nil
                  rw [if_pos (by rfl)]
                  first | (refine wp_app_rls (.tmp 51) (.tmp 53) rfl (w := W8.drew.alloc (.cells #[] 47)) (B := N1) (T := p) (l := []) (m := t.rs) (A := A3) (c := c3) (n := t.rs.length) (ys := xs) rfl HFa.out.2.1 rfl rfl HFa.out.2.2.1 HFa.out.2.2.2.1 (by simp; omega) HFa.out.2.2.2.2 HPN.out ?_; intro v4 w6 hown hgrow hge; have HB6 := hid (HFa.out.1.grown hgrow HFa.out.2.2.2.2 hge); have HO6 := hid hown; clear hown hgrow hge) | (refine wp_app_rls (.tmp 51) (.tmp 53) rfl (w := (W8.drew.alloc (.cells #[] 47)).alloc (.cells #[.int .i64 9, .int .i64 0, .slice none 0 0, .int .i64 9, .int .i64 0, .slice none 0 0, .bool br] 47)) (B := N1) (T := p) (l := []) (m := t.rs) (A := A3) (c := c3) (n := t.rs.length) (ys := xs) rfl HFab.out.2.1 rfl rfl HFab.out.2.2.1 HFab.out.2.2.2.1 (by simp; omega) HFab.out.2.2.2.2.1 HPN.out ?_; intro v4 w6 hown hgrow hge; have HB6 := hid (HFab.out.1.grown hgrow HFab.out.2.2.2.2.1 hge); have HO6 := hid hown; have HSR := hid (HFab.out.2.2.2.2.2 w6 hgrow); clear hown hgrow hge) | (refine wp_app_rls (.tmp 51) (.tmp 53) rfl (w := (W8.drew.alloc (.cells #[.int .i64 9, .int .i64 0, .slice none 0 0, .int .i64 9, .int .i64 0, .slice none 0 0, .bool br] 47)).alloc (.cells #[] 47)) (B := N1) (T := p) (l := []) (m := t.rs) (A := A3) (c := c3) (n := t.rs.length) (ys := xs) rfl HFba.out.2.1 rfl rfl HFba.out.2.2.1 HFba.out.2.2.2.1 (by simp; omega) HFba.out.2.2.2.2.1 HPN.out ?_; intro v4 w6 hown hgrow hge; have HB6 := hid (HFba.out.1.grown hgrow HFba.out.2.2.2.2.1 hge); have HO6 := hid hown; have HSR := hid (HFba.out.2.2.2.2.2 w6 hgrow); clear hown hgrow hge) | fail
                  refine hK.out _ _ (by exact HS9.out _ HB6.out) (fun hHeld => ?_)
                  clear hK K
                  try simp only [Act.put, List.setIfInBounds_toArray, List.set_cons_zero, List.set_cons_succ]
                  refine wpAnyH_ready (rs := [6]) (by kernel_rfl) (by simp) ?_
                  refine AllReadyH.cons (o := { dst := some 57, op := Op.call { callee := Callee.builtin Builtin.append, args := #[Operand.tmp 54, Operand.tmp 56], argTypes := #[31, 31] }, type := _, pos := _, after := _, guard := none }) rfl (fun K hK => ?_) AllReadyH.nil
                  rw [if_pos (by rfl)]
                  first | (refine wp_app_rls (.tmp 54) (.tmp 56) rfl (w := w6) (B := N1) (T := p) (l := [] ++ t.rs) (m := [always d br]) (n := 1) (c := 1) rfl HO6.out rfl rfl HSR.out (always_laid _ p d br) (by simp; omega) (by have h1 := HB6.out.size; rw [HN1.out]; exact h1) HPN.out ?_; intro v7 w7 hown hgrow hge; have HB7 := hid (HB6.out.grown hgrow (by have h1 := HB6.out.size; rw [HN1.out]; exact h1) hge)) | (refine wp_app_rls (.tmp 54) (.tmp 56) rfl (w := w6.alloc (.cells #[.int .i64 9, .int .i64 0, .slice none 0 0, .int .i64 9, .int .i64 0, .slice none 0 0, .bool br] 47)) (B := N1) (T := p) (l := [] ++ t.rs) (m := [always d br]) (n := 1) (c := 1) rfl (HO6.out.below ((Below.refl _ _).alloc (Nat.le_refl _) _)) rfl rfl (always_src w6 br) (always_laid _ p d br) (by simp; omega) (by have h1 := HB6.out.size; rw [HN1.out]; simp; omega) HPN.out ?_; intro v7 w7 hown hgrow hge; have HB7 := hid ((HB6.out.alloc (by have h1 := HB6.out.size; rw [HN1.out]; exact h1) _).grown hgrow (by have h1 := HB6.out.size; rw [HN1.out]; simp; omega) hge)) | fail
                  rw [List.nil_append] at hown
                  obtain ⟨Az, cz, ez, -⟩ := hown.rows
                  obtain ⟨nz, hnz⟩ : ∃ n, n = (t.rs ++ [always d br]).length := ⟨_, rfl⟩
                  rw [← hnz] at ez
                  subst ez
                  have HNZ := hid hnz
                  have HO7 := hid hown
                  have HGZ7 := hid ((HB7.out.block gz HGZ1.out).trans HGZ8.out)
                  obtain ⟨z0, z1, z2, hzf⟩ := slot3 HGZ7.out
                  have hzf2 := hzf 2
                  clear hnz hown hgrow hge hzf
                  refine hK.out _ _ (by exact HS9.out _ HB7.out) (fun hHeld => ?_)
                  clear hK K
                  try simp only [Act.put, List.setIfInBounds_toArray, List.set_cons_zero, List.set_cons_succ]
                  refine wpAnyH_take (i := 7) (oi := { dst := some 58, op := Op.fieldAddr 33 (Operand.tmp 10) 2, type := _, pos := _, after := _, guard := none }) (v := ?_) rfl (by kernel_rfl) (by kernel_rfl) (by kernel_rfl) (fun _ _ _ h => h) (Or.inl ⟨by rfl, ?_⟩) (by assumption) ?_
                  rotate_left
                  · intro w hSw; (try dsimp only at hSw); go_simp; try with_reducible rfl
                  try simp only [Act.put, List.setIfInBounds_toArray, List.set_cons_zero, List.set_cons_succ]
                  refine wpAnyH_ready (rs := [8]) (by kernel_rfl) (by simp) ?_
                  refine AllReadyH.cons (o := { dst := none, op := Op.store 31 (Operand.tmp 58) (Operand.tmp 57), type := _, pos := _, after := _, guard := none }) rfl (fun K hK => ?_) AllReadyH.nil
                  go_simp
                  refine hK.out _ _ (by exact HSE.out _ _ HB7.out) (fun hHeld => ?_)
                  clear hK K
                  try simp only [Act.put, List.setIfInBounds_toArray, List.set_cons_zero, List.set_cons_succ]
                  refine wpAnyH_done (by kernel_rfl) ?_ _
              case' legB1 =>
                intro K hK
                go_simp
                skip
                refine hK.out _ _ (by first | exact HS9.out _ HFb.out.1 | exact HS9.out _ HFab.out.1 | exact HS9.out _ (HB6.out.alloc (by have h1 := HB6.out.size; rw [HN1.out]; exact h1) _)) (fun hHeld => ?_)
                clear hK K
                try simp only [Act.put, List.setIfInBounds_toArray, List.set_cons_zero, List.set_cons_succ]
                refine wpAnyH_ready (rs := [0]) (by kernel_rfl) (by simp) ?_
                refine AllReadyH.cons (o := { dst := some 51, op := Op.buildSlice 31 0 #[], type := _, pos := _, after := _, guard := none }) rfl (fun K hK => ?_) AllReadyH.nil
                go_simp
                skip
                refine hK.out _ _ (by first | exact HS9.out _ HFa.out.1 | exact HS9.out _ HFba.out.1) (fun hHeld => ?_)
                clear hK K
                try simp only [Act.put, List.setIfInBounds_toArray, List.set_cons_zero, List.set_cons_succ]
                refine wpAnyH_ready (rs := [3]) (by kernel_rfl) (by simp) ?_
                refine AllReadyH.cons (o := { dst := some 54, op := Op.call { callee := Callee.builtin Builtin.append, args := #[Operand.tmp 51, Operand.tmp 53], argTypes := #[31, 31] }, type := _, pos := _, after := _, guard := none }) rfl (fun K hK => ?_) AllReadyH.nil
                rw [if_pos (by rfl)]
                first | (refine wp_app_rls (.tmp 51) (.tmp 53) rfl (w := W8.drew.alloc (.cells #[] 47)) (B := N1) (T := p) (l := []) (m := t.rs) (A := A3) (c := c3) (n := t.rs.length) (ys := xs) rfl HFa.out.2.1 rfl rfl HFa.out.2.2.1 HFa.out.2.2.2.1 (by simp; omega) HFa.out.2.2.2.2 HPN.out ?_; intro v4 w6 hown hgrow hge; have HB6 := hid (HFa.out.1.grown hgrow HFa.out.2.2.2.2 hge); have HO6 := hid hown; clear hown hgrow hge) | (refine wp_app_rls (.tmp 51) (.tmp 53) rfl (w := (W8.drew.alloc (.cells #[] 47)).alloc (.cells #[.int .i64 9, .int .i64 0, .slice none 0 0, .int .i64 9, .int .i64 0, .slice none 0 0, .bool br] 47)) (B := N1) (T := p) (l := []) (m := t.rs) (A := A3) (c := c3) (n := t.rs.length) (ys := xs) rfl HFab.out.2.1 rfl rfl HFab.out.2.2.1 HFab.out.2.2.2.1 (by simp; omega) HFab.out.2.2.2.2.1 HPN.out ?_; intro v4 w6 hown hgrow hge; have HB6 := hid (HFab.out.1.grown hgrow HFab.out.2.2.2.2.1 hge); have HO6 := hid hown; have HSR := hid (HFab.out.2.2.2.2.2 w6 hgrow); clear hown hgrow hge) | (refine wp_app_rls (.tmp 51) (.tmp 53) rfl (w := (W8.drew.alloc (.cells #[.int .i64 9, .int .i64 0, .slice none 0 0, .int .i64 9, .int .i64 0, .slice none 0 0, .bool br] 47)).alloc (.cells #[] 47)) (B := N1) (T := p) (l := []) (m := t.rs) (A := A3) (c := c3) (n := t.rs.length) (ys := xs) rfl HFba.out.2.1 rfl rfl HFba.out.2.2.1 HFba.out.2.2.2.1 (by simp; omega) HFba.out.2.2.2.2.1 HPN.out ?_; intro v4 w6 hown hgrow hge; have HB6 := hid (HFba.out.1.grown hgrow HFba.out.2.2.2.2.1 hge); have HO6 := hid hown; have HSR := hid (HFba.out.2.2.2.2.2 w6 hgrow); clear hown hgrow hge) | fail
                refine hK.out _ _ (by exact HS9.out _ HB6.out) (fun hHeld => ?_)
                clear hK K
                try simp only [Act.put, List.setIfInBounds_toArray, List.set_cons_zero, List.set_cons_succ]
                refine wpAnyH_ready (rs := [6]) (by kernel_rfl) (by simp) ?_
                refine AllReadyH.cons (o := { dst := some 57, op := Op.call { callee := Callee.builtin Builtin.append, args := #[Operand.tmp 54, Operand.tmp 56], argTypes := #[31, 31] }, type := _, pos := _, after := _, guard := none }) rfl (fun K hK => ?_) AllReadyH.nil
                rw [if_pos (by rfl)]
                first | (refine wp_app_rls (.tmp 54) (.tmp 56) rfl (w := w6) (B := N1) (T := p) (l := [] ++ t.rs) (m := [always d br]) (n := 1) (c := 1) rfl HO6.out rfl rfl HSR.out (always_laid _ p d br) (by simp; omega) (by have h1 := HB6.out.size; rw [HN1.out]; exact h1) HPN.out ?_; intro v7 w7 hown hgrow hge; have HB7 := hid (HB6.out.grown hgrow (by have h1 := HB6.out.size; rw [HN1.out]; exact h1) hge)) | (refine wp_app_rls (.tmp 54) (.tmp 56) rfl (w := w6.alloc (.cells #[.int .i64 9, .int .i64 0, .slice none 0 0, .int .i64 9, .int .i64 0, .slice none 0 0, .bool br] 47)) (B := N1) (T := p) (l := [] ++ t.rs) (m := [always d br]) (n := 1) (c := 1) rfl (HO6.out.below ((Below.refl _ _).alloc (Nat.le_refl _) _)) rfl rfl (always_src w6 br) (always_laid _ p d br) (by simp; omega) (by have h1 := HB6.out.size; rw [HN1.out]; simp; omega) HPN.out ?_; intro v7 w7 hown hgrow hge; have HB7 := hid ((HB6.out.alloc (by have h1 := HB6.out.size; rw [HN1.out]; exact h1) _).grown hgrow (by have h1 := HB6.out.size; rw [HN1.out]; simp; omega) hge)) | fail
                rw [List.nil_append] at hown
                obtain ⟨Az, cz, ez, -⟩ := hown.rows
                obtain ⟨nz, hnz⟩ : ∃ n, n = (t.rs ++ [always d br]).length := ⟨_, rfl⟩
                rw [← hnz] at ez
                subst ez
                have HNZ := hid hnz
                have HO7 := hid hown
                have HGZ7 := hid ((HB7.out.block gz HGZ1.out).trans HGZ8.out)
                obtain ⟨z0, z1, z2, hzf⟩ := slot3 HGZ7.out
                have hzf2 := hzf 2
                clear hnz hown hgrow hge hzf
                refine hK.out _ _ (by exact HS9.out _ HB7.out) (fun hHeld => ?_)
                clear hK K
                try simp only [Act.put, List.setIfInBounds_toArray, List.set_cons_zero, List.set_cons_succ]
                refine wpAnyH_take (i := 7) (oi := { dst := some 58, op := Op.fieldAddr 33 (Operand.tmp 10) 2, type := _, pos := _, after := _, guard := none }) (v := ?_) rfl (by kernel_rfl) (by kernel_rfl) (by kernel_rfl) (fun _ _ _ h => h) (Or.inl ⟨by rfl, ?_⟩) (by assumption) ?_
                rotate_left
                · intro w hSw; (try dsimp only at hSw); go_simp; try with_reducible rfl
                try simp only [Act.put, List.setIfInBounds_toArray, List.set_cons_zero, List.set_cons_succ]
                refine wpAnyH_ready (rs := [8]) (by kernel_rfl) (by simp) ?_
                refine AllReadyH.cons (o := { dst := none, op := Op.store 31 (Operand.tmp 58) (Operand.tmp 57), type := _, pos := _, after := _, guard := none }) rfl (fun K hK => ?_) AllReadyH.nil
                go_simp
                refine hK.out _ _ (by exact HSE.out _ _ HB7.out) (fun hHeld => ?_)
                clear hK K
                try simp only [Act.put, List.setIfInBounds_toArray, List.set_cons_zero, List.set_cons_succ]
                refine wpAnyH_done (by kernel_rfl) ?_ _
              all_goals
                go_wp2_with fail
                go_meet
                exact ⟨rfl, Az, nz, cz, HNZ.out, heap_setCell_same _ gz 2 _ 33 _ HGZ7.out, HO7.out.keep (fun b hb _ => heap_setCell_other _ _ _ _ (by have h1 := HPG.out.1; have h2 := HYZ.out.2.2; show b ≠ gz; omega)) fun b hb _ => heap_setCell_other _ _ _ _ (by have h1 := HGZ1.out; show b ≠ gz; omega), grown_setCell (grown_of_below (by rw [HN1.out] at HB7; exact HB7.out) _) 2 _⟩
            case rest =>
              obtain ⟨wc2, rfl⟩ : ∃ x, x = wc := ⟨_, rfl⟩
              obtain ⟨rfl, Az, nz, cz, hnz, hgz2, hoz, hg2⟩ := hcut
              have HBE := hid (HB8.out.grown hg2 HB8.out.size fun k hk => by injection hk with hk; rw [← hk]; exact HYZ.out.2.2)
              have HTX := hid (show IsTx wc2 Any (d + 1) (.agg #[.slice I3 t.ig.length ic3, .slice K3 t.kp.length kc3, .slice A3 t.rs.length c3]) t from (HTW4.out.below (by rw [← HG8.out]; exact HX5.out.1)).below HBE.out)
              have HOY := hid (HO8.out.keep (w' := wc2) (fun b hb hlt => hg2.block b hlt (fun e => by injection e with e; have h1 := HPG.out.1; have h2 := HYZ.out.2.2; omega)) fun b hb hlt => hg2.block b hlt (fun e => by injection e with e; have h1 := HGZN.out; omega))
              have HTY := hid (tx_rules HTX.out HOY.out HN8.out)
              have HTZ := hid (tx_rules HTX.out hoz hnz)
              have HPE := hid ((HBE.out.block p HPG.out.1).trans HP5.out)
              have HYE := hid ((hg2.block gy (Array.getElem?_eq_some_iff.1 HGY8.out).1 (fun e => by injection e with e; exact HYZ.out.1 e)).trans HGY8.out)
              have HZE := hid hgz2
              have hn8l : n8 ≤ 31 := by rw [HN8.out]; simp; omega
              have hnzl : nz ≤ 31 := by rw [hnz]; simp; omega
              have HSE := hid (show ∀ Y, Below wc2.heap.size wc2 Y → Y.cell? ⟨p, 0, none⟩ = some (.slice I3 t.ig.length ic3) ∧ Y.cell? ⟨p, 1, none⟩ = some (.slice K3 t.kp.length kc3) ∧ Y.cell? ⟨p, 2, none⟩ = some (.slice A3 t.rs.length c3) ∧
                Y.cell? ⟨gy, 0, none⟩ = some (.slice I3 t.ig.length ic3) ∧ Y.cell? ⟨gy, 1, none⟩ = some (.slice K3 t.kp.length kc3) ∧ Y.cell? ⟨gy, 2, none⟩ = some (.slice A8 n8 c8) ∧
                Y.cell? ⟨gz, 0, none⟩ = some (.slice I3 t.ig.length ic3) ∧ Y.cell? ⟨gz, 1, none⟩ = some (.slice K3 t.kp.length kc3) ∧ Y.cell? ⟨gz, 2, none⟩ = some (.slice Az nz cz) from fun Y hY => by
                obtain ⟨x0, x1, x2, -⟩ := slot3 ((hY.block p (Array.getElem?_eq_some_iff.1 HPE.out).1).trans HPE.out)
                obtain ⟨y0, y1, y2, -⟩ := slot3 ((hY.block gy (Array.getElem?_eq_some_iff.1 HYE.out).1).trans HYE.out)
                obtain ⟨z0, z1, z2, -⟩ := slot3 ((hY.block gz (Array.getElem?_eq_some_iff.1 HZE.out).1).trans HZE.out)
                exact ⟨x0, x1, x2, y0, y1, y2, z0, z1, z2⟩)
              have HWE := hid (show Below W.heap.size W wc2 from HB5.out.trans (HBE.out.mono HB5.out.size))
              have HME := hid (HM.out.below HWE.out)
              clear hnz hgz2 hoz hg2
              go_wp2_with fail
              refine wp_region_held_drew (S := (fun Y => Y.cell? ⟨p, 0, none⟩ = some (.slice I3 t.ig.length ic3) ∧ Y.cell? ⟨p, 1, none⟩ = some (.slice K3 t.kp.length kc3) ∧ Y.cell? ⟨p, 2, none⟩ = some (.slice A3 t.rs.length c3) ∧ Y.cell? ⟨gy, 0, none⟩ = some (.slice I3 t.ig.length ic3) ∧ Y.cell? ⟨gy, 1, none⟩ = some (.slice K3 t.kp.length kc3) ∧ Y.cell? ⟨gy, 2, none⟩ = some (.slice A8 n8 c8) ∧ Y.cell? ⟨gz, 0, none⟩ = some (.slice I3 t.ig.length ic3) ∧ Y.cell? ⟨gz, 1, none⟩ = some (.slice K3 t.kp.length kc3) ∧ Y.cell? ⟨gz, 2, none⟩ = some (.slice Az nz cz))) (by kernel_rfl) (by exact HSE.out _ (Below.refl _ _).drew) (fun hHeld => ?_)
              refine wpAnyH_take (i := 0) (oi := { dst := some 59, op := Op.load 33 (Operand.tmp 7), type := _, pos := _, after := _, guard := none }) (v := ?_) rfl (by kernel_rfl) (by kernel_rfl) (by kernel_rfl) (fun _ _ _ h => h) (Or.inl ⟨by rfl, ?_⟩) (by assumption) ?_
              rotate_left
              · intro w hSw; (try dsimp only at hSw); go_simp; try with_reducible rfl
              try simp only [Act.put, List.setIfInBounds_toArray, List.set_cons_zero, List.set_cons_succ]
              refine wpAnyH_take (i := 1) (oi := { dst := some 60, op := Op.move (Operand.tmp 1), type := _, pos := _, after := _, guard := none }) (v := ?_) rfl (by kernel_rfl) (by kernel_rfl) (by kernel_rfl) (fun _ _ _ h => h) (Or.inl ⟨by rfl, ?_⟩) (by assumption) ?_
              rotate_left
              · intro w hSw; (try dsimp only at hSw); go_simp; try with_reducible rfl
              try simp only [Act.put, List.setIfInBounds_toArray, List.set_cons_zero, List.set_cons_succ]
              refine wpAnyH_take (i := 3) (oi := { dst := some 62, op := Op.load 33 (Operand.tmp 7), type := _, pos := _, after := _, guard := none }) (v := ?_) rfl (by kernel_rfl) (by kernel_rfl) (by kernel_rfl) (fun _ _ _ h => h) (Or.inl ⟨by rfl, ?_⟩) (by assumption) ?_
              rotate_left
              · intro w hSw; (try dsimp only at hSw); go_simp; try with_reducible rfl
              try simp only [Act.put, List.setIfInBounds_toArray, List.set_cons_zero, List.set_cons_succ]
              refine wpAnyH_take (i := 4) (oi := { dst := some 63, op := Op.move (Operand.tmp 1), type := _, pos := _, after := _, guard := none }) (v := ?_) rfl (by kernel_rfl) (by kernel_rfl) (by kernel_rfl) (fun _ _ _ h => h) (Or.inl ⟨by rfl, ?_⟩) (by assumption) ?_
              rotate_left
              · intro w hSw; (try dsimp only at hSw); go_simp; try with_reducible rfl
              try simp only [Act.put, List.setIfInBounds_toArray, List.set_cons_zero, List.set_cons_succ]
              refine wpAnyH_take (i := 6) (oi := { dst := some 65, op := Op.load 33 (Operand.tmp 9), type := _, pos := _, after := _, guard := none }) (v := ?_) rfl (by kernel_rfl) (by kernel_rfl) (by kernel_rfl) (fun _ _ _ h => h) (Or.inl ⟨by rfl, ?_⟩) (by assumption) ?_
              rotate_left
              · intro w hSw; (try dsimp only at hSw); go_simp; try with_reducible rfl
              try simp only [Act.put, List.setIfInBounds_toArray, List.set_cons_zero, List.set_cons_succ]
              refine wpAnyH_take (i := 7) (oi := { dst := some 66, op := Op.move (Operand.tmp 1), type := _, pos := _, after := _, guard := none }) (v := ?_) rfl (by kernel_rfl) (by kernel_rfl) (by kernel_rfl) (fun _ _ _ h => h) (Or.inl ⟨by rfl, ?_⟩) (by assumption) ?_
              rotate_left
              · intro w hSw; (try dsimp only at hSw); go_simp; try with_reducible rfl
              try simp only [Act.put, List.setIfInBounds_toArray, List.set_cons_zero, List.set_cons_succ]
              refine wpAnyH_take (i := 9) (oi := { dst := some 68, op := Op.load 33 (Operand.tmp 10), type := _, pos := _, after := _, guard := none }) (v := ?_) rfl (by kernel_rfl) (by kernel_rfl) (by kernel_rfl) (fun _ _ _ h => h) (Or.inl ⟨by rfl, ?_⟩) (by assumption) ?_
              rotate_left
              · intro w hSw; (try dsimp only at hSw); go_simp; try with_reducible rfl
              try simp only [Act.put, List.setIfInBounds_toArray, List.set_cons_zero, List.set_cons_succ]
              refine wpAnyH_take (i := 10) (oi := { dst := some 69, op := Op.move (Operand.tmp 1), type := _, pos := _, after := _, guard := none }) (v := ?_) rfl (by kernel_rfl) (by kernel_rfl) (by kernel_rfl) (fun _ _ _ h => h) (Or.inl ⟨by rfl, ?_⟩) (by assumption) ?_
              rotate_left
              · intro w hSw; (try dsimp only at hSw); go_simp; try with_reducible rfl
              try simp only [Act.put, List.setIfInBounds_toArray, List.set_cons_zero, List.set_cons_succ]
              refine wpAnyH_ready (rs := [2]) (by kernel_rfl) (by simp) ?_
              refine AllReadyH.cons (o := { dst := some 61, op := Op.call { callee := Callee.value (Operand.func 18), args := #[Operand.tmp 59, Operand.tmp 60], argTypes := #[33, 22] }, type := _, pos := _, after := _, guard := none }) rfl (fun K hK => ?_) AllReadyH.nil
              go_simp
              refine (Hidden_any (d + 1) _ _ t ids _ (HTX.out.below (Below.refl _ _).drew) (HME.out.below (Below.refl _ _).drew) (by omega)).mono ?_; rintro e w6 ⟨v6, rfl, hv6, hb6⟩; have HB6 := hid (show Below wc2.heap.size wc2 w6 from (Below.refl _ _).drew.trans hb6); have HV4 := hid (hv6.mono (S' := Any) fun _ _ _ => trivial); obtain ⟨Ah, ch, rfl, -, -⟩ := hv6.open; rw [fhid_len]; clear hb6 hv6; go_wp2_with fail
              refine hK.out _ _ (by exact HSE.out _ HB6.out) (fun hHeld => ?_)
              clear hK K
              try simp only [Act.put, List.setIfInBounds_toArray, List.set_cons_zero, List.set_cons_succ]
              refine wpAnyH_ready (rs := [5]) (by kernel_rfl) (by simp) ?_
              refine AllReadyH.cons (o := { dst := some 64, op := Op.call { callee := Callee.value (Operand.func 13), args := #[Operand.tmp 62, Operand.tmp 63], argTypes := #[33, 22] }, type := _, pos := _, after := _, guard := none }) rfl (fun K hK => ?_) AllReadyH.nil
              go_simp
              refine (Breaks_any (d + 1) _ _ t ids _ (HTX.out.below HB6.out) (HME.out.below HB6.out) (by omega)).mono ?_; rintro e w7 ⟨v7, rfl, hv7, hb7⟩; have HB7 := hid (HB6.out.trans (hb7.mono HB6.out.size)); have HB67 := hid hb7; have HV5 := hid (hv7.mono (S' := Any) fun _ _ _ => trivial); obtain ⟨Aa, ca, rfl, -, -⟩ := hv7.open; rw [fbr_len]; clear hb7 hv7; go_wp2_with fail
              refine hK.out _ _ (by exact HSE.out _ HB7.out) (fun hHeld => ?_)
              clear hK K
              try simp only [Act.put, List.setIfInBounds_toArray, List.set_cons_zero, List.set_cons_succ]
              refine wpAnyH_ready (rs := [8]) (by kernel_rfl) (by simp) ?_
              refine AllReadyH.cons (o := { dst := some 67, op := Op.call { callee := Callee.value (Operand.func 13), args := #[Operand.tmp 65, Operand.tmp 66], argTypes := #[33, 22] }, type := _, pos := _, after := _, guard := none }) rfl (fun K hK => ?_) AllReadyH.nil
              go_simp
              refine (Breaks_any (d + 1) _ _ (aheadT t br) ids _ (HTY.out.below HB7.out) (HME.out.below HB7.out) (by omega)).mono ?_; rintro e w8 ⟨v8, rfl, hv8, hb8⟩; have HB8' := hid (HB7.out.trans (hb8.mono HB7.out.size)); have HB78 := hid hb8; have HV6 := hid (hv8.mono (S' := Any) fun _ _ _ => trivial); obtain ⟨Ab, cb, rfl, -, -⟩ := hv8.open; rw [fbr_len]; clear hb8 hv8; go_wp2_with fail
              refine hK.out _ _ (by exact HSE.out _ HB8'.out) (fun hHeld => ?_)
              clear hK K
              try simp only [Act.put, List.setIfInBounds_toArray, List.set_cons_zero, List.set_cons_succ]
              refine wpAnyH_ready (rs := [11]) (by kernel_rfl) (by simp) ?_
              refine AllReadyH.cons (o := { dst := some 70, op := Op.call { callee := Callee.value (Operand.func 13), args := #[Operand.tmp 68, Operand.tmp 69], argTypes := #[33, 22] }, type := _, pos := _, after := _, guard := none }) rfl (fun K hK => ?_) AllReadyH.nil
              go_simp
              refine (Breaks_any (d + 1) _ _ (behindT t br) ids _ (HTZ.out.below HB8'.out) (HME.out.below HB8'.out) (by omega)).mono ?_; rintro e w9 ⟨v9, rfl, hv9, hb9⟩; have HB9 := hid (HB8'.out.trans (hb9.mono HB8'.out.size)); have HB69 := hid hb9; have HB59 := hid (HB78.out.trans (hb9.mono HB78.out.size)); have HB49 := hid (HB67.out.trans (HB59.out.mono HB67.out.size)); have HV9 := hid (hv9.mono (S' := Any) fun _ _ _ => trivial); obtain ⟨Ac, cc, rfl, -, -⟩ := hv9.open; rw [fbr_len]; clear hb9 hv9; go_wp2_with fail
              refine hK.out _ _ (by exact HSE.out _ HB9.out) (fun hHeld => ?_)
              clear hK K
              try simp only [Act.put, List.setIfInBounds_toArray, List.set_cons_zero, List.set_cons_succ]
              refine wpAnyH_take (i := 12) (oi := { dst := some 11, op := Op.assign (Operand.tmp 61), type := _, pos := _, after := _, guard := none }) (v := ?_) rfl (by kernel_rfl) (by kernel_rfl) (by kernel_rfl) (fun _ _ _ h => h) (Or.inl ⟨by rfl, ?_⟩) (by assumption) ?_
              rotate_left
              · intro w hSw; (try dsimp only at hSw); go_simp; try with_reducible rfl
              try simp only [Act.put, List.setIfInBounds_toArray, List.set_cons_zero, List.set_cons_succ]
              refine wpAnyH_take (i := 13) (oi := { dst := some 12, op := Op.assign (Operand.tmp 64), type := _, pos := _, after := _, guard := none }) (v := ?_) rfl (by kernel_rfl) (by kernel_rfl) (by kernel_rfl) (fun _ _ _ h => h) (Or.inl ⟨by rfl, ?_⟩) (by assumption) ?_
              rotate_left
              · intro w hSw; (try dsimp only at hSw); go_simp; try with_reducible rfl
              try simp only [Act.put, List.setIfInBounds_toArray, List.set_cons_zero, List.set_cons_succ]
              refine wpAnyH_take (i := 14) (oi := { dst := some 13, op := Op.assign (Operand.tmp 67), type := _, pos := _, after := _, guard := none }) (v := ?_) rfl (by kernel_rfl) (by kernel_rfl) (by kernel_rfl) (fun _ _ _ h => h) (Or.inl ⟨by rfl, ?_⟩) (by assumption) ?_
              rotate_left
              · intro w hSw; (try dsimp only at hSw); go_simp; try with_reducible rfl
              try simp only [Act.put, List.setIfInBounds_toArray, List.set_cons_zero, List.set_cons_succ]
              refine wpAnyH_take (i := 15) (oi := { dst := some 14, op := Op.assign (Operand.tmp 70), type := _, pos := _, after := _, guard := none }) (v := ?_) rfl (by kernel_rfl) (by kernel_rfl) (by kernel_rfl) (fun _ _ _ h => h) (Or.inl ⟨by rfl, ?_⟩) (by assumption) ?_
              rotate_left
              · intro w hSw; (try dsimp only at hSw); go_simp; try with_reducible rfl
              try simp only [Act.put, List.setIfInBounds_toArray, List.set_cons_zero, List.set_cons_succ]
              refine wpAnyH_done (by kernel_rfl) ?_ _
              obtain ⟨hide, hhd⟩ : ∃ hide, hide = hidL (knownT t).ig (knownT t).kp (ids.map classOf) := ⟨_, rfl⟩
              have HHD := hid hhd
              have HHL := hid (show hide.length = ids.length by rw [hhd]; exact fhid_len _ _ _)
              rw [← hhd] at HV4 
              obtain ⟨xa, hxa⟩ : ∃ xa, xa = breaksP t ids := ⟨_, rfl⟩
              have HXA := hid hxa
              have HXAL := hid (show xa.length = ids.length + 1 by rw [hxa]; exact fbr_len _ _)
              obtain ⟨xb, hxb⟩ : ∃ xb, xb = breaksP (aheadT t br) ids := ⟨_, rfl⟩
              have HXB := hid hxb
              have HXBL := hid (show xb.length = ids.length + 1 by rw [hxb]; exact fbr_len _ _)
              obtain ⟨xc, hxc⟩ : ∃ xc, xc = breaksP (behindT t br) ids := ⟨_, rfl⟩
              have HXC := hid hxc
              have HXCL := hid (show xc.length = ids.length + 1 by rw [hxc]; exact fbr_len _ _)
              have HV4' := hid (HV4.out.below HB49.out)
              have HV5' := hid (show IsBools w9 Any _ xa by rw [hxa]; exact HV5.out.below HB59.out)
              have HV6' := hid (show IsBools w9 Any _ xb by rw [hxb]; exact HV6.out.below HB69.out)
              have HV7' := hid (show IsBools w9 Any _ xc by rw [hxc]; exact HV9.out)
              have HTX9 := hid (HTX.out.below HB9.out)
              have HM9 := hid (HME.out.below HB9.out)
              have HX9 := hid (show ∀ Y, Below w9.heap.size w9 Y → Y.cell? ⟨p, 0, none⟩ = some (.slice I3 t.ig.length ic3) ∧ Y.cell? ⟨p, 1, none⟩ = some (.slice K3 t.kp.length kc3) ∧ Y.cell? ⟨p, 2, none⟩ = some (.slice A3 t.rs.length c3) from fun Y hY => by
                obtain ⟨x0, x1, x2, -⟩ := HSE.out Y (HB9.out.trans (hY.mono HB9.out.size))
                exact ⟨x0, x1, x2⟩)
              have HWF := hid (HWw.out.trans ((HWE.out.trans (HB9.out.mono HWE.out.size)).mono HWw.out.size))
              have HN39 := hid (show t.rs.length ≤ 39 by omega)
              clear hhd hxa hxb hxc HV4 HV5 HV6 HV9
              go_wp2_with fail
              go_loopw [15] (fun s15 wr => ∃ k : Nat, 1 ≤ k ∧ (k ≤ ids.length ∨ k = 1) ∧ s15 = .int .i64 k ∧ Hid (Below w9.heap.size w9 wr)) (fun s15 _ => ids.length - (intOf s15).toNat)
              case atStart => exact ⟨1, Nat.le_refl _, .inr rfl, rfl, hid (Below.refl _ _)⟩
              case round =>
                obtain ⟨k, hk1, hk, rfl, HW9⟩ := hrel
                by_cases hlt : k < ids.length
                · obtain ⟨Bh, cbh, eh, -, hAh⟩ := HV4'.out.open
                  obtain ⟨rfl, rfl⟩ : Ah = Bh ∧ ch = cbh := by simpa using eh
                  obtain ⟨bh, oh, rfl, -, hbh, hch⟩ := hAh.bool (j := k) (by rw [HHL.out]; exact hlt)
                  obtain ⟨Ba, cba, ea, -, hAa⟩ := HV5'.out.open
                  obtain ⟨rfl, rfl⟩ : Aa = Ba ∧ ca = cba := by simpa [HXAL.out, fbr_len] using ea
                  obtain ⟨ba, oa, rfl, -, hba, hca⟩ := hAa.bool (j := k) (by rw [HXAL.out]; omega)
                  obtain ⟨Bb, cbb, eb, -, hAb⟩ := HV6'.out.open
                  obtain ⟨rfl, rfl⟩ : Ab = Bb ∧ cb = cbb := by simpa [HXBL.out, fbr_len] using eb
                  obtain ⟨bb, ob, rfl, -, hbb, hcb⟩ := hAb.bool (j := k) (by rw [HXBL.out]; omega)
                  obtain ⟨Bc, cbc, ec, -, hAc⟩ := HV7'.out.open
                  obtain ⟨rfl, rfl⟩ : Ac = Bc ∧ cc = cbc := by simpa [HXCL.out, fbr_len] using ec
                  obtain ⟨bc, oc, rfl, -, hbc, hcc⟩ := hAc.bool (j := k) (by rw [HXCL.out]; omega)
                  have hchw := (cell_same (HW9.out.block bh hbh)).trans hch
                  clear eh ea eb ec hAh hAa hAb hAc hch hbh
                  cases hhk : nthB hide k with
                  | true =>
                    rw [hhk] at hchw
                    clear hhk hca hcb hcc hba hbb hbc
                    go_wp2_with fail
                    go_roundw
                    case rel => exact ⟨k + 1, by omega, by omega, by go_num, HW9⟩
                    case measure => simp [intOf]; omega
                  | false =>
                    rw [hhk] at hchw
                    have hfb := first_ahead br HRT.out HN39.out HHD.out (by omega) hlt hhk
                    have hfc := first_behind br HRT.out HN39.out HHD.out (by omega) hlt hhk
                    have hfa := first_plain HRT.out HHD.out (by omega) hlt hhk
                    rw [← HXB.out] at hfb
                    rw [← HXC.out, ← HXA.out] at hfc
                    rw [← HXA.out] at hfa
                    obtain ⟨zw, hzw⟩ : ∃ z, z = whichP t ids (k : Int) := ⟨_, rfl⟩
                    have HZW := hid hzw
                    rw [← hzw] at hfc hfa
                    rw [hfb] at hcb
                    rw [hfc] at hcc
                    obtain ⟨x, hx⟩ : ∃ x, x = nthB xa k := ⟨_, rfl⟩
                    rw [← hx] at hca hcc hfa
                    have HBK := hid (And.intro hba (And.intro hbb hbc))
                    have hlt1 : (k : Int) < (ids.length : Int) + 1 := by omega
                    by_cases hz0 : zw < 0
                    · rw [if_pos hz0] at hcc
                      rw [hfa hz0] at hca
                      have HSF := hid (show ∀ Y, Below w9.heap.size w9 Y → Y.cell? ⟨p, 0, none⟩ = some (.slice I3 t.ig.length ic3) ∧ Y.cell? ⟨p, 1, none⟩ = some (.slice K3 t.kp.length kc3) ∧ Y.cell? ⟨p, 2, none⟩ = some (.slice A3 t.rs.length c3) ∧ Y.cell? ⟨ba, oa + k, none⟩ = some (.bool true) ∧ Y.cell? ⟨bb, ob + k, none⟩ = some (.bool br) ∧ Y.cell? ⟨bc, oc + k, none⟩ = some (.bool br) from fun Y hY => by
                        obtain ⟨x0, x1, x2⟩ := HX9.out Y hY
                        exact ⟨x0, x1, x2, (cell_same (hY.block ba HBK.out.1)).trans hca, (cell_same (hY.block bb HBK.out.2.1)).trans hcb, (cell_same (hY.block bc HBK.out.2.2)).trans hcc⟩)
                      have bz1 : decide (zw < 0) = true := decide_eq_true hz0
                      have bz2 : decide (0 ≤ zw) = false := decide_eq_false (by omega)
                      clear hfa hfb hfc hx hca hcb hcc hba hbb hbc hhk hzw hz0
                      cases br with
                      | true =>
                        go_wp2_with fail
                        refine wp_region_held_drew (S := (fun Y => Y.cell? ⟨p, 0, none⟩ = some (.slice I3 t.ig.length ic3) ∧ Y.cell? ⟨p, 1, none⟩ = some (.slice K3 t.kp.length kc3) ∧ Y.cell? ⟨p, 2, none⟩ = some (.slice A3 t.rs.length c3) ∧ Y.cell? ⟨ba, oa + k, none⟩ = some (.bool true) ∧ Y.cell? ⟨bb, ob + k, none⟩ = some (.bool true) ∧ Y.cell? ⟨bc, oc + k, none⟩ = some (.bool true))) (by kernel_rfl) (by exact HSF.out _ HW9.out.drew) (fun hHeld => ?_)
                        refine wpAnyH_take (i := 0) (oi := { dst := some 108, op := Op.move (Operand.tmp 13), type := _, pos := _, after := _, guard := none }) (v := ?_) rfl (by kernel_rfl) (by kernel_rfl) (by kernel_rfl) (fun _ _ _ h => h) (Or.inl ⟨by rfl, ?_⟩) (by assumption) ?_
                        rotate_left
                        · intro w hSw; (try dsimp only at hSw); go_simp; try with_reducible rfl
                        try simp only [Act.put, List.setIfInBounds_toArray, List.set_cons_zero, List.set_cons_succ]
                        refine wpAnyH_take (i := 1) (oi := { dst := some 109, op := Op.move (Operand.tmp 15), type := _, pos := _, after := _, guard := none }) (v := ?_) rfl (by kernel_rfl) (by kernel_rfl) (by kernel_rfl) (fun _ _ _ h => h) (Or.inl ⟨by rfl, ?_⟩) (by assumption) ?_
                        rotate_left
                        · intro w hSw; (try dsimp only at hSw); go_simp; try with_reducible rfl
                        try simp only [Act.put, List.setIfInBounds_toArray, List.set_cons_zero, List.set_cons_succ]
                        refine wpAnyH_take (i := 2) (oi := { dst := some 110, op := Op.indexAddr 28 (Operand.tmp 108) (Operand.tmp 109), type := _, pos := _, after := _, guard := none }) (v := ?_) rfl (by kernel_rfl) (by kernel_rfl) (by kernel_rfl) (fun _ _ _ h => h) (Or.inl ⟨by rfl, ?_⟩) (by assumption) ?_
                        rotate_left
                        · intro w hSw; (try dsimp only at hSw); go_simp; try with_reducible rfl
                        try simp only [Act.put, List.setIfInBounds_toArray, List.set_cons_zero, List.set_cons_succ]
                        refine wpAnyH_take (i := 3) (oi := { dst := some 111, op := Op.load 4 (Operand.tmp 110), type := _, pos := _, after := _, guard := none }) (v := ?_) rfl (by kernel_rfl) (by kernel_rfl) (by kernel_rfl) (fun _ _ _ h => h) (Or.inl ⟨by rfl, ?_⟩) (by assumption) ?_
                        rotate_left
                        · intro w hSw; (try dsimp only at hSw); go_simp; try with_reducible rfl
                        try simp only [Act.put, List.setIfInBounds_toArray, List.set_cons_zero, List.set_cons_succ]
                        refine wpAnyH_take (i := 4) (oi := { dst := some 112, op := Op.move (Operand.tmp 2), type := _, pos := _, after := _, guard := none }) (v := ?_) rfl (by kernel_rfl) (by kernel_rfl) (by kernel_rfl) (fun _ _ _ h => h) (Or.inl ⟨by rfl, ?_⟩) (by assumption) ?_
                        rotate_left
                        · intro w hSw; (try dsimp only at hSw); go_simp; try with_reducible rfl
                        try simp only [Act.put, List.setIfInBounds_toArray, List.set_cons_zero, List.set_cons_succ]
                        refine wpAnyH_take (i := 5) (oi := { dst := some 113, op := Op.binOp BinOp.neq 4 (Operand.tmp 111) (Operand.tmp 112) 4, type := _, pos := _, after := _, guard := none }) (v := ?_) rfl (by kernel_rfl) (by kernel_rfl) (by kernel_rfl) (fun _ _ _ h => h) (Or.inl ⟨by rfl, ?_⟩) (by assumption) ?_
                        rotate_left
                        · intro w hSw; (try dsimp only at hSw); go_simp; try with_reducible rfl
                        try simp only [Act.put, List.setIfInBounds_toArray, List.set_cons_zero, List.set_cons_succ]
                        refine wpAnyH_take (i := 6) (oi := { dst := some 114, op := Op.move (Operand.tmp 113), type := _, pos := _, after := _, guard := none }) (v := ?_) rfl (by kernel_rfl) (by kernel_rfl) (by kernel_rfl) (fun _ _ _ h => h) (Or.inl ⟨by rfl, ?_⟩) (by assumption) ?_
                        rotate_left
                        · intro w hSw; (try dsimp only at hSw); go_simp; try with_reducible rfl
                        try simp only [Act.put, List.setIfInBounds_toArray, List.set_cons_zero, List.set_cons_succ]
                        refine wpAnyH_take (i := 7) (oi := { dst := some 115, op := Op.move (Operand.tmp 14), type := _, pos := _, after := _, guard := some (6, false) }) (v := ?_) rfl (by kernel_rfl) (by kernel_rfl) (by kernel_rfl) (fun _ _ _ h => h) (Or.inl ⟨by rfl, ?_⟩) (by assumption) ?_
                        rotate_left
                        · intro w hSw; (try dsimp only at hSw); go_simp; try with_reducible rfl
                        try simp only [Act.put, List.setIfInBounds_toArray, List.set_cons_zero, List.set_cons_succ]
                        refine wpAnyH_take (i := 8) (oi := { dst := some 116, op := Op.move (Operand.tmp 15), type := _, pos := _, after := _, guard := some (6, false) }) (v := ?_) rfl (by kernel_rfl) (by kernel_rfl) (by kernel_rfl) (fun _ _ _ h => h) (Or.inl ⟨by rfl, ?_⟩) (by assumption) ?_
                        rotate_left
                        · intro w hSw; (try dsimp only at hSw); go_simp; try with_reducible rfl
                        try simp only [Act.put, List.setIfInBounds_toArray, List.set_cons_zero, List.set_cons_succ]
                        refine wpAnyH_take (i := 9) (oi := { dst := some 117, op := Op.indexAddr 28 (Operand.tmp 115) (Operand.tmp 116), type := _, pos := _, after := _, guard := some (6, false) }) (v := ?_) rfl (by kernel_rfl) (by kernel_rfl) (by kernel_rfl) (fun _ _ _ h => h) (Or.inl ⟨by rfl, ?_⟩) (by assumption) ?_
                        rotate_left
                        · intro w hSw; (try dsimp only at hSw); go_simp; try with_reducible rfl
                        try simp only [Act.put, List.setIfInBounds_toArray, List.set_cons_zero, List.set_cons_succ]
                        refine wpAnyH_take (i := 10) (oi := { dst := some 118, op := Op.load 4 (Operand.tmp 117), type := _, pos := _, after := _, guard := some (6, false) }) (v := ?_) rfl (by kernel_rfl) (by kernel_rfl) (by kernel_rfl) (fun _ _ _ h => h) (Or.inl ⟨by rfl, ?_⟩) (by assumption) ?_
                        rotate_left
                        · intro w hSw; (try dsimp only at hSw); go_simp; try with_reducible rfl
                        try simp only [Act.put, List.setIfInBounds_toArray, List.set_cons_zero, List.set_cons_succ]
                        refine wpAnyH_take (i := 11) (oi := { dst := some 119, op := Op.move (Operand.tmp 12), type := _, pos := _, after := _, guard := some (6, false) }) (v := ?_) rfl (by kernel_rfl) (by kernel_rfl) (by kernel_rfl) (fun _ _ _ h => h) (Or.inl ⟨by rfl, ?_⟩) (by assumption) ?_
                        rotate_left
                        · intro w hSw; (try dsimp only at hSw); go_simp; try with_reducible rfl
                        try simp only [Act.put, List.setIfInBounds_toArray, List.set_cons_zero, List.set_cons_succ]
                        refine wpAnyH_take (i := 12) (oi := { dst := some 120, op := Op.move (Operand.tmp 15), type := _, pos := _, after := _, guard := some (6, false) }) (v := ?_) rfl (by kernel_rfl) (by kernel_rfl) (by kernel_rfl) (fun _ _ _ h => h) (Or.inl ⟨by rfl, ?_⟩) (by assumption) ?_
                        rotate_left
                        · intro w hSw; (try dsimp only at hSw); go_simp; try with_reducible rfl
                        try simp only [Act.put, List.setIfInBounds_toArray, List.set_cons_zero, List.set_cons_succ]
                        refine wpAnyH_take (i := 13) (oi := { dst := some 121, op := Op.indexAddr 28 (Operand.tmp 119) (Operand.tmp 120), type := _, pos := _, after := _, guard := some (6, false) }) (v := ?_) rfl (by kernel_rfl) (by kernel_rfl) (by kernel_rfl) (fun _ _ _ h => h) (Or.inl ⟨by rfl, ?_⟩) (by assumption) ?_
                        rotate_left
                        · intro w hSw; (try dsimp only at hSw); go_simp; try with_reducible rfl
                        try simp only [Act.put, List.setIfInBounds_toArray, List.set_cons_zero, List.set_cons_succ]
                        refine wpAnyH_take (i := 14) (oi := { dst := some 122, op := Op.load 4 (Operand.tmp 121), type := _, pos := _, after := _, guard := some (6, false) }) (v := ?_) rfl (by kernel_rfl) (by kernel_rfl) (by kernel_rfl) (fun _ _ _ h => h) (Or.inl ⟨by rfl, ?_⟩) (by assumption) ?_
                        rotate_left
                        · intro w hSw; (try dsimp only at hSw); go_simp; try with_reducible rfl
                        try simp only [Act.put, List.setIfInBounds_toArray, List.set_cons_zero, List.set_cons_succ]
                        refine wpAnyH_take (i := 15) (oi := { dst := some 123, op := Op.binOp BinOp.neq 4 (Operand.tmp 118) (Operand.tmp 122) 4, type := _, pos := _, after := _, guard := some (6, false) }) (v := ?_) rfl (by kernel_rfl) (by kernel_rfl) (by kernel_rfl) (fun _ _ _ h => h) (Or.inl ⟨by rfl, ?_⟩) (by assumption) ?_
                        rotate_left
                        · intro w hSw; (try dsimp only at hSw); go_simp; try with_reducible rfl
                        try simp only [Act.put, List.setIfInBounds_toArray, List.set_cons_zero, List.set_cons_succ]
                        refine wpAnyH_take (i := 16) (oi := { dst := some 124, op := Op.move (Operand.tmp 123), type := _, pos := _, after := _, guard := some (6, false) }) (v := ?_) rfl (by kernel_rfl) (by kernel_rfl) (by kernel_rfl) (fun _ _ _ h => h) (Or.inl ⟨by rfl, ?_⟩) (by assumption) ?_
                        rotate_left
                        · intro w hSw; (try dsimp only at hSw); go_simp; try with_reducible rfl
                        try simp only [Act.put, List.setIfInBounds_toArray, List.set_cons_zero, List.set_cons_succ]
                        refine wpAnyH_take (i := 17) (oi := { dst := some 125, op := Op.load 33 (Operand.tmp 7), type := _, pos := _, after := _, guard := some (16, true) }) (v := undef) rfl (by kernel_rfl) (by kernel_rfl) (by kernel_rfl) (fun _ _ _ h => h) (Or.inr ⟨by rfl, rfl⟩) (by assumption) ?_
                        try simp only [Act.put, List.setIfInBounds_toArray, List.set_cons_zero, List.set_cons_succ]
                        refine wpAnyH_take (i := 18) (oi := { dst := some 126, op := Op.move (Operand.tmp 1), type := _, pos := _, after := _, guard := some (16, true) }) (v := undef) rfl (by kernel_rfl) (by kernel_rfl) (by kernel_rfl) (fun _ _ _ h => h) (Or.inr ⟨by rfl, rfl⟩) (by assumption) ?_
                        try simp only [Act.put, List.setIfInBounds_toArray, List.set_cons_zero, List.set_cons_succ]
                        refine wpAnyH_take (i := 19) (oi := { dst := some 127, op := Op.move (Operand.tmp 15), type := _, pos := _, after := _, guard := some (16, true) }) (v := undef) rfl (by kernel_rfl) (by kernel_rfl) (by kernel_rfl) (fun _ _ _ h => h) (Or.inr ⟨by rfl, rfl⟩) (by assumption) ?_
                        try simp only [Act.put, List.setIfInBounds_toArray, List.set_cons_zero, List.set_cons_succ]
                        refine wpAnyH_take (i := 20) (oi := { dst := some 128, op := Op.call { callee := Callee.value (Operand.func 20), args := #[Operand.tmp 125, Operand.tmp 126, Operand.tmp 127], argTypes := #[33, 22, 3] }, type := _, pos := _, after := _, guard := some (16, true) }) (v := undef) rfl (by kernel_rfl) (by kernel_rfl) (by kernel_rfl) (fun _ _ _ h => h) (Or.inr ⟨by rfl, rfl⟩) (by assumption) ?_
                        try simp only [Act.put, List.setIfInBounds_toArray, List.set_cons_zero, List.set_cons_succ]
                        refine wpAnyH_take (i := 21) (oi := { dst := some 129, op := Op.binOp BinOp.geq 3 (Operand.tmp 128) (Operand.const (Value.int IntKind.i64 0)) 3, type := _, pos := _, after := _, guard := some (16, true) }) (v := undef) rfl (by kernel_rfl) (by kernel_rfl) (by kernel_rfl) (fun _ _ _ h => h) (Or.inr ⟨by rfl, rfl⟩) (by assumption) ?_
                        try simp only [Act.put, List.setIfInBounds_toArray, List.set_cons_zero, List.set_cons_succ]
                        refine wpAnyH_take (i := 22) (oi := { dst := some 130, op := Op.pick (Operand.tmp 124) (Operand.tmp 129) (Operand.const (Value.bool false)), type := _, pos := _, after := _, guard := some (6, false) }) (v := ?_) rfl (by kernel_rfl) (by kernel_rfl) (by kernel_rfl) (fun _ _ _ h => h) (Or.inl ⟨by rfl, ?_⟩) (by assumption) ?_
                        rotate_left
                        · intro w hSw; (try dsimp only at hSw); go_simp; try with_reducible rfl
                        try simp only [Act.put, List.setIfInBounds_toArray, List.set_cons_zero, List.set_cons_succ]
                        refine wpAnyH_take (i := 23) (oi := { dst := some 131, op := Op.pick (Operand.tmp 114) (Operand.const (Value.bool true)) (Operand.tmp 130), type := _, pos := _, after := _, guard := none }) (v := ?_) rfl (by kernel_rfl) (by kernel_rfl) (by kernel_rfl) (fun _ _ _ h => h) (Or.inl ⟨by rfl, ?_⟩) (by assumption) ?_
                        rotate_left
                        · intro w hSw; (try dsimp only at hSw); go_simp; try with_reducible rfl
                        try simp only [Act.put, List.setIfInBounds_toArray, List.set_cons_zero, List.set_cons_succ]
                        refine wpAnyH_take (i := 24) (oi := { dst := some 132, op := Op.move (Operand.tmp 131), type := _, pos := _, after := _, guard := none }) (v := ?_) rfl (by kernel_rfl) (by kernel_rfl) (by kernel_rfl) (fun _ _ _ h => h) (Or.inl ⟨by rfl, ?_⟩) (by assumption) ?_
                        rotate_left
                        · intro w hSw; (try dsimp only at hSw); go_simp; try with_reducible rfl
                        try simp only [Act.put, List.setIfInBounds_toArray, List.set_cons_zero, List.set_cons_succ]
                        refine wpAnyH_take (i := 25) (oi := { dst := some 133, op := Op.load 33 (Operand.tmp 7), type := _, pos := _, after := _, guard := some (24, false) }) (v := ?_) rfl (by kernel_rfl) (by kernel_rfl) (by kernel_rfl) (fun _ _ _ h => h) (Or.inl ⟨by rfl, ?_⟩) (by assumption) ?_
                        rotate_left
                        · intro w hSw; (try dsimp only at hSw); go_simp; try with_reducible rfl
                        try simp only [Act.put, List.setIfInBounds_toArray, List.set_cons_zero, List.set_cons_succ]
                        refine wpAnyH_take (i := 26) (oi := { dst := some 134, op := Op.move (Operand.tmp 1), type := _, pos := _, after := _, guard := some (24, false) }) (v := ?_) rfl (by kernel_rfl) (by kernel_rfl) (by kernel_rfl) (fun _ _ _ h => h) (Or.inl ⟨by rfl, ?_⟩) (by assumption) ?_
                        rotate_left
                        · intro w hSw; (try dsimp only at hSw); go_simp; try with_reducible rfl
                        try simp only [Act.put, List.setIfInBounds_toArray, List.set_cons_zero, List.set_cons_succ]
                        refine wpAnyH_take (i := 27) (oi := { dst := some 135, op := Op.move (Operand.tmp 15), type := _, pos := _, after := _, guard := some (24, false) }) (v := ?_) rfl (by kernel_rfl) (by kernel_rfl) (by kernel_rfl) (fun _ _ _ h => h) (Or.inl ⟨by rfl, ?_⟩) (by assumption) ?_
                        rotate_left
                        · intro w hSw; (try dsimp only at hSw); go_simp; try with_reducible rfl
                        try simp only [Act.put, List.setIfInBounds_toArray, List.set_cons_zero, List.set_cons_succ]
                        refine wpAnyH_ready (rs := [28]) (by kernel_rfl) (by simp) ?_
                        refine AllReadyH.cons (o := { dst := some 136, op := Op.call { callee := Callee.value (Operand.func 20), args := #[Operand.tmp 133, Operand.tmp 134, Operand.tmp 135], argTypes := #[33, 22, 3] }, type := _, pos := _, after := _, guard := some (24, false) }) rfl (fun K hK => ?_) AllReadyH.nil
                        go_simp
                        refine (Which_any (d + 1) _ _ t ids (k : Int) _ (HTX9.out.below HW9.out.drew) (HM9.out.below HW9.out.drew) (by omega)).mono ?_; rintro e u1 ⟨rfl, hu1⟩; rw [← HZW.out]; have HF1 := hid (show Below w9.heap.size w9 u1 from (HW9.out.drew).trans (hu1.mono (HW9.out.drew).size)); clear hu1; go_wp2_with fail
                        refine hK.out _ _ (by exact HSF.out _ HF1.out) (fun hHeld => ?_)
                        clear hK K
                        try simp only [Act.put, List.setIfInBounds_toArray, List.set_cons_zero, List.set_cons_succ]
                        refine wpAnyH_take (i := 29) (oi := { dst := some 137, op := Op.binOp BinOp.lss 3 (Operand.tmp 136) (Operand.const (Value.int IntKind.i64 0)) 3, type := _, pos := _, after := _, guard := some (24, false) }) (v := ?_) rfl (by kernel_rfl) (by kernel_rfl) (by kernel_rfl) (fun _ _ _ h => h) (Or.inl ⟨by rfl, ?_⟩) (by assumption) ?_
                        rotate_left
                        · intro w hSw; (try dsimp only at hSw); go_simp; try with_reducible rfl
                        try simp only [Act.put, List.setIfInBounds_toArray, List.set_cons_zero, List.set_cons_succ]
                        refine wpAnyH_take (i := 30) (oi := { dst := some 138, op := Op.move (Operand.tmp 137), type := _, pos := _, after := _, guard := some (24, false) }) (v := ?_) rfl (by kernel_rfl) (by kernel_rfl) (by kernel_rfl) (fun _ _ _ h => h) (Or.inl ⟨by rfl, ?_⟩) (by assumption) ?_
                        rotate_left
                        · intro w hSw; (try dsimp only at hSw); go_simp; try with_reducible rfl
                        try simp only [Act.put, List.setIfInBounds_toArray, List.set_cons_zero, List.set_cons_succ]
                        refine wpAnyH_take (i := 31) (oi := { dst := some 139, op := Op.move (Operand.tmp 12), type := _, pos := _, after := _, guard := some (30, true) }) (v := ?_) rfl (by kernel_rfl) (by kernel_rfl) (by kernel_rfl) (fun _ _ _ h => h) (Or.inl ⟨by rfl, ?_⟩) (by assumption) ?_
                        rotate_left
                        · intro w hSw; (try dsimp only at hSw); go_simp; try with_reducible rfl
                        try simp only [Act.put, List.setIfInBounds_toArray, List.set_cons_zero, List.set_cons_succ]
                        refine wpAnyH_take (i := 32) (oi := { dst := some 140, op := Op.move (Operand.tmp 15), type := _, pos := _, after := _, guard := some (30, true) }) (v := ?_) rfl (by kernel_rfl) (by kernel_rfl) (by kernel_rfl) (fun _ _ _ h => h) (Or.inl ⟨by rfl, ?_⟩) (by assumption) ?_
                        rotate_left
                        · intro w hSw; (try dsimp only at hSw); go_simp; try with_reducible rfl
                        try simp only [Act.put, List.setIfInBounds_toArray, List.set_cons_zero, List.set_cons_succ]
                        refine wpAnyH_take (i := 33) (oi := { dst := some 141, op := Op.indexAddr 28 (Operand.tmp 139) (Operand.tmp 140), type := _, pos := _, after := _, guard := some (30, true) }) (v := ?_) rfl (by kernel_rfl) (by kernel_rfl) (by kernel_rfl) (fun _ _ _ h => h) (Or.inl ⟨by rfl, ?_⟩) (by assumption) ?_
                        rotate_left
                        · intro w hSw; (try dsimp only at hSw); go_simp; try with_reducible rfl
                        try simp only [Act.put, List.setIfInBounds_toArray, List.set_cons_zero, List.set_cons_succ]
                        refine wpAnyH_take (i := 34) (oi := { dst := some 142, op := Op.load 4 (Operand.tmp 141), type := _, pos := _, after := _, guard := some (30, true) }) (v := ?_) rfl (by kernel_rfl) (by kernel_rfl) (by kernel_rfl) (fun _ _ _ h => h) (Or.inl ⟨by rfl, ?_⟩) (by assumption) ?_
                        rotate_left
                        · intro w hSw; (try dsimp only at hSw); go_simp; try with_reducible rfl
                        try simp only [Act.put, List.setIfInBounds_toArray, List.set_cons_zero, List.set_cons_succ]
                        refine wpAnyH_take (i := 35) (oi := { dst := some 143, op := Op.unOp UnOp.not 4 (Operand.tmp 142), type := _, pos := _, after := _, guard := some (30, true) }) (v := ?_) rfl (by kernel_rfl) (by kernel_rfl) (by kernel_rfl) (fun _ _ _ h => h) (Or.inl ⟨by rfl, ?_⟩) (by assumption) ?_
                        rotate_left
                        · intro w hSw; (try dsimp only at hSw); go_simp; try with_reducible rfl
                        try simp only [Act.put, List.setIfInBounds_toArray, List.set_cons_zero, List.set_cons_succ]
                        refine wpAnyH_take (i := 36) (oi := { dst := some 144, op := Op.move (Operand.tmp 143), type := _, pos := _, after := _, guard := some (30, true) }) (v := ?_) rfl (by kernel_rfl) (by kernel_rfl) (by kernel_rfl) (fun _ _ _ h => h) (Or.inl ⟨by rfl, ?_⟩) (by assumption) ?_
                        rotate_left
                        · intro w hSw; (try dsimp only at hSw); go_simp; try with_reducible rfl
                        try simp only [Act.put, List.setIfInBounds_toArray, List.set_cons_zero, List.set_cons_succ]
                        refine wpAnyH_take (i := 37) (oi := { dst := some 145, op := Op.move (Operand.tmp 14), type := _, pos := _, after := _, guard := some (36, false) }) (v := ?_) rfl (by kernel_rfl) (by kernel_rfl) (by kernel_rfl) (fun _ _ _ h => h) (Or.inl ⟨by rfl, ?_⟩) (by assumption) ?_
                        rotate_left
                        · intro w hSw; (try dsimp only at hSw); go_simp; try with_reducible rfl
                        try simp only [Act.put, List.setIfInBounds_toArray, List.set_cons_zero, List.set_cons_succ]
                        refine wpAnyH_take (i := 38) (oi := { dst := some 146, op := Op.move (Operand.tmp 15), type := _, pos := _, after := _, guard := some (36, false) }) (v := ?_) rfl (by kernel_rfl) (by kernel_rfl) (by kernel_rfl) (fun _ _ _ h => h) (Or.inl ⟨by rfl, ?_⟩) (by assumption) ?_
                        rotate_left
                        · intro w hSw; (try dsimp only at hSw); go_simp; try with_reducible rfl
                        try simp only [Act.put, List.setIfInBounds_toArray, List.set_cons_zero, List.set_cons_succ]
                        refine wpAnyH_take (i := 39) (oi := { dst := some 147, op := Op.indexAddr 28 (Operand.tmp 145) (Operand.tmp 146), type := _, pos := _, after := _, guard := some (36, false) }) (v := ?_) rfl (by kernel_rfl) (by kernel_rfl) (by kernel_rfl) (fun _ _ _ h => h) (Or.inl ⟨by rfl, ?_⟩) (by assumption) ?_
                        rotate_left
                        · intro w hSw; (try dsimp only at hSw); go_simp; try with_reducible rfl
                        try simp only [Act.put, List.setIfInBounds_toArray, List.set_cons_zero, List.set_cons_succ]
                        refine wpAnyH_take (i := 40) (oi := { dst := some 148, op := Op.load 4 (Operand.tmp 147), type := _, pos := _, after := _, guard := some (36, false) }) (v := ?_) rfl (by kernel_rfl) (by kernel_rfl) (by kernel_rfl) (fun _ _ _ h => h) (Or.inl ⟨by rfl, ?_⟩) (by assumption) ?_
                        rotate_left
                        · intro w hSw; (try dsimp only at hSw); go_simp; try with_reducible rfl
                        try simp only [Act.put, List.setIfInBounds_toArray, List.set_cons_zero, List.set_cons_succ]
                        refine wpAnyH_take (i := 41) (oi := { dst := some 149, op := Op.move (Operand.tmp 2), type := _, pos := _, after := _, guard := some (36, false) }) (v := ?_) rfl (by kernel_rfl) (by kernel_rfl) (by kernel_rfl) (fun _ _ _ h => h) (Or.inl ⟨by rfl, ?_⟩) (by assumption) ?_
                        rotate_left
                        · intro w hSw; (try dsimp only at hSw); go_simp; try with_reducible rfl
                        try simp only [Act.put, List.setIfInBounds_toArray, List.set_cons_zero, List.set_cons_succ]
                        refine wpAnyH_take (i := 42) (oi := { dst := some 150, op := Op.binOp BinOp.neq 4 (Operand.tmp 148) (Operand.tmp 149) 4, type := _, pos := _, after := _, guard := some (36, false) }) (v := ?_) rfl (by kernel_rfl) (by kernel_rfl) (by kernel_rfl) (fun _ _ _ h => h) (Or.inl ⟨by rfl, ?_⟩) (by assumption) ?_
                        rotate_left
                        · intro w hSw; (try dsimp only at hSw); go_simp; try with_reducible rfl
                        try simp only [Act.put, List.setIfInBounds_toArray, List.set_cons_zero, List.set_cons_succ]
                        refine wpAnyH_take (i := 43) (oi := { dst := some 151, op := Op.pick (Operand.tmp 144) (Operand.const (Value.bool true)) (Operand.tmp 150), type := _, pos := _, after := _, guard := some (30, true) }) (v := ?_) rfl (by kernel_rfl) (by kernel_rfl) (by kernel_rfl) (fun _ _ _ h => h) (Or.inl ⟨by rfl, ?_⟩) (by assumption) ?_
                        rotate_left
                        · intro w hSw; (try dsimp only at hSw); go_simp; try with_reducible rfl
                        try simp only [Act.put, List.setIfInBounds_toArray, List.set_cons_zero, List.set_cons_succ]
                        refine wpAnyH_take (i := 44) (oi := { dst := some 152, op := Op.pick (Operand.tmp 138) (Operand.tmp 151) (Operand.const (Value.bool false)), type := _, pos := _, after := _, guard := some (24, false) }) (v := ?_) rfl (by kernel_rfl) (by kernel_rfl) (by kernel_rfl) (fun _ _ _ h => h) (Or.inl ⟨by rfl, ?_⟩) (by assumption) ?_
                        rotate_left
                        · intro w hSw; (try dsimp only at hSw); go_simp; try with_reducible rfl
                        try simp only [Act.put, List.setIfInBounds_toArray, List.set_cons_zero, List.set_cons_succ]
                        refine wpAnyH_take (i := 45) (oi := { dst := some 153, op := Op.pick (Operand.tmp 132) (Operand.const (Value.bool true)) (Operand.tmp 152), type := _, pos := _, after := _, guard := none }) (v := ?_) rfl (by kernel_rfl) (by kernel_rfl) (by kernel_rfl) (fun _ _ _ h => h) (Or.inl ⟨by rfl, ?_⟩) (by assumption) ?_
                        rotate_left
                        · intro w hSw; (try dsimp only at hSw); go_simp; try with_reducible rfl
                        try simp only [Act.put, List.setIfInBounds_toArray, List.set_cons_zero, List.set_cons_succ]
                        refine wpAnyH_done (by kernel_rfl) ?_ _
                        all_goals
                          go_wp2_with fail
                          go_roundw
                          case rel => exact ⟨k + 1, by omega, by omega, by go_num, HF1⟩
                          case measure => simp [intOf]; omega
                      | false =>
                        go_wp2_with fail
                        refine wp_region_held_drew (S := (fun Y => Y.cell? ⟨p, 0, none⟩ = some (.slice I3 t.ig.length ic3) ∧ Y.cell? ⟨p, 1, none⟩ = some (.slice K3 t.kp.length kc3) ∧ Y.cell? ⟨p, 2, none⟩ = some (.slice A3 t.rs.length c3) ∧ Y.cell? ⟨ba, oa + k, none⟩ = some (.bool true) ∧ Y.cell? ⟨bb, ob + k, none⟩ = some (.bool false) ∧ Y.cell? ⟨bc, oc + k, none⟩ = some (.bool false))) (by kernel_rfl) (by exact HSF.out _ HW9.out.drew) (fun hHeld => ?_)
                        refine wpAnyH_take (i := 0) (oi := { dst := some 108, op := Op.move (Operand.tmp 13), type := _, pos := _, after := _, guard := none }) (v := ?_) rfl (by kernel_rfl) (by kernel_rfl) (by kernel_rfl) (fun _ _ _ h => h) (Or.inl ⟨by rfl, ?_⟩) (by assumption) ?_
                        rotate_left
                        · intro w hSw; (try dsimp only at hSw); go_simp; try with_reducible rfl
                        try simp only [Act.put, List.setIfInBounds_toArray, List.set_cons_zero, List.set_cons_succ]
                        refine wpAnyH_take (i := 1) (oi := { dst := some 109, op := Op.move (Operand.tmp 15), type := _, pos := _, after := _, guard := none }) (v := ?_) rfl (by kernel_rfl) (by kernel_rfl) (by kernel_rfl) (fun _ _ _ h => h) (Or.inl ⟨by rfl, ?_⟩) (by assumption) ?_
                        rotate_left
                        · intro w hSw; (try dsimp only at hSw); go_simp; try with_reducible rfl
                        try simp only [Act.put, List.setIfInBounds_toArray, List.set_cons_zero, List.set_cons_succ]
                        refine wpAnyH_take (i := 2) (oi := { dst := some 110, op := Op.indexAddr 28 (Operand.tmp 108) (Operand.tmp 109), type := _, pos := _, after := _, guard := none }) (v := ?_) rfl (by kernel_rfl) (by kernel_rfl) (by kernel_rfl) (fun _ _ _ h => h) (Or.inl ⟨by rfl, ?_⟩) (by assumption) ?_
                        rotate_left
                        · intro w hSw; (try dsimp only at hSw); go_simp; try with_reducible rfl
                        try simp only [Act.put, List.setIfInBounds_toArray, List.set_cons_zero, List.set_cons_succ]
                        refine wpAnyH_take (i := 3) (oi := { dst := some 111, op := Op.load 4 (Operand.tmp 110), type := _, pos := _, after := _, guard := none }) (v := ?_) rfl (by kernel_rfl) (by kernel_rfl) (by kernel_rfl) (fun _ _ _ h => h) (Or.inl ⟨by rfl, ?_⟩) (by assumption) ?_
                        rotate_left
                        · intro w hSw; (try dsimp only at hSw); go_simp; try with_reducible rfl
                        try simp only [Act.put, List.setIfInBounds_toArray, List.set_cons_zero, List.set_cons_succ]
                        refine wpAnyH_take (i := 4) (oi := { dst := some 112, op := Op.move (Operand.tmp 2), type := _, pos := _, after := _, guard := none }) (v := ?_) rfl (by kernel_rfl) (by kernel_rfl) (by kernel_rfl) (fun _ _ _ h => h) (Or.inl ⟨by rfl, ?_⟩) (by assumption) ?_
                        rotate_left
                        · intro w hSw; (try dsimp only at hSw); go_simp; try with_reducible rfl
                        try simp only [Act.put, List.setIfInBounds_toArray, List.set_cons_zero, List.set_cons_succ]
                        refine wpAnyH_take (i := 5) (oi := { dst := some 113, op := Op.binOp BinOp.neq 4 (Operand.tmp 111) (Operand.tmp 112) 4, type := _, pos := _, after := _, guard := none }) (v := ?_) rfl (by kernel_rfl) (by kernel_rfl) (by kernel_rfl) (fun _ _ _ h => h) (Or.inl ⟨by rfl, ?_⟩) (by assumption) ?_
                        rotate_left
                        · intro w hSw; (try dsimp only at hSw); go_simp; try with_reducible rfl
                        try simp only [Act.put, List.setIfInBounds_toArray, List.set_cons_zero, List.set_cons_succ]
                        refine wpAnyH_take (i := 6) (oi := { dst := some 114, op := Op.move (Operand.tmp 113), type := _, pos := _, after := _, guard := none }) (v := ?_) rfl (by kernel_rfl) (by kernel_rfl) (by kernel_rfl) (fun _ _ _ h => h) (Or.inl ⟨by rfl, ?_⟩) (by assumption) ?_
                        rotate_left
                        · intro w hSw; (try dsimp only at hSw); go_simp; try with_reducible rfl
                        try simp only [Act.put, List.setIfInBounds_toArray, List.set_cons_zero, List.set_cons_succ]
                        refine wpAnyH_take (i := 7) (oi := { dst := some 115, op := Op.move (Operand.tmp 14), type := _, pos := _, after := _, guard := some (6, false) }) (v := ?_) rfl (by kernel_rfl) (by kernel_rfl) (by kernel_rfl) (fun _ _ _ h => h) (Or.inl ⟨by rfl, ?_⟩) (by assumption) ?_
                        rotate_left
                        · intro w hSw; (try dsimp only at hSw); go_simp; try with_reducible rfl
                        try simp only [Act.put, List.setIfInBounds_toArray, List.set_cons_zero, List.set_cons_succ]
                        refine wpAnyH_take (i := 8) (oi := { dst := some 116, op := Op.move (Operand.tmp 15), type := _, pos := _, after := _, guard := some (6, false) }) (v := ?_) rfl (by kernel_rfl) (by kernel_rfl) (by kernel_rfl) (fun _ _ _ h => h) (Or.inl ⟨by rfl, ?_⟩) (by assumption) ?_
                        rotate_left
                        · intro w hSw; (try dsimp only at hSw); go_simp; try with_reducible rfl
                        try simp only [Act.put, List.setIfInBounds_toArray, List.set_cons_zero, List.set_cons_succ]
                        refine wpAnyH_take (i := 9) (oi := { dst := some 117, op := Op.indexAddr 28 (Operand.tmp 115) (Operand.tmp 116), type := _, pos := _, after := _, guard := some (6, false) }) (v := ?_) rfl (by kernel_rfl) (by kernel_rfl) (by kernel_rfl) (fun _ _ _ h => h) (Or.inl ⟨by rfl, ?_⟩) (by assumption) ?_
                        rotate_left
                        · intro w hSw; (try dsimp only at hSw); go_simp; try with_reducible rfl
                        try simp only [Act.put, List.setIfInBounds_toArray, List.set_cons_zero, List.set_cons_succ]
                        refine wpAnyH_take (i := 10) (oi := { dst := some 118, op := Op.load 4 (Operand.tmp 117), type := _, pos := _, after := _, guard := some (6, false) }) (v := ?_) rfl (by kernel_rfl) (by kernel_rfl) (by kernel_rfl) (fun _ _ _ h => h) (Or.inl ⟨by rfl, ?_⟩) (by assumption) ?_
                        rotate_left
                        · intro w hSw; (try dsimp only at hSw); go_simp; try with_reducible rfl
                        try simp only [Act.put, List.setIfInBounds_toArray, List.set_cons_zero, List.set_cons_succ]
                        refine wpAnyH_take (i := 11) (oi := { dst := some 119, op := Op.move (Operand.tmp 12), type := _, pos := _, after := _, guard := some (6, false) }) (v := ?_) rfl (by kernel_rfl) (by kernel_rfl) (by kernel_rfl) (fun _ _ _ h => h) (Or.inl ⟨by rfl, ?_⟩) (by assumption) ?_
                        rotate_left
                        · intro w hSw; (try dsimp only at hSw); go_simp; try with_reducible rfl
                        try simp only [Act.put, List.setIfInBounds_toArray, List.set_cons_zero, List.set_cons_succ]
                        refine wpAnyH_take (i := 12) (oi := { dst := some 120, op := Op.move (Operand.tmp 15), type := _, pos := _, after := _, guard := some (6, false) }) (v := ?_) rfl (by kernel_rfl) (by kernel_rfl) (by kernel_rfl) (fun _ _ _ h => h) (Or.inl ⟨by rfl, ?_⟩) (by assumption) ?_
                        rotate_left
                        · intro w hSw; (try dsimp only at hSw); go_simp; try with_reducible rfl
                        try simp only [Act.put, List.setIfInBounds_toArray, List.set_cons_zero, List.set_cons_succ]
                        refine wpAnyH_take (i := 13) (oi := { dst := some 121, op := Op.indexAddr 28 (Operand.tmp 119) (Operand.tmp 120), type := _, pos := _, after := _, guard := some (6, false) }) (v := ?_) rfl (by kernel_rfl) (by kernel_rfl) (by kernel_rfl) (fun _ _ _ h => h) (Or.inl ⟨by rfl, ?_⟩) (by assumption) ?_
                        rotate_left
                        · intro w hSw; (try dsimp only at hSw); go_simp; try with_reducible rfl
                        try simp only [Act.put, List.setIfInBounds_toArray, List.set_cons_zero, List.set_cons_succ]
                        refine wpAnyH_take (i := 14) (oi := { dst := some 122, op := Op.load 4 (Operand.tmp 121), type := _, pos := _, after := _, guard := some (6, false) }) (v := ?_) rfl (by kernel_rfl) (by kernel_rfl) (by kernel_rfl) (fun _ _ _ h => h) (Or.inl ⟨by rfl, ?_⟩) (by assumption) ?_
                        rotate_left
                        · intro w hSw; (try dsimp only at hSw); go_simp; try with_reducible rfl
                        try simp only [Act.put, List.setIfInBounds_toArray, List.set_cons_zero, List.set_cons_succ]
                        refine wpAnyH_take (i := 15) (oi := { dst := some 123, op := Op.binOp BinOp.neq 4 (Operand.tmp 118) (Operand.tmp 122) 4, type := _, pos := _, after := _, guard := some (6, false) }) (v := ?_) rfl (by kernel_rfl) (by kernel_rfl) (by kernel_rfl) (fun _ _ _ h => h) (Or.inl ⟨by rfl, ?_⟩) (by assumption) ?_
                        rotate_left
                        · intro w hSw; (try dsimp only at hSw); go_simp; try with_reducible rfl
                        try simp only [Act.put, List.setIfInBounds_toArray, List.set_cons_zero, List.set_cons_succ]
                        refine wpAnyH_take (i := 16) (oi := { dst := some 124, op := Op.move (Operand.tmp 123), type := _, pos := _, after := _, guard := some (6, false) }) (v := ?_) rfl (by kernel_rfl) (by kernel_rfl) (by kernel_rfl) (fun _ _ _ h => h) (Or.inl ⟨by rfl, ?_⟩) (by assumption) ?_
                        rotate_left
                        · intro w hSw; (try dsimp only at hSw); go_simp; try with_reducible rfl
                        try simp only [Act.put, List.setIfInBounds_toArray, List.set_cons_zero, List.set_cons_succ]
                        refine wpAnyH_take (i := 17) (oi := { dst := some 125, op := Op.load 33 (Operand.tmp 7), type := _, pos := _, after := _, guard := some (16, true) }) (v := ?_) rfl (by kernel_rfl) (by kernel_rfl) (by kernel_rfl) (fun _ _ _ h => h) (Or.inl ⟨by rfl, ?_⟩) (by assumption) ?_
                        rotate_left
                        · intro w hSw; (try dsimp only at hSw); go_simp; try with_reducible rfl
                        try simp only [Act.put, List.setIfInBounds_toArray, List.set_cons_zero, List.set_cons_succ]
                        refine wpAnyH_take (i := 18) (oi := { dst := some 126, op := Op.move (Operand.tmp 1), type := _, pos := _, after := _, guard := some (16, true) }) (v := ?_) rfl (by kernel_rfl) (by kernel_rfl) (by kernel_rfl) (fun _ _ _ h => h) (Or.inl ⟨by rfl, ?_⟩) (by assumption) ?_
                        rotate_left
                        · intro w hSw; (try dsimp only at hSw); go_simp; try with_reducible rfl
                        try simp only [Act.put, List.setIfInBounds_toArray, List.set_cons_zero, List.set_cons_succ]
                        refine wpAnyH_take (i := 19) (oi := { dst := some 127, op := Op.move (Operand.tmp 15), type := _, pos := _, after := _, guard := some (16, true) }) (v := ?_) rfl (by kernel_rfl) (by kernel_rfl) (by kernel_rfl) (fun _ _ _ h => h) (Or.inl ⟨by rfl, ?_⟩) (by assumption) ?_
                        rotate_left
                        · intro w hSw; (try dsimp only at hSw); go_simp; try with_reducible rfl
                        try simp only [Act.put, List.setIfInBounds_toArray, List.set_cons_zero, List.set_cons_succ]
                        refine wpAnyH_ready (rs := [20]) (by kernel_rfl) (by simp) ?_
                        refine AllReadyH.cons (o := { dst := some 128, op := Op.call { callee := Callee.value (Operand.func 20), args := #[Operand.tmp 125, Operand.tmp 126, Operand.tmp 127], argTypes := #[33, 22, 3] }, type := _, pos := _, after := _, guard := some (16, true) }) rfl (fun K hK => ?_) AllReadyH.nil
                        go_simp
                        refine (Which_any (d + 1) _ _ t ids (k : Int) _ (HTX9.out.below HW9.out.drew) (HM9.out.below HW9.out.drew) (by omega)).mono ?_; rintro e u1 ⟨rfl, hu1⟩; rw [← HZW.out]; have HF1 := hid (show Below w9.heap.size w9 u1 from (HW9.out.drew).trans (hu1.mono (HW9.out.drew).size)); clear hu1; go_wp2_with fail
                        refine hK.out _ _ (by exact HSF.out _ HF1.out) (fun hHeld => ?_)
                        clear hK K
                        try simp only [Act.put, List.setIfInBounds_toArray, List.set_cons_zero, List.set_cons_succ]
                        refine wpAnyH_take (i := 21) (oi := { dst := some 129, op := Op.binOp BinOp.geq 3 (Operand.tmp 128) (Operand.const (Value.int IntKind.i64 0)) 3, type := _, pos := _, after := _, guard := some (16, true) }) (v := ?_) rfl (by kernel_rfl) (by kernel_rfl) (by kernel_rfl) (fun _ _ _ h => h) (Or.inl ⟨by rfl, ?_⟩) (by assumption) ?_
                        rotate_left
                        · intro w hSw; (try dsimp only at hSw); go_simp; try with_reducible rfl
                        try simp only [Act.put, List.setIfInBounds_toArray, List.set_cons_zero, List.set_cons_succ]
                        refine wpAnyH_take (i := 22) (oi := { dst := some 130, op := Op.pick (Operand.tmp 124) (Operand.tmp 129) (Operand.const (Value.bool false)), type := _, pos := _, after := _, guard := some (6, false) }) (v := ?_) rfl (by kernel_rfl) (by kernel_rfl) (by kernel_rfl) (fun _ _ _ h => h) (Or.inl ⟨by rfl, ?_⟩) (by assumption) ?_
                        rotate_left
                        · intro w hSw; (try dsimp only at hSw); go_simp; try with_reducible rfl
                        try simp only [Act.put, List.setIfInBounds_toArray, List.set_cons_zero, List.set_cons_succ]
                        refine wpAnyH_take (i := 23) (oi := { dst := some 131, op := Op.pick (Operand.tmp 114) (Operand.const (Value.bool true)) (Operand.tmp 130), type := _, pos := _, after := _, guard := none }) (v := ?_) rfl (by kernel_rfl) (by kernel_rfl) (by kernel_rfl) (fun _ _ _ h => h) (Or.inl ⟨by rfl, ?_⟩) (by assumption) ?_
                        rotate_left
                        · intro w hSw; (try dsimp only at hSw); go_simp; try with_reducible rfl
                        try simp only [Act.put, List.setIfInBounds_toArray, List.set_cons_zero, List.set_cons_succ]
                        refine wpAnyH_take (i := 24) (oi := { dst := some 132, op := Op.move (Operand.tmp 131), type := _, pos := _, after := _, guard := none }) (v := ?_) rfl (by kernel_rfl) (by kernel_rfl) (by kernel_rfl) (fun _ _ _ h => h) (Or.inl ⟨by rfl, ?_⟩) (by assumption) ?_
                        rotate_left
                        · intro w hSw; (try dsimp only at hSw); go_simp; try with_reducible rfl
                        try simp only [Act.put, List.setIfInBounds_toArray, List.set_cons_zero, List.set_cons_succ]
                        refine wpAnyH_take (i := 25) (oi := { dst := some 133, op := Op.load 33 (Operand.tmp 7), type := _, pos := _, after := _, guard := some (24, false) }) (v := ?_) rfl (by kernel_rfl) (by kernel_rfl) (by kernel_rfl) (fun _ _ _ h => h) (Or.inl ⟨by rfl, ?_⟩) (by assumption) ?_
                        rotate_left
                        · intro w hSw; (try dsimp only at hSw); go_simp; try with_reducible rfl
                        try simp only [Act.put, List.setIfInBounds_toArray, List.set_cons_zero, List.set_cons_succ]
                        refine wpAnyH_take (i := 26) (oi := { dst := some 134, op := Op.move (Operand.tmp 1), type := _, pos := _, after := _, guard := some (24, false) }) (v := ?_) rfl (by kernel_rfl) (by kernel_rfl) (by kernel_rfl) (fun _ _ _ h => h) (Or.inl ⟨by rfl, ?_⟩) (by assumption) ?_
                        rotate_left
                        · intro w hSw; (try dsimp only at hSw); go_simp; try with_reducible rfl
                        try simp only [Act.put, List.setIfInBounds_toArray, List.set_cons_zero, List.set_cons_succ]
                        refine wpAnyH_take (i := 27) (oi := { dst := some 135, op := Op.move (Operand.tmp 15), type := _, pos := _, after := _, guard := some (24, false) }) (v := ?_) rfl (by kernel_rfl) (by kernel_rfl) (by kernel_rfl) (fun _ _ _ h => h) (Or.inl ⟨by rfl, ?_⟩) (by assumption) ?_
                        rotate_left
                        · intro w hSw; (try dsimp only at hSw); go_simp; try with_reducible rfl
                        try simp only [Act.put, List.setIfInBounds_toArray, List.set_cons_zero, List.set_cons_succ]
                        refine wpAnyH_ready (rs := [28]) (by kernel_rfl) (by simp) ?_
                        refine AllReadyH.cons (o := { dst := some 136, op := Op.call { callee := Callee.value (Operand.func 20), args := #[Operand.tmp 133, Operand.tmp 134, Operand.tmp 135], argTypes := #[33, 22, 3] }, type := _, pos := _, after := _, guard := some (24, false) }) rfl (fun K hK => ?_) AllReadyH.nil
                        go_simp
                        refine (Which_any (d + 1) _ _ t ids (k : Int) _ (HTX9.out.below HF1.out) (HM9.out.below HF1.out) (by omega)).mono ?_; rintro e u2 ⟨rfl, hu2⟩; rw [← HZW.out]; have HF2 := hid (show Below w9.heap.size w9 u2 from (HF1.out).trans (hu2.mono (HF1.out).size)); clear hu2; go_wp2_with fail
                        refine hK.out _ _ (by exact HSF.out _ HF2.out) (fun hHeld => ?_)
                        clear hK K
                        try simp only [Act.put, List.setIfInBounds_toArray, List.set_cons_zero, List.set_cons_succ]
                        refine wpAnyH_take (i := 29) (oi := { dst := some 137, op := Op.binOp BinOp.lss 3 (Operand.tmp 136) (Operand.const (Value.int IntKind.i64 0)) 3, type := _, pos := _, after := _, guard := some (24, false) }) (v := ?_) rfl (by kernel_rfl) (by kernel_rfl) (by kernel_rfl) (fun _ _ _ h => h) (Or.inl ⟨by rfl, ?_⟩) (by assumption) ?_
                        rotate_left
                        · intro w hSw; (try dsimp only at hSw); go_simp; try with_reducible rfl
                        try simp only [Act.put, List.setIfInBounds_toArray, List.set_cons_zero, List.set_cons_succ]
                        refine wpAnyH_take (i := 30) (oi := { dst := some 138, op := Op.move (Operand.tmp 137), type := _, pos := _, after := _, guard := some (24, false) }) (v := ?_) rfl (by kernel_rfl) (by kernel_rfl) (by kernel_rfl) (fun _ _ _ h => h) (Or.inl ⟨by rfl, ?_⟩) (by assumption) ?_
                        rotate_left
                        · intro w hSw; (try dsimp only at hSw); go_simp; try with_reducible rfl
                        try simp only [Act.put, List.setIfInBounds_toArray, List.set_cons_zero, List.set_cons_succ]
                        refine wpAnyH_take (i := 31) (oi := { dst := some 139, op := Op.move (Operand.tmp 12), type := _, pos := _, after := _, guard := some (30, true) }) (v := ?_) rfl (by kernel_rfl) (by kernel_rfl) (by kernel_rfl) (fun _ _ _ h => h) (Or.inl ⟨by rfl, ?_⟩) (by assumption) ?_
                        rotate_left
                        · intro w hSw; (try dsimp only at hSw); go_simp; try with_reducible rfl
                        try simp only [Act.put, List.setIfInBounds_toArray, List.set_cons_zero, List.set_cons_succ]
                        refine wpAnyH_take (i := 32) (oi := { dst := some 140, op := Op.move (Operand.tmp 15), type := _, pos := _, after := _, guard := some (30, true) }) (v := ?_) rfl (by kernel_rfl) (by kernel_rfl) (by kernel_rfl) (fun _ _ _ h => h) (Or.inl ⟨by rfl, ?_⟩) (by assumption) ?_
                        rotate_left
                        · intro w hSw; (try dsimp only at hSw); go_simp; try with_reducible rfl
                        try simp only [Act.put, List.setIfInBounds_toArray, List.set_cons_zero, List.set_cons_succ]
                        refine wpAnyH_take (i := 33) (oi := { dst := some 141, op := Op.indexAddr 28 (Operand.tmp 139) (Operand.tmp 140), type := _, pos := _, after := _, guard := some (30, true) }) (v := ?_) rfl (by kernel_rfl) (by kernel_rfl) (by kernel_rfl) (fun _ _ _ h => h) (Or.inl ⟨by rfl, ?_⟩) (by assumption) ?_
                        rotate_left
                        · intro w hSw; (try dsimp only at hSw); go_simp; try with_reducible rfl
                        try simp only [Act.put, List.setIfInBounds_toArray, List.set_cons_zero, List.set_cons_succ]
                        refine wpAnyH_take (i := 34) (oi := { dst := some 142, op := Op.load 4 (Operand.tmp 141), type := _, pos := _, after := _, guard := some (30, true) }) (v := ?_) rfl (by kernel_rfl) (by kernel_rfl) (by kernel_rfl) (fun _ _ _ h => h) (Or.inl ⟨by rfl, ?_⟩) (by assumption) ?_
                        rotate_left
                        · intro w hSw; (try dsimp only at hSw); go_simp; try with_reducible rfl
                        try simp only [Act.put, List.setIfInBounds_toArray, List.set_cons_zero, List.set_cons_succ]
                        refine wpAnyH_take (i := 35) (oi := { dst := some 143, op := Op.unOp UnOp.not 4 (Operand.tmp 142), type := _, pos := _, after := _, guard := some (30, true) }) (v := ?_) rfl (by kernel_rfl) (by kernel_rfl) (by kernel_rfl) (fun _ _ _ h => h) (Or.inl ⟨by rfl, ?_⟩) (by assumption) ?_
                        rotate_left
                        · intro w hSw; (try dsimp only at hSw); go_simp; try with_reducible rfl
                        try simp only [Act.put, List.setIfInBounds_toArray, List.set_cons_zero, List.set_cons_succ]
                        refine wpAnyH_take (i := 36) (oi := { dst := some 144, op := Op.move (Operand.tmp 143), type := _, pos := _, after := _, guard := some (30, true) }) (v := ?_) rfl (by kernel_rfl) (by kernel_rfl) (by kernel_rfl) (fun _ _ _ h => h) (Or.inl ⟨by rfl, ?_⟩) (by assumption) ?_
                        rotate_left
                        · intro w hSw; (try dsimp only at hSw); go_simp; try with_reducible rfl
                        try simp only [Act.put, List.setIfInBounds_toArray, List.set_cons_zero, List.set_cons_succ]
                        refine wpAnyH_take (i := 37) (oi := { dst := some 145, op := Op.move (Operand.tmp 14), type := _, pos := _, after := _, guard := some (36, false) }) (v := ?_) rfl (by kernel_rfl) (by kernel_rfl) (by kernel_rfl) (fun _ _ _ h => h) (Or.inl ⟨by rfl, ?_⟩) (by assumption) ?_
                        rotate_left
                        · intro w hSw; (try dsimp only at hSw); go_simp; try with_reducible rfl
                        try simp only [Act.put, List.setIfInBounds_toArray, List.set_cons_zero, List.set_cons_succ]
                        refine wpAnyH_take (i := 38) (oi := { dst := some 146, op := Op.move (Operand.tmp 15), type := _, pos := _, after := _, guard := some (36, false) }) (v := ?_) rfl (by kernel_rfl) (by kernel_rfl) (by kernel_rfl) (fun _ _ _ h => h) (Or.inl ⟨by rfl, ?_⟩) (by assumption) ?_
                        rotate_left
                        · intro w hSw; (try dsimp only at hSw); go_simp; try with_reducible rfl
                        try simp only [Act.put, List.setIfInBounds_toArray, List.set_cons_zero, List.set_cons_succ]
                        refine wpAnyH_take (i := 39) (oi := { dst := some 147, op := Op.indexAddr 28 (Operand.tmp 145) (Operand.tmp 146), type := _, pos := _, after := _, guard := some (36, false) }) (v := ?_) rfl (by kernel_rfl) (by kernel_rfl) (by kernel_rfl) (fun _ _ _ h => h) (Or.inl ⟨by rfl, ?_⟩) (by assumption) ?_
                        rotate_left
                        · intro w hSw; (try dsimp only at hSw); go_simp; try with_reducible rfl
                        try simp only [Act.put, List.setIfInBounds_toArray, List.set_cons_zero, List.set_cons_succ]
                        refine wpAnyH_take (i := 40) (oi := { dst := some 148, op := Op.load 4 (Operand.tmp 147), type := _, pos := _, after := _, guard := some (36, false) }) (v := ?_) rfl (by kernel_rfl) (by kernel_rfl) (by kernel_rfl) (fun _ _ _ h => h) (Or.inl ⟨by rfl, ?_⟩) (by assumption) ?_
                        rotate_left
                        · intro w hSw; (try dsimp only at hSw); go_simp; try with_reducible rfl
                        try simp only [Act.put, List.setIfInBounds_toArray, List.set_cons_zero, List.set_cons_succ]
                        refine wpAnyH_take (i := 41) (oi := { dst := some 149, op := Op.move (Operand.tmp 2), type := _, pos := _, after := _, guard := some (36, false) }) (v := ?_) rfl (by kernel_rfl) (by kernel_rfl) (by kernel_rfl) (fun _ _ _ h => h) (Or.inl ⟨by rfl, ?_⟩) (by assumption) ?_
                        rotate_left
                        · intro w hSw; (try dsimp only at hSw); go_simp; try with_reducible rfl
                        try simp only [Act.put, List.setIfInBounds_toArray, List.set_cons_zero, List.set_cons_succ]
                        refine wpAnyH_take (i := 42) (oi := { dst := some 150, op := Op.binOp BinOp.neq 4 (Operand.tmp 148) (Operand.tmp 149) 4, type := _, pos := _, after := _, guard := some (36, false) }) (v := ?_) rfl (by kernel_rfl) (by kernel_rfl) (by kernel_rfl) (fun _ _ _ h => h) (Or.inl ⟨by rfl, ?_⟩) (by assumption) ?_
                        rotate_left
                        · intro w hSw; (try dsimp only at hSw); go_simp; try with_reducible rfl
                        try simp only [Act.put, List.setIfInBounds_toArray, List.set_cons_zero, List.set_cons_succ]
                        refine wpAnyH_take (i := 43) (oi := { dst := some 151, op := Op.pick (Operand.tmp 144) (Operand.const (Value.bool true)) (Operand.tmp 150), type := _, pos := _, after := _, guard := some (30, true) }) (v := ?_) rfl (by kernel_rfl) (by kernel_rfl) (by kernel_rfl) (fun _ _ _ h => h) (Or.inl ⟨by rfl, ?_⟩) (by assumption) ?_
                        rotate_left
                        · intro w hSw; (try dsimp only at hSw); go_simp; try with_reducible rfl
                        try simp only [Act.put, List.setIfInBounds_toArray, List.set_cons_zero, List.set_cons_succ]
                        refine wpAnyH_take (i := 44) (oi := { dst := some 152, op := Op.pick (Operand.tmp 138) (Operand.tmp 151) (Operand.const (Value.bool false)), type := _, pos := _, after := _, guard := some (24, false) }) (v := ?_) rfl (by kernel_rfl) (by kernel_rfl) (by kernel_rfl) (fun _ _ _ h => h) (Or.inl ⟨by rfl, ?_⟩) (by assumption) ?_
                        rotate_left
                        · intro w hSw; (try dsimp only at hSw); go_simp; try with_reducible rfl
                        try simp only [Act.put, List.setIfInBounds_toArray, List.set_cons_zero, List.set_cons_succ]
                        refine wpAnyH_take (i := 45) (oi := { dst := some 153, op := Op.pick (Operand.tmp 132) (Operand.const (Value.bool true)) (Operand.tmp 152), type := _, pos := _, after := _, guard := none }) (v := ?_) rfl (by kernel_rfl) (by kernel_rfl) (by kernel_rfl) (fun _ _ _ h => h) (Or.inl ⟨by rfl, ?_⟩) (by assumption) ?_
                        rotate_left
                        · intro w hSw; (try dsimp only at hSw); go_simp; try with_reducible rfl
                        try simp only [Act.put, List.setIfInBounds_toArray, List.set_cons_zero, List.set_cons_succ]
                        refine wpAnyH_done (by kernel_rfl) ?_ _
                        all_goals
                          go_wp2_with fail
                          go_roundw
                          case rel => exact ⟨k + 1, by omega, by omega, by go_num, HF2⟩
                          case measure => simp [intOf]; omega
                    · rw [if_neg hz0] at hcc
                      have HSF := hid (show ∀ Y, Below w9.heap.size w9 Y → Y.cell? ⟨p, 0, none⟩ = some (.slice I3 t.ig.length ic3) ∧ Y.cell? ⟨p, 1, none⟩ = some (.slice K3 t.kp.length kc3) ∧ Y.cell? ⟨p, 2, none⟩ = some (.slice A3 t.rs.length c3) ∧ Y.cell? ⟨ba, oa + k, none⟩ = some (.bool x) ∧ Y.cell? ⟨bb, ob + k, none⟩ = some (.bool br) ∧ Y.cell? ⟨bc, oc + k, none⟩ = some (.bool x) from fun Y hY => by
                        obtain ⟨x0, x1, x2⟩ := HX9.out Y hY
                        exact ⟨x0, x1, x2, (cell_same (hY.block ba HBK.out.1)).trans hca, (cell_same (hY.block bb HBK.out.2.1)).trans hcb, (cell_same (hY.block bc HBK.out.2.2)).trans hcc⟩)
                      have bz1 : decide (zw < 0) = false := decide_eq_false hz0
                      clear hfa hfb hfc hx hca hcb hcc hba hbb hbc hhk hzw hz0
                      go_wp2_with fail
                      refine wp_region_held_drew (S := (fun Y => Y.cell? ⟨p, 0, none⟩ = some (.slice I3 t.ig.length ic3) ∧ Y.cell? ⟨p, 1, none⟩ = some (.slice K3 t.kp.length kc3) ∧ Y.cell? ⟨p, 2, none⟩ = some (.slice A3 t.rs.length c3) ∧ Y.cell? ⟨ba, oa + k, none⟩ = some (.bool x) ∧ Y.cell? ⟨bb, ob + k, none⟩ = some (.bool br) ∧ Y.cell? ⟨bc, oc + k, none⟩ = some (.bool x))) (by kernel_rfl) (by exact HSF.out _ HW9.out.drew) (fun hHeld => ?_)
                      refine wpAnyH_take (i := 0) (oi := { dst := some 108, op := Op.move (Operand.tmp 13), type := _, pos := _, after := _, guard := none }) (v := ?_) rfl (by kernel_rfl) (by kernel_rfl) (by kernel_rfl) (fun _ _ _ h => h) (Or.inl ⟨by rfl, ?_⟩) (by assumption) ?_
                      rotate_left
                      · intro w hSw; (try dsimp only at hSw); go_simp; try with_reducible rfl
                      try simp only [Act.put, List.setIfInBounds_toArray, List.set_cons_zero, List.set_cons_succ]
                      refine wpAnyH_take (i := 1) (oi := { dst := some 109, op := Op.move (Operand.tmp 15), type := _, pos := _, after := _, guard := none }) (v := ?_) rfl (by kernel_rfl) (by kernel_rfl) (by kernel_rfl) (fun _ _ _ h => h) (Or.inl ⟨by rfl, ?_⟩) (by assumption) ?_
                      rotate_left
                      · intro w hSw; (try dsimp only at hSw); go_simp; try with_reducible rfl
                      try simp only [Act.put, List.setIfInBounds_toArray, List.set_cons_zero, List.set_cons_succ]
                      refine wpAnyH_take (i := 2) (oi := { dst := some 110, op := Op.indexAddr 28 (Operand.tmp 108) (Operand.tmp 109), type := _, pos := _, after := _, guard := none }) (v := ?_) rfl (by kernel_rfl) (by kernel_rfl) (by kernel_rfl) (fun _ _ _ h => h) (Or.inl ⟨by rfl, ?_⟩) (by assumption) ?_
                      rotate_left
                      · intro w hSw; (try dsimp only at hSw); go_simp; try with_reducible rfl
                      try simp only [Act.put, List.setIfInBounds_toArray, List.set_cons_zero, List.set_cons_succ]
                      refine wpAnyH_take (i := 3) (oi := { dst := some 111, op := Op.load 4 (Operand.tmp 110), type := _, pos := _, after := _, guard := none }) (v := ?_) rfl (by kernel_rfl) (by kernel_rfl) (by kernel_rfl) (fun _ _ _ h => h) (Or.inl ⟨by rfl, ?_⟩) (by assumption) ?_
                      rotate_left
                      · intro w hSw; (try dsimp only at hSw); go_simp; try with_reducible rfl
                      try simp only [Act.put, List.setIfInBounds_toArray, List.set_cons_zero, List.set_cons_succ]
                      refine wpAnyH_take (i := 4) (oi := { dst := some 112, op := Op.move (Operand.tmp 2), type := _, pos := _, after := _, guard := none }) (v := ?_) rfl (by kernel_rfl) (by kernel_rfl) (by kernel_rfl) (fun _ _ _ h => h) (Or.inl ⟨by rfl, ?_⟩) (by assumption) ?_
                      rotate_left
                      · intro w hSw; (try dsimp only at hSw); go_simp; try with_reducible rfl
                      try simp only [Act.put, List.setIfInBounds_toArray, List.set_cons_zero, List.set_cons_succ]
                      refine wpAnyH_take (i := 5) (oi := { dst := some 113, op := Op.binOp BinOp.neq 4 (Operand.tmp 111) (Operand.tmp 112) 4, type := _, pos := _, after := _, guard := none }) (v := ?_) rfl (by kernel_rfl) (by kernel_rfl) (by kernel_rfl) (fun _ _ _ h => h) (Or.inl ⟨by rfl, ?_⟩) (by assumption) ?_
                      rotate_left
                      · intro w hSw; (try dsimp only at hSw); go_simp; try with_reducible rfl
                      try simp only [Act.put, List.setIfInBounds_toArray, List.set_cons_zero, List.set_cons_succ]
                      refine wpAnyH_take (i := 6) (oi := { dst := some 114, op := Op.move (Operand.tmp 113), type := _, pos := _, after := _, guard := none }) (v := ?_) rfl (by kernel_rfl) (by kernel_rfl) (by kernel_rfl) (fun _ _ _ h => h) (Or.inl ⟨by rfl, ?_⟩) (by assumption) ?_
                      rotate_left
                      · intro w hSw; (try dsimp only at hSw); go_simp; try with_reducible rfl
                      try simp only [Act.put, List.setIfInBounds_toArray, List.set_cons_zero, List.set_cons_succ]
                      refine wpAnyH_take (i := 7) (oi := { dst := some 115, op := Op.move (Operand.tmp 14), type := _, pos := _, after := _, guard := some (6, false) }) (v := ?_) rfl (by kernel_rfl) (by kernel_rfl) (by kernel_rfl) (fun _ _ _ h => h) (Or.inl ⟨by rfl, ?_⟩) (by assumption) ?_
                      rotate_left
                      · intro w hSw; (try dsimp only at hSw); go_simp; try with_reducible rfl
                      try simp only [Act.put, List.setIfInBounds_toArray, List.set_cons_zero, List.set_cons_succ]
                      refine wpAnyH_take (i := 8) (oi := { dst := some 116, op := Op.move (Operand.tmp 15), type := _, pos := _, after := _, guard := some (6, false) }) (v := ?_) rfl (by kernel_rfl) (by kernel_rfl) (by kernel_rfl) (fun _ _ _ h => h) (Or.inl ⟨by rfl, ?_⟩) (by assumption) ?_
                      rotate_left
                      · intro w hSw; (try dsimp only at hSw); go_simp; try with_reducible rfl
                      try simp only [Act.put, List.setIfInBounds_toArray, List.set_cons_zero, List.set_cons_succ]
                      refine wpAnyH_take (i := 9) (oi := { dst := some 117, op := Op.indexAddr 28 (Operand.tmp 115) (Operand.tmp 116), type := _, pos := _, after := _, guard := some (6, false) }) (v := ?_) rfl (by kernel_rfl) (by kernel_rfl) (by kernel_rfl) (fun _ _ _ h => h) (Or.inl ⟨by rfl, ?_⟩) (by assumption) ?_
                      rotate_left
                      · intro w hSw; (try dsimp only at hSw); go_simp; try with_reducible rfl
                      try simp only [Act.put, List.setIfInBounds_toArray, List.set_cons_zero, List.set_cons_succ]
                      refine wpAnyH_take (i := 10) (oi := { dst := some 118, op := Op.load 4 (Operand.tmp 117), type := _, pos := _, after := _, guard := some (6, false) }) (v := ?_) rfl (by kernel_rfl) (by kernel_rfl) (by kernel_rfl) (fun _ _ _ h => h) (Or.inl ⟨by rfl, ?_⟩) (by assumption) ?_
                      rotate_left
                      · intro w hSw; (try dsimp only at hSw); go_simp; try with_reducible rfl
                      try simp only [Act.put, List.setIfInBounds_toArray, List.set_cons_zero, List.set_cons_succ]
                      refine wpAnyH_take (i := 11) (oi := { dst := some 119, op := Op.move (Operand.tmp 12), type := _, pos := _, after := _, guard := some (6, false) }) (v := ?_) rfl (by kernel_rfl) (by kernel_rfl) (by kernel_rfl) (fun _ _ _ h => h) (Or.inl ⟨by rfl, ?_⟩) (by assumption) ?_
                      rotate_left
                      · intro w hSw; (try dsimp only at hSw); go_simp; try with_reducible rfl
                      try simp only [Act.put, List.setIfInBounds_toArray, List.set_cons_zero, List.set_cons_succ]
                      refine wpAnyH_take (i := 12) (oi := { dst := some 120, op := Op.move (Operand.tmp 15), type := _, pos := _, after := _, guard := some (6, false) }) (v := ?_) rfl (by kernel_rfl) (by kernel_rfl) (by kernel_rfl) (fun _ _ _ h => h) (Or.inl ⟨by rfl, ?_⟩) (by assumption) ?_
                      rotate_left
                      · intro w hSw; (try dsimp only at hSw); go_simp; try with_reducible rfl
                      try simp only [Act.put, List.setIfInBounds_toArray, List.set_cons_zero, List.set_cons_succ]
                      refine wpAnyH_take (i := 13) (oi := { dst := some 121, op := Op.indexAddr 28 (Operand.tmp 119) (Operand.tmp 120), type := _, pos := _, after := _, guard := some (6, false) }) (v := ?_) rfl (by kernel_rfl) (by kernel_rfl) (by kernel_rfl) (fun _ _ _ h => h) (Or.inl ⟨by rfl, ?_⟩) (by assumption) ?_
                      rotate_left
                      · intro w hSw; (try dsimp only at hSw); go_simp; try with_reducible rfl
                      try simp only [Act.put, List.setIfInBounds_toArray, List.set_cons_zero, List.set_cons_succ]
                      refine wpAnyH_take (i := 14) (oi := { dst := some 122, op := Op.load 4 (Operand.tmp 121), type := _, pos := _, after := _, guard := some (6, false) }) (v := ?_) rfl (by kernel_rfl) (by kernel_rfl) (by kernel_rfl) (fun _ _ _ h => h) (Or.inl ⟨by rfl, ?_⟩) (by assumption) ?_
                      rotate_left
                      · intro w hSw; (try dsimp only at hSw); go_simp; try with_reducible rfl
                      try simp only [Act.put, List.setIfInBounds_toArray, List.set_cons_zero, List.set_cons_succ]
                      refine wpAnyH_take (i := 15) (oi := { dst := some 123, op := Op.binOp BinOp.neq 4 (Operand.tmp 118) (Operand.tmp 122) 4, type := _, pos := _, after := _, guard := some (6, false) }) (v := ?_) rfl (by kernel_rfl) (by kernel_rfl) (by kernel_rfl) (fun _ _ _ h => h) (Or.inl ⟨by rfl, ?_⟩) (by assumption) ?_
                      rotate_left
                      · intro w hSw; (try dsimp only at hSw); go_simp; try with_reducible rfl
                      try simp only [Act.put, List.setIfInBounds_toArray, List.set_cons_zero, List.set_cons_succ]
                      refine wpAnyH_take (i := 16) (oi := { dst := some 124, op := Op.move (Operand.tmp 123), type := _, pos := _, after := _, guard := some (6, false) }) (v := ?_) rfl (by kernel_rfl) (by kernel_rfl) (by kernel_rfl) (fun _ _ _ h => h) (Or.inl ⟨by rfl, ?_⟩) (by assumption) ?_
                      rotate_left
                      · intro w hSw; (try dsimp only at hSw); go_simp; try with_reducible rfl
                      try simp only [Act.put, List.setIfInBounds_toArray, List.set_cons_zero, List.set_cons_succ]
                      refine wpAnyH_take (i := 17) (oi := { dst := some 125, op := Op.load 33 (Operand.tmp 7), type := _, pos := _, after := _, guard := some (16, true) }) (v := undef) rfl (by kernel_rfl) (by kernel_rfl) (by kernel_rfl) (fun _ _ _ h => h) (Or.inr ⟨by rfl, rfl⟩) (by assumption) ?_
                      try simp only [Act.put, List.setIfInBounds_toArray, List.set_cons_zero, List.set_cons_succ]
                      refine wpAnyH_take (i := 18) (oi := { dst := some 126, op := Op.move (Operand.tmp 1), type := _, pos := _, after := _, guard := some (16, true) }) (v := undef) rfl (by kernel_rfl) (by kernel_rfl) (by kernel_rfl) (fun _ _ _ h => h) (Or.inr ⟨by rfl, rfl⟩) (by assumption) ?_
                      try simp only [Act.put, List.setIfInBounds_toArray, List.set_cons_zero, List.set_cons_succ]
                      refine wpAnyH_take (i := 19) (oi := { dst := some 127, op := Op.move (Operand.tmp 15), type := _, pos := _, after := _, guard := some (16, true) }) (v := undef) rfl (by kernel_rfl) (by kernel_rfl) (by kernel_rfl) (fun _ _ _ h => h) (Or.inr ⟨by rfl, rfl⟩) (by assumption) ?_
                      try simp only [Act.put, List.setIfInBounds_toArray, List.set_cons_zero, List.set_cons_succ]
                      refine wpAnyH_take (i := 20) (oi := { dst := some 128, op := Op.call { callee := Callee.value (Operand.func 20), args := #[Operand.tmp 125, Operand.tmp 126, Operand.tmp 127], argTypes := #[33, 22, 3] }, type := _, pos := _, after := _, guard := some (16, true) }) (v := undef) rfl (by kernel_rfl) (by kernel_rfl) (by kernel_rfl) (fun _ _ _ h => h) (Or.inr ⟨by rfl, rfl⟩) (by assumption) ?_
                      try simp only [Act.put, List.setIfInBounds_toArray, List.set_cons_zero, List.set_cons_succ]
                      refine wpAnyH_take (i := 21) (oi := { dst := some 129, op := Op.binOp BinOp.geq 3 (Operand.tmp 128) (Operand.const (Value.int IntKind.i64 0)) 3, type := _, pos := _, after := _, guard := some (16, true) }) (v := undef) rfl (by kernel_rfl) (by kernel_rfl) (by kernel_rfl) (fun _ _ _ h => h) (Or.inr ⟨by rfl, rfl⟩) (by assumption) ?_
                      try simp only [Act.put, List.setIfInBounds_toArray, List.set_cons_zero, List.set_cons_succ]
                      refine wpAnyH_take (i := 22) (oi := { dst := some 130, op := Op.pick (Operand.tmp 124) (Operand.tmp 129) (Operand.const (Value.bool false)), type := _, pos := _, after := _, guard := some (6, false) }) (v := ?_) rfl (by kernel_rfl) (by kernel_rfl) (by kernel_rfl) (fun _ _ _ h => h) (Or.inl ⟨by rfl, ?_⟩) (by assumption) ?_
                      rotate_left
                      · intro w hSw; (try dsimp only at hSw); go_simp; try with_reducible rfl
                      try simp only [Act.put, List.setIfInBounds_toArray, List.set_cons_zero, List.set_cons_succ]
                      refine wpAnyH_take (i := 23) (oi := { dst := some 131, op := Op.pick (Operand.tmp 114) (Operand.const (Value.bool true)) (Operand.tmp 130), type := _, pos := _, after := _, guard := none }) (v := ?_) rfl (by kernel_rfl) (by kernel_rfl) (by kernel_rfl) (fun _ _ _ h => h) (Or.inl ⟨by rfl, ?_⟩) (by assumption) ?_
                      rotate_left
                      · intro w hSw; (try dsimp only at hSw); go_simp; try with_reducible rfl
                      try simp only [Act.put, List.setIfInBounds_toArray, List.set_cons_zero, List.set_cons_succ]
                      refine wpAnyH_take (i := 24) (oi := { dst := some 132, op := Op.move (Operand.tmp 131), type := _, pos := _, after := _, guard := none }) (v := ?_) rfl (by kernel_rfl) (by kernel_rfl) (by kernel_rfl) (fun _ _ _ h => h) (Or.inl ⟨by rfl, ?_⟩) (by assumption) ?_
                      rotate_left
                      · intro w hSw; (try dsimp only at hSw); go_simp; try with_reducible rfl
                      try simp only [Act.put, List.setIfInBounds_toArray, List.set_cons_zero, List.set_cons_succ]
                      refine wpAnyH_take (i := 25) (oi := { dst := some 133, op := Op.load 33 (Operand.tmp 7), type := _, pos := _, after := _, guard := some (24, false) }) (v := ?_) rfl (by kernel_rfl) (by kernel_rfl) (by kernel_rfl) (fun _ _ _ h => h) (Or.inl ⟨by rfl, ?_⟩) (by assumption) ?_
                      rotate_left
                      · intro w hSw; (try dsimp only at hSw); go_simp; try with_reducible rfl
                      try simp only [Act.put, List.setIfInBounds_toArray, List.set_cons_zero, List.set_cons_succ]
                      refine wpAnyH_take (i := 26) (oi := { dst := some 134, op := Op.move (Operand.tmp 1), type := _, pos := _, after := _, guard := some (24, false) }) (v := ?_) rfl (by kernel_rfl) (by kernel_rfl) (by kernel_rfl) (fun _ _ _ h => h) (Or.inl ⟨by rfl, ?_⟩) (by assumption) ?_
                      rotate_left
                      · intro w hSw; (try dsimp only at hSw); go_simp; try with_reducible rfl
                      try simp only [Act.put, List.setIfInBounds_toArray, List.set_cons_zero, List.set_cons_succ]
                      refine wpAnyH_take (i := 27) (oi := { dst := some 135, op := Op.move (Operand.tmp 15), type := _, pos := _, after := _, guard := some (24, false) }) (v := ?_) rfl (by kernel_rfl) (by kernel_rfl) (by kernel_rfl) (fun _ _ _ h => h) (Or.inl ⟨by rfl, ?_⟩) (by assumption) ?_
                      rotate_left
                      · intro w hSw; (try dsimp only at hSw); go_simp; try with_reducible rfl
                      try simp only [Act.put, List.setIfInBounds_toArray, List.set_cons_zero, List.set_cons_succ]
                      refine wpAnyH_ready (rs := [28]) (by kernel_rfl) (by simp) ?_
                      refine AllReadyH.cons (o := { dst := some 136, op := Op.call { callee := Callee.value (Operand.func 20), args := #[Operand.tmp 133, Operand.tmp 134, Operand.tmp 135], argTypes := #[33, 22, 3] }, type := _, pos := _, after := _, guard := some (24, false) }) rfl (fun K hK => ?_) AllReadyH.nil
                      go_simp
                      refine (Which_any (d + 1) _ _ t ids (k : Int) _ (HTX9.out.below HW9.out.drew) (HM9.out.below HW9.out.drew) (by omega)).mono ?_; rintro e u1 ⟨rfl, hu1⟩; rw [← HZW.out]; have HF1 := hid (show Below w9.heap.size w9 u1 from (HW9.out.drew).trans (hu1.mono (HW9.out.drew).size)); clear hu1; go_wp2_with fail
                      refine hK.out _ _ (by exact HSF.out _ HF1.out) (fun hHeld => ?_)
                      clear hK K
                      try simp only [Act.put, List.setIfInBounds_toArray, List.set_cons_zero, List.set_cons_succ]
                      refine wpAnyH_take (i := 29) (oi := { dst := some 137, op := Op.binOp BinOp.lss 3 (Operand.tmp 136) (Operand.const (Value.int IntKind.i64 0)) 3, type := _, pos := _, after := _, guard := some (24, false) }) (v := ?_) rfl (by kernel_rfl) (by kernel_rfl) (by kernel_rfl) (fun _ _ _ h => h) (Or.inl ⟨by rfl, ?_⟩) (by assumption) ?_
                      rotate_left
                      · intro w hSw; (try dsimp only at hSw); go_simp; try with_reducible rfl
                      try simp only [Act.put, List.setIfInBounds_toArray, List.set_cons_zero, List.set_cons_succ]
                      refine wpAnyH_take (i := 30) (oi := { dst := some 138, op := Op.move (Operand.tmp 137), type := _, pos := _, after := _, guard := some (24, false) }) (v := ?_) rfl (by kernel_rfl) (by kernel_rfl) (by kernel_rfl) (fun _ _ _ h => h) (Or.inl ⟨by rfl, ?_⟩) (by assumption) ?_
                      rotate_left
                      · intro w hSw; (try dsimp only at hSw); go_simp; try with_reducible rfl
                      try simp only [Act.put, List.setIfInBounds_toArray, List.set_cons_zero, List.set_cons_succ]
                      refine wpAnyH_take (i := 31) (oi := { dst := some 139, op := Op.move (Operand.tmp 12), type := _, pos := _, after := _, guard := some (30, true) }) (v := undef) rfl (by kernel_rfl) (by kernel_rfl) (by kernel_rfl) (fun _ _ _ h => h) (Or.inr ⟨by rfl, rfl⟩) (by assumption) ?_
                      try simp only [Act.put, List.setIfInBounds_toArray, List.set_cons_zero, List.set_cons_succ]
                      refine wpAnyH_take (i := 32) (oi := { dst := some 140, op := Op.move (Operand.tmp 15), type := _, pos := _, after := _, guard := some (30, true) }) (v := undef) rfl (by kernel_rfl) (by kernel_rfl) (by kernel_rfl) (fun _ _ _ h => h) (Or.inr ⟨by rfl, rfl⟩) (by assumption) ?_
                      try simp only [Act.put, List.setIfInBounds_toArray, List.set_cons_zero, List.set_cons_succ]
                      refine wpAnyH_take (i := 33) (oi := { dst := some 141, op := Op.indexAddr 28 (Operand.tmp 139) (Operand.tmp 140), type := _, pos := _, after := _, guard := some (30, true) }) (v := undef) rfl (by kernel_rfl) (by kernel_rfl) (by kernel_rfl) (fun _ _ _ h => h) (Or.inr ⟨by rfl, rfl⟩) (by assumption) ?_
                      try simp only [Act.put, List.setIfInBounds_toArray, List.set_cons_zero, List.set_cons_succ]
                      refine wpAnyH_take (i := 34) (oi := { dst := some 142, op := Op.load 4 (Operand.tmp 141), type := _, pos := _, after := _, guard := some (30, true) }) (v := undef) rfl (by kernel_rfl) (by kernel_rfl) (by kernel_rfl) (fun _ _ _ h => h) (Or.inr ⟨by rfl, rfl⟩) (by assumption) ?_
                      try simp only [Act.put, List.setIfInBounds_toArray, List.set_cons_zero, List.set_cons_succ]
                      refine wpAnyH_take (i := 35) (oi := { dst := some 143, op := Op.unOp UnOp.not 4 (Operand.tmp 142), type := _, pos := _, after := _, guard := some (30, true) }) (v := undef) rfl (by kernel_rfl) (by kernel_rfl) (by kernel_rfl) (fun _ _ _ h => h) (Or.inr ⟨by rfl, rfl⟩) (by assumption) ?_
                      try simp only [Act.put, List.setIfInBounds_toArray, List.set_cons_zero, List.set_cons_succ]
                      refine wpAnyH_take (i := 36) (oi := { dst := some 144, op := Op.move (Operand.tmp 143), type := _, pos := _, after := _, guard := some (30, true) }) (v := undef) rfl (by kernel_rfl) (by kernel_rfl) (by kernel_rfl) (fun _ _ _ h => h) (Or.inr ⟨by rfl, rfl⟩) (by assumption) ?_
                      try simp only [Act.put, List.setIfInBounds_toArray, List.set_cons_zero, List.set_cons_succ]
                      refine wpAnyH_take (i := 37) (oi := { dst := some 145, op := Op.move (Operand.tmp 14), type := _, pos := _, after := _, guard := some (36, false) }) (v := undef) rfl (by kernel_rfl) (by kernel_rfl) (by kernel_rfl) (fun _ _ _ h => h) (Or.inr ⟨by rfl, rfl⟩) (by assumption) ?_
                      try simp only [Act.put, List.setIfInBounds_toArray, List.set_cons_zero, List.set_cons_succ]
                      refine wpAnyH_take (i := 38) (oi := { dst := some 146, op := Op.move (Operand.tmp 15), type := _, pos := _, after := _, guard := some (36, false) }) (v := undef) rfl (by kernel_rfl) (by kernel_rfl) (by kernel_rfl) (fun _ _ _ h => h) (Or.inr ⟨by rfl, rfl⟩) (by assumption) ?_
                      try simp only [Act.put, List.setIfInBounds_toArray, List.set_cons_zero, List.set_cons_succ]
                      refine wpAnyH_take (i := 39) (oi := { dst := some 147, op := Op.indexAddr 28 (Operand.tmp 145) (Operand.tmp 146), type := _, pos := _, after := _, guard := some (36, false) }) (v := undef) rfl (by kernel_rfl) (by kernel_rfl) (by kernel_rfl) (fun _ _ _ h => h) (Or.inr ⟨by rfl, rfl⟩) (by assumption) ?_
                      try simp only [Act.put, List.setIfInBounds_toArray, List.set_cons_zero, List.set_cons_succ]
                      refine wpAnyH_take (i := 40) (oi := { dst := some 148, op := Op.load 4 (Operand.tmp 147), type := _, pos := _, after := _, guard := some (36, false) }) (v := undef) rfl (by kernel_rfl) (by kernel_rfl) (by kernel_rfl) (fun _ _ _ h => h) (Or.inr ⟨by rfl, rfl⟩) (by assumption) ?_
                      try simp only [Act.put, List.setIfInBounds_toArray, List.set_cons_zero, List.set_cons_succ]
                      refine wpAnyH_take (i := 41) (oi := { dst := some 149, op := Op.move (Operand.tmp 2), type := _, pos := _, after := _, guard := some (36, false) }) (v := undef) rfl (by kernel_rfl) (by kernel_rfl) (by kernel_rfl) (fun _ _ _ h => h) (Or.inr ⟨by rfl, rfl⟩) (by assumption) ?_
                      try simp only [Act.put, List.setIfInBounds_toArray, List.set_cons_zero, List.set_cons_succ]
                      refine wpAnyH_take (i := 42) (oi := { dst := some 150, op := Op.binOp BinOp.neq 4 (Operand.tmp 148) (Operand.tmp 149) 4, type := _, pos := _, after := _, guard := some (36, false) }) (v := undef) rfl (by kernel_rfl) (by kernel_rfl) (by kernel_rfl) (fun _ _ _ h => h) (Or.inr ⟨by rfl, rfl⟩) (by assumption) ?_
                      try simp only [Act.put, List.setIfInBounds_toArray, List.set_cons_zero, List.set_cons_succ]
                      refine wpAnyH_take (i := 43) (oi := { dst := some 151, op := Op.pick (Operand.tmp 144) (Operand.const (Value.bool true)) (Operand.tmp 150), type := _, pos := _, after := _, guard := some (30, true) }) (v := undef) rfl (by kernel_rfl) (by kernel_rfl) (by kernel_rfl) (fun _ _ _ h => h) (Or.inr ⟨by rfl, rfl⟩) (by assumption) ?_
                      try simp only [Act.put, List.setIfInBounds_toArray, List.set_cons_zero, List.set_cons_succ]
                      refine wpAnyH_take (i := 44) (oi := { dst := some 152, op := Op.pick (Operand.tmp 138) (Operand.tmp 151) (Operand.const (Value.bool false)), type := _, pos := _, after := _, guard := some (24, false) }) (v := ?_) rfl (by kernel_rfl) (by kernel_rfl) (by kernel_rfl) (fun _ _ _ h => h) (Or.inl ⟨by rfl, ?_⟩) (by assumption) ?_
                      rotate_left
                      · intro w hSw; (try dsimp only at hSw); go_simp; try with_reducible rfl
                      try simp only [Act.put, List.setIfInBounds_toArray, List.set_cons_zero, List.set_cons_succ]
                      refine wpAnyH_take (i := 45) (oi := { dst := some 153, op := Op.pick (Operand.tmp 132) (Operand.const (Value.bool true)) (Operand.tmp 152), type := _, pos := _, after := _, guard := none }) (v := ?_) rfl (by kernel_rfl) (by kernel_rfl) (by kernel_rfl) (fun _ _ _ h => h) (Or.inl ⟨by rfl, ?_⟩) (by assumption) ?_
                      rotate_left
                      · intro w hSw; (try dsimp only at hSw); go_simp; try with_reducible rfl
                      try simp only [Act.put, List.setIfInBounds_toArray, List.set_cons_zero, List.set_cons_succ]
                      refine wpAnyH_done (by kernel_rfl) ?_ _
                      all_goals
                        go_wp2_with fail
                        go_roundw
                        case rel => exact ⟨k + 1, by omega, by omega, by go_num, HF1⟩
                        case measure => simp [intOf]; omega
                · go_wp2_with fail
                  go_ret
                  exact ⟨rfl, HWF.out.trans (HW9.out.mono HWF.out.size)⟩
theorem first_all (d : Nat) (v lv : Value) (t : Tx d) (ids : List Int) (br : Bool) (w : World) (h : IsTx w Any d v t) (hl : IsNums .i64 w Any lv ids) :
    Calls Try.prog 7 #[v, lv, .bool br] w fun e w' => e = .returned (.bool true) ∧ Below w.heap.size w w' := by
  cases d with
  | succ d => exact first_walk d v lv t ids br w h hl
  | zero =>
    have hnil : t.rs = [] := by
      cases hrs : t.rs with
      | nil => rfl
      | cons r _ => exact r.L.elim
    obtain ⟨iv, kv, A, c, e, h1, h2, h3, h4, -⟩ := h
    exact first_walk 0 v lv ⟨t.ig, t.kp, []⟩ ids br w ⟨iv, kv, A, c, by rw [e, hnil]; rfl, h1, h2, Nat.zero_le _, h4, fun k r hr => by simp at hr⟩ hl
end Go.Proofs.Ytjcdcmeclnihbaa
