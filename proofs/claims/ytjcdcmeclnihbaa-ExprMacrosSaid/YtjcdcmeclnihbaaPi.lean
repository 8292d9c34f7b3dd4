/- The sign behind an atom: its place among the three signs. No conditions. -/
import Derived.Test.YtjcdcmeclnihbaaPe
import Derived.Lib.Bytealg
namespace Go.Proofs.Ytjcdcmeclnihbaa
open Go.RowKit
set_option linter.unusedSimpArgs false
set_option maxHeartbeats 1000000 in
set_option maxRecDepth 100000 in
theorem byteB_any (s : ByteArray) (c : Int) (w : World) :
    Calls Try.prog 110 #[.string s, .int .u8 c] w fun e w' => e = .returned (.int .i64 (Lib.indexByte s.data.toList c.toNat.toUInt8)) ∧ w' = w := by
  go_enter Try.func110, Try.ntmps110
  go_wp2
  rw [run_callFunc_extern Try.func116 (by kernel_rfl) (by kernel_rfl) (by kernel_rfl) (e := Extern.BytealgIndexByte.indexByte) (by kernel_rfl), Lib.run_indexByteString]
  simp only [Result.andThen]
  rw [Oper.upon_value]
  go_wp2
  go_ret
  exact ⟨rfl, rfl⟩
set_option maxHeartbeats 1000000 in
theorem byteA_any (s : ByteArray) (c : Int) (w : World) :
    Calls Try.prog 102 #[.string s, .int .u8 c] w fun e w' => e = .returned (.int .i64 (Lib.indexByte s.data.toList c.toNat.toUInt8)) ∧ w' = w := by
  go_enter Try.func102, Try.ntmps102
  go_wp2_with (go_at_call 110; refine (byteB_any _ _ _).mono ?_; rintro e w' ⟨rfl, rfl⟩)
  go_ret
  exact ⟨rfl, rfl⟩
def signIx (c : Nat) : Int := if c = 42 then 0 else if c = 43 then 1 else if c = 63 then 2 else -1
theorem signIx_all : ∀ c : Fin 256, Lib.indexByte [42, 43, 63] c.val.toUInt8 = signIx c.val := by decide +kernel
theorem sign_any (c : Nat) (hc : c ≤ 255) (w : World) :
    Calls Try.prog 102 #[.string ⟨#[42, 43, 63]⟩, .int .u8 (c : Int)] w fun e w' => e = .returned (.int .i64 (signIx c)) ∧ w' = w := by
  refine (byteA_any _ _ _).mono ?_
  rintro e w' ⟨rfl, rfl⟩
  refine ⟨?_, rfl⟩
  have := signIx_all ⟨c, by omega⟩
  rw [← this]
  rfl
/-- A function's answer, laid into the caller's node. -/
theorem post_put {Sm : Nat → Prop} {w wc w2 : World} {r g : Nat} {s : ByteArray} {kv : Value} {op bad : Int} {res : Res PT} {v : Value} (hw : w.grownBy wc (some r)) (hg : w.heap.size ≤ g) (hgc : g < wc.heap.size) (hne : g ≠ r) (hSm : ∀ b, Sm b → b < w.heap.size)
    (h : PostR Sm wc r s kv op bad res (.returned v) w2) (u0 u1 u2 : Value) : PostR Sm w r s kv op bad res (.returned v) (put3w w2 g u0 u1 u2) := by
  obtain ⟨hg2, v', e, hm⟩ := h
  cases e
  have hws := hw.size
  have hb : ∀ b, Sm b ∨ wc.heap.size ≤ b → b ≠ g := fun b hb => by
    rcases hb with hb | hb
    · have := hSm b hb; omega
    · omega
  have hS : ∀ b, Sm b ∨ wc.heap.size ≤ b → Sm b ∨ w.heap.size ≤ b := fun b hb => hb.imp id (by omega)
  refine ⟨grown_put3 (hw.trans hg2) hg _ _ _, v, rfl, ?_⟩
  cases res with
  | ok t q =>
    obtain ⟨h1, a', h2, h3, h4⟩ := hm
    exact ⟨(h1.put3 hb _ _ _).mono fun b hb _ => hS b hb, a', h2, h3, h4.put3 hne.symm _ _ _⟩
  | no q x =>
    obtain ⟨h0, ⟨t, h1⟩, a', op', h4⟩ := hm
    exact ⟨h0, ⟨t, (h1.put3 hb _ _ _).mono fun b hb _ => hS b hb⟩, a', op', h4.put3 hne.symm _ _ _⟩
set_option maxRecDepth 100000 in
set_option maxHeartbeats 2000000 in
theorem atom_any {Sm : Nat → Prop} {kv : Value} {ms : List (ByteArray × PT)} {op : Int} {alts : Option (Bs → Res PT)} {macs : Bs → Option PT}
    (hN : ∀ (w : World) (r : Nat) (s : ByteArray) (bad : Int) (a : Nat), Rd w r s kv a op bad 0 → Env Sm w r kv ms → a ≤ s.size → s.size ≤ 100000 → isL (hd ((bsOf s).drop a)) = true → Calls Try.prog 107 #[.pointer (some ⟨r, 0, none⟩)] w (PostR Sm w r s kv op bad (namedF numB macs ((bsOf s).drop a))))
    (hB : ∀ (w : World) (r : Nat) (s : ByteArray) (bad : Int) (a : Nat), Rd w r s kv a op bad 0 → Env Sm w r kv ms → a ≤ s.size → s.size ≤ 100000 → hd ((bsOf s).drop a) = 40 → Calls Try.prog 109 #[.pointer (some ⟨r, 0, none⟩)] w (PostR Sm w r s kv op bad (brackF alts ((bsOf s).drop a)))) :
    RdC 101 Sm kv ms op (atomF numB macs alts) := by
  intro w r s bad a h he ha hs
  obtain ⟨X, hX⟩ : ∃ X, X = w.alloc (.cells nodeC 45) := ⟨_, rfl⟩
  have HX := hid hX
  obtain ⟨g, hg⟩ : ∃ g, g = w.heap.size := ⟨_, rfl⟩
  have HXB := hid (show X.heap[g]? = some (.cells #[.int .i64 0, .int .i64 0, .slice none 0 0] 45 (0, 0)) by rw [hg, hX]; exact heap_alloc_new _ _)
  have HGE := hid hg
  have HGX := hid (show w.grownBy X (some r) by rw [hX]; exact World.grownBy_alloc _ _ _)
  have HRX := hid (show Rd X r s kv a op bad 0 by rw [hX]; exact h.alloc _)
  have HNE := hid (show g ≠ r by have := h.lt; omega)
  have HOLD := hid (show ∀ Y : World, X.grownBy Y (some r) → Y.heap[g]? = some (.cells #[.int .i64 0, .int .i64 0, .slice none 0 0] 45 (0, 0)) from fun Y hY => (hY.block g (Array.getElem?_eq_some_iff.1 HXB.out).1 (by have := HNE.out; simpa using this)).trans HXB.out)
  have HE := hid he
  have HSX := hid (show X.heap.size = g + 1 by rw [hX, hg]; simp)
  have HSM := hid (show ∀ b, Sm b → b < w.heap.size from fun b hb => (he.off b hb).2)
  obtain ⟨l, hl⟩ : ∃ l, l = skip ((bsOf s).drop a) := ⟨_, rfl⟩
  have HL := hid hl
  have HA := hid (show atomF numB macs alts ((bsOf s).drop a) = if isL (hd l) then namedF numB macs l else if hd l = 126 then classF numB 2 l.tail else if hd l = 94 then .ok (.mk 3 0 []) l.tail else if hd l = 40 then brackF alts l else .no l 4 by rw [hl]; rfl)
  have HN := hid hN
  have HB := hid hB
  clear hX hg h he hl hN hB
  go_enter Try.func101, Try.ntmps101
  go_wp2_with (first
    | (refine wpList_alloc_of rfl 45 rfl (.agg nodeC) zero45 ?_; rw [show (Value.agg nodeC).cells = nodeC from rfl, ← HX.out, ← HGE.out])
    | fail)
  refine (peek_any a HRX.out ha hs).mono ?_
  rintro x w1 ⟨rfl, hcb, a1, ha1, ha2, hd1, hr1, hg1⟩
  rw [← HL.out] at hcb hd1 ⊢
  have HR1 := hid hr1
  have HG1 := hid hg1
  have HD1 := hid hd1
  have HB1 := hid (HOLD.out w1 hg1)
  have HE1 := hid (HE.out.grown (HGX.out.trans hg1))
  have HGL := hid (show g < w1.heap.size by have := hg1.size; have := HSX.out; omega)
  have HW1 := hid (HGX.out.trans hg1)
  clear hr1 hg1 hd1
  go_wp2_with fail
  refine (letter_any (hd l) w1 hcb).mono ?_
  rintro x w1' ⟨rfl, rfl⟩
  obtain ⟨c0, c1, c2, c3, c4, c5⟩ := HR1.out.cells
  have f1 := HR1.out.frozen 1
  obtain ⟨y0, y1, y2, yf⟩ := slot3 HB1.out
  have yf0 := yf 0
  have yf1 := yf 1
  have yf2 := yf 2
  clear yf
  cases hlt : isL (hd l) with
  | true =>
    have HRES := hid (show atomF numB macs alts ((bsOf s).drop a) = namedF numB macs l from HA.out.trans (if_pos hlt))
    clear c0 c1 c2 c3 c4 c5 f1 y0 y1 y2 yf0 yf1 yf2
    go_wp2_with fail
    refine (HN.out w1' r s bad a1 HR1.out HE1.out ha2 hs (by rw [HD1.out]; exact hlt)).mono ?_
    rw [HD1.out]
    rintro x w2 hp
    obtain ⟨u, rfl⟩ : ∃ u, x = .returned u := ⟨_, hp.2.choose_spec.1⟩
    obtain ⟨k, c, A, n, cp, rfl⟩ := post_form hp
    have HP := hid hp
    have HB2 := hid ((hp.1.block g HGL.out (by have := HNE.out; intro e; injection e with e; exact this e)).trans HB1.out)
    obtain ⟨y0, y1, y2, yf⟩ := slot3 HB2.out
    have yf0 := yf 0
    have yf1 := yf 1
    have yf2 := yf 2
    clear yf hp
    go_wp2_with fail
    refine ret_node (p := 2) rfl rfl HB2.out rfl ?_
    rw [HRES.out]
    exact post_put HW1.out (Nat.le_of_eq HGE.out.symm) HGL.out HNE.out HSM.out HP.out _ _ _
  | false =>
    have HA2 := hid (HA.out.trans (if_neg (by rw [hlt]; decide)))
    clear hlt
    by_cases h126 : hd l = 126
    · have HRES := hid (HA2.out.trans (if_pos h126))
      obtain ⟨q, hq⟩ := hd_cons (l := l) (by rw [h126]; decide)
      rw [h126] at hq
      obtain ⟨hq1, hq2⟩ := drop_more (HD1.out.trans hq)
      have HQ := hid (show (bsOf s).drop (a1 + 1) = l.tail by rw [hq1, hq]; rfl)
      have h126b : ((hd l : Nat) : Int) = 126 := by rw [h126]; rfl
      obtain ⟨V, hV⟩ : ∃ V, V = w1'.setCell ⟨r, 1, none⟩ (.int .i64 ((a1 : Int) + 1)) := ⟨_, rfl⟩
      have HV := hid hV
      have HRV := hid (show Rd V r s kv (a1 + 1 : Nat) op bad 0 by rw [hV]; exact HR1.out.setAt _)
      have HGV := hid (show w1'.grownBy V (some r) by rw [hV]; exact grown_setCell (World.grownBy.refl _ _) 1 _)
      have HVL := hid (show g < V.heap.size by have := HGL.out; have := HGV.out.size; omega)
      have HBV := hid ((HGV.out.block g HGL.out (by have := HNE.out; intro e; injection e with e; exact this e)).trans HB1.out)
      clear hq hq1 h126 y0 y1 y2 yf0 yf1 yf2 hV
      go_wp2_with fail
      rw [← HV.out]
      refine (rclass_any (Sm := Sm) 2 (a1 + 1) HRV.out (by omega) hs).mono ?_
      rw [HQ.out]
      rintro x w2 hp
      obtain ⟨u, rfl⟩ : ∃ u, x = .returned u := ⟨_, hp.2.choose_spec.1⟩
      obtain ⟨k, c, A, n, cp, rfl⟩ := post_form hp
      have HP := hid hp
      have HB2 := hid ((hp.1.block g HVL.out (by have := HNE.out; intro e; injection e with e; exact this e)).trans HBV.out)
      obtain ⟨y0, y1, y2, yf⟩ := slot3 HB2.out
      have yf0 := yf 0
      have yf1 := yf 1
      have yf2 := yf 2
      clear yf hp
      go_wp2_with fail
      refine ret_node (p := 2) rfl rfl HB2.out rfl ?_
      rw [HRES.out]
      exact post_put (HW1.out.trans HGV.out) (Nat.le_of_eq HGE.out.symm) HVL.out HNE.out HSM.out HP.out _ _ _
    · have HA3 := hid (HA2.out.trans (if_neg h126))
      have h126b : ¬ ((hd l : Nat) : Int) = 126 := by omega
      clear h126
      by_cases h94 : hd l = 94
      · have HRES := hid (HA3.out.trans (if_pos h94))
        obtain ⟨q, hq⟩ := hd_cons (l := l) (by rw [h94]; decide)
        rw [h94] at hq
        obtain ⟨hq1, hq2⟩ := drop_more (HD1.out.trans hq)
        have HQ := hid (show (bsOf s).drop (a1 + 1) = l.tail by rw [hq1, hq]; rfl)
        have h94b : ((hd l : Nat) : Int) = 94 := by rw [h94]; rfl
        have n1 : g ≠ r := HNE.out
        have n2 : r ≠ g := HNE.out.symm
        clear hq hq1 h94
        go_wp2_with fail
        have hV := grown_setCell (World.grownBy.refl w1' (some r)) 1 (.int .i64 ((a1 : Int) + 1))
        refine ret_node (p := 2) rfl rfl ((hV.block g HGL.out (by have := HNE.out; intro e; injection e with e; exact this e)).trans HB1.out) rfl ?_
        rw [HRES.out]
        exact ⟨grown_put3 (HW1.out.trans hV) (Nat.le_of_eq HGE.out.symm) _ _ _, _, rfl, IsP.leaf _ _ 3 0, a1 + 1, by omega, HQ.out, (HR1.out.setAt _).put3 HNE.out.symm _ _ _⟩
      · have HA4 := hid (HA3.out.trans (if_neg h94))
        have h94b : ¬ ((hd l : Nat) : Int) = 94 := by omega
        clear h94
        by_cases h40 : hd l = 40
        · have HRES := hid (HA4.out.trans (if_pos h40))
          have h40b : ((hd l : Nat) : Int) = 40 := by rw [h40]; rfl
          have HH := hid h40
          clear c0 c1 c2 c3 c4 c5 f1 y0 y1 y2 yf0 yf1 yf2 h40
          go_wp2_with fail
          refine (HB.out w1' r s bad a1 HR1.out HE1.out ha2 hs (by rw [HD1.out]; exact HH.out)).mono ?_
          rw [HD1.out]
          rintro x w2 hp
          obtain ⟨u, rfl⟩ : ∃ u, x = .returned u := ⟨_, hp.2.choose_spec.1⟩
          obtain ⟨k, c, A, n, cp, rfl⟩ := post_form hp
          have HP := hid hp
          have HB2 := hid ((hp.1.block g HGL.out (by have := HNE.out; intro e; injection e with e; exact this e)).trans HB1.out)
          obtain ⟨y0, y1, y2, yf⟩ := slot3 HB2.out
          have yf0 := yf 0
          have yf1 := yf 1
          have yf2 := yf 2
          clear yf hp
          go_wp2_with fail
          refine ret_node (p := 2) rfl rfl HB2.out rfl ?_
          rw [HRES.out]
          exact post_put HW1.out (Nat.le_of_eq HGE.out.symm) HGL.out HNE.out HSM.out HP.out _ _ _
        · have HRES := hid (HA4.out.trans (if_neg h40))
          have h40b : ¬ ((hd l : Nat) : Int) = 40 := by omega
          clear y0 y1 y2 yf0 yf1 yf2 h40
          go_wp2_with fail
          refine (fail_any (a1 : Int) 4 HR1.out).mono ?_
          rintro x w5 ⟨rfl, hr5, hg5⟩
          have HR5 := hid hr5
          have HG5 := hid (HW1.out.trans hg5)
          have HB5 := hid ((hg5.block g HGL.out (by have := HNE.out; intro e; injection e with e; exact this e)).trans HB1.out)
          clear hr5 hg5 c0 c1 c2 c3 c4 c5 f1
          obtain ⟨y0, y1, y2, yf⟩ := slot3 HB5.out
          have yf0 := yf 0
          have yf1 := yf 1
          have yf2 := yf 2
          clear yf
          unfold nodeV nodeC
          go_wp2_with fail
          refine ret_node (p := 2) rfl rfl HB5.out rfl ?_
          rw [HRES.out]
          exact ⟨grown_put3 HG5.out (Nat.le_of_eq HGE.out.symm) _ _ _, _, rfl, by decide, ⟨_, IsP.leaf _ _ 0 0⟩, _, _, by rw [← drop_at ha2 HD1.out]; exact HR5.out.put3 HNE.out.symm _ _ _⟩
end Go.Proofs.Ytjcdcmeclnihbaa
