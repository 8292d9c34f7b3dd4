/- The first rule that applies at a place: the program's closure, IndexFunc, at. Condition: a place within that isn't hidden; at most a thousand places. -/
import Derived.Test.YtjcdcmeclnihbaaAq
import Derived.Test.YtjcdcmeclnihbaaSe
namespace Go.Proofs.Ytjcdcmeclnihbaa
open Go.RowKit
set_option linter.unusedSimpArgs false
set_option maxRecDepth 100000 in
set_option maxHeartbeats 1000000 in
theorem at1_any (d : Nat) (v lv rv : Value) (r : Rl d) (left right : List Int) (b1 b2 : Nat) (w : World) (h : IsRl w Any d v r) (hl : IsNums .i64 w Any lv left) (hr : IsNums .i64 w Any rv right) (h0 : 0 < left.length) (h1 : 0 < right.length) (hn : left.length ≤ 1000) (hm : right.length ≤ 1000)
    (hc1 : w.cell? ⟨b1, 0, none⟩ = some lv) (hc2 : w.cell? ⟨b2, 0, none⟩ = some rv) :
    Calls Try.prog 64 #[v, .pointer (some ⟨b1, 0, none⟩), .pointer (some ⟨b2, 0, none⟩)] w fun e w' => e = .returned (.bool (appliesB r left right)) ∧ Below w.heap.size w w' := by
  obtain ⟨k0, k1, A0, n0, p0, j0, j1, A1, n1, p1, rfl, -, -⟩ := h.open
  obtain ⟨lb, lo, lc, rfl, -, -, -⟩ := hl.at h0
  obtain ⟨rb, ro, rc, rfl, -, -, -⟩ := hr.at h1
  obtain ⟨W, hW0⟩ : ∃ W, W = w.alloc (.cells #[.int .i64 k0, .int .i64 k1, .slice A0 n0 p0, .int .i64 j0, .int .i64 j1, .slice A1 n1 p1, .bool r.br] 47) := ⟨_, rfl⟩
  have HB := hid (box7 hW0).1
  have HT := hid (h.below HB.out)
  have HL := hid (hl.below HB.out)
  have HR := hid (hr.below HB.out)
  have hb1 := block_lt_of_cell hc1
  have hb2 := block_lt_of_cell hc2
  have H0 := hid (And.intro h0 (And.intro h1 (And.intro hn hm)))
  clear h hl hr h0 h1 hn hm
  go_enter Try.func64, Try.ntmps64
  go_wp2_with fail
  rw [← hW0]
  refine (applies_any d _ _ _ r left right W HT.out HL.out HR.out H0.out.1 H0.out.2.1 H0.out.2.2.1 H0.out.2.2.2).mono ?_
  rintro e w1 ⟨rfl, hb3⟩
  go_wp2_with fail
  go_ret
  exact ⟨rfl, HB.out.trans (hb3.mono HB.out.size)⟩
set_option maxRecDepth 100000 in
set_option maxHeartbeats 1000000 in
theorem indexAt_any (d : Nat) (A : Option Addr) (c : Nat) (l : List (Rl d)) (lv rv : Value) (left right : List Int) (b1 b2 : Nat) (w : World) (h : Row7 w Any d A l) (hle : l.length ≤ 9223372036854775807) (hl : IsNums .i64 w Any lv left) (hr : IsNums .i64 w Any rv right) (h0 : 0 < left.length) (h1 : 0 < right.length) (hn : left.length ≤ 1000) (hm : right.length ≤ 1000)
    (hc1 : w.cell? ⟨b1, 0, none⟩ = some lv) (hc2 : w.cell? ⟨b2, 0, none⟩ = some rv) :
    Calls Try.prog 63 #[.slice A l.length c, .func (.func 64) #[] #[.pointer (some ⟨b1, 0, none⟩), .pointer (some ⟨b2, 0, none⟩)]] w fun e w' => e = .returned (.int .i64 (idx (fun r => appliesB r left right) 0 l)) ∧ Below w.heap.size w w' := by
  have HK := hid h
  have HC := hid (fun (wr : World) (hW : Below w.heap.size w wr) (v : Value) (r : Rl d) (ht : IsRl wr Any d v r) => at1_any d v lv rv r left right b1 b2 wr ht (hl.below hW) (hr.below hW) h0 h1 hn hm (cell_later hW hc1) (cell_later hW hc2))
  clear h hl hr h0 h1 hn hm hc1 hc2
  go_enter Try.func63, Try.ntmps63
  go_wp2_with fail
  go_loopw [8] (fun s8 wr => ∃ k : Nat, k ≤ l.length ∧ s8 = .int .i64 k ∧ Hid (idx (fun r => appliesB r left right) k (l.drop k) = idx (fun r => appliesB r left right) 0 l) ∧ Hid (Below w.heap.size w wr)) (fun s8 _ => l.length - (intOf s8).toNat)
  case atStart => exact ⟨0, by omega, rfl, hid rfl, hid (Below.refl _ _)⟩
  case round =>
    obtain ⟨k, hk, rfl, HT, HW⟩ := hrel
    by_cases hlt : k < l.length
    · obtain ⟨b, o, k0, k1, A0, n0, p0, j0, j1, A1, n1, p1, rfl, -, hbs, c0, c1, c2, c3, c4, c5, c6, hL, hR⟩ := (HK.out.below HW.out).at (List.getElem?_eq_getElem hlt)
      have HTr := hid (Row7.rl hL hR)
      have HCr := hid (HC.out wr HW.out _ _ HTr.out)
      obtain ⟨br, hbr⟩ : ∃ br, br = l[k].br := ⟨_, rfl⟩
      rw [← hbr] at c6 HCr
      clear hL hR hbr HTr
      have hst := (idx_drop (p := fun r => appliesB r left right) hlt).symm.trans HT.out
      have HST := hid hst
      clear hst
      cases hf : appliesB l[k] left right with
      | false =>
        have HN := hid (show idx (fun r => appliesB r left right) (k + 1) (l.drop (k + 1)) = idx (fun r => appliesB r left right) 0 l by have h := HST.out; rw [hf] at h; exact h)
        have HF := hid hf
        clear hf
        go_wp2_with (go_at_call 64; refine HCr.out.mono ?_; rintro e w1 ⟨rfl, hb1⟩; rw [HF.out])
        go_roundw
        case rel => exact ⟨k + 1, by omega, by go_num, HN, hid (HW.out.trans (hb1.mono HW.out.size))⟩
        case measure => simp [intOf]; omega
      | true =>
        have HN := hid (show (k : Int) = idx (fun r => appliesB r left right) 0 l by have h := HST.out; rw [hf] at h; exact h)
        have HF := hid hf
        clear hf
        go_wp2_with (go_at_call 64; refine HCr.out.mono ?_; rintro e w1 ⟨rfl, hb1⟩; rw [HF.out])
        go_ret
        exact ⟨ret_int HN.out, HW.out.trans (hb1.mono HW.out.size)⟩
    · have HN := hid (show (-1 : Int) = idx (fun r => appliesB r left right) 0 l by
        rw [← HT.out, List.drop_eq_nil_of_le (by omega)]; rfl)
      go_wp2_with fail
      go_ret
      exact ⟨ret_int HN.out, HW.out⟩
theorem IsBools.drop {w : World} {S : Nat → Prop} {b o c : Nat} {l : List Bool} (h : IsBools w S (.slice (some ⟨b, o, none⟩) l.length c) l) {k : Nat} (hk : k ≤ l.length) : IsBools w S (.slice (some ⟨b, o + k, none⟩) (l.length - k) (c - k)) (l.drop k) := by
  obtain ⟨A, c', e, h1, h2, h3⟩ := h
  cases e
  refine ⟨_, _, by rw [List.length_drop], by rw [List.length_drop]; omega, by omega, fun hn => ?_⟩
  simp at hn
  obtain ⟨b', o', e, hs, hc⟩ := h3 (by simp; omega)
  cases e
  refine ⟨b, o + k, rfl, hs, fun j v hv => ?_⟩
  rw [Nat.add_assoc]
  refine hc (k + j) v ?_
  rw [← hv, List.map_drop, List.getElem?_drop]
/-- What stands ahead of a place, behind the start; what stands from it on. -/
def leftOf (l : List Int) (hide : List Bool) (i : Nat) : List Int := 36 :: seenTo (l.take i) hide i
def rightOf (l : List Int) (hide : List Bool) (i : Nat) : List Int := seenTo (l.drop i) (hide.drop i) (l.length - i)
def atI {d : Nat} (rs : List (Rl d)) (l : List Int) (hide : List Bool) (i : Nat) : Int := idx (fun r => appliesB r (leftOf l hide i) (rightOf l hide i)) 0 rs
theorem rightOf_pos {l : List Int} {hide : List Bool} {i : Nat} (hi : i < l.length) (hl : hide.length = l.length) (hh : nthB hide i = false) : 0 < (rightOf l hide i).length := by
  unfold rightOf
  obtain ⟨m, hm⟩ : ∃ m, l.length - i = m + 1 := ⟨l.length - i - 1, by omega⟩
  rw [hm]
  have h0 : nthB (hide.drop i) 0 = false := by rw [← hh]; simp [nthB]
  have key : ∀ m, 0 < (seenTo (l.drop i) (hide.drop i) (m + 1)).length := by
    intro m
    induction m with
    | zero => rw [seenTo_put h0]; simp
    | succ m ih =>
      cases hb : nthB (hide.drop i) (m + 1) with
      | true => rw [seenTo_skip hb]; exact ih
      | false => rw [seenTo_put hb]; simp
  exact key m
set_option maxRecDepth 100000 in
set_option maxHeartbeats 4000000 in
theorem at_any (d : Nat) (v : Value) (t : Tx d) (bl ol cl bh oh ch : Nat) (l : List Int) (hide : List Bool) (i : Nat) (w : World) (h : IsTx w Any d v t) (hl : IsNums .i64 w Any (.slice (some ⟨bl, ol, none⟩) l.length cl) l) (hh : IsBools w Any (.slice (some ⟨bh, oh, none⟩) hide.length ch) hide)
    (hlen : hide.length = l.length) (hi0 : 0 < i) (hi : i < l.length) (hhi : nthB hide i = false) (hn : l.length ≤ 900) :
    Calls Try.prog 40 #[v, .slice (some ⟨bl, ol, none⟩) l.length cl, .slice (some ⟨bh, oh, none⟩) hide.length ch, .int .i64 i] w fun e w' => e = .returned (.int .i64 (atI t.rs l hide i)) ∧ Below w.heap.size w w' := by
  obtain ⟨i0, hi1, hz0, hz1, hz2⟩ := info_parts info3
  obtain ⟨I, ic, K, kc, A, c, rfl, -, -, -, -, lA, hA⟩ := h.open
  have hcl : l.length ≤ cl := by obtain ⟨A, c', e, h1, h2, h3⟩ := hl; cases e; exact h1
  have hch : hide.length ≤ ch := by obtain ⟨A, c', e, h1, h2, h3⟩ := hh; cases e; exact h1
  have hx1 : ¬ cl = i := by omega
  have hx2 : ¬ ch = i := by omega
  have hx3 : i ≤ cl := by omega
  have hx4 : i ≤ ch := by omega
  have hx5 : i ≤ l.length := by omega
  obtain ⟨n, hnn⟩ : ∃ n, n = l.length := ⟨_, rfl⟩
  have HTK := hid (hl.take (k := i) (by omega))
  have HDR := hid (hl.drop (k := i) (by omega))
  have HHD := hid (hh.drop (k := i) (by omega))
  have HHH := hid hh
  have HA := hid hA
  have HLA := hid lA
  have HP := hid (And.intro hlen (And.intro hi (And.intro hhi hn)))
  rw [hlen] at HHD HHH ⊢
  rw [← hnn] at HHD HHH HDR hx5 hi ⊢
  have HNN := hid hnn
  obtain ⟨W, hW0⟩ : ∃ W, W = (w.alloc (.cells #[.slice I t.ig.length ic, .slice K t.kp.length kc, .slice A t.rs.length c] 33)).alloc (.cells #[.int .i64 36] 3) := ⟨_, rfl⟩
  have HWW := hid (alloc2 hW0)
  obtain ⟨q, hq⟩ : ∃ q, q = w.heap.size := ⟨_, rfl⟩
  rw [← hq] at HWW
  have HQ := hid hq
  have HWw := hid (show Below w.heap.size w W by rw [← HQ.out]; exact HWW.out.2.2.2)
  clear h hl hh hlen hhi hn hA lA hcl hch hnn
  go_enter Try.func40, Try.ntmps40
  go_wp2_with fail
  rw [← hW0]
  have HS1 := hid (HTK.out.below HWw.out)
  refine (seen_any Any Any _ _ (l.take i) hide W HS1.out (show IsBools W Any _ hide from HHH.out.below HWw.out) (by rw [List.length_take]; have := HP.out; omega) (by rw [List.length_take]; have := HP.out; omega)).mono ?_
  rintro e w1 ⟨v1, rfl, ho1, hb1⟩
  have hti : (l.take i).length = i := by rw [List.length_take]; have := HP.out; omega
  rw [hti] at ho1
  obtain ⟨m, hm⟩ : ∃ m, m = (seenTo (l.take i) hide i).length := ⟨_, rfl⟩
  have hml : m ≤ i := by rw [hm]; exact seenTo_len _ _ _
  rw [← hm] at ho1
  obtain ⟨A1, c1, rfl, -, -, hA1⟩ := own_arr ho1
  have HSRC := hid (hA1.src (size := 1) (m := m) (by simp [hm]) (by omega))
  have HB1 := hid (HWw.out.trans (hb1.mono HWw.out.size))
  have HLO := hid (show w1.ownsRow w.heap.size 3 1 (.slice (some ⟨w.heap.size + 1, 0, none⟩) 1 1) 1 [.int .i64 36] from by
    have h0 : W.ownsRow w.heap.size 3 1 (.slice (some ⟨w.heap.size + 1, 0, none⟩) 1 1) 1 [.int .i64 36] := by
      have h := World.ownsRow_lit (base := w.heap.size) (e := 3) (size := 1) (w.alloc (.cells #[.slice I t.ig.length ic, .slice K t.kp.length kc, .slice A t.rs.length c] 33)) #[.int .i64 36] 1 (by simp) (by unfold maxLen; omega) rfl
      rw [hW0]
      simpa using h
    exact World.ownsRow.kept h0 (grown_of_below hb1 none) (.inr (by simp [Value.ownBlock])))
  have HMM := hid hm
  have HBX1 := hid ((hb1.block q (by rw [HWW.out.2.2.1]; omega)).trans HWW.out.1)
  have HSZ1 := hid (show q + 2 ≤ w1.heap.size by rw [← HWW.out.2.2.1]; exact hb1.size)
  clear ho1 hb1 hA1 hti hm hW0
  go_wp2_with (at_builtin; (refine wpList_app_s _ rfl (.tmp 11) (.tmp 16) 22 rfl w.heap.size 3 i0 _ 1 8 Try.underlying22 hi1 hz0 hz1 hz2 rfl (by decide) _ 1 [.int .i64 36] rfl HLO.out A1 m c1 _ rfl HSRC.out (one_nums _ _) (by simp only [maxLen]; have := HP.out; omega) (by have := HP.out; omega) (by have := HB1.out.size; exact this) ?_); intro A2 c2 w2 hown hgrow hat)
  replace hgrow := (show w1.grownBy w2 (some (w.heap.size + 1)) from hgrow)
  have HO2 := hid hown
  have HB2 := hid (below_own HB1.out HLO.out hgrow HB1.out.size)
  have HBX2 := hid ((hgrow.block q (by have := HSZ1.out; omega) (by rw [HQ.out]; simp)).trans HBX1.out)
  clear hown hgrow hat
  obtain ⟨w3, hw3⟩ : ∃ w3, w3 = w2.alloc (.cells #[.slice A2 (1 + m) c2] 22) := ⟨_, rfl⟩
  have hb3 : Below w2.heap.size w2 w3 := by rw [hw3]; exact (Below.refl _ _).alloc (Nat.le_refl _) _
  obtain ⟨b1, hb1e⟩ : ∃ b1, b1 = w2.heap.size := ⟨_, rfl⟩
  have hbx : w3.heap[b1]? = some (.cells #[.slice A2 (1 + m) c2] 22 (0, 0)) := by rw [hw3, hb1e]; exact heap_alloc_new _ _
  have HB3 := hid (HB2.out.trans (hb3.mono HB2.out.size))
  have HBX3 := hid ((hb3.block q (Array.getElem?_eq_some_iff.1 HBX2.out).1).trans HBX2.out)
  have HL3 := hid (show IsNums .i64 w3 Any (.slice A2 (1 + m) c2) (leftOf l hide i) by
    have h := own_nums (k := .i64) (zs := leftOf l hide i) (show w2.ownsRow w.heap.size 3 1 (.slice A2 (1 + m) c2) (1 + m) ((leftOf l hide i).map (.int .i64)) from HO2.out)
    exact (h.below hb3).mono fun _ _ _ => trivial)
  have HX1 := hid (show ∀ Y, Below w3.heap.size w3 Y → Y.cell? ⟨b1, 0, none⟩ = some (.slice A2 (1 + m) c2) from fun Y hY => by
    have h := (hY.block b1 (Array.getElem?_eq_some_iff.1 hbx).1).trans hbx
    rw [cell_of_row _ _ _ _ _ _ h]; rfl)
  have HBd := hid (show Below w.heap.size w w3.drew from HB3.out.drew)
  have HBe := hid (show Below w.heap.size w (w3.drew.alloc (.cells #[.slice none 0 0] 22)) from HB3.out.drew.alloc HB3.out.size _)
  have HX22 := hid (show ∀ Y, Below (w3.drew.alloc (.cells #[.slice none 0 0] 22)).heap.size (w3.drew.alloc (.cells #[.slice none 0 0] 22)) Y → Y.cell? ⟨w3.heap.size, 0, none⟩ = some (.slice none 0 0) ∧ Y.frozen? ⟨w3.heap.size, 0, none⟩ = false from fun Y hY => by
    have h0 : (w3.drew.alloc (.cells #[.slice none 0 0] 22)).heap[w3.heap.size]? = some (.cells #[.slice none 0 0] 22 (0, 0)) := heap_alloc_new w3.drew _
    have h := (hY.block w3.heap.size (Array.getElem?_eq_some_iff.1 h0).1).trans h0
    exact ⟨by rw [cell_of_row _ _ _ _ _ _ h]; rfl, frozen_of_row _ _ _ _ _ h⟩)
  have HSEEN := hid (fun (Y : World) (hY : Below w.heap.size w Y) => seen_any Any Any _ _ (l.drop i) (hide.drop i) Y (HDR.out.below hY) (HHD.out.below hY) (by rw [List.length_drop, List.length_drop, HP.out.1]; exact Nat.le_refl _) (by rw [List.length_drop]; have := HP.out; omega))
  rw [show (l.drop i).length = n - i by rw [List.length_drop, HNN.out]] at HSEEN
  have HRP := hid (rightOf_pos (l := l) (hide := hide) (i := i) HP.out.2.1 HP.out.1 HP.out.2.2.1)
  have HRE := hid (show seenTo (l.drop i) (hide.drop i) (n - i) = rightOf l hide i by unfold rightOf; rw [HNN.out])
  rw [HRE.out] at HSEEN
  rw [← hw3, ← hb1e]
  clear hw3 hb3 hb1e hbx hq
  refine wp_region_held_drew (S := (fun _ => True)) (by kernel_rfl) (by trivial) (fun hHeld => ?_)
  refine wpAnyH_take (i := 0) (oi := { dst := some 18, op := Op.move (Operand.tmp 1), type := _, pos := _, after := _, guard := none }) (v := ?_) rfl (by kernel_rfl) (by kernel_rfl) (by kernel_rfl) (fun _ _ _ h => h) (Or.inl ⟨by rfl, ?_⟩) (by assumption) ?_
  rotate_left
  · intro w hSw; (try dsimp only at hSw); go_simp; try with_reducible rfl
  try simp only [Act.put, List.setIfInBounds_toArray, List.set_cons_zero, List.set_cons_succ]
  refine wpAnyH_take (i := 1) (oi := { dst := some 19, op := Op.move (Operand.tmp 3), type := _, pos := _, after := _, guard := none }) (v := ?_) rfl (by kernel_rfl) (by kernel_rfl) (by kernel_rfl) (fun _ _ _ h => h) (Or.inl ⟨by rfl, ?_⟩) (by assumption) ?_
  rotate_left
  · intro w hSw; (try dsimp only at hSw); go_simp; try with_reducible rfl
  try simp only [Act.put, List.setIfInBounds_toArray, List.set_cons_zero, List.set_cons_succ]
  refine wpAnyH_take (i := 2) (oi := { dst := some 20, op := Op.slice 22 (Operand.tmp 18) (some (Operand.tmp 19)) none none, type := _, pos := _, after := _, guard := none }) (v := ?_) rfl (by kernel_rfl) (by kernel_rfl) (by kernel_rfl) (fun _ _ _ h => h) (Or.inl ⟨by rfl, ?_⟩) (by assumption) ?_
  rotate_left
  · intro w hSw; (try dsimp only at hSw); go_simp; try with_reducible rfl
  try simp only [Act.put, List.setIfInBounds_toArray, List.set_cons_zero, List.set_cons_succ]
  refine wpAnyH_take (i := 3) (oi := { dst := some 21, op := Op.move (Operand.tmp 2), type := _, pos := _, after := _, guard := none }) (v := ?_) rfl (by kernel_rfl) (by kernel_rfl) (by kernel_rfl) (fun _ _ _ h => h) (Or.inl ⟨by rfl, ?_⟩) (by assumption) ?_
  rotate_left
  · intro w hSw; (try dsimp only at hSw); go_simp; try with_reducible rfl
  try simp only [Act.put, List.setIfInBounds_toArray, List.set_cons_zero, List.set_cons_succ]
  refine wpAnyH_take (i := 4) (oi := { dst := some 22, op := Op.move (Operand.tmp 3), type := _, pos := _, after := _, guard := none }) (v := ?_) rfl (by kernel_rfl) (by kernel_rfl) (by kernel_rfl) (fun _ _ _ h => h) (Or.inl ⟨by rfl, ?_⟩) (by assumption) ?_
  rotate_left
  · intro w hSw; (try dsimp only at hSw); go_simp; try with_reducible rfl
  try simp only [Act.put, List.setIfInBounds_toArray, List.set_cons_zero, List.set_cons_succ]
  refine wpAnyH_take (i := 5) (oi := { dst := some 23, op := Op.slice 28 (Operand.tmp 21) (some (Operand.tmp 22)) none none, type := _, pos := _, after := _, guard := none }) (v := ?_) rfl (by kernel_rfl) (by kernel_rfl) (by kernel_rfl) (fun _ _ _ h => h) (Or.inl ⟨by rfl, ?_⟩) (by assumption) ?_
  rotate_left
  · intro w hSw; (try dsimp only at hSw); go_simp; try with_reducible rfl
  try simp only [Act.put, List.setIfInBounds_toArray, List.set_cons_zero, List.set_cons_succ]
  refine wpAnyH_ready (rs := [6, 7]) (by kernel_rfl) (by simp) ?_
  refine AllReadyH.cons (o := { dst := some 24, op := Op.call { callee := Callee.value (Operand.func 62), args := #[Operand.tmp 20, Operand.tmp 23], argTypes := #[22, 28] }, type := _, pos := _, after := _, guard := none }) rfl ?legA1 (AllReadyH.cons (o := { dst := some 10, op := Op.alloc 22, type := _, pos := _, after := _, guard := none }) rfl ?legB1 AllReadyH.nil)
  case' legA1 =>
    intro K hK
    go_simp
    first | refine (HSEEN.out w3.drew HBd.out).mono ?_ | refine (HSEEN.out _ HBe.out).mono ?_
    rintro e w4 ⟨v4, rfl, ho4, hb4⟩
    obtain ⟨A4, c4, rfl, -, -, -⟩ := own_arr ho4
    have HO4 := hid ho4
    have HB4 := hid hb4
    clear ho4 hb4
    go_wp2_with fail
    refine hK.out _ _ (by trivial) (fun hHeld => ?_)
    clear hK K
    try simp only [Act.put, List.setIfInBounds_toArray, List.set_cons_zero, List.set_cons_succ]
    refine wpAnyH_ready (rs := [7]) (by kernel_rfl) (by simp) ?_
    refine AllReadyH.cons (o := { dst := some 10, op := Op.alloc 22, type := _, pos := _, after := _, guard := none }) rfl (fun K hK => ?_) AllReadyH.nil
    go_simp
    refine hK.out _ _ (by trivial) (fun hHeld => ?_)
    clear hK K
    try simp only [Act.put, List.setIfInBounds_toArray, List.set_cons_zero, List.set_cons_succ]
    refine wpAnyH_ready (rs := [8]) (by kernel_rfl) (by simp) ?_
    refine AllReadyH.cons (o := { dst := none, op := Op.store 22 (Operand.tmp 10) (Operand.tmp 24), type := _, pos := _, after := _, guard := none }) rfl (fun K hK => ?_) AllReadyH.nil
    go_simp
    refine hK.out _ _ (by trivial) (fun hHeld => ?_)
    clear hK K
    try simp only [Act.put, List.setIfInBounds_toArray, List.set_cons_zero, List.set_cons_succ]
    refine wpAnyH_done (by kernel_rfl) ?_ _
    have hb35 : Below w3.heap.size w3 (w4.alloc (.cells #[.slice A4 (rightOf l hide i).length c4] 22)) := ((Below.refl w3.heap.size w3).drew.trans HB4.out).alloc (((Below.refl w3.heap.size w3).drew.trans HB4.out).size) _
    have HR5 := hid (show IsNums .i64 (w4.alloc (.cells #[.slice A4 (rightOf l hide i).length c4] 22)) Any (.slice A4 (rightOf l hide i).length c4) (rightOf l hide i) from by
      have h := own_nums (k := .i64) (zs := rightOf l hide i) HO4.out
      exact (h.below ((Below.refl _ _).alloc (Nat.le_refl _) _)).mono fun _ _ _ => trivial)
    have hc2 : (w4.alloc (.cells #[.slice A4 (rightOf l hide i).length c4] 22)).cell? ⟨w4.heap.size, 0, none⟩ = some (.slice A4 (rightOf l hide i).length c4) := by rw [cell_of_row _ _ _ _ _ _ (heap_alloc_new w4 _)]; rfl
    have hc1 := HX1.out _ hb35
    have HL5 := hid (HL3.out.below hb35)
    have HBX5 := hid ((hb35.block q (Array.getElem?_eq_some_iff.1 HBX3.out).1).trans HBX3.out)
    have HB5 := hid (HB3.out.trans (hb35.mono HB3.out.size))
    obtain ⟨w5, hw5⟩ : ∃ w5, w5 = w4.alloc (.cells #[.slice A4 (rightOf l hide i).length c4] 22) := ⟨_, rfl⟩
    rw [← hw5] at HR5 hc2 hc1 HL5 HBX5 HB5 ⊢
    rw [HQ.out] at HBX5
    clear hw5 hb35
    obtain ⟨g0, g1, g2, -⟩ := slot3 HBX5.out
    go_wp2_with fail
    refine (indexAt_any d A c t.rs _ _ (leftOf l hide i) (rightOf l hide i) b1 (w4.heap.size) w5 (HA.out.below HB5.out) HLA.out HL5.out HR5.out (by simp [leftOf]) HRP.out (by have h := seenTo_len (l.take i) hide i; have := HP.out; simp [leftOf]; omega) (by have h := seenTo_len (l.drop i) (hide.drop i) (l.length - i); have := HP.out; unfold rightOf; omega) hc1 hc2).mono ?_
    rintro e w6 ⟨rfl, hb6⟩
    go_wp2_with fail
    go_ret
    exact ⟨rfl, HB5.out.trans (hb6.mono HB5.out.size)⟩
  case' legB1 =>
    intro K hK
    go_simp
    refine hK.out _ _ (by trivial) (fun hHeld => ?_)
    clear hK K
    try simp only [Act.put, List.setIfInBounds_toArray, List.set_cons_zero, List.set_cons_succ]
    refine wpAnyH_ready (rs := [6]) (by kernel_rfl) (by simp) ?_
    refine AllReadyH.cons (o := { dst := some 24, op := Op.call { callee := Callee.value (Operand.func 62), args := #[Operand.tmp 20, Operand.tmp 23], argTypes := #[22, 28] }, type := _, pos := _, after := _, guard := none }) rfl (fun K hK => ?_) AllReadyH.nil
    go_simp
    first | refine (HSEEN.out w3.drew HBd.out).mono ?_ | refine (HSEEN.out _ HBe.out).mono ?_
    rintro e w4 ⟨v4, rfl, ho4, hb4⟩
    obtain ⟨A4, c4, rfl, -, -, -⟩ := own_arr ho4
    have HO4 := hid ho4
    have HB4 := hid hb4
    clear ho4 hb4
    obtain ⟨hcx, hfx⟩ := HX22.out w4 HB4.out
    go_wp2_with fail
    refine hK.out _ _ (by trivial) (fun hHeld => ?_)
    clear hK K
    try simp only [Act.put, List.setIfInBounds_toArray, List.set_cons_zero, List.set_cons_succ]
    refine wpAnyH_ready (rs := [8]) (by kernel_rfl) (by simp) ?_
    refine AllReadyH.cons (o := { dst := none, op := Op.store 22 (Operand.tmp 10) (Operand.tmp 24), type := _, pos := _, after := _, guard := none }) rfl (fun K hK => ?_) AllReadyH.nil
    go_simp
    refine hK.out _ _ (by trivial) (fun hHeld => ?_)
    clear hK K
    try simp only [Act.put, List.setIfInBounds_toArray, List.set_cons_zero, List.set_cons_succ]
    refine wpAnyH_done (by kernel_rfl) ?_ _
    have hb35 : Below w3.heap.size w3 (w4.setCell ⟨w3.heap.size, 0, none⟩ (.slice A4 (rightOf l hide i).length c4)) := (((Below.refl w3.heap.size w3).drew.alloc (Nat.le_refl _) _).trans (HB4.out.mono (by simp))).setCell (p := ⟨w3.heap.size, 0, none⟩) (Nat.le_refl _) _
    have HR5 := hid (show IsNums .i64 (w4.setCell ⟨w3.heap.size, 0, none⟩ (.slice A4 (rightOf l hide i).length c4)) Any (.slice A4 (rightOf l hide i).length c4) (rightOf l hide i) from by
      have h := own_nums (k := .i64) (zs := rightOf l hide i) HO4.out
      exact ((h.mono (S' := fun b => b ≠ w3.heap.size) (fun b hb _ => by have h1 := hb.1; simp at h1; omega)).keep (fun b hb _ => heap_setCell_other _ _ _ _ hb)).mono fun _ _ _ => trivial)
    have hc2 : (w4.setCell ⟨w3.heap.size, 0, none⟩ (.slice A4 (rightOf l hide i).length c4)).cell? ⟨w3.heap.size, 0, none⟩ = some (.slice A4 (rightOf l hide i).length c4) := World.cell?_setCell_same _ _ _ hcx
    have hc1 := HX1.out _ hb35
    have HL5 := hid (HL3.out.below hb35)
    have HBX5 := hid ((hb35.block q (Array.getElem?_eq_some_iff.1 HBX3.out).1).trans HBX3.out)
    have HB5 := hid (HB3.out.trans (hb35.mono HB3.out.size))
    obtain ⟨w5, hw5⟩ : ∃ w5, w5 = w4.setCell ⟨w3.heap.size, 0, none⟩ (.slice A4 (rightOf l hide i).length c4) := ⟨_, rfl⟩
    rw [← hw5] at HR5 hc2 hc1 HL5 HBX5 HB5 ⊢
    rw [HQ.out] at HBX5
    clear hw5 hb35
    obtain ⟨g0, g1, g2, -⟩ := slot3 HBX5.out
    go_wp2_with fail
    refine (indexAt_any d A c t.rs _ _ (leftOf l hide i) (rightOf l hide i) b1 (w3.heap.size) w5 (HA.out.below HB5.out) HLA.out HL5.out HR5.out (by simp [leftOf]) HRP.out (by have h := seenTo_len (l.take i) hide i; have := HP.out; simp [leftOf]; omega) (by have h := seenTo_len (l.drop i) (hide.drop i) (l.length - i); have := HP.out; unfold rightOf; omega) hc1 hc2).mono ?_
    rintro e w6 ⟨rfl, hb6⟩
    go_wp2_with fail
    go_ret
    exact ⟨rfl, HB5.out.trans (hb6.mono HB5.out.size)⟩
end Go.Proofs.Ytjcdcmeclnihbaa
