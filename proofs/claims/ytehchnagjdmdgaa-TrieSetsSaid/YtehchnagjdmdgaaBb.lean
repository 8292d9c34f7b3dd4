/- The document's count of unlike blocks. Conditions: right entries in memory, no more than are asked of. -/
import Derived.Test.YtehchnagjdmdgaaRs
namespace Go.Proofs.Ytehchnagjdmdgaa
open Go.RowKit
set_option linter.unusedSimpArgs false
abbrev OwnS (w : World) (B : Nat) (v : Value) (l : List ByteArray) : Prop := w.ownsRow B 9 1 v l.length (l.map Value.string)
theorem info9 : (Try.prog.info? 9).map (fun i => (i.zero, i.size, i.bytes)) = some (some (.string ⟨#[]⟩), 1, 16) := by kernel_rfl
theorem wpList_app_str {w : World} {ops : Array Oper} {rest : List Oper} {o : Oper} {a : Act} {Q : Exit → Act → World → Prop} (hg : o.guard = none) (s x : Operand) (hop : o.op = .call { callee := .builtin .append, args := #[s, x], argTypes := #[83, 83] }) {B : Nat} {v : Value} {l : List ByteArray} {w0 : World} {z : ByteArray} (hw : w = w0.alloc (.cells #[.string z] 9))
    (hs : a.eval s = v) (hown : OwnS w0 B v l) (hx : a.eval x = .slice (some ⟨w0.heap.size, 0, none⟩) 1 1) (hl : l.length ≤ 1010000) (hB : B ≤ w0.heap.size)
    (h : ∀ A c w', OwnS w' B (.slice A (l.length + 1) c) (l ++ [z]) → w.grownBy w' v.ownBlock → wpList Try.prog ops Q rest (a.put o.dst (.slice A (l.length + 1) c)) w') : wpList Try.prog ops Q (o :: rest) a w :=
  wpList_plain hg fun _ hK => by
    obtain ⟨i0, hi0, hz0, hz1, hz2⟩ := info_parts info9
    subst hw
    refine wp_app _ s x 83 hop B 9 i0 _ 1 16 Try.underlying83 hi0 hz0 hz1 hz2 rfl (by decide) v _ _ hs (hown.alloc _) (some ⟨w0.heap.size, 0, none⟩) 1 1 _ hx (src_new w0 _ 9 1 rfl) (by simp [Value.oneCell']) (by simp only [maxLen]; omega) (by omega) (by simp; omega) fun v' w' h1 h2 h3 => ?_
    have h1' : OwnS w' B v' (l ++ [z]) := by
      have : (l ++ [z]).length = l.length + 1 := by simp
      show w'.ownsRow B 9 1 v' (l ++ [z]).length ((l ++ [z]).map Value.string)
      rw [this]
      simpa using h1
    obtain ⟨A, c, e, _⟩ := own_arr h1'
    rw [List.length_append, List.length_singleton] at e
    subst e
    exact hK _ _ (h A c w' h1' h2)
theorem OwnS.cell {w : World} {B : Nat} {A : Option Addr} {n c : Nat} {l : List ByteArray} (h : OwnS w B (.slice A n c) l) {j : Nat} {s : ByteArray} (hj : l[j]? = some s) : ∃ b o, A = some ⟨b, o, none⟩ ∧ w.cell? ⟨b, o + j, none⟩ = some (.string s) := by
  obtain ⟨A', c', e, -, -, h3⟩ := own_arr h
  obtain ⟨b, o, ea, -, -, hc⟩ := h3.at (k := j) (v := .string s) (by rw [List.getElem?_map, hj]; rfl)
  injection e with e1
  exact ⟨b, o, by rw [e1]; exact ea, hc⟩
theorem conv2 (w : World) (x y : Int) : (convert 84 9 (.slice (some ⟨w.heap.size, 0, none⟩) 2 2)).run Try.prog (w.alloc (.cells #[.int .u8 x, .int .u8 y] 5)) = .ok (.string (strL [x, y])) (w.alloc (.cells #[.int .u8 x, .int .u8 y] 5)) :=
  run_conv_own (base := w.heap.size) (zs := [x, y]) Try.underlying84 Try.underlying5 Try.underlying9 (IntBlk.own (l := [x, y]) (show (w.alloc (.cells #[.int .u8 x, .int .u8 y] 5)).heap[w.heap.size]? = _ from heap_alloc_new _ _) (Nat.le_refl _) (by simp))
theorem strL_index {l : List Int} {q : Nat} (hq : l.length = q + 1) (hb : ∀ x ∈ l, 0 ≤ x ∧ x ≤ 255) (w : World) : (Instr.index 9 (.string (strL l)) (.int .i64 (q : Int))).run Try.prog w = .ok (.int .u8 (nth l q)) w := by
  have hs := strL_size l
  rw [run_index_string w 9 (strL l) .i64 (q : Int) Try.underlying9, dif_pos ⟨by omega, by rw [hs]; omega⟩]
  have hx := hb _ (nth_mem (show q < l.length by omega))
  have h2 : (strL l)[((q : Nat) : Int).toNat]'(by rw [hs]; omega) = UInt8.ofNat (nth l q).toNat := by
    show (strL l).data[((q : Nat) : Int).toNat]'_ = _
    simp [strL, nth, List.getElem?_eq_getElem (show q < l.length by omega)]
  rw [h2, UInt8.toNat_ofNat']
  congr 2
  omega
theorem text_ne {a b : ByteArray} (h : a ≠ b) : (a.toList == b.toList) = false := by
  rw [ByteArray.toList_eq, ByteArray.toList_eq, beq_eq_false_iff_ne]
  intro e
  exact h (ByteArray.ext (by have := congrArg List.toArray e; simpa using this))
set_option maxRecDepth 100000 in
set_option maxHeartbeats 4000000 in
theorem refBlocks_any (S : Nat → Prop) (A : Option Addr) (c : Nat) (other : Int) (es : List Ent) (w : World) (h : IsEnts w S (.slice A es.length c) es) (hg : ∀ e ∈ es, goodE e = true) (ho : 0 ≤ other ∧ other ≤ 255) (hl : es.length ≤ 12) (hl2 : ∀ e ∈ es, e.1.length ≤ 12) (N : Nat) (hN : N = (blksTo other es 4352).length) :
    Calls Try.prog 19 #[.int .i64 other, .slice A es.length c] w fun e w' => e = .returned (.int .i64 (N : Int)) ∧ Below w.heap.size w w' := by
  have H := hid h
  have HAL := hid (allR_len hl2)
  have HAK := hid (allR_ok hg)
  have HL2 := hid hl2
  have HBY := hid (show ∀ p, byteL (blkOf other es p) from fun p => blk_byte hg ho p)
  have HBT := hid (show ∀ p, txtB (blkOf other es p) ∈ (blksTo other es p).map txtB ↔ blkOf other es p ∈ blksTo other es p from fun p => blks_txt (fun l p e => by rw [e]; exact (blk_byte hg ho p).2) p)
  have HFIN := hid (show ∀ m, m = 4352 → ((blksTo other es m).map txtB).length = N from fun m hm => by rw [hN, hm]; exact List.length_map _)
  clear h hl2 hg ho hN
  go_enter Try.func19, Try.ntmps19
  go_wp2_with fail
  go_loopw [5, 6] (fun s7 s9 wr => ∃ (i : Nat) (v : Value), i ≤ es.length ∧ s9 = .int .i64 i ∧ s7 = v ∧ Hid (OwnQ wr w.heap.size v (allR (es.take i))) ∧ Hid (Below w.heap.size w wr)) (fun _ s9 _ => es.length - (intOf s9).toNat)
  case atStart => exact ⟨0, _, by omega, rfl, rfl, hid (OwnQ.nil _ _), hid (Below.refl _ _)⟩
  case round =>
    obtain ⟨i, v, hi, rfl, e7, HO, HB⟩ := hrel
    subst e7
    by_cases hlt : i < es.length
    · obtain ⟨eb, eo, RA, rc, rfl, -, heb, c0, -, hrs, -⟩ := (H.out.below HB.out).at hlt
      have HRS := hid hrs
      have HAT := hid (allR_take hlt)
      obtain ⟨m, hm⟩ : ∃ m, m = (ent es i).1 := ⟨_, rfl⟩
      obtain ⟨L, hL⟩ : ∃ L, L = allR (es.take i) := ⟨_, rfl⟩
      have HLN := hid (show L.length + m.length ≤ 1000000 by
        have h1 := allR_len (es := es.take i) fun e he => HL2.out e (List.mem_of_mem_take he)
        have h2 := HL2.out _ (ent_mem hlt)
        rw [List.length_take] at h1
        rw [hL, hm]; omega)
      rw [← hm] at c0 HRS HAT
      rw [← hL] at HO HAT
      clear hm hL hrs
      go_wp2_with (at_builtin; refine wpList_appQ rfl (.tmp 22) (.tmp 27) rfl rfl HO.out rfl rfl HRS.out HLN.out HB.out.size ?_; intro A2 c2 w2 ho2 hg2)
      have HO2 := hid ho2
      have HB2 := hid (HB.out.grown hg2 HB.out.size fun j e => (HO.out.1.lt j e).1)
      clear ho2 hg2
      exact ⟨⟨i + 1, _, by omega, by go_num, rfl, hid (by rw [HAT.out]; have h := HO2.out; rwa [List.length_append] at h), HB2⟩, by simp [intOf]; omega⟩
    · obtain rfl : i = es.length := by omega
      have ho := HO.out
      rw [List.take_length] at ho
      have HO := hid ho
      obtain ⟨l, hl⟩ : ∃ l, l = allR es := ⟨_, rfl⟩
      have HPE := hid (show Pts (pts3 l) (allR es) by rw [hl]; exact pts3_is _)
      rw [← hl] at HO HAL HAK
      obtain ⟨LA, lc, e7⟩ := HO.out.is.form
      subst e7
      have hll : l.length ≤ 144 := by have := HAL.out; omega
      have HLA := hid (pts3_len l)
      have HF := hid ((pts3_is l).first HAK.out)
      have HT := hid ((pts3_is l).last HAK.out)
      have H2 := hid (pts3_is l).two
      have HRG := hid ((pts3_is l).rng HAK.out)
      clear ho hl
      go_wp2_with fail
      refine (points3_any _ LA lc l _ HO.out.is HAK.out (by omega)).mono ?_
      rintro e w3 ⟨v3, rfl, hn3, hb3⟩
      have HN3 := hid hn3
      have HB3 := hid (ends_true HB.out hb3)
      clear hn3 hb3 HO HB
      obtain ⟨at', hat⟩ : ∃ a, a = pts3 l := ⟨_, rfl⟩
      rw [← hat] at HN3 HPE HLA HF HT H2 HRG
      have hal : at'.length ≤ 300 := by have := HLA.out; omega
      have ha2 : 2 ≤ at'.length := H2.out
      obtain ⟨AA, ac, rfl, -, -, hA⟩ := id HN3.out
      have HA := hid hA
      have HH3 := hid (H.out.below HB3.out)
      clear hat hA HAL HAK HL2
      go_wp2_with fail
      go_loopw [8, 9, 10] (fun s8 s9 s10 wr => ∃ (p k : Nat) (v : Value), p ≤ 4352 ∧ k + 1 < at'.length ∧ s10 = .int .i32 p ∧ s9 = .int .i64 k ∧ s8 = v ∧ Hid (nth at' k ≤ (p : Int) * 256) ∧ Hid (OwnS wr w3.heap.size v ((blksTo other es p).map txtB)) ∧ Hid (Below w3.heap.size w3 wr)) (fun _ _ s10 _ => 4352 - (intOf s10).toNat)
      case atStart => exact ⟨0, 0, _, by omega, by omega, rfl, rfl, rfl, hid (by rw [HF.out]; decide), hid (World.ownsRow_nil _ _ _ _), hid (Below.refl _ _)⟩
      case round =>
        obtain ⟨p, k0, v, hp, hk0, rfl, rfl, e8, HK0, HO, HB⟩ := hrel
        subst e8
        by_cases hpl : p < 4352
        · go_wp2_with fail
          go_loopw [9] (fun s9 wk => ∃ (k : Nat), k + 1 < at'.length ∧ s9 = .int .i64 k ∧ Hid (nth at' k ≤ (p : Int) * 256) ∧ wk = wr) (fun s9 _ => at'.length - (intOf s9).toNat)
          case atStart => exact ⟨k0, hk0, rfl, HK0, rfl⟩
          case round =>
            clear HK0 hk0
            obtain ⟨k, hk, rfl, HK, hwk⟩ := hrel
            subst hwk
            obtain ⟨ab, ao, rfl, -, hab, ca1⟩ := HA.out.num (j := k + 1) hk
            have hca := (HB.out.cell (p := ⟨ab, ao + (k + 1), none⟩) hab).trans ca1
            obtain ⟨a1, ha1⟩ : ∃ x, x = nth at' (k + 1) := ⟨_, rfl⟩
            have HA1 := hid ha1
            have hr1 := HRG.out _ (nth_mem hk)
            rw [← ha1] at hca hr1
            have hki : (k : Int) + 1 < (at'.length : Int) := by omega
            clear ha1 ca1
            by_cases hle : a1 ≤ (p : Int) * 256
            · have HKN := hid (show k + 1 + 1 < at'.length by
                rcases Nat.lt_or_ge (k + 1 + 1) at'.length with h | h
                · exact h
                · exfalso
                  have h2 := HT.out
                  rw [show at'.length - 1 = k + 1 by omega, ← HA1.out] at h2
                  omega)
              go_wp2_with fail
              go_roundw
              case rel => exact ⟨k + 1, HKN.out, by go_num, hid (by rw [← HA1.out]; exact hle), trivial⟩
              case measure => simp [intOf]; omega
            · have HGT := hid (show (p : Int) * 256 < nth at' (k + 1) by rw [← HA1.out]; omega)
              obtain ⟨blk, hblk⟩ : ∃ b, b = blkOf other es p := ⟨_, rfl⟩
              have HBK := hid hblk
              have HBYB := hid (show byteL blk by rw [hblk]; exact HBY.out p)
              have HG0 := hid (show getB other es ((p : Int) * 256) = nth blk 0 by
                rw [hblk, nth_blk (by omega)]
                unfold getB
                rw [if_pos (by omega)]
                congr 1)
              have HR0 := hid (rle_byte HBYB.out.2 HBYB.out.1)
              clear hblk
              go_wp2_with fail
              refine (refGet_any S A c es other ((p : Int) * 256) _ (HH3.out.below HB.out)).mono ?_
              rintro e wb ⟨rfl, hbb⟩
              rw [HG0.out]
              have HBB := hid (HB.out.trans (hbb.mono HB.out.size))
              have HOB := hid (own_moved HO.out fun q _ hq => hbb.block q hq)
              have hc0 := HBYB.out.2 _ (nth_mem (show 0 < blk.length by rw [HBYB.out.1]; omega))
              obtain ⟨c0, hc0e⟩ : ∃ x, x = nth blk 0 := ⟨_, rfl⟩
              rw [← hc0e] at hc0 ⊢
              have HC0 := hid hc0e
              clear hbb hca hc0e
              have hcv := conv2 wb 0 c0
              go_wp2_with fail
              have HXB := hid (show Below w3.heap.size w3 (wb.alloc (.cells #[.int .u8 0, .int .u8 c0] 5)) from HBB.out.alloc HBB.out.size _)
              have HOX := hid (show OwnS (wb.alloc (.cells #[.int .u8 0, .int .u8 c0] 5)) w3.heap.size _ ((blksTo other es p).map txtB) from own_moved HOB.out fun q _ hq => ((Below.refl wb.heap.size wb).alloc (Nat.le_refl _) (.cells #[.int .u8 0, .int .u8 c0] 5)).block q hq)
              clear hcv
              go_loopw [11, 12] (fun s11 s12 wk => ∃ (j : Nat), k + 1 ≤ j ∧ j < at'.length ∧ s12 = .int .i64 j ∧ s11 = .string (strL (rleTo blk (capO at' p j))) ∧ Hid ((p : Int) * 256 < nth at' j) ∧ Hid (Below w3.heap.size w3 wk) ∧ Hid (Below wb.heap.size wb wk)) (fun _ s12 _ => at'.length - (intOf s12).toNat)
              case atStart => exact ⟨k + 1, Nat.le_refl _, hk, by go_num, by
                have h := blk_step HPE.out other (p := p) (j := k) hk (m := 0) (by have := HK.out; omega) (by omega) (by have := HGT.out; omega)
                rw [← HBK.out] at h
                rw [h, HC0.out]; rfl, HGT, HXB, hid ((Below.refl wb.heap.size wb).alloc (Nat.le_refl _) _)⟩
              case round =>
                clear HXB HOX HB hr1 hki
                obtain ⟨j, hj1, hj, rfl, rfl, HPJ, HB, HBJ⟩ := hrel
                obtain ⟨ab', ao', e2, -, -, cj⟩ := HA.out.num (j := j) hj
                obtain ⟨rfl, rfl⟩ : ab = ab' ∧ ao = ao' := by injection e2 with e2; injection e2 with x y; exact ⟨x, y⟩
                have hcj := (HB.out.cell (p := ⟨ab, ao + j, none⟩) hab).trans cj
                have hrj := HRG.out _ (nth_mem hj)
                obtain ⟨aj, haj⟩ : ∃ x, x = nth at' j := ⟨_, rfl⟩
                have HAJ := hid haj
                rw [← haj] at hcj hrj
                have hpj := HPJ.out
                rw [← haj] at hpj
                have hji : (j : Int) < (at'.length : Int) := by omega
                clear haj cj
                by_cases hlj : aj < (p : Int) * 256 + 256
                · have HJN := hid (show j + 1 < at'.length by
                    rcases Nat.lt_or_ge (j + 1) at'.length with h | h
                    · exact h
                    · exfalso
                      have h2 := HT.out
                      rw [show at'.length - 1 = j by omega, ← HAJ.out] at h2
                      omega)
                  obtain ⟨y, hy⟩ : ∃ y : Nat, aj = (p : Int) * 256 + ((y + 1 : Nat) : Int) := ⟨(aj - (p : Int) * 256 - 1).toNat, by omega⟩
                  have hy2 : y + 1 ≤ 255 := by omega
                  have HCP := hid (show capO at' p j = y by unfold capO; rw [← HAJ.out, hy]; omega)
                  have HNX := hid (show rleTo blk (capO at' p (j + 1)) = rleTo blk (y + 1) by
                    have h := blk_step HPE.out other (p := p) (j := j) HJN.out (m := y + 1) (by rw [← HAJ.out, hy]; exact Int.le_refl _) (by omega) (by
                      have h1 := up_nth HPE.out.up (show j < j + 1 by omega) HJN.out
                      rw [← HAJ.out, hy] at h1; exact h1)
                    rw [← HBK.out] at h
                    exact h)
                  have HGJ := hid (show getB other es aj = nth blk (y + 1) by
                    rw [HBK.out, nth_blk (by omega), hy]
                    unfold getB
                    rw [if_pos (by omega)])
                  have HPN := hid (show ∀ q, q < at'.length → nth at' j < nth at' q → (p : Int) * 256 < nth at' q from fun q _ h => by rw [← HAJ.out] at h; omega)
                  obtain ⟨L, hL⟩ : ∃ L, L = rleTo blk y := ⟨_, rfl⟩
                  obtain ⟨q, hq⟩ : ∃ q, L.length = q + 1 := ⟨L.length - 1, by have := (rle_last blk y).1; rw [hL]; omega⟩
                  have hlast := (rle_last blk y).2
                  rw [← hL, hq, Nat.add_sub_cancel] at hlast
                  have hLb : ∀ x ∈ L, 0 ≤ x ∧ x ≤ 255 := by rw [hL]; exact HR0.out y (by omega)
                  obtain ⟨st, hst⟩ : ∃ st, st = strL L := ⟨_, rfl⟩
                  have hlen300 := rle_len blk y
                  rw [← hL, hq] at hlen300
                  obtain ⟨lv, hlv⟩ : ∃ lv, lv = nth blk y := ⟨_, rfl⟩
                  have hix : ∀ W, (Instr.index 9 (.string st) (.int .i64 (q : Int))).run Try.prog W = .ok (.int .u8 lv) W := fun W => by rw [hst, hlv, ← hlast]; exact strL_index hq hLb W
                  have hsz : st.size = q + 1 := by rw [hst, strL_size, hq]
                  have hlvb : 0 ≤ lv ∧ lv ≤ 255 := by rw [hlv]; exact HBYB.out.2 _ (nth_mem (by rw [HBYB.out.1]; omega))
                  have hcvb := HBYB.out.2 _ (nth_mem (show y + 1 < blk.length by rw [HBYB.out.1]; omega))
                  obtain ⟨cv, hcv⟩ : ∃ cv, cv = nth blk (y + 1) := ⟨_, rfl⟩
                  have HRL := hid (show rleTo blk (y + 1) = if cv = lv then L else L ++ [((y + 1 : Nat) : Int), cv] by rw [hcv, hlv, hL]; rfl)
                  rw [← hcv] at hcvb HGJ
                  rw [HCP.out, ← hL, ← hst]
                  have HST := hid hst
                  have HY := hid hy
                  clear hst hlv hcv hL hq hlast hLb hy
                  go_wp2_with fail
                  refine (refGet_any S A c es other aj _ (HH3.out.below HB.out)).mono ?_
                  rintro e wc ⟨rfl, hbc⟩
                  rw [HGJ.out]
                  have HBC := hid (HB.out.trans (hbc.mono HB.out.size))
                  have HBCJ := hid (HBJ.out.trans (hbc.mono HBJ.out.size))
                  have hcjc := (hbc.cell (p := ⟨ab, ao + j, none⟩) (cell_lt hcj)).trans hcj
                  clear hbc hcj
                  by_cases hcl : cv = lv
                  · have HNX2 := hid (show strL (rleTo blk (capO at' p (j + 1))) = st by rw [HNX.out, HRL.out, if_pos hcl, HST.out])
                    go_wp2_with fail
                    exact ⟨⟨j + 1, by omega, HJN.out, by go_num, by rw [HNX2.out], hid (HPN.out _ HJN.out (up_nth HPE.out.up (show j < j + 1 by omega) HJN.out)), HBC, HBCJ⟩, by simp [intOf]; omega⟩
                  · obtain ⟨x, hx⟩ : ∃ x : Int, x = ((y + 1 : Nat) : Int) := ⟨_, rfl⟩
                    have HNX2 := hid (show strL (rleTo blk (capO at' p (j + 1))) = st ++ strL [x, cv] by rw [HNX.out, HRL.out, if_neg hcl, strL_append, HST.out, hx])
                    have hax : aj - (p : Int) * 256 = x := by rw [HY.out, hx]; omega
                    have hxb : 0 ≤ x ∧ x ≤ 255 := by rw [hx]; omega
                    have hcnv := conv2 wc x cv
                    have HBD := hid (HBC.out.alloc HBC.out.size (.cells #[.int .u8 x, .int .u8 cv] 5))
                    have HBDJ := hid (HBCJ.out.alloc HBCJ.out.size (.cells #[.int .u8 x, .int .u8 cv] 5))
                    have hsz2 : (strL [x, cv]).size = 2 := strL_size _
                    clear hx
                    go_wp2_with fail
                    clear hax hcnv
                    exact ⟨⟨j + 1, by omega, HJN.out, by go_num, by rw [HNX2.out], hid (HPN.out _ HJN.out (up_nth HPE.out.up (show j < j + 1 by omega) HJN.out)), HBD, HBDJ⟩, by simp [intOf]; omega⟩
                · have HFT := hid (show strL (rleTo blk (capO at' p j)) = txtB blk by
                    unfold txtB
                    rw [show capO at' p j = 255 by unfold capO; rw [← HAJ.out]; omega])
                  rw [HFT.out]
                  have HOK := hid (show OwnS wr w3.heap.size _ ((blksTo other es p).map txtB) from own_moved HOB.out fun q _ hq => HBJ.out.block q hq)
                  obtain ⟨K, hK⟩ : ∃ K, K = (blksTo other es p).map txtB := ⟨_, rfl⟩
                  obtain ⟨tx, htx⟩ : ∃ t, t = txtB blk := ⟨_, rfl⟩
                  have HNK := hid (show (tx ∈ K → (blksTo other es (p + 1)).map txtB = K) ∧ (tx ∉ K → (blksTo other es (p + 1)).map txtB = K ++ [tx]) by
                    have hadd : blksTo other es (p + 1) = addB (blksTo other es p) (blkOf other es p) := rfl
                    have h := HBT.out p
                    rw [← HBK.out, ← htx, ← hK] at h
                    rw [hadd]
                    unfold addB
                    rw [← HBK.out]
                    exact ⟨fun e => by rw [if_pos (h.1 e), hK], fun e => by rw [if_neg (fun h' => e (h.2 h')), List.map_append, hK, htx]; rfl⟩)
                  have HKP := hid (show nth at' k ≤ ((p + 1 : Nat) : Int) * 256 by have := HK.out; omega)
                  have HKL := hid (show K.length ≤ 4352 by rw [hK, List.length_map]; have := blks_len other es p; omega)
                  have hkl : K.length ≤ 4352 := HKL.out
                  rw [← hK] at HOK
                  rw [← htx]
                  obtain ⟨KA, kc, e8, -⟩ := own_arr HOK.out
                  subst e8
                  clear hK htx HOB HO HAJ HPJ HBJ
                  go_wp2_with fail
                  clear hcj hrj hpj hji
                  go_loopw [14, 15] (fun s14 s15 wk => ∃ (i : Nat) (t : Bool), i ≤ K.length ∧ s15 = .int .i64 ((i : Int) - 1) ∧ s14 = .bool t ∧ Hid ((t = true → tx ∈ K) ∧ (t = false → tx ∉ K.drop i)) ∧ wk = wr) (fun _ s15 _ => (intOf s15 + 1).toNat)
                  case atStart => exact ⟨K.length, false, Nat.le_refl _, by go_num, rfl, hid ⟨fun h => (by cases h), fun _ h => (by rw [List.drop_length] at h; cases h)⟩, rfl⟩
                  case round =>
                    obtain ⟨i, t, hi, rfl, rfl, HT2, hwk⟩ := hrel
                    subst hwk
                    cases t with
                    | true =>
                      have HIN := hid (HNK.out.1 (HT2.out.1 rfl))
                      by_cases hi0 : i = 0
                      · subst hi0
                        go_wp2_with fail
                        exact ⟨⟨p + 1, k, _, by omega, hk, by go_num, rfl, rfl, HKP, hid (by rw [HIN.out]; exact HOK.out), HB⟩, by simp [intOf]; omega⟩
                      · obtain ⟨i1, rfl⟩ : ∃ i1, i = i1 + 1 := ⟨i - 1, by omega⟩
                        have hie : ((i1 + 1 : Nat) : Int) - 1 = (i1 : Int) := by omega
                        rw [hie]
                        clear hie
                        go_wp2_with fail
                        exact ⟨⟨p + 1, k, _, by omega, hk, by go_num, rfl, rfl, HKP, hid (by rw [HIN.out]; exact HOK.out), HB⟩, by simp [intOf]; omega⟩
                    | false =>
                      by_cases hi0 : i = 0
                      · subst hi0
                        have HIN := hid (HNK.out.2 (by have h := HT2.out.2 rfl; rwa [List.drop_zero] at h))
                        go_wp2_with (at_builtin; refine wpList_app_str rfl (.tmp 112) (.tmp 114) rfl (w0 := wr) (z := tx) rfl rfl HOK.out rfl (by have := HKL.out; omega) HB.out.size ?_; intro A5 c5 w5 ho5 hg5)
                        have HO5 := hid ho5
                        have HB5 := hid ((HB.out.alloc HB.out.size (.cells #[.string tx] 9)).grown hg5 (by have := HB.out.size; simp; omega) fun j e => (HOK.out.lt j e).1)
                        clear ho5 hg5
                        exact ⟨⟨p + 1, k, _, by omega, hk, by go_num, rfl, rfl, HKP, hid (by rw [HIN.out]; have h := HO5.out; rw [OwnS, List.length_append, List.length_singleton] at h ⊢; exact h), HB5⟩, by simp [intOf]; omega⟩
                      · obtain ⟨i1, rfl⟩ : ∃ i1, i = i1 + 1 := ⟨i - 1, by omega⟩
                        have hie : ((i1 + 1 : Nat) : Int) - 1 = (i1 : Int) := by omega
                        rw [hie]
                        clear hie
                        have hi1 : i1 < K.length := by omega
                        obtain ⟨kb, ko, rfl, hkc⟩ := HOK.out.cell (j := i1) (List.getElem?_eq_getElem hi1)
                        obtain ⟨z, hz⟩ : ∃ z, z = K[i1] := ⟨_, rfl⟩
                        have HZ := hid hz
                        rw [← hz] at hkc
                        have hdr : K.drop i1 = z :: K.drop (i1 + 1) := by rw [hz]; exact List.drop_eq_getElem_cons hi1
                        have HDR := hid hdr
                        clear hz hdr
                        by_cases hzt : z = tx
                        · have HNX := hid (show tx ∈ K by rw [← hzt, HZ.out]; exact List.getElem_mem _)
                          subst hzt
                          go_wp2_with fail
                          go_roundw
                          case rel => exact ⟨i1, true, by omega, by go_num, rfl, hid ⟨fun _ => HNX.out, fun h => (by cases h)⟩, trivial⟩
                          case measure => simp [intOf]
                        · have HNX := hid (show tx ∉ K.drop i1 by
                            rw [HDR.out, List.mem_cons]
                            exact fun h => h.elim (fun e => hzt e.symm) (HT2.out.2 rfl))
                          have hne : (z.toList == tx.toList) = false := text_ne hzt
                          go_wp2_with fail
                          go_roundw
                          case rel => exact ⟨i1, false, by omega, by go_num, rfl, hid ⟨fun h => (by cases h), fun _ => HNX.out⟩, trivial⟩
                          case measure => simp [intOf]
        · have hN := HFIN.out p (by omega)
          have HN := hid hN
          obtain ⟨K, hK⟩ : ∃ K, K = (blksTo other es p).map txtB := ⟨_, rfl⟩
          rw [← hK] at HO HN
          obtain ⟨KA, kc, e8, -⟩ := own_arr HO.out
          subst e8
          clear hK hN HBT
          go_wp2_with fail
          go_ret
          exact ⟨ret_int (by rw [HN.out]), ends_true HB3.out HB.out⟩
end Go.Proofs.Ytehchnagjdmdgaa
