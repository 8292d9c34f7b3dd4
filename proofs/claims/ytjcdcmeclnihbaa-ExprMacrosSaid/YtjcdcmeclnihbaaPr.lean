/- The reader in memory; letters, blanks, the byte that is looked at, names. Conditions: a reader in memory. -/
import Derived.Test.YtjcdcmeclnihbaaPm
import Derived.BigQuiet
import Derived.Deep.QuietTactic
namespace Go.Proofs.Ytjcdcmeclnihbaa
open Go.RowKit
set_option linter.unusedSimpArgs false
theorem letter_any (c : Nat) (w : World) (hc : c ≤ 255) : Calls Try.prog 103 #[.int .u8 c] w fun e w' => e = .returned (.bool (isL c)) ∧ w' = w := by
  have HC := hid (show isL c = ((decide (65 ≤ c) && decide (c ≤ 90)) || (decide (97 ≤ c) && decide (c ≤ 122))) from rfl)
  go_enter Try.func103, Try.ntmps103
  by_cases h1 : 65 ≤ c
  · by_cases h2 : c ≤ 90
    · go_wp2_with fail
      go_ret
      exact ⟨ret_bool (by rw [HC.out]; (try simp [h1, h2]) <;> omega), rfl⟩
    · by_cases h3 : 97 ≤ c
      · by_cases h4 : c ≤ 122
        · go_wp2_with fail
          go_ret
          exact ⟨ret_bool (by rw [HC.out]; (try simp [h3, h4]) <;> omega), rfl⟩
        · go_wp2_with fail
          go_ret
          exact ⟨ret_bool (by rw [HC.out]; (try simp [h2, h4]) <;> omega), rfl⟩
      · go_wp2_with fail
        go_ret
        exact ⟨ret_bool (by rw [HC.out]; (try simp [h2, h3]) <;> omega), rfl⟩
  · have h3 : ¬ 97 ≤ c := by omega
    go_wp2_with fail
    go_ret
    exact ⟨ret_bool (by rw [HC.out]; (try simp [h1, h3]) <;> omega), rfl⟩
theorem begins_any (c : Nat) (w : World) (hc : c ≤ 255) : Calls Try.prog 95 #[.int .u8 c] w fun e w' => e = .returned (.bool (beginsB c)) ∧ w' = w := by
  have HC := hid (show beginsB c = (isL c || c == 126 || c == 94 || c == 40) from rfl)
  go_enter Try.func95, Try.ntmps95
  go_wp2_with fail
  refine (letter_any c w hc).mono ?_
  rintro e w1 ⟨rfl, h⟩
  rw [h]
  clear h
  cases hl : isL c with
  | true =>
    rw [hl] at HC
    go_wp2_with fail
    go_ret
    exact ⟨ret_bool (by rw [HC.out]; rfl), rfl⟩
  | false =>
    rw [hl] at HC
    by_cases h1 : c = 126
    · subst h1
      go_wp2_with fail
      go_ret
      exact ⟨ret_bool (by rw [HC.out]; rfl), rfl⟩
    · by_cases h2 : c = 94
      · subst h2
        go_wp2_with fail
        go_ret
        exact ⟨ret_bool (by rw [HC.out]; rfl), rfl⟩
      · have e1 : ((c : Int) == 126) = false := ieq_false (by omega)
        have e2 : ((c : Int) == 94) = false := ieq_false (by omega)
        by_cases h3 : c = 40
        · subst h3
          go_wp2_with fail
          go_ret
          exact ⟨ret_bool (by rw [HC.out]; rfl), rfl⟩
        · have e3 : ((c : Int) == 40) = false := ieq_false (by omega)
          go_wp2_with fail
          go_ret
          exact ⟨ret_bool (by rw [HC.out]; simp [h1, h2, h3]), rfl⟩
def bsOf (s : ByteArray) : Bs := s.data.toList.map UInt8.toNat
theorem bsOf_len (s : ByteArray) : (bsOf s).length = s.size := by
  unfold bsOf
  rw [List.length_map, Array.length_toList]
  rfl
theorem bsOf_le {s : ByteArray} {c : Nat} (h : c ∈ bsOf s) : c ≤ 255 := by
  obtain ⟨x, -, rfl⟩ := List.mem_map.1 h
  have := x.toNat_lt
  omega
theorem str_index {s : ByteArray} {k c : Nat} (h : (bsOf s)[k]? = some c) (W : World) : (Instr.index 9 (.string s) (.int .i64 (k : Int))).run Try.prog W = .ok (.int .u8 (c : Int)) W := by
  have hk : k < (bsOf s).length := (List.getElem?_eq_some_iff.1 h).1
  rw [bsOf_len] at hk
  rw [run_index_string W 9 s .i64 (k : Int) Try.underlying9, dif_pos ⟨by omega, by omega⟩]
  have e : (s[((k : Nat) : Int).toNat]'(by simpa using hk)).toNat = c := by
    unfold bsOf at h
    rw [List.getElem?_map] at h
    have h2 : s.data.toList[k]? = some (s.data[k]'hk) := by rw [Array.getElem?_toList]; exact Array.getElem?_eq_getElem hk
    rw [h2] at h
    exact Option.some.inj h
  rw [e]
theorem bsOf_extract (s : ByteArray) (a k : Nat) : bsOf (s.extract a k) = ((bsOf s).drop a).take (k - a) := by
  have h := ByteArray.extract_mk s.data.toList a k
  have e : (ByteArray.mk s.data.toList.toArray) = s := by simp
  rw [e] at h
  rw [h]
  unfold bsOf
  rw [← List.map_drop, ← List.map_take]
/-- The reader, as it lies in memory. -/
def Rd (w : World) (r : Nat) (s : ByteArray) (kv : Value) (at' op bad e : Int) : Prop := w.heap[r]? = some (.cells #[.string s, .int .i64 at', kv, .int .i64 op, .int .i64 bad, .int .i64 e] 90 (0, 0))
section
variable {w w' : World} {r : Nat} {s : ByteArray} {kv : Value} {at' op bad e : Int}
theorem Rd.cells (h : Rd w r s kv at' op bad e) : w.cell? ⟨r, 0, none⟩ = some (.string s) ∧ w.cell? ⟨r, 1, none⟩ = some (.int .i64 at') ∧ w.cell? ⟨r, 2, none⟩ = some kv ∧ w.cell? ⟨r, 3, none⟩ = some (.int .i64 op) ∧ w.cell? ⟨r, 4, none⟩ = some (.int .i64 bad) ∧ w.cell? ⟨r, 5, none⟩ = some (.int .i64 e) :=
  ⟨by rw [cell_of_row _ _ _ _ _ _ h]; rfl, by rw [cell_of_row _ _ _ _ _ _ h]; rfl, by rw [cell_of_row _ _ _ _ _ _ h]; rfl, by rw [cell_of_row _ _ _ _ _ _ h]; rfl, by rw [cell_of_row _ _ _ _ _ _ h]; rfl, by rw [cell_of_row _ _ _ _ _ _ h]; rfl⟩
theorem Rd.frozen (h : Rd w r s kv at' op bad e) (j : Nat) : w.frozen? ⟨r, j, none⟩ = false := frozen_of_row _ _ _ _ _ h
theorem Rd.lt (h : Rd w r s kv at' op bad e) : r < w.heap.size := (Array.getElem?_eq_some_iff.1 h).1
theorem Rd.setAt (h : Rd w r s kv at' op bad e) (z : Int) : Rd (w.setCell ⟨r, 1, none⟩ (.int .i64 z)) r s kv z op bad e := heap_setCell_same w r 1 _ _ _ h
theorem Rd.setOp (h : Rd w r s kv at' op bad e) (z : Int) : Rd (w.setCell ⟨r, 3, none⟩ (.int .i64 z)) r s kv at' z bad e := heap_setCell_same w r 3 _ _ _ h
theorem Rd.setBad (h : Rd w r s kv at' op bad e) (z : Int) : Rd (w.setCell ⟨r, 4, none⟩ (.int .i64 z)) r s kv at' op z e := heap_setCell_same w r 4 _ _ _ h
theorem Rd.setE (h : Rd w r s kv at' op bad e) (z : Int) : Rd (w.setCell ⟨r, 5, none⟩ (.int .i64 z)) r s kv at' op bad z := heap_setCell_same w r 5 _ _ _ h
theorem Rd.drewN (h : Rd w r s kv at' op bad e) (n : Nat) : Rd (w.drewN n) r s kv at' op bad e := h
theorem Rd.below (h : Rd w r s kv at' op bad e) (hb : Below w.heap.size w w') : Rd w' r s kv at' op bad e := (hb.block r h.lt).trans h
end
theorem grown_drewN {a w : World} {row : Option Nat} (h : a.grownBy w row) (n : Nat) : a.grownBy (w.drewN n) row := ⟨h.os, h.tape, h.output, h.size, h.block⟩
theorem drop_cons {l : Bs} {k c : Nat} (h : l[k]? = some c) : l.drop k = c :: l.drop (k + 1) := by
  obtain ⟨hk, e⟩ := List.getElem?_eq_some_iff.1 h
  rw [List.drop_eq_getElem_cons hk, e]
def atOf (r : Nat) (w : World) : Nat := match w.cell? ⟨r, 1, none⟩ with
  | some (.int _ z) => z.toNat
  | _ => 0
theorem Rd.at {w : World} {r : Nat} {s : ByteArray} {kv : Value} {at' op bad e : Int} (h : Rd w r s kv at' op bad e) : atOf r w = at'.toNat := by unfold atOf; rw [h.cells.2.1]
set_option maxRecDepth 100000 in
set_option maxHeartbeats 1000000 in
theorem blanks_any {w : World} {r : Nat} {s : ByteArray} {kv : Value} {op bad e : Int} (a : Nat) (h : Rd w r s kv a op bad e) (ha : a ≤ s.size) (hs : s.size ≤ 100000) :
    Calls Try.prog 81 #[.pointer (some ⟨r, 0, none⟩)] w fun x w' => x = .returned (.tuple #[]) ∧ ∃ a' : Nat, a ≤ a' ∧ a' ≤ s.size ∧ (bsOf s).drop a' = skip ((bsOf s).drop a) ∧ Rd w' r s kv a' op bad e ∧ w.grownBy w' (some r) := by
  have H := hid h
  clear h
  go_enter Try.func81, Try.ntmps81
  go_wp2_with fail
  go_loopw [] (fun wr => ∃ k : Nat, a ≤ k ∧ k ≤ s.size ∧ Hid (skip ((bsOf s).drop k) = skip ((bsOf s).drop a)) ∧ Hid (Rd wr r s kv k op bad e) ∧ Hid (w.grownBy wr (some r))) (fun wr => s.size - atOf r wr)
  case atStart => exact ⟨a, Nat.le_refl _, ha, hid rfl, H, hid (World.grownBy.refl _ _)⟩
  case round =>
    obtain ⟨k, hak, hk, HS, HR, HG⟩ := hrel
    obtain ⟨c0, c1, -⟩ := HR.out.cells
    have hf1 := HR.out.frozen 1
    have HAT := hid (show atOf r wr = k by rw [HR.out.at]; omega)
    by_cases hlt : k < s.size
    · obtain ⟨c, hc⟩ : ∃ c, (bsOf s)[k]? = some c := ⟨_, List.getElem?_eq_getElem (by rw [bsOf_len]; exact hlt)⟩
      have hix := str_index hc
      have HD := hid (drop_cons hc)
      have hcb := bsOf_le (List.mem_of_getElem? hc)
      have hki : (k : Int) < (s.size : Int) := by omega
      clear hc
      by_cases h32 : c = 32
      · subst h32
        have HSN := hid (show skip ((bsOf s).drop (k + 1)) = skip ((bsOf s).drop a) by rw [← HS.out, HD.out]; rfl)
        go_wp2_with fail
        go_quiet (fail)
        go_wp2_with fail
        have HRN := hid ((HR.out.drewN nq).setAt ((k : Int) + 1))
        exact ⟨⟨k + 1, by omega, by omega, HSN, HRN, hid (grown_setCell (grown_drewN HG.out nq) 1 _)⟩, by rw [HRN.out.at, HAT.out]; omega⟩
      · have hne : ((c : Int) == 32) = false := ieq_false (by omega)
        go_wp2_with fail
        go_quiet (fail)
        go_wp2_with fail
        go_end0
        exact ⟨rfl, k, hak, hk, by rw [← HS.out, HD.out, skip_cons, if_neg h32], HR.out.drewN nq, grown_drewN HG.out nq⟩
    · have hki : ¬ (k : Int) < (s.size : Int) := by omega
      go_wp2_with fail
      go_quiet (fail)
      go_wp2_with fail
      go_end0
      exact ⟨rfl, k, hak, hk, by rw [← HS.out, List.drop_eq_nil_of_le (by rw [bsOf_len]; omega)]; rfl, HR.out.drewN nq, grown_drewN HG.out nq⟩
set_option maxRecDepth 100000 in
set_option maxHeartbeats 1000000 in
theorem peek_any {w : World} {r : Nat} {s : ByteArray} {kv : Value} {op bad e : Int} (a : Nat) (h : Rd w r s kv a op bad e) (ha : a ≤ s.size) (hs : s.size ≤ 100000) :
    Calls Try.prog 53 #[.pointer (some ⟨r, 0, none⟩)] w fun x w' => x = .returned (.int .u8 ((hd (skip ((bsOf s).drop a)) : Nat) : Int)) ∧ hd (skip ((bsOf s).drop a)) ≤ 255 ∧ ∃ a' : Nat, a ≤ a' ∧ a' ≤ s.size ∧ (bsOf s).drop a' = skip ((bsOf s).drop a) ∧ Rd w' r s kv a' op bad e ∧ w.grownBy w' (some r) := by
  have H := hid h
  clear h
  go_enter Try.func53, Try.ntmps53
  go_wp2_with fail
  refine (blanks_any a H.out ha hs).mono ?_
  rintro x w1 ⟨rfl, k, hak, hk, hsk, hr, hg⟩
  have HS := hid hsk
  have HR := hid hr
  have HG := hid hg
  clear hsk hr hg
  obtain ⟨c0, c1, -⟩ := HR.out.cells
  by_cases hlt : k < s.size
  · obtain ⟨c, hc⟩ : ∃ c, (bsOf s)[k]? = some c := ⟨_, List.getElem?_eq_getElem (by rw [bsOf_len]; exact hlt)⟩
    have hix := str_index hc
    have hcb := bsOf_le (List.mem_of_getElem? hc)
    have HD := hid (show hd (skip ((bsOf s).drop a)) = c by rw [← HS.out, drop_cons hc]; rfl)
    have hne : ((k : Int) == (s.size : Int)) = false := ieq_false (by omega)
    clear hc
    go_wp2_with fail
    go_quiet (fail)
    go_wp2_with fail
    go_quiet (fail)
    go_wp2_with fail
    go_ret
    exact ⟨ret_int (by rw [HD.out]), by rw [HD.out]; exact hcb, k, hak, hk, HS.out, HR.out, by repeat (first | exact HG.out | apply grown_drewN)⟩
  · have hke : k = s.size := by omega
    have HKE := hid hke
    have HD := hid (show hd (skip ((bsOf s).drop a)) = 0 by rw [← HS.out, List.drop_eq_nil_of_le (by rw [bsOf_len]; omega)]; rfl)
    have hne : ((k : Int) == (s.size : Int)) = true := ieq_true (by omega)
    clear hke
    go_wp2_with fail
    go_quiet (fail)
    go_wp2_with fail
    go_ret
    exact ⟨ret_int (by rw [HD.out]; rfl), by rw [HD.out]; omega, k, hak, hk, HS.out, HR.out, by repeat (first | exact HG.out | apply grown_drewN)⟩
set_option maxRecDepth 100000 in
set_option maxHeartbeats 1000000 in
theorem name_any {w : World} {r : Nat} {s : ByteArray} {kv : Value} {op bad e : Int} (a : Nat) (h : Rd w r s kv a op bad e) (ha : a ≤ s.size) (hs : s.size ≤ 100000) :
    Calls Try.prog 113 #[.pointer (some ⟨r, 0, none⟩)] w fun x w' => ∃ z : ByteArray, x = .returned (.string z) ∧ bsOf z = nmOf ((bsOf s).drop a) ∧ ∃ a' : Nat, a ≤ a' ∧ a' ≤ s.size ∧ (bsOf s).drop a' = rsOf ((bsOf s).drop a) ∧ Rd w' r s kv a' op bad e ∧ w.grownBy w' (some r) := by
  have H := hid h
  obtain ⟨c0, c1, -⟩ := h.cells
  clear h
  go_enter Try.func113, Try.ntmps113
  go_wp2_with fail
  go_loopw [] (fun wr => ∃ k : Nat, a ≤ k ∧ k ≤ s.size ∧ Hid (nmOf ((bsOf s).drop a) = ((bsOf s).drop a).take (k - a) ++ nmOf ((bsOf s).drop k)) ∧ Hid (rsOf ((bsOf s).drop k) = rsOf ((bsOf s).drop a)) ∧ Hid (Rd wr r s kv k op bad e) ∧ Hid (w.grownBy wr (some r))) (fun wr => s.size - atOf r wr)
  case atStart => exact ⟨a, Nat.le_refl _, ha, hid (by simp), hid rfl, H, hid (World.grownBy.refl _ _)⟩
  case round =>
    clear c0 c1
    obtain ⟨k, hak, hk, HN, HS, HR, HG⟩ := hrel
    obtain ⟨c0, c1, -⟩ := HR.out.cells
    have hf1 := HR.out.frozen 1
    have HAT := hid (show atOf r wr = k by rw [HR.out.at]; omega)
    by_cases hlt : k < s.size
    · obtain ⟨c, hc⟩ : ∃ c, (bsOf s)[k]? = some c := ⟨_, List.getElem?_eq_getElem (by rw [bsOf_len]; exact hlt)⟩
      have hix := str_index hc
      have HD := hid (drop_cons hc)
      have HTK := hid (show ((bsOf s).drop a).take (k + 1 - a) = ((bsOf s).drop a).take (k - a) ++ [c] by
        rw [show k + 1 - a = (k - a) + 1 by omega, List.take_add_one, List.getElem?_drop, show a + (k - a) = k by omega, hc]; rfl)
      have hcb := bsOf_le (List.mem_of_getElem? hc)
      have hki : (k : Int) < (s.size : Int) := by omega
      have hlet := fun W => letter_any c W hcb
      clear hc
      cases hl : isL c with
      | true =>
        rw [hl] at hlet
        have HLE := hid hlet
        have HNN := hid (show nmOf ((bsOf s).drop a) = ((bsOf s).drop a).take (k + 1 - a) ++ nmOf ((bsOf s).drop (k + 1)) by
          rw [HN.out, HTK.out, HD.out]
          show _ ++ (if isL c = true then c :: nmOf ((bsOf s).drop (k + 1)) else []) = _
          rw [if_pos hl, List.append_assoc]; rfl)
        have HSN := hid (show rsOf ((bsOf s).drop (k + 1)) = rsOf ((bsOf s).drop a) by
          rw [← HS.out, HD.out]
          show _ = if isL c = true then rsOf ((bsOf s).drop (k + 1)) else _
          rw [if_pos hl])
        clear hlet hl
        go_wp2_with fail
        go_quiet ((go_at_call 103; exact Calls.quiet_of_same (HLE.out _)))
        go_wp2_with fail
        have HRN := hid ((HR.out.drewN nq).setAt ((k : Int) + 1))
        exact ⟨⟨k + 1, by omega, by omega, HNN, HSN, HRN, hid (grown_setCell (grown_drewN HG.out nq) 1 _)⟩, by rw [HRN.out.at, HAT.out]; omega⟩
      | false =>
        rw [hl] at hlet
        have HLE := hid hlet
        have HNN := hid (show nmOf ((bsOf s).drop a) = ((bsOf s).drop a).take (k - a) by
          rw [HN.out, HD.out]
          show _ ++ (if isL c = true then c :: nmOf ((bsOf s).drop (k + 1)) else []) = _
          rw [if_neg (by rw [hl]; simp), List.append_nil])
        have HSN := hid (show (bsOf s).drop k = rsOf ((bsOf s).drop a) by
          rw [← HS.out, HD.out]
          show _ = if isL c = true then rsOf ((bsOf s).drop (k + 1)) else c :: (bsOf s).drop (k + 1)
          rw [if_neg (by rw [hl]; simp)])
        clear hlet hl
        go_wp2_with fail
        go_quiet ((go_at_call 103; exact Calls.quiet_of_same (HLE.out _)))
        go_wp2_with fail
        go_quiet (fail)
        go_wp2_with fail
        go_ret
        exact ⟨_, rfl, by rw [bsOf_extract, HNN.out], k, hak, hk, HSN.out, HR.out, by repeat (first | exact HG.out | apply grown_drewN)⟩
    · have hki : ¬ (k : Int) < (s.size : Int) := by omega
      have HNIL := hid (show (bsOf s).drop k = [] from List.drop_eq_nil_of_le (by rw [bsOf_len]; omega))
      go_wp2_with fail
      go_quiet (fail)
      go_wp2_with fail
      go_quiet (fail)
      go_wp2_with fail
      go_ret
      exact ⟨_, rfl, by rw [bsOf_extract, HN.out, HNIL.out]; simp [nmOf], k, hak, hk, by rw [← HS.out, HNIL.out]; rfl, HR.out, by repeat (first | exact HG.out | apply grown_drewN)⟩
end Go.Proofs.Ytjcdcmeclnihbaa
