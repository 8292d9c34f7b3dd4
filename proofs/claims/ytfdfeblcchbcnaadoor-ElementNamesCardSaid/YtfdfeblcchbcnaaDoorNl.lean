/- The statement ElementNames walked. Condition: the table of blanks as it is laid. -/
import Derived.Test.YtfdfeblcchbcnaaDoorNw
import Derived.Test.YtfdfeblcchbcnaaDoorRo
import Derived.WalkLawsBesides
import Derived.Deep.RegionHeld3
import Derived.Sort.Walk0
import Derived.BigQuiet
namespace Go.Proofs.YtfdfeblcchbcnaaDoor
open Go.RowKit Go.Sort

theorem and_zero (a A : Int) : bits .and .i64 a A = 0 ↔ BitVec.ofInt 64 a &&& BitVec.ofInt 64 A = 0#64 := by
  constructor
  · intro h
    have h' : IntKind.i64.wrap (((BitVec.ofInt 64 a) &&& (BitVec.ofInt 64 A)).toNat : Int) = 0 := h
    apply BitVec.eq_of_toNat_eq
    generalize hx : (BitVec.ofInt 64 a &&& BitVec.ofInt 64 A) = x at h' ⊢
    have := x.isLt
    simp [IntKind.wrap, IntKind.bits, IntKind.signed] at h'
    simp
    omega
  · intro h
    show IntKind.i64.wrap (((BitVec.ofInt 64 a) &&& (BitVec.ofInt 64 A)).toNat : Int) = 0
    rw [h]
    decide
theorem val_or {b : Nat} {s : List UInt8} (hb : isBit b = true) (h : (nmsOf b).contains s = true) : valOf s ||| b = valOf s := by
  unfold valOf
  rw [seven_or _ hb]
  refine seven_congr fun x hx => ?_
  by_cases e : x = b
  · subst e; rw [h]; rfl
  · simp [e]
/-- Who has a bit that is asked of is asked of. -/
theorem wanted_of {b : Nat} {s : List UInt8} {A : Int} (hb : isBit b = true) (h : (nmsOf b).contains s = true) (hw : bits .and .i64 (b : Int) A ≠ 0) : wanted A ((valOf s : Nat) : Int) = true := by
  unfold wanted
  rw [bne_iff_ne]
  intro h0
  apply hw
  rw [and_zero] at h0 ⊢
  have h1 := val_or hb h
  have hv : valOf s < 128 := seven_lt _
  have hbl := bit_le hb
  have e : BitVec.ofInt 64 (valOf s : Int) ||| BitVec.ofInt 64 (b : Int) = BitVec.ofInt 64 (valOf s : Int) := by
    apply BitVec.eq_of_toNat_eq
    rw [BitVec.toNat_or, BitVec.ofInt_natCast, BitVec.ofInt_natCast, BitVec.toNat_ofNat, BitVec.toNat_ofNat, Nat.mod_eq_of_lt (by omega), Nat.mod_eq_of_lt (by omega), h1]
  have h2 : (BitVec.ofInt 64 (valOf s : Int) ||| BitVec.ofInt 64 (b : Int)) &&& BitVec.ofInt 64 A = 0#64 := by rw [e]; exact h0
  apply BitVec.eq_of_getElem_eq
  intro i hi
  have h3 := congrArg (fun x : BitVec 64 => x[i]) h2
  simp at h3 ⊢
  intro h4
  exact h3 (.inr h4)

/-- The cells of a slice of strings. -/
def StrsAt (w : World) (P : Option Addr) (l : List (List UInt8)) : Prop := ∀ k s, l[k]? = some s → ∃ b, P = some ⟨b, 0, none⟩ ∧ b < w.heap.size ∧ w.cell? ⟨b, k, none⟩ = some (.string (strOf s))
theorem StrsAt.below {w w' : World} {P : Option Addr} {l : List (List UInt8)} (h : StrsAt w P l) (hb : Below w.heap.size w w') : StrsAt w' P l := fun k s hk => by
  obtain ⟨b, e, hlt, hc⟩ := h k s hk
  exact ⟨b, e, Nat.lt_of_lt_of_le hlt hb.size, by rw [hb.cell (p := ⟨b, k, none⟩) hlt]; exact hc⟩
theorem StrsAt.at {w : World} {P : Option Addr} {l : List (List UInt8)} (h : StrsAt w P l) {k : Nat} (hk : k < l.length) : ∃ b s, P = some ⟨b, 0, none⟩ ∧ l[k]? = some s ∧ b < w.heap.size ∧ w.cell? ⟨b, k, none⟩ = some (.string (strOf s)) := by
  obtain ⟨b, e, hlt, hc⟩ := h k _ (List.getElem?_eq_getElem hk)
  exact ⟨b, _, e, List.getElem?_eq_getElem hk, hlt, hc⟩

set_option maxRecDepth 100000 in
set_option maxHeartbeats 4000000 in
theorem elnames_walk (S : Nat → Prop) (v : Value) (zs : List Int) (w : World) (h : IsNums .i64 w S v zs) (ht : Tab w) :
    Calls Tryd.prog 9 #[v] w fun e w' => e = .returned (.bool true) ∧ Below w.heap.size w w' := by
  have hl := h.le
  have HZ := hid h
  obtain ⟨A, c, rfl, _, _, hA⟩ := h
  have HA := hid hA
  have HT := hid ht
  clear hA ht
  by_cases h1 : 10 < zs.length
  · go_enter Tryd.func9, Tryd.ntmps9
    go_wp2_with fail
    refine (awake_any _ HT.out).mono ?_
    rintro e w1 ⟨rfl, hb1⟩
    go_wp2_with fail
    go_ret
    exact ⟨rfl, hb1⟩
  have hl10 : zs.length ≤ 10 := by omega
  go_enter Tryd.func9, Tryd.ntmps9
  go_wp2_with fail
  refine (awake_any _ HT.out).mono ?_
  rintro e w1 ⟨rfl, hb1⟩
  have HB1 := hid hb1
  clear hb1 h1
  go_wp2_with fail
  have hB1 := HB1.out
  have HA1 := hid (HZ.out.below hB1)
  clear hB1
  go_loop [3, 4] (fun s3 s4 => ∃ k : Nat, k ≤ zs.length ∧ s4 = .int .i64 k ∧ s3 = .int .i64 (orAll (zs.take k))) (fun _ s4 => zs.length - (intOf s4).toNat)
  case atStart => exact ⟨0, by omega, rfl, rfl⟩
  case round =>
    obtain ⟨k, hk, rfl, rfl⟩ := hrel
    by_cases hlt : k < zs.length
    · obtain ⟨b, o, c', hv, _, hb, hc⟩ := HA1.out.at hlt
      obtain ⟨rfl, _, rfl⟩ : A = some ⟨b, o, none⟩ ∧ True ∧ c = c' := by simpa using hv
      clear hv
      have hst := hid (orAll_succ hlt)
      go_wp2_with fail
      go_round
      case rel => exact ⟨k + 1, by omega, by go_num, by rw [hst.out]⟩
      case measure => simp [intOf]; omega
    · obtain rfl : k = zs.length := by omega
      rw [List.take_length]
      obtain ⟨all, hall⟩ : ∃ all, all = orAll zs := ⟨_, rfl⟩
      have HALL := hid hall
      rw [← hall]
      clear hall hk hlt
      go_wp2_with fail
      refine (names21_any _ _ zs _ HA1.out (tab_below HT.out HB1.out)).mono ?_
      rintro e w2 ⟨P, l, cl, rfl, hN, hl100, hcl, hb2⟩
      rw [← HALL.out] at hN
      have HN := hid hN
      have HS := hid (show StrsAt w2 P l from fun k s hk => by obtain ⟨b, e, _, h2, h3⟩ := hcl k s hk; exact ⟨b, e, h2, h3⟩)
      have HB2 := hid (HB1.out.trans (hb2.mono HB1.out.size))
      clear hN hcl hb2 HB1
      go_wp2_with fail
      go_loopw [6] (fun s6 wr => ∃ k : Nat, k ≤ l.length ∧ s6 = .int .i64 k ∧ Hid (Below w2.heap.size w2 wr)) (fun s6 _ => l.length - (intOf s6).toNat)
      case atStart => exact ⟨0, by omega, rfl, hid (Below.refl _ _)⟩
      case round =>
        obtain ⟨k, hk, rfl, HB⟩ := hrel
        by_cases hlt : k < l.length
        · have HSr := hid (HS.out.below HB.out)
          obtain ⟨b, s, rfl, hks, hbl, hcs⟩ := HSr.out.at hlt
          have HKS := hid hks
          have hw := (HN.out.2 s).1 (List.mem_of_getElem? hks)
          have hq : (bits .and .i64 ((valOf s : Nat) : Int) all == 0) = false := by
            unfold wanted at hw
            rw [bne_iff_ne] at hw
            exact beq_eq_false_iff_ne.2 hw
          clear hw hks
          obtain ⟨N, hNv⟩ : ∃ N, N = valOf s := ⟨_, rfl⟩
          have HNV := hid hNv
          rw [← hNv] at hq
          clear hNv
          cases k with
          | zero =>
            go_wp2_with fail
            refine wp_region_held_drew (S := (fun Y => Y.cell? ⟨b, 0, none⟩ = some (.string (strOf s)))) (by kernel_rfl) (by exact hcs) (fun hHeld => ?_)
            refine wpAnyH_take (i := 0) (oi := { dst := some 40, op := Op.move (Operand.tmp 5), type := _, pos := _, after := _, guard := none }) (v := ?_) rfl (by kernel_rfl) (by kernel_rfl) (by kernel_rfl) (fun _ _ _ h => h) (Or.inl ⟨by rfl, ?_⟩) (by assumption) ?_
            rotate_left
            · intro w hSw; (try dsimp only at hSw); go_simp; try with_reducible rfl
            try simp only [Act.put, List.setIfInBounds_toArray, List.set_cons_zero, List.set_cons_succ]
            refine wpAnyH_take (i := 1) (oi := { dst := some 41, op := Op.move (Operand.tmp 6), type := _, pos := _, after := _, guard := none }) (v := ?_) rfl (by kernel_rfl) (by kernel_rfl) (by kernel_rfl) (fun _ _ _ h => h) (Or.inl ⟨by rfl, ?_⟩) (by assumption) ?_
            rotate_left
            · intro w hSw; (try dsimp only at hSw); go_simp; try with_reducible rfl
            try simp only [Act.put, List.setIfInBounds_toArray, List.set_cons_zero, List.set_cons_succ]
            refine wpAnyH_take (i := 2) (oi := { dst := some 42, op := Op.indexAddr 42 (Operand.tmp 40) (Operand.tmp 41), type := _, pos := _, after := _, guard := none }) (v := ?_) rfl (by kernel_rfl) (by kernel_rfl) (by kernel_rfl) (fun _ _ _ h => h) (Or.inl ⟨by rfl, ?_⟩) (by assumption) ?_
            rotate_left
            · intro w hSw; (try dsimp only at hSw); go_simp; try with_reducible rfl
            try simp only [Act.put, List.setIfInBounds_toArray, List.set_cons_zero, List.set_cons_succ]
            refine wpAnyH_take (i := 3) (oi := { dst := some 43, op := Op.load 9 (Operand.tmp 42), type := _, pos := _, after := _, guard := none }) (v := ?_) rfl (by kernel_rfl) (by kernel_rfl) (by kernel_rfl) (fun _ _ _ h => h) (Or.inl ⟨by rfl, ?_⟩) (by assumption) ?_
            rotate_left
            · intro w hSw; (try dsimp only at hSw); go_simp; try with_reducible rfl
            try simp only [Act.put, List.setIfInBounds_toArray, List.set_cons_zero, List.set_cons_succ]
            refine wpAnyH_take (i := 5) (oi := { dst := some 45, op := Op.move (Operand.tmp 3), type := _, pos := _, after := _, guard := none }) (v := ?_) rfl (by kernel_rfl) (by kernel_rfl) (by kernel_rfl) (fun _ _ _ h => h) (Or.inl ⟨by rfl, ?_⟩) (by assumption) ?_
            rotate_left
            · intro w hSw; (try dsimp only at hSw); go_simp; try with_reducible rfl
            try simp only [Act.put, List.setIfInBounds_toArray, List.set_cons_zero, List.set_cons_succ]
            refine wpAnyH_ready (rs := [4]) (by kernel_rfl) (by simp) ?_
            refine AllReadyH.cons (o := { dst := some 44, op := Op.call { callee := Callee.value (Operand.func 12), args := #[Operand.tmp 43], argTypes := #[9] }, type := _, pos := _, after := _, guard := none }) rfl (fun K hK => ?_) AllReadyH.nil
            go_simp
            refine (refOf_val (strOf s) N HNV.out.symm _).mono ?_
            rintro e w5 ⟨rfl, hb5⟩
            have hk5 : w5.cell? ⟨b, 0, none⟩ = some (.string (strOf s)) := (hb5.cell (p := ⟨b, 0, none⟩) (by exact hbl)).trans (by exact hcs)
            go_wp2_with fail
            refine hK.out _ _ (by exact hk5) (fun hHeld => ?_)
            clear hK K
            try simp only [Act.put, List.setIfInBounds_toArray, List.set_cons_zero, List.set_cons_succ]
            refine wpAnyH_take (i := 6) (oi := { dst := some 46, op := Op.binOp BinOp.and 3 (Operand.tmp 44) (Operand.tmp 45) 3, type := _, pos := _, after := _, guard := none }) (v := ?_) rfl (by kernel_rfl) (by kernel_rfl) (by kernel_rfl) (fun _ _ _ h => h) (Or.inl ⟨by rfl, ?_⟩) (by assumption) ?_
            rotate_left
            · intro w hSw; (try dsimp only at hSw); go_simp; try with_reducible rfl
            try simp only [Act.put, List.setIfInBounds_toArray, List.set_cons_zero, List.set_cons_succ]
            refine wpAnyH_take (i := 7) (oi := { dst := some 47, op := Op.binOp BinOp.eql 3 (Operand.tmp 46) (Operand.const (Value.int IntKind.i64 0)) 3, type := _, pos := _, after := _, guard := none }) (v := ?_) rfl (by kernel_rfl) (by kernel_rfl) (by kernel_rfl) (fun _ _ _ h => h) (Or.inl ⟨by rfl, ?_⟩) (by assumption) ?_
            rotate_left
            · intro w hSw; (try dsimp only at hSw); go_simp; try with_reducible rfl
            try simp only [Act.put, List.setIfInBounds_toArray, List.set_cons_zero, List.set_cons_succ]
            refine wpAnyH_take (i := 8) (oi := { dst := some 48, op := Op.move (Operand.tmp 47), type := _, pos := _, after := _, guard := none }) (v := ?_) rfl (by kernel_rfl) (by kernel_rfl) (by kernel_rfl) (fun _ _ _ h => h) (Or.inl ⟨by rfl, ?_⟩) (by assumption) ?_
            rotate_left
            · intro w hSw; (try dsimp only at hSw); go_simp; try with_reducible rfl
            try simp only [Act.put, List.setIfInBounds_toArray, List.set_cons_zero, List.set_cons_succ]
            refine wpAnyH_take (i := 9) (oi := { dst := some 49, op := Op.move (Operand.tmp 6), type := _, pos := _, after := _, guard := some (8, false) }) (v := ?_) rfl (by kernel_rfl) (by kernel_rfl) (by kernel_rfl) (fun _ _ _ h => h) (Or.inl ⟨by rfl, ?_⟩) (by assumption) ?_
            rotate_left
            · intro w hSw; (try dsimp only at hSw); go_simp; try with_reducible rfl
            try simp only [Act.put, List.setIfInBounds_toArray, List.set_cons_zero, List.set_cons_succ]
            refine wpAnyH_take (i := 10) (oi := { dst := some 50, op := Op.binOp BinOp.gtr 3 (Operand.tmp 49) (Operand.const (Value.int IntKind.i64 0)) 3, type := _, pos := _, after := _, guard := some (8, false) }) (v := ?_) rfl (by kernel_rfl) (by kernel_rfl) (by kernel_rfl) (fun _ _ _ h => h) (Or.inl ⟨by rfl, ?_⟩) (by assumption) ?_
            rotate_left
            · intro w hSw; (try dsimp only at hSw); go_simp; try with_reducible rfl
            try simp only [Act.put, List.setIfInBounds_toArray, List.set_cons_zero, List.set_cons_succ]
            refine wpAnyH_take (i := 11) (oi := { dst := some 51, op := Op.move (Operand.tmp 50), type := _, pos := _, after := _, guard := some (8, false) }) (v := ?_) rfl (by kernel_rfl) (by kernel_rfl) (by kernel_rfl) (fun _ _ _ h => h) (Or.inl ⟨by rfl, ?_⟩) (by assumption) ?_
            rotate_left
            · intro w hSw; (try dsimp only at hSw); go_simp; try with_reducible rfl
            try simp only [Act.put, List.setIfInBounds_toArray, List.set_cons_zero, List.set_cons_succ]
            refine wpAnyH_take (i := 12) (oi := { dst := some 52, op := Op.move (Operand.tmp 5), type := _, pos := _, after := _, guard := some (11, true) }) (v := undef) rfl (by kernel_rfl) (by kernel_rfl) (by kernel_rfl) (fun _ _ _ h => h) (Or.inr ⟨by rfl, rfl⟩) (by assumption) ?_
            try simp only [Act.put, List.setIfInBounds_toArray, List.set_cons_zero, List.set_cons_succ]
            refine wpAnyH_take (i := 13) (oi := { dst := some 53, op := Op.move (Operand.tmp 6), type := _, pos := _, after := _, guard := some (11, true) }) (v := undef) rfl (by kernel_rfl) (by kernel_rfl) (by kernel_rfl) (fun _ _ _ h => h) (Or.inr ⟨by rfl, rfl⟩) (by assumption) ?_
            try simp only [Act.put, List.setIfInBounds_toArray, List.set_cons_zero, List.set_cons_succ]
            refine wpAnyH_take (i := 14) (oi := { dst := some 54, op := Op.binOp BinOp.sub 3 (Operand.tmp 53) (Operand.const (Value.int IntKind.i64 1)) 3, type := _, pos := _, after := _, guard := some (11, true) }) (v := undef) rfl (by kernel_rfl) (by kernel_rfl) (by kernel_rfl) (fun _ _ _ h => h) (Or.inr ⟨by rfl, rfl⟩) (by assumption) ?_
            try simp only [Act.put, List.setIfInBounds_toArray, List.set_cons_zero, List.set_cons_succ]
            refine wpAnyH_take (i := 15) (oi := { dst := some 55, op := Op.indexAddr 42 (Operand.tmp 52) (Operand.tmp 54), type := _, pos := _, after := _, guard := some (11, true) }) (v := undef) rfl (by kernel_rfl) (by kernel_rfl) (by kernel_rfl) (fun _ _ _ h => h) (Or.inr ⟨by rfl, rfl⟩) (by assumption) ?_
            try simp only [Act.put, List.setIfInBounds_toArray, List.set_cons_zero, List.set_cons_succ]
            refine wpAnyH_take (i := 16) (oi := { dst := some 56, op := Op.load 9 (Operand.tmp 55), type := _, pos := _, after := _, guard := some (11, true) }) (v := undef) rfl (by kernel_rfl) (by kernel_rfl) (by kernel_rfl) (fun _ _ _ h => h) (Or.inr ⟨by rfl, rfl⟩) (by assumption) ?_
            try simp only [Act.put, List.setIfInBounds_toArray, List.set_cons_zero, List.set_cons_succ]
            refine wpAnyH_take (i := 17) (oi := { dst := some 57, op := Op.move (Operand.tmp 5), type := _, pos := _, after := _, guard := some (11, true) }) (v := undef) rfl (by kernel_rfl) (by kernel_rfl) (by kernel_rfl) (fun _ _ _ h => h) (Or.inr ⟨by rfl, rfl⟩) (by assumption) ?_
            try simp only [Act.put, List.setIfInBounds_toArray, List.set_cons_zero, List.set_cons_succ]
            refine wpAnyH_take (i := 18) (oi := { dst := some 58, op := Op.move (Operand.tmp 6), type := _, pos := _, after := _, guard := some (11, true) }) (v := undef) rfl (by kernel_rfl) (by kernel_rfl) (by kernel_rfl) (fun _ _ _ h => h) (Or.inr ⟨by rfl, rfl⟩) (by assumption) ?_
            try simp only [Act.put, List.setIfInBounds_toArray, List.set_cons_zero, List.set_cons_succ]
            refine wpAnyH_take (i := 19) (oi := { dst := some 59, op := Op.indexAddr 42 (Operand.tmp 57) (Operand.tmp 58), type := _, pos := _, after := _, guard := some (11, true) }) (v := undef) rfl (by kernel_rfl) (by kernel_rfl) (by kernel_rfl) (fun _ _ _ h => h) (Or.inr ⟨by rfl, rfl⟩) (by assumption) ?_
            try simp only [Act.put, List.setIfInBounds_toArray, List.set_cons_zero, List.set_cons_succ]
            refine wpAnyH_take (i := 20) (oi := { dst := some 60, op := Op.load 9 (Operand.tmp 59), type := _, pos := _, after := _, guard := some (11, true) }) (v := undef) rfl (by kernel_rfl) (by kernel_rfl) (by kernel_rfl) (fun _ _ _ h => h) (Or.inr ⟨by rfl, rfl⟩) (by assumption) ?_
            try simp only [Act.put, List.setIfInBounds_toArray, List.set_cons_zero, List.set_cons_succ]
            refine wpAnyH_take (i := 21) (oi := { dst := some 61, op := Op.binOp BinOp.geq 9 (Operand.tmp 56) (Operand.tmp 60) 9, type := _, pos := _, after := _, guard := some (11, true) }) (v := undef) rfl (by kernel_rfl) (by kernel_rfl) (by kernel_rfl) (fun _ _ _ h => h) (Or.inr ⟨by rfl, rfl⟩) (by assumption) ?_
            try simp only [Act.put, List.setIfInBounds_toArray, List.set_cons_zero, List.set_cons_succ]
            refine wpAnyH_take (i := 22) (oi := { dst := some 62, op := Op.pick (Operand.tmp 51) (Operand.tmp 61) (Operand.const (Value.bool false)), type := _, pos := _, after := _, guard := some (8, false) }) (v := ?_) rfl (by kernel_rfl) (by kernel_rfl) (by kernel_rfl) (fun _ _ _ h => h) (Or.inl ⟨by rfl, ?_⟩) (by assumption) ?_
            rotate_left
            · intro w hSw; (try dsimp only at hSw); go_simp; try with_reducible rfl
            try simp only [Act.put, List.setIfInBounds_toArray, List.set_cons_zero, List.set_cons_succ]
            refine wpAnyH_take (i := 23) (oi := { dst := some 63, op := Op.pick (Operand.tmp 48) (Operand.const (Value.bool true)) (Operand.tmp 62), type := _, pos := _, after := _, guard := none }) (v := ?_) rfl (by kernel_rfl) (by kernel_rfl) (by kernel_rfl) (fun _ _ _ h => h) (Or.inl ⟨by rfl, ?_⟩) (by assumption) ?_
            rotate_left
            · intro w hSw; (try dsimp only at hSw); go_simp; try with_reducible rfl
            try simp only [Act.put, List.setIfInBounds_toArray, List.set_cons_zero, List.set_cons_succ]
            refine wpAnyH_done (by kernel_rfl) ?_ _
            have HB5 := hid (HB.out.drew.trans (hb5.mono HB.out.size))
            go_wp2_with fail
            go_roundw
            case rel => exact ⟨1, by omega, by go_num, HB5⟩
            case measure => simp [intOf] <;> omega
          | succ j =>
            obtain ⟨b', s', hbe, hks', _, hcs'⟩ := HSr.out.at (show j < l.length by omega)
            obtain rfl : b = b' := by simpa using hbe
            have hlt' := (List.pairwise_iff_getElem.1 HN.out.1) j (j + 1) (by omega) hlt (by omega)
            rw [(List.getElem?_eq_some_iff.1 hks').2, (List.getElem?_eq_some_iff.1 HKS.out).2] at hlt'
            clear hks' hbe
            have hbl1 : Op.bytesLess (strOf s').toList (strOf s).toList = true := by
              rw [bytesLess_eq, ByteArray.toList_eq, ByteArray.toList_eq, strOf_data, strOf_data]
              exact decide_eq_true hlt'
            have hbl2 : Op.bytesLess s' s = true := by
              rw [bytesLess_eq]
              exact decide_eq_true hlt'
            go_wp2_with fail
            have y1 : (0 : Int) ≤ (j : Int) + 1 := by omega
            have y2 : (j : Int) + 1 < (l.length : Int) := by omega
            have y3 : (0 : Int) ≤ (j : Int) := by omega
            have y4 : (j : Int) < (l.length : Int) := by omega
            have y5 : IntKind.i64.wrap (j : Int) = (j : Int) := IntWalk.i64_in _ (by omega)
            have y6 : (0 : Int) < (j : Int) + 1 := by omega
            have y7 : ((j : Int) + 1).toNat = j + 1 := by omega
            refine wp_region_held_drew (S := (fun Y => Y.cell? ⟨b, j + 1, none⟩ = some (.string (strOf s)) ∧ Y.cell? ⟨b, j, none⟩ = some (.string (strOf s')))) (by kernel_rfl) (by exact ⟨hcs, hcs'⟩) (fun hHeld => ?_)
            refine wpAnyH_take (i := 0) (oi := { dst := some 40, op := Op.move (Operand.tmp 5), type := _, pos := _, after := _, guard := none }) (v := ?_) rfl (by kernel_rfl) (by kernel_rfl) (by kernel_rfl) (fun _ _ _ h => h) (Or.inl ⟨by rfl, ?_⟩) (by assumption) ?_
            rotate_left
            · intro w hSw; (try dsimp only at hSw); go_simp; try with_reducible rfl
            try simp only [Act.put, List.setIfInBounds_toArray, List.set_cons_zero, List.set_cons_succ]
            refine wpAnyH_take (i := 1) (oi := { dst := some 41, op := Op.move (Operand.tmp 6), type := _, pos := _, after := _, guard := none }) (v := ?_) rfl (by kernel_rfl) (by kernel_rfl) (by kernel_rfl) (fun _ _ _ h => h) (Or.inl ⟨by rfl, ?_⟩) (by assumption) ?_
            rotate_left
            · intro w hSw; (try dsimp only at hSw); go_simp; try with_reducible rfl
            try simp only [Act.put, List.setIfInBounds_toArray, List.set_cons_zero, List.set_cons_succ]
            refine wpAnyH_take (i := 2) (oi := { dst := some 42, op := Op.indexAddr 42 (Operand.tmp 40) (Operand.tmp 41), type := _, pos := _, after := _, guard := none }) (v := ?_) rfl (by kernel_rfl) (by kernel_rfl) (by kernel_rfl) (fun _ _ _ h => h) (Or.inl ⟨by rfl, ?_⟩) (by assumption) ?_
            rotate_left
            · intro w hSw; (try dsimp only at hSw); go_simp; try with_reducible rfl
            try simp only [Act.put, List.setIfInBounds_toArray, List.set_cons_zero, List.set_cons_succ]
            refine wpAnyH_take (i := 3) (oi := { dst := some 43, op := Op.load 9 (Operand.tmp 42), type := _, pos := _, after := _, guard := none }) (v := ?_) rfl (by kernel_rfl) (by kernel_rfl) (by kernel_rfl) (fun _ _ _ h => h) (Or.inl ⟨by rfl, ?_⟩) (by assumption) ?_
            rotate_left
            · intro w hSw; (try dsimp only at hSw); go_simp; try with_reducible rfl
            try simp only [Act.put, List.setIfInBounds_toArray, List.set_cons_zero, List.set_cons_succ]
            refine wpAnyH_take (i := 5) (oi := { dst := some 45, op := Op.move (Operand.tmp 3), type := _, pos := _, after := _, guard := none }) (v := ?_) rfl (by kernel_rfl) (by kernel_rfl) (by kernel_rfl) (fun _ _ _ h => h) (Or.inl ⟨by rfl, ?_⟩) (by assumption) ?_
            rotate_left
            · intro w hSw; (try dsimp only at hSw); go_simp; try with_reducible rfl
            try simp only [Act.put, List.setIfInBounds_toArray, List.set_cons_zero, List.set_cons_succ]
            refine wpAnyH_ready (rs := [4]) (by kernel_rfl) (by simp) ?_
            refine AllReadyH.cons (o := { dst := some 44, op := Op.call { callee := Callee.value (Operand.func 12), args := #[Operand.tmp 43], argTypes := #[9] }, type := _, pos := _, after := _, guard := none }) rfl (fun K hK => ?_) AllReadyH.nil
            go_simp
            refine (refOf_val (strOf s) N HNV.out.symm _).mono ?_
            rintro e w5 ⟨rfl, hb5⟩
            have hk5 : w5.cell? ⟨b, j + 1, none⟩ = some (.string (strOf s)) := (hb5.cell (p := ⟨b, j + 1, none⟩) (by exact hbl)).trans (by exact hcs)
            have hj5 : w5.cell? ⟨b, j, none⟩ = some (.string (strOf s')) := (hb5.cell (p := ⟨b, j, none⟩) (by exact hbl)).trans (by exact hcs')
            go_wp2_with fail
            refine hK.out _ _ (by exact ⟨hk5, hj5⟩) (fun hHeld => ?_)
            clear hK K
            try simp only [Act.put, List.setIfInBounds_toArray, List.set_cons_zero, List.set_cons_succ]
            refine wpAnyH_take (i := 6) (oi := { dst := some 46, op := Op.binOp BinOp.and 3 (Operand.tmp 44) (Operand.tmp 45) 3, type := _, pos := _, after := _, guard := none }) (v := ?_) rfl (by kernel_rfl) (by kernel_rfl) (by kernel_rfl) (fun _ _ _ h => h) (Or.inl ⟨by rfl, ?_⟩) (by assumption) ?_
            rotate_left
            · intro w hSw; (try dsimp only at hSw); go_simp; try with_reducible rfl
            try simp only [Act.put, List.setIfInBounds_toArray, List.set_cons_zero, List.set_cons_succ]
            refine wpAnyH_take (i := 7) (oi := { dst := some 47, op := Op.binOp BinOp.eql 3 (Operand.tmp 46) (Operand.const (Value.int IntKind.i64 0)) 3, type := _, pos := _, after := _, guard := none }) (v := ?_) rfl (by kernel_rfl) (by kernel_rfl) (by kernel_rfl) (fun _ _ _ h => h) (Or.inl ⟨by rfl, ?_⟩) (by assumption) ?_
            rotate_left
            · intro w hSw; (try dsimp only at hSw); go_simp; try with_reducible rfl
            try simp only [Act.put, List.setIfInBounds_toArray, List.set_cons_zero, List.set_cons_succ]
            refine wpAnyH_take (i := 8) (oi := { dst := some 48, op := Op.move (Operand.tmp 47), type := _, pos := _, after := _, guard := none }) (v := ?_) rfl (by kernel_rfl) (by kernel_rfl) (by kernel_rfl) (fun _ _ _ h => h) (Or.inl ⟨by rfl, ?_⟩) (by assumption) ?_
            rotate_left
            · intro w hSw; (try dsimp only at hSw); go_simp; try with_reducible rfl
            try simp only [Act.put, List.setIfInBounds_toArray, List.set_cons_zero, List.set_cons_succ]
            refine wpAnyH_take (i := 9) (oi := { dst := some 49, op := Op.move (Operand.tmp 6), type := _, pos := _, after := _, guard := some (8, false) }) (v := ?_) rfl (by kernel_rfl) (by kernel_rfl) (by kernel_rfl) (fun _ _ _ h => h) (Or.inl ⟨by rfl, ?_⟩) (by assumption) ?_
            rotate_left
            · intro w hSw; (try dsimp only at hSw); go_simp; try with_reducible rfl
            try simp only [Act.put, List.setIfInBounds_toArray, List.set_cons_zero, List.set_cons_succ]
            refine wpAnyH_take (i := 10) (oi := { dst := some 50, op := Op.binOp BinOp.gtr 3 (Operand.tmp 49) (Operand.const (Value.int IntKind.i64 0)) 3, type := _, pos := _, after := _, guard := some (8, false) }) (v := ?_) rfl (by kernel_rfl) (by kernel_rfl) (by kernel_rfl) (fun _ _ _ h => h) (Or.inl ⟨by rfl, ?_⟩) (by assumption) ?_
            rotate_left
            · intro w hSw; (try dsimp only at hSw); go_simp; try with_reducible rfl
            try simp only [Act.put, List.setIfInBounds_toArray, List.set_cons_zero, List.set_cons_succ]
            refine wpAnyH_take (i := 11) (oi := { dst := some 51, op := Op.move (Operand.tmp 50), type := _, pos := _, after := _, guard := some (8, false) }) (v := ?_) rfl (by kernel_rfl) (by kernel_rfl) (by kernel_rfl) (fun _ _ _ h => h) (Or.inl ⟨by rfl, ?_⟩) (by assumption) ?_
            rotate_left
            · intro w hSw; (try dsimp only at hSw); go_simp; try with_reducible rfl
            try simp only [Act.put, List.setIfInBounds_toArray, List.set_cons_zero, List.set_cons_succ]
            refine wpAnyH_take (i := 12) (oi := { dst := some 52, op := Op.move (Operand.tmp 5), type := _, pos := _, after := _, guard := some (11, true) }) (v := ?_) rfl (by kernel_rfl) (by kernel_rfl) (by kernel_rfl) (fun _ _ _ h => h) (Or.inl ⟨by rfl, ?_⟩) (by assumption) ?_
            rotate_left
            · intro w hSw; (try dsimp only at hSw); go_simp; try with_reducible rfl
            try simp only [Act.put, List.setIfInBounds_toArray, List.set_cons_zero, List.set_cons_succ]
            refine wpAnyH_take (i := 13) (oi := { dst := some 53, op := Op.move (Operand.tmp 6), type := _, pos := _, after := _, guard := some (11, true) }) (v := ?_) rfl (by kernel_rfl) (by kernel_rfl) (by kernel_rfl) (fun _ _ _ h => h) (Or.inl ⟨by rfl, ?_⟩) (by assumption) ?_
            rotate_left
            · intro w hSw; (try dsimp only at hSw); go_simp; try with_reducible rfl
            try simp only [Act.put, List.setIfInBounds_toArray, List.set_cons_zero, List.set_cons_succ]
            refine wpAnyH_take (i := 14) (oi := { dst := some 54, op := Op.binOp BinOp.sub 3 (Operand.tmp 53) (Operand.const (Value.int IntKind.i64 1)) 3, type := _, pos := _, after := _, guard := some (11, true) }) (v := ?_) rfl (by kernel_rfl) (by kernel_rfl) (by kernel_rfl) (fun _ _ _ h => h) (Or.inl ⟨by rfl, ?_⟩) (by assumption) ?_
            rotate_left
            · intro w hSw; (try dsimp only at hSw); go_simp; try with_reducible rfl
            try simp only [Act.put, List.setIfInBounds_toArray, List.set_cons_zero, List.set_cons_succ]
            refine wpAnyH_take (i := 15) (oi := { dst := some 55, op := Op.indexAddr 42 (Operand.tmp 52) (Operand.tmp 54), type := _, pos := _, after := _, guard := some (11, true) }) (v := ?_) rfl (by kernel_rfl) (by kernel_rfl) (by kernel_rfl) (fun _ _ _ h => h) (Or.inl ⟨by rfl, ?_⟩) (by assumption) ?_
            rotate_left
            · intro w hSw; (try dsimp only at hSw); go_simp; try with_reducible rfl
            try simp only [Act.put, List.setIfInBounds_toArray, List.set_cons_zero, List.set_cons_succ]
            refine wpAnyH_take (i := 16) (oi := { dst := some 56, op := Op.load 9 (Operand.tmp 55), type := _, pos := _, after := _, guard := some (11, true) }) (v := ?_) rfl (by kernel_rfl) (by kernel_rfl) (by kernel_rfl) (fun _ _ _ h => h) (Or.inl ⟨by rfl, ?_⟩) (by assumption) ?_
            rotate_left
            · intro w hSw; (try dsimp only at hSw); go_simp; try with_reducible rfl
            try simp only [Act.put, List.setIfInBounds_toArray, List.set_cons_zero, List.set_cons_succ]
            refine wpAnyH_take (i := 17) (oi := { dst := some 57, op := Op.move (Operand.tmp 5), type := _, pos := _, after := _, guard := some (11, true) }) (v := ?_) rfl (by kernel_rfl) (by kernel_rfl) (by kernel_rfl) (fun _ _ _ h => h) (Or.inl ⟨by rfl, ?_⟩) (by assumption) ?_
            rotate_left
            · intro w hSw; (try dsimp only at hSw); go_simp; try with_reducible rfl
            try simp only [Act.put, List.setIfInBounds_toArray, List.set_cons_zero, List.set_cons_succ]
            refine wpAnyH_take (i := 18) (oi := { dst := some 58, op := Op.move (Operand.tmp 6), type := _, pos := _, after := _, guard := some (11, true) }) (v := ?_) rfl (by kernel_rfl) (by kernel_rfl) (by kernel_rfl) (fun _ _ _ h => h) (Or.inl ⟨by rfl, ?_⟩) (by assumption) ?_
            rotate_left
            · intro w hSw; (try dsimp only at hSw); go_simp; try with_reducible rfl
            try simp only [Act.put, List.setIfInBounds_toArray, List.set_cons_zero, List.set_cons_succ]
            refine wpAnyH_take (i := 19) (oi := { dst := some 59, op := Op.indexAddr 42 (Operand.tmp 57) (Operand.tmp 58), type := _, pos := _, after := _, guard := some (11, true) }) (v := ?_) rfl (by kernel_rfl) (by kernel_rfl) (by kernel_rfl) (fun _ _ _ h => h) (Or.inl ⟨by rfl, ?_⟩) (by assumption) ?_
            rotate_left
            · intro w hSw; (try dsimp only at hSw); go_simp; try with_reducible rfl
            try simp only [Act.put, List.setIfInBounds_toArray, List.set_cons_zero, List.set_cons_succ]
            refine wpAnyH_take (i := 20) (oi := { dst := some 60, op := Op.load 9 (Operand.tmp 59), type := _, pos := _, after := _, guard := some (11, true) }) (v := ?_) rfl (by kernel_rfl) (by kernel_rfl) (by kernel_rfl) (fun _ _ _ h => h) (Or.inl ⟨by rfl, ?_⟩) (by assumption) ?_
            rotate_left
            · intro w hSw; (try dsimp only at hSw); go_simp; try with_reducible rfl
            try simp only [Act.put, List.setIfInBounds_toArray, List.set_cons_zero, List.set_cons_succ]
            refine wpAnyH_take (i := 21) (oi := { dst := some 61, op := Op.binOp BinOp.geq 9 (Operand.tmp 56) (Operand.tmp 60) 9, type := _, pos := _, after := _, guard := some (11, true) }) (v := ?_) rfl (by kernel_rfl) (by kernel_rfl) (by kernel_rfl) (fun _ _ _ h => h) (Or.inl ⟨by rfl, ?_⟩) (by assumption) ?_
            rotate_left
            · intro w hSw; (try dsimp only at hSw); go_simp; try with_reducible rfl
            try simp only [Act.put, List.setIfInBounds_toArray, List.set_cons_zero, List.set_cons_succ]
            refine wpAnyH_take (i := 22) (oi := { dst := some 62, op := Op.pick (Operand.tmp 51) (Operand.tmp 61) (Operand.const (Value.bool false)), type := _, pos := _, after := _, guard := some (8, false) }) (v := ?_) rfl (by kernel_rfl) (by kernel_rfl) (by kernel_rfl) (fun _ _ _ h => h) (Or.inl ⟨by rfl, ?_⟩) (by assumption) ?_
            rotate_left
            · intro w hSw; (try dsimp only at hSw); go_simp; try with_reducible rfl
            try simp only [Act.put, List.setIfInBounds_toArray, List.set_cons_zero, List.set_cons_succ]
            refine wpAnyH_take (i := 23) (oi := { dst := some 63, op := Op.pick (Operand.tmp 48) (Operand.const (Value.bool true)) (Operand.tmp 62), type := _, pos := _, after := _, guard := none }) (v := ?_) rfl (by kernel_rfl) (by kernel_rfl) (by kernel_rfl) (fun _ _ _ h => h) (Or.inl ⟨by rfl, ?_⟩) (by assumption) ?_
            rotate_left
            · intro w hSw; (try dsimp only at hSw); go_simp; try with_reducible rfl
            try simp only [Act.put, List.setIfInBounds_toArray, List.set_cons_zero, List.set_cons_succ]
            refine wpAnyH_done (by kernel_rfl) ?_ _
            have HB5 := hid (HB.out.drew.trans (hb5.mono HB.out.size))
            go_wp2_with fail
            go_roundw
            case rel => exact ⟨j + 1 + 1, by omega, by go_num, HB5⟩
            case measure => simp [intOf] <;> omega
        · obtain rfl : k = l.length := by omega
          clear hlt hk
          go_wp2_with fail
          go_loopw [7] (fun s7 wx => ∃ (i P7 : Nat), i ≤ 7 ∧ s7 = .int .i64 P7 ∧ Hid (P7 = 2 ^ i) ∧ Hid (Below w2.heap.size w2 wx)) (fun s7 _ => 200 - (intOf s7).toNat)
          case atStart => exact ⟨0, 1, by omega, rfl, hid rfl, HB⟩
          case round =>
            obtain ⟨i, Q, hi, rfl, HQ, HX⟩ := hrel
            clear HB
            by_cases hlti : i < 7
            · obtain ⟨p1, p2, p3, p4⟩ := pow_bit hlti
              rw [← HQ.out] at p1 p2 p3 p4
              have HBIT := hid p1
              have HQ4 := hid p4
              have hlen := (lenOf Q).2
              clear p1 p4
              go_wp2_with fail
              obtain ⟨wx', hwx'⟩ : ∃ wx', wx' = wr := ⟨_, rfl⟩
              refine (list_any Q HBIT.out _).mono ?_
              rintro e w3 ⟨rfl, hw3⟩
              have hblk : w3.heap[wr.heap.size]? = some (.cells ((nmsOf Q).map fun l => Value.string (strOf l)).toArray 9 (0, 0)) := by rw [← hw3]; exact heap_alloc_new _ _
              have HB3 := hid (show Below w2.heap.size w2 w3 by rw [← hw3]; exact HX.out.alloc HX.out.size _)
              have HBK := hid hblk
              obtain ⟨g, hg⟩ : ∃ g, g = wr.heap.size := ⟨_, rfl⟩
              have hgl : g < w3.heap.size := by rw [hg]; exact (Array.getElem?_eq_some_iff.1 hblk).1
              have hwg : w2.heap.size ≤ g := by rw [hg]; exact HX.out.size
              rw [← hg] at HBK ⊢
              clear hw3 hblk hg hwx' HX
              go_wp2_with fail
              have hw32 := HB3.out.size
              go_loopw [9] (fun s9 wy => ∃ j : Nat, j ≤ (nmsOf Q).length ∧ s9 = .int .i64 j ∧ Hid (Below w2.heap.size w2 wy ∧ wy.heap[g]? = some (.cells ((nmsOf Q).map fun l => Value.string (strOf l)).toArray 9 (0, 0)))) (fun s9 _ => (nmsOf Q).length - (intOf s9).toNat)
              case atStart => exact ⟨0, by omega, rfl, hid ⟨HB3.out, HBK.out⟩⟩
              case round =>
                obtain ⟨j, hj, rfl, HY⟩ := hrel
                by_cases hltj : j < (nmsOf Q).length
                · cases hqa : (bits .and .i64 (Q : Int) all != 0) with
                  | true =>
                    have HQA := hid hqa
                    obtain ⟨nm, hnm⟩ : ∃ nm, (nmsOf Q)[j]? = some nm := ⟨_, List.getElem?_eq_getElem hltj⟩
                    have HFOUND := hid (show l.contains nm = true by
                      rw [List.contains_iff_mem, HN.out.2 nm]
                      exact wanted_of HBIT.out (by rw [List.contains_iff_mem]; exact List.mem_of_getElem? hnm) (bne_iff_ne.1 hqa))
                    have HNM := hid hnm
                    clear hnm
                    go_wp2_with fail
                    go_loopw [10, 11] (fun s10 s11 wz => ∃ kk : Nat, kk ≤ l.length ∧ s11 = .int .i64 kk ∧ s10 = .bool ((l.take kk).contains nm) ∧ Hid (Below w2.heap.size w2 wz ∧ wz.heap[g]? = some (.cells ((nmsOf Q).map fun l => Value.string (strOf l)).toArray 9 (0, 0)))) (fun _ s11 _ => l.length - (intOf s11).toNat)
                    case atStart => exact ⟨0, by omega, rfl, rfl, HY⟩
                    case round =>
                      obtain ⟨kk, hkk, rfl, rfl, HZ2⟩ := hrel
                      clear HY
                      by_cases hltk : kk < l.length
                      · have HSz := hid (HS.out.below HZ2.out.1)
                        obtain ⟨b, x, rfl, hkx, hbl, hcx⟩ := HSz.out.at hltk
                        have htk := hid (show (l.take (kk + 1)).contains nm = ((l.take kk).contains nm || (x == nm)) by
                          rw [List.take_add_one, hkx]
                          simp only [Option.toList_some, List.contains_append, List.contains_cons, List.contains_nil, Bool.or_false]
                          congr 1
                          exact Bool.eq_iff_iff.2 (by rw [beq_iff_eq, beq_iff_eq]; exact eq_comm))
                        have hcn : wr.cell? ⟨g, j, none⟩ = some (.string (strOf nm)) := by rw [cell_of_row _ _ _ _ _ _ HZ2.out.2]; simp [HNM.out]
                        clear hkx
                        cases hf : (l.take kk).contains nm with
                        | true =>
                          have hnew := hid (show (l.take (kk + 1)).contains nm = true by rw [htk.out, hf]; rfl)
                          clear hf
                          go_wp2_with fail
                          go_quiet (fail)
                          go_wp2_with fail
                          go_roundw
                          case rel => exact ⟨kk + 1, by omega, by go_num, by rw [hnew.out], hid ⟨below_drewN HZ2.out.1 _, HZ2.out.2⟩⟩
                          case measure => simp [intOf]; omega
                        | false =>
                          cases hxn : (x == nm) with
                          | true =>
                            have hnew := hid (show (l.take (kk + 1)).contains nm = true by rw [htk.out, hf, hxn]; rfl)
                            clear hf
                            go_wp2_with fail
                            go_quiet (fail)
                            go_wp2_with fail
                            go_roundw
                            case rel => exact ⟨kk + 1, by omega, by go_num, by rw [hnew.out], hid ⟨below_drewN HZ2.out.1 _, HZ2.out.2⟩⟩
                            case measure => simp [intOf]; omega
                          | false =>
                            have hnew := hid (show (l.take (kk + 1)).contains nm = false by rw [htk.out, hf, hxn]; rfl)
                            clear hf
                            go_wp2_with fail
                            go_quiet (fail)
                            go_wp2_with fail
                            go_roundw
                            case rel => exact ⟨kk + 1, by omega, by go_num, by rw [hnew.out], hid ⟨below_drewN HZ2.out.1 _, HZ2.out.2⟩⟩
                            case measure => simp [intOf]; omega
                      · obtain rfl : kk = l.length := by omega
                        rw [List.take_length, HFOUND.out]
                        clear hltk hkk
                        go_wp2_with fail
                        go_roundw
                        case rel => exact ⟨j + 1, by omega, by go_num, HZ2⟩
                        case measure => simp [intOf]; omega
                  | false =>
                    go_wp2_with fail
                    have HQ2 := hid (show 2 * Q = 2 ^ (i + 1) by rw [HQ4.out])
                    go_roundw
                    case rel => exact ⟨i + 1, 2 * Q, by omega, by go_num, HQ2, hid HY.out.1⟩
                    case measure => simp [intOf]; omega
                · have HQ2 := hid (show 2 * Q = 2 ^ (i + 1) by rw [HQ4.out])
                  go_wp2_with fail
                  go_roundw
                  case rel => exact ⟨i + 1, 2 * Q, by omega, by go_num, HQ2, hid HY.out.1⟩
                  case measure => simp [intOf]; omega
            · obtain rfl : i = 7 := by omega
              have hQ : Q = 128 := HQ.out
              subst hQ
              go_wp2_with fail
              go_ret
              exact ⟨rfl, HB2.out.trans (HX.out.mono HB2.out.size)⟩
end Go.Proofs.YtfdfeblcchbcnaaDoor
