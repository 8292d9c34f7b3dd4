/- An entry's numbers of a place painted: the walk. Conditions: right entries in memory. -/
import Derived.Test.YtehchnagjdmdgaaSp
namespace Go.Proofs.Ytehchnagjdmdgaa
open Go.RowKit
set_option linter.unusedSimpArgs false
/-- What is painted of the first m ranges. -/
def pntF (l : List Rng) (p : Nat) (c : Int) (f : Nat → Int) (k : Nat) : Int := if inS l ((p : Int) * 256 + (k : Nat)) then c else f k
/-- .. and of a range up to a number. -/
def pntR (l : List Rng) (p : Nat) (c : Int) (f : Nat → Int) (a r : Int) (k : Nat) : Int := if inS l ((p : Int) * 256 + (k : Nat)) = true ∨ a ≤ (p : Int) * 256 + (k : Nat) ∧ (p : Int) * 256 + (k : Nat) < r then c else f k
theorem pntF_nil (p : Nat) (c : Int) (f : Nat → Int) : B256 (pntF [] p c f) = B256 f := B256_ext fun k _ => by simp [pntF, inS]
theorem pntR_start (l : List Rng) (p : Nat) (c : Int) (f : Nat → Int) (a : Int) : B256 (pntR l p c f a a) = B256 (pntF l p c f) := B256_ext fun k _ => by
  unfold pntR pntF
  by_cases h : inS l ((p : Int) * 256 + (k : Nat)) = true
  · rw [if_pos (.inl h), if_pos h]
  · rw [if_neg (by rintro (h' | h'); exact h h'; omega), if_neg h]
theorem pntR_step (l : List Rng) (p : Nat) (c : Int) (f : Nat → Int) (a : Int) {k0 : Nat} (ha : a ≤ (p : Int) * 256 + (k0 : Nat)) (h : k0 < 256) :
    (B256 (pntR l p c f a ((p : Int) * 256 + (k0 : Nat)))).set k0 c = B256 (pntR l p c f a ((p : Int) * 256 + (k0 : Nat) + 1)) := by
  rw [B256_set _ h]
  refine B256_ext fun k _ => ?_
  by_cases e : k = k0
  · subst e
    rw [upd_same]
    unfold pntR
    rw [if_pos (.inr ⟨ha, by omega⟩)]
  · rw [upd_other _ _ e]
    unfold pntR
    by_cases h1 : inS l ((p : Int) * 256 + (k : Nat)) = true
    · rw [if_pos (.inl h1), if_pos (.inl h1)]
    · by_cases h2 : a ≤ (p : Int) * 256 + (k : Nat) ∧ (p : Int) * 256 + (k : Nat) < (p : Int) * 256 + (k0 : Nat)
      · rw [if_pos (.inr h2), if_pos (.inr ⟨h2.1, by omega⟩)]
      · rw [if_neg (by rintro (h' | h'); exact h1 h'; exact h2 h'), if_neg (by rintro (h' | h'); exact h1 h'; omega)]
theorem pntR_end {l : List Rng} {m p : Nat} {c : Int} {f : Nat → Int} {a r x1 x2 : Int} (hm : m < l.length) (hx : rng l m = (x1, x2)) (ha : a = max x1 ((p : Int) * 256)) (hr : min x2 ((p : Int) * 256 + 255) < r) (hr2 : r ≤ min x2 ((p : Int) * 256 + 255) + 1 ∨ r = a) :
    B256 (pntR (l.take m) p c f a r) = B256 (pntF (l.take (m + 1)) p c f) := B256_ext fun k hk => by
  unfold pntR pntF
  have e : inS (l.take (m + 1)) ((p : Int) * 256 + (k : Nat)) = (inS (l.take m) ((p : Int) * 256 + (k : Nat)) || (decide (x1 ≤ (p : Int) * 256 + (k : Nat)) && decide ((p : Int) * 256 + (k : Nat) ≤ x2))) := by
    rw [take_rng hm, hx]; simp [inS, List.any_append]
  rw [e]
  by_cases h1 : inS (l.take m) ((p : Int) * 256 + (k : Nat)) = true
  · rw [if_pos (.inl h1), h1]; rfl
  · have h1' : inS (l.take m) ((p : Int) * 256 + (k : Nat)) = false := by simpa using h1
    rw [h1', Bool.false_or]
    by_cases h2 : x1 ≤ (p : Int) * 256 + (k : Nat) ∧ (p : Int) * 256 + (k : Nat) ≤ x2
    · rw [if_pos (.inr (by omega)), decide_eq_true h2.1, decide_eq_true h2.2]; rfl
    · rw [if_neg (by rintro (h' | h'); cases h'; omega), if_neg (by simp; omega)]
set_option maxRecDepth 100000 in
set_option maxHeartbeats 4000000 in
theorem paint_any {B q ob i p : Nat} {A : Option Addr} {c : Nat} {es : List Ent} {b : Bl} {w : World} {f : Nat → Int} (h : Bd w B q (.slice A es.length c) b) (hE : IsEnts w (fun x => x < B) (.slice A es.length c) es) (hi : i < es.length) (hle : es.length ≤ 200) (hr : rightB (ent es i).1 = true)
    (hc : 0 ≤ (ent es i).2 ∧ (ent es i).2 ≤ 255) (hp : p < 4352) (hob : B ≤ ob) (hf : IntBlk w ob 76 .u8 (B256 f)) :
    Calls Try.prog 40 #[.pointer (some ⟨q, 0, none⟩), .pointer (some ⟨ob, 0, none⟩), .int .i64 i, .int .i64 p] w fun e w' => e = .returned (.tuple #[]) ∧ IntBlk w' ob 76 .u8 (B256 (pntF (ent es i).1 p (ent es i).2 f)) ∧ (∀ x, x < w.heap.size → x ≠ ob → w'.heap[x]? = w.heap[x]?) ∧ Below B w w' := by
  have HD := hid h
  have HE := hid hE
  have HR := hid hr
  have HF := hid hf
  have HOB := hid hob
  have hobl := hf.lt
  have HBZ := hid (show B ≤ w.heap.size from Nat.le_trans h.base (Nat.le_of_lt h.lt))
  obtain ⟨eb, eo, LA, lc, rfl, hebB, heb, e0, e1, hrl, -⟩ := hE.at hi
  have HL := hid hrl
  have hll := hrl.le
  obtain ⟨q0, -, -, -⟩ := h.cells
  have hoq : ob ≠ q := fun e => by obtain ⟨cs, hcs, -⟩ := h.blk; unfold IntBlk at hf; rw [e, hcs] at hf; injection hf with hf; injection hf with _ h2; cases h2
  obtain ⟨y, hy⟩ : ∃ y, y = (ent es i).2 := ⟨_, rfl⟩
  rw [← hy] at e1 hc ⊢
  have HKE := hid (show ∀ Y : World, (∀ x, x < w.heap.size → x ≠ ob → Y.heap[x]? = w.heap[x]?) → Y.cell? ⟨q, 0, none⟩ = some (.slice (some ⟨eb, eo, none⟩) es.length c) ∧ Y.cell? ⟨eb, eo + i * 2 + 1, none⟩ = some (.int .i64 y) from fun Y hY =>
    ⟨(World.cell?_of_block (a := ⟨q, 0, none⟩) (hY q h.lt (Ne.symm hoq))).trans q0, (World.cell?_of_block (a := ⟨eb, eo + i * 2 + 1, none⟩) (hY eb heb (by omega))).trans e1⟩)
  obtain ⟨l, hl⟩ : ∃ l, l = (ent es i).1 := ⟨_, rfl⟩
  rw [← hl] at e0 HL HR hll ⊢
  clear h hE hr hrl hl hf hy hoq hob
  have hcw : IntKind.u8.wrap y = y := by simp [IntKind.wrap, IntKind.bits, IntKind.signed]; omega
  have HCW := hid hcw
  clear hcw
  go_enter Try.func40, Try.ntmps40
  go_wp2_with fail
  go_loopw [20] (fun s20 wr => ∃ (m : Nat), m ≤ l.length ∧ s20 = .int .i64 m ∧ Hid (IntBlk wr ob 76 .u8 (B256 (pntF (l.take m) p y f))) ∧ Hid (∀ x, x < w.heap.size → x ≠ ob → wr.heap[x]? = w.heap[x]?) ∧ Hid (Below B w wr)) (fun s20 _ => l.length - (intOf s20).toNat)
  case atStart => exact ⟨0, by omega, rfl, hid (by rw [List.take_zero, pntF_nil]; exact HF.out), hid (fun _ _ _ => rfl), hid (Below.refl _ _)⟩
  case round =>
    obtain ⟨m, hm, rfl, HFm, HK, HB⟩ := hrel
    by_cases hlt : m < l.length
    · obtain ⟨rb, ro, rfl, hrbB, hrb, r0, r1, -⟩ := ((HL.out.imp (w' := wr) (fun x hx _ => HB.out.block x hx) fun _ h _ => h)).at hlt
      have hmay := mayB_iff.1 (rightB_may HR.out (rng_mem hlt))
      obtain ⟨x, hx⟩ : ∃ x, x = rng l m := ⟨_, rfl⟩
      rw [← hx] at r0 r1 hmay
      obtain ⟨x1, x2⟩ := x
      simp only at r0 r1 hmay
      obtain ⟨hx0, hx12, hxm⟩ := hmay
      have HXE := hid hx.symm
      obtain ⟨xb, hxb⟩ : ∃ xb, xb = wr.heap.size := ⟨_, rfl⟩
      obtain ⟨X, hX⟩ : ∃ X, X = wr.alloc (.cells #[.int .i32 x1, .int .i32 x2] 56) := ⟨_, rfl⟩
      have HXB := hid (show Below wr.heap.size wr X by rw [hX]; exact (Below.refl _ _).alloc (Nat.le_refl _) _)
      have HXX := hid (show X.heap[xb]? = some (.cells #[.int .i32 x1, .int .i32 x2] 56 (0, 0)) by rw [hX, hxb]; exact heap_alloc_new _ _)
      have HBX := hid (HB.out.trans (HXB.out.mono (Nat.le_trans HBZ.out HB.out.size)))
      have HFX := hid (HFm.out.below HXB.out HFm.out.lt)
      have HKX := hid (show ∀ x, x < w.heap.size → x ≠ ob → X.heap[x]? = w.heap[x]? from fun x h1 h2 => (HXB.out.block x (Nat.lt_of_lt_of_le h1 HB.out.size)).trans (HK.out x h1 h2))
      have hxob : xb ≠ ob := by have := HFm.out.lt; omega
      obtain ⟨y0, y1, -⟩ := slot2 HXX.out
      clear hx
      go_wp2_with fail
      rw [← hX, ← hxb]
      clear r0 r1 hX hxb y0 y1
      obtain ⟨a, ha⟩ : ∃ a : Int, a = max x1 ((p : Int) * 256) := ⟨_, rfl⟩
      rw [← ha]
      have HA := hid ha
      have ha0 : (p : Int) * 256 ≤ a := by omega
      have ham : a ≤ 1114112 := by omega
      clear ha
      go_loopw [10] (fun s10 wk => ∃ (r : Int), s10 = .int .i64 r ∧ a ≤ r ∧ r ≤ 1114112 ∧ Hid (r ≤ min x2 ((p : Int) * 256 + 255) + 1 ∨ r = a) ∧ Hid (IntBlk wk ob 76 .u8 (B256 (pntR (l.take m) p y f a r))) ∧ Hid (∀ x, x < w.heap.size → x ≠ ob → wk.heap[x]? = w.heap[x]?) ∧ Hid (wk.heap[xb]? = some (.cells #[.int .i32 x1, .int .i32 x2] 56 (0, 0))) ∧ Hid (Below B w wk)) (fun s10 _ => (1114113 - (intOf s10)).toNat)
      case atStart => exact ⟨a, rfl, by omega, by omega, hid (.inr rfl), hid (by rw [pntR_start]; exact HFX.out), HKX, HXX, HBX⟩
      case round =>
        clear HFX HKX HXX HBX HFm HK
        obtain ⟨r, rfl, har, hrm, HRR, HFk, HKk, HXk, HBk⟩ := hrel
        obtain ⟨y0, y1, -⟩ := slot2 HXk.out
        by_cases hin : r ≤ x2 ∧ r ≤ (p : Int) * 256 + 255
        · obtain ⟨hin1, hin2⟩ := hin
          obtain ⟨k0, hk0⟩ : ∃ k0 : Nat, r = (p : Int) * 256 + (k0 : Nat) := ⟨(r - (p : Int) * 256).toNat, by omega⟩
          have hk256 : k0 < 256 := by omega
          have hw : IntKind.i64.wrap (r - (p : Int) * 256) = (k0 : Int) := by simp [IntKind.wrap, IntKind.bits, IntKind.signed]; omega
          have hw2 : IntKind.i64.wrap (r - IntKind.i64.wrap ((p : Int) * 256)) = (k0 : Int) := by rw [show IntKind.i64.wrap ((p : Int) * 256) = (p : Int) * 256 by simp [IntKind.wrap, IntKind.bits, IntKind.signed]; omega]; exact hw
          have HFn := hid (show IntBlk (wr.setCell ⟨ob, k0, none⟩ (.int .u8 y)) ob 76 .u8 (B256 (pntR (l.take m) p y f a (r + 1))) by
            have h := HFk.out.set k0 y
            rw [hk0] at h ⊢
            rwa [pntR_step _ _ _ _ _ (by omega) hk256] at h)
          have HKn := hid (show ∀ x, x < w.heap.size → x ≠ ob → (wr.drew.setCell ⟨ob, k0, none⟩ (.int .u8 (IntKind.u8.wrap y))).heap[x]? = w.heap[x]? from fun x h1 h2 => (heap_setCell_other _ _ _ _ h2).trans (HKk.out x h1 h2))
          have hcell := HFk.out.cell (j := k0) (by rw [B256_len]; exact hk256)
          have hfr := HFk.out.frozen k0
          have HR2 := hid (show r + 1 ≤ min x2 ((p : Int) * 256 + 255) + 1 ∨ r + 1 = a from .inl (by omega))
          clear hk0
          go_wp2_with fail
          refine wp_region_held_drew (S := (fun Y => Y.cell? ⟨q, 0, none⟩ = some (.slice (some ⟨eb, eo, none⟩) es.length c) ∧ Y.cell? ⟨eb, eo + i * 2 + 1, none⟩ = some (.int .i64 y))) (by kernel_rfl) (by first | exact HKE.out _ HKk.out | exact HKE.out wr.drew HKk.out) (fun hHeld => ?_)
          refine wpAnyH_take (i := 0) (oi := { dst := some 42, op := Op.move (Operand.tmp 1), type := _, pos := _, after := _, guard := none }) (v := ?_) rfl (by kernel_rfl) (by kernel_rfl) (by kernel_rfl) (fun _ _ _ h => h) (Or.inl ⟨by rfl, ?_⟩) (by assumption) ?_
          rotate_left
          · intro w hSw; (try dsimp only at hSw); go_simp; try (first | with_reducible rfl | (refine (if_pos ?_).trans ?_ <;> first | omega | with_reducible rfl))
          try simp only [Act.put, List.setIfInBounds_toArray, List.set_cons_zero, List.set_cons_succ]
          refine wpAnyH_take (i := 1) (oi := { dst := some 43, op := Op.move (Operand.tmp 10), type := _, pos := _, after := _, guard := none }) (v := ?_) rfl (by kernel_rfl) (by kernel_rfl) (by kernel_rfl) (fun _ _ _ h => h) (Or.inl ⟨by rfl, ?_⟩) (by assumption) ?_
          rotate_left
          · intro w hSw; (try dsimp only at hSw); go_simp; try (first | with_reducible rfl | (refine (if_pos ?_).trans ?_ <;> first | omega | with_reducible rfl))
          try simp only [Act.put, List.setIfInBounds_toArray, List.set_cons_zero, List.set_cons_succ]
          refine wpAnyH_take (i := 2) (oi := { dst := some 44, op := Op.move (Operand.tmp 3), type := _, pos := _, after := _, guard := none }) (v := ?_) rfl (by kernel_rfl) (by kernel_rfl) (by kernel_rfl) (fun _ _ _ h => h) (Or.inl ⟨by rfl, ?_⟩) (by assumption) ?_
          rotate_left
          · intro w hSw; (try dsimp only at hSw); go_simp; try (first | with_reducible rfl | (refine (if_pos ?_).trans ?_ <;> first | omega | with_reducible rfl))
          try simp only [Act.put, List.setIfInBounds_toArray, List.set_cons_zero, List.set_cons_succ]
          refine wpAnyH_take (i := 3) (oi := { dst := some 45, op := Op.binOp BinOp.mul 3 (Operand.tmp 44) (Operand.const (Value.int IntKind.i64 256)) 3, type := _, pos := _, after := _, guard := none }) (v := ?_) rfl (by kernel_rfl) (by kernel_rfl) (by kernel_rfl) (fun _ _ _ h => h) (Or.inl ⟨by rfl, ?_⟩) (by assumption) ?_
          rotate_left
          · intro w hSw; (try dsimp only at hSw); go_simp; try (first | with_reducible rfl | (refine (if_pos ?_).trans ?_ <;> first | omega | with_reducible rfl))
          try simp only [Act.put, List.setIfInBounds_toArray, List.set_cons_zero, List.set_cons_succ]
          refine wpAnyH_take (i := 4) (oi := { dst := some 46, op := Op.binOp BinOp.sub 3 (Operand.tmp 43) (Operand.tmp 45) 3, type := _, pos := _, after := _, guard := none }) (v := ?_) rfl (by kernel_rfl) (by kernel_rfl) (by kernel_rfl) (fun _ _ _ h => h) (Or.inl ⟨by rfl, ?_⟩) (by assumption) ?_
          rotate_left
          · intro w hSw; (try dsimp only at hSw); go_simp; try (first | with_reducible rfl | (refine (if_pos ?_).trans ?_ <;> first | omega | with_reducible rfl))
          try simp only [Act.put, List.setIfInBounds_toArray, List.set_cons_zero, List.set_cons_succ]
          refine wpAnyH_take (i := 5) (oi := { dst := some 47, op := Op.move (Operand.tmp 0), type := _, pos := _, after := _, guard := none }) (v := ?_) rfl (by kernel_rfl) (by kernel_rfl) (by kernel_rfl) (fun _ _ _ h => h) (Or.inl ⟨by rfl, ?_⟩) (by assumption) ?_
          rotate_left
          · intro w hSw; (try dsimp only at hSw); go_simp; try (first | with_reducible rfl | (refine (if_pos ?_).trans ?_ <;> first | omega | with_reducible rfl))
          try simp only [Act.put, List.setIfInBounds_toArray, List.set_cons_zero, List.set_cons_succ]
          refine wpAnyH_take (i := 6) (oi := { dst := some 48, op := Op.nilCheck (Operand.tmp 47), type := _, pos := _, after := _, guard := none }) (v := ?_) rfl (by kernel_rfl) (by kernel_rfl) (by kernel_rfl) (fun _ _ _ h => h) (Or.inl ⟨by rfl, ?_⟩) (by assumption) ?_
          rotate_left
          · intro w hSw; (try dsimp only at hSw); go_simp; try (first | with_reducible rfl | (refine (if_pos ?_).trans ?_ <;> first | omega | with_reducible rfl))
          try simp only [Act.put, List.setIfInBounds_toArray, List.set_cons_zero, List.set_cons_succ]
          refine wpAnyH_take (i := 7) (oi := { dst := some 49, op := Op.fieldAddr 67 (Operand.tmp 48) 0, type := _, pos := _, after := _, guard := none }) (v := ?_) rfl (by kernel_rfl) (by kernel_rfl) (by kernel_rfl) (fun _ _ _ h => h) (Or.inl ⟨by rfl, ?_⟩) (by assumption) ?_
          rotate_left
          · intro w hSw; (try dsimp only at hSw); go_simp; try (first | with_reducible rfl | (refine (if_pos ?_).trans ?_ <;> first | omega | with_reducible rfl))
          try simp only [Act.put, List.setIfInBounds_toArray, List.set_cons_zero, List.set_cons_succ]
          refine wpAnyH_take (i := 8) (oi := { dst := some 50, op := Op.load 30 (Operand.tmp 49), type := _, pos := _, after := _, guard := none }) (v := ?_) rfl (by kernel_rfl) (by kernel_rfl) (by kernel_rfl) (fun _ _ _ h => h) (Or.inl ⟨by rfl, ?_⟩) (by assumption) ?_
          rotate_left
          · intro w hSw; (try dsimp only at hSw); go_simp; try (first | with_reducible rfl | (refine (if_pos ?_).trans ?_ <;> first | omega | with_reducible rfl))
          try simp only [Act.put, List.setIfInBounds_toArray, List.set_cons_zero, List.set_cons_succ]
          refine wpAnyH_take (i := 9) (oi := { dst := some 51, op := Op.move (Operand.tmp 2), type := _, pos := _, after := _, guard := none }) (v := ?_) rfl (by kernel_rfl) (by kernel_rfl) (by kernel_rfl) (fun _ _ _ h => h) (Or.inl ⟨by rfl, ?_⟩) (by assumption) ?_
          rotate_left
          · intro w hSw; (try dsimp only at hSw); go_simp; try (first | with_reducible rfl | (refine (if_pos ?_).trans ?_ <;> first | omega | with_reducible rfl))
          try simp only [Act.put, List.setIfInBounds_toArray, List.set_cons_zero, List.set_cons_succ]
          refine wpAnyH_take (i := 10) (oi := { dst := some 52, op := Op.indexAddr 30 (Operand.tmp 50) (Operand.tmp 51), type := _, pos := _, after := _, guard := none }) (v := ?_) rfl (by kernel_rfl) (by kernel_rfl) (by kernel_rfl) (fun _ _ _ h => h) (Or.inl ⟨by rfl, ?_⟩) (by assumption) ?_
          rotate_left
          · intro w hSw; (try dsimp only at hSw); go_simp; try (first | with_reducible rfl | (refine (if_pos ?_).trans ?_ <;> first | omega | with_reducible rfl))
          try simp only [Act.put, List.setIfInBounds_toArray, List.set_cons_zero, List.set_cons_succ]
          refine wpAnyH_take (i := 11) (oi := { dst := some 53, op := Op.fieldAddr 58 (Operand.tmp 52) 1, type := _, pos := _, after := _, guard := none }) (v := ?_) rfl (by kernel_rfl) (by kernel_rfl) (by kernel_rfl) (fun _ _ _ h => h) (Or.inl ⟨by rfl, ?_⟩) (by assumption) ?_
          rotate_left
          · intro w hSw; (try dsimp only at hSw); go_simp; try (first | with_reducible rfl | (refine (if_pos ?_).trans ?_ <;> first | omega | with_reducible rfl))
          try simp only [Act.put, List.setIfInBounds_toArray, List.set_cons_zero, List.set_cons_succ]
          refine wpAnyH_take (i := 12) (oi := { dst := some 54, op := Op.load 3 (Operand.tmp 53), type := _, pos := _, after := _, guard := none }) (v := ?_) rfl (by kernel_rfl) (by kernel_rfl) (by kernel_rfl) (fun _ _ _ h => h) (Or.inl ⟨by rfl, ?_⟩) (by assumption) ?_
          rotate_left
          · intro w hSw; (try dsimp only at hSw); go_simp; try (first | with_reducible rfl | (refine (if_pos ?_).trans ?_ <;> first | omega | with_reducible rfl))
          try simp only [Act.put, List.setIfInBounds_toArray, List.set_cons_zero, List.set_cons_succ]
          refine wpAnyH_take (i := 13) (oi := { dst := some 55, op := Op.convert 3 5 (Operand.tmp 54), type := _, pos := _, after := _, guard := none }) (v := ?_) rfl (by kernel_rfl) (by kernel_rfl) (by kernel_rfl) (fun _ _ _ h => h) (Or.inl ⟨by rfl, ?_⟩) (by assumption) ?_
          rotate_left
          · intro w hSw; (try dsimp only at hSw); go_simp; try (first | with_reducible rfl | (refine (if_pos ?_).trans ?_ <;> first | omega | with_reducible rfl))
          try simp only [Act.put, List.setIfInBounds_toArray, List.set_cons_zero, List.set_cons_succ]
          refine wpAnyH_take (i := 14) (oi := { dst := some 56, op := Op.nilCheck (Operand.tmp 42), type := _, pos := _, after := _, guard := none }) (v := ?_) rfl (by kernel_rfl) (by kernel_rfl) (by kernel_rfl) (fun _ _ _ h => h) (Or.inl ⟨by rfl, ?_⟩) (by assumption) ?_
          rotate_left
          · intro w hSw; (try dsimp only at hSw); go_simp; try (first | with_reducible rfl | (refine (if_pos ?_).trans ?_ <;> first | omega | with_reducible rfl))
          try simp only [Act.put, List.setIfInBounds_toArray, List.set_cons_zero, List.set_cons_succ]
          refine wpAnyH_take (i := 15) (oi := { dst := some 57, op := Op.indexAddr 76 (Operand.tmp 56) (Operand.tmp 46), type := _, pos := _, after := _, guard := none }) (v := ?_) rfl (by kernel_rfl) (by kernel_rfl) (by kernel_rfl) (fun _ _ _ h => h) (Or.inl ⟨by rfl, ?_⟩) (by assumption) ?_
          rotate_left
          · intro w hSw; (try dsimp only at hSw); go_simp; try (first | with_reducible rfl | (refine (if_pos ?_).trans ?_ <;> first | omega | with_reducible rfl))
          try simp only [Act.put, List.setIfInBounds_toArray, List.set_cons_zero, List.set_cons_succ]
          refine wpAnyH_ready (rs := [16]) (by kernel_rfl) (by simp) ?_
          refine AllReadyH.cons (o := { dst := none, op := Op.store 5 (Operand.tmp 57) (Operand.tmp 55), type := _, pos := _, after := _, guard := none }) rfl (fun K hK => ?_) AllReadyH.nil
          go_simp
          refine hK.out _ _ (by exact HKE.out _ HKn.out) (fun hHeld => ?_)
          clear hK K
          try simp only [Act.put, List.setIfInBounds_toArray, List.set_cons_zero, List.set_cons_succ]
          refine wpAnyH_done (by kernel_rfl) ?_ _
          rw [HCW.out]
          obtain ⟨w5, hw5⟩ : ∃ w5, w5 = wr.setCell ⟨ob, k0, none⟩ (.int .u8 y) := ⟨_, rfl⟩
          have H5 := hid (show IntBlk w5 ob 76 .u8 (B256 (pntR (l.take m) p y f a (r + 1))) ∧ (∀ x, x < w.heap.size → x ≠ ob → w5.heap[x]? = w.heap[x]?) ∧ w5.heap[xb]? = some (.cells #[.int .i32 x1, .int .i32 x2] 56 (0, 0)) ∧ Below B w w5 by
            subst hw5
            exact ⟨HFn.out, fun x h1 h2 => (heap_setCell_other _ _ _ _ h2).trans (HKk.out x h1 h2), by rw [heap_setCell_other _ _ _ _ hxob]; exact HXk.out, HBk.out.setCell (p := ⟨ob, k0, none⟩) HOB.out _⟩)
          rw [← hw5]
          clear hw5 hcell hfr hw hw2
          go_wp2_with fail
          exact ⟨⟨r + 1, by go_num, by omega, by omega, HR2, hid H5.out.1, hid H5.out.2.1, hid H5.out.2.2.1, hid H5.out.2.2.2.drew⟩, by simp [intOf]; omega⟩
        · have HFN := hid (show IntBlk wr ob 76 .u8 (B256 (pntF (l.take (m + 1)) p y f)) by
            rw [← pntR_end hlt HXE.out HA.out (by omega) HRR.out]
            exact HFk.out)
          go_wp2_with fail
          exact ⟨⟨m + 1, by omega, by go_num, HFN, HKk, HBk⟩, by simp [intOf]; omega⟩
    · obtain rfl : m = l.length := by omega
      have HFN := hid (show IntBlk wr ob 76 .u8 (B256 (pntF l p y f)) by have h := HFm.out; rw [List.take_length] at h; exact h)
      go_wp2_with fail
      go_end0
      exact ⟨rfl, HFN.out, HK.out, HB.out⟩
end Go.Proofs.Ytehchnagjdmdgaa
