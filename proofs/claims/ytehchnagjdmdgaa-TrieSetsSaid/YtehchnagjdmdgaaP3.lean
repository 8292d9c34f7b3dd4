/- The document's points, the other way. Conditions: ranges that may be, in memory. -/
import Derived.Test.YtehchnagjdmdgaaPn
namespace Go.Proofs.Ytehchnagjdmdgaa
open Go.RowKit
set_option linter.unusedSimpArgs false
/-- The number that comes at step i. -/
def rOf (l : List Rng) (i : Nat) : Int := if i % 2 = 1 then (rng l (i / 2)).2 + 1 else (rng l (i / 2)).1
def p3To (l : List Rng) : Nat → List Int
  | 0 => [0, 1114112]
  | i + 1 => insB (p3To l i) (rOf l i)
theorem p3_is (l : List Rng) : ∀ j, j ≤ l.length → p3To l (2 * j) = (l.take j).foldl insR [0, 1114112]
  | 0, _ => rfl
  | j + 1, h => by
    have e : p3To l (2 * (j + 1)) = insB (insB (p3To l (2 * j)) (rOf l (2 * j))) (rOf l (2 * j + 1)) := rfl
    have e1 : rOf l (2 * j) = (rng l j).1 := by unfold rOf; rw [if_neg (by omega), show 2 * j / 2 = j by omega]
    have e2 : rOf l (2 * j + 1) = (rng l j).2 + 1 := by unfold rOf; rw [if_pos (by omega), show (2 * j + 1) / 2 = j by omega]
    rw [e, e1, e2, p3_is l j (by omega), fold_take _ _ (by omega)]
    rfl
theorem p3_len (l : List Rng) : ∀ i, (p3To l i).length ≤ i + 2
  | 0 => Nat.le_refl _
  | i + 1 => by
    have := p3_len l i
    have := @insB_len (p3To l i) (rOf l i)
    show (insB _ _).length ≤ _
    omega
theorem p3_top (l : List Rng) : ∀ i, 1114112 ∈ p3To l i
  | 0 => by simp [p3To]
  | i + 1 => mem_insB.2 (.inr (p3_top l i))
theorem p3_stop {L : List Int} (h : 1114112 ∈ L) {r : Int} (hr : r ≤ 1114112) : 0 < L.length ∧ ∀ k, (∀ j, j < k → nth L j < r) → k < L.length := by
  obtain ⟨j, hj, e⟩ := nth_of_mem h
  refine ⟨by omega, fun k hk => ?_⟩
  rcases Nat.lt_or_ge k L.length with h1 | h1
  · exact h1
  · have := hk j (by omega); omega
set_option maxRecDepth 100000 in
set_option maxHeartbeats 4000000 in
theorem points3_any (S : Nat → Prop) (A : Option Addr) (c : Nat) (l : List Rng) (w : World) (h : IsRngs w S (.slice A l.length c) l) (hok : ∀ x ∈ l, okR x) (hl : l.length ≤ 10000) :
    Calls Try.prog 32 #[.slice A l.length c] w fun e w' => ∃ v', e = .returned v' ∧ IsNums .i32 w' (fun b => w.heap.size ≤ b) v' (pts3 l) ∧ Below w.heap.size w w' := by
  have H := hid h
  clear h
  obtain ⟨W1, hW1⟩ : ∃ W, W = w.alloc (.cells #[.int .i32 0, .int .i32 1114112] 21) := ⟨_, rfl⟩
  have HB1 := hid (show Below w.heap.size w W1 by rw [hW1]; exact (Below.refl _ _).alloc (Nat.le_refl _) _)
  have HN1 := hid (show IsNums .i32 W1 (fun b => w.heap.size ≤ b) (.slice (some ⟨w.heap.size, 0, none⟩) 2 2) [0, 1114112] by
    rw [hW1]
    exact (IntBlk.nums (l := [0, 1114112]) (show (w.alloc (.cells #[.int .i32 0, .int .i32 1114112] 21)).heap[w.heap.size]? = _ from heap_alloc_new _ _) (by decide)).mono fun b h _ => by show _ ≤ b; omega)
  have HW1 := hid hW1
  clear hW1
  go_enter Try.func32, Try.ntmps32
  go_wp2_with fail
  rw [← HW1.out]
  go_loopw [3, 4] (fun s3 s4 wr => ∃ (i : Nat) (v : Value), i ≤ 2 * l.length ∧ s4 = .int .i64 i ∧ s3 = v ∧ Hid (IsNums .i32 wr (fun b => w.heap.size ≤ b) v (p3To l i)) ∧ Hid (Below w.heap.size w wr)) (fun _ s4 _ => 2 * l.length - (intOf s4).toNat)
  case atStart => exact ⟨0, _, by omega, rfl, rfl, HN1, HB1⟩
  case round =>
    clear HN1 HB1 HW1
    obtain ⟨i, v, hi, rfl, e3, HR, HB⟩ := hrel
    subst e3
    obtain ⟨L, hL⟩ : ∃ L, L = p3To l i := ⟨_, rfl⟩
    have HLN := hid (show L.length ≤ 50000 by have := p3_len l i; rw [hL]; omega)
    have HBS := hid HB.out.size
    have HTOP := hid (show 1114112 ∈ L by rw [hL]; exact p3_top l i)
    rw [← hL] at HR
    obtain ⟨LA, lc, rfl, hlc1, hlc2, hA⟩ := id HR.out
    have HA := hid hA
    clear hA
    by_cases hlt : i < 2 * l.length
    · obtain ⟨j, hj⟩ : ∃ j, j = i / 2 := ⟨_, rfl⟩
      have hjl : j < l.length := by omega
      obtain ⟨b, o, rfl, -, hb, c0, c1, hr⟩ := (H.out.below HB.out).at hjl
      have hokx := hok _ (rng_mem hjl)
      unfold okR at hokx
      obtain ⟨x1, hx1⟩ : ∃ x, x = (rng l j).1 := ⟨_, rfl⟩
      obtain ⟨x2, hx2⟩ : ∃ x, x = (rng l j).2 := ⟨_, rfl⟩
      have HRO := hid (show rOf l i = if i % 2 = 1 then x2 + 1 else x1 by unfold rOf; rw [← hj, hx1, hx2])
      rw [← hx1, ← hx2] at hokx
      rw [← hx1] at c0
      rw [← hx2] at c1
      have hq : (i : Int) / 2 = (j : Int) := by omega
      have hjli : (j : Int) < (l.length : Int) := by omega
      have hll : (l.length : Int) ≤ 10000 := by omega
      have hii : (i : Int) < 2 * (l.length : Int) := by omega
      clear hx1 hx2 hr
      by_cases hodd : i % 2 = 1
      · have hq2 : (i : Int) % 2 = 1 := by omega
        obtain ⟨y, hy⟩ : ∃ y, y = x2 + 1 := ⟨_, rfl⟩
        have hwr : IntKind.i32.wrap (x2 + 1) = y := by rw [hy]; simp [IntKind.wrap, IntKind.bits, IntKind.signed]; omega
        have HNX := hid (show p3To l (i + 1) = insB L y by show insB (p3To l i) (rOf l i) = _; rw [← hL, HRO.out, if_pos hodd, hy])
        have HL2 := hid (p3_stop HTOP.out (r := y) (by omega))
        clear hodd hj hL hy
        go_wp2_with fail
        go_loopw [6] (fun s6 wk => ∃ k : Nat, k < L.length ∧ s6 = .int .i64 k ∧ Hid (∀ j, j < k → nth L j < y) ∧ wk = wr) (fun s6 _ => L.length - (intOf s6).toNat)
        case atStart => exact ⟨0, HL2.out.1, rfl, hid (fun j hj => by omega), rfl⟩
        case round =>
          obtain ⟨k, hk, rfl, HK, hwk⟩ := hrel
          subst hwk
          obtain ⟨lb, lo, rfl, -, -, hcell⟩ := HA.out.num hk
          obtain ⟨z, hz⟩ : ∃ z, z = nth L k := ⟨_, rfl⟩
          have HZ := hid hz
          rw [← hz] at hcell
          clear hz
          have hli : (k : Int) < (L.length : Int) := by omega
          have hlln := HLN.out
          by_cases hzr : z < y
          · have HKN := hid (HL2.out.2 (k + 1) (fun j hj => by
              by_cases e : j < k
              · exact HK.out j e
              · obtain rfl : j = k := by omega
                rw [← HZ.out]; exact hzr))
            go_wp2_with fail
            go_roundw
            case rel => exact ⟨k + 1, HKN.out, by go_num, hid (fun j hj => by
              by_cases e : j < k
              · exact HK.out j e
              · obtain rfl : j = k := by omega
                rw [← HZ.out]; exact hzr), trivial⟩
            case measure => simp [intOf]; omega
          · by_cases hze : z = y
            · have HE := hid (show insB L y = L by rw [insB_at k (by omega) HK.out (fun _ => by rw [← HZ.out]; omega), if_pos ⟨hk, by rw [← HZ.out]; exact hze⟩])
              have HNXE := hid (HNX.out.trans HE.out)
              subst hze
              go_wp2_with fail
              exact ⟨⟨i + 1, _, by omega, by go_num, rfl, hid (by rw [HNXE.out]; exact HR.out), HB⟩, by simp [intOf]; omega⟩
            · have HE := hid (show insB L y = L.take k ++ [y] ++ L.drop k by rw [insB_at k (by omega) HK.out (fun _ => by rw [← HZ.out]; omega), if_neg (fun h => hze (by rw [HZ.out]; exact h.2))])
              have HNXE := hid (HNX.out.trans HE.out)
              have HTK := hid (nums_take HR.out (n := k) (by omega))
              have HDK := hid (by have h := nums_drop HR.out (n := k) (by omega); rw [Option.map_some, Addr.add_lit] at h; exact h)
              have HLK := hid (show k = (L.take k).length by rw [List.length_take]; omega)
              have HLD := hid (show L.length - k = (L.drop k).length by rw [List.length_drop])
              have HLM := hid (show k ≤ L.length ∧ L.length ≤ 100000 from ⟨by omega, by have := HLN.out; omega⟩)
              have HW0 := hid (Nat.le_refl wr.heap.size)
              have HP := hid (Bun.start (r := y) ((Below.refl wr.heap.size wr).drew) (Nat.le_refl _))
              have hkl : k ≤ L.length := by omega
              clear HTOP
              go_wp2_with fail
              refine wp_region_held_drew (S := (fun _ => True)) (by kernel_rfl) (by trivial) (fun hHeld => ?_)
              refine wpAnyH_take (i := 1) (oi := { dst := some 46, op := Op.move (Operand.tmp 3), type := _, pos := _, after := _, guard := none }) (v := ?_) rfl (by kernel_rfl) (by kernel_rfl) (by kernel_rfl) (fun _ _ _ h => h) (Or.inl ⟨by rfl, ?_⟩) (by assumption) ?_
              rotate_left
              · intro w hSw; (try dsimp only at hSw); go_simp; try (first | with_reducible rfl | (refine (if_pos ?_).trans ?_ <;> first | omega | with_reducible rfl))
              try simp only [Act.put, List.setIfInBounds_toArray, List.set_cons_zero, List.set_cons_succ]
              refine wpAnyH_take (i := 2) (oi := { dst := some 47, op := Op.move (Operand.tmp 6), type := _, pos := _, after := _, guard := none }) (v := ?_) rfl (by kernel_rfl) (by kernel_rfl) (by kernel_rfl) (fun _ _ _ h => h) (Or.inl ⟨by rfl, ?_⟩) (by assumption) ?_
              rotate_left
              · intro w hSw; (try dsimp only at hSw); go_simp; try (first | with_reducible rfl | (refine (if_pos ?_).trans ?_ <;> first | omega | with_reducible rfl))
              try simp only [Act.put, List.setIfInBounds_toArray, List.set_cons_zero, List.set_cons_succ]
              refine wpAnyH_take (i := 3) (oi := { dst := some 48, op := Op.slice 23 (Operand.tmp 46) none (some (Operand.tmp 47)) none, type := _, pos := _, after := _, guard := none }) (v := ?_) rfl (by kernel_rfl) (by kernel_rfl) (by kernel_rfl) (fun _ _ _ h => h) (Or.inl ⟨by rfl, ?_⟩) (by assumption) ?_
              rotate_left
              · intro w hSw; (try dsimp only at hSw); go_simp; try (first | with_reducible rfl | (refine (if_pos ?_).trans ?_ <;> first | omega | with_reducible rfl))
              try simp only [Act.put, List.setIfInBounds_toArray, List.set_cons_zero, List.set_cons_succ]
              refine wpAnyH_take (i := 5) (oi := { dst := some 50, op := Op.move (Operand.tmp 5), type := _, pos := _, after := _, guard := none }) (v := ?_) rfl (by kernel_rfl) (by kernel_rfl) (by kernel_rfl) (fun _ _ _ h => h) (Or.inl ⟨by rfl, ?_⟩) (by assumption) ?_
              rotate_left
              · intro w hSw; (try dsimp only at hSw); go_simp; try (first | with_reducible rfl | (refine (if_pos ?_).trans ?_ <;> first | omega | with_reducible rfl))
              try simp only [Act.put, List.setIfInBounds_toArray, List.set_cons_zero, List.set_cons_succ]
              refine wpAnyH_take (i := 8) (oi := { dst := some 53, op := Op.move (Operand.tmp 3), type := _, pos := _, after := _, guard := none }) (v := ?_) rfl (by kernel_rfl) (by kernel_rfl) (by kernel_rfl) (fun _ _ _ h => h) (Or.inl ⟨by rfl, ?_⟩) (by assumption) ?_
              rotate_left
              · intro w hSw; (try dsimp only at hSw); go_simp; try (first | with_reducible rfl | (refine (if_pos ?_).trans ?_ <;> first | omega | with_reducible rfl))
              try simp only [Act.put, List.setIfInBounds_toArray, List.set_cons_zero, List.set_cons_succ]
              refine wpAnyH_take (i := 9) (oi := { dst := some 54, op := Op.move (Operand.tmp 6), type := _, pos := _, after := _, guard := none }) (v := ?_) rfl (by kernel_rfl) (by kernel_rfl) (by kernel_rfl) (fun _ _ _ h => h) (Or.inl ⟨by rfl, ?_⟩) (by assumption) ?_
              rotate_left
              · intro w hSw; (try dsimp only at hSw); go_simp; try (first | with_reducible rfl | (refine (if_pos ?_).trans ?_ <;> first | omega | with_reducible rfl))
              try simp only [Act.put, List.setIfInBounds_toArray, List.set_cons_zero, List.set_cons_succ]
              refine wpAnyH_take (i := 10) (oi := { dst := some 55, op := Op.slice 23 (Operand.tmp 53) (some (Operand.tmp 54)) none none, type := _, pos := _, after := _, guard := none }) (v := ?_) rfl (by kernel_rfl) (by kernel_rfl) (by kernel_rfl) (fun _ _ _ h => h) (Or.inl ⟨by rfl, ?_⟩) (by assumption) ?_
              rotate_left
              · intro w hSw; (try dsimp only at hSw); go_simp; try (first | with_reducible rfl | (refine (if_pos ?_).trans ?_ <;> first | omega | with_reducible rfl))
              try simp only [Act.put, List.setIfInBounds_toArray, List.set_cons_zero, List.set_cons_succ]
              refine wpAnyH_ready (rs := [0, 6]) (by kernel_rfl) (by simp) ?_
              refine AllReadyH.cons (o := { dst := some 45, op := Op.buildSlice 23 0 #[], type := _, pos := _, after := _, guard := none }) rfl ?legA1n1 (AllReadyH.cons (o := { dst := some 51, op := Op.buildSlice 23 1 #[(0, Operand.tmp 50)], type := _, pos := _, after := _, guard := none }) rfl ?legB1n1 AllReadyH.nil)
              case' legA1n1 =>
                intro K hK
                go_simp
                have HP := hid (Bun.mk0 HP.out)
                refine hK.out _ _ (by trivial) (fun hHeld => ?_)
                clear hK K
                try simp only [Act.put, List.setIfInBounds_toArray, List.set_cons_zero, List.set_cons_succ]
                refine wpAnyH_ready (rs := [4, 6]) (by kernel_rfl) (by simp) ?_
                refine AllReadyH.cons (o := { dst := some 49, op := Op.call { callee := Callee.builtin Builtin.append, args := #[Operand.tmp 45, Operand.tmp 48], argTypes := #[23, 23] }, type := _, pos := _, after := _, guard := none }) rfl ?legA1n2 (AllReadyH.cons (o := { dst := some 51, op := Op.buildSlice 23 1 #[(0, Operand.tmp 50)], type := _, pos := _, after := _, guard := none }) rfl ?legB1n2 AllReadyH.nil)
                case' legA1n2 =>
                  intro K hK
                  rw [if_pos (by rfl)]
                  refine Bun.wp_app (.tmp 45) (.tmp 48) rfl (by first | rfl | (rw [World.size_alloc]; rfl)) HP.out rfl HLK.out HTK.out HW0.out (by have := HLM.out; simp; omega) ?_
                  intro v4 w4 hp4
                  have HP := hid hp4
                  clear hp4
                  refine hK.out _ _ (by trivial) (fun hHeld => ?_)
                  clear hK K
                  try simp only [Act.put, List.setIfInBounds_toArray, List.set_cons_zero, List.set_cons_succ]
                  refine wpAnyH_ready (rs := [6]) (by kernel_rfl) (by simp) ?_
                  refine AllReadyH.cons (o := { dst := some 51, op := Op.buildSlice 23 1 #[(0, Operand.tmp 50)], type := _, pos := _, after := _, guard := none }) rfl (fun K hK => ?_) AllReadyH.nil
                  go_simp
                  have HP := hid (Bun.mk1 HP.out)
                  refine hK.out _ _ (by trivial) (fun hHeld => ?_)
                  clear hK K
                  try simp only [Act.put, List.setIfInBounds_toArray, List.set_cons_zero, List.set_cons_succ]
                  refine wpAnyH_ready (rs := [7]) (by kernel_rfl) (by simp) ?_
                  refine AllReadyH.cons (o := { dst := some 52, op := Op.call { callee := Callee.builtin Builtin.append, args := #[Operand.tmp 49, Operand.tmp 51], argTypes := #[23, 23] }, type := _, pos := _, after := _, guard := none }) rfl (fun K hK => ?_) AllReadyH.nil
                  rw [if_pos (by rfl)]
                  refine Bun.wp_app1 (.tmp 49) (.tmp 51) rfl rfl HP.out (by first | rfl | (rw [World.size_alloc]; rfl)) (by have := HLM.out; simp; omega) ?_
                  intro v7 w7 hp7
                  have HP := hid hp7
                  clear hp7
                  refine hK.out _ _ (by trivial) (fun hHeld => ?_)
                  clear hK K
                  try simp only [Act.put, List.setIfInBounds_toArray, List.set_cons_zero, List.set_cons_succ]
                  refine wpAnyH_ready (rs := [11]) (by kernel_rfl) (by simp) ?_
                  refine AllReadyH.cons (o := { dst := some 56, op := Op.call { callee := Callee.builtin Builtin.append, args := #[Operand.tmp 52, Operand.tmp 55], argTypes := #[23, 23] }, type := _, pos := _, after := _, guard := none }) rfl (fun K hK => ?_) AllReadyH.nil
                  rw [if_pos (by rfl)]
                  refine Bun.wp_app (.tmp 52) (.tmp 55) rfl rfl HP.out rfl HLD.out HDK.out HW0.out (by have := HLM.out; simp; omega) ?_
                  intro v11 w11 hp11
                  have HP := hid hp11
                  clear hp11
                  refine hK.out _ _ (by trivial) (fun hHeld => ?_)
                  clear hK K
                  try simp only [Act.put, List.setIfInBounds_toArray, List.set_cons_zero, List.set_cons_succ]
                  refine wpAnyH_take (i := 12) (oi := { dst := some 3, op := Op.assign (Operand.tmp 56), type := _, pos := _, after := _, guard := none }) (v := ?_) rfl (by kernel_rfl) (by kernel_rfl) (by kernel_rfl) (fun _ _ _ h => h) (Or.inl ⟨by rfl, ?_⟩) (by assumption) ?_
                  rotate_left
                  · intro w hSw; (try dsimp only at hSw); go_simp; try (first | with_reducible rfl | (refine (if_pos ?_).trans ?_ <;> first | omega | with_reducible rfl))
                  try simp only [Act.put, List.setIfInBounds_toArray, List.set_cons_zero, List.set_cons_succ]
                  refine wpAnyH_done (by kernel_rfl) ?_ _
                  (go_wp2_with fail) <;> exact ⟨⟨i + 1, _, by omega, by go_num, rfl, hid (by rw [HNXE.out]; exact HP.out.nums.mono fun b h _ => Nat.le_trans HBS.out h), hid (ends_true HB.out HP.out.bel)⟩, by simp [intOf]; omega⟩
                case' legB1n2 =>
                  intro K hK
                  go_simp
                  have HP := hid (Bun.mk1 HP.out)
                  refine hK.out _ _ (by trivial) (fun hHeld => ?_)
                  clear hK K
                  try simp only [Act.put, List.setIfInBounds_toArray, List.set_cons_zero, List.set_cons_succ]
                  refine wpAnyH_ready (rs := [4]) (by kernel_rfl) (by simp) ?_
                  refine AllReadyH.cons (o := { dst := some 49, op := Op.call { callee := Callee.builtin Builtin.append, args := #[Operand.tmp 45, Operand.tmp 48], argTypes := #[23, 23] }, type := _, pos := _, after := _, guard := none }) rfl (fun K hK => ?_) AllReadyH.nil
                  rw [if_pos (by rfl)]
                  refine Bun.wp_app (.tmp 45) (.tmp 48) rfl (by first | rfl | (rw [World.size_alloc]; rfl)) HP.out rfl HLK.out HTK.out HW0.out (by have := HLM.out; simp; omega) ?_
                  intro v4 w4 hp4
                  have HP := hid hp4
                  clear hp4
                  refine hK.out _ _ (by trivial) (fun hHeld => ?_)
                  clear hK K
                  try simp only [Act.put, List.setIfInBounds_toArray, List.set_cons_zero, List.set_cons_succ]
                  refine wpAnyH_ready (rs := [7]) (by kernel_rfl) (by simp) ?_
                  refine AllReadyH.cons (o := { dst := some 52, op := Op.call { callee := Callee.builtin Builtin.append, args := #[Operand.tmp 49, Operand.tmp 51], argTypes := #[23, 23] }, type := _, pos := _, after := _, guard := none }) rfl (fun K hK => ?_) AllReadyH.nil
                  rw [if_pos (by rfl)]
                  refine Bun.wp_app1 (.tmp 49) (.tmp 51) rfl rfl HP.out (by first | rfl | (rw [World.size_alloc]; rfl)) (by have := HLM.out; simp; omega) ?_
                  intro v7 w7 hp7
                  have HP := hid hp7
                  clear hp7
                  refine hK.out _ _ (by trivial) (fun hHeld => ?_)
                  clear hK K
                  try simp only [Act.put, List.setIfInBounds_toArray, List.set_cons_zero, List.set_cons_succ]
                  refine wpAnyH_ready (rs := [11]) (by kernel_rfl) (by simp) ?_
                  refine AllReadyH.cons (o := { dst := some 56, op := Op.call { callee := Callee.builtin Builtin.append, args := #[Operand.tmp 52, Operand.tmp 55], argTypes := #[23, 23] }, type := _, pos := _, after := _, guard := none }) rfl (fun K hK => ?_) AllReadyH.nil
                  rw [if_pos (by rfl)]
                  refine Bun.wp_app (.tmp 52) (.tmp 55) rfl rfl HP.out rfl HLD.out HDK.out HW0.out (by have := HLM.out; simp; omega) ?_
                  intro v11 w11 hp11
                  have HP := hid hp11
                  clear hp11
                  refine hK.out _ _ (by trivial) (fun hHeld => ?_)
                  clear hK K
                  try simp only [Act.put, List.setIfInBounds_toArray, List.set_cons_zero, List.set_cons_succ]
                  refine wpAnyH_take (i := 12) (oi := { dst := some 3, op := Op.assign (Operand.tmp 56), type := _, pos := _, after := _, guard := none }) (v := ?_) rfl (by kernel_rfl) (by kernel_rfl) (by kernel_rfl) (fun _ _ _ h => h) (Or.inl ⟨by rfl, ?_⟩) (by assumption) ?_
                  rotate_left
                  · intro w hSw; (try dsimp only at hSw); go_simp; try (first | with_reducible rfl | (refine (if_pos ?_).trans ?_ <;> first | omega | with_reducible rfl))
                  try simp only [Act.put, List.setIfInBounds_toArray, List.set_cons_zero, List.set_cons_succ]
                  refine wpAnyH_done (by kernel_rfl) ?_ _
                  (go_wp2_with fail) <;> exact ⟨⟨i + 1, _, by omega, by go_num, rfl, hid (by rw [HNXE.out]; exact HP.out.nums.mono fun b h _ => Nat.le_trans HBS.out h), hid (ends_true HB.out HP.out.bel)⟩, by simp [intOf]; omega⟩
              case' legB1n1 =>
                intro K hK
                go_simp
                have HP := hid (Bun.mk1 HP.out)
                refine hK.out _ _ (by trivial) (fun hHeld => ?_)
                clear hK K
                try simp only [Act.put, List.setIfInBounds_toArray, List.set_cons_zero, List.set_cons_succ]
                refine wpAnyH_ready (rs := [0]) (by kernel_rfl) (by simp) ?_
                refine AllReadyH.cons (o := { dst := some 45, op := Op.buildSlice 23 0 #[], type := _, pos := _, after := _, guard := none }) rfl (fun K hK => ?_) AllReadyH.nil
                go_simp
                have HP := hid (Bun.mk0 HP.out)
                refine hK.out _ _ (by trivial) (fun hHeld => ?_)
                clear hK K
                try simp only [Act.put, List.setIfInBounds_toArray, List.set_cons_zero, List.set_cons_succ]
                refine wpAnyH_ready (rs := [4]) (by kernel_rfl) (by simp) ?_
                refine AllReadyH.cons (o := { dst := some 49, op := Op.call { callee := Callee.builtin Builtin.append, args := #[Operand.tmp 45, Operand.tmp 48], argTypes := #[23, 23] }, type := _, pos := _, after := _, guard := none }) rfl (fun K hK => ?_) AllReadyH.nil
                rw [if_pos (by rfl)]
                refine Bun.wp_app (.tmp 45) (.tmp 48) rfl (by first | rfl | (rw [World.size_alloc]; rfl)) HP.out rfl HLK.out HTK.out HW0.out (by have := HLM.out; simp; omega) ?_
                intro v4 w4 hp4
                have HP := hid hp4
                clear hp4
                refine hK.out _ _ (by trivial) (fun hHeld => ?_)
                clear hK K
                try simp only [Act.put, List.setIfInBounds_toArray, List.set_cons_zero, List.set_cons_succ]
                refine wpAnyH_ready (rs := [7]) (by kernel_rfl) (by simp) ?_
                refine AllReadyH.cons (o := { dst := some 52, op := Op.call { callee := Callee.builtin Builtin.append, args := #[Operand.tmp 49, Operand.tmp 51], argTypes := #[23, 23] }, type := _, pos := _, after := _, guard := none }) rfl (fun K hK => ?_) AllReadyH.nil
                rw [if_pos (by rfl)]
                refine Bun.wp_app1 (.tmp 49) (.tmp 51) rfl rfl HP.out (by first | rfl | (rw [World.size_alloc]; rfl)) (by have := HLM.out; simp; omega) ?_
                intro v7 w7 hp7
                have HP := hid hp7
                clear hp7
                refine hK.out _ _ (by trivial) (fun hHeld => ?_)
                clear hK K
                try simp only [Act.put, List.setIfInBounds_toArray, List.set_cons_zero, List.set_cons_succ]
                refine wpAnyH_ready (rs := [11]) (by kernel_rfl) (by simp) ?_
                refine AllReadyH.cons (o := { dst := some 56, op := Op.call { callee := Callee.builtin Builtin.append, args := #[Operand.tmp 52, Operand.tmp 55], argTypes := #[23, 23] }, type := _, pos := _, after := _, guard := none }) rfl (fun K hK => ?_) AllReadyH.nil
                rw [if_pos (by rfl)]
                refine Bun.wp_app (.tmp 52) (.tmp 55) rfl rfl HP.out rfl HLD.out HDK.out HW0.out (by have := HLM.out; simp; omega) ?_
                intro v11 w11 hp11
                have HP := hid hp11
                clear hp11
                refine hK.out _ _ (by trivial) (fun hHeld => ?_)
                clear hK K
                try simp only [Act.put, List.setIfInBounds_toArray, List.set_cons_zero, List.set_cons_succ]
                refine wpAnyH_take (i := 12) (oi := { dst := some 3, op := Op.assign (Operand.tmp 56), type := _, pos := _, after := _, guard := none }) (v := ?_) rfl (by kernel_rfl) (by kernel_rfl) (by kernel_rfl) (fun _ _ _ h => h) (Or.inl ⟨by rfl, ?_⟩) (by assumption) ?_
                rotate_left
                · intro w hSw; (try dsimp only at hSw); go_simp; try (first | with_reducible rfl | (refine (if_pos ?_).trans ?_ <;> first | omega | with_reducible rfl))
                try simp only [Act.put, List.setIfInBounds_toArray, List.set_cons_zero, List.set_cons_succ]
                refine wpAnyH_done (by kernel_rfl) ?_ _
                (go_wp2_with fail) <;> exact ⟨⟨i + 1, _, by omega, by go_num, rfl, hid (by rw [HNXE.out]; exact HP.out.nums.mono fun b h _ => Nat.le_trans HBS.out h), hid (ends_true HB.out HP.out.bel)⟩, by simp [intOf]; omega⟩
      · have hq2 : (i : Int) % 2 = 0 := by omega
        have HNX := hid (show p3To l (i + 1) = insB L x1 by show insB (p3To l i) (rOf l i) = _; rw [← hL, HRO.out, if_neg hodd])
        have HL2 := hid (p3_stop HTOP.out (r := x1) (by omega))
        clear hodd hj hL
        go_wp2_with fail
        go_loopw [6] (fun s6 wk => ∃ k : Nat, k < L.length ∧ s6 = .int .i64 k ∧ Hid (∀ j, j < k → nth L j < x1) ∧ wk = wr) (fun s6 _ => L.length - (intOf s6).toNat)
        case atStart => exact ⟨0, HL2.out.1, rfl, hid (fun j hj => by omega), rfl⟩
        case round =>
          obtain ⟨k, hk, rfl, HK, hwk⟩ := hrel
          subst hwk
          obtain ⟨lb, lo, rfl, -, -, hcell⟩ := HA.out.num hk
          obtain ⟨z, hz⟩ : ∃ z, z = nth L k := ⟨_, rfl⟩
          have HZ := hid hz
          rw [← hz] at hcell
          clear hz
          have hli : (k : Int) < (L.length : Int) := by omega
          have hlln := HLN.out
          by_cases hzr : z < x1
          · have HKN := hid (HL2.out.2 (k + 1) (fun j hj => by
              by_cases e : j < k
              · exact HK.out j e
              · obtain rfl : j = k := by omega
                rw [← HZ.out]; exact hzr))
            go_wp2_with fail
            go_roundw
            case rel => exact ⟨k + 1, HKN.out, by go_num, hid (fun j hj => by
              by_cases e : j < k
              · exact HK.out j e
              · obtain rfl : j = k := by omega
                rw [← HZ.out]; exact hzr), trivial⟩
            case measure => simp [intOf]; omega
          · by_cases hze : z = x1
            · have HE := hid (show insB L x1 = L by rw [insB_at k (by omega) HK.out (fun _ => by rw [← HZ.out]; omega), if_pos ⟨hk, by rw [← HZ.out]; exact hze⟩])
              have HNXE := hid (HNX.out.trans HE.out)
              subst hze
              go_wp2_with fail
              exact ⟨⟨i + 1, _, by omega, by go_num, rfl, hid (by rw [HNXE.out]; exact HR.out), HB⟩, by simp [intOf]; omega⟩
            · have HE := hid (show insB L x1 = L.take k ++ [x1] ++ L.drop k by rw [insB_at k (by omega) HK.out (fun _ => by rw [← HZ.out]; omega), if_neg (fun h => hze (by rw [HZ.out]; exact h.2))])
              have HNXE := hid (HNX.out.trans HE.out)
              have HTK := hid (nums_take HR.out (n := k) (by omega))
              have HDK := hid (by have h := nums_drop HR.out (n := k) (by omega); rw [Option.map_some, Addr.add_lit] at h; exact h)
              have HLK := hid (show k = (L.take k).length by rw [List.length_take]; omega)
              have HLD := hid (show L.length - k = (L.drop k).length by rw [List.length_drop])
              have HLM := hid (show k ≤ L.length ∧ L.length ≤ 100000 from ⟨by omega, by have := HLN.out; omega⟩)
              have HW0 := hid (Nat.le_refl wr.heap.size)
              have HP := hid (Bun.start (r := x1) ((Below.refl wr.heap.size wr).drew) (Nat.le_refl _))
              have hkl : k ≤ L.length := by omega
              clear HTOP
              go_wp2_with fail
              refine wp_region_held_drew (S := (fun _ => True)) (by kernel_rfl) (by trivial) (fun hHeld => ?_)
              refine wpAnyH_take (i := 1) (oi := { dst := some 46, op := Op.move (Operand.tmp 3), type := _, pos := _, after := _, guard := none }) (v := ?_) rfl (by kernel_rfl) (by kernel_rfl) (by kernel_rfl) (fun _ _ _ h => h) (Or.inl ⟨by rfl, ?_⟩) (by assumption) ?_
              rotate_left
              · intro w hSw; (try dsimp only at hSw); go_simp; try (first | with_reducible rfl | (refine (if_pos ?_).trans ?_ <;> first | omega | with_reducible rfl))
              try simp only [Act.put, List.setIfInBounds_toArray, List.set_cons_zero, List.set_cons_succ]
              refine wpAnyH_take (i := 2) (oi := { dst := some 47, op := Op.move (Operand.tmp 6), type := _, pos := _, after := _, guard := none }) (v := ?_) rfl (by kernel_rfl) (by kernel_rfl) (by kernel_rfl) (fun _ _ _ h => h) (Or.inl ⟨by rfl, ?_⟩) (by assumption) ?_
              rotate_left
              · intro w hSw; (try dsimp only at hSw); go_simp; try (first | with_reducible rfl | (refine (if_pos ?_).trans ?_ <;> first | omega | with_reducible rfl))
              try simp only [Act.put, List.setIfInBounds_toArray, List.set_cons_zero, List.set_cons_succ]
              refine wpAnyH_take (i := 3) (oi := { dst := some 48, op := Op.slice 23 (Operand.tmp 46) none (some (Operand.tmp 47)) none, type := _, pos := _, after := _, guard := none }) (v := ?_) rfl (by kernel_rfl) (by kernel_rfl) (by kernel_rfl) (fun _ _ _ h => h) (Or.inl ⟨by rfl, ?_⟩) (by assumption) ?_
              rotate_left
              · intro w hSw; (try dsimp only at hSw); go_simp; try (first | with_reducible rfl | (refine (if_pos ?_).trans ?_ <;> first | omega | with_reducible rfl))
              try simp only [Act.put, List.setIfInBounds_toArray, List.set_cons_zero, List.set_cons_succ]
              refine wpAnyH_take (i := 5) (oi := { dst := some 50, op := Op.move (Operand.tmp 5), type := _, pos := _, after := _, guard := none }) (v := ?_) rfl (by kernel_rfl) (by kernel_rfl) (by kernel_rfl) (fun _ _ _ h => h) (Or.inl ⟨by rfl, ?_⟩) (by assumption) ?_
              rotate_left
              · intro w hSw; (try dsimp only at hSw); go_simp; try (first | with_reducible rfl | (refine (if_pos ?_).trans ?_ <;> first | omega | with_reducible rfl))
              try simp only [Act.put, List.setIfInBounds_toArray, List.set_cons_zero, List.set_cons_succ]
              refine wpAnyH_take (i := 8) (oi := { dst := some 53, op := Op.move (Operand.tmp 3), type := _, pos := _, after := _, guard := none }) (v := ?_) rfl (by kernel_rfl) (by kernel_rfl) (by kernel_rfl) (fun _ _ _ h => h) (Or.inl ⟨by rfl, ?_⟩) (by assumption) ?_
              rotate_left
              · intro w hSw; (try dsimp only at hSw); go_simp; try (first | with_reducible rfl | (refine (if_pos ?_).trans ?_ <;> first | omega | with_reducible rfl))
              try simp only [Act.put, List.setIfInBounds_toArray, List.set_cons_zero, List.set_cons_succ]
              refine wpAnyH_take (i := 9) (oi := { dst := some 54, op := Op.move (Operand.tmp 6), type := _, pos := _, after := _, guard := none }) (v := ?_) rfl (by kernel_rfl) (by kernel_rfl) (by kernel_rfl) (fun _ _ _ h => h) (Or.inl ⟨by rfl, ?_⟩) (by assumption) ?_
              rotate_left
              · intro w hSw; (try dsimp only at hSw); go_simp; try (first | with_reducible rfl | (refine (if_pos ?_).trans ?_ <;> first | omega | with_reducible rfl))
              try simp only [Act.put, List.setIfInBounds_toArray, List.set_cons_zero, List.set_cons_succ]
              refine wpAnyH_take (i := 10) (oi := { dst := some 55, op := Op.slice 23 (Operand.tmp 53) (some (Operand.tmp 54)) none none, type := _, pos := _, after := _, guard := none }) (v := ?_) rfl (by kernel_rfl) (by kernel_rfl) (by kernel_rfl) (fun _ _ _ h => h) (Or.inl ⟨by rfl, ?_⟩) (by assumption) ?_
              rotate_left
              · intro w hSw; (try dsimp only at hSw); go_simp; try (first | with_reducible rfl | (refine (if_pos ?_).trans ?_ <;> first | omega | with_reducible rfl))
              try simp only [Act.put, List.setIfInBounds_toArray, List.set_cons_zero, List.set_cons_succ]
              refine wpAnyH_ready (rs := [0, 6]) (by kernel_rfl) (by simp) ?_
              refine AllReadyH.cons (o := { dst := some 45, op := Op.buildSlice 23 0 #[], type := _, pos := _, after := _, guard := none }) rfl ?legA2n1 (AllReadyH.cons (o := { dst := some 51, op := Op.buildSlice 23 1 #[(0, Operand.tmp 50)], type := _, pos := _, after := _, guard := none }) rfl ?legB2n1 AllReadyH.nil)
              case' legA2n1 =>
                intro K hK
                go_simp
                have HP := hid (Bun.mk0 HP.out)
                refine hK.out _ _ (by trivial) (fun hHeld => ?_)
                clear hK K
                try simp only [Act.put, List.setIfInBounds_toArray, List.set_cons_zero, List.set_cons_succ]
                refine wpAnyH_ready (rs := [4, 6]) (by kernel_rfl) (by simp) ?_
                refine AllReadyH.cons (o := { dst := some 49, op := Op.call { callee := Callee.builtin Builtin.append, args := #[Operand.tmp 45, Operand.tmp 48], argTypes := #[23, 23] }, type := _, pos := _, after := _, guard := none }) rfl ?legA2n2 (AllReadyH.cons (o := { dst := some 51, op := Op.buildSlice 23 1 #[(0, Operand.tmp 50)], type := _, pos := _, after := _, guard := none }) rfl ?legB2n2 AllReadyH.nil)
                case' legA2n2 =>
                  intro K hK
                  rw [if_pos (by rfl)]
                  refine Bun.wp_app (.tmp 45) (.tmp 48) rfl (by first | rfl | (rw [World.size_alloc]; rfl)) HP.out rfl HLK.out HTK.out HW0.out (by have := HLM.out; simp; omega) ?_
                  intro v4 w4 hp4
                  have HP := hid hp4
                  clear hp4
                  refine hK.out _ _ (by trivial) (fun hHeld => ?_)
                  clear hK K
                  try simp only [Act.put, List.setIfInBounds_toArray, List.set_cons_zero, List.set_cons_succ]
                  refine wpAnyH_ready (rs := [6]) (by kernel_rfl) (by simp) ?_
                  refine AllReadyH.cons (o := { dst := some 51, op := Op.buildSlice 23 1 #[(0, Operand.tmp 50)], type := _, pos := _, after := _, guard := none }) rfl (fun K hK => ?_) AllReadyH.nil
                  go_simp
                  have HP := hid (Bun.mk1 HP.out)
                  refine hK.out _ _ (by trivial) (fun hHeld => ?_)
                  clear hK K
                  try simp only [Act.put, List.setIfInBounds_toArray, List.set_cons_zero, List.set_cons_succ]
                  refine wpAnyH_ready (rs := [7]) (by kernel_rfl) (by simp) ?_
                  refine AllReadyH.cons (o := { dst := some 52, op := Op.call { callee := Callee.builtin Builtin.append, args := #[Operand.tmp 49, Operand.tmp 51], argTypes := #[23, 23] }, type := _, pos := _, after := _, guard := none }) rfl (fun K hK => ?_) AllReadyH.nil
                  rw [if_pos (by rfl)]
                  refine Bun.wp_app1 (.tmp 49) (.tmp 51) rfl rfl HP.out (by first | rfl | (rw [World.size_alloc]; rfl)) (by have := HLM.out; simp; omega) ?_
                  intro v7 w7 hp7
                  have HP := hid hp7
                  clear hp7
                  refine hK.out _ _ (by trivial) (fun hHeld => ?_)
                  clear hK K
                  try simp only [Act.put, List.setIfInBounds_toArray, List.set_cons_zero, List.set_cons_succ]
                  refine wpAnyH_ready (rs := [11]) (by kernel_rfl) (by simp) ?_
                  refine AllReadyH.cons (o := { dst := some 56, op := Op.call { callee := Callee.builtin Builtin.append, args := #[Operand.tmp 52, Operand.tmp 55], argTypes := #[23, 23] }, type := _, pos := _, after := _, guard := none }) rfl (fun K hK => ?_) AllReadyH.nil
                  rw [if_pos (by rfl)]
                  refine Bun.wp_app (.tmp 52) (.tmp 55) rfl rfl HP.out rfl HLD.out HDK.out HW0.out (by have := HLM.out; simp; omega) ?_
                  intro v11 w11 hp11
                  have HP := hid hp11
                  clear hp11
                  refine hK.out _ _ (by trivial) (fun hHeld => ?_)
                  clear hK K
                  try simp only [Act.put, List.setIfInBounds_toArray, List.set_cons_zero, List.set_cons_succ]
                  refine wpAnyH_take (i := 12) (oi := { dst := some 3, op := Op.assign (Operand.tmp 56), type := _, pos := _, after := _, guard := none }) (v := ?_) rfl (by kernel_rfl) (by kernel_rfl) (by kernel_rfl) (fun _ _ _ h => h) (Or.inl ⟨by rfl, ?_⟩) (by assumption) ?_
                  rotate_left
                  · intro w hSw; (try dsimp only at hSw); go_simp; try (first | with_reducible rfl | (refine (if_pos ?_).trans ?_ <;> first | omega | with_reducible rfl))
                  try simp only [Act.put, List.setIfInBounds_toArray, List.set_cons_zero, List.set_cons_succ]
                  refine wpAnyH_done (by kernel_rfl) ?_ _
                  (go_wp2_with fail) <;> exact ⟨⟨i + 1, _, by omega, by go_num, rfl, hid (by rw [HNXE.out]; exact HP.out.nums.mono fun b h _ => Nat.le_trans HBS.out h), hid (ends_true HB.out HP.out.bel)⟩, by simp [intOf]; omega⟩
                case' legB2n2 =>
                  intro K hK
                  go_simp
                  have HP := hid (Bun.mk1 HP.out)
                  refine hK.out _ _ (by trivial) (fun hHeld => ?_)
                  clear hK K
                  try simp only [Act.put, List.setIfInBounds_toArray, List.set_cons_zero, List.set_cons_succ]
                  refine wpAnyH_ready (rs := [4]) (by kernel_rfl) (by simp) ?_
                  refine AllReadyH.cons (o := { dst := some 49, op := Op.call { callee := Callee.builtin Builtin.append, args := #[Operand.tmp 45, Operand.tmp 48], argTypes := #[23, 23] }, type := _, pos := _, after := _, guard := none }) rfl (fun K hK => ?_) AllReadyH.nil
                  rw [if_pos (by rfl)]
                  refine Bun.wp_app (.tmp 45) (.tmp 48) rfl (by first | rfl | (rw [World.size_alloc]; rfl)) HP.out rfl HLK.out HTK.out HW0.out (by have := HLM.out; simp; omega) ?_
                  intro v4 w4 hp4
                  have HP := hid hp4
                  clear hp4
                  refine hK.out _ _ (by trivial) (fun hHeld => ?_)
                  clear hK K
                  try simp only [Act.put, List.setIfInBounds_toArray, List.set_cons_zero, List.set_cons_succ]
                  refine wpAnyH_ready (rs := [7]) (by kernel_rfl) (by simp) ?_
                  refine AllReadyH.cons (o := { dst := some 52, op := Op.call { callee := Callee.builtin Builtin.append, args := #[Operand.tmp 49, Operand.tmp 51], argTypes := #[23, 23] }, type := _, pos := _, after := _, guard := none }) rfl (fun K hK => ?_) AllReadyH.nil
                  rw [if_pos (by rfl)]
                  refine Bun.wp_app1 (.tmp 49) (.tmp 51) rfl rfl HP.out (by first | rfl | (rw [World.size_alloc]; rfl)) (by have := HLM.out; simp; omega) ?_
                  intro v7 w7 hp7
                  have HP := hid hp7
                  clear hp7
                  refine hK.out _ _ (by trivial) (fun hHeld => ?_)
                  clear hK K
                  try simp only [Act.put, List.setIfInBounds_toArray, List.set_cons_zero, List.set_cons_succ]
                  refine wpAnyH_ready (rs := [11]) (by kernel_rfl) (by simp) ?_
                  refine AllReadyH.cons (o := { dst := some 56, op := Op.call { callee := Callee.builtin Builtin.append, args := #[Operand.tmp 52, Operand.tmp 55], argTypes := #[23, 23] }, type := _, pos := _, after := _, guard := none }) rfl (fun K hK => ?_) AllReadyH.nil
                  rw [if_pos (by rfl)]
                  refine Bun.wp_app (.tmp 52) (.tmp 55) rfl rfl HP.out rfl HLD.out HDK.out HW0.out (by have := HLM.out; simp; omega) ?_
                  intro v11 w11 hp11
                  have HP := hid hp11
                  clear hp11
                  refine hK.out _ _ (by trivial) (fun hHeld => ?_)
                  clear hK K
                  try simp only [Act.put, List.setIfInBounds_toArray, List.set_cons_zero, List.set_cons_succ]
                  refine wpAnyH_take (i := 12) (oi := { dst := some 3, op := Op.assign (Operand.tmp 56), type := _, pos := _, after := _, guard := none }) (v := ?_) rfl (by kernel_rfl) (by kernel_rfl) (by kernel_rfl) (fun _ _ _ h => h) (Or.inl ⟨by rfl, ?_⟩) (by assumption) ?_
                  rotate_left
                  · intro w hSw; (try dsimp only at hSw); go_simp; try (first | with_reducible rfl | (refine (if_pos ?_).trans ?_ <;> first | omega | with_reducible rfl))
                  try simp only [Act.put, List.setIfInBounds_toArray, List.set_cons_zero, List.set_cons_succ]
                  refine wpAnyH_done (by kernel_rfl) ?_ _
                  (go_wp2_with fail) <;> exact ⟨⟨i + 1, _, by omega, by go_num, rfl, hid (by rw [HNXE.out]; exact HP.out.nums.mono fun b h _ => Nat.le_trans HBS.out h), hid (ends_true HB.out HP.out.bel)⟩, by simp [intOf]; omega⟩
              case' legB2n1 =>
                intro K hK
                go_simp
                have HP := hid (Bun.mk1 HP.out)
                refine hK.out _ _ (by trivial) (fun hHeld => ?_)
                clear hK K
                try simp only [Act.put, List.setIfInBounds_toArray, List.set_cons_zero, List.set_cons_succ]
                refine wpAnyH_ready (rs := [0]) (by kernel_rfl) (by simp) ?_
                refine AllReadyH.cons (o := { dst := some 45, op := Op.buildSlice 23 0 #[], type := _, pos := _, after := _, guard := none }) rfl (fun K hK => ?_) AllReadyH.nil
                go_simp
                have HP := hid (Bun.mk0 HP.out)
                refine hK.out _ _ (by trivial) (fun hHeld => ?_)
                clear hK K
                try simp only [Act.put, List.setIfInBounds_toArray, List.set_cons_zero, List.set_cons_succ]
                refine wpAnyH_ready (rs := [4]) (by kernel_rfl) (by simp) ?_
                refine AllReadyH.cons (o := { dst := some 49, op := Op.call { callee := Callee.builtin Builtin.append, args := #[Operand.tmp 45, Operand.tmp 48], argTypes := #[23, 23] }, type := _, pos := _, after := _, guard := none }) rfl (fun K hK => ?_) AllReadyH.nil
                rw [if_pos (by rfl)]
                refine Bun.wp_app (.tmp 45) (.tmp 48) rfl (by first | rfl | (rw [World.size_alloc]; rfl)) HP.out rfl HLK.out HTK.out HW0.out (by have := HLM.out; simp; omega) ?_
                intro v4 w4 hp4
                have HP := hid hp4
                clear hp4
                refine hK.out _ _ (by trivial) (fun hHeld => ?_)
                clear hK K
                try simp only [Act.put, List.setIfInBounds_toArray, List.set_cons_zero, List.set_cons_succ]
                refine wpAnyH_ready (rs := [7]) (by kernel_rfl) (by simp) ?_
                refine AllReadyH.cons (o := { dst := some 52, op := Op.call { callee := Callee.builtin Builtin.append, args := #[Operand.tmp 49, Operand.tmp 51], argTypes := #[23, 23] }, type := _, pos := _, after := _, guard := none }) rfl (fun K hK => ?_) AllReadyH.nil
                rw [if_pos (by rfl)]
                refine Bun.wp_app1 (.tmp 49) (.tmp 51) rfl rfl HP.out (by first | rfl | (rw [World.size_alloc]; rfl)) (by have := HLM.out; simp; omega) ?_
                intro v7 w7 hp7
                have HP := hid hp7
                clear hp7
                refine hK.out _ _ (by trivial) (fun hHeld => ?_)
                clear hK K
                try simp only [Act.put, List.setIfInBounds_toArray, List.set_cons_zero, List.set_cons_succ]
                refine wpAnyH_ready (rs := [11]) (by kernel_rfl) (by simp) ?_
                refine AllReadyH.cons (o := { dst := some 56, op := Op.call { callee := Callee.builtin Builtin.append, args := #[Operand.tmp 52, Operand.tmp 55], argTypes := #[23, 23] }, type := _, pos := _, after := _, guard := none }) rfl (fun K hK => ?_) AllReadyH.nil
                rw [if_pos (by rfl)]
                refine Bun.wp_app (.tmp 52) (.tmp 55) rfl rfl HP.out rfl HLD.out HDK.out HW0.out (by have := HLM.out; simp; omega) ?_
                intro v11 w11 hp11
                have HP := hid hp11
                clear hp11
                refine hK.out _ _ (by trivial) (fun hHeld => ?_)
                clear hK K
                try simp only [Act.put, List.setIfInBounds_toArray, List.set_cons_zero, List.set_cons_succ]
                refine wpAnyH_take (i := 12) (oi := { dst := some 3, op := Op.assign (Operand.tmp 56), type := _, pos := _, after := _, guard := none }) (v := ?_) rfl (by kernel_rfl) (by kernel_rfl) (by kernel_rfl) (fun _ _ _ h => h) (Or.inl ⟨by rfl, ?_⟩) (by assumption) ?_
                rotate_left
                · intro w hSw; (try dsimp only at hSw); go_simp; try (first | with_reducible rfl | (refine (if_pos ?_).trans ?_ <;> first | omega | with_reducible rfl))
                try simp only [Act.put, List.setIfInBounds_toArray, List.set_cons_zero, List.set_cons_succ]
                refine wpAnyH_done (by kernel_rfl) ?_ _
                (go_wp2_with fail) <;> exact ⟨⟨i + 1, _, by omega, by go_num, rfl, hid (by rw [HNXE.out]; exact HP.out.nums.mono fun b h _ => Nat.le_trans HBS.out h), hid (ends_true HB.out HP.out.bel)⟩, by simp [intOf]; omega⟩
    · obtain rfl : i = 2 * l.length := by omega
      have HPT := hid (show pts3 l = L by rw [hL, p3_is l l.length (Nat.le_refl _), List.take_length]; rfl)
      have hll : (l.length : Int) ≤ 10000 := by omega
      clear hL
      go_wp2_with fail
      go_ret
      exact ⟨_, rfl, by rw [HPT.out]; exact HR.out, HB.out⟩
end Go.Proofs.Ytehchnagjdmdgaa
