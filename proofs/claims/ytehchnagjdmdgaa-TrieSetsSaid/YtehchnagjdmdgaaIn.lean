/- A number put into rising ones (the document's). Conditions: numbers in memory. -/
import Derived.Test.YtehchnagjdmdgaaBu
namespace Go.Proofs.Ytehchnagjdmdgaa
open Go.RowKit
set_option linter.unusedSimpArgs false
set_option maxRecDepth 100000 in
set_option maxHeartbeats 2000000 in
theorem insert_any (S : Nat → Prop) (v : Value) (l : List Int) (r : Int) (w : World) (h : IsNums .i32 w S v l) (hl : l.length ≤ 100000) :
    Calls Try.prog 58 #[v, .int .i32 r] w fun e w' => ∃ v', e = .returned v' ∧ IsNums .i32 w' (fun b => S b ∨ w.heap.size ≤ b) v' (insB l r) ∧ Below w.heap.size w w' := by
  have H := hid h
  obtain ⟨A, c, rfl, hc1, hc2, hA⟩ := h
  have HA := hid hA
  clear hA
  go_enter Try.func58, Try.ntmps58
  go_wp2_with fail
  go_loopw [5] (fun s5 wr => ∃ k : Nat, k ≤ l.length ∧ s5 = .int .i64 k ∧ Hid (∀ j, j < k → nth l j < r) ∧ wr = w) (fun s5 _ => l.length - (intOf s5).toNat)
  case atStart => exact ⟨0, by omega, rfl, hid (fun j hj => by omega), rfl⟩
  case round =>
    obtain ⟨k, hk, rfl, HK, rfl⟩ := hrel
    by_cases hlt : k < l.length
    · obtain ⟨b, o, rfl, -, hbs, hcell⟩ := HA.out.num hlt
      obtain ⟨z, hz⟩ : ∃ z, z = nth l k := ⟨_, rfl⟩
      have HZ := hid hz
      rw [← hz] at hcell
      clear hz
      by_cases hzr : z < r
      · go_wp2_with fail
        go_roundw
        case rel => exact ⟨k + 1, by omega, by go_num, hid (fun j hj => by
          by_cases e : j < k
          · exact HK.out j e
          · obtain rfl : j = k := by omega
            rw [← HZ.out]; exact hzr), trivial⟩
        case measure => simp [intOf]; omega
      · by_cases hze : z = r
        · have HE := hid (show insB l r = l by rw [insB_at k hk HK.out (fun _ => by rw [← HZ.out]; omega), if_pos ⟨hlt, by rw [← HZ.out]; exact hze⟩])
          subst hze
          go_wp2_with fail
          go_ret
          exact ⟨_, rfl, by rw [HE.out]; exact H.out.mono fun b h _ => .inl h, Below.refl _ _⟩
        · have HE := hid (show insB l r = l.take k ++ [r] ++ l.drop k by rw [insB_at k hk HK.out (fun _ => by rw [← HZ.out]; omega), if_neg (fun h => hze (by rw [HZ.out]; exact h.2))])
          have HTK := hid (nums_take H.out hk)
          have HDK := hid (by have h := nums_drop H.out hk; rw [Option.map_some, Addr.add_lit] at h; exact h)
          have HLK := hid (show k = (l.take k).length by rw [List.length_take]; omega)
          have HLD := hid (show l.length - k = (l.drop k).length by rw [List.length_drop])
          have HLN := hid (show k ≤ l.length ∧ l.length ≤ 100000 from ⟨hk, hl⟩)
          have HW0 := hid (Nat.le_refl wr.heap.size)
          have HP := hid (Bun.start (r := r) ((Below.refl wr.heap.size wr).drew) (Nat.le_refl _))
          go_wp2_with fail
          refine wp_region_held_drew (S := (fun _ => True)) (by kernel_rfl) (by trivial) (fun hHeld => ?_)
          refine wpAnyH_take (i := 1) (oi := { dst := some 34, op := Op.move (Operand.tmp 0), type := _, pos := _, after := _, guard := none }) (v := ?_) rfl (by kernel_rfl) (by kernel_rfl) (by kernel_rfl) (fun _ _ _ h => h) (Or.inl ⟨by rfl, ?_⟩) (by assumption) ?_
          rotate_left
          · intro w hSw; (try dsimp only at hSw); go_simp; try (first | with_reducible rfl | (refine (if_pos ?_).trans ?_ <;> first | omega | with_reducible rfl))
          try simp only [Act.put, List.setIfInBounds_toArray, List.set_cons_zero, List.set_cons_succ]
          refine wpAnyH_take (i := 2) (oi := { dst := some 35, op := Op.move (Operand.tmp 5), type := _, pos := _, after := _, guard := none }) (v := ?_) rfl (by kernel_rfl) (by kernel_rfl) (by kernel_rfl) (fun _ _ _ h => h) (Or.inl ⟨by rfl, ?_⟩) (by assumption) ?_
          rotate_left
          · intro w hSw; (try dsimp only at hSw); go_simp; try (first | with_reducible rfl | (refine (if_pos ?_).trans ?_ <;> first | omega | with_reducible rfl))
          try simp only [Act.put, List.setIfInBounds_toArray, List.set_cons_zero, List.set_cons_succ]
          refine wpAnyH_take (i := 3) (oi := { dst := some 36, op := Op.slice 23 (Operand.tmp 34) none (some (Operand.tmp 35)) none, type := _, pos := _, after := _, guard := none }) (v := ?_) rfl (by kernel_rfl) (by kernel_rfl) (by kernel_rfl) (fun _ _ _ h => h) (Or.inl ⟨by rfl, ?_⟩) (by assumption) ?_
          rotate_left
          · intro w hSw; (try dsimp only at hSw); go_simp; try (first | with_reducible rfl | (refine (if_pos ?_).trans ?_ <;> first | omega | with_reducible rfl))
          try simp only [Act.put, List.setIfInBounds_toArray, List.set_cons_zero, List.set_cons_succ]
          refine wpAnyH_take (i := 5) (oi := { dst := some 38, op := Op.move (Operand.tmp 1), type := _, pos := _, after := _, guard := none }) (v := ?_) rfl (by kernel_rfl) (by kernel_rfl) (by kernel_rfl) (fun _ _ _ h => h) (Or.inl ⟨by rfl, ?_⟩) (by assumption) ?_
          rotate_left
          · intro w hSw; (try dsimp only at hSw); go_simp; try (first | with_reducible rfl | (refine (if_pos ?_).trans ?_ <;> first | omega | with_reducible rfl))
          try simp only [Act.put, List.setIfInBounds_toArray, List.set_cons_zero, List.set_cons_succ]
          refine wpAnyH_take (i := 8) (oi := { dst := some 41, op := Op.move (Operand.tmp 0), type := _, pos := _, after := _, guard := none }) (v := ?_) rfl (by kernel_rfl) (by kernel_rfl) (by kernel_rfl) (fun _ _ _ h => h) (Or.inl ⟨by rfl, ?_⟩) (by assumption) ?_
          rotate_left
          · intro w hSw; (try dsimp only at hSw); go_simp; try (first | with_reducible rfl | (refine (if_pos ?_).trans ?_ <;> first | omega | with_reducible rfl))
          try simp only [Act.put, List.setIfInBounds_toArray, List.set_cons_zero, List.set_cons_succ]
          refine wpAnyH_take (i := 9) (oi := { dst := some 42, op := Op.move (Operand.tmp 5), type := _, pos := _, after := _, guard := none }) (v := ?_) rfl (by kernel_rfl) (by kernel_rfl) (by kernel_rfl) (fun _ _ _ h => h) (Or.inl ⟨by rfl, ?_⟩) (by assumption) ?_
          rotate_left
          · intro w hSw; (try dsimp only at hSw); go_simp; try (first | with_reducible rfl | (refine (if_pos ?_).trans ?_ <;> first | omega | with_reducible rfl))
          try simp only [Act.put, List.setIfInBounds_toArray, List.set_cons_zero, List.set_cons_succ]
          refine wpAnyH_take (i := 10) (oi := { dst := some 43, op := Op.slice 23 (Operand.tmp 41) (some (Operand.tmp 42)) none none, type := _, pos := _, after := _, guard := none }) (v := ?_) rfl (by kernel_rfl) (by kernel_rfl) (by kernel_rfl) (fun _ _ _ h => h) (Or.inl ⟨by rfl, ?_⟩) (by assumption) ?_
          rotate_left
          · intro w hSw; (try dsimp only at hSw); go_simp; try (first | with_reducible rfl | (refine (if_pos ?_).trans ?_ <;> first | omega | with_reducible rfl))
          try simp only [Act.put, List.setIfInBounds_toArray, List.set_cons_zero, List.set_cons_succ]
          refine wpAnyH_ready (rs := [0, 6]) (by kernel_rfl) (by simp) ?_
          refine AllReadyH.cons (o := { dst := some 33, op := Op.buildSlice 23 0 #[], type := _, pos := _, after := _, guard := none }) rfl ?legA1n1 (AllReadyH.cons (o := { dst := some 39, op := Op.buildSlice 23 1 #[(0, Operand.tmp 38)], type := _, pos := _, after := _, guard := none }) rfl ?legB1n1 AllReadyH.nil)
          case' legA1n1 =>
            intro K hK
            go_simp
            have HP := hid (Bun.mk0 HP.out)
            refine hK.out _ _ (by trivial) (fun hHeld => ?_)
            clear hK K
            try simp only [Act.put, List.setIfInBounds_toArray, List.set_cons_zero, List.set_cons_succ]
            refine wpAnyH_ready (rs := [4, 6]) (by kernel_rfl) (by simp) ?_
            refine AllReadyH.cons (o := { dst := some 37, op := Op.call { callee := Callee.builtin Builtin.append, args := #[Operand.tmp 33, Operand.tmp 36], argTypes := #[23, 23] }, type := _, pos := _, after := _, guard := none }) rfl ?legA1n2 (AllReadyH.cons (o := { dst := some 39, op := Op.buildSlice 23 1 #[(0, Operand.tmp 38)], type := _, pos := _, after := _, guard := none }) rfl ?legB1n2 AllReadyH.nil)
            case' legA1n2 =>
              intro K hK
              rw [if_pos (by rfl)]
              refine Bun.wp_app (.tmp 33) (.tmp 36) rfl (by first | rfl | (rw [World.size_alloc]; rfl)) HP.out rfl HLK.out HTK.out HW0.out (by have := HLN.out; simp; omega) ?_
              intro v4 w4 hp4
              have HP := hid hp4
              clear hp4
              refine hK.out _ _ (by trivial) (fun hHeld => ?_)
              clear hK K
              try simp only [Act.put, List.setIfInBounds_toArray, List.set_cons_zero, List.set_cons_succ]
              refine wpAnyH_ready (rs := [6]) (by kernel_rfl) (by simp) ?_
              refine AllReadyH.cons (o := { dst := some 39, op := Op.buildSlice 23 1 #[(0, Operand.tmp 38)], type := _, pos := _, after := _, guard := none }) rfl (fun K hK => ?_) AllReadyH.nil
              go_simp
              have HP := hid (Bun.mk1 HP.out)
              refine hK.out _ _ (by trivial) (fun hHeld => ?_)
              clear hK K
              try simp only [Act.put, List.setIfInBounds_toArray, List.set_cons_zero, List.set_cons_succ]
              refine wpAnyH_ready (rs := [7]) (by kernel_rfl) (by simp) ?_
              refine AllReadyH.cons (o := { dst := some 40, op := Op.call { callee := Callee.builtin Builtin.append, args := #[Operand.tmp 37, Operand.tmp 39], argTypes := #[23, 23] }, type := _, pos := _, after := _, guard := none }) rfl (fun K hK => ?_) AllReadyH.nil
              rw [if_pos (by rfl)]
              refine Bun.wp_app1 (.tmp 37) (.tmp 39) rfl rfl HP.out (by first | rfl | (rw [World.size_alloc]; rfl)) (by have := HLN.out; simp; omega) ?_
              intro v7 w7 hp7
              have HP := hid hp7
              clear hp7
              refine hK.out _ _ (by trivial) (fun hHeld => ?_)
              clear hK K
              try simp only [Act.put, List.setIfInBounds_toArray, List.set_cons_zero, List.set_cons_succ]
              refine wpAnyH_ready (rs := [11]) (by kernel_rfl) (by simp) ?_
              refine AllReadyH.cons (o := { dst := some 44, op := Op.call { callee := Callee.builtin Builtin.append, args := #[Operand.tmp 40, Operand.tmp 43], argTypes := #[23, 23] }, type := _, pos := _, after := _, guard := none }) rfl (fun K hK => ?_) AllReadyH.nil
              rw [if_pos (by rfl)]
              refine Bun.wp_app (.tmp 40) (.tmp 43) rfl rfl HP.out rfl HLD.out HDK.out HW0.out (by have := HLN.out; simp; omega) ?_
              intro v11 w11 hp11
              have HP := hid hp11
              clear hp11
              refine hK.out _ _ (by trivial) (fun hHeld => ?_)
              clear hK K
              try simp only [Act.put, List.setIfInBounds_toArray, List.set_cons_zero, List.set_cons_succ]
              refine wpAnyH_take (i := 12) (oi := { dst := some 4, op := Op.assign (Operand.tmp 44), type := _, pos := _, after := _, guard := none }) (v := ?_) rfl (by kernel_rfl) (by kernel_rfl) (by kernel_rfl) (fun _ _ _ h => h) (Or.inl ⟨by rfl, ?_⟩) (by assumption) ?_
              rotate_left
              · intro w hSw; (try dsimp only at hSw); go_simp; try (first | with_reducible rfl | (refine (if_pos ?_).trans ?_ <;> first | omega | with_reducible rfl))
              try simp only [Act.put, List.setIfInBounds_toArray, List.set_cons_zero, List.set_cons_succ]
              refine wpAnyH_done (by kernel_rfl) ?_ _
              (go_wp2_with fail) <;> (go_ret; refine ⟨_, rfl, ?_, HP.out.bel⟩; rw [HE.out]; exact HP.out.nums.mono fun b h _ => .inr h)
            case' legB1n2 =>
              intro K hK
              go_simp
              have HP := hid (Bun.mk1 HP.out)
              refine hK.out _ _ (by trivial) (fun hHeld => ?_)
              clear hK K
              try simp only [Act.put, List.setIfInBounds_toArray, List.set_cons_zero, List.set_cons_succ]
              refine wpAnyH_ready (rs := [4]) (by kernel_rfl) (by simp) ?_
              refine AllReadyH.cons (o := { dst := some 37, op := Op.call { callee := Callee.builtin Builtin.append, args := #[Operand.tmp 33, Operand.tmp 36], argTypes := #[23, 23] }, type := _, pos := _, after := _, guard := none }) rfl (fun K hK => ?_) AllReadyH.nil
              rw [if_pos (by rfl)]
              refine Bun.wp_app (.tmp 33) (.tmp 36) rfl (by first | rfl | (rw [World.size_alloc]; rfl)) HP.out rfl HLK.out HTK.out HW0.out (by have := HLN.out; simp; omega) ?_
              intro v4 w4 hp4
              have HP := hid hp4
              clear hp4
              refine hK.out _ _ (by trivial) (fun hHeld => ?_)
              clear hK K
              try simp only [Act.put, List.setIfInBounds_toArray, List.set_cons_zero, List.set_cons_succ]
              refine wpAnyH_ready (rs := [7]) (by kernel_rfl) (by simp) ?_
              refine AllReadyH.cons (o := { dst := some 40, op := Op.call { callee := Callee.builtin Builtin.append, args := #[Operand.tmp 37, Operand.tmp 39], argTypes := #[23, 23] }, type := _, pos := _, after := _, guard := none }) rfl (fun K hK => ?_) AllReadyH.nil
              rw [if_pos (by rfl)]
              refine Bun.wp_app1 (.tmp 37) (.tmp 39) rfl rfl HP.out (by first | rfl | (rw [World.size_alloc]; rfl)) (by have := HLN.out; simp; omega) ?_
              intro v7 w7 hp7
              have HP := hid hp7
              clear hp7
              refine hK.out _ _ (by trivial) (fun hHeld => ?_)
              clear hK K
              try simp only [Act.put, List.setIfInBounds_toArray, List.set_cons_zero, List.set_cons_succ]
              refine wpAnyH_ready (rs := [11]) (by kernel_rfl) (by simp) ?_
              refine AllReadyH.cons (o := { dst := some 44, op := Op.call { callee := Callee.builtin Builtin.append, args := #[Operand.tmp 40, Operand.tmp 43], argTypes := #[23, 23] }, type := _, pos := _, after := _, guard := none }) rfl (fun K hK => ?_) AllReadyH.nil
              rw [if_pos (by rfl)]
              refine Bun.wp_app (.tmp 40) (.tmp 43) rfl rfl HP.out rfl HLD.out HDK.out HW0.out (by have := HLN.out; simp; omega) ?_
              intro v11 w11 hp11
              have HP := hid hp11
              clear hp11
              refine hK.out _ _ (by trivial) (fun hHeld => ?_)
              clear hK K
              try simp only [Act.put, List.setIfInBounds_toArray, List.set_cons_zero, List.set_cons_succ]
              refine wpAnyH_take (i := 12) (oi := { dst := some 4, op := Op.assign (Operand.tmp 44), type := _, pos := _, after := _, guard := none }) (v := ?_) rfl (by kernel_rfl) (by kernel_rfl) (by kernel_rfl) (fun _ _ _ h => h) (Or.inl ⟨by rfl, ?_⟩) (by assumption) ?_
              rotate_left
              · intro w hSw; (try dsimp only at hSw); go_simp; try (first | with_reducible rfl | (refine (if_pos ?_).trans ?_ <;> first | omega | with_reducible rfl))
              try simp only [Act.put, List.setIfInBounds_toArray, List.set_cons_zero, List.set_cons_succ]
              refine wpAnyH_done (by kernel_rfl) ?_ _
              (go_wp2_with fail) <;> (go_ret; refine ⟨_, rfl, ?_, HP.out.bel⟩; rw [HE.out]; exact HP.out.nums.mono fun b h _ => .inr h)
          case' legB1n1 =>
            intro K hK
            go_simp
            have HP := hid (Bun.mk1 HP.out)
            refine hK.out _ _ (by trivial) (fun hHeld => ?_)
            clear hK K
            try simp only [Act.put, List.setIfInBounds_toArray, List.set_cons_zero, List.set_cons_succ]
            refine wpAnyH_ready (rs := [0]) (by kernel_rfl) (by simp) ?_
            refine AllReadyH.cons (o := { dst := some 33, op := Op.buildSlice 23 0 #[], type := _, pos := _, after := _, guard := none }) rfl (fun K hK => ?_) AllReadyH.nil
            go_simp
            have HP := hid (Bun.mk0 HP.out)
            refine hK.out _ _ (by trivial) (fun hHeld => ?_)
            clear hK K
            try simp only [Act.put, List.setIfInBounds_toArray, List.set_cons_zero, List.set_cons_succ]
            refine wpAnyH_ready (rs := [4]) (by kernel_rfl) (by simp) ?_
            refine AllReadyH.cons (o := { dst := some 37, op := Op.call { callee := Callee.builtin Builtin.append, args := #[Operand.tmp 33, Operand.tmp 36], argTypes := #[23, 23] }, type := _, pos := _, after := _, guard := none }) rfl (fun K hK => ?_) AllReadyH.nil
            rw [if_pos (by rfl)]
            refine Bun.wp_app (.tmp 33) (.tmp 36) rfl (by first | rfl | (rw [World.size_alloc]; rfl)) HP.out rfl HLK.out HTK.out HW0.out (by have := HLN.out; simp; omega) ?_
            intro v4 w4 hp4
            have HP := hid hp4
            clear hp4
            refine hK.out _ _ (by trivial) (fun hHeld => ?_)
            clear hK K
            try simp only [Act.put, List.setIfInBounds_toArray, List.set_cons_zero, List.set_cons_succ]
            refine wpAnyH_ready (rs := [7]) (by kernel_rfl) (by simp) ?_
            refine AllReadyH.cons (o := { dst := some 40, op := Op.call { callee := Callee.builtin Builtin.append, args := #[Operand.tmp 37, Operand.tmp 39], argTypes := #[23, 23] }, type := _, pos := _, after := _, guard := none }) rfl (fun K hK => ?_) AllReadyH.nil
            rw [if_pos (by rfl)]
            refine Bun.wp_app1 (.tmp 37) (.tmp 39) rfl rfl HP.out (by first | rfl | (rw [World.size_alloc]; rfl)) (by have := HLN.out; simp; omega) ?_
            intro v7 w7 hp7
            have HP := hid hp7
            clear hp7
            refine hK.out _ _ (by trivial) (fun hHeld => ?_)
            clear hK K
            try simp only [Act.put, List.setIfInBounds_toArray, List.set_cons_zero, List.set_cons_succ]
            refine wpAnyH_ready (rs := [11]) (by kernel_rfl) (by simp) ?_
            refine AllReadyH.cons (o := { dst := some 44, op := Op.call { callee := Callee.builtin Builtin.append, args := #[Operand.tmp 40, Operand.tmp 43], argTypes := #[23, 23] }, type := _, pos := _, after := _, guard := none }) rfl (fun K hK => ?_) AllReadyH.nil
            rw [if_pos (by rfl)]
            refine Bun.wp_app (.tmp 40) (.tmp 43) rfl rfl HP.out rfl HLD.out HDK.out HW0.out (by have := HLN.out; simp; omega) ?_
            intro v11 w11 hp11
            have HP := hid hp11
            clear hp11
            refine hK.out _ _ (by trivial) (fun hHeld => ?_)
            clear hK K
            try simp only [Act.put, List.setIfInBounds_toArray, List.set_cons_zero, List.set_cons_succ]
            refine wpAnyH_take (i := 12) (oi := { dst := some 4, op := Op.assign (Operand.tmp 44), type := _, pos := _, after := _, guard := none }) (v := ?_) rfl (by kernel_rfl) (by kernel_rfl) (by kernel_rfl) (fun _ _ _ h => h) (Or.inl ⟨by rfl, ?_⟩) (by assumption) ?_
            rotate_left
            · intro w hSw; (try dsimp only at hSw); go_simp; try (first | with_reducible rfl | (refine (if_pos ?_).trans ?_ <;> first | omega | with_reducible rfl))
            try simp only [Act.put, List.setIfInBounds_toArray, List.set_cons_zero, List.set_cons_succ]
            refine wpAnyH_done (by kernel_rfl) ?_ _
            (go_wp2_with fail) <;> (go_ret; refine ⟨_, rfl, ?_, HP.out.bel⟩; rw [HE.out]; exact HP.out.nums.mono fun b h _ => .inr h)
    · have HE := hid (show insB l r = l.take k ++ [r] ++ l.drop k by rw [insB_at k hk HK.out (fun hh => absurd hh hlt), if_neg (fun h => hlt h.1)])
      have HTK := hid (nums_take H.out hk)
      have HDK := hid (nums_drop H.out hk)
      have HLK := hid (show k = (l.take k).length by rw [List.length_take]; omega)
      have HLD := hid (show l.length - k = (l.drop k).length by rw [List.length_drop])
      have HLN := hid (show k ≤ l.length ∧ l.length ≤ 100000 from ⟨hk, hl⟩)
      have HW0 := hid (Nat.le_refl wr.heap.size)
      have HP := hid (Bun.start (r := r) ((Below.refl wr.heap.size wr).drew) (Nat.le_refl _))
      go_wp2_with fail
      refine wp_region_held_drew (S := (fun _ => True)) (by kernel_rfl) (by trivial) (fun hHeld => ?_)
      refine wpAnyH_take (i := 1) (oi := { dst := some 34, op := Op.move (Operand.tmp 0), type := _, pos := _, after := _, guard := none }) (v := ?_) rfl (by kernel_rfl) (by kernel_rfl) (by kernel_rfl) (fun _ _ _ h => h) (Or.inl ⟨by rfl, ?_⟩) (by assumption) ?_
      rotate_left
      · intro w hSw; (try dsimp only at hSw); go_simp; try (first | with_reducible rfl | (refine (if_pos ?_).trans ?_ <;> first | omega | with_reducible rfl))
      try simp only [Act.put, List.setIfInBounds_toArray, List.set_cons_zero, List.set_cons_succ]
      refine wpAnyH_take (i := 2) (oi := { dst := some 35, op := Op.move (Operand.tmp 5), type := _, pos := _, after := _, guard := none }) (v := ?_) rfl (by kernel_rfl) (by kernel_rfl) (by kernel_rfl) (fun _ _ _ h => h) (Or.inl ⟨by rfl, ?_⟩) (by assumption) ?_
      rotate_left
      · intro w hSw; (try dsimp only at hSw); go_simp; try (first | with_reducible rfl | (refine (if_pos ?_).trans ?_ <;> first | omega | with_reducible rfl))
      try simp only [Act.put, List.setIfInBounds_toArray, List.set_cons_zero, List.set_cons_succ]
      refine wpAnyH_take (i := 3) (oi := { dst := some 36, op := Op.slice 23 (Operand.tmp 34) none (some (Operand.tmp 35)) none, type := _, pos := _, after := _, guard := none }) (v := ?_) rfl (by kernel_rfl) (by kernel_rfl) (by kernel_rfl) (fun _ _ _ h => h) (Or.inl ⟨by rfl, ?_⟩) (by assumption) ?_
      rotate_left
      · intro w hSw; (try dsimp only at hSw); go_simp; try (first | with_reducible rfl | (refine (if_pos ?_).trans ?_ <;> first | omega | with_reducible rfl))
      try simp only [Act.put, List.setIfInBounds_toArray, List.set_cons_zero, List.set_cons_succ]
      refine wpAnyH_take (i := 5) (oi := { dst := some 38, op := Op.move (Operand.tmp 1), type := _, pos := _, after := _, guard := none }) (v := ?_) rfl (by kernel_rfl) (by kernel_rfl) (by kernel_rfl) (fun _ _ _ h => h) (Or.inl ⟨by rfl, ?_⟩) (by assumption) ?_
      rotate_left
      · intro w hSw; (try dsimp only at hSw); go_simp; try (first | with_reducible rfl | (refine (if_pos ?_).trans ?_ <;> first | omega | with_reducible rfl))
      try simp only [Act.put, List.setIfInBounds_toArray, List.set_cons_zero, List.set_cons_succ]
      refine wpAnyH_take (i := 8) (oi := { dst := some 41, op := Op.move (Operand.tmp 0), type := _, pos := _, after := _, guard := none }) (v := ?_) rfl (by kernel_rfl) (by kernel_rfl) (by kernel_rfl) (fun _ _ _ h => h) (Or.inl ⟨by rfl, ?_⟩) (by assumption) ?_
      rotate_left
      · intro w hSw; (try dsimp only at hSw); go_simp; try (first | with_reducible rfl | (refine (if_pos ?_).trans ?_ <;> first | omega | with_reducible rfl))
      try simp only [Act.put, List.setIfInBounds_toArray, List.set_cons_zero, List.set_cons_succ]
      refine wpAnyH_take (i := 9) (oi := { dst := some 42, op := Op.move (Operand.tmp 5), type := _, pos := _, after := _, guard := none }) (v := ?_) rfl (by kernel_rfl) (by kernel_rfl) (by kernel_rfl) (fun _ _ _ h => h) (Or.inl ⟨by rfl, ?_⟩) (by assumption) ?_
      rotate_left
      · intro w hSw; (try dsimp only at hSw); go_simp; try (first | with_reducible rfl | (refine (if_pos ?_).trans ?_ <;> first | omega | with_reducible rfl))
      try simp only [Act.put, List.setIfInBounds_toArray, List.set_cons_zero, List.set_cons_succ]
      refine wpAnyH_take (i := 10) (oi := { dst := some 43, op := Op.slice 23 (Operand.tmp 41) (some (Operand.tmp 42)) none none, type := _, pos := _, after := _, guard := none }) (v := ?_) rfl (by kernel_rfl) (by kernel_rfl) (by kernel_rfl) (fun _ _ _ h => h) (Or.inl ⟨by rfl, ?_⟩) (by assumption) ?_
      rotate_left
      · intro w hSw; (try dsimp only at hSw); go_simp; try (first | with_reducible rfl | (refine (if_pos ?_).trans ?_ <;> first | omega | with_reducible rfl))
      try simp only [Act.put, List.setIfInBounds_toArray, List.set_cons_zero, List.set_cons_succ]
      refine wpAnyH_ready (rs := [0, 6]) (by kernel_rfl) (by simp) ?_
      refine AllReadyH.cons (o := { dst := some 33, op := Op.buildSlice 23 0 #[], type := _, pos := _, after := _, guard := none }) rfl ?legA2n1 (AllReadyH.cons (o := { dst := some 39, op := Op.buildSlice 23 1 #[(0, Operand.tmp 38)], type := _, pos := _, after := _, guard := none }) rfl ?legB2n1 AllReadyH.nil)
      case' legA2n1 =>
        intro K hK
        go_simp
        have HP := hid (Bun.mk0 HP.out)
        refine hK.out _ _ (by trivial) (fun hHeld => ?_)
        clear hK K
        try simp only [Act.put, List.setIfInBounds_toArray, List.set_cons_zero, List.set_cons_succ]
        refine wpAnyH_ready (rs := [4, 6]) (by kernel_rfl) (by simp) ?_
        refine AllReadyH.cons (o := { dst := some 37, op := Op.call { callee := Callee.builtin Builtin.append, args := #[Operand.tmp 33, Operand.tmp 36], argTypes := #[23, 23] }, type := _, pos := _, after := _, guard := none }) rfl ?legA2n2 (AllReadyH.cons (o := { dst := some 39, op := Op.buildSlice 23 1 #[(0, Operand.tmp 38)], type := _, pos := _, after := _, guard := none }) rfl ?legB2n2 AllReadyH.nil)
        case' legA2n2 =>
          intro K hK
          rw [if_pos (by rfl)]
          refine Bun.wp_app (.tmp 33) (.tmp 36) rfl (by first | rfl | (rw [World.size_alloc]; rfl)) HP.out rfl HLK.out HTK.out HW0.out (by have := HLN.out; simp; omega) ?_
          intro v4 w4 hp4
          have HP := hid hp4
          clear hp4
          refine hK.out _ _ (by trivial) (fun hHeld => ?_)
          clear hK K
          try simp only [Act.put, List.setIfInBounds_toArray, List.set_cons_zero, List.set_cons_succ]
          refine wpAnyH_ready (rs := [6]) (by kernel_rfl) (by simp) ?_
          refine AllReadyH.cons (o := { dst := some 39, op := Op.buildSlice 23 1 #[(0, Operand.tmp 38)], type := _, pos := _, after := _, guard := none }) rfl (fun K hK => ?_) AllReadyH.nil
          go_simp
          have HP := hid (Bun.mk1 HP.out)
          refine hK.out _ _ (by trivial) (fun hHeld => ?_)
          clear hK K
          try simp only [Act.put, List.setIfInBounds_toArray, List.set_cons_zero, List.set_cons_succ]
          refine wpAnyH_ready (rs := [7]) (by kernel_rfl) (by simp) ?_
          refine AllReadyH.cons (o := { dst := some 40, op := Op.call { callee := Callee.builtin Builtin.append, args := #[Operand.tmp 37, Operand.tmp 39], argTypes := #[23, 23] }, type := _, pos := _, after := _, guard := none }) rfl (fun K hK => ?_) AllReadyH.nil
          rw [if_pos (by rfl)]
          refine Bun.wp_app1 (.tmp 37) (.tmp 39) rfl rfl HP.out (by first | rfl | (rw [World.size_alloc]; rfl)) (by have := HLN.out; simp; omega) ?_
          intro v7 w7 hp7
          have HP := hid hp7
          clear hp7
          refine hK.out _ _ (by trivial) (fun hHeld => ?_)
          clear hK K
          try simp only [Act.put, List.setIfInBounds_toArray, List.set_cons_zero, List.set_cons_succ]
          refine wpAnyH_ready (rs := [11]) (by kernel_rfl) (by simp) ?_
          refine AllReadyH.cons (o := { dst := some 44, op := Op.call { callee := Callee.builtin Builtin.append, args := #[Operand.tmp 40, Operand.tmp 43], argTypes := #[23, 23] }, type := _, pos := _, after := _, guard := none }) rfl (fun K hK => ?_) AllReadyH.nil
          rw [if_pos (by rfl)]
          refine Bun.wp_app (.tmp 40) (.tmp 43) rfl rfl HP.out rfl HLD.out HDK.out HW0.out (by have := HLN.out; simp; omega) ?_
          intro v11 w11 hp11
          have HP := hid hp11
          clear hp11
          refine hK.out _ _ (by trivial) (fun hHeld => ?_)
          clear hK K
          try simp only [Act.put, List.setIfInBounds_toArray, List.set_cons_zero, List.set_cons_succ]
          refine wpAnyH_take (i := 12) (oi := { dst := some 4, op := Op.assign (Operand.tmp 44), type := _, pos := _, after := _, guard := none }) (v := ?_) rfl (by kernel_rfl) (by kernel_rfl) (by kernel_rfl) (fun _ _ _ h => h) (Or.inl ⟨by rfl, ?_⟩) (by assumption) ?_
          rotate_left
          · intro w hSw; (try dsimp only at hSw); go_simp; try (first | with_reducible rfl | (refine (if_pos ?_).trans ?_ <;> first | omega | with_reducible rfl))
          try simp only [Act.put, List.setIfInBounds_toArray, List.set_cons_zero, List.set_cons_succ]
          refine wpAnyH_done (by kernel_rfl) ?_ _
          (go_wp2_with fail) <;> (go_ret; refine ⟨_, rfl, ?_, HP.out.bel⟩; rw [HE.out]; exact HP.out.nums.mono fun b h _ => .inr h)
        case' legB2n2 =>
          intro K hK
          go_simp
          have HP := hid (Bun.mk1 HP.out)
          refine hK.out _ _ (by trivial) (fun hHeld => ?_)
          clear hK K
          try simp only [Act.put, List.setIfInBounds_toArray, List.set_cons_zero, List.set_cons_succ]
          refine wpAnyH_ready (rs := [4]) (by kernel_rfl) (by simp) ?_
          refine AllReadyH.cons (o := { dst := some 37, op := Op.call { callee := Callee.builtin Builtin.append, args := #[Operand.tmp 33, Operand.tmp 36], argTypes := #[23, 23] }, type := _, pos := _, after := _, guard := none }) rfl (fun K hK => ?_) AllReadyH.nil
          rw [if_pos (by rfl)]
          refine Bun.wp_app (.tmp 33) (.tmp 36) rfl (by first | rfl | (rw [World.size_alloc]; rfl)) HP.out rfl HLK.out HTK.out HW0.out (by have := HLN.out; simp; omega) ?_
          intro v4 w4 hp4
          have HP := hid hp4
          clear hp4
          refine hK.out _ _ (by trivial) (fun hHeld => ?_)
          clear hK K
          try simp only [Act.put, List.setIfInBounds_toArray, List.set_cons_zero, List.set_cons_succ]
          refine wpAnyH_ready (rs := [7]) (by kernel_rfl) (by simp) ?_
          refine AllReadyH.cons (o := { dst := some 40, op := Op.call { callee := Callee.builtin Builtin.append, args := #[Operand.tmp 37, Operand.tmp 39], argTypes := #[23, 23] }, type := _, pos := _, after := _, guard := none }) rfl (fun K hK => ?_) AllReadyH.nil
          rw [if_pos (by rfl)]
          refine Bun.wp_app1 (.tmp 37) (.tmp 39) rfl rfl HP.out (by first | rfl | (rw [World.size_alloc]; rfl)) (by have := HLN.out; simp; omega) ?_
          intro v7 w7 hp7
          have HP := hid hp7
          clear hp7
          refine hK.out _ _ (by trivial) (fun hHeld => ?_)
          clear hK K
          try simp only [Act.put, List.setIfInBounds_toArray, List.set_cons_zero, List.set_cons_succ]
          refine wpAnyH_ready (rs := [11]) (by kernel_rfl) (by simp) ?_
          refine AllReadyH.cons (o := { dst := some 44, op := Op.call { callee := Callee.builtin Builtin.append, args := #[Operand.tmp 40, Operand.tmp 43], argTypes := #[23, 23] }, type := _, pos := _, after := _, guard := none }) rfl (fun K hK => ?_) AllReadyH.nil
          rw [if_pos (by rfl)]
          refine Bun.wp_app (.tmp 40) (.tmp 43) rfl rfl HP.out rfl HLD.out HDK.out HW0.out (by have := HLN.out; simp; omega) ?_
          intro v11 w11 hp11
          have HP := hid hp11
          clear hp11
          refine hK.out _ _ (by trivial) (fun hHeld => ?_)
          clear hK K
          try simp only [Act.put, List.setIfInBounds_toArray, List.set_cons_zero, List.set_cons_succ]
          refine wpAnyH_take (i := 12) (oi := { dst := some 4, op := Op.assign (Operand.tmp 44), type := _, pos := _, after := _, guard := none }) (v := ?_) rfl (by kernel_rfl) (by kernel_rfl) (by kernel_rfl) (fun _ _ _ h => h) (Or.inl ⟨by rfl, ?_⟩) (by assumption) ?_
          rotate_left
          · intro w hSw; (try dsimp only at hSw); go_simp; try (first | with_reducible rfl | (refine (if_pos ?_).trans ?_ <;> first | omega | with_reducible rfl))
          try simp only [Act.put, List.setIfInBounds_toArray, List.set_cons_zero, List.set_cons_succ]
          refine wpAnyH_done (by kernel_rfl) ?_ _
          (go_wp2_with fail) <;> (go_ret; refine ⟨_, rfl, ?_, HP.out.bel⟩; rw [HE.out]; exact HP.out.nums.mono fun b h _ => .inr h)
      case' legB2n1 =>
        intro K hK
        go_simp
        have HP := hid (Bun.mk1 HP.out)
        refine hK.out _ _ (by trivial) (fun hHeld => ?_)
        clear hK K
        try simp only [Act.put, List.setIfInBounds_toArray, List.set_cons_zero, List.set_cons_succ]
        refine wpAnyH_ready (rs := [0]) (by kernel_rfl) (by simp) ?_
        refine AllReadyH.cons (o := { dst := some 33, op := Op.buildSlice 23 0 #[], type := _, pos := _, after := _, guard := none }) rfl (fun K hK => ?_) AllReadyH.nil
        go_simp
        have HP := hid (Bun.mk0 HP.out)
        refine hK.out _ _ (by trivial) (fun hHeld => ?_)
        clear hK K
        try simp only [Act.put, List.setIfInBounds_toArray, List.set_cons_zero, List.set_cons_succ]
        refine wpAnyH_ready (rs := [4]) (by kernel_rfl) (by simp) ?_
        refine AllReadyH.cons (o := { dst := some 37, op := Op.call { callee := Callee.builtin Builtin.append, args := #[Operand.tmp 33, Operand.tmp 36], argTypes := #[23, 23] }, type := _, pos := _, after := _, guard := none }) rfl (fun K hK => ?_) AllReadyH.nil
        rw [if_pos (by rfl)]
        refine Bun.wp_app (.tmp 33) (.tmp 36) rfl (by first | rfl | (rw [World.size_alloc]; rfl)) HP.out rfl HLK.out HTK.out HW0.out (by have := HLN.out; simp; omega) ?_
        intro v4 w4 hp4
        have HP := hid hp4
        clear hp4
        refine hK.out _ _ (by trivial) (fun hHeld => ?_)
        clear hK K
        try simp only [Act.put, List.setIfInBounds_toArray, List.set_cons_zero, List.set_cons_succ]
        refine wpAnyH_ready (rs := [7]) (by kernel_rfl) (by simp) ?_
        refine AllReadyH.cons (o := { dst := some 40, op := Op.call { callee := Callee.builtin Builtin.append, args := #[Operand.tmp 37, Operand.tmp 39], argTypes := #[23, 23] }, type := _, pos := _, after := _, guard := none }) rfl (fun K hK => ?_) AllReadyH.nil
        rw [if_pos (by rfl)]
        refine Bun.wp_app1 (.tmp 37) (.tmp 39) rfl rfl HP.out (by first | rfl | (rw [World.size_alloc]; rfl)) (by have := HLN.out; simp; omega) ?_
        intro v7 w7 hp7
        have HP := hid hp7
        clear hp7
        refine hK.out _ _ (by trivial) (fun hHeld => ?_)
        clear hK K
        try simp only [Act.put, List.setIfInBounds_toArray, List.set_cons_zero, List.set_cons_succ]
        refine wpAnyH_ready (rs := [11]) (by kernel_rfl) (by simp) ?_
        refine AllReadyH.cons (o := { dst := some 44, op := Op.call { callee := Callee.builtin Builtin.append, args := #[Operand.tmp 40, Operand.tmp 43], argTypes := #[23, 23] }, type := _, pos := _, after := _, guard := none }) rfl (fun K hK => ?_) AllReadyH.nil
        rw [if_pos (by rfl)]
        refine Bun.wp_app (.tmp 40) (.tmp 43) rfl rfl HP.out rfl HLD.out HDK.out HW0.out (by have := HLN.out; simp; omega) ?_
        intro v11 w11 hp11
        have HP := hid hp11
        clear hp11
        refine hK.out _ _ (by trivial) (fun hHeld => ?_)
        clear hK K
        try simp only [Act.put, List.setIfInBounds_toArray, List.set_cons_zero, List.set_cons_succ]
        refine wpAnyH_take (i := 12) (oi := { dst := some 4, op := Op.assign (Operand.tmp 44), type := _, pos := _, after := _, guard := none }) (v := ?_) rfl (by kernel_rfl) (by kernel_rfl) (by kernel_rfl) (fun _ _ _ h => h) (Or.inl ⟨by rfl, ?_⟩) (by assumption) ?_
        rotate_left
        · intro w hSw; (try dsimp only at hSw); go_simp; try (first | with_reducible rfl | (refine (if_pos ?_).trans ?_ <;> first | omega | with_reducible rfl))
        try simp only [Act.put, List.setIfInBounds_toArray, List.set_cons_zero, List.set_cons_succ]
        refine wpAnyH_done (by kernel_rfl) ?_ _
        (go_wp2_with fail) <;> (go_ret; refine ⟨_, rfl, ?_, HP.out.bel⟩; rw [HE.out]; exact HP.out.nums.mono fun b h _ => .inr h)
end Go.Proofs.Ytehchnagjdmdgaa
