/- Whether a rule applies: the program's closures, some, applies. Conditions: lists that are not empty, at most a thousand marks. -/
import Derived.Test.YtjcdcmeclnihbaaMa
import Derived.Deep.RegionHeld3
namespace Go.Proofs.Ytjcdcmeclnihbaa
open Go.RowKit
set_option linter.unusedSimpArgs false
theorem IsNums.drop {w : World} {S : Nat → Prop} {b o c : Nat} {l : List Int} (h : IsNums .i64 w S (.slice (some ⟨b, o, none⟩) l.length c) l) {k : Nat} (hk : k ≤ l.length) : IsNums .i64 w S (.slice (some ⟨b, o + k, none⟩) (l.length - k) (c - k)) (l.drop k) := by
  obtain ⟨A, c', e, h1, h2, h3⟩ := h
  cases e
  refine ⟨_, _, by rw [List.length_drop], by rw [List.length_drop]; omega, by omega, fun hn => ?_⟩
  simp at hn
  obtain ⟨b', o', e, hs, hc⟩ := h3 (by simp; omega)
  cases e
  refine ⟨b, o + k, rfl, hs, fun j v hv => ?_⟩
  rw [Nat.add_assoc]
  refine hc (k + j) v ?_
  rw [← hv, List.map_drop, List.getElem?_drop]
theorem IsNums.dropIf {w : World} {S : Nat → Prop} {b o c : Nat} {l : List Int} (h : IsNums .i64 w S (.slice (some ⟨b, o, none⟩) l.length c) l) {k : Nat} (hk : k ≤ l.length) : IsNums .i64 w S (.slice (if c = k then some ⟨b, o, none⟩ else some ⟨b, o + k, none⟩) (l.length - k) (c - k)) (l.drop k) := by
  by_cases e : c = k
  · rw [if_pos e]
    obtain ⟨A, c', e', h1, h2, h3⟩ := h
    cases e'
    obtain ⟨A, c', e', h1', h2', h3'⟩ := IsNums.drop ⟨_, _, rfl, h1, h2, h3⟩ hk
    have hn : l.drop k = [] := List.drop_eq_nil_of_le (by omega)
    rw [hn]
    exact ⟨_, _, by rw [show l.length - k = 0 by omega]; rfl, by simp, by omega, Arr.nil⟩
  · rw [if_neg e]; exact h.drop hk
theorem IsNums.take {w : World} {S : Nat → Prop} {b o c : Nat} {l : List Int} (h : IsNums .i64 w S (.slice (some ⟨b, o, none⟩) l.length c) l) {k : Nat} (hk : k ≤ l.length) : IsNums .i64 w S (.slice (some ⟨b, o, none⟩) k c) (l.take k) := by
  obtain ⟨A, c', e, h1, h2, h3⟩ := h
  cases e
  have hl : (l.take k).length = k := by simp; omega
  refine ⟨_, c, by rw [hl], by omega, h2, fun hn => ?_⟩
  simp at hn
  obtain ⟨b', o', e, hs, hc⟩ := h3 (by simp; omega)
  cases e
  refine ⟨b, o, rfl, hs, fun j v hv => hc j v ?_⟩
  rw [List.map_take, List.getElem?_take] at hv
  split at hv
  · exact hv
  · cases hv
set_option maxRecDepth 100000 in
set_option maxHeartbeats 2000000 in
theorem left1_any (d : Nat) (t : Tr d) (k0 k1 : Int) (A0 : Option Addr) (n0 p0 b1 b2 b o c : Nat) (l : List Int) (k : Nat) (hk : k ≤ l.length) (hn : l.length ≤ 1000) (w : World)
    (hL : IsTr w Any d (.agg #[.int .i64 k0, .int .i64 k1, .slice A0 n0 p0]) t) (hl : IsNums .i64 w Any (.slice (some ⟨b, o, none⟩) l.length c) l)
    (hc : w.cell? ⟨b1, 0, none⟩ = some (.int .i64 k0) ∧ w.cell? ⟨b1, 1, none⟩ = some (.int .i64 k1) ∧ w.cell? ⟨b1, 2, none⟩ = some (.slice A0 n0 p0) ∧ w.cell? ⟨b2, 0, none⟩ = some (.slice (some ⟨b, o, none⟩) l.length c)) :
    Calls Try.prog 84 #[.int .i64 k, .pointer (some ⟨b1, 0, none⟩), .pointer (some ⟨b2, 0, none⟩)] w fun e w' => e = .returned (.bool (matchesT t (l.drop k))) ∧ Below w.heap.size w w' := by
  have HS := hid hc
  have HLD := hid (hL.keep (w' := w.drew) (fun _ _ _ => rfl))
  have hnd := (hl.dropIf hk).keep (w' := w.drew) (fun _ _ _ => rfl)
  have hcap : l.length ≤ c := by obtain ⟨A, c', e, h1, h2, h3⟩ := hl; cases e; exact h1
  clear hc hL hl
  by_cases e : c = k
  · subst e
    rw [if_pos rfl, Nat.sub_self, show l.length - c = 0 by omega] at hnd
    have HND := hid hnd
    have hkc : c ≤ c := Nat.le_refl _
    clear hnd
    go_enter Try.func84, Try.ntmps84
    go_wp2_with fail
    refine wp_region_held_drew (S := (fun Y => Y.cell? ⟨b1, 0, none⟩ = some (.int .i64 k0) ∧ Y.cell? ⟨b1, 1, none⟩ = some (.int .i64 k1) ∧ Y.cell? ⟨b1, 2, none⟩ = some (.slice A0 n0 p0) ∧ Y.cell? ⟨b2, 0, none⟩ = some (.slice (some ⟨b, o, none⟩) l.length c))) (by kernel_rfl) (by exact HS.out) (fun hHeld => ?_)
    refine wpAnyH_take (i := 0) (oi := { dst := some 5, op := Op.fieldAddr 47 (Operand.tmp 1) 0, type := _, pos := _, after := _, guard := none }) (v := ?_) rfl (by kernel_rfl) (by kernel_rfl) (by kernel_rfl) (fun _ _ _ h => h) (Or.inl ⟨by rfl, ?_⟩) (by assumption) ?_
    rotate_left
    · intro w hSw; (try dsimp only at hSw); go_simp; try with_reducible rfl
    try simp only [Act.put, List.setIfInBounds_toArray, List.set_cons_zero, List.set_cons_succ]
    refine wpAnyH_take (i := 1) (oi := { dst := some 6, op := Op.load 45 (Operand.tmp 5), type := _, pos := _, after := _, guard := none }) (v := ?_) rfl (by kernel_rfl) (by kernel_rfl) (by kernel_rfl) (fun _ _ _ h => h) (Or.inl ⟨by rfl, ?_⟩) (by assumption) ?_
    rotate_left
    · intro w hSw; (try dsimp only at hSw); go_simp; try with_reducible rfl
    try simp only [Act.put, List.setIfInBounds_toArray, List.set_cons_zero, List.set_cons_succ]
    refine wpAnyH_take (i := 2) (oi := { dst := some 7, op := Op.load 22 (Operand.tmp 2), type := _, pos := _, after := _, guard := none }) (v := ?_) rfl (by kernel_rfl) (by kernel_rfl) (by kernel_rfl) (fun _ _ _ h => h) (Or.inl ⟨by rfl, ?_⟩) (by assumption) ?_
    rotate_left
    · intro w hSw; (try dsimp only at hSw); go_simp; try with_reducible rfl
    try simp only [Act.put, List.setIfInBounds_toArray, List.set_cons_zero, List.set_cons_succ]
    refine wpAnyH_take (i := 3) (oi := { dst := some 8, op := Op.move (Operand.tmp 0), type := _, pos := _, after := _, guard := none }) (v := ?_) rfl (by kernel_rfl) (by kernel_rfl) (by kernel_rfl) (fun _ _ _ h => h) (Or.inl ⟨by rfl, ?_⟩) (by assumption) ?_
    rotate_left
    · intro w hSw; (try dsimp only at hSw); go_simp; try with_reducible rfl
    try simp only [Act.put, List.setIfInBounds_toArray, List.set_cons_zero, List.set_cons_succ]
    refine wpAnyH_take (i := 4) (oi := { dst := some 9, op := Op.slice 22 (Operand.tmp 7) (some (Operand.tmp 8)) none none, type := _, pos := _, after := _, guard := none }) (v := ?_) rfl (by kernel_rfl) (by kernel_rfl) (by kernel_rfl) (fun _ _ _ h => h) (Or.inl ⟨by rfl, ?_⟩) (by assumption) ?_
    rotate_left
    · intro w hSw; (try dsimp only at hSw); go_simp; try with_reducible rfl
    try simp only [Act.put, List.setIfInBounds_toArray, List.set_cons_zero, List.set_cons_succ]
    refine wpAnyH_ready (rs := [5]) (by kernel_rfl) (by simp) ?_
    refine AllReadyH.cons (o := { dst := some 10, op := Op.call { callee := Callee.value (Operand.func 27), args := #[Operand.tmp 6, Operand.tmp 9], argTypes := #[45, 22] }, type := _, pos := _, after := _, guard := none }) rfl (fun K hK => ?_) AllReadyH.nil
    go_simp
    refine (matches_any d _ _ t (l.drop c) _ (show IsTr w.drew Any d _ t from HLD.out) (show IsNums .i64 w.drew Any _ (l.drop c) from HND.out) (by simp; omega)).mono ?_; rintro e w1 ⟨rfl, hb1⟩; have HB1 := hid ((Below.refl w.heap.size w).drew.trans hb1); clear hb1; go_wp2_with fail
    refine hK.out _ _ (by exact ⟨cell_later HB1.out HS.out.1, cell_later HB1.out HS.out.2.1, cell_later HB1.out HS.out.2.2.1, cell_later HB1.out HS.out.2.2.2⟩) (fun hHeld => ?_)
    clear hK K
    try simp only [Act.put, List.setIfInBounds_toArray, List.set_cons_zero, List.set_cons_succ]
    refine wpAnyH_take (i := 6) (oi := { dst := some 4, op := Op.assign (Operand.tmp 10), type := _, pos := _, after := _, guard := none }) (v := ?_) rfl (by kernel_rfl) (by kernel_rfl) (by kernel_rfl) (fun _ _ _ h => h) (Or.inl ⟨by rfl, ?_⟩) (by assumption) ?_
    rotate_left
    · intro w hSw; (try dsimp only at hSw); go_simp; try with_reducible rfl
    try simp only [Act.put, List.setIfInBounds_toArray, List.set_cons_zero, List.set_cons_succ]
    refine wpAnyH_done (by kernel_rfl) ?_ _
    all_goals
      go_wp2_with fail
      go_ret
      exact ⟨rfl, HB1.out⟩
  · rw [if_neg e] at hnd
    have HND := hid hnd
    have hkc : k ≤ c := Nat.le_trans hk hcap
    clear hnd
    go_enter Try.func84, Try.ntmps84
    go_wp2_with fail
    refine wp_region_held_drew (S := (fun Y => Y.cell? ⟨b1, 0, none⟩ = some (.int .i64 k0) ∧ Y.cell? ⟨b1, 1, none⟩ = some (.int .i64 k1) ∧ Y.cell? ⟨b1, 2, none⟩ = some (.slice A0 n0 p0) ∧ Y.cell? ⟨b2, 0, none⟩ = some (.slice (some ⟨b, o, none⟩) l.length c))) (by kernel_rfl) (by exact HS.out) (fun hHeld => ?_)
    refine wpAnyH_take (i := 0) (oi := { dst := some 5, op := Op.fieldAddr 47 (Operand.tmp 1) 0, type := _, pos := _, after := _, guard := none }) (v := ?_) rfl (by kernel_rfl) (by kernel_rfl) (by kernel_rfl) (fun _ _ _ h => h) (Or.inl ⟨by rfl, ?_⟩) (by assumption) ?_
    rotate_left
    · intro w hSw; (try dsimp only at hSw); go_simp; try with_reducible rfl
    try simp only [Act.put, List.setIfInBounds_toArray, List.set_cons_zero, List.set_cons_succ]
    refine wpAnyH_take (i := 1) (oi := { dst := some 6, op := Op.load 45 (Operand.tmp 5), type := _, pos := _, after := _, guard := none }) (v := ?_) rfl (by kernel_rfl) (by kernel_rfl) (by kernel_rfl) (fun _ _ _ h => h) (Or.inl ⟨by rfl, ?_⟩) (by assumption) ?_
    rotate_left
    · intro w hSw; (try dsimp only at hSw); go_simp; try with_reducible rfl
    try simp only [Act.put, List.setIfInBounds_toArray, List.set_cons_zero, List.set_cons_succ]
    refine wpAnyH_take (i := 2) (oi := { dst := some 7, op := Op.load 22 (Operand.tmp 2), type := _, pos := _, after := _, guard := none }) (v := ?_) rfl (by kernel_rfl) (by kernel_rfl) (by kernel_rfl) (fun _ _ _ h => h) (Or.inl ⟨by rfl, ?_⟩) (by assumption) ?_
    rotate_left
    · intro w hSw; (try dsimp only at hSw); go_simp; try with_reducible rfl
    try simp only [Act.put, List.setIfInBounds_toArray, List.set_cons_zero, List.set_cons_succ]
    refine wpAnyH_take (i := 3) (oi := { dst := some 8, op := Op.move (Operand.tmp 0), type := _, pos := _, after := _, guard := none }) (v := ?_) rfl (by kernel_rfl) (by kernel_rfl) (by kernel_rfl) (fun _ _ _ h => h) (Or.inl ⟨by rfl, ?_⟩) (by assumption) ?_
    rotate_left
    · intro w hSw; (try dsimp only at hSw); go_simp; try with_reducible rfl
    try simp only [Act.put, List.setIfInBounds_toArray, List.set_cons_zero, List.set_cons_succ]
    refine wpAnyH_take (i := 4) (oi := { dst := some 9, op := Op.slice 22 (Operand.tmp 7) (some (Operand.tmp 8)) none none, type := _, pos := _, after := _, guard := none }) (v := ?_) rfl (by kernel_rfl) (by kernel_rfl) (by kernel_rfl) (fun _ _ _ h => h) (Or.inl ⟨by rfl, ?_⟩) (by assumption) ?_
    rotate_left
    · intro w hSw; (try dsimp only at hSw); go_simp; try with_reducible rfl
    try simp only [Act.put, List.setIfInBounds_toArray, List.set_cons_zero, List.set_cons_succ]
    refine wpAnyH_ready (rs := [5]) (by kernel_rfl) (by simp) ?_
    refine AllReadyH.cons (o := { dst := some 10, op := Op.call { callee := Callee.value (Operand.func 27), args := #[Operand.tmp 6, Operand.tmp 9], argTypes := #[45, 22] }, type := _, pos := _, after := _, guard := none }) rfl (fun K hK => ?_) AllReadyH.nil
    go_simp
    refine (matches_any d _ _ t (l.drop k) _ (show IsTr w.drew Any d _ t from HLD.out) (show IsNums .i64 w.drew Any _ (l.drop k) from HND.out) (by simp; omega)).mono ?_; rintro e w1 ⟨rfl, hb1⟩; have HB1 := hid ((Below.refl w.heap.size w).drew.trans hb1); clear hb1; go_wp2_with fail
    refine hK.out _ _ (by exact ⟨cell_later HB1.out HS.out.1, cell_later HB1.out HS.out.2.1, cell_later HB1.out HS.out.2.2.1, cell_later HB1.out HS.out.2.2.2⟩) (fun hHeld => ?_)
    clear hK K
    try simp only [Act.put, List.setIfInBounds_toArray, List.set_cons_zero, List.set_cons_succ]
    refine wpAnyH_take (i := 6) (oi := { dst := some 4, op := Op.assign (Operand.tmp 10), type := _, pos := _, after := _, guard := none }) (v := ?_) rfl (by kernel_rfl) (by kernel_rfl) (by kernel_rfl) (fun _ _ _ h => h) (Or.inl ⟨by rfl, ?_⟩) (by assumption) ?_
    rotate_left
    · intro w hSw; (try dsimp only at hSw); go_simp; try with_reducible rfl
    try simp only [Act.put, List.setIfInBounds_toArray, List.set_cons_zero, List.set_cons_succ]
    refine wpAnyH_done (by kernel_rfl) ?_ _
    all_goals
      go_wp2_with fail
      go_ret
      exact ⟨rfl, HB1.out⟩
set_option maxRecDepth 100000 in
set_option maxHeartbeats 2000000 in
theorem right1c_any (d : Nat) (t : Tr d) (k0 k1 : Int) (A0 : Option Addr) (n0 p0 b1 b2 b o c : Nat) (l : List Int) (k : Nat) (hk : k ≤ l.length) (hn : l.length ≤ 1000) (w : World)
    (hL : IsTr w Any d (.agg #[.int .i64 k0, .int .i64 k1, .slice A0 n0 p0]) t) (hl : IsNums .i64 w Any (.slice (some ⟨b, o, none⟩) l.length c) l)
    (hc : w.cell? ⟨b1, 3, none⟩ = some (.int .i64 k0) ∧ w.cell? ⟨b1, 4, none⟩ = some (.int .i64 k1) ∧ w.cell? ⟨b1, 5, none⟩ = some (.slice A0 n0 p0) ∧ w.cell? ⟨b2, 0, none⟩ = some (.slice (some ⟨b, o, none⟩) l.length c)) :
    Calls Try.prog 85 #[.int .i64 k, .pointer (some ⟨b1, 0, none⟩), .pointer (some ⟨b2, 0, none⟩)] w fun e w' => e = .returned (.bool (matchesT t (l.take k))) ∧ Below w.heap.size w w' := by
  have HS := hid hc
  have HLD := hid (hL.keep (w' := w.drew) (fun _ _ _ => rfl))
  have HND := hid ((hl.take hk).keep (w' := w.drew) (fun _ _ _ => rfl))
  have hcap : l.length ≤ c := by obtain ⟨A, c', e, h1, h2, h3⟩ := hl; cases e; exact h1
  have hkc : k ≤ c := Nat.le_trans hk hcap
  clear hc hL hl
  go_enter Try.func85, Try.ntmps85
  go_wp2_with fail
  refine wp_region_held_drew (S := (fun Y => Y.cell? ⟨b1, 3, none⟩ = some (.int .i64 k0) ∧ Y.cell? ⟨b1, 4, none⟩ = some (.int .i64 k1) ∧ Y.cell? ⟨b1, 5, none⟩ = some (.slice A0 n0 p0) ∧ Y.cell? ⟨b2, 0, none⟩ = some (.slice (some ⟨b, o, none⟩) l.length c))) (by kernel_rfl) (by exact HS.out) (fun hHeld => ?_)
  refine wpAnyH_take (i := 0) (oi := { dst := some 5, op := Op.fieldAddr 47 (Operand.tmp 1) 1, type := _, pos := _, after := _, guard := none }) (v := ?_) rfl (by kernel_rfl) (by kernel_rfl) (by kernel_rfl) (fun _ _ _ h => h) (Or.inl ⟨by rfl, ?_⟩) (by assumption) ?_
  rotate_left
  · intro w hSw; (try dsimp only at hSw); go_simp; try with_reducible rfl
  try simp only [Act.put, List.setIfInBounds_toArray, List.set_cons_zero, List.set_cons_succ]
  refine wpAnyH_take (i := 1) (oi := { dst := some 6, op := Op.load 45 (Operand.tmp 5), type := _, pos := _, after := _, guard := none }) (v := ?_) rfl (by kernel_rfl) (by kernel_rfl) (by kernel_rfl) (fun _ _ _ h => h) (Or.inl ⟨by rfl, ?_⟩) (by assumption) ?_
  rotate_left
  · intro w hSw; (try dsimp only at hSw); go_simp; try with_reducible rfl
  try simp only [Act.put, List.setIfInBounds_toArray, List.set_cons_zero, List.set_cons_succ]
  refine wpAnyH_take (i := 2) (oi := { dst := some 7, op := Op.load 22 (Operand.tmp 2), type := _, pos := _, after := _, guard := none }) (v := ?_) rfl (by kernel_rfl) (by kernel_rfl) (by kernel_rfl) (fun _ _ _ h => h) (Or.inl ⟨by rfl, ?_⟩) (by assumption) ?_
  rotate_left
  · intro w hSw; (try dsimp only at hSw); go_simp; try with_reducible rfl
  try simp only [Act.put, List.setIfInBounds_toArray, List.set_cons_zero, List.set_cons_succ]
  refine wpAnyH_take (i := 3) (oi := { dst := some 8, op := Op.move (Operand.tmp 0), type := _, pos := _, after := _, guard := none }) (v := ?_) rfl (by kernel_rfl) (by kernel_rfl) (by kernel_rfl) (fun _ _ _ h => h) (Or.inl ⟨by rfl, ?_⟩) (by assumption) ?_
  rotate_left
  · intro w hSw; (try dsimp only at hSw); go_simp; try with_reducible rfl
  try simp only [Act.put, List.setIfInBounds_toArray, List.set_cons_zero, List.set_cons_succ]
  refine wpAnyH_take (i := 4) (oi := { dst := some 9, op := Op.slice 22 (Operand.tmp 7) none (some (Operand.tmp 8)) none, type := _, pos := _, after := _, guard := none }) (v := ?_) rfl (by kernel_rfl) (by kernel_rfl) (by kernel_rfl) (fun _ _ _ h => h) (Or.inl ⟨by rfl, ?_⟩) (by assumption) ?_
  rotate_left
  · intro w hSw; (try dsimp only at hSw); go_simp; try with_reducible rfl
  try simp only [Act.put, List.setIfInBounds_toArray, List.set_cons_zero, List.set_cons_succ]
  refine wpAnyH_ready (rs := [5]) (by kernel_rfl) (by simp) ?_
  refine AllReadyH.cons (o := { dst := some 10, op := Op.call { callee := Callee.value (Operand.func 27), args := #[Operand.tmp 6, Operand.tmp 9], argTypes := #[45, 22] }, type := _, pos := _, after := _, guard := none }) rfl (fun K hK => ?_) AllReadyH.nil
  go_simp
  refine (matches_any d _ _ t (l.take k) _ (show IsTr w.drew Any d _ t from HLD.out) (show IsNums .i64 w.drew Any _ (l.take k) from HND.out) (by simp; omega)).mono ?_; rintro e w1 ⟨rfl, hb1⟩; have HB1 := hid ((Below.refl w.heap.size w).drew.trans hb1); clear hb1; go_wp2_with fail
  refine hK.out _ _ (by exact ⟨cell_later HB1.out HS.out.1, cell_later HB1.out HS.out.2.1, cell_later HB1.out HS.out.2.2.1, cell_later HB1.out HS.out.2.2.2⟩) (fun hHeld => ?_)
  clear hK K
  try simp only [Act.put, List.setIfInBounds_toArray, List.set_cons_zero, List.set_cons_succ]
  refine wpAnyH_take (i := 6) (oi := { dst := some 4, op := Op.assign (Operand.tmp 10), type := _, pos := _, after := _, guard := none }) (v := ?_) rfl (by kernel_rfl) (by kernel_rfl) (by kernel_rfl) (fun _ _ _ h => h) (Or.inl ⟨by rfl, ?_⟩) (by assumption) ?_
  rotate_left
  · intro w hSw; (try dsimp only at hSw); go_simp; try with_reducible rfl
  try simp only [Act.put, List.setIfInBounds_toArray, List.set_cons_zero, List.set_cons_succ]
  refine wpAnyH_done (by kernel_rfl) ?_ _
  all_goals
    go_wp2_with fail
    go_ret
    exact ⟨rfl, HB1.out⟩
end Go.Proofs.Ytjcdcmeclnihbaa
