/- The library's Clone, at three element types. The clone is the call's own. Condition: what is cloned takes at most 2^47 bytes. -/
import Derived.Test.YtmdkmobcglnmgaaSame
import Derived.Test.YtmdkmobcglnmgaaBaseB
namespace Go.Proofs.Ytmdkmobcglnmgaa
open Go.RowKit

theorem info3 : (Try.prog.info? 3).map (fun i => (i.zero, i.size, i.bytes)) = some (some (.int .i64 0), 1, 8) := by kernel_rfl
theorem info52 : (Try.prog.info? 52).map (fun i => (i.zero, i.size, i.bytes)) = some (some (.int .u64 0), 1, 8) := by kernel_rfl
theorem info30 : (Try.prog.info? 30).map (fun i => (i.zero, i.size, i.bytes)) = some (some (.agg #[.slice none 0 0, .slice none 0 0]), 2, 48) := by kernel_rfl

/-- A returned row of the call's own. -/
def Owned (w : World) (e size n : Nat) (xs : List Value) (en : Ending) (w' : World) : Prop :=
  ∃ v, en = .returned v ∧ w'.ownsRow w.heap.size e size v n xs ∧ Below w.heap.size w w'

set_option maxHeartbeats 400000 in
theorem clone49_any (A : Option Addr) (n c : Nat) (xs : List Value) (w : World) (hs : Src w 1 A n xs) (h1 : ∀ u ∈ xs, u.oneCell' = true) (hb : n * 8 ≤ 140737488355328) :
    Calls Try.prog 49 #[.slice A n c] w (Owned w 3 1 n xs) := by
  obtain ⟨i0, hi0, hz0, hz1, hz2⟩ := info_parts info3
  cases A with
  | none =>
    have hn : n = 0 := by
      rcases Nat.eq_zero_or_pos n with h | h
      · exact h
      · obtain ⟨ad, e, _⟩ := hs.2 h; cases e
    subst hn
    have hx : xs = [] := List.eq_nil_of_length_eq_zero (by simpa using hs.1)
    subst hx
    have hq := fun w => Lib.run_eql_slice_nil (P := Try.prog) w
    go_enter Try.func49, Try.ntmps49
    go_wp2_with fail
    go_ret
    exact ⟨_, rfl, World.ownsRow_nil _ _ _ _, Below.refl _ _⟩
  | some ad =>
    have hq := fun w => Lib.run_eql_slice_nil (P := Try.prog) w
    have HS := hid hs
    have H1 := hid h1
    clear hs h1
    go_enter Try.func49, Try.ntmps49
    go_wp2_with (at_builtin; (refine wpList_app _ rfl (.tmp 5) (.tmp 6) 32 rfl w.heap.size 3 i0 _ 1 8 Try.underlying32 hi0 hz0 hz1 hz2 rfl (by decide) (.slice (some ⟨w.heap.size, 0, none⟩) 0 0) 0 [] rfl ?own (some ad) n c xs rfl ?src H1.out (by simp only [maxLen]; omega) (by omega) (by simp) ?_); rotate_left 2; intro v' w' hown hgrow hat)
    case own => exact World.ownsRow_made _ _ 0 (Nat.le_refl _) (Nat.zero_le _) rfl
    case src => exact HS.out.below ((Below.refl _ _).alloc (Nat.le_refl _) _)
    go_ret
    refine ⟨v', rfl, by simpa using hown, ?_⟩
    exact ((Below.refl _ _).alloc (Nat.le_refl _) _).grown hgrow (by simp) (fun k hk => by simp [Value.ownBlock] at hk; omega)
set_option maxHeartbeats 400000 in
theorem clone50_any (A : Option Addr) (n c : Nat) (xs : List Value) (w : World) (hs : Src w 1 A n xs) (h1 : ∀ u ∈ xs, u.oneCell' = true) (hb : n * 8 ≤ 140737488355328) :
    Calls Try.prog 50 #[.slice A n c] w (Owned w 52 1 n xs) := by
  obtain ⟨i0, hi0, hz0, hz1, hz2⟩ := info_parts info52
  cases A with
  | none =>
    have hn : n = 0 := by
      rcases Nat.eq_zero_or_pos n with h | h
      · exact h
      · obtain ⟨ad, e, _⟩ := hs.2 h; cases e
    subst hn
    have hx : xs = [] := List.eq_nil_of_length_eq_zero (by simpa using hs.1)
    subst hx
    have hq := fun w => Lib.run_eql_slice_nil (P := Try.prog) w
    go_enter Try.func50, Try.ntmps50
    go_wp2_with fail
    go_ret
    exact ⟨_, rfl, World.ownsRow_nil _ _ _ _, Below.refl _ _⟩
  | some ad =>
    have hq := fun w => Lib.run_eql_slice_nil (P := Try.prog) w
    have HS := hid hs
    have H1 := hid h1
    clear hs h1
    go_enter Try.func50, Try.ntmps50
    go_wp2_with (at_builtin; (refine wpList_app _ rfl (.tmp 5) (.tmp 6) 26 rfl w.heap.size 52 i0 _ 1 8 Try.underlying26 hi0 hz0 hz1 hz2 rfl (by decide) (.slice (some ⟨w.heap.size, 0, none⟩) 0 0) 0 [] rfl ?own (some ad) n c xs rfl ?src H1.out (by simp only [maxLen]; omega) (by omega) (by simp) ?_); rotate_left 2; intro v' w' hown hgrow hat)
    case own => exact World.ownsRow_made _ _ 0 (Nat.le_refl _) (Nat.zero_le _) rfl
    case src => exact HS.out.below ((Below.refl _ _).alloc (Nat.le_refl _) _)
    go_ret
    refine ⟨v', rfl, by simpa using hown, ?_⟩
    exact ((Below.refl _ _).alloc (Nat.le_refl _) _).grown hgrow (by simp) (fun k hk => by simp [Value.ownBlock] at hk; omega)
set_option maxHeartbeats 400000 in
theorem clone44_any (A : Option Addr) (n c : Nat) (xs : List Value) (w : World) (hs : Src w 2 A n xs) (h1 : ∀ u ∈ xs, u.oneCell' = true) (hb : n * 48 ≤ 140737488355328) :
    Calls Try.prog 44 #[.slice A n c] w (Owned w 30 2 n xs) := by
  obtain ⟨i0, hi0, hz0, hz1, hz2⟩ := info_parts info30
  cases A with
  | none =>
    have hn : n = 0 := by
      rcases Nat.eq_zero_or_pos n with h | h
      · exact h
      · obtain ⟨ad, e, _⟩ := hs.2 h; cases e
    subst hn
    have hx : xs = [] := List.eq_nil_of_length_eq_zero (by simpa using hs.1)
    subst hx
    have hq := fun w => Lib.run_eql_slice_nil (P := Try.prog) w
    go_enter Try.func44, Try.ntmps44
    go_wp2_with fail
    go_ret
    exact ⟨_, rfl, World.ownsRow_nil _ _ _ _, Below.refl _ _⟩
  | some ad =>
    have hq := fun w => Lib.run_eql_slice_nil (P := Try.prog) w
    have HS := hid hs
    have H1 := hid h1
    clear hs h1
    go_enter Try.func44, Try.ntmps44
    go_wp2_with (at_builtin; (refine wpList_app _ rfl (.tmp 5) (.tmp 6) 24 rfl w.heap.size 30 i0 _ 2 48 Try.underlying24 hi0 hz0 hz1 hz2 rfl (by decide) (.slice (some ⟨w.heap.size, 0, none⟩) 0 0) 0 [] rfl ?own (some ad) n c xs rfl ?src H1.out (by simp only [maxLen]; omega) (by omega) (by simp) ?_); rotate_left 2; intro v' w' hown hgrow hat)
    case own => exact World.ownsRow_made _ _ 0 (Nat.le_refl _) (Nat.zero_le _) rfl
    case src => exact HS.out.below ((Below.refl _ _).alloc (Nat.le_refl _) _)
    go_ret
    refine ⟨v', rfl, by simpa using hown, ?_⟩
    exact ((Below.refl _ _).alloc (Nat.le_refl _) _).grown hgrow (by simp) (fun k hk => by simp [Value.ownBlock] at hk; omega)
end Go.Proofs.Ytmdkmobcglnmgaa
