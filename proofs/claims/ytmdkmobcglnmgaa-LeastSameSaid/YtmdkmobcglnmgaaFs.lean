/- States that tell the same lie in one block: plain; laws at the operations. No conditions. -/
import Derived.Test.YtmdkmobcglnmgaaSp
namespace Go.Proofs.Ytmdkmobcglnmgaa
open Go.RowKit

/-- At which places a number stands. -/
def pos (l : List Int) (b : Int) : List Int := ((List.range l.length).filter fun i => nth l i == b).map fun (i : Nat) => (i : Int)
theorem nth_left {l k : List Int} {i : Nat} (h : i < l.length) : nth (l ++ k) i = nth l i := by
  unfold nth
  rw [List.getElem?_append_left h]
theorem nth_last (l : List Int) (z : Int) : nth (l ++ [z]) l.length = z := by
  unfold nth
  simp
theorem pos_snoc (l : List Int) (z b : Int) : pos (l ++ [z]) b = pos l b ++ if z = b then [(l.length : Int)] else [] := by
  unfold pos
  rw [List.length_append, List.length_singleton, List.range_succ, List.filter_append, List.map_append]
  congr 1
  · congr 1
    refine List.filter_congr fun i hi => ?_
    rw [nth_left (List.mem_range.1 hi)]
  · rw [List.filter_cons, nth_last]
    by_cases e : z = b
    · simp [e]
    · simp [e]
theorem pos_len (l : List Int) (b : Int) : (pos l b).length ≤ l.length := by
  unfold pos
  rw [List.length_map]
  have := List.length_filter_le (fun i => nth l i == b) (List.range l.length)
  simpa using this
theorem mem_pos {l : List Int} {b z : Int} : z ∈ pos l b ↔ ∃ i : Nat, i < l.length ∧ nth l i = b ∧ z = i := by
  unfold pos
  simp only [List.mem_map, List.mem_filter, List.mem_range, beq_iff_eq]
  constructor
  · rintro ⟨i, ⟨h1, h2⟩, rfl⟩; exact ⟨i, h1, h2, rfl⟩
  · rintro ⟨i, h1, h2, rfl⟩; exact ⟨i, ⟨h1, h2⟩, rfl⟩
theorem pos_nodup (l : List Int) (b : Int) : (pos l b).Nodup := by
  unfold pos List.Nodup
  rw [List.pairwise_map]
  exact List.Pairwise.imp (fun h e => h (by omega)) ((List.nodup_range (n := l.length)).filter _)
/-- The map of blocks tells where each number stands. -/
def StIs (st : List (Int × GV)) (l : List Int) : Prop := (∀ b, lst st b = pos l b) ∧ ∀ p ∈ st, p.2.2 ≠ []
theorem StIs.nil : StIs [] [] := ⟨fun _ => rfl, fun _ h => by cases h⟩
theorem StIs.snoc {st : List (Int × GV)} {l : List Int} (h : StIs st l) (z : Int) (v : Value) : StIs (mset st z (v, lst st z ++ [(l.length : Int)])) (l ++ [z]) := by
  refine ⟨fun b => ?_, fun p hp => ?_⟩
  · rw [lst_mset, pos_snoc]
    split
    · rename_i e
      subst e
      rw [h.1 z]
    · rename_i e
      rw [h.1 b, List.append_nil]
  · rcases mem_mset hp with rfl | hp
    · simp
    · exact h.2 p hp

theorem zero32 (w : World) : (zeroValue 32).run Try.prog w = .ok (.slice none 0 0) w := by kernel_rfl
theorem zero4 (w : World) : (zeroValue 4).run Try.prog w = .ok (.bool false) w := by kernel_rfl
section
variable {w : World} {b : Nat} {st : List (Int × GV)} {o : Oper} {a : Act} {Kn : Act → World → Prop} {Q : Exit → Act → World → Prop} {ops : Array Oper} {E : Prop} {rest : List Oper}
/-- 'm[k]' of a map of rows: the row, or none. -/
theorem wp_look_row (x ix : Operand) (hop : o.op = .lookup 97 x ix false) (h : GMap w b st) (k : Int) (hk : i64ok k) (hx : a.eval x = .map (some b)) (hi : a.eval ix = .int .i64 k)
    (hn : Kn (a.put o.dst (rowV st k)) w) : Oper.wp Try.prog o a w Kn Q :=
  wp_mlook false intKey x ix 97 hop Try.underlying97 _ (zero32 _) h k hk hx hi (fun e => by unfold rowV at hn; rw [e] at hn; exact hn) fun v u e hR => by unfold rowV at hn; rw [e] at hn; rw [hR]; exact hn
theorem wpList_look_row (hg : o.guard = none) (x ix : Operand) (hop : o.op = .lookup 97 x ix false) (h : GMap w b st) (k : Int) (hk : i64ok k) (hx : a.eval x = .map (some b)) (hi : a.eval ix = .int .i64 k)
    (hn : wpList Try.prog ops Q rest (a.put o.dst (rowV st k)) w) : wpList Try.prog ops Q (o :: rest) a w :=
  wpList_mlookup false intKey hg x ix 97 hop Try.underlying97 _ (zero32 _) h k hk hx hi (fun e => by unfold rowV at hn; rw [e] at hn; exact hn) fun v u e hR => by unfold rowV at hn; rw [e] at hn; rw [hR]; exact hn
theorem info3' : (Try.prog.info? 3).map (fun i => (i.zero, i.size, i.bytes)) = some (some (.int .i64 0), 1, 8) := by kernel_rfl
/-- 'append(row, z)' of ints, in a drawn region, the new number's cell made just before. -/
theorem wp_app_int (s x : Operand) (hop : o.op = .call { callee := .builtin .append, args := #[s, x], argTypes := #[32, 32] }) {B : Nat} {v : Value} {l : List Int} {w0 : World} {z : Int} (hw : w = w0.alloc (.cells #[.int .i64 z] 3))
    (hs : a.eval s = v) (hown : OwnI w0 B v l) (hx : a.eval x = .slice (some ⟨w0.heap.size, 0, none⟩) 1 1) (hl : l.length ≤ 1010000) (hB : B ≤ w0.heap.size)
    (h : ∀ v' w', OwnI w' B v' (l ++ [z]) → w.grownBy w' v.ownBlock → (v'.ownBlock = v.ownBlock ∨ ∃ g, v'.ownBlock = some g ∧ w.heap.size ≤ g) → Kn (a.put o.dst v') w') : Oper.wp Try.prog o a w Kn Q := by
  obtain ⟨i0, hi0, hz0, hz1, hz2⟩ := info_parts info3'
  subst hw
  refine wp_app _ s x 32 hop B 3 i0 _ 1 8 Try.underlying32 hi0 hz0 hz1 hz2 rfl (by decide) v _ _ hs (hown.alloc _) (some ⟨w0.heap.size, 0, none⟩) 1 1 _ hx (src_new w0 _ 3 1 rfl) (by simp [Value.oneCell']) (by simp only [maxLen]; omega) (by omega) (by simp; omega) fun v' w' h1 h2 h3 => h v' w' ?_ h2 ?_
  · have : (l ++ [z]).length = l.length + 1 := by simp
    unfold OwnI
    rw [this, List.map_append]
    exact h1
  · rcases h3 with h3 | h3
    · exact .inl h3
    · exact .inr ⟨_, h3, Nat.le_refl _⟩
end
end Go.Proofs.Ytmdkmobcglnmgaa
