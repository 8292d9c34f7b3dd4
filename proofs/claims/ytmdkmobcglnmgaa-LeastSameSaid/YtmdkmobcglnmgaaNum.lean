/- Of each text a number: like ones have one, in the order in which they come. Condition: fewer than a thousand texts. -/
import Derived.Test.YtmdkmobcglnmgaaCol
namespace Go.Proofs.Ytmdkmobcglnmgaa
open Go.RowKit

/-- The state behind some keys: the known ones, and the numbers told. -/
def numStep {K : Type} [DecidableEq K] (s : List (K × Int) × List Int) (k : K) : List (K × Int) × List Int :=
  match mget s.1 k with
  | some n => (s.1, s.2 ++ [n])
  | none => (mset s.1 k s.1.length, s.2 ++ [(s.1.length : Int)])
def numGo {K : Type} [DecidableEq K] (ks : List K) : List (K × Int) × List Int := ks.foldl numStep ([], [])
def numbered {K : Type} [DecidableEq K] (ks : List K) : List Int := (numGo ks).2

theorem numGo_snoc {K : Type} [DecidableEq K] (ks : List K) (k : K) : numGo (ks ++ [k]) = numStep (numGo ks) k := by simp [numGo, List.foldl_append]
theorem numGo_len {K : Type} [DecidableEq K] (ks : List K) : (numGo ks).2.length = ks.length ∧ (numGo ks).1.length ≤ ks.length := by
  have key : ∀ (ks : List K) (s : List (K × Int) × List Int), (ks.foldl numStep s).2.length = s.2.length + ks.length ∧ (ks.foldl numStep s).1.length ≤ s.1.length + ks.length := by
    intro ks
    induction ks with
    | nil => intro s; simp
    | cons k ks ih =>
      intro s
      obtain ⟨h1, h2⟩ := ih (numStep s k)
      have h3 : (numStep s k).2.length = s.2.length + 1 ∧ (numStep s k).1.length ≤ s.1.length + 1 := by
        unfold numStep
        split
        · simp
        · rename_i h
          rw [mset_new _ (mget_none_iff.1 h)]
          simp
      simp only [List.foldl_cons, List.length_cons]
      omega
  have := key ks ([], [])
  simpa [numGo] using this

/-- The texts in their cells. -/
def IsTexts (w : World) (S : Nat → Prop) (v : Value) (ss : List ByteArray) : Prop :=
  ∃ A c, v = .slice A ss.length c ∧ Arr w S A (ss.map Value.string)

theorem stringKey : MKey Try.prog 9 (fun s : ByteArray => Value.string s) (fun s => s.size ≤ maxLen) :=
  ⟨fun h => by injection h, fun {s} h => ⟨_, WideMaps.keyOf_string_mk Try.underlying9 h⟩, Maps.string_keyed Try.underlying9⟩

theorem zero3 (w : World) : (zeroValue 3).run Try.prog w = .ok (.int .i64 0) w := by kernel_rfl

set_option maxRecDepth 100000 in
set_option maxHeartbeats 400000 in
theorem num_any (S : Nat → Prop) (v : Value) (ss : List ByteArray) (w : World) (h : IsTexts w S v ss) (hs : ∀ s ∈ ss, s.size ≤ maxLen) (hn : ss.length ≤ 1000) :
    Calls Try.prog 47 #[v] w fun e w' => Owned w 3 1 (numbered ss).length ((numbered ss).map (.int .i64)) e w' := by
  obtain ⟨i0, hi0, hz0, hz1, hz2⟩ := info_parts info3
  obtain ⟨A, c, rfl, hA⟩ := h
  have HA := hid hA
  have HS := hid hs
  clear hA hs
  have hmm := @run_makeMap Try.prog
  go_enter Try.func47, Try.ntmps47
  go_wp2_with fail
  clear hmm
  go_loopw [4, 12] (fun s4 i wr => ∃ k : Nat, k ≤ ss.length ∧ i = .int .i64 k ∧ wr.ownsRow w.heap.size 3 1 s4 (numGo (ss.take k)).2.length ((numGo (ss.take k)).2.map (.int .i64)) ∧
      MapIs wr w.heap.size (fun s : ByteArray => Value.string s) (fun s => s.size ≤ maxLen) (fun (n : Int) u => u = .int .i64 n) (numGo (ss.take k)).1 ∧ Below w.heap.size w wr) (fun _ i _ => ss.length - (intOf i).toNat)
  case atStart => exact ⟨0, by omega, rfl, World.ownsRow_nil _ _ _ _, mapIs_new _ _ _ _, (Below.refl _ _).alloc (Nat.le_refl _) _⟩
  case round =>
    obtain ⟨k, hk, rfl, hown, hmap, hbw⟩ := hrel
    by_cases hlt : k < ss.length
    · obtain ⟨s, hsk⟩ : ∃ s, ss[k]? = some s := ⟨_, List.getElem?_eq_getElem hlt⟩
      obtain ⟨b, o, rfl, _, hb, hc1⟩ := HA.out.at (k := k) (v := .string s) (by simp [hsk])
      have hc1w : wr.cell? ⟨b, o + k, none⟩ = some (.string s) := (hbw.cell (p := ⟨b, o + k, none⟩) hb).trans hc1
      have hsz := HS.out s (List.mem_of_getElem? hsk)
      have hst := hid (show numGo (ss.take (k + 1)) = numStep (numGo (ss.take k)) s by rw [List.take_add_one, hsk]; exact numGo_snoc _ _)
      have hbz : w.heap.size < wr.heap.size := hmap.lt
      have hlen := fun ty => hmap.len (P := Try.prog) (ty := ty) Try.underlying95
      have hkl : (numGo (ss.take k)).1.length ≤ 1000 := by have := (numGo_len (ss.take k)).2; rw [List.length_take] at this; omega
      have hkl2 : (numGo (ss.take k)).2.length ≤ 1000 := by have := (numGo_len (ss.take k)).1; rw [List.length_take] at this; omega
      have HO := hid hown
      have HM := hid hmap
      clear hown hmap hc1 hsk
      cases hg : mget (numGo (ss.take k)).1 s with
      | some n =>
        have HG := hid hg
        have hst2 := hid (show numGo (ss.take (k + 1)) = ((numGo (ss.take k)).1, (numGo (ss.take k)).2 ++ [n]) by rw [hst.out]; unfold numStep; rw [hg])
        clear hg hlen
        go_wp2_with (first
          | (at_lookup; refine wpList_mlookup_some true stringKey rfl (.tmp 17) (.tmp 18) 95 rfl Try.underlying95 _ (zero3 _) HM.out s hsz rfl rfl n HG.out ?_; intro u hu; rw [hu])
          | (at_lookup; refine wpList_mlookup_some false stringKey rfl (.tmp 29) (.tmp 30) 95 rfl Try.underlying95 _ (zero3 _) HM.out s hsz rfl rfl n HG.out ?_; intro u hu; rw [hu])
          | (at_builtin; refine wpList_app _ rfl (.tmp 28) (.tmp 32) 32 rfl w.heap.size 3 i0 _ 1 8 Try.underlying32 hi0 hz0 hz1 hz2 rfl (by decide) u4 _ _ rfl (HO.out.alloc _) (some ⟨wr.heap.size, 0, none⟩) 1 1 _ rfl (src_new wr _ 3 1 rfl) (by simp [Value.oneCell']) (by simp only [maxLen]; omega) (by omega) (by simp; omega) ?_; intro v' w1 hown1 hgrow1 hat1))
        go_roundw
        case rel =>
          refine ⟨k + 1, by omega, by go_num, ?_, ?_, below_own (hbw.alloc (by omega) _) (HO.out.alloc _) hgrow1 (by simp; omega)⟩
          · rw [hst2.out, List.length_append, List.map_append]; exact hown1
          · rw [hst2.out]; exact (HM.out.alloc _).grown hgrow1 (Ne.symm (own_map_ne HO.out HM.out))
        case measure => simp [intOf]; omega
      | none =>
        have HG := hid hg
        have hst2 := hid (show numGo (ss.take (k + 1)) = (mset (numGo (ss.take k)).1 s (numGo (ss.take k)).1.length, (numGo (ss.take k)).2 ++ [((numGo (ss.take k)).1.length : Int)]) by rw [hst.out]; unfold numStep; rw [hg])
        have HG2 := hid (show mget (mset (numGo (ss.take k)).1 s ((numGo (ss.take k)).1.length : Int)) s = some ((numGo (ss.take k)).1.length : Int) by rw [mget_mset, if_pos rfl])
        clear hg
        go_wp2_with (first
          | (at_lookup; refine wpList_mlookup_none true stringKey rfl (.tmp 17) (.tmp 18) 95 rfl Try.underlying95 _ (zero3 _) HM.out s hsz rfl rfl HG.out ?_)
          | (at_mapUpdate; refine wpList_mupdate stringKey rfl (.tmp 24) (.tmp 25) (.tmp 27) 95 rfl Try.underlying95 HM.out s hsz ((numGo (ss.take k)).1.length : Int) _ rfl rfl rfl rfl ?_; intro w1 hm1 hg1)
          | (at_lookup; refine wpList_mlookup_some false stringKey rfl (.tmp 29) (.tmp 30) 95 rfl Try.underlying95 _ (zero3 _) hm1 s hsz rfl rfl ((numGo (ss.take k)).1.length : Int) HG2.out ?_; intro u hu; rw [hu])
          | (at_builtin; refine wpList_app _ rfl (.tmp 28) (.tmp 32) 32 rfl w.heap.size 3 i0 _ 1 8 Try.underlying32 hi0 hz0 hz1 hz2 rfl (by decide) u4 _ _ rfl ((own_kept_map HO.out HM.out hg1).alloc _) (some ⟨w1.heap.size, 0, none⟩) 1 1 _ rfl (src_new w1 _ 3 1 rfl) (by simp [Value.oneCell']) (by simp only [maxLen]; omega) (by omega) (by have := hg1.size; simp; omega) ?_; intro v' w2 hown2 hgrow2 hat2))
        have hb1 : Below w.heap.size w w1 := hbw.grown hg1 (by omega) (fun k hk => by cases hk; exact Nat.le_refl _)
        have hz1' := hg1.size
        go_roundw
        case rel =>
          refine ⟨k + 1, by omega, by go_num, ?_, ?_, below_own (hb1.alloc (by omega) _) ((own_kept_map HO.out HM.out hg1).alloc _) hgrow2 (by simp; omega)⟩
          · rw [hst2.out, List.length_append, List.map_append]; exact hown2
          · rw [hst2.out]; exact (hm1.alloc _).grown hgrow2 (Ne.symm (own_map_ne HO.out HM.out))
        case measure => simp [intOf]; omega
    · obtain rfl : k = ss.length := by omega
      have HO := hid hown
      clear hown hmap
      go_wp2
      go_ret
      have h := HO.out
      rw [List.take_length] at h
      exact ⟨_, rfl, h, hbw⟩
end Go.Proofs.Ytmdkmobcglnmgaa
