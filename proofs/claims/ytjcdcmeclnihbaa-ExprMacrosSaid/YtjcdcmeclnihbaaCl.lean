/- Whether a number is in a list (the library's Index and Contains, the document's in); the classes of numbers (the library's Clone, the program's classes, the document's Class). Condition: at most a million numbers. -/
import Derived.Test.YtjcdcmeclnihbaaFl
import Derived.Test.YtjcdcmeclnihbaaBaseC
import Derived.Lib.Strings
namespace Go.Proofs.Ytjcdcmeclnihbaa
open Go.RowKit
def inL (l : List Int) (c : Int) : Bool := l.any fun x => x == c
def classOf (n : Int) : Int := if n < 0 ∨ 35 < n then 0 else n
theorem idx_drop {T : Type} {p : T → Bool} {l : List T} {k : Nat} (hk : k < l.length) : idx p k (l.drop k) = if p l[k] = true then (k : Int) else idx p (k + 1) (l.drop (k + 1)) := by
  rw [List.drop_eq_getElem_cons hk]; rfl
theorem nth_get {l : List Int} {k : Nat} (hk : k < l.length) : nth l k = l[k] := by simp [nth, List.getElem?_eq_getElem hk]
set_option maxRecDepth 100000 in
set_option maxHeartbeats 1000000 in
theorem index_any (S : Nat → Prop) (v : Value) (l : List Int) (c : Int) (w : World) (h : IsNums .i64 w S v l) :
    Calls Try.prog 82 #[v, .int .i64 c] w fun e w' => e = .returned (.int .i64 (idx (fun x => c == x) 0 l)) ∧ w' = w := by
  have hle := h.le
  obtain ⟨A, cp, rfl, -, -, hA⟩ := h
  have HA := hid hA
  clear hA
  go_enter Try.func82, Try.ntmps82
  go_wp2_with fail
  go_loopw [5, 8] (fun _ s8 wr => ∃ k : Nat, k ≤ l.length ∧ s8 = .int .i64 k ∧ Hid (idx (fun x => c == x) k (l.drop k) = idx (fun x => c == x) 0 l) ∧ wr = w) (fun _ s8 _ => l.length - (intOf s8).toNat)
  case atStart => exact ⟨0, by omega, rfl, hid rfl, rfl⟩
  case round =>
    obtain ⟨k, hk, rfl, HT, rfl⟩ := hrel
    by_cases hlt : k < l.length
    · obtain ⟨b, o, rfl, -, hbs, hc⟩ := HA.out.num hlt
      obtain ⟨z, hz⟩ : ∃ z, z = nth l k := ⟨_, rfl⟩
      rw [← hz] at hc
      have hst := (idx_drop (p := fun x => c == x) hlt).symm.trans HT.out
      rw [← nth_get hlt, ← hz] at hst
      have HST := hid hst
      clear hst hz
      cases hcz : (c == z) with
      | true =>
        have HE := hid (show (k : Int) = idx (fun x => c == x) 0 l by have h := HST.out; rw [hcz] at h; exact h)
        go_wp2_with fail
        go_ret
        exact ⟨ret_int HE.out, rfl⟩
      | false =>
        have HN := hid (show idx (fun x => c == x) (k + 1) (l.drop (k + 1)) = idx (fun x => c == x) 0 l by have h := HST.out; rw [hcz] at h; exact h)
        go_wp2_with fail
        go_roundw
        case rel => exact ⟨k + 1, by omega, by go_num, HN, trivial⟩
        case measure => simp [intOf]; omega
    · have HE := hid (show (-1 : Int) = idx (fun x => c == x) 0 l by rw [← HT.out, List.drop_eq_nil_of_le (by omega)]; rfl)
      go_wp2_with fail
      go_ret
      exact ⟨ret_int HE.out, rfl⟩
set_option maxRecDepth 100000 in
theorem contains_any (S : Nat → Prop) (v : Value) (l : List Int) (c : Int) (w : World) (h : IsNums .i64 w S v l) :
    Calls Try.prog 61 #[v, .int .i64 c] w fun e w' => e = .returned (.bool (inL l c)) ∧ w' = w := by
  obtain ⟨A, cp, rfl⟩ := h.form
  go_enter Try.func61, Try.ntmps61
  go_wp2_with fail
  refine (index_any S _ l c _ h).mono ?_
  rintro e w1 ⟨rfl, rfl⟩
  go_wp2_with fail
  go_ret
  exact ⟨ret_bool (by rw [idx_any]; unfold inL; congr 1; funext x; exact Bool.eq_iff_iff.2 (by simp; exact eq_comm)), rfl⟩
set_option maxRecDepth 100000 in
set_option maxHeartbeats 1000000 in
theorem in_any (S : Nat → Prop) (v : Value) (l : List Int) (c : Int) (w : World) (h : IsNums .i64 w S v l) :
    Calls Try.prog 42 #[v, .int .i64 c] w fun e w' => e = .returned (.bool (inL l c)) ∧ w' = w := by
  have hle := h.le
  obtain ⟨A, cp, rfl, -, -, hA⟩ := h
  have HA := hid hA
  clear hA
  go_enter Try.func42, Try.ntmps42
  go_wp2_with fail
  go_loopw [5] (fun s5 wr => ∃ k : Nat, k ≤ l.length ∧ s5 = .int .i64 k ∧ Hid (inL (l.drop k) c = inL l c) ∧ wr = w) (fun s5 _ => l.length - (intOf s5).toNat)
  case atStart => exact ⟨0, by omega, rfl, hid rfl, rfl⟩
  case round =>
    obtain ⟨k, hk, rfl, HT, rfl⟩ := hrel
    by_cases hlt : k < l.length
    · obtain ⟨b, o, rfl, -, hbs, hc⟩ := HA.out.num hlt
      obtain ⟨z, hz⟩ : ∃ z, z = nth l k := ⟨_, rfl⟩
      rw [← hz] at hc
      have hst : ((z == c) || inL (l.drop (k + 1)) c) = inL l c := by rw [← HT.out, drop_nth hlt, hz]; rfl
      have HST := hid hst
      clear hst hz
      cases hcz : (z == c) with
      | true =>
        have HE := hid (show true = inL l c by have h := HST.out; rw [hcz] at h; exact h)
        go_wp2_with fail
        go_ret
        exact ⟨ret_bool HE.out, rfl⟩
      | false =>
        have HN := hid (show inL (l.drop (k + 1)) c = inL l c by have h := HST.out; rw [hcz] at h; exact h)
        go_wp2_with fail
        go_roundw
        case rel => exact ⟨k + 1, by omega, by go_num, HN, trivial⟩
        case measure => simp [intOf]; omega
    · have HE := hid (show false = inL l c by rw [← HT.out, List.drop_eq_nil_of_le (by omega)]; rfl)
      go_wp2_with fail
      go_ret
      exact ⟨ret_bool HE.out, rfl⟩
set_option maxRecDepth 100000 in
theorem class_any (n : Int) (w : World) : Calls Try.prog 43 #[.int .i64 n] w fun e w' => e = .returned (.int .i64 (classOf n)) ∧ w' = w := by
  by_cases h1 : n < 0
  · have b1 := ilt_true h1
    have HE := hid (show (0 : Int) = classOf n by unfold classOf; rw [if_pos (.inl h1)])
    clear h1
    go_enter Try.func43, Try.ntmps43
    go_wp2_with fail
    go_ret
    exact ⟨ret_int HE.out, rfl⟩
  · have b1 := ilt_false h1
    by_cases h2 : 35 < n
    · have b2 := ilt_true h2
      have HE := hid (show (0 : Int) = classOf n by unfold classOf; rw [if_pos (.inr h2)])
      clear h1 h2
      go_enter Try.func43, Try.ntmps43
      go_wp2_with fail
      go_ret
      exact ⟨ret_int HE.out, rfl⟩
    · have b2 := ilt_false h2
      have HE := hid (show n = classOf n by unfold classOf; rw [if_neg (by omega)])
      clear h1 h2
      go_enter Try.func43, Try.ntmps43
      go_wp2_with fail
      go_ret
      exact ⟨ret_int HE.out, rfl⟩
theorem info3 : (Try.prog.info? 3).map (fun i => (i.zero, i.size, i.bytes)) = some (some (.int .i64 0), 1, 8) := by kernel_rfl
set_option maxRecDepth 100000 in
set_option maxHeartbeats 400000 in
theorem clone_any (S : Nat → Prop) (v : Value) (l : List Int) (w : World) (h : IsNums .i64 w S v l) (hn : l.length ≤ 1000000) :
    Calls Try.prog 60 #[v] w fun e w' => ∃ v', e = .returned v' ∧ w'.ownsRow w.heap.size 3 1 v' l.length (l.map (.int .i64)) ∧ Below w.heap.size w w' := by
  obtain ⟨i0, hi0, hz0, hz1, hz2⟩ := info_parts info3
  obtain ⟨A, c, rfl, -, -, hA⟩ := h
  have HS := hid (hA.src (size := 1) (m := l.length) (by simp) (by omega))
  clear hA
  have hq := fun w => Lib.run_eql_slice_nil (P := Try.prog) w
  cases A with
  | none =>
    have hn0 : l.length = 0 := by
      rcases Nat.eq_zero_or_pos l.length with h | h
      · exact h
      · obtain ⟨ad, e, _⟩ := HS.out.2 h; cases e
    have hl : l = [] := List.eq_nil_of_length_eq_zero hn0
    subst hl
    go_enter Try.func60, Try.ntmps60
    go_wp2_with fail
    go_ret
    exact ⟨_, rfl, World.ownsRow_nil _ _ _ _, Below.refl _ _⟩
  | some ad =>
    go_enter Try.func60, Try.ntmps60
    go_wp2_with (at_builtin; (refine wpList_app _ rfl (.tmp 5) (.tmp 6) 22 rfl w.heap.size 3 i0 _ 1 8 Try.underlying22 hi0 hz0 hz1 hz2 rfl (by decide) (.slice (some ⟨w.heap.size, 0, none⟩) 0 0) 0 [] rfl ?own (some ad) l.length c (l.map (.int .i64)) rfl ?src (one_nums _ _) (by simp only [maxLen]; omega) (by omega) (by simp) ?_); rotate_left 2; intro v' w' hown hgrow hat)
    case own => exact World.ownsRow_made _ _ 0 (Nat.le_refl _) (Nat.zero_le _) rfl
    case src => exact HS.out.below ((Below.refl _ _).alloc (Nat.le_refl _) _)
    go_ret
    refine ⟨v', rfl, by simpa using hown, ?_⟩
    exact ((Below.refl _ _).alloc (Nat.le_refl _) _).grown hgrow (by simp) (fun k hk => by simp [Value.ownBlock] at hk; omega)
/-- What the first so many have become. -/
def clTo (ids : List Int) (k : Nat) : List Int := (ids.take k).map classOf ++ ids.drop k
theorem clTo_len {ids : List Int} {k : Nat} (hk : k ≤ ids.length) : (clTo ids k).length = ids.length := by simp [clTo]; omega
theorem clTo_nth {ids : List Int} {k : Nat} (hk : k < ids.length) : nth (clTo ids k) k = nth ids k := by
  unfold clTo nth
  rw [List.getElem?_append_right (by simp; omega)]
  simp [show min k ids.length = k by omega]
theorem clTo_step {ids : List Int} {k : Nat} (hk : k < ids.length) : clTo ids (k + 1) = (clTo ids k).set k (classOf (nth ids k)) := by
  unfold clTo
  have hl : ((ids.take k).map classOf).length = k := by simp; omega
  rw [List.set_append_right _ _ (by omega), hl, Nat.sub_self, drop_nth hk, List.set_cons_zero, take_nth hk, List.map_append, List.append_assoc]
  rfl
set_option maxRecDepth 100000 in
set_option maxHeartbeats 2000000 in
theorem classes_any (S : Nat → Prop) (v : Value) (ids : List Int) (w : World) (h : IsNums .i64 w S v ids) (hn : ids.length ≤ 1000) :
    Calls Try.prog 38 #[v] w fun e w' => ∃ v', e = .returned v' ∧ IsNums .i64 w' (fun b => w.heap.size ≤ b) v' (ids.map classOf) ∧ Below w.heap.size w w' := by
  obtain ⟨A, c, rfl⟩ := h.form
  have H := hid h
  have HN := hid hn
  clear h
  obtain ⟨n, hnn⟩ : ∃ n, n = ids.length := ⟨_, rfl⟩
  have HNN := hid hnn
  go_enter Try.func38, Try.ntmps38
  go_wp2_with fail
  refine (clone_any S _ ids w H.out (by have := HN.out; omega)).mono ?_
  rintro e w1 ⟨v1, rfl, ho1, hb1⟩
  rw [← hnn] at ho1 hn
  obtain ⟨A1, c1, rfl, -, -, -⟩ := own_arr ho1
  have HO1 := hid ho1
  have HB1 := hid hb1
  clear hnn ho1 hb1
  go_wp2_with fail
  go_loopw [4, 5, 10] (fun _ _ s10 wr => ∃ k : Nat, k ≤ n ∧ s10 = .int .i64 k ∧ Hid (wr.ownsRow w.heap.size 3 1 (.slice A1 n c1) n ((clTo ids k).map (.int .i64))) ∧ Hid (Below w.heap.size w wr)) (fun _ _ s10 _ => n - (intOf s10).toNat)
  case atStart => exact ⟨0, by omega, rfl, hid (by simpa [clTo] using HO1.out), HB1⟩
  case round =>
    obtain ⟨k, hk, rfl, HO, HW⟩ := hrel
    by_cases hlt : k < n
    · obtain ⟨g, rfl⟩ : ∃ g, A1 = some ⟨g, 0, none⟩ := by
        rcases HO.out.2 with ⟨_, h0⟩ | ⟨g, _, _, e, _⟩
        · omega
        · cases e; exact ⟨g, rfl⟩
      have hki : k < ids.length := by rw [← HNN.out]; exact hlt
      have hc := HO.out.cellAt k (by omega)
      have hf := HO.out.frozenAt k
      have hlt2 := (HO.out.lt g rfl).1
      rw [List.getElem?_map, some_nth (by rw [clTo_len (by omega)]; exact hki), clTo_nth hki] at hc
      obtain ⟨z, hz⟩ : ∃ z, z = nth ids k := ⟨_, rfl⟩
      have hst := clTo_step hki
      rw [← hz] at hc hst
      simp only [Option.map_some] at hc
      have HST := hid hst
      have HGE := hid hlt2
      clear hst hki hlt2
      have hsame : classOf z = z → Hid (wr.ownsRow w.heap.size 3 1 (.slice (some ⟨g, 0, none⟩) n c1) n ((clTo ids (k + 1)).map (.int .i64))) := fun e => hid (by
        have h := HO.out
        rw [HST.out, e, hz]
        rw [show (clTo ids k).set k (nth ids k) = clTo ids k from by
          apply List.ext_getElem?
          intro j
          rw [List.getElem?_set]
          split
          · rename_i e'
            subst e'
            have hki : k < ids.length := by rw [← HNN.out]; exact hlt
            rw [if_pos (by rw [clTo_len (by omega)]; exact hki), ← clTo_nth hki, some_nth (by rw [clTo_len (by omega)]; exact hki)]
          · rfl]
        exact h)
      have HSM := hid hsame
      have hzero : classOf z = 0 → Hid ((wr.setCell ⟨g, k, none⟩ (.int .i64 0)).ownsRow w.heap.size 3 1 (.slice (some ⟨g, 0, none⟩) n c1) n ((clTo ids (k + 1)).map (.int .i64))) := fun e => hid (by
        have h := (HO.out.stored k (.int .i64 0)).1
        rw [HST.out, e, List.map_set]
        exact h)
      have HZR := hid hzero
      have HBZ := hid (HW.out.setCell (p := ⟨g, k, none⟩) HGE.out (.int .i64 0))
      clear hsame hzero hz
      by_cases h1 : z < 0
      · have b1 := ilt_true h1
        have HE := HZR.out (by unfold classOf; rw [if_pos (.inl h1)])
        clear h1
        go_wp2_with fail
        go_roundw
        case rel => exact ⟨k + 1, by omega, by go_num, HE, HBZ⟩
        case measure => simp [intOf]; omega
      · have b1 := ilt_false h1
        by_cases h2 : 36 ≤ z
        · have b2 := ile_true h2
          have HE := HZR.out (by unfold classOf; rw [if_pos (.inr (by omega))])
          clear h1 h2
          go_wp2_with fail
          go_roundw
          case rel => exact ⟨k + 1, by omega, by go_num, HE, HBZ⟩
          case measure => simp [intOf]; omega
        · have b2 := ile_false h2
          have HE := HSM.out (by unfold classOf; rw [if_neg (by omega)])
          clear h1 h2
          go_wp2_with fail
          go_roundw
          case rel => exact ⟨k + 1, by omega, by go_num, HE, HW⟩
          case measure => simp [intOf]; omega
    · obtain rfl : k = n := by omega
      have HE := hid (show wr.ownsRow w.heap.size 3 1 (.slice A1 k c1) k ((ids.map classOf).map (.int .i64)) by
        have h := HO.out
        rw [show clTo ids k = ids.map classOf by unfold clTo; rw [HNN.out, List.take_length, List.drop_length, List.append_nil]] at h
        exact h)
      go_wp2_with fail
      go_ret
      exact ⟨_, rfl, (own_nums HE.out).mono (fun b hb _ => hb.1), HW.out⟩
end Go.Proofs.Ytjcdcmeclnihbaa
