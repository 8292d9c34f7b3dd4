/- An automaton in memory, to be looked at: the program's Begin, Count, takes. No conditions. -/
import Derived.Test.YthdhbkngbmjjkaaNw
namespace Go.Proofs.Ythdhbkngbmjjkaa
open Go.RowKit
set_option linter.unusedSimpArgs false
def IsNfa (w : World) (g : Nat) (search : Bool) (s : Bs) : Prop := ∃ B H b1 b2, NB w g B search (.map (some b1)) (.map (some b2)) s ∧ Known w H b1 b2 s (s.lfs.length + 1)
theorem IsNfa.below {w w' : World} {g : Nat} {search : Bool} {s : Bs} (h : IsNfa w g search s) (hb : Below w.heap.size w w') : IsNfa w' g search s := by
  obtain ⟨B, H, b1, b2, h1, h2⟩ := h
  exact ⟨B, H, b1, b2, h1.below hb, h2.below hb⟩
theorem IsNfa.slots {w : World} {g : Nat} {search : Bool} {s : Bs} (h : IsNfa w g search s) : ∃ A c B H b1 b2, (w.cell? ⟨g, 0, none⟩ = some (.bool search) ∧ w.cell? ⟨g, 1, none⟩ = some (.slice A s.lfs.length c) ∧ w.cell? ⟨g, 3, none⟩ = some (.map (some b1)) ∧ w.cell? ⟨g, 4, none⟩ = some (.map (some b2))) ∧
    LfAt w B (.slice A s.lfs.length c) s.lfs ∧ Known w H b1 b2 s (s.lfs.length + 1) ∧ g < w.heap.size := by
  obtain ⟨B, H, b1, b2, ⟨hB, lv, kv, hg, hl, hk⟩, h2⟩ := h
  obtain ⟨A, c, rfl, -⟩ := own_arr hl
  obtain ⟨c0, c1, -, c3, c4, -⟩ := slot5 hg
  exact ⟨A, c, B, H, b1, b2, ⟨c0, c1, c3, c4⟩, hl, h2, (Array.getElem?_eq_some_iff.1 hg).1⟩
theorem nums_new (w : World) (zs : List Int) (S : Nat → Prop) (hS : S w.heap.size) (hl : zs.length ≤ maxLen) : IsNums .i64 (w.alloc (.cells (zs.map (.int .i64)).toArray 3)) S (.slice (some ⟨w.heap.size, 0, none⟩) zs.length zs.length) zs := by
  refine ⟨_, _, rfl, Nat.le_refl _, hl, fun _ => ⟨_, _, rfl, hS, fun k v hk => ?_⟩⟩
  rw [Nat.zero_add, cell_of_row _ _ k _ _ _ (heap_alloc_new w (.cells (zs.map (.int .i64)).toArray 3)), ← Array.getElem?_toList]
  exact hk
set_option maxRecDepth 100000 in
theorem begin_any (g : Nat) (w : World) : Calls Try.prog 19 #[.pointer (some ⟨g, 0, none⟩)] w fun e w' => ∃ v, e = .returned v ∧ IsNums .i64 w' (fun b => w.heap.size ≤ b) v [0] ∧ Below w.heap.size w w' := by
  go_enter Try.func19, Try.ntmps19
  go_wp2_with fail
  go_ret
  refine ⟨_, rfl, nums_new w [0] (fun b => w.heap.size ≤ b) (Nat.le_refl _) (by decide), (Below.refl _ _).alloc (Nat.le_refl _) _⟩
set_option maxRecDepth 100000 in
theorem begin_nil (w : World) : Calls Try.prog 19 #[.pointer none] w fun e w' => e = .returned (.slice none 0 0) ∧ w' = w := by
  go_enter Try.func19, Try.ntmps19
  go_wp2_with fail
  go_ret
  exact ⟨rfl, rfl⟩
set_option maxRecDepth 100000 in
theorem count_any (g : Nat) (search : Bool) (s : Bs) (w : World) (h : IsNfa w g search s) (hn : s.lfs.length ≤ 1000000) : Calls Try.prog 20 #[.pointer (some ⟨g, 0, none⟩)] w fun e w' => e = .returned (.int .i64 ((s.lfs.length + 1 : Nat) : Int)) ∧ w' = w := by
  obtain ⟨A, c, B, H, b1, b2, ⟨c0, c1, c3, c4⟩, -⟩ := h.slots
  go_enter Try.func20, Try.ntmps20
  go_wp2_with fail
  go_ret
  exact ⟨ret_int (by omega), rfl⟩
set_option maxRecDepth 100000 in
theorem count_nil (w : World) : Calls Try.prog 20 #[.pointer none] w fun e w' => e = .returned (.int .i64 0) ∧ w' = w := by
  go_enter Try.func20, Try.ntmps20
  go_wp2_with fail
  go_ret
  exact ⟨rfl, rfl⟩
/-- Does a leaf take a mark? -/
def takesB (k c m : Int) : Bool := if k = 0 then decide (0 ≤ m ∧ m < 36) && decide (m = c) else if k = 1 then decide (0 ≤ m ∧ m < 36) else if k = 2 then decide (0 ≤ m ∧ m < 36) && decide (m ≠ c) else decide (m = 36)
set_option maxRecDepth 100000 in
theorem takes_any (k c t m : Int) (w : World) : Calls Try.prog 54 #[.agg #[.int .i64 k, .int .i64 c, .int .i64 t], .int .i64 m] w fun e w' => e = .returned (.bool (takesB k c m)) ∧ Below w.heap.size w w' := by
  obtain ⟨W, hW⟩ : ∃ W, W = w.alloc (.cells #[.int .i64 k, .int .i64 c, .int .i64 t] 91) := ⟨_, rfl⟩
  have HB := hid (show Below w.heap.size w W by rw [hW]; exact (Below.refl _ _).alloc (Nat.le_refl _) _)
  obtain ⟨f0, f1, f2, -⟩ := slot3 (show W.heap[w.heap.size]? = some (.cells #[.int .i64 k, .int .i64 c, .int .i64 t] 91 (0, 0)) by rw [hW]; exact heap_alloc_new _ _)
  rw [hW] at f0 f1 f2
  unfold takesB
  have hk : k = 0 ∨ k = 1 ∨ k = 2 ∨ (k ≠ 0 ∧ k ≠ 1 ∧ k ≠ 2) := by omega
  have hm : (0 ≤ m ∧ m < 36) ∨ (0 ≤ m ∧ ¬ m < 36) ∨ ¬ 0 ≤ m := by omega
  rcases hm with ⟨h0, h36⟩ | ⟨h0, h36⟩ | h0
  · rcases hk with rfl | rfl | rfl | ⟨k0, k1, k2⟩
    · go_enter Try.func54, Try.ntmps54
      go_wp2_with fail
      rw [← hW]
      go_ret
      exact ⟨ret_bool (by first | rfl | (by_cases e : m = c <;> simp [e] <;> omega) | (simp <;> omega)), HB.out⟩
    · go_enter Try.func54, Try.ntmps54
      go_wp2_with fail
      rw [← hW]
      go_ret
      exact ⟨ret_bool (by first | rfl | (by_cases e : m = c <;> simp [e] <;> omega) | (simp <;> omega)), HB.out⟩
    · go_enter Try.func54, Try.ntmps54
      go_wp2_with fail
      rw [← hW]
      go_ret
      exact ⟨ret_bool (by first | rfl | (by_cases e : m = c <;> simp [e] <;> omega) | (simp <;> omega)), HB.out⟩
    · go_enter Try.func54, Try.ntmps54
      go_wp2_with fail
      rw [← hW]
      go_ret
      exact ⟨ret_bool (by first | rfl | (by_cases e : m = c <;> simp [e] <;> omega) | (simp <;> omega)), HB.out⟩
  · rcases hk with rfl | rfl | rfl | ⟨k0, k1, k2⟩
    · go_enter Try.func54, Try.ntmps54
      go_wp2_with fail
      rw [← hW]
      go_ret
      exact ⟨ret_bool (by first | rfl | (by_cases e : m = c <;> simp [e] <;> omega) | (simp <;> omega)), HB.out⟩
    · go_enter Try.func54, Try.ntmps54
      go_wp2_with fail
      rw [← hW]
      go_ret
      exact ⟨ret_bool (by first | rfl | (by_cases e : m = c <;> simp [e] <;> omega) | (simp <;> omega)), HB.out⟩
    · go_enter Try.func54, Try.ntmps54
      go_wp2_with fail
      rw [← hW]
      go_ret
      exact ⟨ret_bool (by first | rfl | (by_cases e : m = c <;> simp [e] <;> omega) | (simp <;> omega)), HB.out⟩
    · go_enter Try.func54, Try.ntmps54
      go_wp2_with fail
      rw [← hW]
      go_ret
      exact ⟨ret_bool (by first | rfl | (by_cases e : m = c <;> simp [e] <;> omega) | (simp <;> omega)), HB.out⟩
  · rcases hk with rfl | rfl | rfl | ⟨k0, k1, k2⟩
    · go_enter Try.func54, Try.ntmps54
      go_wp2_with fail
      rw [← hW]
      go_ret
      exact ⟨ret_bool (by first | rfl | (by_cases e : m = c <;> simp [e] <;> omega) | (simp <;> omega)), HB.out⟩
    · go_enter Try.func54, Try.ntmps54
      go_wp2_with fail
      rw [← hW]
      go_ret
      exact ⟨ret_bool (by first | rfl | (by_cases e : m = c <;> simp [e] <;> omega) | (simp <;> omega)), HB.out⟩
    · go_enter Try.func54, Try.ntmps54
      go_wp2_with fail
      rw [← hW]
      go_ret
      exact ⟨ret_bool (by first | rfl | (by_cases e : m = c <;> simp [e] <;> omega) | (simp <;> omega)), HB.out⟩
    · go_enter Try.func54, Try.ntmps54
      go_wp2_with fail
      rw [← hW]
      go_ret
      exact ⟨ret_bool (by first | rfl | (by_cases e : m = c <;> simp [e] <;> omega) | (simp <;> omega)), HB.out⟩
/-- What a number tells. -/
def tellOf (s : Bs) (z : Int) : Nat := if 0 ≤ z ∧ z ≤ s.lfs.length then bitsOf s.kns (reachL s.kns (placeK s z.toNat)) else 0
/-- What may come behind a number. -/
def nextOf (s : Bs) (z : Int) : List Int := if 0 ≤ z ∧ z ≤ s.lfs.length then lvsOf s.kns (reachL s.kns (placeK s z.toNat)) else []
def tellsB (s : Bs) (l : List Int) : Nat := l.foldl (fun b z => b ||| tellOf s z) 0
theorem tl_get {s : Bs} {z : Int} {tl : List (Int × Nat)} (h : tl = (List.range (s.lfs.length + 1)).map (fun p : Nat => ((p : Int), bitsOf s.kns (reachL s.kns (placeK s p))))) :
    (mget tl z = none ∧ tellOf s z = 0) ∨ mget tl z = some (tellOf s z) := by
  unfold tellOf
  by_cases hz : 0 ≤ z ∧ z ≤ s.lfs.length
  · right
    rw [if_pos hz]
    refine mget_at ?_ (j := z.toNat) ?_
    · rw [h]
      unfold Once
      rw [List.pairwise_map]
      exact List.Pairwise.imp (fun {a b} hab => by simp only; omega) List.pairwise_lt_range
    · rw [h, List.getElem?_map, List.getElem?_range (by omega)]
      simp only [Option.map_some, Option.some.injEq, Prod.mk.injEq, and_true]
      omega
  · left
    rw [if_neg hz]
    refine ⟨mget_none fun p hp e => hz ?_, rfl⟩
    rw [h] at hp
    obtain ⟨q, hq, rfl⟩ := List.mem_map.1 hp
    have := List.mem_range.1 hq
    simp only at e
    omega
end Go.Proofs.Ythdhbkngbmjjkaa
namespace Go.Proofs.Ythdhbkngbmjjkaa
open Go.RowKit
set_option linter.unusedSimpArgs false
theorem bits_lt {ks : List Kn} (hf : ∀ i, (kn ks i).fin ≤ 64) : ∀ (l : List Int) (b : Nat), b < 2 ^ 64 → l.foldl (bit1 ks) b < 2 ^ 64
  | [], _, h => h
  | _ :: r, _, h => bits_lt hf r _ (bit1_lt h (hf _))
theorem tellOf_lt {s : Bs} (hf : s.fin64) (z : Int) : tellOf s z < 2 ^ 64 := by
  unfold tellOf
  split
  · exact bits_lt (fun i => (hf i).2) _ _ (by decide)
  · decide
theorem wpList_tell {o : Oper} {ops : Array Oper} {rest : List Oper} {Q} {a : Act} {w : World} {b2 : Nat} {s : Bs} (hg : o.guard = none) (x ix : Operand) (hop : o.op = .lookup 81 x ix false) {tl : List (Int × Nat)} (h : TlIs w b2 tl)
    (htl : tl = (List.range (s.lfs.length + 1)).map (fun p : Nat => ((p : Int), bitsOf s.kns (reachL s.kns (placeK s p))))) (z : Int) (hk : i64ok z) (hx : a.eval x = .map (some b2)) (hi : a.eval ix = .int .i64 z)
    (hn : wpList Try.prog ops Q rest (a.put o.dst (.int .u64 (tellOf s z))) w) : wpList Try.prog ops Q (o :: rest) a w := by
  refine wpList_mlookup false intKey hg x ix 81 hop Try.underlying81 _ (zero37 _) h z hk hx hi (fun e => ?_) fun v u e hR => ?_
  · rcases tl_get (z := z) htl with ⟨-, h2⟩ | h2
    · rw [h2] at hn; exact hn
    · rw [h2] at e; cases e
  · rcases tl_get (z := z) htl with ⟨h1, -⟩ | h2
    · rw [h1] at e; cases e
    · rw [h2] at e
      injection e with e
      subst e
      rw [hR]
      exact hn
theorem tells_take {s : Bs} {l : List Int} {k : Nat} (h : k < l.length) : tellsB s (l.take (k + 1)) = tellsB s (l.take k) ||| tellOf s (nth l k) := by
  unfold tellsB
  rw [take_nth h, List.foldl_append]
  rfl
set_option maxRecDepth 100000 in
set_option maxHeartbeats 4000000 in
theorem tells_any (g : Nat) (search : Bool) (s : Bs) (S : Nat → Prop) (v : Value) (l : List Int) (w : World) (h : IsNfa w g search s) (hf : s.fin64) (hv : IsNums .i64 w S v l) (hok : ∀ z ∈ l, i64ok z) :
    Calls Try.prog 22 #[.pointer (some ⟨g, 0, none⟩), v] w fun e w' => e = .returned (.int .u64 (tellsB s l)) ∧ ∃ n, w' = w.drewN n := by
  obtain ⟨A, c, B, H, b1, b2, ⟨c0, c1, c3, c4⟩, -, hK, -⟩ := h.slots
  obtain ⟨nx, tl, -, h2, -, h4, -⟩ := hK
  have H2 := hid h2
  have H4 := hid h4
  have HF := hid hf
  have HOKS := hid hok
  have HV := hid hv
  obtain ⟨A1, c1', rfl⟩ := hv.form
  have hle := hv.le
  clear h2 h4 hf hok hv h c0 c1 c3
  go_enter Try.func22, Try.ntmps22
  go_wp2_with fail
  go_loopw [5, 7, 12] (fun s5 _ s12 wr => ∃ (k b n : Nat), k ≤ l.length ∧ s12 = .int .i64 k ∧ s5 = .int .u64 b ∧ b < 18446744073709551616 ∧ Hid (b = tellsB s (l.take k)) ∧ wr = w.drewN n) (fun _ _ s12 _ => l.length - (intOf s12).toNat)
  case atStart => exact ⟨0, 0, 0, by omega, rfl, rfl, by omega, hid rfl, rfl⟩
  case round =>
    obtain ⟨k, b, n, hk, rfl, rfl, hb, HT, rfl⟩ := hrel
    by_cases hlt : k < l.length
    · obtain ⟨rb, ro, cm', hem, -, -, hrc⟩ := (HV.out.drewN n).at (j := k) hlt
      obtain ⟨rfl, -⟩ : A1 = some ⟨rb, ro, none⟩ ∧ True := by simpa using (show A1 = some ⟨rb, ro, none⟩ by injection hem)
      obtain ⟨z, hz⟩ : ∃ z, z = nth l k := ⟨_, rfl⟩
      rw [← hz] at hrc
      have HOK := hid (show i64ok z by rw [hz]; exact HOKS.out _ (nth_mem hlt))
      have hty := tellOf_lt HF.out z
      obtain ⟨y, hy⟩ : ∃ y, y = tellOf s z := ⟨_, rfl⟩
      have HY := hid hy
      have HN := hid (show b ||| y = tellsB s (l.take (k + 1)) by rw [tells_take hlt, ← HT.out, hy, hz])
      rw [← hy] at hty
      have HOR := hid (or_u64 b y hb hty)
      have hor : b ||| y < 2 ^ 64 := Nat.or_lt_two_pow hb hty
      clear hem hz hy
      go_wp2_with (first
        | (at_lookup; refine wpList_tell (s := s) rfl (.tmp 20) (.tmp 21) rfl (b2 := b2) (tl := tl) H2.out H4.out z HOK.out rfl rfl ?_; rw [← HY.out])
        | fail)
      refine ⟨⟨k + 1, b ||| y, n, by omega, by go_num, congrArg (Value.int .u64) HOR.out, hor, hid HN.out, rfl⟩, by simp [intOf]; omega⟩
    · obtain rfl : k = l.length := by omega
      rw [List.take_length] at HT
      go_wp2_with fail
      go_ret
      exact ⟨by rw [← HT.out]; rfl, n, rfl⟩
set_option maxRecDepth 100000 in
theorem tells_nil (v : Value) (w : World) : Calls Try.prog 22 #[.pointer none, v] w fun e w' => e = .returned (.int .u64 0) ∧ w' = w := by
  go_enter Try.func22, Try.ntmps22
  go_wp2_with fail
  go_ret
  exact ⟨rfl, rfl⟩
end Go.Proofs.Ythdhbkngbmjjkaa
namespace Go.Proofs.Ythdhbkngbmjjkaa
open Go.RowKit
set_option linter.unusedSimpArgs false
theorem eq_first {a b : List Int} (hl : a.length = b.length) {k : Nat} (hk : k < a.length) : (decide (a.drop k = b.drop k)) = (decide (nth a k = nth b k) && decide (a.drop (k + 1) = b.drop (k + 1))) := by
  rw [drop_nth hk, drop_nth (by omega : k < b.length)]
  simp
set_option maxRecDepth 100000 in
set_option maxHeartbeats 4000000 in
theorem is_any (S1 S2 : Nat → Prop) (u v : Value) (a b : List Int) (w : World) (hu : IsNums .i64 w S1 u a) (hv : IsNums .i64 w S2 v b) :
    Calls Try.prog 21 #[u, v] w fun e w' => e = .returned (.bool (decide (a = b))) ∧ Below w.heap.size w w' := by
  have HU := hid hu
  have HV := hid hv
  obtain ⟨A1, c1, rfl⟩ := hu.form
  obtain ⟨A2, c2, rfl⟩ := hv.form
  have hl1 := hu.le
  have hl2 := hv.le
  clear hu hv
  by_cases hl : a.length = b.length
  · have HL := hid hl
    have hbl : ((a.length : Int) == (b.length : Int)) = true := by rw [hl]; exact beq_self_eq_true _
    rw [hl] at hl1 hbl ⊢
    go_enter Try.func21, Try.ntmps21
    go_wp2_with fail
    go_loopw [5] (fun s5 wr => ∃ (k : Nat), k ≤ b.length ∧ s5 = .int .i64 k ∧ Hid (decide (a = b) = decide (a.drop k = b.drop k)) ∧ Hid (Below w.heap.size w wr)) (fun s5 _ => b.length - (intOf s5).toNat)
    case atStart => exact ⟨0, by omega, rfl, hid rfl, hid (Below.refl _ _)⟩
    case round =>
      obtain ⟨k, hk, rfl, HE, HB⟩ := hrel
      by_cases hlt : k < b.length
      · obtain ⟨rb, ro, cm, hem, -, -, c0⟩ := (HU.out.below HB.out).at (j := k) (by rw [HL.out]; exact hlt)
        obtain ⟨rfl, -⟩ : A1 = some ⟨rb, ro, none⟩ ∧ True := by simpa using (show A1 = some ⟨rb, ro, none⟩ by injection hem)
        obtain ⟨sb, so, cn, hen, -, -, d0⟩ := (HV.out.below HB.out).at (j := k) hlt
        obtain ⟨rfl, -⟩ : A2 = some ⟨sb, so, none⟩ ∧ True := by simpa using (show A2 = some ⟨sb, so, none⟩ by injection hen)
        clear hem hen
        have HF := hid (eq_first HL.out (k := k) (by rw [HL.out]; exact hlt))
        obtain ⟨x, hx⟩ : ∃ x, x = nth a k := ⟨_, rfl⟩
        obtain ⟨y, hy⟩ : ∃ y, y = nth b k := ⟨_, rfl⟩
        rw [← hx] at c0 HF
        rw [← hy] at d0 HF
        clear hx hy
        by_cases hxy : x = y
        · have HN := hid (show decide (a = b) = decide (a.drop (k + 1) = b.drop (k + 1)) by rw [HE.out, HF.out]; simp [hxy])
          subst hxy
          go_wp2_with fail
          go_region
          go_wp2_with fail
          refine ⟨⟨k + 1, by omega, by go_num, HN, hid HB.out.drew⟩, by simp [intOf]; omega⟩
        · have HN := hid (show decide (a = b) = false by rw [HE.out, HF.out]; simp [hxy])
          have hne : (x != y) = true := ine_true hxy
          go_wp2_with fail
          go_region
          go_wp2_with fail
          go_ret
          exact ⟨by rw [HN.out]; rfl, HB.out.drew⟩
      · obtain rfl : k = b.length := by omega
        have HN := hid (show decide (a = b) = true by rw [HE.out, List.drop_eq_nil_of_le (by rw [HL.out]; exact Nat.le_refl _), List.drop_eq_nil_of_le (Nat.le_refl _)]; rfl)
        go_wp2_with fail
        go_ret
        exact ⟨by rw [HN.out]; rfl, HB.out⟩
  · have hne : decide (a = b) = false := decide_eq_false (fun e => hl (by rw [e]))
    have hbl : ((a.length : Int) == (b.length : Int)) = false := ieq_false (by omega)
    have hbl2 : ((a.length : Int) != (b.length : Int)) = true := ine_true (by omega)
    rw [hne]
    go_enter Try.func21, Try.ntmps21
    go_wp2_with fail
    go_ret
    exact ⟨rfl, Below.refl _ _⟩
end Go.Proofs.Ythdhbkngbmjjkaa
