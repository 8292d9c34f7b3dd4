/- What a set tells: the program's Tells. Condition: members that are ints. -/
import Derived.Test.YthdhbkngbmjjkaaNa
namespace Go.Proofs.Ythdhbkngbmjjkaa
open Go.RowKit
set_option linter.unusedSimpArgs false
theorem bits_lt {ks : List Kn} (hf : ∀ i, (kn ks i).fin ≤ 64) : ∀ (l : List Int) (b : Nat), b < 2 ^ 64 → l.foldl (bit1 ks) b < 2 ^ 64
  | [], _, h => h
  | _ :: r, _, h => bits_lt hf r _ (bit1_lt h (hf _))
theorem tellOf_lt {s : Bs} (hf : s.fin64) (z : Int) : tellOf s z < 2 ^ 64 := by
  unfold tellOf
  split
  · exact bits_lt (fun i => (hf i).2) _ _ (by decide)
  · decide
theorem wpList_tell {o : Oper} {ops : Array Oper} {rest : List Oper} {Q} {a : Act} {w : World} {b2 : Nat} {s : Bs} (hg : o.guard = none) (x ix : Operand) (hop : o.op = .lookup 81 x ix false) {tl : List (Int × Nat)} (h : TlIs w b2 tl)
    (htl : tl = (List.range (s.lfs.length + 1)).map (fun p : Nat => ((p : Int), bitsOf s.kns (reachL s.kns (placeK s p))))) (z : Int) (hk : i64ok z) (hx : a.eval x = .map (some b2)) (hi : a.eval ix = .int .i64 z)
    (hn : wpList Try.prog ops Q rest (a.put o.dst (.int .u64 (tellOf s z))) w) : wpList Try.prog ops Q (o :: rest) a w := by
  refine wpList_mlookup false intKey hg x ix 81 hop Try.underlying81 _ (zero37 _) h z hk hx hi (fun e => ?_) fun v u e hR => ?_
  · rcases tl_get (z := z) htl with ⟨-, h2⟩ | h2
    · rw [h2] at hn; exact hn
    · rw [h2] at e; cases e
  · rcases tl_get (z := z) htl with ⟨h1, -⟩ | h2
    · rw [h1] at e; cases e
    · rw [h2] at e
      injection e with e
      subst e
      rw [hR]
      exact hn
theorem tells_take {s : Bs} {l : List Int} {k : Nat} (h : k < l.length) : tellsB s (l.take (k + 1)) = tellsB s (l.take k) ||| tellOf s (nth l k) := by
  unfold tellsB
  rw [take_nth h, List.foldl_append]
  rfl
set_option maxRecDepth 100000 in
set_option maxHeartbeats 4000000 in
theorem tells_any (g : Nat) (search : Bool) (s : Bs) (S : Nat → Prop) (v : Value) (l : List Int) (w : World) (h : IsNfa w g search s) (hf : s.fin64) (hv : IsNums .i64 w S v l) (hok : ∀ z ∈ l, i64ok z) :
    Calls Try.prog 22 #[.pointer (some ⟨g, 0, none⟩), v] w fun e w' => e = .returned (.int .u64 (tellsB s l)) ∧ ∃ n, w' = w.drewN n := by
  obtain ⟨A, c, B, H, b1, b2, ⟨c0, c1, c3, c4⟩, -, hK, -⟩ := h.slots
  obtain ⟨nx, tl, -, h2, -, h4, -⟩ := hK
  have H2 := hid h2
  have H4 := hid h4
  have HF := hid hf
  have HOKS := hid hok
  have HV := hid hv
  obtain ⟨A1, c1', rfl⟩ := hv.form
  have hle := hv.le
  clear h2 h4 hf hok hv h c0 c1 c3
  go_enter Try.func22, Try.ntmps22
  go_wp2_with fail
  go_loopw [5, 7, 12] (fun s5 _ s12 wr => ∃ (k b n : Nat), k ≤ l.length ∧ s12 = .int .i64 k ∧ s5 = .int .u64 b ∧ b < 18446744073709551616 ∧ Hid (b = tellsB s (l.take k)) ∧ wr = w.drewN n) (fun _ _ s12 _ => l.length - (intOf s12).toNat)
  case atStart => exact ⟨0, 0, 0, by omega, rfl, rfl, by omega, hid rfl, rfl⟩
  case round =>
    obtain ⟨k, b, n, hk, rfl, rfl, hb, HT, rfl⟩ := hrel
    by_cases hlt : k < l.length
    · obtain ⟨rb, ro, cm', hem, -, -, hrc⟩ := (HV.out.drewN n).at (j := k) hlt
      obtain ⟨rfl, -⟩ : A1 = some ⟨rb, ro, none⟩ ∧ True := by simpa using (show A1 = some ⟨rb, ro, none⟩ by injection hem)
      obtain ⟨z, hz⟩ : ∃ z, z = nth l k := ⟨_, rfl⟩
      rw [← hz] at hrc
      have HOK := hid (show i64ok z by rw [hz]; exact HOKS.out _ (nth_mem hlt))
      have hty := tellOf_lt HF.out z
      obtain ⟨y, hy⟩ : ∃ y, y = tellOf s z := ⟨_, rfl⟩
      have HY := hid hy
      have HN := hid (show b ||| y = tellsB s (l.take (k + 1)) by rw [tells_take hlt, ← HT.out, hy, hz])
      rw [← hy] at hty
      have HOR := hid (or_u64 b y hb hty)
      have hor : b ||| y < 2 ^ 64 := Nat.or_lt_two_pow hb hty
      clear hem hz hy
      go_wp2_with (first
        | (at_lookup; refine wpList_tell (s := s) rfl (.tmp 20) (.tmp 21) rfl (b2 := b2) (tl := tl) H2.out H4.out z HOK.out rfl rfl ?_; rw [← HY.out])
        | fail)
      refine ⟨⟨k + 1, b ||| y, n, by omega, by go_num, congrArg (Value.int .u64) HOR.out, hor, hid HN.out, rfl⟩, by simp [intOf]; omega⟩
    · obtain rfl : k = l.length := by omega
      rw [List.take_length] at HT
      go_wp2_with fail
      go_ret
      exact ⟨by rw [← HT.out]; rfl, n, rfl⟩
set_option maxRecDepth 100000 in
theorem tells_nil (v : Value) (w : World) : Calls Try.prog 22 #[.pointer none, v] w fun e w' => e = .returned (.int .u64 0) ∧ w' = w := by
  go_enter Try.func22, Try.ntmps22
  go_wp2_with fail
  go_ret
  exact ⟨rfl, rfl⟩
end Go.Proofs.Ythdhbkngbmjjkaa
