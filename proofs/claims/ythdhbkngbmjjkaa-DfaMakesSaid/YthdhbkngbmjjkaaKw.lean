/- What may come behind a place, and what it tells: the program's know. Condition: a place that is not known yet; ends within 64. -/
import Derived.Test.YthdhbkngbmjjkaaRe
import Derived.Test.YthdhbkngbmjjkaaMe
namespace Go.Proofs.Ythdhbkngbmjjkaa
open Go.RowKit
set_option linter.unusedSimpArgs false
def lvsOf (ks : List Kn) (l : List Int) : List Int := l.flatMap fun z => (kn ks z.toNat).lv
def bit1 (ks : List Kn) (b : Nat) (z : Int) : Nat := if 0 < (kn ks z.toNat).fin then b ||| 2 ^ ((kn ks z.toNat).fin.toNat - 1) else b
def bitsOf (ks : List Kn) (l : List Int) : Nat := l.foldl (bit1 ks) 0
theorem lvsOf_take {ks : List Kn} {l : List Int} {a : Nat} (h : a < l.length) : lvsOf ks (l.take (a + 1)) = lvsOf ks (l.take a) ++ (kn ks (nth l a).toNat).lv := by
  unfold lvsOf
  rw [take_nth h, List.flatMap_append]
  simp
theorem bitsOf_take {ks : List Kn} {l : List Int} {a : Nat} (h : a < l.length) : bitsOf ks (l.take (a + 1)) = bit1 ks (bitsOf ks (l.take a)) (nth l a) := by
  unfold bitsOf
  rw [take_nth h, List.foldl_append]
  rfl
theorem bit1_lt {ks : List Kn} {b : Nat} {z : Int} (hb : b < 2 ^ 64) (hf : (kn ks z.toNat).fin ≤ 64) : bit1 ks b z < 2 ^ 64 := by
  unfold bit1
  split
  · exact Nat.or_lt_two_pow hb (Nat.pow_lt_pow_right (by omega) (by omega))
  · exact hb
theorem lvsOf_len {ks : List Kn} {m : Nat} (h : ∀ i, (kn ks i).lv.length ≤ m) : ∀ l : List Int, (lvsOf ks l).length ≤ l.length * m
  | [] => by simp [lvsOf]
  | z :: r => by
    have := lvsOf_len h r
    have := h z.toNat
    unfold lvsOf at *
    simp only [List.flatMap_cons, List.length_append, List.length_cons]
    rw [Nat.succ_mul]
    omega
theorem or_u64 (a b : Nat) (ha : a < 2 ^ 64) (hb : b < 2 ^ 64) : bits .or .u64 (a : Int) (b : Int) = ((a ||| b : Nat) : Int) := by
  have hx : a ||| b < 2 ^ 64 := Nat.or_lt_two_pow ha hb
  have h64 : ∀ c : Nat, c < 2 ^ 64 → (BitVec.ofInt 64 (c : Int)).toNat = c := fun c hc => by
    rw [BitVec.ofInt_natCast, BitVec.toNat_ofNat]; exact Nat.mod_eq_of_lt hc
  show IntKind.u64.wrap ((BitVec.ofInt 64 (a : Int) ||| BitVec.ofInt 64 (b : Int)).toNat : Int) = _
  rw [BitVec.toNat_or, h64 a ha, h64 b hb]
  generalize a ||| b = c at hx
  simp [IntKind.wrap, IntKind.bits, IntKind.signed]
  omega
theorem shl_u64 (e : Nat) (h1 : 1 ≤ e) (h : e ≤ 64) : IntKind.u64.wrap (2 ^ (min ((e : Int) - 1).toNat 64)) = ((2 ^ (e - 1) : Nat) : Int) := by
  have e1 : min ((e : Int) - 1).toNat 64 = e - 1 := by omega
  rw [e1]
  have h2 : (2 ^ (e - 1) : Nat) < 2 ^ 64 := Nat.pow_lt_pow_right (by omega) (by omega)
  have e3 : (2 : Int) ^ (e - 1) = ((2 ^ (e - 1) : Nat) : Int) := by simp
  rw [e3]
  generalize (2 ^ (e - 1) : Nat) = c at h2
  simp [IntKind.wrap, IntKind.bits, IntKind.signed]
  omega
abbrev encI : Int → Value := fun z => .int .i64 z
def i64ok (z : Int) : Prop := (Lit.int .i64 z).wf = true
theorem intKey : MKey Try.prog 3 (fun z : Int => Value.int .i64 z) i64ok :=
  ⟨fun h => by injection h, fun {a} h => ⟨_, Maps.keyOf_int_mk Try.underlying3 h⟩, Maps.int_keyed Try.underlying3⟩
abbrev NxIs (w : World) (b : Nat) (m : List (Int × (Value × List Int))) : Prop := MapIs w b (fun z : Int => Value.int .i64 z) i64ok (fun (p : Value × List Int) u => u = p.1) m
abbrev TlIs (w : World) (b : Nat) (m : List (Int × Nat)) : Prop := MapIs w b (fun z : Int => Value.int .i64 z) i64ok (fun (p : Nat) u => u = .int .u64 (p : Int)) m
theorem zero23 (w : World) : (zeroValue 23).run Try.prog w = .ok (.slice none 0 0) w := by kernel_rfl
theorem zero37 (w : World) : (zeroValue 37).run Try.prog w = .ok (.int .u64 0) w := by kernel_rfl
set_option maxRecDepth 100000 in
set_option maxHeartbeats 4000000 in
theorem know_any (g B b1 b2 : Nat) (search : Bool) (s : Bs) (p k0 : Nat) (nx : List (Int × (Value × List Int))) (tl : List (Int × Nat)) (w : World) (h : NB w g B search (.map (some b1)) (.map (some b2)) s) (hm : s.le 1000000) (ho : s.ok) (hfin : ∀ i, 0 ≤ (kn s.kns i).fin ∧ (kn s.kns i).fin ≤ 64) (hk : k0 < s.kns.length)
    (hp : p ≤ 1000000) (h1 : NxIs w b1 nx) (h2 : TlIs w b2 tl) (hne : b1 ≠ b2) (hB1 : B ≤ b1) (hB2 : B ≤ b2) (hn1 : ∀ q ∈ nx, q.1 ≠ (p : Int)) (hn2 : ∀ q ∈ tl, q.1 ≠ (p : Int)) :
    Calls Try.prog 48 #[.pointer (some ⟨g, 0, none⟩), .int .i64 p, .int .i64 k0] w fun e w' => e = .returned (.tuple #[]) ∧ ∃ v', NxIs w' b1 (nx ++ [((p : Int), (v', lvsOf s.kns (reachL s.kns k0)))]) ∧ IsNums .i64 w' (fun b => w.heap.size ≤ b) v' (lvsOf s.kns (reachL s.kns k0)) ∧ TlIs w' b2 (tl ++ [((p : Int), bitsOf s.kns (reachL s.kns k0))]) ∧
      Below B w w' ∧ ∀ b, b < w.heap.size → b ≠ b1 → b ≠ b2 → w'.heap[b]? = w.heap[b]? := by
  obtain ⟨i0, hi0, hz0, hz1, hz2⟩ := info_parts info3
  have HNB := hid h
  obtain ⟨hB, lv, kv, hg, hlf, V, hko, hr⟩ := h
  obtain ⟨ks, hks⟩ : ∃ ks, ks = s.kns := ⟨_, rfl⟩
  obtain ⟨rl, hrl⟩ : ∃ rl, rl = reachL s.kns k0 := ⟨_, rfl⟩
  have HRL := hid hrl
  have HRR := hid (show Rch ks.length rl by rw [hrl, hks]; exact reachL_rch ho hk)
  have HFN := hid (show ∀ i, 0 ≤ (kn ks i).fin ∧ (kn ks i).fin ≤ 64 by rw [hks]; exact hfin)
  have HM := hid (show ks.length ≤ 1000000 ∧ ∀ i, (kn ks i).lv.length ≤ 1000000 by rw [hks]; exact ⟨hm.2.1, fun i => (hm.2.2 i).2⟩)
  have HKS := hid hks
  rw [← hrl]
  rw [← hks] at hko hr ⊢
  obtain ⟨n, hn⟩ : ∃ n, n = ks.length := ⟨_, rfl⟩
  have HNN := hid hn
  have hkn' : k0 < n := by rw [hn, hks]; exact hk
  rw [← hn] at hko hr HRR HM
  obtain ⟨kb, kc, rfl⟩ : ∃ kb kc, kv = .slice (some ⟨kb, 0, none⟩) n kc := by
    rcases hko.2 with ⟨-, h0⟩ | ⟨q, cap, cur, e, -⟩
    · omega
    · exact ⟨q, cap, e⟩
  have hn6 : n ≤ 1000000 := HM.out.1
  have HC := hid (show ∀ Y, Below w.heap.size w Y → Y.cell? ⟨g, 2, none⟩ = some (.slice (some ⟨kb, 0, none⟩) n kc) ∧ Y.cell? ⟨g, 3, none⟩ = some (.map (some b1)) ∧ Y.cell? ⟨g, 4, none⟩ = some (.map (some b2)) from fun Y hY => by
    obtain ⟨-, -, a, b, c, -⟩ := slot5 ((hY.block g (Array.getElem?_eq_some_iff.1 hg).1).trans hg)
    exact ⟨a, b, c⟩)
  have HK := hid (show ∀ z, z < n → ∃ fA fc, ∀ Y, Below w.heap.size w Y → Y.cell? ⟨kb, z * 3 + 1, none⟩ = some (.slice fA (kn ks z).lv.length fc) ∧ Arr Y Any fA ((kn ks z).lv.map (.int .i64)) ∧ Y.cell? ⟨kb, z * 3 + 2, none⟩ = some (.int .i64 (kn ks z).fin) from fun z hz => by
    have hc : w.cell? ⟨kb, z * 3 + 1, none⟩ = some (V (2 * z + 1)) := by
      rw [hko.cellAt (z * 3 + 1) (by omega), flat3_at (f := knC V ks) (n := n) (i := z) (j := 1) hz (by omega)]; rfl
    have hc2 : w.cell? ⟨kb, z * 3 + 2, none⟩ = some (.int .i64 (kn ks z).fin) := by
      rw [hko.cellAt (z * 3 + 2) (by omega), flat3_at (f := knC V ks) (n := n) (i := z) (j := 2) hz (by omega)]; rfl
    have hro := hr.1 (2 * z + 1) (by omega)
    have hzz : knZ ks (2 * z + 1) = (kn ks z).lv := by unfold knZ; rw [if_neg (by omega), show (2 * z + 1) / 2 = z by omega]
    rw [hzz] at hro
    obtain ⟨fA, fc, e, -, -, ha⟩ := own_arr hro
    exact ⟨fA, fc, fun Y hY => ⟨by rw [← e]; exact (cell_same (hY.block kb (block_lt_of_cell hc))).trans hc, (ha.below hY).mono fun _ _ _ => trivial, (cell_same (hY.block kb (block_lt_of_cell hc2))).trans hc2⟩⟩)
  have HRC := hid (reach_any g B search _ _ s k0 w HNB.out hm ho hk)
  have H1 := hid h1
  have H2 := hid h2
  have HX := hid (And.intro hne (And.intro hB1 (And.intro hB2 (And.intro hn1 (And.intro hn2 hp)))))
  have HBG := hid hB
  clear hg hlf hko hr hks hn hm ho hB hfin hrl h1 h2 hne hB1 hB2 hn1 hn2 hk
  go_enter Try.func48, Try.ntmps48
  go_wp2_with fail
  refine HRC.out.mono ?_
  rintro e w1 ⟨v1, rfl, hv1, hb1⟩
  rw [← HRL.out] at hv1
  have HV1 := hid hv1
  have HB1 := hid hb1
  obtain ⟨A1, c1, rfl⟩ := hv1.form
  obtain ⟨N, hN⟩ : ∃ N, N = w1.heap.size := ⟨_, rfl⟩
  have HN := hid hN
  have hrn := HRR.out.len
  clear hv1 hb1 hN
  go_wp2_with fail
  go_loopw [6, 7, 9, 10, 15] (fun s6 s7 _ _ s15 wr => ∃ (a b : Nat), a ≤ rl.length ∧ s15 = .int .i64 a ∧ s7 = .int .u64 b ∧ b < 18446744073709551616 ∧ Hid (b = bitsOf ks (rl.take a)) ∧ Hid (wr.ownsRow N 3 1 s6 (lvsOf ks (rl.take a)).length ((lvsOf ks (rl.take a)).map (.int .i64))) ∧ Hid (Below N w1 wr)) (fun _ _ _ _ s15 _ => rl.length - (intOf s15).toNat)
  case atStart => exact ⟨0, 0, by omega, rfl, rfl, by omega, hid (by rw [List.take_zero]; rfl), hid (by rw [List.take_zero]; exact World.ownsRow_nil _ _ _ _), hid (by rw [HN.out]; exact Below.refl _ _)⟩
  case round =>
    obtain ⟨a, b, ha, rfl, rfl, hb64, HBT, HO, HB⟩ := hrel
    have HBW := hid (show Below w.heap.size w wr from HB1.out.trans (HB.out.mono (by rw [HN.out]; exact HB1.out.size)))
    by_cases hlt : a < rl.length
    · obtain ⟨rb, ro, cm', hem, -, -, hrc⟩ := (HV1.out.below (show Below w1.heap.size w1 wr by rw [← HN.out]; exact HB.out)).at (j := a) hlt
      obtain ⟨rfl, -⟩ : A1 = some ⟨rb, ro, none⟩ ∧ True := by simpa using (show A1 = some ⟨rb, ro, none⟩ by injection hem)
      obtain ⟨z, hz⟩ : ∃ z, z = (nth rl a).toNat := ⟨_, rfl⟩
      have hzr := HRR.out.2 _ (nth_mem hlt)
      have hzi : nth rl a = (z : Int) := by omega
      have hzn : z < n := by omega
      rw [hzi] at hrc
      obtain ⟨fA, fc, hfall⟩ := HK.out z hzn
      obtain ⟨f1, f2, f3⟩ := hfall wr HBW.out
      obtain ⟨g2, g3, g4⟩ := HC.out wr HBW.out
      obtain ⟨fs, hfs⟩ : ∃ fs, fs = (kn ks z).lv := ⟨_, rfl⟩
      have hfl := HM.out.2 z
      have htk := lvsOf_take (ks := ks) hlt
      have hbk := bitsOf_take (ks := ks) hlt
      rw [hzi, Int.toNat_natCast, ← hfs] at htk
      rw [← HBT.out, hzi] at hbk
      have hbk2 : bit1 ks b (z : Int) < 2 ^ 64 := bit1_lt hb64 (HFN.out _).2
      have HTK := hid htk
      have hll := lvsOf_len HM.out.2 (rl.take a)
      have hl12 : (lvsOf ks (rl.take a)).length ≤ 1000000 * 1000000 := Nat.le_trans hll (Nat.mul_le_mul_right _ (by rw [List.length_take]; omega))
      have HLL := hid hl12
      rw [← hfs] at f1 f2 hfl
      have HF2 := hid f2
      have hfn := HFN.out z
      obtain ⟨fe, hfe⟩ : ∃ fe : Nat, (kn ks z).fin = (fe : Int) := ⟨(kn ks z).fin.toNat, by omega⟩
      rw [hfe] at f3 hfn
      have hb1 : bit1 ks b (z : Int) = if 0 < fe then b ||| 2 ^ (fe - 1) else b := by
        unfold bit1
        rw [Int.toNat_natCast, hfe, Int.toNat_natCast]
        by_cases h0 : 0 < fe
        · rw [if_pos h0, if_pos (by omega)]
        · rw [if_neg h0, if_neg (by omega)]
      rw [hb1] at hbk hbk2
      have hfe64 : fe ≤ 64 := by omega
      have HFE := hid hfe
      clear hem hfall hfs hz hzi hzr htk hll hl12 f2 hb1 hfe hfn g3 g4
      by_cases hf0 : 0 < fe
      · rw [if_pos hf0] at hbk hbk2
        have HBK := hid hbk
        have hor := or_u64 b (2 ^ (fe - 1)) hb64 (Nat.pow_lt_pow_right (by omega) (by omega))
        have hsh := shl_u64 fe hf0 hfe64
        obtain ⟨pw, hpw⟩ : ∃ pw : Nat, pw = 2 ^ (fe - 1) := ⟨_, rfl⟩
        rw [← hpw] at hor hsh hbk2 HBK
        have HOR := hid (show bits .or .u64 (b : Int) (IntKind.u64.wrap (2 ^ (fe - 1))) = ((b ||| pw : Nat) : Int) by
          have e1 : min ((fe : Int) - 1).toNat 64 = fe - 1 := by omega
          rw [e1] at hsh
          rw [hsh, hor])
        clear hbk hpw hor hsh
        have hfe1 : ¬ ((fe : Int) - 1 < 0) := by omega
        go_wp2_with (first
          | (at_builtin; (refine wpList_app _ rfl (.tmp 19) (.tmp 27) 23 rfl N 3 i0 _ 1 8 Try.underlying23 hi0 hz0 hz1 hz2 rfl (by decide) _ (lvsOf ks (rl.take a)).length ((lvsOf ks (rl.take a)).map (.int .i64)) rfl HO.out _ fs.length _ (fs.map (.int .i64)) rfl (HF2.out.src (by simp) (by omega)) (one_nums _ fs) (by simp only [maxLen]; have := HLL.out; omega) (by have := HLL.out; omega) (by rw [HN.out]; exact HB.out.size) ?_); intro v' w' hown hgrow hat; have HWN := hid (below_own HB.out HO.out hgrow (by rw [HN.out]; exact HB.out.size)); have HON := hid (show w'.ownsRow N 3 1 v' (lvsOf ks (rl.take (a + 1))).length ((lvsOf ks (rl.take (a + 1))).map (.int .i64)) by rw [HTK.out]; simpa using hown); have HBW2 := hid (show Below w.heap.size w w' from HB1.out.trans (HWN.out.mono (by rw [HN.out]; exact HB1.out.size))); clear hown hgrow hat f1 f3 g2; obtain ⟨g2, -, -⟩ := HC.out w' HBW2.out; obtain ⟨fA', fc', hfall⟩ := HK.out z hzn; have f3 := (hfall w' HBW2.out).2.2; rw [HFE.out] at f3; clear hfall)
          | fail)
        go_roundw
        case rel => exact ⟨a + 1, b ||| pw, by omega, by go_num, congrArg (Value.int .u64) HOR.out, hbk2, hid HBK.out.symm, HON, HWN⟩
        case measure => simp [intOf]; omega
      · rw [if_neg hf0] at hbk hbk2
        have HBK := hid hbk
        obtain rfl : fe = 0 := by omega
        have HFE0 := hid (show (kn ks z).fin = 0 by rw [HFE.out]; rfl)
        rw [show ((0 : Nat) : Int) = 0 from rfl] at f3
        clear hbk hf0 hfe64
        go_wp2_with (first
          | (at_builtin; (refine wpList_app _ rfl (.tmp 19) (.tmp 27) 23 rfl N 3 i0 _ 1 8 Try.underlying23 hi0 hz0 hz1 hz2 rfl (by decide) _ (lvsOf ks (rl.take a)).length ((lvsOf ks (rl.take a)).map (.int .i64)) rfl HO.out _ fs.length _ (fs.map (.int .i64)) rfl (HF2.out.src (by simp) (by omega)) (one_nums _ fs) (by simp only [maxLen]; have := HLL.out; omega) (by have := HLL.out; omega) (by rw [HN.out]; exact HB.out.size) ?_); intro v' w' hown hgrow hat; have HWN := hid (below_own HB.out HO.out hgrow (by rw [HN.out]; exact HB.out.size)); have HON := hid (show w'.ownsRow N 3 1 v' (lvsOf ks (rl.take (a + 1))).length ((lvsOf ks (rl.take (a + 1))).map (.int .i64)) by rw [HTK.out]; simpa using hown); have HBW2 := hid (show Below w.heap.size w w' from HB1.out.trans (HWN.out.mono (by rw [HN.out]; exact HB1.out.size))); clear hown hgrow hat f1 f3 g2; obtain ⟨g2, -, -⟩ := HC.out w' HBW2.out; obtain ⟨fA', fc', hfall⟩ := HK.out z hzn; have f3 := (hfall w' HBW2.out).2.2; rw [HFE0.out] at f3; clear hfall)
          | fail)
        go_roundw
        case rel => exact ⟨a + 1, b, by omega, by go_num, rfl, hb64, hid HBK.out.symm, HON, HWN⟩
        case measure => simp [intOf]; omega
    · obtain rfl : a = rl.length := by omega
      rw [List.take_length] at HBT HO
      have hsz1 := HB1.out.size
      obtain ⟨g2, g3, g4⟩ := HC.out wr HBW.out
      have HG34 := hid (And.intro g3 g4)
      have HM1 := hid (H1.out.below HBW.out)
      have HM2 := hid (H2.out.below HBW.out)
      have HOK := hid (show i64ok (p : Int) by unfold i64ok; have := HX.out.2.2.2.2.2; simp [Lit.wf, IntKind.min, IntKind.max, IntKind.bits, IntKind.signed]; omega)
      have HLT := hid (And.intro H1.out.lt H2.out.lt)
      have HGC := hid (show ∀ Y : World, (∀ c, c < w.heap.size → c ≠ b1 → c ≠ b2 → Y.heap[c]? = wr.heap[c]?) → Y.cell? ⟨g, 3, none⟩ = some (.map (some b1)) ∧ Y.cell? ⟨g, 4, none⟩ = some (.map (some b2)) from fun Y hY => by
        obtain ⟨_, _, _, hg, _⟩ := HNB.out
        have hgl := (Array.getElem?_eq_some_iff.1 hg).1
        have e1 : g ≠ b1 := fun e => by obtain ⟨es, clock, hb, _⟩ := H1.out; rw [← e, hg] at hb; injection hb with hb; cases hb
        have e2 : g ≠ b2 := fun e => by obtain ⟨es, clock, hb, _⟩ := H2.out; rw [← e, hg] at hb; injection hb with hb; cases hb
        exact ⟨(cell_same (hY g hgl e1 e2)).trans HG34.out.1, (cell_same (hY g hgl e1 e2)).trans HG34.out.2⟩)
      obtain ⟨A6, c6, rfl, -⟩ := own_arr HO.out
      have HSZ := hid (show w.heap.size ≤ wr.heap.size from HBW.out.size)
      have HG1 := hid (show ∀ Y : World, wr.grownBy Y (some b1) → ∀ c, c < w.heap.size → c ≠ b1 → c ≠ b2 → Y.heap[c]? = wr.heap[c]? from fun Y hY c hc h1 _ => hY.block c (Nat.lt_of_lt_of_le hc HSZ.out) (fun e => by injection e with e; exact h1 e))
      have HG2 := hid (show ∀ Y : World, wr.grownBy Y (some b1) → Y.heap[b2]? = wr.heap[b2]? from fun Y hY => hY.block b2 (Nat.lt_of_lt_of_le HLT.out.2 HSZ.out) (fun e => by injection e with e; exact HX.out.1 e.symm))
      have HG3 := hid (show ∀ Y Z : World, wr.grownBy Y (some b1) → Y.grownBy Z (some b2) → ∀ c, c < w.heap.size → c ≠ b1 → c ≠ b2 → Z.heap[c]? = wr.heap[c]? from fun Y Z hY hZ c hc h1 h2 => (hZ.block c (Nat.lt_of_lt_of_le hc (Nat.le_trans HSZ.out hY.size)) (fun e => by injection e with e; exact h2 e)).trans (hY.block c (Nat.lt_of_lt_of_le hc HSZ.out) (fun e => by injection e with e; exact h1 e)))
      clear g2
      go_wp2_with fail
      refine wp_region_held_drew (S := (fun Y => Y.cell? ⟨g, 3, none⟩ = some (.map (some b1)) ∧ Y.cell? ⟨g, 4, none⟩ = some (.map (some b2)))) (by kernel_rfl) (by exact HGC.out _ (fun _ _ _ _ => rfl)) (fun hHeld => ?_)
      refine wpAnyH_take (i := 0) (oi := { dst := some 45, op := Op.move (Operand.tmp 0), type := _, pos := _, after := _, guard := none }) (v := ?_) rfl (by kernel_rfl) (by kernel_rfl) (by kernel_rfl) (fun _ _ _ h => h) (Or.inl ⟨by rfl, ?_⟩) (by assumption) ?_
      rotate_left
      · intro w hSw; (try dsimp only at hSw); go_simp; try with_reducible rfl
      try simp only [Act.put, List.setIfInBounds_toArray, List.set_cons_zero, List.set_cons_succ]
      refine wpAnyH_take (i := 1) (oi := { dst := some 46, op := Op.nilCheck (Operand.tmp 45), type := _, pos := _, after := _, guard := none }) (v := ?_) rfl (by kernel_rfl) (by kernel_rfl) (by kernel_rfl) (fun _ _ _ h => h) (Or.inl ⟨by rfl, ?_⟩) (by assumption) ?_
      rotate_left
      · intro w hSw; (try dsimp only at hSw); go_simp; try with_reducible rfl
      try simp only [Act.put, List.setIfInBounds_toArray, List.set_cons_zero, List.set_cons_succ]
      refine wpAnyH_take (i := 2) (oi := { dst := some 47, op := Op.fieldAddr 85 (Operand.tmp 46) 3, type := _, pos := _, after := _, guard := none }) (v := ?_) rfl (by kernel_rfl) (by kernel_rfl) (by kernel_rfl) (fun _ _ _ h => h) (Or.inl ⟨by rfl, ?_⟩) (by assumption) ?_
      rotate_left
      · intro w hSw; (try dsimp only at hSw); go_simp; try with_reducible rfl
      try simp only [Act.put, List.setIfInBounds_toArray, List.set_cons_zero, List.set_cons_succ]
      refine wpAnyH_take (i := 3) (oi := { dst := some 48, op := Op.load 80 (Operand.tmp 47), type := _, pos := _, after := _, guard := none }) (v := ?_) rfl (by kernel_rfl) (by kernel_rfl) (by kernel_rfl) (fun _ _ _ h => h) (Or.inl ⟨by rfl, ?_⟩) (by assumption) ?_
      rotate_left
      · intro w hSw; (try dsimp only at hSw); go_simp; try with_reducible rfl
      try simp only [Act.put, List.setIfInBounds_toArray, List.set_cons_zero, List.set_cons_succ]
      refine wpAnyH_take (i := 4) (oi := { dst := some 49, op := Op.move (Operand.tmp 1), type := _, pos := _, after := _, guard := none }) (v := ?_) rfl (by kernel_rfl) (by kernel_rfl) (by kernel_rfl) (fun _ _ _ h => h) (Or.inl ⟨by rfl, ?_⟩) (by assumption) ?_
      rotate_left
      · intro w hSw; (try dsimp only at hSw); go_simp; try with_reducible rfl
      try simp only [Act.put, List.setIfInBounds_toArray, List.set_cons_zero, List.set_cons_succ]
      refine wpAnyH_take (i := 5) (oi := { dst := some 50, op := Op.move (Operand.tmp 0), type := _, pos := _, after := _, guard := none }) (v := ?_) rfl (by kernel_rfl) (by kernel_rfl) (by kernel_rfl) (fun _ _ _ h => h) (Or.inl ⟨by rfl, ?_⟩) (by assumption) ?_
      rotate_left
      · intro w hSw; (try dsimp only at hSw); go_simp; try with_reducible rfl
      try simp only [Act.put, List.setIfInBounds_toArray, List.set_cons_zero, List.set_cons_succ]
      refine wpAnyH_take (i := 6) (oi := { dst := some 51, op := Op.nilCheck (Operand.tmp 50), type := _, pos := _, after := _, guard := none }) (v := ?_) rfl (by kernel_rfl) (by kernel_rfl) (by kernel_rfl) (fun _ _ _ h => h) (Or.inl ⟨by rfl, ?_⟩) (by assumption) ?_
      rotate_left
      · intro w hSw; (try dsimp only at hSw); go_simp; try with_reducible rfl
      try simp only [Act.put, List.setIfInBounds_toArray, List.set_cons_zero, List.set_cons_succ]
      refine wpAnyH_take (i := 7) (oi := { dst := some 52, op := Op.fieldAddr 85 (Operand.tmp 51) 4, type := _, pos := _, after := _, guard := none }) (v := ?_) rfl (by kernel_rfl) (by kernel_rfl) (by kernel_rfl) (fun _ _ _ h => h) (Or.inl ⟨by rfl, ?_⟩) (by assumption) ?_
      rotate_left
      · intro w hSw; (try dsimp only at hSw); go_simp; try with_reducible rfl
      try simp only [Act.put, List.setIfInBounds_toArray, List.set_cons_zero, List.set_cons_succ]
      refine wpAnyH_take (i := 8) (oi := { dst := some 53, op := Op.load 81 (Operand.tmp 52), type := _, pos := _, after := _, guard := none }) (v := ?_) rfl (by kernel_rfl) (by kernel_rfl) (by kernel_rfl) (fun _ _ _ h => h) (Or.inl ⟨by rfl, ?_⟩) (by assumption) ?_
      rotate_left
      · intro w hSw; (try dsimp only at hSw); go_simp; try with_reducible rfl
      try simp only [Act.put, List.setIfInBounds_toArray, List.set_cons_zero, List.set_cons_succ]
      refine wpAnyH_take (i := 9) (oi := { dst := some 54, op := Op.move (Operand.tmp 1), type := _, pos := _, after := _, guard := none }) (v := ?_) rfl (by kernel_rfl) (by kernel_rfl) (by kernel_rfl) (fun _ _ _ h => h) (Or.inl ⟨by rfl, ?_⟩) (by assumption) ?_
      rotate_left
      · intro w hSw; (try dsimp only at hSw); go_simp; try with_reducible rfl
      try simp only [Act.put, List.setIfInBounds_toArray, List.set_cons_zero, List.set_cons_succ]
      refine wpAnyH_take (i := 10) (oi := { dst := some 55, op := Op.move (Operand.tmp 6), type := _, pos := _, after := _, guard := none }) (v := ?_) rfl (by kernel_rfl) (by kernel_rfl) (by kernel_rfl) (fun _ _ _ h => h) (Or.inl ⟨by rfl, ?_⟩) (by assumption) ?_
      rotate_left
      · intro w hSw; (try dsimp only at hSw); go_simp; try with_reducible rfl
      try simp only [Act.put, List.setIfInBounds_toArray, List.set_cons_zero, List.set_cons_succ]
      refine wpAnyH_take (i := 11) (oi := { dst := some 56, op := Op.move (Operand.tmp 7), type := _, pos := _, after := _, guard := none }) (v := ?_) rfl (by kernel_rfl) (by kernel_rfl) (by kernel_rfl) (fun _ _ _ h => h) (Or.inl ⟨by rfl, ?_⟩) (by assumption) ?_
      rotate_left
      · intro w hSw; (try dsimp only at hSw); go_simp; try with_reducible rfl
      try simp only [Act.put, List.setIfInBounds_toArray, List.set_cons_zero, List.set_cons_succ]
      refine wpAnyH_ready (rs := [12]) (by kernel_rfl) (by simp) ?_
      refine AllReadyH.cons (o := { dst := some 57, op := Op.mapEntry 80 (Operand.tmp 48) (Operand.tmp 49), type := _, pos := _, after := _, guard := none }) rfl (fun K hK => ?_) AllReadyH.nil
      rw [if_pos (by rfl)]
      refine wp_mentry intKey (.tmp 48) (.tmp 49) 80 rfl Try.underlying80 (zero23 _) (show NxIs wr.drew b1 nx from HM1.out) HOK.out HX.out.2.2.2.1 rfl rfl ?_
      intro u1 cl hop1 hgr1
      have HP1 := hid hop1
      have HR1 := hid (show wr.grownBy u1 (some b1) from ⟨hgr1.os, hgr1.tape, hgr1.output, hgr1.size, hgr1.block⟩)
      clear hop1 hgr1
      refine hK.out _ _ (by exact HGC.out _ (HG1.out u1 HR1.out)) (fun hHeld => ?_)
      clear hK K
      try simp only [Act.put, List.setIfInBounds_toArray, List.set_cons_zero, List.set_cons_succ]
      refine wpAnyH_take (i := 13) (oi := { dst := some 58, op := Op.extract (Operand.tmp 57) 1, type := _, pos := _, after := _, guard := none }) (v := ?_) rfl (by kernel_rfl) (by kernel_rfl) (by kernel_rfl) (fun _ _ _ h => h) (Or.inl ⟨by rfl, ?_⟩) (by assumption) ?_
      rotate_left
      · intro w hSw; (try dsimp only at hSw); go_simp; try with_reducible rfl
      try simp only [Act.put, List.setIfInBounds_toArray, List.set_cons_zero, List.set_cons_succ]
      refine wpAnyH_ready (rs := [14]) (by kernel_rfl) (by simp) ?_
      refine AllReadyH.cons (o := { dst := none, op := Op.entryStore 80 (Operand.tmp 48) (Operand.tmp 58) (Operand.tmp 55), type := _, pos := _, after := _, guard := none }) rfl (fun K hK => ?_) AllReadyH.nil
      rw [if_pos (by rfl)]
      refine wp_mstore (.tmp 48) (.tmp 58) (.tmp 55) 80 rfl HP1.out (.slice A6 (lvsOf ks rl).length c6, lvsOf ks rl) _ rfl rfl rfl rfl ?_
      intro u2 hm2 hgr2
      have HM3 := hid hm2
      have HR2 := hid (grown_trans HR1.out hgr2)
      clear hm2 hgr2
      refine hK.out _ _ (by exact HGC.out _ (HG1.out u2 HR2.out)) (fun hHeld => ?_)
      clear hK K
      try simp only [Act.put, List.setIfInBounds_toArray, List.set_cons_zero, List.set_cons_succ]
      refine wpAnyH_ready (rs := [15]) (by kernel_rfl) (by simp) ?_
      refine AllReadyH.cons (o := { dst := some 59, op := Op.mapEntry 81 (Operand.tmp 53) (Operand.tmp 54), type := _, pos := _, after := _, guard := none }) rfl (fun K hK => ?_) AllReadyH.nil
      rw [if_pos (by rfl)]
      refine wp_mentry intKey (.tmp 53) (.tmp 54) 81 rfl Try.underlying81 (zero37 _) (HM2.out.keep (HG2.out u2 HR2.out)) HOK.out HX.out.2.2.2.2.1 rfl rfl ?_
      intro u3 cl2 hop3 hgr3
      have HP3 := hid hop3
      have HR3 := hid hgr3
      clear hop3 hgr3
      refine hK.out _ _ (by exact HGC.out _ (HG3.out u2 u3 HR2.out HR3.out)) (fun hHeld => ?_)
      clear hK K
      try simp only [Act.put, List.setIfInBounds_toArray, List.set_cons_zero, List.set_cons_succ]
      refine wpAnyH_take (i := 16) (oi := { dst := some 60, op := Op.extract (Operand.tmp 59) 1, type := _, pos := _, after := _, guard := none }) (v := ?_) rfl (by kernel_rfl) (by kernel_rfl) (by kernel_rfl) (fun _ _ _ h => h) (Or.inl ⟨by rfl, ?_⟩) (by assumption) ?_
      rotate_left
      · intro w hSw; (try dsimp only at hSw); go_simp; try with_reducible rfl
      try simp only [Act.put, List.setIfInBounds_toArray, List.set_cons_zero, List.set_cons_succ]
      refine wpAnyH_ready (rs := [17]) (by kernel_rfl) (by simp) ?_
      refine AllReadyH.cons (o := { dst := none, op := Op.entryStore 81 (Operand.tmp 53) (Operand.tmp 60) (Operand.tmp 56), type := _, pos := _, after := _, guard := none }) rfl (fun K hK => ?_) AllReadyH.nil
      rw [if_pos (by rfl)]
      refine wp_mstore (.tmp 53) (.tmp 60) (.tmp 56) 81 rfl HP3.out b _ rfl rfl rfl rfl ?_
      intro u4 hm4 hgr4
      have HM4 := hid hm4
      have HR4 := hid (grown_trans HR3.out hgr4)
      clear hm4 hgr4
      refine hK.out _ _ (by exact HGC.out _ (HG3.out u2 u4 HR2.out HR4.out)) (fun hHeld => ?_)
      clear hK K
      try simp only [Act.put, List.setIfInBounds_toArray, List.set_cons_zero, List.set_cons_succ]
      refine wpAnyH_done (by kernel_rfl) ?_ _
      all_goals
        go_wp2_with fail
        go_end0
        refine ⟨rfl, _, HM3.out.keep (HR4.out.block b1 (Nat.lt_of_lt_of_le HLT.out.1 (Nat.le_trans HSZ.out HR2.out.size)) (fun e => by injection e with e; exact HX.out.1 e)), ?_, by rw [← HBT.out]; exact HM4.out, ?_, ?_⟩
        · refine (own_nums HO.out).mono (fun _ h _ => h) |>.keep (fun c hc hlt => ?_) |>.mono fun c hc _ => ?_
          · have hcn : N ≤ c := hc.1
            have e1 : c ≠ b1 := by have h1 := HLT.out.1; have h2 := HN.out; have h3 := HB1.out.size; omega
            have e2 : c ≠ b2 := by have h1 := HLT.out.2; have h2 := HN.out; have h3 := HB1.out.size; omega
            exact (HR4.out.block c (Nat.lt_of_lt_of_le hlt HR2.out.size) (fun e => by injection e with e; exact e2 e)).trans (HR2.out.block c hlt (fun e => by injection e with e; exact e1 e))
          · have h1 := hc.1; have h2 := HN.out; have h3 := HB1.out.size; omega
        · have hBw : Below B w wr := HBW.out.mono (show B ≤ w.heap.size by have h1 := HX.out.2.1; have h2 := HLT.out.1; omega)
          exact (hBw.grown HR2.out (by have h1 := HX.out.2.1; have h2 := HLT.out.1; have h3 := HSZ.out; omega) fun k hk => by injection hk with hk; rw [← hk]; exact HX.out.2.1).grown HR4.out (by have h1 := HX.out.2.1; have h2 := HLT.out.1; have h3 := HSZ.out; have h4 := HR2.out.size; omega) fun k hk => by injection hk with hk; rw [← hk]; exact HX.out.2.2.1
        · exact fun c hc h1 h2 => (HG3.out u2 _ HR2.out HR4.out c hc h1 h2).trans (HBW.out.block c hc)
end Go.Proofs.Ythdhbkngbmjjkaa
