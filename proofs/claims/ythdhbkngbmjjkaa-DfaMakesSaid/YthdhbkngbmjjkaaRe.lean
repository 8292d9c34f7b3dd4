/- To which knots one may go without a mark: the program's reach. Condition: at most a million knots, each of whose arrows lead to a knot. -/
import Derived.Test.YthdhbkngbmjjkaaLa
import Derived.Test.YthdhbkngbmjjkaaCi
namespace Go.Proofs.Ythdhbkngbmjjkaa
open Go.RowKit
set_option linter.unusedSimpArgs false
theorem nodup_len {α : Type} [DecidableEq α] : ∀ {l k : List α}, l.Nodup → (∀ x ∈ l, x ∈ k) → l.length ≤ k.length
  | [], _, _, _ => by simp
  | a :: l, k, hn, hs => by
    obtain ⟨h1, h2⟩ := List.nodup_cons.1 hn
    have ha := hs a List.mem_cons_self
    have := nodup_len (k := k.erase a) h2 fun x hx => (List.mem_erase_of_ne (fun e : x = a => h1 (by rw [← e]; exact hx))).2 (hs x (List.mem_cons_of_mem _ hx))
    rw [List.length_erase_of_mem ha] at this
    have := List.length_pos_of_mem ha
    simp only [List.length_cons]
    omega
/-- Knots, none twice, all there are. -/
def Rch (n : Nat) (l : List Int) : Prop := l.Nodup ∧ ∀ z ∈ l, 0 ≤ z ∧ z < n
theorem Rch.len {n : Nat} {l : List Int} (h : Rch n l) : l.length ≤ n := by
  have := nodup_len h.1 (k := (List.range n).map fun (t : Nat) => (t : Int)) fun z hz => by
    obtain ⟨h0, h1⟩ := h.2 z hz
    exact List.mem_map.2 ⟨z.toNat, List.mem_range.2 (by omega), by omega⟩
  simpa using this
def add1 (l : List Int) (z : Int) : List Int := if inL l z = true then l else l ++ [z]
theorem inL_iff {l : List Int} {z : Int} : inL l z = true ↔ z ∈ l := by
  unfold inL
  rw [List.any_eq_true]
  constructor
  · rintro ⟨x, hx, e⟩
    have : x = z := by simpa using e
    rw [← this]; exact hx
  · exact fun h => ⟨z, h, by simp⟩
theorem Rch.add {n : Nat} {l : List Int} {z : Int} (h : Rch n l) (h0 : 0 ≤ z) (h1 : z < n) : Rch n (add1 l z) := by
  unfold add1
  split
  · exact h
  · rename_i hi
    rw [inL_iff] at hi
    refine ⟨?_, fun x hx => ?_⟩
    · rw [List.nodup_append]
      exact ⟨h.1, by simp, fun a ha b hb e => hi (by have : b = z := by simpa using hb
                                                     rw [← this, ← e]; exact ha)⟩
    · rcases List.mem_append.1 hx with hx | hx
      · exact h.2 x hx
      · have : x = z := by simpa using hx
        rw [this]; exact ⟨h0, h1⟩
theorem add1_len (l : List Int) (z : Int) : l.length ≤ (add1 l z).length := by unfold add1; split <;> simp
theorem add1_nth {l : List Int} {z : Int} {i : Nat} (hi : i < l.length) : nth (add1 l z) i = nth l i := by
  unfold add1
  split
  · rfl
  · unfold nth; rw [List.getElem?_append_left hi]
def addAll (l : List Int) (fs : List Int) : List Int := fs.foldl add1 l
theorem Rch.all {n : Nat} : ∀ {fs l : List Int}, Rch n l → (∀ z ∈ fs, 0 ≤ z ∧ z < n) → Rch n (addAll l fs)
  | [], _, h, _ => h
  | z :: fs, _, h, hf => Rch.all (fs := fs) (h.add (hf z List.mem_cons_self).1 (hf z List.mem_cons_self).2) fun x hx => hf x (List.mem_cons_of_mem _ hx)
theorem addAll_len : ∀ (fs l : List Int), l.length ≤ (addAll l fs).length
  | [], _ => Nat.le_refl _
  | z :: fs, l => Nat.le_trans (add1_len l z) (addAll_len fs (add1 l z))
def reachF (ks : List Kn) : Nat → Nat → List Int → List Int
  | 0, _, l => l
  | f + 1, i, l => if i < l.length then reachF ks f (i + 1) (addAll l (kn ks (nth l i).toNat).free) else l
def reachL (ks : List Kn) (k : Nat) : List Int := reachF ks (ks.length + 1) 0 [(k : Int)]
/-- All numbers are ones of what there is. -/
def Bs.ok (s : Bs) : Prop := (∀ i, ∀ z ∈ (kn s.kns i).free, 0 ≤ z ∧ z < s.kns.length) ∧ (∀ i, ∀ z ∈ (kn s.kns i).lv, 1 ≤ z ∧ z ≤ s.lfs.length) ∧ ∀ x ∈ s.lfs, 0 ≤ x.2.2 ∧ x.2.2 < s.kns.length
theorem reachF_rch {s : Bs} (ho : s.ok) : ∀ f i l, Rch s.kns.length l → Rch s.kns.length (reachF s.kns f i l)
  | 0, _, _, h => h
  | f + 1, i, l, h => by
    simp only [reachF]
    split
    · exact reachF_rch ho f (i + 1) _ (h.all (ho.1 _))
    · exact h
theorem reachL_rch {s : Bs} (ho : s.ok) {k : Nat} (hk : k < s.kns.length) : Rch s.kns.length (reachL s.kns k) :=
  reachF_rch ho _ _ _ ⟨by simp, fun z hz => by have : z = k := by simpa using hz
                                               omega⟩
set_option maxRecDepth 100000 in
set_option maxHeartbeats 4000000 in
theorem reach_any (g B : Nat) (search : Bool) (m1 m2 : Value) (s : Bs) (k0 : Nat) (w : World) (h : NB w g B search m1 m2 s) (hm : s.le 1000000) (ho : s.ok) (hk : k0 < s.kns.length) :
    Calls Try.prog 75 #[.pointer (some ⟨g, 0, none⟩), .int .i64 k0] w fun e w' => ∃ v', e = .returned v' ∧ IsNums .i64 w' (fun b => w.heap.size ≤ b) v' (reachL s.kns k0) ∧ Below w.heap.size w w' := by
  obtain ⟨i0, hi0, hz0, hz1, hz2⟩ := info_parts info3
  obtain ⟨hB, lv, kv, hg, hlf, V, hko, hr⟩ := h
  obtain ⟨ks, hks⟩ : ∃ ks, ks = s.kns := ⟨_, rfl⟩
  have HOK := hid (show ∀ i, ∀ z ∈ (kn ks i).free, 0 ≤ z ∧ z < ks.length by rw [hks]; exact ho.1)
  have HM := hid (show ks.length ≤ 1000000 ∧ ∀ i, (kn ks i).free.length ≤ 1000000 by rw [hks]; exact ⟨hm.2.1, fun i => (hm.2.2 i).1⟩)
  rw [← hks] at hko hr hk ⊢
  obtain ⟨n, hn⟩ : ∃ n, n = ks.length := ⟨_, rfl⟩
  have HNN := hid hn
  rw [← hn] at hko hr hk HOK HM
  obtain ⟨kb, kc, rfl⟩ : ∃ kb kc, kv = .slice (some ⟨kb, 0, none⟩) n kc := by
    rcases hko.2 with ⟨-, h0⟩ | ⟨q, cap, cur, e, -⟩
    · omega
    · exact ⟨q, cap, e⟩
  have hn6 : n ≤ 1000000 := HM.out.1
  have HC := hid (show ∀ Y, Below w.heap.size w Y → Y.cell? ⟨g, 2, none⟩ = some (.slice (some ⟨kb, 0, none⟩) n kc) from fun Y hY => (slot5 ((hY.block g (Array.getElem?_eq_some_iff.1 hg).1).trans hg)).2.2.1)
  have HK := hid (show ∀ z, z < n → ∃ fA fc, ∀ Y, Below w.heap.size w Y → Y.cell? ⟨kb, z * 3, none⟩ = some (.slice fA (kn ks z).free.length fc) ∧ Arr Y Any fA ((kn ks z).free.map (.int .i64)) from fun z hz => by
    have hc : w.cell? ⟨kb, z * 3, none⟩ = some (V (2 * z)) := by
      have h1 := hko.cellAt (z * 3) (by omega)
      have h2 := flat3_at (f := knC V ks) (n := n) (i := z) (j := 0) hz (by omega)
      rw [Nat.add_zero] at h2
      rw [h1, h2]; rfl
    have hro := hr.1 (2 * z) (by omega)
    have hzz : knZ ks (2 * z) = (kn ks z).free := by unfold knZ; rw [if_pos (by omega), show 2 * z / 2 = z by omega]
    rw [hzz] at hro
    obtain ⟨fA, fc, e, -, -, ha⟩ := own_arr hro
    exact ⟨fA, fc, fun Y hY => ⟨by rw [← e]; exact (cell_same (hY.block kb (block_lt_of_cell hc))).trans hc, (ha.below hY).mono fun _ _ _ => trivial⟩⟩)
  obtain ⟨N, hN⟩ : ∃ N, N = w.heap.size := ⟨_, rfl⟩
  have HN := hid hN
  rw [← hN] at HC HK ⊢
  obtain ⟨W, hW⟩ : ∃ W, W = w.alloc (.cells #[.int .i64 (k0 : Int)] 3) := ⟨_, rfl⟩
  have HBW := hid (show Below N w W by rw [hW, hN]; exact (Below.refl _ _).alloc (Nat.le_refl _) _)
  have HOW := hid (show W.ownsRow N 3 1 (.slice (some ⟨N, 0, none⟩) 1 1) [(k0 : Int)].length ([(k0 : Int)].map (.int .i64)) by rw [hW, hN]; exact ⟨rfl, .inr ⟨_, 1, _, rfl, Nat.le_refl _, heap_alloc_new _ _, Nat.le_refl _, by unfold maxLen; omega, rfl, rfl⟩⟩)
  have HR0 := hid (show Rch n [(k0 : Int)] from ⟨by simp, fun z hz => (by have e : z = (k0 : Int) := (by simpa using hz); omega)⟩)
  have HNw := hid (show N ≤ w.heap.size by omega)
  clear hg hlf hko hr hks hn hm ho hB
  go_enter Try.func75, Try.ntmps75
  go_wp2_with fail
  rw [← hW, ← hN]
  clear hW hN
  go_loopw [5, 6, 8] (fun s5 s6 _ wr => ∃ (i : Nat) (l : List Int), i ≤ l.length ∧ s6 = .int .i64 i ∧ Hid (Rch n l) ∧ Hid (reachF ks (n + 1 - i) i l = reachL ks k0) ∧ Hid (wr.ownsRow N 3 1 s5 l.length (l.map (.int .i64))) ∧ Hid (Below N w wr)) (fun _ s6 _ _ => n + 1 - (intOf s6).toNat)
  case atStart => exact ⟨0, [(k0 : Int)], by simp, rfl, HR0, hid (by unfold reachL; rw [Nat.sub_zero, HNN.out]), HOW, HBW⟩
  case round =>
    obtain ⟨i, l, hi, rfl, HR, HE, HO, HB⟩ := hrel
    obtain ⟨w1, rfl⟩ : ∃ w1, w1 = wr := ⟨_, rfl⟩
    have hln := HR.out.len
    obtain ⟨A5, c5, rfl, -, -, hA5⟩ := own_arr HO.out
    by_cases hlt : i < l.length
    · obtain ⟨lb, lo, rfl, -, -, hlc⟩ := hA5.num hlt
      obtain ⟨z, hz⟩ : ∃ z, z = (nth l i).toNat := ⟨_, rfl⟩
      have hzr := HR.out.2 _ (nth_mem hlt)
      have hzi : nth l i = (z : Int) := by omega
      have hzn : z < n := by omega
      rw [hzi] at hlc
      obtain ⟨fA, fc, hfall⟩ := HK.out z hzn
      have hfc := (hfall w1 HB.out).1
      have HFALL := hid hfall
      clear hfall
      have hgc := HC.out w1 HB.out
      obtain ⟨fs, hfs⟩ : ∃ fs, fs = (kn ks z).free := ⟨_, rfl⟩
      have HFS := hid hfs
      have hfl := HM.out.2 z
      rw [← hfs] at hfc hfl HFALL
      have HFB := hid (show ∀ x ∈ fs, 0 ≤ x ∧ x < n by rw [hfs]; exact HOK.out z)
      have HSTEP := hid (show reachF ks (n + 1 - (i + 1)) (i + 1) (addAll l fs) = reachL ks k0 by
        have h1 := HE.out
        rw [show n + 1 - i = (n + 1 - (i + 1)) + 1 by omega] at h1
        simp only [reachF] at h1
        rw [if_pos hlt, ← hz, ← hfs] at h1
        exact h1)
      have HI := hid hlt
      have hin : i < n := by omega
      clear hA5 hfs hz hzi hzr
      go_wp2_with fail
      go_quiet (fail)
      go_wp2_with fail
      have HB1 := hid (below_drewN HB.out nq)
      have HO1 := hid (show (w1.drewN nq).ownsRow N 3 1 (.slice (some ⟨lb, lo, none⟩) l.length c5) l.length (l.map (.int .i64)) from HO.out)
      clear hfc hgc hlc hlt
      go_loopw [5, 8, 29] (fun s5 _ s29 wr => ∃ (a : Nat) (l2 : List Int), a ≤ fs.length ∧ s29 = .int .i64 a ∧ Hid (Rch n l2) ∧ Hid (addAll l2 (fs.drop a) = addAll l fs) ∧ Hid (l.length ≤ l2.length) ∧ Hid (wr.ownsRow N 3 1 s5 l2.length (l2.map (.int .i64))) ∧ Hid (Below N w wr)) (fun _ _ s29 _ => fs.length - (intOf s29).toNat)
      case atStart => exact ⟨0, l, by omega, rfl, HR, hid (by rw [List.drop_zero]), hid (Nat.le_refl _), HO1, HB1⟩
      case round =>
        obtain ⟨a, l2, ha, rfl, HR2, HE2, HL2, HO2, HB2⟩ := hrel
        have hln2 := HR2.out.len
        obtain ⟨A6, c6, rfl, -, -, -⟩ := own_arr HO2.out
        by_cases hlt2 : a < fs.length
        · obtain ⟨fb, fo, rfl, -, -, hxc⟩ := (HFALL.out wr HB2.out).2.num hlt2
          obtain ⟨x, hx⟩ : ∃ x, x = nth fs a := ⟨_, rfl⟩
          rw [← hx] at hxc
          have HXB := hid (HFB.out x (by rw [hx]; exact nth_mem hlt2))
          have hstep : addAll (add1 l2 x) (fs.drop (a + 1)) = addAll l fs := by
            have h1 := HE2.out
            rw [drop_nth hlt2, ← hx] at h1
            exact h1
          have HSN := hid (own_nums HO2.out)
          cases hi : inL l2 x with
          | true =>
            have HI2 := hid hi
            have HST := hid (show addAll l2 (fs.drop (a + 1)) = addAll l fs by unfold add1 at hstep; rw [if_pos hi] at hstep; exact hstep)
            clear hi hstep hx
            go_wp2_with (first | (go_at_call 82; refine (contains_any _ _ l2 x _ HSN.out).mono ?_; rintro e w' ⟨rfl, rfl⟩; rw [HI2.out]) | fail)
            go_roundw
            case rel => exact ⟨a + 1, l2, by omega, by go_num, HR2, HST, HL2, HO2, HB2⟩
            case measure => simp [intOf]; omega
          | false =>
            have HI2 := hid hi
            have hadd : add1 l2 x = l2 ++ [x] := by unfold add1; rw [if_neg (by rw [hi]; simp)]
            rw [hadd] at hstep
            have HST := hid hstep
            have HRN := hid (show Rch n (l2 ++ [x]) by rw [← hadd]; exact HR2.out.add HXB.out.1 HXB.out.2)
            have HLN := hid (show l.length ≤ (l2 ++ [x]).length by have := HL2.out; simp; omega)
            have HX := hid (show Below N w (wr.alloc (.cells #[.int .i64 x] 3)) from HB2.out.alloc (Nat.le_trans HNw.out HB2.out.size) _)
            have HOX := hid (HO2.out.alloc (.cells #[.int .i64 x] 3))
            clear hi hstep hx hadd
            go_wp2_with (first
              | (go_at_call 82; refine (contains_any _ _ l2 x _ HSN.out).mono ?_; rintro e w' ⟨rfl, rfl⟩; rw [HI2.out])
              | (at_builtin; (refine wpList_app _ rfl (.tmp 37) (.tmp 39) 23 rfl N 3 i0 _ 1 8 Try.underlying23 hi0 hz0 hz1 hz2 rfl (by decide) _ l2.length (l2.map (.int .i64)) rfl HOX.out _ 1 1 [.int .i64 x] rfl (src_new _ #[.int .i64 x] 3 1 rfl) (one_nums _ [x]) (by simp only [maxLen]; omega) (by omega) (Nat.le_trans HNw.out HX.out.size) ?_); intro v' w' hown hgrow hat; have HWN := hid (below_own HX.out HOX.out hgrow (Nat.le_trans HNw.out HX.out.size)); have HON := hid (show w'.ownsRow N 3 1 v' (l2 ++ [x]).length ((l2 ++ [x]).map (.int .i64)) by simpa using hown); clear hown hgrow hat)
              | fail)
            go_roundw
            case rel => exact ⟨a + 1, l2 ++ [x], by omega, by go_num, HRN, HST, HLN, HON, HWN⟩
            case measure => simp [intOf]; omega
        · have HF2 := hid (show l2 = addAll l fs by have h1 := HE2.out; rw [List.drop_eq_nil_of_le (by omega)] at h1; exact h1)
          have hil : i + 1 ≤ l2.length := by have h1 := HL2.out; have h2 := HI.out; omega
          have HST := hid (show reachF ks (n + 1 - (i + 1)) (i + 1) l2 = reachL ks k0 by rw [HF2.out]; exact HSTEP.out)
          go_wp2_with fail
          go_roundw
          case rel => exact ⟨i + 1, l2, hil, by go_num, HR2, HST, HO2, HB2⟩
          case measure => simp [intOf]; omega
    · have HF := hid (show l = reachL ks k0 by
        have h1 := HE.out
        cases hf : n + 1 - i with
        | zero => rw [hf] at h1; exact h1
        | succ f =>
          rw [hf] at h1
          simp only [reachF] at h1
          rw [if_neg hlt] at h1
          exact h1)
      have HNU := hid (own_nums HO.out)
      go_wp2_with fail
      go_ret
      refine ⟨_, rfl, ?_, HB.out⟩
      rw [← HF.out]
      exact HNU.out.mono fun b hb _ => hb.1
end Go.Proofs.Ythdhbkngbmjjkaa
