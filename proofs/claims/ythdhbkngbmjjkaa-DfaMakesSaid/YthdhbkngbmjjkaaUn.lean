/- Two sets together: plain. No conditions. -/
import Derived.Test.YthdhbkngbmjjkaaAw
import Derived.Test.YthdhbkngbmjjkaaNx
namespace Go.Proofs.Ythdhbkngbmjjkaa
open Go.RowKit
theorem raw_mem {search : Bool} {s : Bs} {m : Int} {l : List Int} {q : Int} : q ∈ rawB search s m l ↔ (search = true ∧ q = 0) ∨ ∃ z, z ∈ l ∧ q ∈ pickB s m (nextOf s z) := by
  unfold rawB
  rw [List.mem_append, List.mem_flatMap]
  cases search <;> simp
theorem step_mem {search : Bool} {s : Bs} {m : Int} {l : List Int} {q : Int} : q ∈ stepB search s m l ↔ (search = true ∧ q = 0) ∨ ∃ z, z ∈ l ∧ q ∈ pickB s m (nextOf s z) := by
  show q ∈ setB _ ↔ _
  rw [setB_mem, raw_mem]
theorem step_both {search : Bool} {s : Bs} {m : Int} {a b : List Int} {q : Int} : q ∈ stepB search s m (a ++ b) ↔ q ∈ stepB search s m a ∨ q ∈ stepB search s m b := by
  rw [step_mem, step_mem, step_mem]
  constructor
  · rintro (h | ⟨z, hz, hq⟩)
    · exact .inl (.inl h)
    · rcases List.mem_append.1 hz with hz | hz
      · exact .inl (.inr ⟨z, hz, hq⟩)
      · exact .inr (.inr ⟨z, hz, hq⟩)
  · rintro ((h | ⟨z, hz, hq⟩) | (h | ⟨z, hz, hq⟩))
    · exact .inl h
    · exact .inr ⟨z, List.mem_append.2 (.inl hz), hq⟩
    · exact .inl h
    · exact .inr ⟨z, List.mem_append.2 (.inr hz), hq⟩
theorem step_lt (search : Bool) (s : Bs) (m : Int) (l : List Int) : (stepB search s m l).Pairwise (· < ·) := setB_lt _
theorem lt_nodup {l : List Int} (h : l.Pairwise (· < ·)) : l.Nodup := h.imp fun h => by omega
theorem step_len {search : Bool} {s : Bs} {m : Int} {a b : List Int} : (stepB search s m a).length ≤ (stepB search s m (a ++ b)).length ∧ (stepB search s m b).length ≤ (stepB search s m (a ++ b)).length :=
  ⟨nodup_len (lt_nodup (step_lt ..)) fun _ hx => step_both.2 (.inl hx), nodup_len (lt_nodup (step_lt ..)) fun _ hx => step_both.2 (.inr hx)⟩
theorem or_fold (f : Int → Nat) : ∀ (l : List Int) (b : Nat), l.foldl (fun b z => b ||| f z) b = b ||| l.foldl (fun b z => b ||| f z) 0
  | [], b => by simp
  | z :: r, b => by
    simp only [List.foldl_cons]
    rw [or_fold f r (b ||| f z), or_fold f r (0 ||| f z), Nat.zero_or, Nat.or_assoc]
theorem tells_both (s : Bs) (a b : List Int) : tellsB s (a ++ b) = tellsB s a ||| tellsB s b := by
  unfold tellsB
  rw [List.foldl_append, or_fold]
theorem next_out {s : Bs} {z : Int} (h : z < 0 ∨ s.lfs.length < z) : nextOf s z = [] := by
  unfold nextOf
  rw [if_neg (by omega)]
/-- What stands for no place changes nothing; what stands twice does not. -/
theorem step_same {search : Bool} {s : Bs} {m : Int} {x y z : List Int} (hs : s.lfs.length < 5000) (h : ∀ q, q ∈ z ↔ q ∈ x ∨ q ∈ y) : stepB search s m z = stepB search s m ([-1, 5000] ++ x ++ y) := by
  refine up_ext (step_lt ..) (step_lt ..) fun q => ?_
  rw [step_mem, step_mem]
  constructor
  · rintro (h1 | ⟨p, hp, hq⟩)
    · exact .inl h1
    · refine .inr ⟨p, ?_, hq⟩
      rcases (h p).1 hp with h2 | h2
      · simp [h2]
      · simp [h2]
  · rintro (h1 | ⟨p, hp, hq⟩)
    · exact .inl h1
    · rcases List.mem_append.1 hp with hp | hp
      · rcases List.mem_append.1 hp with hp | hp
        · exfalso
          have : nextOf s p = [] := next_out (by simp at hp; omega)
          rw [this] at hq
          simp [pickB] at hq
        · exact .inr ⟨p, (h p).2 (.inl hp), hq⟩
      · exact .inr ⟨p, (h p).2 (.inr hp), hq⟩
end Go.Proofs.Ythdhbkngbmjjkaa
namespace Go.Proofs.Ythdhbkngbmjjkaa
open Go.RowKit
set_option linter.unusedSimpArgs false
theorem ends_true {w w1 w2 : World} (h1 : Below w.heap.size w w1) (h2 : Below w1.heap.size w1 w2) : Below w.heap.size w w2 := h1.trans (h2.mono h1.size)
theorem tells_lt {s : Bs} (hf : s.fin64) (l : List Int) : tellsB s l < 2 ^ 64 := by
  unfold tellsB
  suffices h : ∀ (l : List Int) (b : Nat), b < 2 ^ 64 → l.foldl (fun b z => b ||| tellOf s z) b < 2 ^ 64 from h l 0 (by decide)
  intro l
  induction l with
  | nil => intro b hb; exact hb
  | cons z r ih => intro b hb; exact ih _ (Nat.or_lt_two_pow hb (tellOf_lt hf z))
theorem any_take {l : List Int} {z : Int} {k : Nat} (h : k < l.length) : decide (z ∈ l.take (k + 1)) = (decide (z ∈ l.take k) || (nth l k == z)) := by
  rw [take_nth h]
  simp only [List.mem_append, List.mem_singleton, Bool.decide_or]
  by_cases e : z = nth l k
  · subst e; simp
  · have : ¬ nth l k = z := fun h => e h.symm
    simp [e, this]
theorem nth_lt {l : List Int} (h : l.Pairwise (· < ·)) {i : Nat} (hi : i + 1 < l.length) : nth l i < nth l (i + 1) := by
  have := List.pairwise_iff_getElem.1 h i (i + 1) (by omega) hi (by omega)
  rw [nth_get (by omega), nth_get hi]
  exact this
set_option maxRecDepth 100000 in
set_option maxHeartbeats 8000000 in
theorem unions_walk (search : Bool) (S : Nat → Prop) (d : Nat) (A : Option Addr) (c : Nat) (l : List (Tr d)) (va vb : Value) (a b : List Int) (m : Int) (w : World) (h : Row3 (IsTr w S d) w S A l) (hle : l.length ≤ 9223372036854775807)
    (ha : IsNums .i64 w S va a) (hb : IsNums .i64 w S vb b) (oka : ∀ z ∈ a, i64ok z) (okb : ∀ z ∈ b, i64ok z) :
    Calls Try.prog 5 #[.bool search, .slice A l.length c, va, vb, .int .i64 m] w fun e w' => e = .returned (.bool true) ∧ Below w.heap.size w w' := by
  obtain ⟨i0, hi0, hz0, hz1, hz2⟩ := info_parts info3
  have H := hid h
  have HA := hid ha
  have HVB := hid hb
  obtain ⟨A1, c1, rfl⟩ := ha.form
  obtain ⟨A2, c2, rfl⟩ := hb.form
  have hla := ha.le
  have hlb := hb.le
  have OKA := hid oka
  have OKB := hid okb
  clear h ha hb oka okb
  by_cases hg : 80 < cntE d l
  · have HG := hid (decide_eq_true hg)
    clear hg
    go_enter Try.func5, Try.ntmps5
    go_wp2_with fail
    refine (great_any S d A c l w H.out hle).mono ?_
    rintro e w1 ⟨rfl, hb1⟩
    rw [HG.out]
    have HB1 := hid hb1
    clear hb1
    go_wp2_with fail
    refine (awake_any w1).mono ?_
    rintro e w2 ⟨rfl, hb2⟩
    have HB2 := hid (ends_true HB1.out hb2)
    clear hb2
    go_wp2_with fail
    go_ret
    exact ⟨rfl, HB2.out⟩
  have HG := hid (decide_eq_false hg)
  have HC := hid (Nat.le_of_not_lt hg)
  clear hg
  by_cases ha12 : 12 < a.length
  · go_enter Try.func5, Try.ntmps5
    go_wp2_with fail
    refine (great_any S d A c l w H.out hle).mono ?_
    rintro e w1 ⟨rfl, hb1⟩
    rw [HG.out]
    have HB1 := hid hb1
    clear hb1
    go_wp2_with fail
    refine (awake_any w1).mono ?_
    rintro e w2 ⟨rfl, hb2⟩
    have HB2 := hid (ends_true HB1.out hb2)
    clear hb2
    go_wp2_with fail
    go_ret
    exact ⟨rfl, HB2.out⟩
  by_cases hb12 : 12 < b.length
  · go_enter Try.func5, Try.ntmps5
    go_wp2_with fail
    refine (great_any S d A c l w H.out hle).mono ?_
    rintro e w1 ⟨rfl, hb1⟩
    rw [HG.out]
    have HB1 := hid hb1
    clear hb1
    go_wp2_with fail
    refine (awake_any w1).mono ?_
    rintro e w2 ⟨rfl, hb2⟩
    have HB2 := hid (ends_true HB1.out hb2)
    clear hb2
    go_wp2_with fail
    go_ret
    exact ⟨rfl, HB2.out⟩
  by_cases hr : (rightE d l && decide (l.length ≤ 40)) = true
  rotate_left
  · have HR := hid (show (rightE d l && decide (l.length ≤ 40)) = false from by simpa using hr)
    clear hr
    go_enter Try.func5, Try.ntmps5
    go_wp2_with fail
    refine (great_any S d A c l w H.out hle).mono ?_
    rintro e w1 ⟨rfl, hb1⟩
    rw [HG.out]
    have HB1 := hid hb1
    clear hb1
    go_wp2_with fail
    refine (awake_any w1).mono ?_
    rintro e w2 ⟨rfl, hb2⟩
    have HB2 := hid (ends_true HB1.out hb2)
    clear hb2
    go_wp2_with fail
    refine (rights_any S d A c l w2 (H.out.below HB2.out) hle HC.out).mono ?_
    rintro e w3 ⟨rfl, hb3⟩
    rw [HR.out]
    have HB3 := hid (ends_true HB2.out hb3)
    clear hb3
    go_wp2_with fail
    go_ret
    exact ⟨rfl, HB3.out⟩
  have HR := hid hr
  have HR1 := hid (show rightE d l = true by simp only [Bool.and_eq_true] at hr; exact hr.1)
  have HR2 := hid (show l.length ≤ 40 by simp only [Bool.and_eq_true, decide_eq_true_eq] at hr; exact hr.2)
  clear hr
  go_enter Try.func5, Try.ntmps5
  go_wp2_with fail
  refine (great_any S d A c l w H.out hle).mono ?_
  rintro e w1 ⟨rfl, hb1⟩
  rw [HG.out]
  have HB1 := hid hb1
  clear hb1
  go_wp2_with fail
  refine (awake_any w1).mono ?_
  rintro e w2 ⟨rfl, hb2⟩
  have HB2 := hid (ends_true HB1.out hb2)
  clear hb2
  go_wp2_with fail
  refine (rights_any S d A c l w2 (H.out.below HB2.out) hle HC.out).mono ?_
  rintro e w3 ⟨rfl, hb3⟩
  rw [HR.out]
  have HB3 := hid (ends_true HB2.out hb3)
  clear hb3 HG HR HB1 HB2
  go_wp2_with fail
  refine (tos_any S d A c l w3 (H.out.below HB3.out) (by have := HC.out; unfold cntE at this; omega)).mono ?_
  rintro e w4 ⟨v4, rfl, hb4, ht4⟩
  obtain ⟨A4, c4, rfl, q1, q2, hrow⟩ := ht4.row
  have HROW := hid hrow
  have HB4 := hid (ends_true HB3.out hb4)
  clear hb4 ht4 hrow HB3
  go_wp2_with fail
  refine (new_right d A4 c4 l search w4 HROW.out (Nat.le_trans HC.out (by decide)) HR1.out HR2.out).mono ?_
  rintro e w5 ⟨g, rfl, hnf, hb5⟩
  have HB5 := hid (ends_true HB4.out hb5)
  have HGD := hid (built_good (Nat.le_trans HC.out (by decide)) HR1.out HR2.out).1
  obtain ⟨s, hs⟩ : ∃ s, s = builtB l := ⟨_, rfl⟩
  rw [← hs] at hnf HGD
  have HNF := hid hnf
  have HA5 := hid (HA.out.below HB5.out)
  have HV5 := hid (HVB.out.below HB5.out)
  clear hb5 hs hnf HROW HB4 HC HR1 HR2 q1 q2 HA HVB H
  obtain ⟨W, hW⟩ : ∃ W, W = w5.alloc (.cells #[] 3) := ⟨_, rfl⟩
  have HWB := hid (show Below w5.heap.size w5 W by rw [hW]; exact (Below.refl _ _).alloc (Nat.le_refl _) _)
  have HWS := hid (show w5.heap.size ≤ W.heap.size from HWB.out.size)
  have HWO := hid (show W.ownsRow w5.heap.size 3 1 (.slice (some ⟨w5.heap.size, 0, none⟩) 0 0) ([] : List Int).length (([] : List Int).map (.int .i64)) from IntBlk.own (l := []) (show W.heap[w5.heap.size]? = _ by rw [hW]; exact heap_alloc_new _ _) (Nat.le_refl _) (by decide))
  have HA6 := hid (HA5.out.below HWB.out)
  have HL1 := hid (show ([] : List Int).length + a.length ≤ 1000000 by simp; omega)
  have HL2 := hid (show ([] ++ a : List Int).length + b.length ≤ 1000000 by simp; omega)
  go_wp2_with (first
    | (at_builtin; rw [← hW]; clear hW; refine wpList_app_nums rfl (.tmp 48) (.tmp 49) rfl (xs := []) rfl HWO.out rfl HA6.out HL1.out HWS.out ?_; intro v6 w6 ho6 hb6 hs6; have HO6 := hid ho6; have HV6 := hid (HV5.out.below (HWB.out.trans hb6)); have HB6 := hid (HWB.out.trans hb6); have HS6 := hid hs6; clear ho6 hb6 hs6)
    | (at_builtin; refine wpList_app_nums rfl (.tmp 50) (.tmp 51) rfl (xs := [] ++ a) rfl HO6.out rfl HV6.out HL2.out HS6.out ?_; intro v7 w7 ho7 hb7 hs7; have HN7 := hid (own_nums ho7); have HB7 := hid (HB6.out.trans hb7); clear ho7 hb7 hs7)
    | fail)
  obtain ⟨q, hq⟩ : ∃ q, q = a ++ b := ⟨_, rfl⟩
  have HQ := hid hq
  have HQL := hid (show q.length ≤ 10000 by rw [hq]; simp; omega)
  have OKQ := hid (show ∀ z ∈ q, i64ok z from fun z hz => by rw [hq] at hz; rcases List.mem_append.1 hz with hz | hz; exact OKA.out z hz; exact OKB.out z hz)
  have HN7' := hid (show IsNums .i64 w7 (fun b => w5.heap.size ≤ b ∧ v7.ownBlock = some b) v7 q by rw [hq]; exact HN7.out)
  have HF7 := hid (HNF.out.below HB7.out)
  have HA7 := hid (HA5.out.below HB7.out)
  have HV7 := hid (HV5.out.below HB7.out)
  have HB7' := hid (ends_true HB5.out HB7.out)
  clear HN7 hq HO6 HV6 HB6 HS6 HA6 HWO HWS HWB HL1 HL2 HB7 HNF HB5 HA5 HV5
  refine (gstep_any g search s S _ a m w7 HF7.out HGD.out HA7.out OKA.out (by omega)).mono ?_
  rintro e w8 ⟨vx, rfl, hx8, hb8⟩
  have HF8 := hid (HF7.out.below hb8)
  have HA8 := hid (HA7.out.below hb8)
  have HV8 := hid (HV7.out.below hb8)
  have HN8 := hid (HN7'.out.below hb8)
  have HB8 := hid (ends_true HB7'.out hb8)
  have HX8 := hid hx8
  clear hb8 hx8 HF7 HA7 HV7 HN7' HB7'
  go_wp2_with fail
  refine (gstep_any g search s S _ b m w8 HF8.out HGD.out HV8.out OKB.out (by omega)).mono ?_
  rintro e w9 ⟨vy, rfl, hy9, hb9⟩
  have HF9 := hid (HF8.out.below hb9)
  have HA9 := hid (HA8.out.below hb9)
  have HV9 := hid (HV8.out.below hb9)
  have HN9 := hid (HN8.out.below hb9)
  have HX9 := hid (HX8.out.below hb9)
  have HB9 := hid (ends_true HB8.out hb9)
  have HY9 := hid hy9
  clear hb9 hy9 HF8 HA8 HV8 HN8 HB8 HX8
  go_wp2_with fail
  refine (gstep_any g search s _ _ q m w9 HF9.out HGD.out HN9.out OKQ.out HQL.out).mono ?_
  rintro e wa ⟨vz, rfl, hza, hba⟩
  obtain ⟨x, hx⟩ : ∃ x, x = stepB search s m a := ⟨_, rfl⟩
  obtain ⟨y, hy⟩ : ∃ y, y = stepB search s m b := ⟨_, rfl⟩
  obtain ⟨z, hz⟩ : ∃ z, z = stepB search s m q := ⟨_, rfl⟩
  have HXa := HX9.out.below hba
  have HYa := HY9.out.below hba
  rw [← hx] at HXa
  rw [← hy] at HYa
  rw [← hz] at hza
  obtain ⟨Ax, cx, rfl⟩ := HXa.form
  obtain ⟨Ay, cy, rfl⟩ := HYa.form
  obtain ⟨Az, cz, rfl⟩ := hza.form
  have HX := hid HXa
  have HY := hid HYa
  have HZ := hid hza
  have HFa := hid (HF9.out.below hba)
  have HAa := hid (HA9.out.below hba)
  have HVa := hid (HV9.out.below hba)
  have HNa := hid (HN9.out.below hba)
  have HBa := hid (ends_true HB9.out hba)
  have HXI := hid (show ∀ u, u ∈ z ↔ u ∈ x ∨ u ∈ y from fun u => by rw [hx, hy, hz, HQ.out]; exact step_both)
  have HZL := hid (show z.Pairwise (· < ·) by rw [hz]; exact step_lt ..)
  have hxl : x.length ≤ 161 := by rw [hx]; exact step_10000 HGD.out
  have hyl : y.length ≤ 161 := by rw [hy]; exact step_10000 HGD.out
  have hzl : z.length ≤ 161 := by rw [hz]; exact step_10000 HGD.out
  have hxz : x.length ≤ z.length := by rw [hx, hz, HQ.out]; exact step_len.1
  have hyz : y.length ≤ z.length := by rw [hy, hz, HQ.out]; exact step_len.2
  have HLEN := hid (And.intro hxz hyz)
  have HI := hid (show (∀ u ∈ x, i64ok u) ∧ (∀ u ∈ y, i64ok u) ∧ ∀ u ∈ z, i64ok u by rw [hx, hy, hz]; exact ⟨step_i64 HGD.out, step_i64 HGD.out, step_i64 HGD.out⟩)
  have HT := hid (tells_both s a b)
  rw [← HQ.out] at HT
  have HSAME := hid (show stepB search s m z = stepB search s m ([-1, 5000] ++ x ++ y) from step_same (by have := HGD.out.2.2.1; omega) HXI.out)
  clear hba HXa HYa hza hx hy hz HF9 HA9 HV9 HN9 HB9 HX9 HY9 hxz hyz
  go_wp2_with fail
  go_loopw [17, 18, 19, 20] (fun s17 _ _ _ wr => ∃ (i : Nat), i ≤ z.length ∧ s17 = .int .i64 i ∧ Hid (Below wa.heap.size wa wr)) (fun s17 _ _ _ _ => z.length - (intOf s17).toNat)
  case atStart => exact ⟨0, by omega, rfl, hid (Below.refl _ _)⟩
  case round =>
    obtain ⟨i, hi, rfl, HBr⟩ := hrel
    by_cases hlt : i < z.length
    · obtain ⟨bz, oz, cz', ez, -, hbz, z0⟩ := (HZ.out.below HBr.out).at hlt
      obtain rfl : Az = some ⟨bz, oz, none⟩ := by injection ez
      clear ez
      obtain ⟨zi, hzi⟩ : ∃ zi, zi = nth z i := ⟨_, rfl⟩
      have HZI := hid hzi
      have HIN := hid (show zi ∈ z by rw [hzi, nth_get hlt]; exact List.getElem_mem hlt)
      rw [← hzi] at z0
      have HZ0 := hid z0
      have HZB := hid hbz
      clear z0 hzi hbz
      go_wp2_with fail
      have HBr' := hid (ends_true HBa.out HBr.out)
      go_loopw [18, 19] (fun s18 s19 wk => ∃ (k : Nat) (fb : Bool), k ≤ x.length ∧ s19 = .int .i64 k ∧ s18 = .bool fb ∧ Hid (fb = decide (zi ∈ x.take k)) ∧ Hid (Below wr.heap.size wr wk)) (fun _ s19 _ => x.length - (intOf s19).toNat)
      case atStart => exact ⟨0, false, by omega, rfl, rfl, hid (by simp), hid (Below.refl _ _)⟩
      case round =>
        obtain ⟨k, fb, hk, rfl, rfl, HFB, HBk⟩ := hrel
        by_cases hltk : k < x.length
        · obtain ⟨bx, ox, cx', ex, -, -, x0⟩ := (HX.out.below (ends_true HBr.out HBk.out)).at hltk
          obtain rfl : Ax = some ⟨bx, ox, none⟩ := by injection ex
          clear ex
          have HAT := hid (any_take (z := zi) hltk)
          obtain ⟨xk, hxk⟩ : ∃ xk, xk = nth x k := ⟨_, rfl⟩
          rw [← hxk] at x0 HAT
          have z0' := (HBk.out.cell (p := ⟨bz, oz + i, none⟩) (by have := HZB.out; omega)).trans HZ0.out
          clear hxk
          cases fb with
          | true =>
            have HN := hid (show true = decide (zi ∈ x.take (k + 1)) by rw [HAT.out, ← HFB.out, Bool.true_or])
            go_wp2_with fail
            go_region
            go_wp2_with fail
            refine ⟨⟨k + 1, true, by omega, by go_num, rfl, HN, hid HBk.out.drew⟩, by simp [intOf]; omega⟩
          | false =>
            have HN := hid (show (xk == zi) = decide (zi ∈ x.take (k + 1)) by rw [HAT.out, ← HFB.out, Bool.false_or])
            go_wp2_with fail
            go_region
            go_wp2_with fail
            refine ⟨⟨k + 1, _, by omega, by go_num, rfl, HN, hid HBk.out.drew⟩, by simp [intOf]; omega⟩
        · obtain rfl : k = x.length := by omega
          have HF2 := hid (show fb = decide (zi ∈ x) by rw [HFB.out, List.take_length])
          have HW2 := hid (ends_true HBr.out HBk.out)
          have HZ2 := hid ((HBk.out.cell (p := ⟨bz, oz + i, none⟩) (by have := HZB.out; omega)).trans HZ0.out)
          have HZB2 := hid (Nat.lt_of_lt_of_le HZB.out HBk.out.size)
          clear HFB
          go_wp2_with fail
          go_loopw [18, 20] (fun s18 s20 wk => ∃ (k : Nat) (fb : Bool), k ≤ y.length ∧ s20 = .int .i64 k ∧ s18 = .bool fb ∧ Hid (fb = (decide (zi ∈ x) || decide (zi ∈ y.take k))) ∧ Hid (Below wr.heap.size wr wk)) (fun _ s20 _ => y.length - (intOf s20).toNat)
          case atStart => exact ⟨0, fb, by omega, rfl, rfl, hid (by rw [HF2.out]; simp), hid (Below.refl _ _)⟩
          case round =>
            obtain ⟨k, fc, hk, rfl, rfl, HFB, HBl⟩ := hrel
            by_cases hltk : k < y.length
            · obtain ⟨bx, ox, cx', ex, -, -, x0⟩ := (HY.out.below (ends_true HW2.out HBl.out)).at hltk
              obtain rfl : Ay = some ⟨bx, ox, none⟩ := by injection ex
              clear ex
              have HAT := hid (any_take (z := zi) hltk)
              obtain ⟨xk, hxk⟩ : ∃ xk, xk = nth y k := ⟨_, rfl⟩
              rw [← hxk] at x0 HAT
              have z0' := (HBl.out.cell (p := ⟨bz, oz + i, none⟩) (by have := HZB2.out; omega)).trans HZ2.out
              clear hxk
              cases fc with
              | true =>
                have HN := hid (show true = (decide (zi ∈ x) || decide (zi ∈ y.take (k + 1))) by rw [HAT.out, ← Bool.or_assoc, ← HFB.out, Bool.true_or])
                go_wp2_with fail
                go_region
                go_wp2_with fail
                refine ⟨⟨k + 1, true, by omega, by go_num, rfl, HN, hid HBl.out.drew⟩, by simp [intOf]; omega⟩
              | false =>
                have HN := hid (show (xk == zi) = (decide (zi ∈ x) || decide (zi ∈ y.take (k + 1))) by rw [HAT.out, ← Bool.or_assoc, ← HFB.out, Bool.false_or])
                go_wp2_with fail
                go_region
                go_wp2_with fail
                refine ⟨⟨k + 1, _, by omega, by go_num, rfl, HN, hid HBl.out.drew⟩, by simp [intOf]; omega⟩
            · obtain rfl : k = y.length := by omega
              obtain rfl : fc = true := by
                rw [HFB.out, List.take_length, ← Bool.decide_or]
                exact decide_eq_true ((HXI.out zi).1 HIN.out)
              have HW3 := hid (ends_true HW2.out HBl.out)
              have z0' := (HBl.out.cell (p := ⟨bz, oz + i, none⟩) (by have := HZB2.out; omega)).trans HZ2.out
              by_cases hi0 : i = 0
              · subst hi0
                go_wp2_with fail
                go_region
                go_wp2_with fail
                refine ⟨⟨0 + 1, by omega, by go_num, hid HW3.out.drew⟩, by simp [intOf]; omega⟩
              · obtain ⟨j, rfl⟩ : ∃ j, i = j + 1 := ⟨i - 1, by omega⟩
                obtain ⟨bw, ow, cw', ew, -, -, w0⟩ := (HZ.out.below HW3.out).at (j := j) (by omega)
                obtain ⟨rfl, rfl⟩ : bz = bw ∧ oz = ow := by injection ew with e1 e2 e3; injection e1 with e1; injection e1 with e1 e2; exact ⟨e1, e2⟩
                have HJ := hid (show nth z j < zi by rw [HZI.out]; exact nth_lt HZL.out hlt)
                obtain ⟨zj, hzj⟩ : ∃ zj, zj = nth z j := ⟨_, rfl⟩
                rw [← hzj] at w0 HJ
                have hjz : ¬ zi ≤ zj := by have := HJ.out; omega
                have hj1 : ((j : Int) + 1 - 1) = (j : Int) := by omega
                have hj0 : (0 : Int) < (j : Int) + 1 := by omega
                clear hzj ew hi0
                go_wp2_with fail
                go_region
                go_wp2_with fail
                refine ⟨⟨j + 1 + 1, by omega, by go_num, hid HW3.out.drew⟩, by simp [intOf]; omega⟩
    · obtain rfl : i = z.length := by omega
      obtain ⟨ta, hta⟩ : ∃ ta, ta = tellsB s a := ⟨_, rfl⟩
      obtain ⟨tb, htb⟩ : ∃ tb, tb = tellsB s b := ⟨_, rfl⟩
      obtain ⟨tq, htq⟩ : ∃ tq, tq = tellsB s q := ⟨_, rfl⟩
      have hor := or_u64 ta tb (by rw [hta]; exact tells_lt HGD.out.2.1 _) (by rw [htb]; exact tells_lt HGD.out.2.1 _)
      have htt : ((ta ||| tb : Nat) : Int) = (tq : Int) := by rw [hta, htb, htq, HT.out]
      rw [htt] at hor
      have HTA := hid hta
      have HTB := hid htb
      have HTQ := hid htq
      clear hta htb htq htt hlt
      have hxz := HLEN.out.1
      have hyz := HLEN.out.2
      have HFr := hid (HFa.out.below HBr.out)
      have HAr := hid (HAa.out.below HBr.out)
      have HVr := hid (HVa.out.below HBr.out)
      have HNr := hid (HNa.out.below HBr.out)
      have HXr := hid (HX.out.below HBr.out)
      have HYr := hid (HY.out.below HBr.out)
      have HZr := hid (HZ.out.below HBr.out)
      have HWr := hid (ends_true HBa.out HBr.out)
      clear HFa HAa HVa HNa HX HY HZ HBa HBr
      go_wp2_with fail
      refine (tells_any g search s _ _ q wr HFr.out HGD.out.2.1 HNr.out OKQ.out).mono ?_
      rintro e wb ⟨rfl, n1, hwb⟩
      rw [← HTQ.out]
      have D1 : Below wr.heap.size wr wb := by rw [hwb]; exact ⟨rfl, rfl, rfl, Nat.le_refl _, fun _ _ => rfl⟩
      have HF1 := hid (HFr.out.below D1)
      have HA1 := hid (HAr.out.below D1)
      have HD1 := hid D1
      clear D1 hwb
      go_wp2_with fail
      refine (tells_any g search s _ _ a wb HF1.out HGD.out.2.1 HA1.out OKA.out).mono ?_
      rintro e wc ⟨rfl, n2, hwc⟩
      rw [← HTA.out]
      have D2 : Below wr.heap.size wr wc := by rw [hwc]; exact HD1.out.trans ⟨rfl, rfl, rfl, Nat.le_refl _, fun _ _ => rfl⟩
      have HF2 := hid (HFr.out.below D2)
      have HV2 := hid (HVr.out.below D2)
      have HD2 := hid D2
      clear D2 HD1 HF1 HA1 hwc
      go_wp2_with fail
      refine (tells_any g search s _ _ b wc HF2.out HGD.out.2.1 HV2.out OKB.out).mono ?_
      rintro e we ⟨rfl, n3, hwe⟩
      rw [← HTB.out]
      have D3 : Below wr.heap.size wr we := by rw [hwe]; exact HD2.out.trans ⟨rfl, rfl, rfl, Nat.le_refl _, fun _ _ => rfl⟩
      have HFe := hid (HFr.out.below D3)
      have HXe := hid (HXr.out.below D3)
      have HYe := hid (HYr.out.below D3)
      have HZe := hid (HZr.out.below D3)
      have HWe := hid (ends_true HWr.out D3)
      clear D3 HD2 hwe HF2 HV2 HFr HAr HVr HNr HXr HYr HZr HWr
      go_wp2_with fail
      refine (gstep_any g search s _ _ z m we HFe.out HGD.out HZe.out HI.out.2.2 (by omega)).mono ?_
      rintro e wf ⟨vf, rfl, hf, hbf⟩
      have HVf := hid hf
      have HFf := hid (HFe.out.below hbf)
      have HXf := hid (HXe.out.below hbf)
      have HYf := hid (HYe.out.below hbf)
      have HWf := hid (ends_true HWe.out hbf)
      clear hf hbf HFe HXe HYe HZe HWe
      obtain ⟨V, hV⟩ : ∃ V, V = wf.alloc (.cells #[.int .i64 (-1), .int .i64 5000] 3) := ⟨_, rfl⟩
      have HVB := hid (show Below wf.heap.size wf V by rw [hV]; exact (Below.refl _ _).alloc (Nat.le_refl _) _)
      have HVS := hid (show wf.heap.size ≤ V.heap.size from HVB.out.size)
      have HVO := hid (show V.ownsRow wf.heap.size 3 1 (.slice (some ⟨wf.heap.size, 0, none⟩) 2 2) ([-1, 5000] : List Int).length (([-1, 5000] : List Int).map (.int .i64)) from IntBlk.own (l := [-1, 5000]) (show V.heap[wf.heap.size]? = _ by rw [hV]; exact heap_alloc_new _ _) (Nat.le_refl _) (by decide))
      have HXV := hid (HXf.out.below HVB.out)
      have HM1 := hid (show ([-1, 5000] : List Int).length + x.length ≤ 1000000 by simp; omega)
      have HM2 := hid (show ([-1, 5000] ++ x : List Int).length + y.length ≤ 1000000 by simp; omega)
      go_wp2_with (first
        | (at_builtin; rw [← hV]; clear hV; refine wpList_app_nums rfl (.tmp 156) (.tmp 157) rfl (xs := [-1, 5000]) rfl HVO.out rfl HXV.out HM1.out HVS.out ?_; intro vg wg hog hbg hsg; have HOg := hid hog; have HYg := hid (HYf.out.below (HVB.out.trans hbg)); have HBg := hid (HVB.out.trans hbg); have HSg := hid hsg; clear hog hbg hsg)
        | (at_builtin; refine wpList_app_nums rfl (.tmp 158) (.tmp 159) rfl (xs := [-1, 5000] ++ x) rfl HOg.out rfl HYg.out HM2.out HSg.out ?_; intro vh wh hoh hbh hsh; have HNh := hid (own_nums hoh); have HBh := hid (HBg.out.trans hbh); clear hoh hbh hsh)
        | fail)
      have HFh := hid (HFf.out.below HBh.out)
      have HVh := hid (HVf.out.below HBh.out)
      have HWh := hid (ends_true HWf.out HBh.out)
      have HLh := hid (show ([-1, 5000] ++ x ++ y : List Int).length ≤ 10000 by simp; omega)
      have HOKh := hid (show ∀ u ∈ ([-1, 5000] ++ x ++ y : List Int), i64ok u from fun u hu => by
        rcases List.mem_append.1 hu with hu | hu
        · rcases List.mem_append.1 hu with hu | hu
          · exact i64_small (by simp at hu; omega)
          · exact HI.out.1 u hu
        · exact HI.out.2.1 u hu)
      refine (gstep_any g search s _ _ _ m wh HFh.out HGD.out HNh.out HOKh.out HLh.out).mono ?_
      rintro e wi ⟨vi, rfl, hi', hbi⟩
      have HVi := hid hi'
      have HVj := hid (HVh.out.below hbi)
      have HWi := hid (ends_true HWh.out hbi)
      clear hi' hbi
      go_wp2_with fail
      refine (is_any _ _ vf vi _ _ wi HVj.out HVi.out).mono ?_
      rintro e wj ⟨rfl, hbj⟩
      rw [decide_eq_true HSAME.out]
      have HWj := hid (ends_true HWi.out hbj)
      clear hbj
      go_wp2_with fail
      go_ret
      exact ⟨rfl, HWj.out⟩
end Go.Proofs.Ythdhbkngbmjjkaa
