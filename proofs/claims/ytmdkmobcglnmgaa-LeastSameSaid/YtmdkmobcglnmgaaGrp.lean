/- The grouping of tables: what the program's Groups returns. Condition: at most a hundred tables. -/
import Derived.Test.YtmdkmobcglnmgaaDel
namespace Go.Proofs.Ytmdkmobcglnmgaa
open Go.RowKit

theorem ds_qs {w : World} {S : Nat → Prop} : ∀ (ds : List D) (vs : List Value), vs.length = 2 * ds.length →
    (∀ (k : Nat) (d : D), ds[k]? = some d → ∃ nv tv, vs[2 * k]? = some nv ∧ vs[2 * k + 1]? = some tv ∧ IsRows w S nv d.next ∧ IsNums .u64 w S tv d.tells) →
    ∃ qs : List QD, qs.map (·.2) = ds ∧ flat (qs.map (·.1)) = vs ∧ ∀ q ∈ qs, okQ w S q
  | [], vs, hl, _ => ⟨[], rfl, (List.eq_nil_of_length_eq_zero (by simpa using hl)).symm, fun q h => by cases h⟩
  | d :: ds, vs, hl, h => by
    match vs, hl with
    | a :: b :: vs, hl =>
      obtain ⟨nv, tv, h1, h2, h3, h4⟩ := h 0 d rfl
      simp at h1 h2
      subst h1 h2
      obtain ⟨qs, e1, e2, e3⟩ := ds_qs ds vs (by simp at hl; omega) (fun k d' hk => by
        obtain ⟨nv, tv, g1, g2, g3, g4⟩ := h (k + 1) d' (by simpa using hk)
        exact ⟨nv, tv, by simpa [Nat.mul_add] using g1, by simpa [Nat.mul_add] using g2, g3, g4⟩)
      exact ⟨((a, b), d) :: qs, by simp [e1], by rw [List.map_cons]; show [a, b] ++ flat (qs.map (·.1)) = _; rw [e2]; rfl, fun q hq => by
        rcases List.mem_cons.1 hq with rfl | hq
        · exact ⟨h3, h4⟩
        · exact e3 q hq⟩
theorem flat_one {w : World} {S : Nat → Prop} {qs : List QD} (h : ∀ q ∈ qs, okQ w S q) : ∀ u ∈ flat (qs.map (·.1)), u.oneCell' = true := by
  intro u hu
  simp only [flat, List.mem_flatMap, List.mem_map] at hu
  obtain ⟨p, ⟨q, hq, rfl⟩, hu⟩ := hu
  obtain ⟨h1, h2⟩ := h q hq
  obtain ⟨A, c, e1⟩ := h1.form
  obtain ⟨T, t, e2⟩ := h2.form
  simp at hu
  rcases hu with rfl | rfl
  · rw [e1]; rfl
  · rw [e2]; rfl

def goodD (ds : List D) : List D := ds.filter rightB
theorem good_map (qs : List QD) : (good qs).map (·.2) = goodD (qs.map (·.2)) := by
  unfold good goodD; rw [List.filter_map]; rfl
def colOf (ds : List D) (m : Nat) : ByteArray := bytesOf (dsCol (goodD ds) m)
def groupsL (ds : List D) : List Int := numbered ((List.range 37).map (colOf ds))

theorem info9 : (Try.prog.info? 9).map (fun i => (i.zero, i.size, i.bytes)) = some (some (.string ByteArray.empty), 1, 16) := by kernel_rfl

theorem right_rows {d : D} (h : rightB d = true) : d.next.length ≤ 1000 ∧ 1 ≤ d.next.length ∧ d.tells.length = d.next.length ∧ ∀ r ∈ d.next, r.length = 37 ∧ ∀ z ∈ r, 0 ≤ z ∧ z < (d.next.length : Int) := by
  simp only [rightB, Bool.and_eq_true, decide_eq_true_eq, List.all_eq_true] at h
  obtain ⟨⟨⟨h1, h2⟩, h3⟩, h4⟩ := h
  exact ⟨h2, h1, h3, fun r hr => ⟨(h4 r hr).1, fun z hz => by simpa using (h4 r hr).2 z hz⟩⟩
theorem total_good (ds : List D) (h : ds.length ≤ 100) : total (goodD ds) ≤ 1000000 := by
  have key : ∀ l : List D, (∀ d ∈ l, d.next.length ≤ 1000) → total l ≤ 1000 * l.length := by
    intro l
    induction l with
    | nil => intro _; simp [total]
    | cons d l ih =>
      intro hd
      have := ih fun x hx => hd x (List.mem_cons_of_mem _ hx)
      have h1 := hd d List.mem_cons_self
      simp only [total, List.map_cons, List.sum_cons, List.length_cons] at this ⊢
      omega
  have h1 := key (goodD ds) (fun d hd => (right_rows (List.mem_filter.1 hd).2).1)
  have h2 : (goodD ds).length ≤ ds.length := List.length_filter_le _ _
  omega

/-- A row of tables of the call's own, nil or not. -/
theorem own_isDs {w : World} {S : Nat → Prop} {B : Nat} {v : Value} {qs : List QD} (h : w.ownsRow B 30 2 v qs.length (flat (qs.map (·.1)))) (hq : ∀ q ∈ qs, okQ w S q) :
    IsDs w (fun b => S b ∨ v.ownBlock = some b) v (qs.map (·.2)) := by
  obtain ⟨hl, ⟨rfl, h0⟩ | ⟨g, cap, cur, rfl, hb, hh, h1, h2, h3, h4⟩⟩ := h
  · obtain rfl : qs = [] := List.eq_nil_of_length_eq_zero h0
    exact ⟨none, 0, [], rfl, Nat.le_refl _, Nat.zero_le _, Arr.nil, rfl, fun k d hd => by simp at hd⟩
  · have := qs_isDs (S := S) hh rfl h1 h2 (by rw [Nat.mul_comm]; exact h4) hq
    obtain ⟨A, c, vs, e, k1, k2, k3, k4, k5⟩ := this
    refine ⟨A, c, vs, e, k1, k2, k3.mono (fun b hb _ => ?_), k4, fun k d hd => ?_⟩
    · rcases hb with hb | rfl
      · exact .inl hb
      · exact .inr rfl
    · obtain ⟨nv, tv, m1, m2, m3, m4⟩ := k5 k d hd
      refine ⟨nv, tv, m1, m2, m3.mono (fun b hb _ => ?_), m4.mono (fun b hb _ => ?_)⟩ <;>
      · rcases hb with hb | rfl
        · exact .inl hb
        · exact .inr rfl

/-- A returned row of the call's own, from a block on. -/
def OwnedFrom (B : Nat) (w : World) (e size n : Nat) (xs : List Value) (en : Ending) (w' : World) : Prop :=
  ∃ v, en = .returned v ∧ w'.ownsRow B e size v n xs ∧ Below B w w'

set_option maxRecDepth 100000 in
set_option maxHeartbeats 400000 in
/-- DeleteFunc, of an owned row, nil or not. -/
theorem delete_own (S : Nat → Prop) (B : Nat) (v : Value) (qs : List QD) (w : World) (hB : B ≤ w.heap.size) (hS : ∀ b, S b → b < B) (hown : w.ownsRow B 30 2 v qs.length (flat (qs.map (·.1)))) (hq : ∀ q ∈ qs, okQ w S q) (hn : qs.length ≤ 100) :
    Calls Try.prog 43 #[v, .func (.func 45) #[] #[]] w (OwnedFrom B w 30 2 (good qs).length (flat ((good qs).map (·.1)))) := by
  have hD := own_isDs hown hq
  obtain ⟨hl, ⟨rfl, h0⟩ | ⟨g, cap, cur, rfl, hb, hh, h1, h2, h3, h4⟩⟩ := hown
  · obtain rfl : qs = [] := List.eq_nil_of_length_eq_zero h0
    have HD := hid hD
    clear hD hl
    go_enter Try.func43, Try.ntmps43
    go_wp2_with (go_at_call 64; refine (index_any _ _ _ _ HD.out).mono ?_; rintro e w1 ⟨rfl, hb1⟩; rw [badIdx_none (by simp)])
    go_ret
    exact ⟨_, rfl, World.ownsRow_nil _ _ _ _, hb1.mono hB⟩
  · refine (delete_any S g qs.length cap B cur qs w hb (fun b hb' e => by have := hS b hb'; omega) hh rfl h1 h2 h3 (by rw [Nat.mul_comm]; exact h4) hq hn).mono ?_
    rintro e w' ⟨rfl, k1, k2⟩
    exact ⟨_, rfl, k1, (Below.refl _ _).grown k2 hB (fun k hk => by cases hk; exact hb)⟩

theorem IsDs.below {w w' : World} {S : Nat → Prop} {v : Value} {ds : List D} (h : IsDs w S v ds) (hb : Below w.heap.size w w') : IsDs w' S v ds := by
  obtain ⟨A, c, vs, e, h1, h2, h3, h4, h5⟩ := h
  exact ⟨A, c, vs, e, h1, h2, h3.below hb, h4, fun k d hd => by
    obtain ⟨nv, tv, a1, a2, a3, a4⟩ := h5 k d hd
    exact ⟨nv, tv, a1, a2, a3.below hb, a4.below hb⟩⟩
theorem groupsL_len (ds : List D) : (groupsL ds).length = 37 := by
  unfold groupsL numbered
  rw [(numGo_len _).1]; simp
theorem colOf_size (ds : List D) (m : Nat) (h : ds.length ≤ 100) : (colOf ds m).size ≤ maxLen := by
  have h1 : (colOf ds m).size = (dsCol (goodD ds) m).length := by
    unfold colOf bytesOf ByteArray.size; simp
  rw [h1, len_dsCol]
  have := total_good ds h
  unfold maxLen; omega
theorem flat_goodlen (qs : List QD) : (goodD (qs.map (·.2))).length = (good qs).length := by rw [← good_map, List.length_map]

set_option maxRecDepth 100000 in
set_option maxHeartbeats 1000000 in
theorem groups_any (S : Nat → Prop) (v : Value) (ds : List D) (w : World) (h : IsDs w S v ds) (hn : ds.length ≤ 100) :
    Calls Try.prog 16 #[v] w (Owned w 3 1 (groupsL ds).length ((groupsL ds).map (.int .i64))) := by
  obtain ⟨i0, hi0, hz0, hz1, hz2⟩ := info_parts info9
  obtain ⟨A, c, vs, rfl, hl1, hl2, hA, hvl, hD⟩ := h
  obtain ⟨qs, rfl, rfl, hq⟩ := ds_qs ds vs hvl hD
  rw [List.length_map] at hn hl1 hvl ⊢
  have hsrc : Src w 2 A qs.length (flat (qs.map (·.1))) := hA.src (by rw [hvl]; omega) (by omega)
  have hone := flat_one hq
  have HSrc := hid hsrc
  have H1 := hid hone
  have HQ : Hid (∀ q ∈ qs, okQ w (fun b => b < w.heap.size) q) := fun q h => ⟨(hq q h).1.mono fun b _ h => h, (hq q h).2.mono fun b _ h => h⟩
  clear hA hvl hD hq hsrc hone
  go_enter Try.func16, Try.ntmps16
  go_wp2_with (first
    | (go_at_call 44; refine (clone44_any A qs.length c _ _ HSrc.out H1.out (by omega)).mono ?_; rintro e w1 ⟨v1, rfl, hown1, hb1⟩)
    | (go_at_call 43; refine (delete_own (fun b => b < w.heap.size) w.heap.size v1 qs w1 hb1.size (fun b h => h) hown1 (fun q hq => ⟨(HQ.out q hq).1.below hb1, (HQ.out q hq).2.below hb1⟩) hn).mono ?_; rintro e w2 ⟨v2, rfl, hown2, hb2⟩))
  have hDs := hid (show IsDs w2 (fun b => b < w.heap.size ∨ v2.ownBlock = some b) v2 (goodD (qs.map (·.2))) by
    rw [← good_map]
    exact own_isDs hown2 fun q hq => by
      have hq' := HQ.out q (List.mem_filter.1 hq).1
      have hb12 := hb1.trans hb2
      exact ⟨hq'.1.below hb12, hq'.2.below hb12⟩)
  have hgd := hid (fun d (hd : d ∈ goodD (qs.map (·.2))) => right_rows (List.mem_filter.1 hd).2)
  have htot := total_good (qs.map (·.2)) (by rw [List.length_map]; exact hn)
  have hB2 := hid (hb1.trans hb2)
  clear hown1 hown2 hb1 hb2 HSrc H1 HQ
  go_loopw [3, 8] (fun s3 s8 wr => ∃ m : Nat, m ≤ 37 ∧ s8 = .int .i64 m ∧ wr.ownsRow w2.heap.size 9 1 s3 m (((List.range m).map (colOf (qs.map (·.2)))).map Value.string) ∧ Below w2.heap.size w2 wr) (fun _ s8 _ => 37 - (intOf s8).toNat)
  case atStart => exact ⟨0, by omega, rfl, World.ownsRow_nil _ _ _ _, Below.refl _ _⟩
  case round =>
    obtain ⟨m, hm, rfl, hown, hbw⟩ := hrel
    have HO := hid hown
    clear hown
    by_cases hlt : m < 37
    · have hmi : (m : Int) < 37 := by omega
      have hcond : ∀ d ∈ goodD (qs.map (·.2)), ∀ r ∈ d.next, m < r.length ∧ 0 ≤ nth r m ∧ nth r m < 65536 := by
        intro d hd r hr
        obtain ⟨g1, g2, g3, g4⟩ := hgd.out d hd
        obtain ⟨g5, g6⟩ := g4 r hr
        have g7 := g6 (nth r m) (nth_mem (by omega))
        exact ⟨by omega, g7.1, by omega⟩
      have HC := hid hcond
      clear hcond
      go_wp2_with (first
        | (go_at_call 46; refine (col_any _ _ _ m _ (hDs.out.below hbw) HC.out htot).mono ?_; rintro e w3 ⟨rfl, hb3⟩)
        | (at_builtin; refine wpList_app _ rfl (.tmp 11) (.tmp 15) 75 rfl w2.heap.size 9 i0 _ 1 16 Try.underlying75 hi0 hz0 hz1 hz2 rfl (by decide) u3 _ _ rfl ((HO.out.kept (grown_of_below hb3 none) (Classical.em _)).alloc _) (some ⟨w3.heap.size, 0, none⟩) 1 1 _ rfl (src_new w3 _ 9 1 rfl) (by simp [Value.oneCell']) (by simp only [maxLen]; omega) (by omega) (by have := hb3.size; have := hbw.size; simp; omega) ?_; intro v' w4 hown4 hgrow4 hat4))
      go_roundw
      case rel =>
        have hz3 := hb3.size
        have hz4 := hbw.size
        refine ⟨m + 1, by omega, by go_num, ?_, ?_⟩
        · rw [List.range_succ, List.map_append, List.map_append]; exact hown4
        · exact below_own ((hbw.trans (hb3.mono hz4)).alloc (by omega) _) ((HO.out.kept (grown_of_below hb3 none) (Classical.em _)).alloc _) hgrow4 (by simp; omega)
      case measure => simp [intOf]; omega
    · obtain rfl : m = 37 := by omega
      have htx := hid (show IsTexts wr (fun b => w2.heap.size ≤ b ∧ u3.ownBlock = some b) u3 ((List.range 37).map (colOf (qs.map (·.2)))) by
        obtain ⟨TA, tc, e, _, _, hT⟩ := own_arr HO.out
        exact ⟨TA, tc, by rw [e]; simp, hT⟩)
      have hsz : Hid (∀ s ∈ (List.range 37).map (colOf (qs.map (·.2))), s.size ≤ maxLen) := by
        intro s hs
        obtain ⟨m, _, rfl⟩ := List.mem_map.1 hs
        exact colOf_size _ m (by rw [List.length_map]; exact hn)
      go_wp2_with (go_at_call 47; refine (num_any _ _ _ _ htx.out hsz.out (by simp)).mono ?_; rintro e w3 ⟨v3, rfl, hown3, hb3⟩)
      go_ret
      have hz1' := hB2.out.size
      have hz2' := hbw.size
      exact ⟨v3, rfl, by
        obtain ⟨hl, hcase⟩ := hown3
        refine ⟨hl, hcase.imp id ?_⟩
        rintro ⟨g, cap, cur, e, hb, rest⟩
        exact ⟨g, cap, cur, e, by omega, rest⟩, (hB2.out.trans (hbw.mono hz1')).trans (hb3.mono (by omega))⟩
end Go.Proofs.Ytmdkmobcglnmgaa
