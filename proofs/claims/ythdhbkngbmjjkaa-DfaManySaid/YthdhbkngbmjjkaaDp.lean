/- The table of a class with Anys behind it, looked for anywhere: a register of marks. Plain. Condition: less than 14 places. -/
import Derived.Test.YthdhbkngbmjjkaaDv
import Derived.Test.YthdhbkngbmjjkaaG6
namespace Go.Proofs.Ythdhbkngbmjjkaa
def clsM : Tr 1 := ((0, 5, []) : Int × Int × List (Tr 0))
def anyM : Tr 1 := ((1, 0, []) : Int × Int × List (Tr 0))
def kidsM (k : Nat) : List (Tr 1) := clsM :: List.replicate (k + 1) anyM
def treeM (k : Nat) : Tr 2 := ((4, 0, kidsM k) : Int × Int × List (Tr 1))
theorem many_fits : ∀ k, k < 12 → cntE 2 [treeM k] ≤ 160 ∧ rightE 2 [treeM k] = true := by decide +kernel
theorem many_fine {k : Nat} (h : k < 12) : Fine [treeM k] := ⟨(many_fits k h).1, (many_fits k h).2, by simp⟩
/-- A row of leaves. -/
theorem seq_leaves (ks : List (Tr 1)) (h : ∀ k ∈ ks, Tr.kind k ≠ 9 ∧ Tr.kids k = []) : ∀ o, (∀ q, (seqG (fun k o => glk 1 k o) (fun k => leavesT 1 k) ks o).fst q ↔ ks ≠ [] ∧ q = o + 1) ∧
    ((seqG (fun k o => glk 1 k o) (fun k => leavesT 1 k) ks o).emp ↔ ks = []) ∧ (∀ q, (seqG (fun k o => glk 1 k o) (fun k => leavesT 1 k) ks o).lst q ↔ ks ≠ [] ∧ q = o + ks.length) ∧
    ∀ p q, (seqG (fun k o => glk 1 k o) (fun k => leavesT 1 k) ks o).prs p q ↔ o < p ∧ q = p + 1 ∧ q ≤ o + ks.length := by
  induction ks with
  | nil => intro o; simp [seqG, gOne]; omega
  | cons k r ih =>
    intro o
    obtain ⟨h1, h2⟩ := h k List.mem_cons_self
    have e1 : glk 1 k o = gLeaf (o + 1) := by simp only [glk]; rw [if_neg h1, if_pos (by rw [h2]; rfl)]
    have e2 : leavesT 1 k = 1 := by simp only [leavesT]; rw [if_pos ⟨by rw [h2]; rfl, h1⟩]
    obtain ⟨i1, i2, i3, i4⟩ := ih (fun x hx => h x (List.mem_cons_of_mem _ hx)) (o + 1)
    have e3 : seqG (fun k o => glk 1 k o) (fun k => leavesT 1 k) (k :: r) o = gSeq (gLeaf (o + 1)) (seqG (fun k o => glk 1 k o) (fun k => leavesT 1 k) r (o + 1)) := by
      simp only [seqG]; rw [e1, e2]
    rw [e3]
    refine ⟨fun q => ?_, ?_, fun q => ?_, fun p q => ?_⟩
    · simp [gSeq, gLeaf]
    · simp [gSeq, gLeaf]
    · show ((_ ∧ q = o + 1) ∨ _) ↔ _
      rw [i2, i3]
      cases r with
      | nil => simp
      | cons a b => simp; omega
    · show (False ∨ _ ∨ (p = o + 1 ∧ _)) ↔ _
      rw [i4, i1]
      cases r with
      | nil => simp; omega
      | cons a b => simp; omega
theorem kids_plain (k : Nat) : ∀ x ∈ kidsM k, Tr.kind x ≠ 9 ∧ Tr.kids x = [] := fun x hx => by
  rcases List.mem_cons.1 hx with rfl | hx
  · exact ⟨by decide, rfl⟩
  · rw [(List.mem_replicate.1 hx).2]; exact ⟨by decide, rfl⟩
theorem kids_len (k : Nat) : (kidsM k).length = k + 2 := by simp [kidsM]
theorem many_glk (k : Nat) : allG [treeM k] 0 = seqG (fun k o => glk 1 k o) (fun k => leavesT 1 k) (kidsM k) 0 := by
  show gAlt (glk 2 (treeM k) 0) gNil = _
  rw [gAlt_nil]
  simp only [glk]
  rw [if_neg (by show ¬ (4 : Int) = 9; decide), if_neg (by show ¬ (kidsM k).length = 0; rw [kids_len]; omega), if_pos (by show (4 : Int) = 4; rfl)]
  rfl
theorem many_leafs (k : Nat) : ([treeM k].flatMap fun t => leafL 2 t) = (0, 5) :: List.replicate (k + 1) (1, 0) := by
  have h : ∀ n : Nat, (List.replicate n anyM).flatMap (fun k => leafL 1 k) = List.replicate n ((1 : Int), (0 : Int)) := fun n => by
    induction n with
    | zero => rfl
    | succ n ih => rw [List.replicate_succ, List.flatMap_cons, ih, List.replicate_succ]; rfl
  have e : leafL 2 (treeM k) = (kidsM k).flatMap fun k => leafL 1 k := by
    simp only [leafL]
    rw [if_neg (fun h => by have h2 : (kidsM k).length = 0 := h.1; rw [kids_len] at h2; omega)]
    rfl
  rw [List.flatMap_cons, List.flatMap_nil, List.append_nil, e]
  show leafL 1 clsM ++ (List.replicate (k + 1) anyM).flatMap (fun k => leafL 1 k) = _
  rw [h]
  rfl
theorem many_takes {k : Nat} (hk : k < 12) (m q : Int) (h1 : 1 ≤ q) (h2 : q ≤ ((k + 2 : Nat) : Int)) : takesAt (builtB [treeM k]) m q = if q = 1 then decide (m = 5) else decide (0 ≤ m ∧ m < 36) := by
  rw [takesAt_leafs, built_leafs (many_fine hk).fits, many_leafs]
  unfold takesK
  by_cases e : q = 1
  · subst e
    rw [if_pos rfl]
    show takesB 0 5 m = _
    unfold takesB
    rw [if_pos rfl]
    by_cases h : m = 5
    · subst h; decide
    · rw [decide_eq_false h, Bool.and_false]
  · rw [if_neg e]
    obtain ⟨j, rfl⟩ : ∃ j : Nat, q = ((j + 2 : Nat) : Int) := ⟨(q - 2).toNat, by omega⟩
    have : (((j + 2 : Nat) : Int) - 1).toNat = j + 1 := by omega
    rw [this, List.getElem?_cons_succ, List.getElem?_replicate, if_pos (by omega)]
    rfl
/-- The places in which the class stood: a register. -/
def mk (K : Nat) (f : Nat → Bool) : List Int := 0 :: ((List.range K).filter fun j => f (j + 1)).map fun j : Nat => ((j + 1 : Nat) : Int)
theorem mk_mem {K : Nat} {f : Nat → Bool} {x : Int} : x ∈ mk K f ↔ x = 0 ∨ ∃ j : Nat, 1 ≤ j ∧ j ≤ K ∧ x = j ∧ f j = true := by
  unfold mk
  rw [List.mem_cons, List.mem_map]
  refine or_congr Iff.rfl ⟨?_, ?_⟩
  · rintro ⟨j, hj, rfl⟩
    obtain ⟨h1, h2⟩ := List.mem_filter.1 hj
    exact ⟨j + 1, by omega, by have := List.mem_range.1 h1; omega, rfl, h2⟩
  · rintro ⟨j, h1, h2, rfl, h3⟩
    exact ⟨j - 1, List.mem_filter.2 ⟨List.mem_range.2 (by omega), by rw [show j - 1 + 1 = j by omega]; exact h3⟩, by omega⟩
theorem mk_lt (K : Nat) (f : Nat → Bool) : (mk K f).Pairwise (· < ·) := by
  unfold mk
  rw [List.pairwise_cons]
  refine ⟨fun x hx => ?_, ?_⟩
  · obtain ⟨j, _, rfl⟩ := List.mem_map.1 hx
    omega
  · rw [List.pairwise_map]
    exact (List.pairwise_lt_range.filter _).imp fun {a b} h => by omega
theorem mk_congr {K : Nat} {f g : Nat → Bool} (h : ∀ j, 1 ≤ j → j ≤ K → f j = g j) : mk K f = mk K g := by
  refine up_ext (mk_lt _ _) (mk_lt _ _) fun x => ?_
  rw [mk_mem, mk_mem]
  refine or_congr Iff.rfl ⟨?_, ?_⟩
  · rintro ⟨j, a, b, c, e⟩; exact ⟨j, a, b, c, by rw [← h j a b]; exact e⟩
  · rintro ⟨j, a, b, c, e⟩; exact ⟨j, a, b, c, by rw [h j a b]; exact e⟩
/-- What a mark makes of the register. -/
def sh (m : Int) (f : Nat → Bool) : Nat → Bool
  | 0 => false
  | 1 => decide (m = 5)
  | j + 2 => decide (0 ≤ m ∧ m < 36) && f (j + 1)
theorem many_step {k : Nat} (hk : k < 12) (m : Int) (f : Nat → Bool) : stepB true (builtB [treeM k]) m (mk (k + 2) f) = mk (k + 2) (sh m f) := by
  refine up_ext (setB_lt _) (mk_lt _ _) fun q => ?_
  rw [(many_fine hk).step, mk_mem (x := q) (f := sh m f), many_glk]
  obtain ⟨g1, -, -, g4⟩ := seq_leaves (kidsM k) (kids_plain k) 0
  rw [kids_len] at g4
  constructor
  · rintro (h | ⟨h1, h2, h3⟩)
    · exact .inl h.2
    · obtain ⟨j, rfl⟩ : ∃ j : Nat, q = j := ⟨q.toNat, by omega⟩
      rw [Int.toNat_natCast] at h3
      rcases h3 with ⟨_, h3⟩ | ⟨p, hp, hpm, h3⟩
      · have := ((g1 _).1 h3).2
        obtain rfl : j = 1 := by omega
        rw [many_takes hk _ _ (by omega) (by omega), if_pos (by rfl)] at h2
        exact .inr ⟨1, by omega, by omega, rfl, h2⟩
      · obtain ⟨a, b, c⟩ := (g4 _ _).1 h3
        rw [mk_mem] at hpm
        rcases hpm with e | ⟨i, i1, i2, i3, i4⟩
        · omega
        obtain rfl : i = p := by omega
        rw [many_takes hk _ _ (by omega) (by omega), if_neg (by omega)] at h2
        refine .inr ⟨j, by omega, by omega, rfl, ?_⟩
        obtain ⟨i', rfl⟩ : ∃ i', i = i' + 1 := ⟨i - 1, by omega⟩
        obtain rfl : j = i' + 2 := by omega
        simp only [sh]
        rw [h2, i4]
        rfl
  · rintro (h | ⟨j, h1, h2, rfl, h3⟩)
    · exact .inl ⟨rfl, h⟩
    · refine .inr ⟨by omega, ?_, ?_⟩
      · rw [many_takes hk _ _ (by omega) (by omega)]
        by_cases e : j = 1
        · subst e
          rw [if_pos (by rfl)]
          exact h3
        · rw [if_neg (by omega)]
          obtain ⟨i, rfl⟩ : ∃ i, j = i + 2 := ⟨j - 2, by omega⟩
          simp only [sh, Bool.and_eq_true] at h3
          exact h3.1
      · rw [Int.toNat_natCast]
        by_cases e : j = 1
        · subst e
          exact .inl ⟨mk_mem.2 (.inl rfl), (g1 _).2 ⟨by simp [kidsM], rfl⟩⟩
        · obtain ⟨i, rfl⟩ : ∃ i, j = i + 2 := ⟨j - 2, by omega⟩
          simp only [sh, Bool.and_eq_true] at h3
          exact .inr ⟨i + 1, by omega, mk_mem.2 (.inr ⟨i + 1, by omega, by omega, rfl, h3.2⟩), (g4 _ _).2 ⟨by omega, by omega, by omega⟩⟩
theorem many_step_nil {k : Nat} (hk : k < 12) (m : Int) : stepB true (builtB [treeM k]) m [] = mk (k + 2) fun _ => false := by
  refine up_ext (setB_lt _) (mk_lt _ _) fun q => ?_
  rw [(many_fine hk).step, mk_mem]
  simp
theorem mk_zero (K : Nat) : mk K (fun _ => false) = [0] := by
  simp [mk]
/-- All registers. -/
def bm : Nat → List (List Int)
  | 0 => [[0]]
  | K + 1 => bm K ++ (bm K).map fun X => X ++ [((K + 1 : Nat) : Int)]
theorem bm_len : ∀ K, (bm K).length = 2 ^ K
  | 0 => rfl
  | K + 1 => by simp only [bm, List.length_append, List.length_map]; rw [bm_len K]; omega
theorem mk_succ (K : Nat) (f : Nat → Bool) : mk (K + 1) f = if f (K + 1) = true then mk K f ++ [((K + 1 : Nat) : Int)] else mk K f := by
  unfold mk
  rw [List.range_succ, List.filter_append, List.map_append]
  by_cases h : f (K + 1) = true
  · rw [if_pos h]; simp [h]
  · rw [if_neg h]; simp [h]
theorem bm_mk (f : Nat → Bool) : ∀ K, mk K f ∈ bm K
  | 0 => by simp [mk, bm]
  | K + 1 => by
    rw [mk_succ, bm, List.mem_append]
    split
    · exact .inr (List.mem_map.2 ⟨_, bm_mk f K, rfl⟩)
    · exact .inl (bm_mk f K)
theorem bm_is : ∀ (K : Nat) (X : List Int), X ∈ bm K → ∃ f, X = mk K f
  | 0, X, h => ⟨fun _ => false, by rw [List.mem_singleton.1 h]; rfl⟩
  | K + 1, X, h => by
    rw [bm, List.mem_append] at h
    rcases h with h | h
    · obtain ⟨f, rfl⟩ := bm_is K X h
      refine ⟨fun j => if j = K + 1 then false else f j, ?_⟩
      rw [mk_succ, if_neg (by simp)]
      exact mk_congr fun j a b => by rw [if_neg (by omega)]
    · obtain ⟨Y, hY, rfl⟩ := List.mem_map.1 h
      obtain ⟨f, rfl⟩ := bm_is K Y hY
      refine ⟨fun j => if j = K + 1 then true else f j, ?_⟩
      rw [mk_succ, if_pos (by simp)]
      rw [mk_congr (f := f) (g := fun j => if j = K + 1 then true else f j) fun j a b => by rw [if_neg (by omega)]]
theorem bm_nodup : ∀ K, (bm K).Nodup
  | 0 => by simp [bm]
  | K + 1 => by
    rw [bm, List.nodup_append]
    refine ⟨bm_nodup K, ?_, fun a ha b hb e => ?_⟩
    · rw [List.nodup_iff_pairwise_ne, List.pairwise_map]
      exact (List.nodup_iff_pairwise_ne.1 (bm_nodup K)).imp fun {a b} h e => h (List.append_cancel_right e)
    · obtain ⟨f, rfl⟩ := bm_is K a ha
      obtain ⟨Y, _, rfl⟩ := List.mem_map.1 hb
      have : ((K + 1 : Nat) : Int) ∈ mk K f := by rw [e]; simp
      rcases mk_mem.1 this with e | ⟨j, _, h2, h3, _⟩
      · omega
      · omega
theorem many_bm {k : Nat} (hk : k < 12) (m : Int) {X : List Int} (h : X ∈ bm (k + 2) ∨ X = []) : stepB true (builtB [treeM k]) m X ∈ bm (k + 2) := by
  rcases h with h | rfl
  · obtain ⟨f, rfl⟩ := bm_is _ _ h
    rw [many_step hk]
    exact bm_mk _ _
  · rw [many_step_nil hk]
    exact bm_mk _ _
theorem sets_bm {k : Nat} (hk : k < 12) {cur : List Int} {sets : List (List Int)} (hc : cur ∈ bm (k + 2) ∨ cur = []) (hs : ∀ X ∈ sets, X ∈ bm (k + 2)) : ∀ j, ∀ X ∈ setsTo true (builtB [treeM k]) cur sets j, X ∈ bm (k + 2)
  | 0 => hs
  | j + 1 => fun X hX => by
    simp only [setsTo] at hX
    rcases addB_mem.1 hX with h | rfl
    · exact sets_bm hk hc hs j X h
    · exact many_bm hk _ hc
theorem out_bm {k : Nat} (hk : k < 12) : ∀ i, ∀ X ∈ (outB true (builtB [treeM k]) i).1, X ∈ bm (k + 2)
  | 0 => fun X hX => by
    rw [show (outB true (builtB [treeM k]) 0).1 = [[0]] by simp only [outB]] at hX
    rw [List.mem_singleton.1 hX, ← mk_zero (k + 2)]
    exact bm_mk _ _
  | i + 1 => by
    rw [out_sets]
    refine sets_bm hk ?_ (out_bm hk i) 37
    cases h : (outB true (builtB [treeM k]) i).1[i]? with
    | none => exact .inr rfl
    | some X => exact .inl (out_bm hk i X (List.mem_of_getElem? h))
theorem out_many {k : Nat} (hk : k < 12) (i : Nat) : (outB true (builtB [treeM k]) i).1.length ≤ 2 ^ (k + 2) := by
  rw [← bm_len]
  exact nodup_len (out_nodup i) (out_bm hk i)
/-- The marks that make a register. -/
def fed (f : Nat → Bool) : Nat → List Int
  | 0 => []
  | j + 1 => (if f (j + 1) = true then 5 else 6) :: fed f j
theorem fed_run {k : Nat} (hk : k < 12) (f : Nat → Bool) : ∀ j, ∀ g : Nat → Bool, ∃ h : Nat → Bool, (fed f j).foldl (fun X m => stepB true (builtB [treeM k]) m X) (mk (k + 2) g) = mk (k + 2) h ∧ (∀ i, 1 ≤ i → i ≤ j → h i = f i) ∧ ∀ i, j < i → h i = g (i - j) ∨ i - j = 0
  | 0, g => ⟨g, rfl, fun i a b => by omega, fun i _ => .inl rfl⟩
  | j + 1, g => by
    simp only [fed, List.foldl_cons]
    rw [many_step hk]
    obtain ⟨h, e, h1, h2⟩ := fed_run hk f j (sh (if f (j + 1) = true then 5 else 6) g)
    refine ⟨h, e, fun i a b => ?_, fun i hi => ?_⟩
    · by_cases ei : i = j + 1
      · subst ei
        rcases h2 (j + 1) (by omega) with h3 | h3
        · rw [h3, show j + 1 - j = 1 by omega]
          simp only [sh]
          cases f (j + 1) <;> rfl
        · omega
      · exact h1 i a (by omega)
    · left
      rcases h2 i (by omega) with h3 | h3
      · rw [h3]
        obtain ⟨x, hx⟩ : ∃ x, i - j = x + 2 := ⟨i - j - 2, by omega⟩
        rw [hx, show i - (j + 1) = x + 1 by omega]
        simp only [sh]
        cases f (j + 1) <;> simp
      · omega
theorem fed_ok (f : Nat → Bool) : ∀ j, ∀ m ∈ fed f j, 0 ≤ m ∧ m < 37
  | 0 => fun m h => by cases h
  | j + 1 => fun m h => by
    simp only [fed] at h
    rcases List.mem_cons.1 h with rfl | h
    · split <;> omega
    · exact fed_ok f j m h
theorem many_all {k : Nat} (hk : k < 12) {sets rows : List (List Int)} {tells : List Int} (h : Tbl true (builtB [treeM k]) sets rows tells) : ∀ X ∈ bm (k + 2), X ∈ sets := fun X hX => by
  obtain ⟨f, rfl⟩ := bm_is _ _ hX
  obtain ⟨k', -, -, h3⟩ := h.run (fed f (k + 2)) 0 (List.getElem?_eq_some_iff.1 h.zero).1 (fed_ok f _)
  rw [row_some h.zero, ← mk_zero (k + 2)] at h3
  obtain ⟨g, e, h1, -⟩ := fed_run hk f (k + 2) fun _ => false
  rw [e, mk_congr (g := f) fun j a b => h1 j a b] at h3
  exact List.mem_of_getElem? h3
theorem many_done {k n : Nat} (hk : k < 12) (h : Done true (builtB [treeM k]) n) : n = 2 ^ (k + 2) := by
  have h1 := out_many hk n
  have h2 := nodup_len (bm_nodup (k + 2)) (many_all hk h.tbl)
  rw [bm_len] at h2
  have := h.2
  omega
theorem many_ends {k : Nat} (hk : k < 12) : Done true (builtB [treeM k]) (2 ^ (k + 2)) := by
  have hex : ∃ n, (outB true (builtB [treeM k]) n).1.length ≤ n := ⟨_, out_many hk _⟩
  have key : ∀ b, (∃ n, n ≤ b ∧ (outB true (builtB [treeM k]) n).1.length ≤ n) → ∃ n, (outB true (builtB [treeM k]) n).1.length ≤ n ∧ ∀ i, i < n → i < (outB true (builtB [treeM k]) i).1.length := by
    intro b
    induction b with
    | zero => rintro ⟨n, h1, h2⟩; exact ⟨n, h2, fun i hi => by omega⟩
    | succ b ih =>
      rintro ⟨n, h1, h2⟩
      by_cases e : ∃ m, m ≤ b ∧ (outB true (builtB [treeM k]) m).1.length ≤ m
      · exact ih e
      · refine ⟨n, h2, fun i hi => ?_⟩
        by_cases e2 : (outB true (builtB [treeM k]) i).1.length ≤ i
        · exact absurd ⟨i, by omega, e2⟩ e
        · omega
  obtain ⟨n0, hn0⟩ := hex
  obtain ⟨n, h1, h2⟩ := key n0 ⟨n0, Nat.le_refl _, hn0⟩
  have hd : Done true (builtB [treeM k]) n := by
    refine ⟨h2, ?_⟩
    cases n with
    | zero =>
      rw [show (outB true (builtB [treeM k]) 0).1 = [[0]] by simp only [outB]] at h1
      simp at h1
    | succ i =>
      have h3 := h2 i (by omega)
      have h4 := out_le (search := true) (s := builtB [treeM k]) (i := i) (j := i + 1) (by omega)
      omega
  rw [← many_done hk hd]
  exact hd
end Go.Proofs.Ythdhbkngbmjjkaa
