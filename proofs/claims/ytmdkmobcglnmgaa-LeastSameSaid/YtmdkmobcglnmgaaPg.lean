/- Plain: what 'numbered' tells of its keys, what the grouping of right tables tells of their columns. Conditions: the tables are right. -/
import Derived.Test.YtmdkmobcglnmgaaMk
namespace Go.Proofs.Ytmdkmobcglnmgaa
open Go.RowKit

/-- What holds of the state behind some keys. -/
structure NumInv {K : Type} [DecidableEq K] (ks : List K) (s : List (K × Int) × List Int) : Prop where
  len : s.2.length = ks.length
  told : ∀ (j : Nat) (k : K), ks[j]? = some k → ∃ v, mget s.1 k = some v ∧ s.2[j]? = some v
  lt : ∀ k v, mget s.1 k = some v → 0 ≤ v ∧ v < (s.1.length : Int)
  inj : ∀ k k' v, mget s.1 k = some v → mget s.1 k' = some v → k = k'
  many : manyAux s.2 = some (s.1.length : Int)
  zero : ∀ v, s.2[0]? = some v → v = 0
theorem numInv_step {K : Type} [DecidableEq K] {ks : List K} {s : List (K × Int) × List Int} (h : NumInv ks s) (k : K) : NumInv (ks ++ [k]) (numStep s k) := by
  unfold numStep
  cases hk : mget s.1 k with
  | some n =>
    obtain ⟨h0, h1⟩ := h.lt k n hk
    refine ⟨by simp [h.len], ?_, h.lt, h.inj, ?_, ?_⟩
    · intro j k' hj
      by_cases hlt : j < ks.length
      · rw [List.getElem?_append_left hlt] at hj
        obtain ⟨v, hv1, hv2⟩ := h.told j k' hj
        exact ⟨v, hv1, by show (s.2 ++ [n])[j]? = _; rw [List.getElem?_append_left (by rw [h.len]; exact hlt)]; exact hv2⟩
      · have hjl : j = ks.length := by have := (List.getElem?_eq_some_iff.1 hj).1; simp at this; omega
        subst hjl
        simp at hj
        subst hj
        exact ⟨n, hk, by show (s.2 ++ [n])[ks.length]? = _; rw [← h.len]; simp⟩
    · show manyAux (s.2 ++ [n]) = _
      rw [manyAux_snoc, h.many]
      simp only [manyStep]
      rw [if_neg (by omega), if_neg (by omega)]
    · intro v hv
      have hv' : (s.2 ++ [n])[0]? = some v := hv
      by_cases hl : 0 < s.2.length
      · rw [List.getElem?_append_left hl] at hv'
        exact h.zero v hv'
      · have : ks = [] := List.eq_nil_of_length_eq_zero (by have := h.len; omega)
        have h2 : s.2 = [] := List.eq_nil_of_length_eq_zero (by omega)
        have hm := h.many
        rw [h2] at hm
        simp [manyAux] at hm
        omega
  | none =>
    have hnew := mset_new (s.1.length : Int) (mget_none_iff.1 hk)
    have hget : ∀ k' v, mget (mset s.1 k (s.1.length : Int)) k' = some v → (k = k' ∧ v = s.1.length) ∨ (k ≠ k' ∧ mget s.1 k' = some v) := by
      intro k' v hv
      rw [mget_mset] at hv
      by_cases e : k = k'
      · rw [if_pos e] at hv; exact .inl ⟨e, by injection hv with hv; exact hv.symm⟩
      · rw [if_neg e] at hv; exact .inr ⟨e, hv⟩
    have hlen : (mset s.1 k (s.1.length : Int)).length = s.1.length + 1 := by rw [hnew]; simp
    refine ⟨by simp [h.len], ?_, ?_, ?_, ?_, ?_⟩
    · intro j k' hj
      by_cases hlt : j < ks.length
      · rw [List.getElem?_append_left hlt] at hj
        obtain ⟨v, hv1, hv2⟩ := h.told j k' hj
        have hne : k ≠ k' := fun e => by rw [← e, hk] at hv1; cases hv1
        exact ⟨v, by show mget (mset s.1 k (s.1.length : Int)) k' = _; rw [mget_mset, if_neg hne]; exact hv1, by show (s.2 ++ [_])[j]? = _; rw [List.getElem?_append_left (by rw [h.len]; exact hlt)]; exact hv2⟩
      · have hjl : j = ks.length := by have := (List.getElem?_eq_some_iff.1 hj).1; simp at this; omega
        subst hjl
        simp at hj
        subst hj
        exact ⟨s.1.length, by show mget (mset s.1 k (s.1.length : Int)) k = _; rw [mget_mset, if_pos rfl], by show (s.2 ++ [_])[ks.length]? = _; rw [← h.len]; simp⟩
    · intro k' v hv
      show 0 ≤ v ∧ v < ((mset s.1 k (s.1.length : Int)).length : Int)
      rw [hlen]
      rcases hget k' v hv with ⟨_, rfl⟩ | ⟨_, h1⟩
      · omega
      · have := h.lt k' v h1; omega
    · intro k1 k2 v h1 h2
      rcases hget k1 v h1 with ⟨e1, e1'⟩ | ⟨n1, g1⟩ <;> rcases hget k2 v h2 with ⟨e2, e2'⟩ | ⟨n2, g2⟩
      · exact e1.symm.trans e2
      · have := h.lt k2 v g2; omega
      · have := h.lt k1 v g1; omega
      · exact h.inj k1 k2 v g1 g2
    · show manyAux (s.2 ++ [(s.1.length : Int)]) = some ((mset s.1 k (s.1.length : Int)).length : Int)
      rw [manyAux_snoc, h.many, hlen]
      simp only [manyStep]
      rw [if_neg (by omega), if_pos (by omega)]
      simp
    · intro v hv
      have hv' : (s.2 ++ [(s.1.length : Int)])[0]? = some v := hv
      by_cases hl : 0 < s.2.length
      · rw [List.getElem?_append_left hl] at hv'
        exact h.zero v hv'
      · have h2 : s.2 = [] := List.eq_nil_of_length_eq_zero (by omega)
        have hm := h.many
        rw [h2] at hm hv'
        simp [manyAux] at hm
        simp at hv'
        omega
theorem numInv {K : Type} [DecidableEq K] (ks : List K) : NumInv ks (numGo ks) := by
  have key : ∀ (ks pre : List K) (s : List (K × Int) × List Int), NumInv pre s → NumInv (pre ++ ks) (ks.foldl numStep s) := by
    intro ks
    induction ks with
    | nil => intro pre s h; simpa using h
    | cons k ks ih =>
      intro pre s h
      have := ih (pre ++ [k]) _ (numInv_step h k)
      simpa using this
  have := key ks [] ([], []) ⟨rfl, (fun j k h => by simp at h), (fun k v h => by cases h), (fun k k' v h => by cases h), rfl, (fun v h => by simp at h)⟩
  simpa [numGo] using this

theorem groupsL_many (ds : List D) : manyL (groupsL ds) ≠ 0 := by
  have h := numInv ((List.range 37).map (colOf ds))
  have hl := groupsL_len ds
  have h0 : ((List.range 37).map (colOf ds))[0]? = some (colOf ds 0) := by simp
  obtain ⟨v, hv1, hv2⟩ := h.told 0 _ h0
  have hlt := h.lt _ _ hv1
  have hg : groupsL ds = (numGo ((List.range 37).map (colOf ds))).2 := rfl
  generalize numGo ((List.range 37).map (colOf ds)) = s at h hg hlt
  unfold manyL
  rw [if_pos hl, hg, h.many]
  simp only [Option.getD_some]
  omega
theorem groupsL_zero (ds : List D) : nth (groupsL ds) 0 = 0 := by
  have h := numInv ((List.range 37).map (colOf ds))
  have hl := groupsL_len ds
  have h1 : (groupsL ds)[0]? = some (nth (groupsL ds) 0) := some_nth (by omega)
  have hg : groupsL ds = (numGo ((List.range 37).map (colOf ds))).2 := rfl
  generalize numGo ((List.range 37).map (colOf ds)) = s at h hg
  rw [hg] at h1 ⊢
  exact h.zero _ h1
/-- Two marks have one group exactly where they have one column. -/
theorem groupsL_eq (ds : List D) {i j : Nat} (hi : i < 37) (hj : j < 37) : nth (groupsL ds) i = nth (groupsL ds) j ↔ colOf ds i = colOf ds j := by
  have h := numInv ((List.range 37).map (colOf ds))
  have hl := groupsL_len ds
  have gi : (groupsL ds)[i]? = some (nth (groupsL ds) i) := some_nth (by omega)
  have gj : (groupsL ds)[j]? = some (nth (groupsL ds) j) := some_nth (by omega)
  have hg : groupsL ds = (numGo ((List.range 37).map (colOf ds))).2 := rfl
  generalize numGo ((List.range 37).map (colOf ds)) = s at h hg
  obtain ⟨v, hv1, hv2⟩ := h.told i (colOf ds i) (by simp [hi])
  obtain ⟨u, hu1, hu2⟩ := h.told j (colOf ds j) (by simp [hj])
  rw [← hg] at hv2 hu2
  have ev : nth (groupsL ds) i = v := by rw [gi] at hv2; injection hv2
  have eu : nth (groupsL ds) j = u := by rw [gj] at hu2; injection hu2
  rw [ev, eu]
  constructor
  · rintro rfl; exact h.inj _ _ _ hv1 hu1
  · intro e; exact (Option.some.inj ((congrArg (mget s.1) e).symm.trans hv1 |>.symm.trans hu1))

theorem u8_inj {a b : Int} (ha : 0 ≤ a ∧ a < 256) (hb : 0 ≤ b ∧ b < 256) (h : UInt8.ofNat a.toNat = UInt8.ofNat b.toNat) : a = b := by
  have := congrArg UInt8.toNat h
  simp at this
  omega
theorem bytesOf_inj : ∀ {xs ys : List Int}, (∀ z ∈ xs, 0 ≤ z ∧ z < 256) → (∀ z ∈ ys, 0 ≤ z ∧ z < 256) → bytesOf xs = bytesOf ys → xs = ys := by
  intro xs ys hx hy h
  have h1 : xs.map (fun z => UInt8.ofNat z.toNat) = ys.map (fun z => UInt8.ofNat z.toNat) := by
    have := congrArg (fun b : ByteArray => b.data.toList) h
    simpa [bytesOf] using this
  clear h
  induction xs generalizing ys with
  | nil => cases ys with
    | nil => rfl
    | cons => simp at h1
  | cons x xs ih => cases ys with
    | nil => simp at h1
    | cons y ys =>
      simp only [List.map_cons, List.cons.injEq] at h1
      rw [u8_inj (hx x (by simp)) (hy y (by simp)) h1.1, ih (fun z hz => hx z (by simp [hz])) (fun z hz => hy z (by simp [hz])) h1.2]
theorem two_bytes (z : Int) : ∀ b ∈ two z, 0 ≤ b ∧ b < 256 := by
  intro b hb
  simp only [two, List.mem_cons, List.not_mem_nil, or_false] at hb
  rcases hb with rfl | rfl <;> (simp [IntKind.wrap, IntKind.bits, IntKind.signed]; omega)
theorem two_inj {a b : Int} (ha : 0 ≤ a ∧ a < 65536) (hb : 0 ≤ b ∧ b < 65536) (h : two a = two b) : a = b := by
  simp [two, IntKind.wrap, IntKind.bits, IntKind.signed] at h
  omega
theorem rowsCol_bytes (rs : List (List Int)) (m : Nat) : ∀ b ∈ rowsCol rs m, 0 ≤ b ∧ b < 256 := by
  intro b hb
  obtain ⟨r, _, h⟩ := List.mem_flatMap.1 hb
  exact two_bytes _ b h
theorem dsCol_bytes (ds : List D) (m : Nat) : ∀ b ∈ dsCol ds m, 0 ≤ b ∧ b < 256 := by
  intro b hb
  obtain ⟨r, _, h⟩ := List.mem_flatMap.1 hb
  exact rowsCol_bytes _ _ b h
theorem rowsCol_eq {rs : List (List Int)} {i j : Nat} (hb : ∀ r ∈ rs, (0 ≤ nth r i ∧ nth r i < 65536) ∧ (0 ≤ nth r j ∧ nth r j < 65536)) (h : rowsCol rs i = rowsCol rs j) : ∀ r ∈ rs, nth r i = nth r j := by
  induction rs with
  | nil => intro r hr; cases hr
  | cons r rs ih =>
    simp only [rowsCol, List.flatMap_cons] at h
    obtain ⟨h1, h2⟩ := List.append_inj h (by simp [two])
    intro r' hr'
    rcases List.mem_cons.1 hr' with rfl | hr'
    · exact two_inj (hb _ (by simp)).1 (hb _ (by simp)).2 h1
    · exact ih (fun r hr => hb r (by simp [hr])) h2 r' hr'
theorem dsCol_eq {ds : List D} {i j : Nat} (hb : ∀ d ∈ ds, ∀ r ∈ d.next, (0 ≤ nth r i ∧ nth r i < 65536) ∧ (0 ≤ nth r j ∧ nth r j < 65536)) (h : dsCol ds i = dsCol ds j) : ∀ d ∈ ds, ∀ r ∈ d.next, nth r i = nth r j := by
  induction ds with
  | nil => intro r hr; cases hr
  | cons d ds ih =>
    simp only [dsCol, List.flatMap_cons] at h
    obtain ⟨h1, h2⟩ := List.append_inj h (by rw [len_rowsCol, len_rowsCol])
    intro d' hd'
    rcases List.mem_cons.1 hd' with rfl | hd'
    · exact rowsCol_eq (hb _ (by simp)) h1
    · exact ih (fun d hd => hb d (by simp [hd])) h2 d' hd'
/-- Marks of one group do the same in every right table of the grouping, and those that do the same have one group. -/
theorem groupsL_same (ds : List D) {i j : Nat} (hi : i < 37) (hj : j < 37) : nth (groupsL ds) i = nth (groupsL ds) j ↔ ∀ d ∈ goodD ds, ∀ r ∈ d.next, nth r i = nth r j := by
  rw [groupsL_eq ds hi hj]
  have hbound : ∀ d ∈ goodD ds, ∀ r ∈ d.next, ∀ m, m < 37 → 0 ≤ nth r m ∧ nth r m < 65536 := by
    intro d hd r hr m hm
    obtain ⟨h1, _, _, h2⟩ := right_rows (List.mem_filter.1 hd).2
    obtain ⟨h3, h4⟩ := h2 r hr
    have := h4 _ (nth_mem (by omega : m < r.length))
    omega
  constructor
  · intro h
    exact dsCol_eq (fun d hd r hr => ⟨hbound d hd r hr i hi, hbound d hd r hr j hj⟩) (bytesOf_inj (dsCol_bytes _ _) (dsCol_bytes _ _) h)
  · intro h
    have key : ∀ l : List D, (∀ d ∈ l, ∀ r ∈ d.next, nth r i = nth r j) → dsCol l i = dsCol l j := by
      intro l hl
      have hr : ∀ rs : List (List Int), (∀ r ∈ rs, nth r i = nth r j) → rowsCol rs i = rowsCol rs j := by
        intro rs hrs
        induction rs with
        | nil => rfl
        | cons r rs ih => simp only [rowsCol, List.flatMap_cons] at ih ⊢; rw [hrs r (by simp), ih (fun r hr => hrs r (by simp [hr]))]
      induction l with
      | nil => rfl
      | cons d l ih => simp only [dsCol, List.flatMap_cons] at ih ⊢; rw [hr _ (hl d (by simp)), ih (fun d hd => hl d (by simp [hd]))]
    unfold colOf
    rw [key _ h]

theorem narrowL_at {gs row : List Int} {many : Nat} (hgb : ∀ m, m < 37 → 0 ≤ nth gs m ∧ nth gs m < many) (hs : ∀ i j, i < 37 → j < 37 → nth gs i = nth gs j → nth row i = nth row j) :
    ∀ m, m < 37 → nth (narrowL gs row many) (nth gs m).toNat = nth row m := by
  have key : ∀ c, c ≤ 37 → ∀ m, 37 - c ≤ m → m < 37 → nth (narN gs row many c) (nth gs m).toNat = nth row m := by
    intro c
    induction c with
    | zero => intro _ m h1 h2; omega
    | succ c ih =>
      intro hc m h1 h2
      have hb := hgb (36 - c) (by omega)
      have hm := hgb m h2
      simp only [narN]
      rw [nth_set (by rw [narN_len]; omega)]
      by_cases e : nth gs (36 - c) = nth gs m
      · rw [e, if_pos rfl]
        exact hs _ _ (by omega) h2 e
      · rw [if_neg (by omega)]
        exact ih (by omega) m (by rcases Nat.lt_or_ge m (37 - c) with h3 | h3; · exact absurd (congrArg (nth gs) (show 36 - c = m by omega)) e
                                  · exact h3) h2
  intro m hm
  exact key 37 (Nat.le_refl _) m (by omega) hm
theorem fits_of {gs row : List Int} {many : Nat} (hgb : ∀ m, m < 37 → 0 ≤ nth gs m ∧ nth gs m < many) (hs : ∀ i j, i < 37 → j < 37 → nth gs i = nth gs j → nth row i = nth row j) : fitsB gs row many = true := by
  unfold fitsB
  rw [List.all_eq_true]
  intro m hm
  rw [beq_iff_eq]
  exact narrowL_at hgb hs m (List.mem_range.1 hm)
/-- A right table of the grouping has a narrow one. -/
theorem groupsL_bound (ds : List D) : ∀ m, m < 37 → 0 ≤ nth (groupsL ds) m ∧ nth (groupsL ds) m < ((manyL (groupsL ds)).toNat : Int) := by
  intro m hm
  obtain ⟨h0, _, h1⟩ := manyL_le (groupsL ds)
  have := (h1 (groupsL_many ds)).2 m hm
  omega
theorem groupsL_fits (ds : List D) {d : D} (hd : d ∈ goodD ds) {r : List Int} (hr : r ∈ d.next) : fitsB (groupsL ds) r (manyL (groupsL ds)).toNat = true :=
  fits_of (groupsL_bound ds) fun _ _ hi hj e => (groupsL_same ds hi hj).1 e d hd r hr
theorem groupsL_narrow (ds : List D) {d : D} (hd : d ∈ goodD ds) {r : List Int} (hr : r ∈ d.next) : ∀ m, m < 37 → nth (narrowL (groupsL ds) r (manyL (groupsL ds)).toNat) (nth (groupsL ds) m).toNat = nth r m :=
  narrowL_at (groupsL_bound ds) fun _ _ hi hj e => (groupsL_same ds hi hj).1 e d hd r hr
end Go.Proofs.Ytmdkmobcglnmgaa
