/- States that tell the same lie in one block: the walk. Conditions: at most a thousand states; what is told is told in 64 bits. -/
import Derived.Test.YtmdkmobcglnmgaaFs
namespace Go.Proofs.Ytmdkmobcglnmgaa
open Go.RowKit
set_option linter.unusedSimpArgs false

abbrev u64ok (z : Int) : Prop := (Lit.int .u64 z).wf = true
theorem u64Key : MKey Try.prog 52 (fun z : Int => Value.int .u64 z) u64ok :=
  ⟨fun h => by injection h, fun {z} h => ⟨_, Maps.keyOf_int_mk Try.underlying52 h⟩, Maps.int_keyed Try.underlying52⟩
abbrev UMap (w : World) (b : Nat) (m : List (Int × Int)) : Prop := MapIs w b (fun z : Int => Value.int .u64 z) u64ok (fun (n : Int) u => u = .int .i64 n) m
theorem numGo_bd {K : Type} [DecidableEq K] (ks : List K) : ∀ k n, mget (numGo ks).1 k = some n → 0 ≤ n ∧ n < (numGo ks).1.length := by
  have key : ∀ (ks : List K) (s : List (K × Int) × List Int), (∀ k n, mget s.1 k = some n → 0 ≤ n ∧ n < s.1.length) → ∀ k n, mget (ks.foldl numStep s).1 k = some n → 0 ≤ n ∧ n < (ks.foldl numStep s).1.length := by
    intro ks
    induction ks with
    | nil => intro s h; exact h
    | cons k ks ih =>
      intro s h
      refine ih (numStep s k) ?_
      intro k' n hm
      unfold numStep at hm ⊢
      split at hm
      · exact h k' n hm
      · rename_i h0
        simp only at hm ⊢
        rw [mget_mset] at hm
        have hl : (mset s.1 k (s.1.length : Int)).length = s.1.length + 1 := by rw [mset_new _ (mget_none_iff.1 h0)]; simp
        rw [hl]
        split at hm
        · cases hm; omega
        · have := h k' n hm; omega
  exact key ks ([], []) (fun k n h => by cases h)

theorem set_here {l : List Int} {k n : Nat} (hl : l.length = k) (hk : k < n) (z : Int) : (l ++ List.replicate (n - k) 0).set k z = (l ++ [z]) ++ List.replicate (n - (k + 1)) 0 := by
  rw [List.set_append_right _ _ (by omega), hl, Nat.sub_self, show n - k = (n - (k + 1)) + 1 by omega, List.replicate_succ, List.set_cons_zero, List.append_assoc]
  rfl
/-- What is to do: all pairs up to one. -/
def TdUp (td : List ((Int × Int) × Unit)) (i j : Int) : Prop := ∀ p : Int × Int, mget td p = some () ↔ 0 ≤ p.2 ∧ p.2 < 37 ∧ 0 ≤ p.1 ∧ (p.1 < i ∨ p.1 = i ∧ p.2 < j)
theorem TdUp.nil : TdUp [] 0 0 := fun p => ⟨(fun h => by cases h), fun h => by omega⟩
theorem TdUp.step {td : List ((Int × Int) × Unit)} {i j : Int} (h : TdUp td i j) (hi : 0 ≤ i) (hj : 0 ≤ j) (hj2 : j < 37) : TdUp (mset td (i, j) ()) i (j + 1) := fun p => by
  rw [mget_mset]
  split
  · rename_i e
    subst e
    exact ⟨fun _ => ⟨hj, hj2, hi, .inr ⟨rfl, show j < j + 1 by omega⟩⟩, fun _ => rfl⟩
  · rename_i e
    rw [h p]
    have : ¬ (p.1 = i ∧ p.2 = j) := fun h' => e (Prod.ext h'.1.symm h'.2.symm)
    omega
theorem TdUp.next {td : List ((Int × Int) × Unit)} {i : Int} (h : TdUp td i 37) : TdUp td (i + 1) 0 := fun p => by
  rw [h p]
  omega
def FirstAns (x : Sx) (w : World) (fv : Value) (ts : List Int) (e : Ending) (w' : World) : Prop :=
  e = .returned (.tuple #[]) ∧ ∃ st td, SpM x w' fv ((numGo ts).1.length : Int) (numbered ts) st td ∧ StIs st (numbered ts) ∧ TdUp td ((numGo ts).1.length : Int) 0 ∧ Below x.B w w'

set_option maxRecDepth 100000 in
set_option maxHeartbeats 4000000 in
theorem first_any (x : Sx) (hx : x.ok) (fv : Value) (ts : List Int) (hn1 : x.n ≤ 1000) (hu : ∀ z ∈ ts, u64ok z) (w : World) (hT : TellsAt x w ts)
    (h : SpM x w fv 0 (List.replicate x.n 0) [] []) (hB : x.B ≤ w.heap.size) :
    Calls Try.prog 65 #[.pointer (some ⟨x.sb, 0, none⟩)] w (FirstAns x w fv ts) := by
  have HX := hid hx
  have HT := hid hT
  have HU := hid hu
  have HSP := hid h
  clear hx hT hu h
  have hmm := @run_makeMap Try.prog
  have HSP0 := hid (HSP.out.below ((Below.refl _ _).alloc (Nat.le_refl _) (.map #[] 0)))
  have hc1 := HSP0.out.1.cells.2.1
  go_enter Try.func65, Try.ntmps65
  go_wp2_with fail
  clear hmm
  obtain ⟨g, hg⟩ : ∃ g, g = w.heap.size := ⟨_, rfl⟩
  have HG := hid hg
  have hBg : x.B ≤ g := by omega
  obtain ⟨L1, L2, L3, L4⟩ : x.sb < g ∧ x.bb < g ∧ x.bs < g ∧ x.bt < g := by rw [hg]; exact ⟨HSP.out.1.lt, HSP.out.2.1.lt, HSP.out.2.2.1.lt, HSP.out.2.2.2.2.2.lt⟩
  rw [← hg]
  clear hg hc1
  go_loopw [16] (fun s16 wr => ∃ (k : Nat) (st : List (Int × GV)), k ≤ x.n ∧ s16 = .int .i64 k ∧ Hid (SpM x wr fv ((numGo (ts.take k)).1.length : Int) ((numGo (ts.take k)).2 ++ List.replicate (x.n - k) 0) st []) ∧ Hid (StIs st (numGo (ts.take k)).2) ∧
      Hid (UMap wr g (numGo (ts.take k)).1) ∧ Hid (Below x.B w wr)) (fun s16 _ => x.n - (intOf s16).toNat)
  case atStart =>
    refine ⟨0, [], by omega, rfl, hid ?_, hid StIs.nil, hid ?_, hid ((Below.refl _ _).alloc hB _)⟩
    · exact HSP0.out
    · rw [HG.out]; exact mapIs_new _ _ _ _
  case round =>
    obtain ⟨k, st, hk, rfl, HP, HST, HU1, HB⟩ := hrel
    by_cases hlt : k < x.n
    · have HTr := hid (HT.out.below HB.out)
      obtain ⟨z, hz⟩ : ∃ z, z = nth ts k := ⟨_, rfl⟩
      have hcz : wr.cell? ⟨x.tb, x.to' + k, none⟩ = some (.int .u64 z) := by rw [hz]; exact HTr.out.2.2 k hlt
      have hlen : k < ts.length := by rw [HTr.out.1]; exact hlt
      have hzok := hid (show u64ok z from HU.out z (by rw [hz]; exact nth_mem hlen))
      have hst := hid (show numGo (ts.take (k + 1)) = numStep (numGo (ts.take k)) z by rw [hz, take_nth hlen]; exact numGo_snoc _ _)
      have hkl := numGo_len (ts.take k)
      rw [List.length_take, HTr.out.1] at hkl
      obtain ⟨c0, c1, c2, c3, c4, c5, c6⟩ := HP.out.1.cells
      have hgl : g < wr.heap.size := HU1.out.lt
      have HBW := hid HB.out.size
      obtain ⟨G, hG⟩ : ∃ G, G = numGo (ts.take k) := ⟨_, rfl⟩
      rw [← hG] at hst HP HST HU1 hkl c6
      have hGb := numGo_bd (ts.take k)
      rw [← hG] at hGb
      have HGB := hid hGb
      clear hz hG hlen hGb
      cases hm : mget G.1 z with
      | some bv =>
        have HM := hid hm
        obtain ⟨b1, b2⟩ := HGB.out z bv hm
        have HKB := hid (show i64ok bv from ⟨by omega, by omega⟩)
        obtain ⟨G1, hG1⟩ : ∃ G1, G1 = (G.1, G.2 ++ [bv]) := ⟨_, rfl⟩
        have hst2 := hid (show numGo (ts.take (k + 1)) = G1 by rw [hst.out, hG1]; unfold numStep; rw [hm])
        have HG2 := hid (show G1.2 = G.2 ++ [bv] by rw [hG1])
        have hbb := HP.out.2.1.cell (j := k) (by simp; omega)
        have fbb := HP.out.2.1.frozen k
        have HQ0 := hid (show SpM x (wr.setCell ⟨x.bb, k, none⟩ (.int .i64 bv)) fv G1.1.length (G1.2 ++ List.replicate (x.n - (k + 1)) 0) st [] by
          have h := HP.out.setBlk k bv
          rw [set_here (by omega) hlt] at h
          rw [hG1]; exact h)
        have HUQ0 := hid (show UMap (wr.setCell ⟨x.bb, k, none⟩ (.int .i64 bv)) g G1.1 by
          rw [hG1]
          exact HU1.out.grown (grown_setCell (World.grownBy.refl wr _) k _) (fun e => by injection e with e; omega))
        have HBQ0 := hid (show Below x.B w (wr.setCell ⟨x.bb, k, none⟩ (.int .i64 bv)) from HB.out.setCell HX.out.2.1 _)
        clear hm hG1
        go_wp2_with (first | (at_lookup; refine wpList_mlookup_some true u64Key rfl (.tmp 22) (.tmp 23) 112 rfl Try.underlying112 _ (zero3 _) HU1.out z hzok.out rfl rfl bv HM.out ?_; intro u hu; rw [hu]))
        obtain ⟨wq, hwq⟩ : ∃ wq, wq = wr.setCell ⟨x.bb, k, none⟩ (.int .i64 bv) := ⟨_, rfl⟩
        rw [← hwq] at HQ0 HUQ0 HBQ0 ⊢
        have HQ := hid HQ0.out
        have HUQ := hid HUQ0.out
        have HBQ := hid HBQ0.out
        clear hwq HQ0 HUQ0 HBQ0
        have HROW := hid (show OwnI wq.drew x.B (rowV st bv) (lst st bv) from HQ.out.2.2.2.1.row bv)
        have HBW := hid (show x.B ≤ wq.drew.heap.size from Nat.le_trans hB HBQ.out.size)
        have HRL := hid (show (lst st bv).length ≤ 1010000 by rw [HST.out.1]; have := pos_len G.2 bv; omega)
        have HQ1 := hid (show SpM x (wq.drew.alloc (.cells #[.int .i64 (k : Int)] 3)) fv G1.1.length (G1.2 ++ List.replicate (x.n - (k + 1)) 0) st [] from SpM.below (w := wq.drew) HQ.out ((Below.refl _ _).alloc (Nat.le_refl _) _))
        have HUQ1 := hid (show UMap (wq.drew.alloc (.cells #[.int .i64 (k : Int)] 3)) g G1.1 from MapIs.alloc (w := wq.drew) (show UMap wq.drew g G1.1 from HUQ.out) _)
        clear c0 c1 c2 c3 c4 c5 c6
        refine wp_region_held_drew (S := (fun Y => Y.cell? ⟨x.sb, 4, none⟩ = some (.map (some x.bs)))) (by kernel_rfl) (by exact HQ.out.1.cells.2.2.2.2.1) (fun hHeld => ?_)
        refine wpAnyH_take (i := 0) (oi := { dst := some 50, op := Op.move (Operand.tmp 0), type := _, pos := _, after := _, guard := none }) (v := ?_) rfl (by kernel_rfl) (by kernel_rfl) (by kernel_rfl) (fun _ _ _ h => h) (Or.inl ⟨by rfl, ?_⟩) (by assumption) ?_
        rotate_left
        · intro w hSw; (try dsimp only at hSw); go_simp; try with_reducible rfl
        try simp only [Act.put, List.setIfInBounds_toArray, List.set_cons_zero, List.set_cons_succ]
        refine wpAnyH_take (i := 1) (oi := { dst := some 51, op := Op.nilCheck (Operand.tmp 50), type := _, pos := _, after := _, guard := none }) (v := ?_) rfl (by kernel_rfl) (by kernel_rfl) (by kernel_rfl) (fun _ _ _ h => h) (Or.inl ⟨by rfl, ?_⟩) (by assumption) ?_
        rotate_left
        · intro w hSw; (try dsimp only at hSw); go_simp; try with_reducible rfl
        try simp only [Act.put, List.setIfInBounds_toArray, List.set_cons_zero, List.set_cons_succ]
        refine wpAnyH_take (i := 2) (oi := { dst := some 52, op := Op.fieldAddr 101 (Operand.tmp 51) 3, type := _, pos := _, after := _, guard := none }) (v := ?_) rfl (by kernel_rfl) (by kernel_rfl) (by kernel_rfl) (fun _ _ _ h => h) (Or.inl ⟨by rfl, ?_⟩) (by assumption) ?_
        rotate_left
        · intro w hSw; (try dsimp only at hSw); go_simp; try with_reducible rfl
        try simp only [Act.put, List.setIfInBounds_toArray, List.set_cons_zero, List.set_cons_succ]
        refine wpAnyH_take (i := 3) (oi := { dst := some 53, op := Op.load 97 (Operand.tmp 52), type := _, pos := _, after := _, guard := none }) (v := ?_) rfl (by kernel_rfl) (by kernel_rfl) (by kernel_rfl) (fun _ _ _ h => h) (Or.inl ⟨by rfl, ?_⟩) (by assumption) ?_
        rotate_left
        · intro w hSw; (try dsimp only at hSw); go_simp; try with_reducible rfl
        try simp only [Act.put, List.setIfInBounds_toArray, List.set_cons_zero, List.set_cons_succ]
        refine wpAnyH_take (i := 4) (oi := { dst := some 54, op := Op.move (Operand.tmp 5), type := _, pos := _, after := _, guard := none }) (v := ?_) rfl (by kernel_rfl) (by kernel_rfl) (by kernel_rfl) (fun _ _ _ h => h) (Or.inl ⟨by rfl, ?_⟩) (by assumption) ?_
        rotate_left
        · intro w hSw; (try dsimp only at hSw); go_simp; try with_reducible rfl
        try simp only [Act.put, List.setIfInBounds_toArray, List.set_cons_zero, List.set_cons_succ]
        refine wpAnyH_take (i := 5) (oi := { dst := some 55, op := Op.move (Operand.tmp 0), type := _, pos := _, after := _, guard := none }) (v := ?_) rfl (by kernel_rfl) (by kernel_rfl) (by kernel_rfl) (fun _ _ _ h => h) (Or.inl ⟨by rfl, ?_⟩) (by assumption) ?_
        rotate_left
        · intro w hSw; (try dsimp only at hSw); go_simp; try with_reducible rfl
        try simp only [Act.put, List.setIfInBounds_toArray, List.set_cons_zero, List.set_cons_succ]
        refine wpAnyH_take (i := 6) (oi := { dst := some 56, op := Op.nilCheck (Operand.tmp 55), type := _, pos := _, after := _, guard := none }) (v := ?_) rfl (by kernel_rfl) (by kernel_rfl) (by kernel_rfl) (fun _ _ _ h => h) (Or.inl ⟨by rfl, ?_⟩) (by assumption) ?_
        rotate_left
        · intro w hSw; (try dsimp only at hSw); go_simp; try with_reducible rfl
        try simp only [Act.put, List.setIfInBounds_toArray, List.set_cons_zero, List.set_cons_succ]
        refine wpAnyH_take (i := 7) (oi := { dst := some 57, op := Op.fieldAddr 101 (Operand.tmp 56) 3, type := _, pos := _, after := _, guard := none }) (v := ?_) rfl (by kernel_rfl) (by kernel_rfl) (by kernel_rfl) (fun _ _ _ h => h) (Or.inl ⟨by rfl, ?_⟩) (by assumption) ?_
        rotate_left
        · intro w hSw; (try dsimp only at hSw); go_simp; try with_reducible rfl
        try simp only [Act.put, List.setIfInBounds_toArray, List.set_cons_zero, List.set_cons_succ]
        refine wpAnyH_take (i := 8) (oi := { dst := some 58, op := Op.load 97 (Operand.tmp 57), type := _, pos := _, after := _, guard := none }) (v := ?_) rfl (by kernel_rfl) (by kernel_rfl) (by kernel_rfl) (fun _ _ _ h => h) (Or.inl ⟨by rfl, ?_⟩) (by assumption) ?_
        rotate_left
        · intro w hSw; (try dsimp only at hSw); go_simp; try with_reducible rfl
        try simp only [Act.put, List.setIfInBounds_toArray, List.set_cons_zero, List.set_cons_succ]
        refine wpAnyH_take (i := 9) (oi := { dst := some 59, op := Op.move (Operand.tmp 5), type := _, pos := _, after := _, guard := none }) (v := ?_) rfl (by kernel_rfl) (by kernel_rfl) (by kernel_rfl) (fun _ _ _ h => h) (Or.inl ⟨by rfl, ?_⟩) (by assumption) ?_
        rotate_left
        · intro w hSw; (try dsimp only at hSw); go_simp; try with_reducible rfl
        try simp only [Act.put, List.setIfInBounds_toArray, List.set_cons_zero, List.set_cons_succ]
        refine wpAnyH_take (i := 11) (oi := { dst := some 61, op := Op.move (Operand.tmp 3), type := _, pos := _, after := _, guard := none }) (v := ?_) rfl (by kernel_rfl) (by kernel_rfl) (by kernel_rfl) (fun _ _ _ h => h) (Or.inl ⟨by rfl, ?_⟩) (by assumption) ?_
        rotate_left
        · intro w hSw; (try dsimp only at hSw); go_simp; try with_reducible rfl
        try simp only [Act.put, List.setIfInBounds_toArray, List.set_cons_zero, List.set_cons_succ]
        refine wpAnyH_ready (rs := [10, 12]) (by kernel_rfl) (by simp) ?_
        refine AllReadyH.cons (o := { dst := some 60, op := Op.lookup 97 (Operand.tmp 58) (Operand.tmp 59) false, type := _, pos := _, after := _, guard := none }) rfl ?legA1 (AllReadyH.cons (o := { dst := some 62, op := Op.buildSlice 32 1 #[(0, Operand.tmp 61)], type := _, pos := _, after := _, guard := none }) rfl ?legB1 AllReadyH.nil)
        case' legA1 =>
          intro K hK
          rw [if_pos (by rfl)]
          refine wp_look_row (.tmp 58) (.tmp 59) rfl (by first | exact HQ.out.2.2.1 | exact HQ.out.2.2.1.alloc _) bv HKB.out rfl rfl ?_
          refine hK.out _ _ (by first | exact HQ.out.1.cells.2.2.2.2.1 | exact HQ1.out.1.cells.2.2.2.2.1) (fun hHeld => ?_)
          clear hK K
          try simp only [Act.put, List.setIfInBounds_toArray, List.set_cons_zero, List.set_cons_succ]
          refine wpAnyH_ready (rs := [12]) (by kernel_rfl) (by simp) ?_
          refine AllReadyH.cons (o := { dst := some 62, op := Op.buildSlice 32 1 #[(0, Operand.tmp 61)], type := _, pos := _, after := _, guard := none }) rfl (fun K hK => ?_) AllReadyH.nil
          go_simp
          refine hK.out _ _ (by exact HQ1.out.1.cells.2.2.2.2.1) (fun hHeld => ?_)
          clear hK K
          try simp only [Act.put, List.setIfInBounds_toArray, List.set_cons_zero, List.set_cons_succ]
          refine wpAnyH_ready (rs := [13]) (by kernel_rfl) (by simp) ?_
          refine AllReadyH.cons (o := { dst := some 63, op := Op.call { callee := Callee.builtin Builtin.append, args := #[Operand.tmp 60, Operand.tmp 62], argTypes := #[32, 32] }, type := _, pos := _, after := _, guard := none }) rfl (fun K hK => ?_) AllReadyH.nil
          rw [if_pos (by rfl)]
          refine wp_app_int (.tmp 60) (.tmp 62) rfl (w0 := wq.drew) (z := (k : Int)) (l := lst st bv) (v := rowV st bv) (B := x.B) rfl rfl HROW.out rfl HRL.out HBW.out ?_
          intro v3 w3 hown3 hg3 hat3
          have HM3 := hid (HQ1.out.2.2.1.grown hg3 (Ne.symm (own_map_ne (HROW.out.alloc _) HQ1.out.2.2.1)))
          have HH3 := hid (HQ1.out.1.keep (hg3.block _ HQ1.out.1.lt (Ne.symm (HQ1.out.1.ne_row (HROW.out.alloc _)))))
          refine hK.out _ _ (by exact HH3.out.cells.2.2.2.2.1) (fun hHeld => ?_)
          clear hK K
          try simp only [Act.put, List.setIfInBounds_toArray, List.set_cons_zero, List.set_cons_succ]
          refine wpAnyH_ready (rs := [14]) (by kernel_rfl) (by simp) ?_
          refine AllReadyH.cons (o := { dst := none, op := Op.mapUpdate 97 (Operand.tmp 53) (Operand.tmp 54) (Operand.tmp 63), type := _, pos := _, after := _, guard := none }) rfl (fun K hK => ?_) AllReadyH.nil
          rw [if_pos (by rfl)]
          refine wp_mupd intKey (.tmp 53) (.tmp 54) (.tmp 63) 97 rfl Try.underlying97 HM3.out bv HKB.out (v3, lst st bv ++ [(k : Int)]) v3 rfl rfl rfl rfl ?_
          intro w4 hm4 hg4
          refine hK.out _ _ (by exact (HH3.out.keep (hg4.block _ HH3.out.lt (fun e => HH3.out.ne_map HM3.out (by injection e)))).cells.2.2.2.2.1) (fun hHeld => ?_)
          clear hK K
          try simp only [Act.put, List.setIfInBounds_toArray, List.set_cons_zero, List.set_cons_succ]
          refine wpAnyH_done (by kernel_rfl) ?_ _
        case' legB1 =>
          intro K hK
          go_simp
          refine hK.out _ _ (by exact HQ1.out.1.cells.2.2.2.2.1) (fun hHeld => ?_)
          clear hK K
          try simp only [Act.put, List.setIfInBounds_toArray, List.set_cons_zero, List.set_cons_succ]
          refine wpAnyH_ready (rs := [10]) (by kernel_rfl) (by simp) ?_
          refine AllReadyH.cons (o := { dst := some 60, op := Op.lookup 97 (Operand.tmp 58) (Operand.tmp 59) false, type := _, pos := _, after := _, guard := none }) rfl (fun K hK => ?_) AllReadyH.nil
          rw [if_pos (by rfl)]
          refine wp_look_row (.tmp 58) (.tmp 59) rfl (by first | exact HQ.out.2.2.1 | exact HQ.out.2.2.1.alloc _) bv HKB.out rfl rfl ?_
          refine hK.out _ _ (by first | exact HQ.out.1.cells.2.2.2.2.1 | exact HQ1.out.1.cells.2.2.2.2.1) (fun hHeld => ?_)
          clear hK K
          try simp only [Act.put, List.setIfInBounds_toArray, List.set_cons_zero, List.set_cons_succ]
          refine wpAnyH_ready (rs := [13]) (by kernel_rfl) (by simp) ?_
          refine AllReadyH.cons (o := { dst := some 63, op := Op.call { callee := Callee.builtin Builtin.append, args := #[Operand.tmp 60, Operand.tmp 62], argTypes := #[32, 32] }, type := _, pos := _, after := _, guard := none }) rfl (fun K hK => ?_) AllReadyH.nil
          rw [if_pos (by rfl)]
          refine wp_app_int (.tmp 60) (.tmp 62) rfl (w0 := wq.drew) (z := (k : Int)) (l := lst st bv) (v := rowV st bv) (B := x.B) rfl rfl HROW.out rfl HRL.out HBW.out ?_
          intro v3 w3 hown3 hg3 hat3
          have HM3 := hid (HQ1.out.2.2.1.grown hg3 (Ne.symm (own_map_ne (HROW.out.alloc _) HQ1.out.2.2.1)))
          have HH3 := hid (HQ1.out.1.keep (hg3.block _ HQ1.out.1.lt (Ne.symm (HQ1.out.1.ne_row (HROW.out.alloc _)))))
          refine hK.out _ _ (by exact HH3.out.cells.2.2.2.2.1) (fun hHeld => ?_)
          clear hK K
          try simp only [Act.put, List.setIfInBounds_toArray, List.set_cons_zero, List.set_cons_succ]
          refine wpAnyH_ready (rs := [14]) (by kernel_rfl) (by simp) ?_
          refine AllReadyH.cons (o := { dst := none, op := Op.mapUpdate 97 (Operand.tmp 53) (Operand.tmp 54) (Operand.tmp 63), type := _, pos := _, after := _, guard := none }) rfl (fun K hK => ?_) AllReadyH.nil
          rw [if_pos (by rfl)]
          refine wp_mupd intKey (.tmp 53) (.tmp 54) (.tmp 63) 97 rfl Try.underlying97 HM3.out bv HKB.out (v3, lst st bv ++ [(k : Int)]) v3 rfl rfl rfl rfl ?_
          intro w4 hm4 hg4
          refine hK.out _ _ (by exact (HH3.out.keep (hg4.block _ HH3.out.lt (fun e => HH3.out.ne_map HM3.out (by injection e)))).cells.2.2.2.2.1) (fun hHeld => ?_)
          clear hK K
          try simp only [Act.put, List.setIfInBounds_toArray, List.set_cons_zero, List.set_cons_succ]
          refine wpAnyH_done (by kernel_rfl) ?_ _
        all_goals
          have hbk : G1.2.length = k + 1 := by rw [HG2.out]; simp; omega
          have HQ4 := hid (SpM.row HX.out HQ1.out hg3 hown3 hat3 hm4 hg4 HM3.out)
          have HS4 := hid (show StIs (mset st bv (v3, lst st bv ++ [(k : Int)])) G1.2 by
            have h := HST.out.snoc bv v3
            rw [show G.2.length = k by omega] at h
            rw [HG2.out]; exact h)
          have HU4 := hid (show UMap w4 g G1.1 from (HUQ1.out.grown hg3 (Ne.symm (own_map_ne (HROW.out.alloc _) HUQ1.out))).grown hg4 (fun e => by injection e with e; omega))
          have HZ3 := hid (show x.B ≤ w3.heap.size from Nat.le_trans HBW.out (Nat.le_trans (show wq.heap.size ≤ (wq.alloc (.cells #[.int .i64 (k : Int)] 3)).heap.size by simp) hg3.size))
          have HB4 := hid (show Below x.B w w4 from Below.grown (below_own ((Below.drew HBQ.out).alloc HBW.out _) (HROW.out.alloc _) hg3 (by have := HBW.out; simp at this ⊢; omega)) hg4 HZ3.out (fun q hq => by cases hq; exact HX.out.2.2.1))
          clear hg3 hown3 hat3 hm4 hg4 HM3 HH3
          go_wp2_with fail
          go_roundw
          case rel => exact ⟨k + 1, _, by omega, by go_num, by rw [hst2.out]; exact HQ4, by rw [hst2.out]; exact HS4, by rw [hst2.out]; exact HU4, HB4⟩
          case measure => simp [intOf]; omega
      | none =>
        have HM := hid hm
        obtain ⟨bv, hbv⟩ : ∃ bv : Int, bv = (G.1.length : Int) := ⟨_, rfl⟩
        have b1 : 0 ≤ bv := by omega
        have b2 : bv ≤ 1000 := by omega
        have HKB := hid (show i64ok bv from ⟨by omega, by omega⟩)
        obtain ⟨G1, hG1⟩ : ∃ G1, G1 = (mset G.1 z (G.1.length : Int), G.2 ++ [(G.1.length : Int)]) := ⟨_, rfl⟩
        have hst2 := hid (show numGo (ts.take (k + 1)) = G1 by rw [hst.out, hG1]; unfold numStep; rw [hm])
        have HG2 := hid (show G1.2 = G.2 ++ [bv] by rw [hG1, hbv])
        have HG1 := hid (show G1.1 = mset G.1 z bv by rw [hG1, hbv])
        have HG1l := hid (show (G1.1.length : Int) = bv + 1 by rw [hG1, hbv]; simp only; rw [mset_new _ (mget_none_iff.1 hm)]; simp)
        rw [← hbv] at c6
        have HP' := hid (show SpM x wr fv bv (G.2 ++ List.replicate (x.n - k) 0) st [] by rw [hbv]; exact HP.out)
        clear hm hG1 hbv HP
        go_wp2_with (first
          | (at_lookup; refine wpList_mlookup_none true u64Key rfl (.tmp 22) (.tmp 23) 112 rfl Try.underlying112 _ (zero3 _) HU1.out z hzok.out rfl rfl HM.out ?_)
          | (at_mapUpdate; refine wpList_mupdate u64Key rfl (.tmp 33) (.tmp 34) (.tmp 35) 112 rfl Try.underlying112 HU1.out z hzok.out bv _ rfl rfl rfl rfl ?_; intro w1 hm1 hg1
             have HP1 := hid (HP'.out.grown hg1 (fun e => by injection e with e; omega) (fun e => by injection e with e; omega) (fun e => by injection e with e; omega) (fun e => by injection e with e; omega) (fun p hp => .inr (own_map_ne (HP'.out.2.2.2.1.1 p hp) HU1.out)))
             have HB1 := hid (HB.out.grown hg1 (Nat.le_trans hB HB.out.size) (fun q hq => by cases hq; exact hBg))
             have hx1 := HP1.out.1.cells.2.2.2.2.2.2
             have fx1 := HP1.out.1.frozen 6
             have HP2 := hid (HP1.out.setMany (bv + 1))
             have hx2 := HP2.out.1.cells.2.2.2.1
             have hbb := HP2.out.2.1.cell (j := k) (by simp; omega)
             have fbb := HP2.out.2.1.frozen k))
        have HQ0 := hid (show SpM x ((w1.setCell ⟨x.sb, 6, none⟩ (.int .i64 (bv + 1))).setCell ⟨x.bb, k, none⟩ (.int .i64 bv)) fv G1.1.length (G1.2 ++ List.replicate (x.n - (k + 1)) 0) st [] by
          have h := HP2.out.setBlk k bv
          rw [set_here (by omega) hlt] at h
          rw [HG1l.out, HG2.out]; exact h)
        have HUQ0 := hid (show UMap ((w1.setCell ⟨x.sb, 6, none⟩ (.int .i64 (bv + 1))).setCell ⟨x.bb, k, none⟩ (.int .i64 bv)) g G1.1 by
          rw [HG1.out]
          exact (MapIs.grown hm1 (grown_setCell (World.grownBy.refl w1 _) 6 _) (fun e => by injection e with e; omega)).grown (grown_setCell (World.grownBy.refl _ _) k _) (fun e => by injection e with e; omega))
        have HBQ0 := hid (show Below x.B w ((w1.setCell ⟨x.sb, 6, none⟩ (.int .i64 (bv + 1))).setCell ⟨x.bb, k, none⟩ (.int .i64 bv)) from (HB1.out.setCell HX.out.1 _).setCell HX.out.2.1 _)
        clear hx1 fx1 hx2 hbb fbb hm1 hg1 HP1 HP2 HP' HB1
        obtain ⟨wq, hwq⟩ : ∃ wq, wq = (w1.setCell ⟨x.sb, 6, none⟩ (.int .i64 (bv + 1))).setCell ⟨x.bb, k, none⟩ (.int .i64 bv) := ⟨_, rfl⟩
        rw [← hwq] at HQ0 HUQ0 HBQ0 ⊢
        have HQ := hid HQ0.out
        have HUQ := hid HUQ0.out
        have HBQ := hid HBQ0.out
        clear hwq HQ0 HUQ0 HBQ0
        have HROW := hid (show OwnI wq.drew x.B (rowV st bv) (lst st bv) from HQ.out.2.2.2.1.row bv)
        have HBW := hid (show x.B ≤ wq.drew.heap.size from Nat.le_trans hB HBQ.out.size)
        have HRL := hid (show (lst st bv).length ≤ 1010000 by rw [HST.out.1]; have := pos_len G.2 bv; omega)
        have HQ1 := hid (show SpM x (wq.drew.alloc (.cells #[.int .i64 (k : Int)] 3)) fv G1.1.length (G1.2 ++ List.replicate (x.n - (k + 1)) 0) st [] from SpM.below (w := wq.drew) HQ.out ((Below.refl _ _).alloc (Nat.le_refl _) _))
        have HUQ1 := hid (show UMap (wq.drew.alloc (.cells #[.int .i64 (k : Int)] 3)) g G1.1 from MapIs.alloc (w := wq.drew) (show UMap wq.drew g G1.1 from HUQ.out) _)
        clear c0 c1 c2 c3 c4 c5 c6
        refine wp_region_held_drew (S := (fun Y => Y.cell? ⟨x.sb, 4, none⟩ = some (.map (some x.bs)))) (by kernel_rfl) (by exact HQ.out.1.cells.2.2.2.2.1) (fun hHeld => ?_)
        refine wpAnyH_take (i := 0) (oi := { dst := some 50, op := Op.move (Operand.tmp 0), type := _, pos := _, after := _, guard := none }) (v := ?_) rfl (by kernel_rfl) (by kernel_rfl) (by kernel_rfl) (fun _ _ _ h => h) (Or.inl ⟨by rfl, ?_⟩) (by assumption) ?_
        rotate_left
        · intro w hSw; (try dsimp only at hSw); go_simp; try with_reducible rfl
        try simp only [Act.put, List.setIfInBounds_toArray, List.set_cons_zero, List.set_cons_succ]
        refine wpAnyH_take (i := 1) (oi := { dst := some 51, op := Op.nilCheck (Operand.tmp 50), type := _, pos := _, after := _, guard := none }) (v := ?_) rfl (by kernel_rfl) (by kernel_rfl) (by kernel_rfl) (fun _ _ _ h => h) (Or.inl ⟨by rfl, ?_⟩) (by assumption) ?_
        rotate_left
        · intro w hSw; (try dsimp only at hSw); go_simp; try with_reducible rfl
        try simp only [Act.put, List.setIfInBounds_toArray, List.set_cons_zero, List.set_cons_succ]
        refine wpAnyH_take (i := 2) (oi := { dst := some 52, op := Op.fieldAddr 101 (Operand.tmp 51) 3, type := _, pos := _, after := _, guard := none }) (v := ?_) rfl (by kernel_rfl) (by kernel_rfl) (by kernel_rfl) (fun _ _ _ h => h) (Or.inl ⟨by rfl, ?_⟩) (by assumption) ?_
        rotate_left
        · intro w hSw; (try dsimp only at hSw); go_simp; try with_reducible rfl
        try simp only [Act.put, List.setIfInBounds_toArray, List.set_cons_zero, List.set_cons_succ]
        refine wpAnyH_take (i := 3) (oi := { dst := some 53, op := Op.load 97 (Operand.tmp 52), type := _, pos := _, after := _, guard := none }) (v := ?_) rfl (by kernel_rfl) (by kernel_rfl) (by kernel_rfl) (fun _ _ _ h => h) (Or.inl ⟨by rfl, ?_⟩) (by assumption) ?_
        rotate_left
        · intro w hSw; (try dsimp only at hSw); go_simp; try with_reducible rfl
        try simp only [Act.put, List.setIfInBounds_toArray, List.set_cons_zero, List.set_cons_succ]
        refine wpAnyH_take (i := 4) (oi := { dst := some 54, op := Op.move (Operand.tmp 5), type := _, pos := _, after := _, guard := none }) (v := ?_) rfl (by kernel_rfl) (by kernel_rfl) (by kernel_rfl) (fun _ _ _ h => h) (Or.inl ⟨by rfl, ?_⟩) (by assumption) ?_
        rotate_left
        · intro w hSw; (try dsimp only at hSw); go_simp; try with_reducible rfl
        try simp only [Act.put, List.setIfInBounds_toArray, List.set_cons_zero, List.set_cons_succ]
        refine wpAnyH_take (i := 5) (oi := { dst := some 55, op := Op.move (Operand.tmp 0), type := _, pos := _, after := _, guard := none }) (v := ?_) rfl (by kernel_rfl) (by kernel_rfl) (by kernel_rfl) (fun _ _ _ h => h) (Or.inl ⟨by rfl, ?_⟩) (by assumption) ?_
        rotate_left
        · intro w hSw; (try dsimp only at hSw); go_simp; try with_reducible rfl
        try simp only [Act.put, List.setIfInBounds_toArray, List.set_cons_zero, List.set_cons_succ]
        refine wpAnyH_take (i := 6) (oi := { dst := some 56, op := Op.nilCheck (Operand.tmp 55), type := _, pos := _, after := _, guard := none }) (v := ?_) rfl (by kernel_rfl) (by kernel_rfl) (by kernel_rfl) (fun _ _ _ h => h) (Or.inl ⟨by rfl, ?_⟩) (by assumption) ?_
        rotate_left
        · intro w hSw; (try dsimp only at hSw); go_simp; try with_reducible rfl
        try simp only [Act.put, List.setIfInBounds_toArray, List.set_cons_zero, List.set_cons_succ]
        refine wpAnyH_take (i := 7) (oi := { dst := some 57, op := Op.fieldAddr 101 (Operand.tmp 56) 3, type := _, pos := _, after := _, guard := none }) (v := ?_) rfl (by kernel_rfl) (by kernel_rfl) (by kernel_rfl) (fun _ _ _ h => h) (Or.inl ⟨by rfl, ?_⟩) (by assumption) ?_
        rotate_left
        · intro w hSw; (try dsimp only at hSw); go_simp; try with_reducible rfl
        try simp only [Act.put, List.setIfInBounds_toArray, List.set_cons_zero, List.set_cons_succ]
        refine wpAnyH_take (i := 8) (oi := { dst := some 58, op := Op.load 97 (Operand.tmp 57), type := _, pos := _, after := _, guard := none }) (v := ?_) rfl (by kernel_rfl) (by kernel_rfl) (by kernel_rfl) (fun _ _ _ h => h) (Or.inl ⟨by rfl, ?_⟩) (by assumption) ?_
        rotate_left
        · intro w hSw; (try dsimp only at hSw); go_simp; try with_reducible rfl
        try simp only [Act.put, List.setIfInBounds_toArray, List.set_cons_zero, List.set_cons_succ]
        refine wpAnyH_take (i := 9) (oi := { dst := some 59, op := Op.move (Operand.tmp 5), type := _, pos := _, after := _, guard := none }) (v := ?_) rfl (by kernel_rfl) (by kernel_rfl) (by kernel_rfl) (fun _ _ _ h => h) (Or.inl ⟨by rfl, ?_⟩) (by assumption) ?_
        rotate_left
        · intro w hSw; (try dsimp only at hSw); go_simp; try with_reducible rfl
        try simp only [Act.put, List.setIfInBounds_toArray, List.set_cons_zero, List.set_cons_succ]
        refine wpAnyH_take (i := 11) (oi := { dst := some 61, op := Op.move (Operand.tmp 3), type := _, pos := _, after := _, guard := none }) (v := ?_) rfl (by kernel_rfl) (by kernel_rfl) (by kernel_rfl) (fun _ _ _ h => h) (Or.inl ⟨by rfl, ?_⟩) (by assumption) ?_
        rotate_left
        · intro w hSw; (try dsimp only at hSw); go_simp; try with_reducible rfl
        try simp only [Act.put, List.setIfInBounds_toArray, List.set_cons_zero, List.set_cons_succ]
        refine wpAnyH_ready (rs := [10, 12]) (by kernel_rfl) (by simp) ?_
        refine AllReadyH.cons (o := { dst := some 60, op := Op.lookup 97 (Operand.tmp 58) (Operand.tmp 59) false, type := _, pos := _, after := _, guard := none }) rfl ?legA2 (AllReadyH.cons (o := { dst := some 62, op := Op.buildSlice 32 1 #[(0, Operand.tmp 61)], type := _, pos := _, after := _, guard := none }) rfl ?legB2 AllReadyH.nil)
        case' legA2 =>
          intro K hK
          rw [if_pos (by rfl)]
          refine wp_look_row (.tmp 58) (.tmp 59) rfl (by first | exact HQ.out.2.2.1 | exact HQ.out.2.2.1.alloc _) bv HKB.out rfl rfl ?_
          refine hK.out _ _ (by first | exact HQ.out.1.cells.2.2.2.2.1 | exact HQ1.out.1.cells.2.2.2.2.1) (fun hHeld => ?_)
          clear hK K
          try simp only [Act.put, List.setIfInBounds_toArray, List.set_cons_zero, List.set_cons_succ]
          refine wpAnyH_ready (rs := [12]) (by kernel_rfl) (by simp) ?_
          refine AllReadyH.cons (o := { dst := some 62, op := Op.buildSlice 32 1 #[(0, Operand.tmp 61)], type := _, pos := _, after := _, guard := none }) rfl (fun K hK => ?_) AllReadyH.nil
          go_simp
          refine hK.out _ _ (by exact HQ1.out.1.cells.2.2.2.2.1) (fun hHeld => ?_)
          clear hK K
          try simp only [Act.put, List.setIfInBounds_toArray, List.set_cons_zero, List.set_cons_succ]
          refine wpAnyH_ready (rs := [13]) (by kernel_rfl) (by simp) ?_
          refine AllReadyH.cons (o := { dst := some 63, op := Op.call { callee := Callee.builtin Builtin.append, args := #[Operand.tmp 60, Operand.tmp 62], argTypes := #[32, 32] }, type := _, pos := _, after := _, guard := none }) rfl (fun K hK => ?_) AllReadyH.nil
          rw [if_pos (by rfl)]
          refine wp_app_int (.tmp 60) (.tmp 62) rfl (w0 := wq.drew) (z := (k : Int)) (l := lst st bv) (v := rowV st bv) (B := x.B) rfl rfl HROW.out rfl HRL.out HBW.out ?_
          intro v3 w3 hown3 hg3 hat3
          have HM3 := hid (HQ1.out.2.2.1.grown hg3 (Ne.symm (own_map_ne (HROW.out.alloc _) HQ1.out.2.2.1)))
          have HH3 := hid (HQ1.out.1.keep (hg3.block _ HQ1.out.1.lt (Ne.symm (HQ1.out.1.ne_row (HROW.out.alloc _)))))
          refine hK.out _ _ (by exact HH3.out.cells.2.2.2.2.1) (fun hHeld => ?_)
          clear hK K
          try simp only [Act.put, List.setIfInBounds_toArray, List.set_cons_zero, List.set_cons_succ]
          refine wpAnyH_ready (rs := [14]) (by kernel_rfl) (by simp) ?_
          refine AllReadyH.cons (o := { dst := none, op := Op.mapUpdate 97 (Operand.tmp 53) (Operand.tmp 54) (Operand.tmp 63), type := _, pos := _, after := _, guard := none }) rfl (fun K hK => ?_) AllReadyH.nil
          rw [if_pos (by rfl)]
          refine wp_mupd intKey (.tmp 53) (.tmp 54) (.tmp 63) 97 rfl Try.underlying97 HM3.out bv HKB.out (v3, lst st bv ++ [(k : Int)]) v3 rfl rfl rfl rfl ?_
          intro w4 hm4 hg4
          refine hK.out _ _ (by exact (HH3.out.keep (hg4.block _ HH3.out.lt (fun e => HH3.out.ne_map HM3.out (by injection e)))).cells.2.2.2.2.1) (fun hHeld => ?_)
          clear hK K
          try simp only [Act.put, List.setIfInBounds_toArray, List.set_cons_zero, List.set_cons_succ]
          refine wpAnyH_done (by kernel_rfl) ?_ _
        case' legB2 =>
          intro K hK
          go_simp
          refine hK.out _ _ (by exact HQ1.out.1.cells.2.2.2.2.1) (fun hHeld => ?_)
          clear hK K
          try simp only [Act.put, List.setIfInBounds_toArray, List.set_cons_zero, List.set_cons_succ]
          refine wpAnyH_ready (rs := [10]) (by kernel_rfl) (by simp) ?_
          refine AllReadyH.cons (o := { dst := some 60, op := Op.lookup 97 (Operand.tmp 58) (Operand.tmp 59) false, type := _, pos := _, after := _, guard := none }) rfl (fun K hK => ?_) AllReadyH.nil
          rw [if_pos (by rfl)]
          refine wp_look_row (.tmp 58) (.tmp 59) rfl (by first | exact HQ.out.2.2.1 | exact HQ.out.2.2.1.alloc _) bv HKB.out rfl rfl ?_
          refine hK.out _ _ (by first | exact HQ.out.1.cells.2.2.2.2.1 | exact HQ1.out.1.cells.2.2.2.2.1) (fun hHeld => ?_)
          clear hK K
          try simp only [Act.put, List.setIfInBounds_toArray, List.set_cons_zero, List.set_cons_succ]
          refine wpAnyH_ready (rs := [13]) (by kernel_rfl) (by simp) ?_
          refine AllReadyH.cons (o := { dst := some 63, op := Op.call { callee := Callee.builtin Builtin.append, args := #[Operand.tmp 60, Operand.tmp 62], argTypes := #[32, 32] }, type := _, pos := _, after := _, guard := none }) rfl (fun K hK => ?_) AllReadyH.nil
          rw [if_pos (by rfl)]
          refine wp_app_int (.tmp 60) (.tmp 62) rfl (w0 := wq.drew) (z := (k : Int)) (l := lst st bv) (v := rowV st bv) (B := x.B) rfl rfl HROW.out rfl HRL.out HBW.out ?_
          intro v3 w3 hown3 hg3 hat3
          have HM3 := hid (HQ1.out.2.2.1.grown hg3 (Ne.symm (own_map_ne (HROW.out.alloc _) HQ1.out.2.2.1)))
          have HH3 := hid (HQ1.out.1.keep (hg3.block _ HQ1.out.1.lt (Ne.symm (HQ1.out.1.ne_row (HROW.out.alloc _)))))
          refine hK.out _ _ (by exact HH3.out.cells.2.2.2.2.1) (fun hHeld => ?_)
          clear hK K
          try simp only [Act.put, List.setIfInBounds_toArray, List.set_cons_zero, List.set_cons_succ]
          refine wpAnyH_ready (rs := [14]) (by kernel_rfl) (by simp) ?_
          refine AllReadyH.cons (o := { dst := none, op := Op.mapUpdate 97 (Operand.tmp 53) (Operand.tmp 54) (Operand.tmp 63), type := _, pos := _, after := _, guard := none }) rfl (fun K hK => ?_) AllReadyH.nil
          rw [if_pos (by rfl)]
          refine wp_mupd intKey (.tmp 53) (.tmp 54) (.tmp 63) 97 rfl Try.underlying97 HM3.out bv HKB.out (v3, lst st bv ++ [(k : Int)]) v3 rfl rfl rfl rfl ?_
          intro w4 hm4 hg4
          refine hK.out _ _ (by exact (HH3.out.keep (hg4.block _ HH3.out.lt (fun e => HH3.out.ne_map HM3.out (by injection e)))).cells.2.2.2.2.1) (fun hHeld => ?_)
          clear hK K
          try simp only [Act.put, List.setIfInBounds_toArray, List.set_cons_zero, List.set_cons_succ]
          refine wpAnyH_done (by kernel_rfl) ?_ _
        all_goals
          have hbk : G1.2.length = k + 1 := by rw [HG2.out]; simp; omega
          have HQ4 := hid (SpM.row HX.out HQ1.out hg3 hown3 hat3 hm4 hg4 HM3.out)
          have HS4 := hid (show StIs (mset st bv (v3, lst st bv ++ [(k : Int)])) G1.2 by
            have h := HST.out.snoc bv v3
            rw [show G.2.length = k by omega] at h
            rw [HG2.out]; exact h)
          have HU4 := hid (show UMap w4 g G1.1 from (HUQ1.out.grown hg3 (Ne.symm (own_map_ne (HROW.out.alloc _) HUQ1.out))).grown hg4 (fun e => by injection e with e; omega))
          have HZ3 := hid (show x.B ≤ w3.heap.size from Nat.le_trans HBW.out (Nat.le_trans (show wq.heap.size ≤ (wq.alloc (.cells #[.int .i64 (k : Int)] 3)).heap.size by simp) hg3.size))
          have HB4 := hid (show Below x.B w w4 from Below.grown (below_own ((Below.drew HBQ.out).alloc HBW.out _) (HROW.out.alloc _) hg3 (by have := HBW.out; simp at this ⊢; omega)) hg4 HZ3.out (fun q hq => by cases hq; exact HX.out.2.2.1))
          clear hg3 hown3 hat3 hm4 hg4 HM3 HH3
          go_wp2_with fail
          go_roundw
          case rel => exact ⟨k + 1, _, by omega, by go_num, by rw [hst2.out]; exact HQ4, by rw [hst2.out]; exact HS4, by rw [hst2.out]; exact HU4, HB4⟩
          case measure => simp [intOf]; omega
    · obtain rfl : k = x.n := by omega
      have hkl := (numGo_len ts).2
      rw [HT.out.1] at hkl
      have htk : ts.take x.n = ts := by rw [← HT.out.1, List.take_length]
      rw [htk] at HP HST HU1
      rw [Nat.sub_self, List.replicate_zero, List.append_nil] at HP
      obtain ⟨G, hG⟩ : ∃ G, G = numGo ts := ⟨_, rfl⟩
      have HGG := hid hG
      rw [← hG] at HP HST HU1 hkl
      obtain ⟨M, hM⟩ : ∃ M, M = G.1.length := ⟨_, rfl⟩
      have HMM := hid hM
      rw [← hM] at HP hkl
      clear htk hG hM hlt hk
      obtain ⟨c0, c1, c2, c3, c4, c5, c6⟩ := HP.out.1.cells
      go_wp2_with fail
      clear c0 c1 c2 c3 c4 c5 c6
      go_loopw [69] (fun s69 wr => ∃ (i : Nat) (td : List ((Int × Int) × Unit)), i ≤ M ∧ s69 = .int .i64 i ∧ Hid (SpM x wr fv M G.2 st td) ∧ Hid (TdUp td i 0) ∧ Hid (Below x.B w wr)) (fun s69 _ => M - (intOf s69).toNat)
      case atStart => exact ⟨0, [], by omega, rfl, HP, hid TdUp.nil, HB⟩
      case round =>
        obtain ⟨i, td, hi, rfl, HP2, HTD, HB2⟩ := hrel
        clear HP HB
        by_cases hlti : i < M
        · go_wp2_with fail
          go_loopw [72] (fun s72 wr => ∃ (j : Nat) (td : List ((Int × Int) × Unit)), j ≤ 37 ∧ s72 = .int .i64 j ∧ Hid (SpM x wr fv M G.2 st td) ∧ Hid (TdUp td i j) ∧ Hid (Below x.B w wr)) (fun s72 _ => 37 - (intOf s72).toNat)
          case atStart => exact ⟨0, td, by omega, rfl, HP2, HTD, HB2⟩
          case round =>
            obtain ⟨j, td2, hj, rfl, HP3, HTD3, HB3⟩ := hrel
            clear HP2 HTD HB2
            by_cases hltj : j < 37
            · obtain ⟨c0, c1, c2, c3, c4, c5, c6⟩ := HP3.out.1.cells
              have HKB := hid (show pairOk ((i : Int), (j : Int)) from ⟨⟨by simp only []; omega, by simp only []; omega⟩, ⟨by simp only []; omega, by simp only []; omega⟩⟩)
              go_wp2_with (first
                | (at_mapUpdate; refine wpList_mupdate pairKey rfl (.tmp 78) (.tmp 81) (.const (.bool true)) 98 rfl Try.underlying98 HP3.out.2.2.2.2.2 ((i : Int), (j : Int)) HKB.out () _ rfl rfl rfl rfl ?_; intro w1 hm1 hg1))
              have HP4 := hid (HP3.out.todo HX.out hm1 hg1)
              have HB4 := hid (HB3.out.grown hg1 (Nat.le_trans hB HB3.out.size) (fun q hq => by cases hq; exact HX.out.2.2.2.1))
              have HTD4 := hid (HTD3.out.step (by omega) (by omega) (by omega))
              clear hm1 hg1
              go_roundw
              case rel => exact ⟨j + 1, _, by omega, by go_num, HP4, HTD4, HB4⟩
              case measure => simp [intOf]; omega
            · obtain rfl : j = 37 := by omega
              have HTD4 := hid (HTD3.out.next)
              go_wp2_with fail
              go_roundw
              case rel => exact ⟨i + 1, _, by omega, by go_num, HP3, HTD4, HB3⟩
              case measure => simp [intOf]; omega
        · obtain rfl : i = M := by omega
          go_wp2_with fail
          go_end0
          refine ⟨rfl, st, td, ?_, ?_, ?_, HB2.out⟩
          · rw [numbered, ← HGG.out, ← HMM.out]; exact HP2.out
          · rw [numbered, ← HGG.out]; exact HST.out
          · rw [← HGG.out, ← HMM.out]; exact HTD.out
end Go.Proofs.Ytmdkmobcglnmgaa
