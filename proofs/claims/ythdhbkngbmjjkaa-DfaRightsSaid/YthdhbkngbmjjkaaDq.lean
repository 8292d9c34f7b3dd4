/- The document's Reached: of each state whether it comes of the first one. No conditions but a right table. -/
import Derived.Test.YthdhbkngbmjjkaaDm
import Derived.Test.YthdhbkngbmjjkaaBo
import Derived.Deep.LoopGhost
namespace Go.Proofs.Ythdhbkngbmjjkaa
open Go.RowKit
set_option linter.unusedSimpArgs false
def cntF (l : List Bool) : Nat := l.countP fun b => !b
theorem cntF_set {l : List Bool} {i : Nat} (h : i < l.length) (hf : nthB l i = false) : cntF (l.set i true) + 1 = cntF l := by
  induction l generalizing i with
  | nil => simp at h
  | cons b r ih =>
    cases i with
    | zero =>
      have hb : b = false := by simpa [nthB] using hf
      subst hb
      simp [cntF]
    | succ i =>
      have h' : i < r.length := by simpa using h
      have hf' : nthB r i = false := by simpa [nthB] using hf
      have := ih h' hf'
      unfold cntF at this ⊢
      simp only [List.set_cons_succ, List.countP_cons]
      omega
/-- What has been found so far. -/
structure RO (d : D) (out : List Bool) : Prop where
  len : out.length = d.next.length
  z : nthB out 0 = true
  snd : ∀ i, nthB out i = true → Dch d (i : Int)
/-- A state all of whose next ones, of the first marks, are found. -/
def ClsT (d : D) (out : List Bool) (i k : Nat) : Prop := nthB out i = true → ∀ m, m < k → nthB out (stp d.next i m) = true
theorem RO.done {d : D} {out : List Bool} (h : RO d out) (hr : RT d.next d.next.length) (hc : ∀ i, i < d.next.length → ClsT d out i 37) (i : Nat) : nthB out i = true ↔ Dch d (i : Int) := by
  refine ⟨h.snd i, fun hz => ?_⟩
  have key : ∀ z, Dch d z → ∀ i : Nat, z = (i : Int) → nthB out i = true := by
    intro z hz
    induction hz with
    | zero => intro i e; obtain rfl : i = 0 := by omega
              exact h.z
    | @step t m _ ht hm ih =>
      intro i e
      have h1 := hc t ht (ih t rfl) m hm
      have h2 := (hr.at ht hm).2
      obtain rfl : i = stp d.next t m := by omega
      exact h1
  exact key _ hz i rfl
theorem RO.set {d : D} {out : List Bool} (h : RO d out) (hr : RT d.next d.next.length) {i k : Nat} (hi : i < d.next.length) (hk : k < 37) (hb : nthB out i = true) : RO d (out.set (stp d.next i k) true) := by
  obtain ⟨h1, h2⟩ := hr.at hi hk
  have hl : stp d.next i k < out.length := by rw [h.len]; exact h1
  refine ⟨by rw [List.length_set]; exact h.len, ?_, fun j hj => ?_⟩
  · rw [nthB_set hl]
    split
    · rfl
    · exact h.z
  · rw [nthB_set hl] at hj
    split at hj
    · rename_i e
      subst e
      rw [← h2]
      exact .step (h.snd i hb) hi hk
    · exact h.snd j hj
/-- In the midst of a round: up to state i, mark k. -/
def MidR (d : D) (c : Nat) (out : List Bool) (more : Bool) (i k : Nat) : Prop :=
  RO d out ∧ (more = true → cntF out < c) ∧ (more = false → cntF out ≤ c ∧ (∀ j, j < i → ClsT d out j 37) ∧ ClsT d out i k)
theorem MidR.put {d : D} {c : Nat} {out : List Bool} {more : Bool} {i k : Nat} (h : MidR d c out more i k) (hr : RT d.next d.next.length) (hi : i < d.next.length) (hk : k < 37) (hb : nthB out i = true) (hf : nthB out (stp d.next i k) = false) :
    MidR d c (out.set (stp d.next i k) true) true i (k + 1) := by
  obtain ⟨h1, h2, h3⟩ := h
  have hl : stp d.next i k < out.length := by rw [h1.len]; exact (hr.at hi hk).1
  have hc := cntF_set hl hf
  refine ⟨h1.set hr hi hk hb, fun _ => ?_, fun e => by cases e⟩
  cases more with
  | true => have := h2 rfl; omega
  | false => have := (h3 rfl).1; omega
theorem MidR.skip {d : D} {c : Nat} {out : List Bool} {more : Bool} {i k : Nat} (h : MidR d c out more i k) (hf : nthB out (stp d.next i k) = true) : MidR d c out more i (k + 1) := by
  obtain ⟨h1, h2, h3⟩ := h
  refine ⟨h1, h2, fun e => ?_⟩
  obtain ⟨a, b, g⟩ := h3 e
  refine ⟨a, b, fun hb m hm => ?_⟩
  by_cases e : m = k
  · subst e; exact hf
  · exact g hb m (by omega)
theorem MidR.next {d : D} {c : Nat} {out : List Bool} {more : Bool} {i k : Nat} (h : MidR d c out more i k) (hk : k = 37 ∨ nthB out i = false) : MidR d c out more (i + 1) 0 := by
  obtain ⟨h1, h2, h3⟩ := h
  refine ⟨h1, h2, fun e => ?_⟩
  obtain ⟨a, b, g⟩ := h3 e
  refine ⟨a, fun j hj => ?_, fun _ m hm => by omega⟩
  by_cases e : j = i
  · subst e
    rcases hk with rfl | hk
    · exact g
    · intro hb; rw [hk] at hb; cases hb
  · exact b j (by omega)
/-- At the head of a round. -/
def HeadR (d : D) (g : Nat) (out : List Bool) (more : Bool) : Prop := RO d out ∧ (more = true → cntF out + 1 ≤ g) ∧ (more = false → ∀ j, j < d.next.length → ClsT d out j 37)
theorem HeadR.mid {d : D} {g : Nat} {out : List Bool} (h : HeadR d g out true) : MidR d (cntF out) out false 0 0 ∧ cntF out + 1 ≤ g :=
  ⟨⟨h.1, fun e => (by cases e), fun _ => ⟨Nat.le_refl _, fun j hj => by omega, fun _ m hm => by omega⟩⟩, h.2.1 rfl⟩
theorem MidR.head {d : D} {c : Nat} {out : List Bool} {more : Bool} (h : MidR d c out more d.next.length 0) : HeadR d c out more :=
  ⟨h.1, fun e => h.2.1 e, fun e => (h.2.2 e).2.1⟩
theorem start_ro {d : D} (hn : 1 ≤ d.next.length) : RO d ((noB d.next.length).set 0 true) := by
  have hl : (noB d.next.length).length = d.next.length := by simp [noB]
  refine ⟨by rw [List.length_set]; exact hl, ?_, fun i hi => ?_⟩
  · rw [nthB_set (by omega), if_pos rfl]
  · rw [nthB_set (by omega)] at hi
    split at hi
    · rename_i e; subst e; exact .zero
    · simp [nthB, noB, List.getElem?_replicate] at hi
      split at hi <;> simp_all
def RefReachAns (w : World) (d : D) (e : Ending) (w' : World) : Prop := ∃ ob out, e = .returned (.slice (some ⟨ob, 0, none⟩) d.next.length d.next.length) ∧ w.heap.size ≤ ob ∧ BoolBlk w' ob out ∧ out.length = d.next.length ∧ (∀ i : Nat, nthB out i = true ↔ Dch d (i : Int)) ∧ Below w.heap.size w w'
set_option maxRecDepth 100000 in
set_option maxHeartbeats 4000000 in
theorem refReached_any (S : Nat → Prop) (v : Value) (d : D) (w : World) (h : IsD w S v d) (hr : rightB d = true) :
    Calls Try.prog 39 #[v] w (RefReachAns w d) := by
  obtain ⟨nv, tv, rfl, hn, ht⟩ := id h
  obtain ⟨nb, no, nc, rfl, hx⟩ := tabN_of hn hr
  obtain ⟨TA, tc, rfl⟩ := ht.form
  obtain ⟨tl, htl⟩ : ∃ tl, tl = d.tells.length := ⟨_, rfl⟩
  rw [← htl]
  clear htl
  have HX := hid hx
  obtain ⟨hn0, hn1000⟩ := hx.n1
  obtain ⟨n, hnn⟩ : ∃ n, n = d.next.length := ⟨_, rfl⟩
  have HN := hid hnn
  rw [← hnn] at hn0 hn1000 ⊢
  obtain ⟨q0, hq0⟩ : ∃ q0, q0 = w.heap.size := ⟨_, rfl⟩
  obtain ⟨ob, hob⟩ : ∃ ob, ob = w.heap.size + 1 := ⟨_, rfl⟩
  obtain ⟨X, hX⟩ : ∃ X, X = (w.alloc (.cells #[.slice (some ⟨nb, no, none⟩) n nc, .slice TA tl tc] 62)).alloc (.cells ((Array.replicate n (Value.bool false)).setIfInBounds 0 (.bool true)) 4) := ⟨_, rfl⟩
  have HBX := hid (show Below w.heap.size w X by rw [hX]; exact ((Below.refl _ _).alloc (Nat.le_refl _) _).alloc (by simp) _)
  have HP := hid (show X.heap[q0]? = some (.cells #[.slice (some ⟨nb, no, none⟩) n nc, .slice TA tl tc] 62 (0, 0)) by rw [hX, hq0, heap_alloc_old _ _ (by simp)]; exact heap_alloc_new _ _)
  have HBB := hid (show BoolBlk X ob ((noB n).set 0 true) by
    show X.heap[ob]? = _
    have h1 := heap_alloc_new (w.alloc (.cells #[.slice (some ⟨nb, no, none⟩) n nc, .slice TA tl tc] 62)) (.cells ((Array.replicate n (Value.bool false)).setIfInBounds 0 (.bool true)) 4)
    rw [World.size_alloc] at h1
    rw [hX, hob, h1, ← rep_bools, List.setIfInBounds_toArray, List.map_set]
    rfl)
  have HQ := hid (And.intro hq0 hob)
  have HLOW := hid (show ∀ Y, Below ob X Y → Y.cell? ⟨q0, 0, none⟩ = some (.slice (some ⟨nb, no, none⟩) n nc) ∧ Below w.heap.size w Y from fun Y hY => by
    obtain ⟨a, -, -⟩ := slot2 ((hY.block q0 (by omega)).trans HP.out)
    exact ⟨a, HBX.out.trans (hY.mono (by omega))⟩)
  have HH0 := hid (show HeadR d (cntF ((noB n).set 0 true) + 1) ((noB n).set 0 true) true from ⟨by have h := start_ro (d := d) (by rw [← hnn]; exact hn0); rw [← hnn] at h; exact h, fun _ => Nat.le_refl _, fun e => by cases e⟩)
  have HCL := hid (show ∀ (i : Nat) out c more, MidR d c out more i 0 → out.length = n from fun i out c more h => by rw [hnn]; exact h.1.len)
  have hmk := run_make_bools .i64 .i64 n (by omega)
  have hr0 : (Array.replicate n (Value.bool false))[0]? = some (.bool false) := by rw [Array.getElem?_replicate, if_pos (by omega)]
  clear h hr hn ht hx hnn
  go_enter Try.func39, Try.ntmps39
  go_wp2_with fail
  rw [← hX, ← hob, ← hq0]
  have hqo : q0 < ob := by omega
  clear hX hmk hr0 hq0 hob
  go_loopg [4] (cntF ((noB n).set 0 true) + 1) (fun g s4 wr => ∃ (out : List Bool) (more : Bool), s4 = .bool more ∧ Hid (HeadR d g out more) ∧ Hid (BoolBlk wr ob out) ∧ Hid (Below ob X wr))
  case atStart => exact ⟨_, true, rfl, HH0, HBB, hid (Below.refl _ _)⟩
  case round =>
    clear HH0 HBB
    obtain ⟨out, more, rfl, HH, HO, HBr⟩ := hrel
    cases more with
    | false =>
      go_wp2_with fail
      go_ret
      exact ⟨ob, out, by rw [← HN.out]; rfl, by rw [HQ.out.2]; omega, HO.out, HH.out.1.len, fun i => HH.out.1.done HX.out.rt (HH.out.2.2 rfl) i, (HLOW.out _ HBr.out).2⟩
    | true =>
      obtain ⟨c, hc⟩ : ∃ c, c = cntF out := ⟨_, rfl⟩
      obtain ⟨hm, hg⟩ := HH.out.mid
      rw [← hc] at hm hg
      have HM0 := hid hm
      clear hm hc HH
      go_wp2_with fail
      go_loopw [4, 5] (fun s4 s5 wi => ∃ (out : List Bool) (more : Bool) (i : Nat), i ≤ n ∧ s4 = .bool more ∧ s5 = .int .i64 i ∧ Hid (MidR d c out more i 0) ∧ Hid (BoolBlk wi ob out) ∧ Hid (Below ob X wi)) (fun _ s5 _ => n - (intOf s5).toNat)
      case atStart => exact ⟨_, false, 0, by omega, rfl, rfl, HM0, HO, HBr⟩
      case round =>
        clear HM0 HO HBr
        obtain ⟨out, more, i, hi, rfl, rfl, HM, HO, HBi⟩ := hrel
        by_cases hlt : i < n
        · go_wp2_with fail
          go_loopw [4, 6] (fun s4 s6 wk => ∃ (out : List Bool) (more : Bool) (k : Nat), k ≤ 37 ∧ s4 = .bool more ∧ s6 = .int .i64 k ∧ Hid (MidR d c out more i k) ∧ Hid (BoolBlk wk ob out) ∧ Hid (Below ob X wk)) (fun _ s6 _ => 37 - (intOf s6).toNat)
          case atStart => exact ⟨_, _, 0, by omega, rfl, rfl, HM, HO, HBi⟩
          case round =>
            clear HM HO HBi
            obtain ⟨out, more, k, hk, rfl, rfl, HM, HO, HBk⟩ := hrel
            have HL := hid (show out.length = n by rw [HN.out]; exact HM.out.1.len)
            have c0 := HO.out.cell (j := i) (by rw [HL.out]; exact hlt)
            by_cases hk37 : k < 37
            · cases hb : nthB out i with
              | false =>
                rw [hb] at c0
                have HMN := hid (HM.out.next (.inr hb))
                clear hb
                go_wp2_with fail
                go_roundw
                case rel => exact ⟨out, more, i + 1, by omega, rfl, by go_num, HMN, HO, HBk⟩
                case measure => simp [intOf]; omega
              | true =>
                rw [hb] at c0
                have HB1 := hid hb
                clear hb
                obtain ⟨x0, hbw⟩ := HLOW.out _ HBk.out
                obtain ⟨rb, ro, rc, hrow0, hrb, hrc⟩ := HX.out.rows i (by rw [← HN.out]; exact hlt)
                have hrow := (hbw.cell (p := ⟨nb, no + i, none⟩) HX.out.nlt).trans hrow0
                have hcz := (hbw.cell (p := ⟨rb, ro + k, none⟩) hrb).trans (hrc k hk37)
                obtain ⟨hzn, e1⟩ := HX.out.rt.at (p := i) (by rw [← HN.out]; exact hlt) hk37
                rw [e1] at hcz
                obtain ⟨t, ht⟩ : ∃ t, t = stp d.next i k := ⟨_, rfl⟩
                have HT := hid ht
                rw [← ht, ← HN.out] at hzn
                rw [← ht] at hcz
                have ct := HO.out.cell (j := t) (by rw [HL.out]; exact hzn)
                have cf := HO.out.frozen t
                clear e1 ht hrow0 hrb hrc hbw
                cases hf : nthB out t with
                | true =>
                  rw [hf] at ct
                  have HMN := hid (HM.out.skip (by rw [← HT.out]; exact hf))
                  clear hf
                  go_wp2_with fail
                  go_roundw
                  case rel => exact ⟨out, more, k + 1, by omega, rfl, by go_num, HMN, HO, HBk⟩
                  case measure => simp [intOf]; omega
                | false =>
                  rw [hf] at ct
                  have HMN := hid (show MidR d c (out.set t true) true i (k + 1) by
                    have := HM.out.put HX.out.rt (by rw [← HN.out]; exact hlt) hk37 HB1.out (by rw [← HT.out]; exact hf)
                    rw [← HT.out] at this; exact this)
                  have HOS := hid (HO.out.set t true)
                  have HBS := hid (HBk.out.setCell (p := ⟨ob, t, none⟩) (Nat.le_refl _) (.bool true))
                  clear hf
                  go_wp2_with fail
                  go_roundw
                  case rel => exact ⟨out.set t true, true, k + 1, by omega, rfl, by go_num, HMN, HOS, HBS⟩
                  case measure => simp [intOf]; omega
            · obtain rfl : k = 37 := by omega
              have HMN := hid (HM.out.next (.inl rfl))
              go_wp2_with fail
              go_roundw
              case rel => exact ⟨out, more, i + 1, by omega, rfl, by go_num, HMN, HO, HBk⟩
              case measure => simp [intOf]; omega
        · obtain rfl : i = n := by omega
          have HHN := hid (show HeadR d c out more from MidR.head (by rw [← HN.out]; exact HM.out))
          go_wp2_with fail
          go_roundg c
          case rel => exact ⟨out, more, rfl, HHN, HO, HBi⟩
          case measure => omega
end Go.Proofs.Ythdhbkngbmjjkaa
