/- The document's table, made. Conditions: the document's places of right expressions. -/
import Derived.Test.YthdhbkngbmjjkaaDu
import Derived.Test.YthdhbkngbmjjkaaRz
namespace Go.Proofs.Ythdhbkngbmjjkaa
open Go.RowKit
set_option linter.unusedSimpArgs false
theorem idx_at {t : List Int} : ∀ {sets : List (List Int)} {k : Nat}, (∀ j, j < k → sets[j]? ≠ some t) → sets[k]? = some t → sets.idxOf t = k
  | [], k, _, h => by simp at h
  | x :: r, 0, _, h => by
    have : x = t := by simpa using h
    subst this
    simp
  | x :: r, k + 1, hb, h => by
    have h0 : x ≠ t := fun e => hb 0 (by omega) (by simp [e])
    rw [List.idxOf_cons, show (x == t) = false by simpa using h0]
    show r.idxOf t + 1 = k + 1
    have hk : r[k]? = some t := by simpa using h
    have ih := idx_at (sets := r) (k := k) (fun j hj e => hb (j + 1) (by omega) (by simpa using e)) hk
    rw [ih]
theorem idx_none {t : List Int} {sets : List (List Int)} (hb : ∀ j, j < sets.length → sets[j]? ≠ some t) : t ∉ sets ∧ sets.idxOf t = sets.length := by
  have h : t ∉ sets := fun h => by
    obtain ⟨j, hj⟩ := List.getElem?_of_mem h
    exact hb j (List.getElem?_eq_some_iff.1 hj).1 hj
  exact ⟨h, List.idxOf_eq_length h⟩
theorem next_old {search : Bool} {s : Bs} {cur : List Int} {sets : List (List Int)} {j k : Nat} {t : List Int} (hb : ∀ q, q < k → (setsTo search s cur sets j)[q]? ≠ some t) (hk : (setsTo search s cur sets j)[k]? = some t) (ht : t = stepB search s (j : Int) cur) :
    setsTo search s cur sets (j + 1) = setsTo search s cur sets j ∧ rowTo search s cur sets (j + 1) = rowTo search s cur sets j ++ [((k : Nat) : Int)] := by
  refine ⟨?_, ?_⟩
  · simp only [setsTo]; rw [← ht]; exact if_pos (List.mem_of_getElem? hk)
  · simp only [rowTo]; rw [← ht, idx_at hb hk]
theorem next_new {search : Bool} {s : Bs} {cur : List Int} {sets : List (List Int)} {j : Nat} {t : List Int} (hb : ∀ q, q < (setsTo search s cur sets j).length → (setsTo search s cur sets j)[q]? ≠ some t) (ht : t = stepB search s (j : Int) cur) :
    setsTo search s cur sets (j + 1) = setsTo search s cur sets j ++ [t] ∧ rowTo search s cur sets (j + 1) = rowTo search s cur sets j ++ [(((setsTo search s cur sets j).length : Nat) : Int)] := by
  refine ⟨?_, ?_⟩
  · simp only [setsTo]; rw [← ht]; exact if_neg (idx_none hb).1
  · simp only [rowTo]; rw [← ht, (idx_none hb).2]
theorem wpList_app_set {w w0 : World} {B : Nat} {ops : Array Oper} {rest : List Oper} {o : Oper} {a : Act} {Q : Exit → Act → World → Prop} (hg : o.guard = none) (s x : Operand) (hop : o.op = .call { callee := .builtin .append, args := #[s, x], argTypes := #[56, 56] }) {v : Value} {us : List Value} {n m c : Nat} {A : Option Addr}
    (hw : w = w0.alloc (.cells #[.slice A m c] 23)) (hs : a.eval s = v) (hown : w0.ownsRow B 23 1 v n us) (hx : a.eval x = .slice (some ⟨w0.heap.size, 0, none⟩) 1 1) (hn : n ≤ 1000000) (hB : B ≤ w0.heap.size)
    (h : ∀ A' c' w', w'.ownsRow B 23 1 (.slice A' (n + 1) c') (n + 1) (us ++ [.slice A m c]) → w.grownBy w' v.ownBlock → ((Value.slice A' (n + 1) c').ownBlock = v.ownBlock ∨ (Value.slice A' (n + 1) c').ownBlock = some w.heap.size) → wpList Try.prog ops Q rest (a.put o.dst (.slice A' (n + 1) c')) w') : wpList Try.prog ops Q (o :: rest) a w :=
  wpList_plain hg fun _ hK => wp_app_set s x hop hw hs hown hx hn hB fun A' c' w' h1 h2 h3 => hK _ _ (h A' c' w' h1 h2 h3)
theorem wpList_app_one {w w0 : World} {B : Nat} {ops : Array Oper} {rest : List Oper} {o : Oper} {a : Act} {Q : Exit → Act → World → Prop} (hg : o.guard = none) (s x : Operand) (hop : o.op = .call { callee := .builtin .append, args := #[s, x], argTypes := #[23, 23] }) {v : Value} {l : List Int} {z : Int}
    (hw : w = w0.alloc (.cells #[.int .i64 z] 3)) (hs : a.eval s = v) (hown : OwnI w0 B v l) (hx : a.eval x = .slice (some ⟨w0.heap.size, 0, none⟩) 1 1) (hn : l.length ≤ 1000000) (hB : B ≤ w0.heap.size)
    (h : ∀ A' c' w', OwnI w' B (.slice A' (l.length + 1) c') (l ++ [z]) → w.grownBy w' v.ownBlock → ((Value.slice A' (l.length + 1) c').ownBlock = v.ownBlock ∨ (Value.slice A' (l.length + 1) c').ownBlock = some w.heap.size) → wpList Try.prog ops Q rest (a.put o.dst (.slice A' (l.length + 1) c')) w') : wpList Try.prog ops Q (o :: rest) a w :=
  wpList_plain hg fun _ hK => wp_app_one s x hop hw hs hown hx hn hB fun A' c' w' h1 h2 h3 => hK _ _ (h A' c' w' h1 h2 h3)
theorem wp_app_tl {w w0 : World} {B : Nat} {o : Oper} {a : Act} {Kn : Act → World → Prop} {Q : Exit → Act → World → Prop} (s x : Operand) (hop : o.op = .call { callee := .builtin .append, args := #[s, x], argTypes := #[57, 57] }) {v : Value} {l : List Int} {z : Int}
    (hw : w = w0.alloc (.cells #[.int .u64 z] 37)) (hs : a.eval s = v) (hown : w0.ownsRow B 37 1 v l.length (l.map (.int .u64))) (hx : a.eval x = .slice (some ⟨w0.heap.size, 0, none⟩) 1 1) (hn : l.length ≤ 1000000) (hB : B ≤ w0.heap.size)
    (h : ∀ A' c' w', w'.ownsRow B 37 1 (.slice A' (l.length + 1) c') (l.length + 1) ((l ++ [z]).map (.int .u64)) → w.grownBy w' v.ownBlock → ((Value.slice A' (l.length + 1) c').ownBlock = v.ownBlock ∨ (Value.slice A' (l.length + 1) c').ownBlock = some w.heap.size) → Kn (a.put o.dst (.slice A' (l.length + 1) c')) w') : Oper.wp Try.prog o a w Kn Q := by
  obtain ⟨i0, hi0, hz0, hz1, hz2⟩ := info_parts info37b
  subst hw
  refine wp_app _ s x 57 hop B 37 i0 _ 1 8 Try.underlying57 hi0 hz0 hz1 hz2 rfl (by decide) v _ _ hs (hown.alloc _) (some ⟨w0.heap.size, 0, none⟩) 1 1 _ hx (src_new w0 _ 37 1 rfl) (by simp [Value.oneCell']) (by simp only [maxLen]; omega) (by omega) (by simp; omega) fun v' w' h1 h2 h3 => ?_
  obtain ⟨A', c', e, _⟩ := own_arr h1
  subst e
  exact h A' c' w' (by rw [List.map_append]; exact h1) h2 h3
theorem setsTo_mono (search : Bool) (s : Bs) (cur : List Int) (sets : List (List Int)) (i : Nat) : ∀ k, (setsTo search s cur sets i).length ≤ (setsTo search s cur sets (i + k)).length
  | 0 => Nat.le_refl _
  | k + 1 => Nat.le_trans (setsTo_mono search s cur sets i k) (addB_len _ _).2
theorem big_next {search : Bool} {s : Bs} {cur : List Int} {sets : List (List Int)} {j k m : Nat} (h : (setsTo search s cur sets (j + 1)).length = k + 1) (hj : j < m) (hk : 120 ≤ k) : 120 < (setsTo search s cur sets m).length := by
  have e := setsTo_mono search s cur sets (j + 1) (m - (j + 1))
  rw [show j + 1 + (m - (j + 1)) = m by omega, h] at e
  omega
theorem up_next {search : Bool} {s : Bs} {cur : List Int} {sets : List (List Int)} {i m : Nat} (h : i < sets.length) : i + 1 ≤ (setsTo search s cur sets m).length := Nat.le_trans h (setsTo_len m).2
set_option maxRecDepth 100000 in
set_option maxHeartbeats 8000000 in
theorem rdmake_any {d : Nat} {l : List (Tr d)} {w : World} {a : Nat} {search : Bool} (hF : Fine l) (hR : Rf w a search (makeI l l.length).fst (makeI l l.length).lst (makeI l l.length).emp (makeI l l.length).s) :
    Calls Try.prog 30 #[.pointer (some ⟨a, 0, none⟩), .int .i64 120] w fun e w' => Below w.heap.size w w' ∧
      ((∃ n, n ≤ 120 ∧ (∀ i, i < n → i < (outB search (builtB l) i).1.length ∧ (outB search (builtB l) (i + 1)).1.length ≤ 120) ∧ n = (outB search (builtB l) n).1.length ∧ ∃ v, e = .returned v ∧ IsD w' (fun b => w.heap.size ≤ b) v ⟨(outB search (builtB l) n).2.1, (outB search (builtB l) n).2.2⟩) ∨
        ∃ n, (∀ i, i < n → i < (outB search (builtB l) i).1.length ∧ (outB search (builtB l) (i + 1)).1.length ≤ 120) ∧ n < (outB search (builtB l) n).1.length ∧ 120 < (outB search (builtB l) (n + 1)).1.length ∧ e = .returned (.agg #[.slice none 0 0, .slice none 0 0])) := by
  have HF := hid hF
  have HR := hid hR
  obtain ⟨s, hs⟩ : ∃ s, s = builtB l := ⟨_, rfl⟩
  have HSD := hid hs
  have HGD := hid (show Good s by rw [hs]; exact hF.good)
  rw [← hs]
  clear hs hF hR
  go_enter Try.func30, Try.ntmps30
  go_wp2_with fail
  obtain ⟨B, hBB⟩ : ∃ B, B = w.heap.size + 1 := ⟨_, rfl⟩
  obtain ⟨db, hdb⟩ : ∃ db, db = w.heap.size + 1 + 1 + 1 := ⟨_, rfl⟩
  obtain ⟨W1, hW1⟩ : ∃ W, W = w.alloc (.cells #[.slice none 0 0, .slice none 0 0] 62) := ⟨_, rfl⟩
  obtain ⟨W2, hW2⟩ : ∃ W, W = W1.alloc (.cells #[.int .i64 0] 3) := ⟨_, rfl⟩
  obtain ⟨W3, hW3⟩ : ∃ W, W = W2.alloc (.cells #[.slice (some ⟨w.heap.size + 1, 0, none⟩) 1 1] 23) := ⟨_, rfl⟩
  obtain ⟨X, hX⟩ : ∃ W, W = W3.alloc (.cells #[.slice none 0 0, .slice none 0 0] 62) := ⟨_, rfl⟩
  have z1 : W1.heap.size = w.heap.size + 1 := by rw [hW1]; simp
  have z2 : W2.heap.size = w.heap.size + 1 + 1 := by rw [hW2]; simp [z1]
  have z3 : W3.heap.size = w.heap.size + 1 + 1 + 1 := by rw [hW3]; simp [z2]
  have zX : X.heap.size = w.heap.size + 1 + 1 + 1 + 1 := by rw [hX]; simp [z3]
  rw [← hW1, ← hW2, ← hW3, ← hX, ← hdb]
  have b1 : Below w.heap.size w W1 := by rw [hW1]; exact (Below.refl _ _).alloc (Nat.le_refl _) _
  have b2 : Below W1.heap.size W1 W2 := by rw [hW2]; exact (Below.refl _ _).alloc (Nat.le_refl _) _
  have b3 : Below W2.heap.size W2 W3 := by rw [hW3]; exact (Below.refl _ _).alloc (Nat.le_refl _) _
  have b4 : Below W3.heap.size W3 X := by rw [hX]; exact (Below.refl _ _).alloc (Nat.le_refl _) _
  have hBX : Below w.heap.size w X := ends_true b1 (ends_true b2 (ends_true b3 b4))
  have hn2 : IsNums .i64 W2 (fun b => b = w.heap.size + 1) (.slice (some ⟨w.heap.size + 1, 0, none⟩) 1 1) [0] := by
    rw [hW2, ← z1]
    exact nums_new W1 [0] (fun b => b = W1.heap.size) rfl (by decide)
  have HM0 := hid (show Mm X B db (.slice (some ⟨w.heap.size + 1 + 1, 0, none⟩) 1 1) (.slice none 0 0) (.slice none 0 0) (.slice none 0 0) (outB search s 0).1 (outB search s 0).2.1 (outB search s 0).2.2 [] from by
    simp only [outB]
    have hs3 : W3.heap[w.heap.size + 1 + 1]? = some (.cells #[.slice (some ⟨w.heap.size + 1, 0, none⟩) 1 1] 23 (0, 0)) := by rw [hW3, ← z2]; exact heap_alloc_new _ _
    have hsX : X.heap[w.heap.size + 1 + 1]? = some (.cells #[.slice (some ⟨w.heap.size + 1, 0, none⟩) 1 1] 23 (0, 0)) := (b4.block _ (by omega)).trans hs3
    refine ⟨by omega, by rw [hX, hdb, ← z3]; exact heap_alloc_new _ _, ⟨[.slice (some ⟨w.heap.size + 1, 0, none⟩) 1 1], ⟨rfl, .inr ⟨_, 1, _, rfl, by omega, hsX, Nat.le_refl _, by decide, rfl, rfl⟩⟩, ⟨rfl, fun j r hr => ?_⟩⟩, ⟨[], World.ownsRow_nil _ _ _ _, ⟨rfl, fun j r hr => by simp at hr⟩⟩, World.ownsRow_nil _ _ _ _, World.ownsRow_nil _ _ _ _, fun k hk => by cases hk⟩
    cases j with
    | succ j => simp at hr
    | zero =>
      obtain rfl : [0] = r := by simpa using hr
      refine ⟨_, rfl, ((hn2.below b3).below b4).mono fun b hb _ => ?_⟩
      subst hb
      refine ⟨by omega, fun e => ?_⟩
      rcases e with e | e | e | e | e
      · omega
      · simp [Value.ownBlock] at e
      · simp [Value.ownBlock] at e
      · simp [Value.ownBlock] at e
      · simp [Value.ownBlock] at e)
  have hRB : X.heap[w.heap.size]? = some (.cells #[.slice none 0 0, .slice none 0 0] 62 (0, 0)) := by
    have h1 : W1.heap[w.heap.size]? = some (.cells #[.slice none 0 0, .slice none 0 0] 62 (0, 0)) := by rw [hW1]; exact heap_alloc_new _ _
    exact (b4.block _ (by omega)).trans ((b3.block _ (by omega)).trans ((b2.block _ (by omega)).trans h1))
  have HRB := hid (show ∀ Y, Below B X Y → Y.heap[w.heap.size]? = some (.cells #[.slice none 0 0, .slice none 0 0] 62 (0, 0)) from fun Y hY => (hY.block w.heap.size (by omega)).trans hRB)
  have HBX := hid hBX
  have HBB := hid hBB
  have HZX := hid zX
  clear z1 z2 z3 zX hW1 hW2 hW3 hX b1 b2 b3 b4 hBX hn2 hRB hBB hdb
  go_loopw [5, 7] (fun s5 s7 wr => ∃ (i : Nat) (vs nv tv : Value), s7 = .int .i64 i ∧ s5 = vs ∧ i ≤ (outB search s i).1.length ∧ (outB search s i).1.length ≤ 120 ∧ Hid (Mm wr B db vs nv tv (.slice none 0 0) (outB search s i).1 (outB search s i).2.1 (outB search s i).2.2 []) ∧ Hid (∀ j, j < i → j < (outB search s j).1.length ∧ (outB search s (j + 1)).1.length ≤ 120) ∧ Hid (Below B X wr)) (fun _ s7 _ => 120 - (intOf s7).toNat)
  case atStart => exact ⟨0, _, _, _, rfl, rfl, Nat.zero_le _, by simp [outB], HM0, hid (fun j hj => by omega), hid (Below.refl _ _)⟩
  case round =>
    clear HM0
    obtain ⟨i, vs, nv, tv, rfl, evs, hi, h120, HM, HP, HB⟩ := hrel
    subst evs
    have HOL := hid (outB_len search s i)
    have HSUC := hid (show outB search s (i + 1) = (setsTo search s ((outB search s i).1[i]?.getD []) (outB search s i).1 37, (outB search s i).2.1 ++ [rowTo search s ((outB search s i).1[i]?.getD []) (outB search s i).1 37], (outB search s i).2.2 ++ [((tellsB s ((outB search s i).1[i]?.getD []) : Nat) : Int)]) by rw [outB])
    have HFIT := hid (outB_fit (search := search) HGD.out i)
    have HFIN := hid (show i = (outB search s i).1.length → ∀ v w', IsD w' (fun b => w.heap.size ≤ b) v ⟨(outB search s i).2.1, (outB search s i).2.2⟩ → (∃ n, n ≤ 120 ∧ (∀ i, i < n → i < (outB search s i).1.length ∧ (outB search s (i + 1)).1.length ≤ 120) ∧ n = (outB search s n).1.length ∧ ∃ u, Ending.returned v = .returned u ∧ IsD w' (fun b => w.heap.size ≤ b) u ⟨(outB search s n).2.1, (outB search s n).2.2⟩) from fun he v w' hv => ⟨i, by omega, HP.out, he, v, rfl, hv⟩)
    have HOUT := hid (show i < (outB search s i).1.length → 120 < (outB search s (i + 1)).1.length → ∃ n, (∀ i, i < n → i < (outB search s i).1.length ∧ (outB search s (i + 1)).1.length ≤ 120) ∧ n < (outB search s n).1.length ∧ 120 < (outB search s (n + 1)).1.length from fun h1 h2 => ⟨i, HP.out, h1, h2⟩)
    obtain ⟨sets, hsets⟩ : ∃ x, x = (outB search s i).1 := ⟨_, rfl⟩
    obtain ⟨rows, hrows⟩ : ∃ x, x = (outB search s i).2.1 := ⟨_, rfl⟩
    obtain ⟨tells, htells⟩ : ∃ x, x = (outB search s i).2.2 := ⟨_, rfl⟩
    rw [← hsets] at hi h120
    rw [← hsets, ← hrows, ← htells] at HM HSUC
    rw [← hrows, ← htells] at HOL
    rw [← hsets] at HFIT
    have HSE := hid hsets
    have HRE := hid hrows
    have HTE := hid htells
    obtain ⟨A5, c5, rfl⟩ := HM.out.isSets.form
    have HSZ : B ≤ wr.heap.size := by have := HM.out.base; have := (HM.out.lt db (.inl rfl)).2; omega
    clear hsets hrows htells
    by_cases hlt : i < sets.length
    · obtain ⟨cur, hcur⟩ : ∃ x, x = sets[i]?.getD [] := ⟨_, rfl⟩
      have hgi : sets[i]? = some cur := by rw [hcur, List.getElem?_eq_getElem hlt]; rfl
      rw [← hcur] at HSUC
      have HGI := hid hgi
      clear hcur hgi
      go_wp2_with fail
      obtain ⟨wo, hwo⟩ : ∃ wo, wo = wr := ⟨_, rfl⟩
      subst hwo
      go_loopw [5, 8, 9] (fun s5 s8 s9 wk => ∃ (j : Nat) (vk rk : Value), j ≤ 37 ∧ s9 = .int .i64 j ∧ s5 = vk ∧ s8 = rk ∧ (setsTo search s cur sets j).length ≤ 120 ∧ Hid (Mm wk B db vk nv tv rk (setsTo search s cur sets j) rows tells (rowTo search s cur sets j)) ∧ Hid (Below B wo wk)) (fun _ _ s9 _ => 37 - (intOf s9).toNat)
      case atStart => exact ⟨0, _, _, by omega, rfl, rfl, rfl, h120, HM, hid (Below.refl _ _)⟩
      case round =>
        clear HM
        obtain ⟨j, vk, rk, hj, rfl, e5, e8, hj120, HM, HK⟩ := hrel
        subst e5 e8
        have HWB := hid (show Below w.heap.size w wr from HBX.out.trans ((HB.out.trans HK.out).mono (by have := HBB.out; omega)))
        have HKZ : B ≤ wr.heap.size := by have := HM.out.base; have := (HM.out.lt db (.inl rfl)).2; omega
        have HXB := hid (HB.out.trans HK.out)
        by_cases hj37 : j < 37
        · obtain ⟨us, hus, hu⟩ := HM.out.sets
          have HUS := hid hus
          have HU := hid hu
          obtain ⟨A, c, rfl, -, -, harr⟩ := own_arr hus
          obtain ⟨u, hu1, hu2⟩ := hu.2 i cur (setsTo_get HGI.out j)
          obtain ⟨bs, os, rfl, -, -, m0⟩ := harr.at hu1
          have HCUR := hid (show IsNums .i64 wr Any u cur from hu2.mono fun _ _ _ => trivial)
          obtain ⟨n, hn⟩ : ∃ n, n = (setsTo search s cur sets j).length := ⟨_, rfl⟩
          have HN := hid hn
          have hin : i < n := by rw [hn]; exact Nat.lt_of_lt_of_le hlt (setsTo_len (search := search) (s := s) (cur := cur) (sets := sets) j).2
          have HAT := hid (show ∀ Y, Below wr.heap.size wr Y → ∀ k, k < n → ∃ u, Y.cell? ⟨bs, os + k, none⟩ = some u ∧ IsNums .i64 Y Any u ((setsTo search s cur sets j)[k]?.getD []) from fun Y hY k hk => by
            rw [hn] at hk
            obtain ⟨v, k1, k2⟩ := hu.2 k _ (List.getElem?_eq_getElem hk)
            obtain ⟨b', o', e', -, hl', m'⟩ := harr.at k1
            obtain ⟨rfl, rfl⟩ : bs = b' ∧ os = o' := by simpa using e'
            refine ⟨v, (World.cell?_of_block (a := ⟨bs, os + k, none⟩) (hY.block bs hl')).trans m', ?_⟩
            rw [List.getElem?_eq_getElem hk]
            exact (k2.mono fun _ _ _ => trivial).below hY)
          have HMN := hid (show Mm wr B db (.slice (some ⟨bs, os, none⟩) n c) nv tv u8 (setsTo search s cur sets j) rows tells (rowTo search s cur sets j) by rw [hn]; exact HM.out)
          have HL9 := hid (show (rowTo search s cur sets j).length ≤ 1000000 by rw [rowTo_len]; omega)
          rw [← hn] at HUS hj120 ⊢
          clear hus hu harr hu1 hu2 hn
          go_wp2_with fail
          refine (ref_step HF.out (HR.out.below HWB.out) HCUR.out).mono ?_
          rintro e w8 ⟨v8, rfl, hv, hb⟩
          rw [← HSD.out] at hv
          obtain ⟨t, ht⟩ : ∃ t, t = stepB search s (j : Int) cur := ⟨_, rfl⟩
          rw [← ht] at hv
          have HT := hid ht
          have HV8 := hid hv
          have HB8 := hid hb
          obtain ⟨TA, tc, rfl⟩ := hv.form
          have HFT := hid (show Fit t by rw [ht]; exact step_fit HGD.out)
          clear hv hb ht m0
          go_wp2_with fail
          obtain ⟨wi, hwi⟩ : ∃ wi, wi = wr := ⟨_, rfl⟩
          subst hwi
          go_loopw [11] (fun s11 wk => ∃ (k : Nat), k ≤ n ∧ s11 = .int .i64 k ∧ Hid (∀ q, q < k → (setsTo search s cur sets j)[q]? ≠ some t) ∧ Hid (Below w8.heap.size w8 wk)) (fun s11 _ => n - (intOf s11).toNat)
          case atStart => exact ⟨0, by omega, rfl, hid (fun q hq => by omega), hid (Below.refl _ _)⟩
          case round =>
            obtain ⟨k, hk, rfl, HNO, HB9⟩ := hrel
            by_cases hkn : k < n
            · obtain ⟨v, m1, hv1⟩ := HAT.out _ (ends_true HB8.out HB9.out) k hkn
              have HV1 := hid hv1
              obtain ⟨VA, vc, rfl⟩ := hv1.form
              obtain ⟨y, hy⟩ : ∃ y, y = (setsTo search s cur sets j)[k]?.getD [] := ⟨_, rfl⟩
              rw [← hy] at HV1 m1
              have HY := hid hy
              clear hv1 hy
              by_cases he : y = t
              · have HE := hid he
                clear he
                go_wp2_with fail
                refine (f52_any _ _ _ _ y t _ HV1.out (HV8.out.below HB9.out)).mono ?_
                rintro e w9 ⟨rfl, n1, rfl⟩
                rw [decide_eq_true HE.out]
                have HB10 := hid (ends_true HB8.out (ends_true HB9.out (show Below _ _ (wr.drewN n1) from ⟨rfl, rfl, rfl, Nat.le_refl _, fun _ _ => rfl⟩)))
                have HM9 := hid (HMN.out.below HB10.out)
                have hk2 : k < (setsTo search s cur sets j).length := by rw [← HN.out]; exact hkn
                have hnx := next_old HNO.out (show (setsTo search s cur sets j)[k]? = some t from by
                  have h := List.getElem?_eq_getElem hk2
                  have e := HY.out
                  rw [h, Option.getD_some] at e
                  rw [h, ← e, HE.out]) HT.out
                have HN1 := hid hnx.1
                have HN2 := hid hnx.2
                have HZ9 := hid (Nat.le_trans HKZ HB10.out.size)
                clear hk2 hnx
                go_wp2_with (first
                  | (at_builtin; refine wpList_app_one rfl (.tmp 58) (.tmp 60) rfl (w0 := wr.drewN n1) (z := (k : Int)) rfl rfl HM9.out.row rfl HL9.out HZ9.out ?_
                     intro A7 c7 w7 ho7 hg7 hv7
                     have HA7 := hid (HM9.out.addNum rfl ho7 hg7 hv7)
                     clear ho7 hg7 hv7)
                  | fail)
                refine ⟨⟨j + 1, _, _, by omega, by go_num, rfl, rfl, by rw [HN1.out, ← HN.out]; exact hj120, hid (by rw [HN1.out, HN2.out]; exact HA7.out.1), hid (HK.out.trans ((HB10.out.mono HKZ).trans HA7.out.2))⟩, by simp [intOf]; omega⟩
              · have HE := hid he
                have HNO2 := hid (show ∀ q, q < k + 1 → (setsTo search s cur sets j)[q]? ≠ some t from fun q hq e => by
                  by_cases hqk : q < k
                  · exact HNO.out q hqk e
                  · obtain rfl : q = k := by omega
                    rw [e] at HY
                    exact HE.out HY.out)
                clear he
                go_wp2_with fail
                refine (f52_any _ _ _ _ y t _ HV1.out (HV8.out.below HB9.out)).mono ?_
                rintro e w9 ⟨rfl, n1, rfl⟩
                rw [decide_eq_false HE.out]
                have HB10 := hid (ends_true HB9.out (show Below _ _ (wr.drewN n1) from ⟨rfl, rfl, rfl, Nat.le_refl _, fun _ _ => rfl⟩))
                go_wp2_with fail
                refine ⟨⟨k + 1, by omega, by go_num, HNO2, HB10⟩, by simp [intOf]; omega⟩
            · obtain rfl : k = n := by omega
              have HB10 := hid (ends_true HB8.out HB9.out)
              have HM9 := hid (HMN.out.below HB10.out)
              have hnx := next_new (search := search) (s := s) (cur := cur) (sets := sets) (j := j) (t := t) (by rw [← HN.out]; exact HNO.out) HT.out
              have HN1 := hid hnx.1
              have HN2 := hid (show rowTo search s cur sets (j + 1) = rowTo search s cur sets j ++ [(k : Int)] by rw [hnx.2, ← HN.out])
              have HN3 := hid (show (setsTo search s cur sets (j + 1)).length = k + 1 by rw [hnx.1, List.length_append, ← HN.out]; rfl)
              obtain ⟨us9, hus9, hu9⟩ := HM9.out.sets
              have HUS9 := hid (show wr.ownsRow B 23 1 (.slice (some ⟨bs, os, none⟩) k c) k us9 by have h := hus9; rwa [← HN.out] at h)
              have HT9 := hid (show IsNums .i64 wr (fun b => B ≤ b ∧ ¬ T9 db (.slice (some ⟨bs, os, none⟩) k c) nv tv u8 b) (.slice TA t.length tc) t from (HV8.out.below HB9.out).mono fun b hb _ => by
                have hb' : wi.heap.size ≤ b := hb
                exact ⟨Nat.le_trans HKZ hb', fun e => by have := (HMN.out.lt b e).2; omega⟩)
              have HADD := hid (show ∀ A6 c6 w6, w6.ownsRow B 23 1 (.slice A6 (k + 1) c6) (k + 1) (us9 ++ [.slice TA t.length tc]) → (wr.alloc (.cells #[.slice TA t.length tc] 23)).grownBy w6 (Value.slice (some ⟨bs, os, none⟩) k c).ownBlock → ((Value.slice A6 (k + 1) c6).ownBlock = (Value.slice (some ⟨bs, os, none⟩) k c).ownBlock ∨ (Value.slice A6 (k + 1) c6).ownBlock = some (wr.alloc (.cells #[.slice TA t.length tc] 23)).heap.size) → Mm w6 B db (.slice A6 (k + 1) c6) nv tv u8 (setsTo search s cur sets (j + 1)) rows tells (rowTo search s cur sets j) ∧ Below B wr w6 from fun A6 c6 w6 h1 h2 h3 => by
                rw [HN1.out]
                exact HM9.out.addSet hus9 hu9 HT9.out rfl (by rw [← HN.out]; exact h1) h2 h3)
              have HZ9 := hid (Nat.le_trans HKZ HB10.out.size)
              have HXB9 := hid (HXB.out.trans (HB10.out.mono HKZ))
              clear hnx hus9 hu9
              by_cases hge : 120 ≤ k
              · go_wp2_with (first
                  | (at_builtin; refine wpList_app_set rfl (.tmp 50) (.tmp 52) rfl (w0 := wr) rfl rfl HUS9.out rfl (by omega) HZ9.out ?_
                     intro A6 c6 w6 ho6 hg6 hv6
                     have HA6 := hid (HADD.out A6 c6 w6 ho6 hg6 hv6)
                     have HR6 := hid (HRB.out w6 (HXB9.out.trans HA6.out.2))
                     obtain ⟨z0, z1, zf⟩ := slot2 HR6.out
                     have zf0 := zf 0
                     have zf1 := zf 1
                     clear ho6 hg6 hv6 zf)
                  | fail)
                have hp := heap_setCell_same _ w.heap.size 1 _ _ (.slice none 0 0) (heap_setCell_same w6 w.heap.size 0 _ _ (.slice none 0 0) HR6.out)
                obtain ⟨c0, c1, -⟩ := slot2 hp
                have e9 := HBB.out
                obtain ⟨n', q1, q2, q3⟩ := HOUT.out (by rw [← HSE.out]; exact hlt) (by
                  have hs1 : (outB search s (i + 1)).1 = setsTo search s cur sets 37 := by rw [HSUC.out]
                  rw [hs1]
                  exact big_next HN3.out hj37 hge)
                refine bodyPost_ret (v := .agg #[.slice none 0 0, .slice none 0 0]) (by simp [results, Try.results30, go_sem, c0, c1]) rfl ⟨?_, .inr ⟨n', q1, q2, q3, rfl⟩⟩
                exact ((HBX.out.trans ((HXB9.out.trans HA6.out.2).mono (show w.heap.size ≤ B by omega))).setCell (p := ⟨w.heap.size, 0, none⟩) (Nat.le_refl _) _).setCell (p := ⟨w.heap.size, 1, none⟩) (Nat.le_refl _) _
              · go_wp2_with (first
                  | (at_builtin; refine wpList_app_set rfl (.tmp 50) (.tmp 52) rfl (w0 := wr) rfl rfl HUS9.out rfl (by omega) HZ9.out ?_
                     intro A6 c6 w6 ho6 hg6 hv6
                     have HA6 := hid (HADD.out A6 c6 w6 ho6 hg6 hv6)
                     have HZ6 := hid (Nat.le_trans HZ9.out HA6.out.2.size)
                     clear ho6 hg6 hv6)
                  | (at_builtin; refine wpList_app_one rfl (.tmp 58) (.tmp 60) rfl (w0 := w6) (z := (k : Int)) rfl rfl HA6.out.1.row rfl HL9.out HZ6.out ?_
                     intro A7 c7 w7 ho7 hg7 hv7
                     have HA7 := hid (HA6.out.1.addNum rfl ho7 hg7 hv7)
                     clear ho7 hg7 hv7)
                  | fail)
                refine ⟨⟨j + 1, _, _, by omega, by go_num, rfl, rfl, by rw [HN3.out]; omega, hid (by rw [HN2.out]; exact HA7.out.1), hid (HK.out.trans ((HB10.out.mono HKZ).trans (HA6.out.2.trans HA7.out.2)))⟩, by simp [intOf]; omega⟩
        · obtain rfl : j = 37 := by omega
          obtain ⟨ur, hur, hr⟩ := HM.out.rows
          obtain ⟨NA, nc, rfl, -⟩ := own_arr hur
          obtain ⟨TA, tc, rfl, -⟩ := own_arr HM.out.tells
          obtain ⟨RA, rc, rfl, -⟩ := own_arr HM.out.row
          obtain ⟨tz, htz⟩ : ∃ tz, tz = tellsB s cur := ⟨_, rfl⟩
          have HTZ := hid htz
          have HUR := hid hur
          have HRW := hid hr
          have HLR := hid (show rows.length ≤ 1000000 by have := HOL.out.1; omega)
          have HLT := hid (show tells.length ≤ 1000000 by have := HOL.out.2; omega)
          have HRN := hid (own_rowN HM.out.row)
          have HKD := hid (show ∀ Y, (wr.alloc (.cells #[.slice RA (rowTo search s cur sets 37).length rc] 23)).grownBy Y (Value.slice NA rows.length nc).ownBlock → Y.heap[db]? = some (.cells #[.slice NA rows.length nc, .slice TA tells.length tc] 62 (0, 0)) from fun Y hg => (kept_one rfl hg db (Array.getElem?_eq_some_iff.1 HM.out.cell).1 (own_blk_ne hur HM.out.cell (by decide))).trans HM.out.cell)
          obtain ⟨d0, d1, -⟩ := slot2 HM.out.cell
          have hdlt : db < wr.heap.size := (HM.out.lt db (.inl rfl)).2
          have dx := hid (show ∀ o : Obj, (wr.alloc o).cell? ⟨db, 0, none⟩ = some (.slice NA rows.length nc) from fun o => (((Below.refl wr.heap.size wr).alloc (Nat.le_refl _) o).cell (p := ⟨db, 0, none⟩) hdlt).trans d0)
          clear hur hr htz hdlt
          go_wp2_with (first
            | (at_builtin; refine wpList_app_set rfl (.tmp 63) (.tmp 65) rfl (w0 := wr) rfl rfl HUR.out rfl HLR.out HKZ ?_
               intro A7 c7 w7 ho7 hg7 hv7
               have HO7 := hid ho7
               have HG7 := hid hg7
               have HV7 := hid hv7
               have HD7 := hid (HKD.out w7 hg7)
               obtain ⟨y0, y1, yf⟩ := slot2 HD7.out
               have yf0 := yf 0
               clear ho7 hg7 hv7 yf)
            | fail)
          obtain ⟨w8, hw8⟩ : ∃ w8, w8 = w7.setCell ⟨db, 0, none⟩ (.slice A7 (rows.length + 1) c7) := ⟨_, rfl⟩
          have h8 := HM.out.addRow HUR.out HRW.out HRN.out rfl HO7.out HG7.out HV7.out hw8
          have HM8 := hid h8.1
          have HB8 := hid h8.2
          rw [← hw8]
          clear hw8 h8
          obtain ⟨us, hus, hu⟩ := HM8.out.sets
          obtain ⟨A, c, rfl, -, -, harr⟩ := own_arr hus
          obtain ⟨u, hu1, hu2⟩ := hu.2 i cur (setsTo_get HGI.out 37)
          obtain ⟨bs, os, rfl, -, hbl, m0⟩ := harr.at hu1
          obtain ⟨UA, uc, rfl⟩ := hu2.form
          have HCV := hid (show IsNums .i64 w8 Any _ cur from hu2.mono fun _ _ _ => trivial)
          obtain ⟨cs, hcs⟩ := own_blk hus rfl
          have hbd : bs ≠ db := cells_ne hcs HM8.out.cell (by decide)
          have hbt : (Value.slice TA tells.length tc).ownBlock ≠ some bs := own_blk_ne HM8.out.tells hcs (by decide)
          have HKS := hid (show ∀ Y : World, (∀ x, x < w8.heap.size → x ≠ db → (Value.slice TA tells.length tc).ownBlock ≠ some x → Y.heap[x]? = w8.heap[x]?) → Y.cell? ⟨bs, os + i, none⟩ = some (.slice UA cur.length uc) from fun Y hY => (World.cell?_of_block (a := ⟨bs, os + i, none⟩) (hY bs hbl hbd hbt)).trans m0)
          have hilen : i < (setsTo search s cur sets 37).length := Nat.lt_of_lt_of_le hlt (setsTo_len (search := search) (s := s) (cur := cur) (sets := sets) 37).2
          have HW8 := hid (HWB.out.trans (HB8.out.mono (show w.heap.size ≤ B by have := HBB.out; omega)))
          obtain ⟨p0, p1, -⟩ := slot2 HM8.out.cell
          clear hus hu harr hu1 hu2 hcs hbd hbt hbl m0
          go_wp2_with fail
          refine wp_region_held_drew (S := (fun Y => Y.cell? ⟨bs, os + i, none⟩ = some (.slice UA cur.length uc))) (by kernel_rfl) (by exact HKS.out w8 (fun _ _ _ _ => rfl)) (fun hHeld => ?_)
          refine wpAnyH_take (i := 0) (oi := { dst := some 68, op := Op.fieldAddr 62 (Operand.tmp 6) 1, type := _, pos := _, after := _, guard := none }) (v := ?_) rfl (by kernel_rfl) (by kernel_rfl) (by kernel_rfl) (fun _ _ _ h => h) (Or.inl ⟨by rfl, ?_⟩) (by assumption) ?_
          rotate_left
          · intro w hSw; (try dsimp only at hSw); go_simp; try with_reducible rfl
          try simp only [Act.put, List.setIfInBounds_toArray, List.set_cons_zero, List.set_cons_succ]
          refine wpAnyH_take (i := 2) (oi := { dst := some 70, op := Op.move (Operand.tmp 0), type := _, pos := _, after := _, guard := none }) (v := ?_) rfl (by kernel_rfl) (by kernel_rfl) (by kernel_rfl) (fun _ _ _ h => h) (Or.inl ⟨by rfl, ?_⟩) (by assumption) ?_
          rotate_left
          · intro w hSw; (try dsimp only at hSw); go_simp; try with_reducible rfl
          try simp only [Act.put, List.setIfInBounds_toArray, List.set_cons_zero, List.set_cons_succ]
          refine wpAnyH_take (i := 3) (oi := { dst := some 71, op := Op.move (Operand.tmp 5), type := _, pos := _, after := _, guard := none }) (v := ?_) rfl (by kernel_rfl) (by kernel_rfl) (by kernel_rfl) (fun _ _ _ h => h) (Or.inl ⟨by rfl, ?_⟩) (by assumption) ?_
          rotate_left
          · intro w hSw; (try dsimp only at hSw); go_simp; try with_reducible rfl
          try simp only [Act.put, List.setIfInBounds_toArray, List.set_cons_zero, List.set_cons_succ]
          refine wpAnyH_take (i := 4) (oi := { dst := some 72, op := Op.move (Operand.tmp 7), type := _, pos := _, after := _, guard := none }) (v := ?_) rfl (by kernel_rfl) (by kernel_rfl) (by kernel_rfl) (fun _ _ _ h => h) (Or.inl ⟨by rfl, ?_⟩) (by assumption) ?_
          rotate_left
          · intro w hSw; (try dsimp only at hSw); go_simp; try with_reducible rfl
          try simp only [Act.put, List.setIfInBounds_toArray, List.set_cons_zero, List.set_cons_succ]
          refine wpAnyH_take (i := 5) (oi := { dst := some 73, op := Op.indexAddr 56 (Operand.tmp 71) (Operand.tmp 72), type := _, pos := _, after := _, guard := none }) (v := ?_) rfl (by kernel_rfl) (by kernel_rfl) (by kernel_rfl) (fun _ _ _ h => h) (Or.inl ⟨by rfl, ?_⟩) (by assumption) ?_
          rotate_left
          · intro w hSw; (try dsimp only at hSw); go_simp; try with_reducible rfl
          try simp only [Act.put, List.setIfInBounds_toArray, List.set_cons_zero, List.set_cons_succ]
          refine wpAnyH_take (i := 6) (oi := { dst := some 74, op := Op.load 23 (Operand.tmp 73), type := _, pos := _, after := _, guard := none }) (v := ?_) rfl (by kernel_rfl) (by kernel_rfl) (by kernel_rfl) (fun _ _ _ h => h) (Or.inl ⟨by rfl, ?_⟩) (by assumption) ?_
          rotate_left
          · intro w hSw; (try dsimp only at hSw); go_simp; try with_reducible rfl
          try simp only [Act.put, List.setIfInBounds_toArray, List.set_cons_zero, List.set_cons_succ]
          refine wpAnyH_ready (rs := [1, 7]) (by kernel_rfl) (by simp) ?_
          refine AllReadyH.cons (o := { dst := some 69, op := Op.load 57 (Operand.tmp 68), type := _, pos := _, after := _, guard := none }) rfl ?legA1n1 (AllReadyH.cons (o := { dst := some 75, op := Op.call { callee := Callee.value (Operand.func 23), args := #[Operand.tmp 70, Operand.tmp 74], argTypes := #[32, 23] }, type := _, pos := _, after := _, guard := none }) rfl ?legB1n1 AllReadyH.nil)
          case' legA1n1 =>
            intro K hK
            go_simp
            refine hK.out _ _ (by first | exact HKS.out _ (fun _ _ _ _ => rfl) | exact HSX9.out _ | exact HS9.out) (fun hHeld => ?_)
            clear hK K
            try simp only [Act.put, List.setIfInBounds_toArray, List.set_cons_zero, List.set_cons_succ]
            refine wpAnyH_ready (rs := [7]) (by kernel_rfl) (by simp) ?_
            refine AllReadyH.cons (o := { dst := some 75, op := Op.call { callee := Callee.value (Operand.func 23), args := #[Operand.tmp 70, Operand.tmp 74], argTypes := #[32, 23] }, type := _, pos := _, after := _, guard := none }) rfl (fun K hK => ?_) AllReadyH.nil
            go_simp
            refine (ref_tells HF.out (HR.out.below HW8.out.drew) (HCV.out.below (Below.refl w8.heap.size w8).drew)).mono ?_; rintro e w9 ⟨rfl, hb9⟩; rw [← HSD.out, ← HTZ.out]; have HB9 := hid ((Below.refl w8.heap.size w8).drew.trans hb9); have HM9 := hid (HM8.out.below HB9.out); have HS9 := hid (HKS.out w9 (fun x hx _ _ => HB9.out.block x hx)); have HSX9 := hid (fun (o : Obj) => HKS.out (w9.alloc o) (fun x hx _ _ => (heap_alloc_old _ _ (Nat.lt_of_lt_of_le hx HB9.out.size)).trans (HB9.out.block x hx))); obtain ⟨r0, r1, -⟩ := slot2 HM9.out.cell; have HPX9 := hid (fun (o : Obj) => ((Below.refl w9.heap.size w9).alloc (Nat.le_refl _) o).cell (p := ⟨db, 1, none⟩) (show db < w9.heap.size from (HM9.out.lt db (.inl rfl)).2)); clear hb9; go_wp2_with fail
            refine hK.out _ _ (by exact HS9.out) (fun hHeld => ?_)
            clear hK K
            try simp only [Act.put, List.setIfInBounds_toArray, List.set_cons_zero, List.set_cons_succ]
            refine wpAnyH_ready (rs := [8]) (by kernel_rfl) (by simp) ?_
            refine AllReadyH.cons (o := { dst := some 76, op := Op.buildSlice 57 1 #[(0, Operand.tmp 75)], type := _, pos := _, after := _, guard := none }) rfl (fun K hK => ?_) AllReadyH.nil
            go_simp
            have rx := (HPX9.out (.cells #[.int .u64 (tz : Int)] 37)).trans r1
            refine hK.out _ _ (by exact HSX9.out _) (fun hHeld => ?_)
            clear hK K
            try simp only [Act.put, List.setIfInBounds_toArray, List.set_cons_zero, List.set_cons_succ]
            refine wpAnyH_ready (rs := [9]) (by kernel_rfl) (by simp) ?_
            refine AllReadyH.cons (o := { dst := some 77, op := Op.call { callee := Callee.builtin Builtin.append, args := #[Operand.tmp 69, Operand.tmp 76], argTypes := #[57, 57] }, type := _, pos := _, after := _, guard := none }) rfl (fun K hK => ?_) AllReadyH.nil
            rw [if_pos (by rfl)]
            refine wp_app_tl (.tmp 69) (.tmp 76) rfl (w0 := w9) (z := (tz : Int)) rfl rfl HM9.out.tells rfl HLT.out (Nat.le_trans HKZ (Nat.le_trans HB8.out.size HB9.out.size)) ?_
            intro A10 c10 w10 ho10 hg10 hv10
            have HO10 := hid ho10
            have HG10 := hid hg10
            have HV10 := hid hv10
            have HD10 := hid ((kept_one rfl hg10 db (HM9.out.lt db (.inl rfl)).2 (own_blk_ne HM9.out.tells HM9.out.cell (by decide))).trans HM9.out.cell)
            have HS10 := hid (HKS.out w10 (fun x h1 h2 h3 => (kept_one rfl HG10.out x (Nat.lt_of_lt_of_le h1 HB9.out.size) h3).trans (HB9.out.block x h1)))
            have HS11 := hid (HKS.out (w10.setCell ⟨db, 1, none⟩ (.slice A10 (tells.length + 1) c10)) (fun x h1 h2 h3 => (heap_setCell_other _ _ _ _ h2).trans ((kept_one rfl HG10.out x (Nat.lt_of_lt_of_le h1 HB9.out.size) h3).trans (HB9.out.block x h1))))
            obtain ⟨t0, t1, tf⟩ := slot2 HD10.out
            have tf1 := tf 1
            clear ho10 hg10 hv10 tf
            refine hK.out _ _ (by exact HS10.out) (fun hHeld => ?_)
            clear hK K
            try simp only [Act.put, List.setIfInBounds_toArray, List.set_cons_zero, List.set_cons_succ]
            refine wpAnyH_take (i := 10) (oi := { dst := some 78, op := Op.fieldAddr 62 (Operand.tmp 6) 1, type := _, pos := _, after := _, guard := none }) (v := ?_) rfl (by kernel_rfl) (by kernel_rfl) (by kernel_rfl) (fun _ _ _ h => h) (Or.inl ⟨by rfl, ?_⟩) (by assumption) ?_
            rotate_left
            · intro w hSw; (try dsimp only at hSw); go_simp; try with_reducible rfl
            try simp only [Act.put, List.setIfInBounds_toArray, List.set_cons_zero, List.set_cons_succ]
            refine wpAnyH_ready (rs := [11]) (by kernel_rfl) (by simp) ?_
            refine AllReadyH.cons (o := { dst := none, op := Op.store 57 (Operand.tmp 78) (Operand.tmp 77), type := _, pos := _, after := _, guard := none }) rfl (fun K hK => ?_) AllReadyH.nil
            go_simp
            refine hK.out _ _ (by exact HS11.out) (fun hHeld => ?_)
            clear hK K
            try simp only [Act.put, List.setIfInBounds_toArray, List.set_cons_zero, List.set_cons_succ]
            refine wpAnyH_done (by kernel_rfl) ?_ _
            obtain ⟨w11, hw11⟩ : ∃ w11, w11 = w10.setCell ⟨db, 1, none⟩ (.slice A10 (tells.length + 1) c10) := ⟨_, rfl⟩
            have h11 := HM9.out.addTell rfl HO10.out HG10.out HV10.out hw11
            have HM11 := hid h11.1
            have HB11 := hid (HB.out.trans (HK.out.trans (HB8.out.trans ((HB9.out.mono (Nat.le_trans HKZ HB8.out.size)).trans h11.2))))
            rw [← hw11]
            clear hw11 h11 t0 t1 tf1 y0 y1 yf0 d0 d1 r0 r1
            try clear rx
            have hs1 : (outB search s (i + 1)).1 = setsTo search s cur sets 37 := by rw [HSUC.out]
            have hs2 : (outB search s (i + 1)).2.1 = rows ++ [rowTo search s cur sets 37] := by rw [HSUC.out]
            have hs3 : (outB search s (i + 1)).2.2 = tells ++ [(tz : Int)] := by rw [HSUC.out, HTZ.out]
            have HQ1 := hid (show i + 1 ≤ (outB search s (i + 1)).1.length by rw [hs1]; exact up_next hlt)
            have HQ2 := hid (show (outB search s (i + 1)).1.length ≤ 120 by rw [hs1]; exact hj120)
            have HQ3 := hid (show Mm w11 B db (.slice (some ⟨bs, os, none⟩) (setsTo search s cur sets 37).length c) (.slice A7 (rows.length + 1) c7) (.slice A10 (tells.length + 1) c10) (.slice none 0 0) (outB search s (i + 1)).1 (outB search s (i + 1)).2.1 (outB search s (i + 1)).2.2 [] by
              rw [hs1, hs2, hs3]
              exact HM11.out)
            have HQ4 := hid (show ∀ q, q < i + 1 → q < (outB search s q).1.length ∧ (outB search s (q + 1)).1.length ≤ 120 from fun q hq => by
              by_cases hqi : q < i
              · exact HP.out q hqi
              · obtain rfl : q = i := by omega
                exact ⟨by rw [← HSE.out]; exact hlt, HQ2.out⟩)
            clear hs1 hs2 hs3 HSUC HM11 HP
            go_wp2_with fail
            exact ⟨⟨i + 1, _, _, _, by go_num, rfl, HQ1.out, HQ2.out, HQ3, HQ4, HB11⟩, by simp [intOf]; omega⟩
          case' legB1n1 =>
            intro K hK
            go_simp
            refine (ref_tells HF.out (HR.out.below HW8.out.drew) (HCV.out.below (Below.refl w8.heap.size w8).drew)).mono ?_; rintro e w9 ⟨rfl, hb9⟩; rw [← HSD.out, ← HTZ.out]; have HB9 := hid ((Below.refl w8.heap.size w8).drew.trans hb9); have HM9 := hid (HM8.out.below HB9.out); have HS9 := hid (HKS.out w9 (fun x hx _ _ => HB9.out.block x hx)); have HSX9 := hid (fun (o : Obj) => HKS.out (w9.alloc o) (fun x hx _ _ => (heap_alloc_old _ _ (Nat.lt_of_lt_of_le hx HB9.out.size)).trans (HB9.out.block x hx))); obtain ⟨r0, r1, -⟩ := slot2 HM9.out.cell; have HPX9 := hid (fun (o : Obj) => ((Below.refl w9.heap.size w9).alloc (Nat.le_refl _) o).cell (p := ⟨db, 1, none⟩) (show db < w9.heap.size from (HM9.out.lt db (.inl rfl)).2)); clear hb9; go_wp2_with fail
            refine hK.out _ _ (by exact HS9.out) (fun hHeld => ?_)
            clear hK K
            try simp only [Act.put, List.setIfInBounds_toArray, List.set_cons_zero, List.set_cons_succ]
            refine wpAnyH_ready (rs := [1, 8]) (by kernel_rfl) (by simp) ?_
            refine AllReadyH.cons (o := { dst := some 69, op := Op.load 57 (Operand.tmp 68), type := _, pos := _, after := _, guard := none }) rfl ?legA1n1bn2 (AllReadyH.cons (o := { dst := some 76, op := Op.buildSlice 57 1 #[(0, Operand.tmp 75)], type := _, pos := _, after := _, guard := none }) rfl ?legB1n1bn2 AllReadyH.nil)
            case' legA1n1bn2 =>
              intro K hK
              go_simp
              refine hK.out _ _ (by first | exact HKS.out _ (fun _ _ _ _ => rfl) | exact HSX9.out _ | exact HS9.out) (fun hHeld => ?_)
              clear hK K
              try simp only [Act.put, List.setIfInBounds_toArray, List.set_cons_zero, List.set_cons_succ]
              refine wpAnyH_ready (rs := [8]) (by kernel_rfl) (by simp) ?_
              refine AllReadyH.cons (o := { dst := some 76, op := Op.buildSlice 57 1 #[(0, Operand.tmp 75)], type := _, pos := _, after := _, guard := none }) rfl (fun K hK => ?_) AllReadyH.nil
              go_simp
              have rx := (HPX9.out (.cells #[.int .u64 (tz : Int)] 37)).trans r1
              refine hK.out _ _ (by exact HSX9.out _) (fun hHeld => ?_)
              clear hK K
              try simp only [Act.put, List.setIfInBounds_toArray, List.set_cons_zero, List.set_cons_succ]
              refine wpAnyH_ready (rs := [9]) (by kernel_rfl) (by simp) ?_
              refine AllReadyH.cons (o := { dst := some 77, op := Op.call { callee := Callee.builtin Builtin.append, args := #[Operand.tmp 69, Operand.tmp 76], argTypes := #[57, 57] }, type := _, pos := _, after := _, guard := none }) rfl (fun K hK => ?_) AllReadyH.nil
              rw [if_pos (by rfl)]
              refine wp_app_tl (.tmp 69) (.tmp 76) rfl (w0 := w9) (z := (tz : Int)) rfl rfl HM9.out.tells rfl HLT.out (Nat.le_trans HKZ (Nat.le_trans HB8.out.size HB9.out.size)) ?_
              intro A10 c10 w10 ho10 hg10 hv10
              have HO10 := hid ho10
              have HG10 := hid hg10
              have HV10 := hid hv10
              have HD10 := hid ((kept_one rfl hg10 db (HM9.out.lt db (.inl rfl)).2 (own_blk_ne HM9.out.tells HM9.out.cell (by decide))).trans HM9.out.cell)
              have HS10 := hid (HKS.out w10 (fun x h1 h2 h3 => (kept_one rfl HG10.out x (Nat.lt_of_lt_of_le h1 HB9.out.size) h3).trans (HB9.out.block x h1)))
              have HS11 := hid (HKS.out (w10.setCell ⟨db, 1, none⟩ (.slice A10 (tells.length + 1) c10)) (fun x h1 h2 h3 => (heap_setCell_other _ _ _ _ h2).trans ((kept_one rfl HG10.out x (Nat.lt_of_lt_of_le h1 HB9.out.size) h3).trans (HB9.out.block x h1))))
              obtain ⟨t0, t1, tf⟩ := slot2 HD10.out
              have tf1 := tf 1
              clear ho10 hg10 hv10 tf
              refine hK.out _ _ (by exact HS10.out) (fun hHeld => ?_)
              clear hK K
              try simp only [Act.put, List.setIfInBounds_toArray, List.set_cons_zero, List.set_cons_succ]
              refine wpAnyH_take (i := 10) (oi := { dst := some 78, op := Op.fieldAddr 62 (Operand.tmp 6) 1, type := _, pos := _, after := _, guard := none }) (v := ?_) rfl (by kernel_rfl) (by kernel_rfl) (by kernel_rfl) (fun _ _ _ h => h) (Or.inl ⟨by rfl, ?_⟩) (by assumption) ?_
              rotate_left
              · intro w hSw; (try dsimp only at hSw); go_simp; try with_reducible rfl
              try simp only [Act.put, List.setIfInBounds_toArray, List.set_cons_zero, List.set_cons_succ]
              refine wpAnyH_ready (rs := [11]) (by kernel_rfl) (by simp) ?_
              refine AllReadyH.cons (o := { dst := none, op := Op.store 57 (Operand.tmp 78) (Operand.tmp 77), type := _, pos := _, after := _, guard := none }) rfl (fun K hK => ?_) AllReadyH.nil
              go_simp
              refine hK.out _ _ (by exact HS11.out) (fun hHeld => ?_)
              clear hK K
              try simp only [Act.put, List.setIfInBounds_toArray, List.set_cons_zero, List.set_cons_succ]
              refine wpAnyH_done (by kernel_rfl) ?_ _
              obtain ⟨w11, hw11⟩ : ∃ w11, w11 = w10.setCell ⟨db, 1, none⟩ (.slice A10 (tells.length + 1) c10) := ⟨_, rfl⟩
              have h11 := HM9.out.addTell rfl HO10.out HG10.out HV10.out hw11
              have HM11 := hid h11.1
              have HB11 := hid (HB.out.trans (HK.out.trans (HB8.out.trans ((HB9.out.mono (Nat.le_trans HKZ HB8.out.size)).trans h11.2))))
              rw [← hw11]
              clear hw11 h11 t0 t1 tf1 y0 y1 yf0 d0 d1 r0 r1
              try clear rx
              have hs1 : (outB search s (i + 1)).1 = setsTo search s cur sets 37 := by rw [HSUC.out]
              have hs2 : (outB search s (i + 1)).2.1 = rows ++ [rowTo search s cur sets 37] := by rw [HSUC.out]
              have hs3 : (outB search s (i + 1)).2.2 = tells ++ [(tz : Int)] := by rw [HSUC.out, HTZ.out]
              have HQ1 := hid (show i + 1 ≤ (outB search s (i + 1)).1.length by rw [hs1]; exact up_next hlt)
              have HQ2 := hid (show (outB search s (i + 1)).1.length ≤ 120 by rw [hs1]; exact hj120)
              have HQ3 := hid (show Mm w11 B db (.slice (some ⟨bs, os, none⟩) (setsTo search s cur sets 37).length c) (.slice A7 (rows.length + 1) c7) (.slice A10 (tells.length + 1) c10) (.slice none 0 0) (outB search s (i + 1)).1 (outB search s (i + 1)).2.1 (outB search s (i + 1)).2.2 [] by
                rw [hs1, hs2, hs3]
                exact HM11.out)
              have HQ4 := hid (show ∀ q, q < i + 1 → q < (outB search s q).1.length ∧ (outB search s (q + 1)).1.length ≤ 120 from fun q hq => by
                by_cases hqi : q < i
                · exact HP.out q hqi
                · obtain rfl : q = i := by omega
                  exact ⟨by rw [← HSE.out]; exact hlt, HQ2.out⟩)
              clear hs1 hs2 hs3 HSUC HM11 HP
              go_wp2_with fail
              exact ⟨⟨i + 1, _, _, _, by go_num, rfl, HQ1.out, HQ2.out, HQ3, HQ4, HB11⟩, by simp [intOf]; omega⟩
            case' legB1n1bn2 =>
              intro K hK
              go_simp
              have rx := (HPX9.out (.cells #[.int .u64 (tz : Int)] 37)).trans r1
              refine hK.out _ _ (by exact HSX9.out _) (fun hHeld => ?_)
              clear hK K
              try simp only [Act.put, List.setIfInBounds_toArray, List.set_cons_zero, List.set_cons_succ]
              refine wpAnyH_ready (rs := [1]) (by kernel_rfl) (by simp) ?_
              refine AllReadyH.cons (o := { dst := some 69, op := Op.load 57 (Operand.tmp 68), type := _, pos := _, after := _, guard := none }) rfl (fun K hK => ?_) AllReadyH.nil
              go_simp
              refine hK.out _ _ (by first | exact HKS.out _ (fun _ _ _ _ => rfl) | exact HSX9.out _ | exact HS9.out) (fun hHeld => ?_)
              clear hK K
              try simp only [Act.put, List.setIfInBounds_toArray, List.set_cons_zero, List.set_cons_succ]
              refine wpAnyH_ready (rs := [9]) (by kernel_rfl) (by simp) ?_
              refine AllReadyH.cons (o := { dst := some 77, op := Op.call { callee := Callee.builtin Builtin.append, args := #[Operand.tmp 69, Operand.tmp 76], argTypes := #[57, 57] }, type := _, pos := _, after := _, guard := none }) rfl (fun K hK => ?_) AllReadyH.nil
              rw [if_pos (by rfl)]
              refine wp_app_tl (.tmp 69) (.tmp 76) rfl (w0 := w9) (z := (tz : Int)) rfl rfl HM9.out.tells rfl HLT.out (Nat.le_trans HKZ (Nat.le_trans HB8.out.size HB9.out.size)) ?_
              intro A10 c10 w10 ho10 hg10 hv10
              have HO10 := hid ho10
              have HG10 := hid hg10
              have HV10 := hid hv10
              have HD10 := hid ((kept_one rfl hg10 db (HM9.out.lt db (.inl rfl)).2 (own_blk_ne HM9.out.tells HM9.out.cell (by decide))).trans HM9.out.cell)
              have HS10 := hid (HKS.out w10 (fun x h1 h2 h3 => (kept_one rfl HG10.out x (Nat.lt_of_lt_of_le h1 HB9.out.size) h3).trans (HB9.out.block x h1)))
              have HS11 := hid (HKS.out (w10.setCell ⟨db, 1, none⟩ (.slice A10 (tells.length + 1) c10)) (fun x h1 h2 h3 => (heap_setCell_other _ _ _ _ h2).trans ((kept_one rfl HG10.out x (Nat.lt_of_lt_of_le h1 HB9.out.size) h3).trans (HB9.out.block x h1))))
              obtain ⟨t0, t1, tf⟩ := slot2 HD10.out
              have tf1 := tf 1
              clear ho10 hg10 hv10 tf
              refine hK.out _ _ (by exact HS10.out) (fun hHeld => ?_)
              clear hK K
              try simp only [Act.put, List.setIfInBounds_toArray, List.set_cons_zero, List.set_cons_succ]
              refine wpAnyH_take (i := 10) (oi := { dst := some 78, op := Op.fieldAddr 62 (Operand.tmp 6) 1, type := _, pos := _, after := _, guard := none }) (v := ?_) rfl (by kernel_rfl) (by kernel_rfl) (by kernel_rfl) (fun _ _ _ h => h) (Or.inl ⟨by rfl, ?_⟩) (by assumption) ?_
              rotate_left
              · intro w hSw; (try dsimp only at hSw); go_simp; try with_reducible rfl
              try simp only [Act.put, List.setIfInBounds_toArray, List.set_cons_zero, List.set_cons_succ]
              refine wpAnyH_ready (rs := [11]) (by kernel_rfl) (by simp) ?_
              refine AllReadyH.cons (o := { dst := none, op := Op.store 57 (Operand.tmp 78) (Operand.tmp 77), type := _, pos := _, after := _, guard := none }) rfl (fun K hK => ?_) AllReadyH.nil
              go_simp
              refine hK.out _ _ (by exact HS11.out) (fun hHeld => ?_)
              clear hK K
              try simp only [Act.put, List.setIfInBounds_toArray, List.set_cons_zero, List.set_cons_succ]
              refine wpAnyH_done (by kernel_rfl) ?_ _
              obtain ⟨w11, hw11⟩ : ∃ w11, w11 = w10.setCell ⟨db, 1, none⟩ (.slice A10 (tells.length + 1) c10) := ⟨_, rfl⟩
              have h11 := HM9.out.addTell rfl HO10.out HG10.out HV10.out hw11
              have HM11 := hid h11.1
              have HB11 := hid (HB.out.trans (HK.out.trans (HB8.out.trans ((HB9.out.mono (Nat.le_trans HKZ HB8.out.size)).trans h11.2))))
              rw [← hw11]
              clear hw11 h11 t0 t1 tf1 y0 y1 yf0 d0 d1 r0 r1
              try clear rx
              have hs1 : (outB search s (i + 1)).1 = setsTo search s cur sets 37 := by rw [HSUC.out]
              have hs2 : (outB search s (i + 1)).2.1 = rows ++ [rowTo search s cur sets 37] := by rw [HSUC.out]
              have hs3 : (outB search s (i + 1)).2.2 = tells ++ [(tz : Int)] := by rw [HSUC.out, HTZ.out]
              have HQ1 := hid (show i + 1 ≤ (outB search s (i + 1)).1.length by rw [hs1]; exact up_next hlt)
              have HQ2 := hid (show (outB search s (i + 1)).1.length ≤ 120 by rw [hs1]; exact hj120)
              have HQ3 := hid (show Mm w11 B db (.slice (some ⟨bs, os, none⟩) (setsTo search s cur sets 37).length c) (.slice A7 (rows.length + 1) c7) (.slice A10 (tells.length + 1) c10) (.slice none 0 0) (outB search s (i + 1)).1 (outB search s (i + 1)).2.1 (outB search s (i + 1)).2.2 [] by
                rw [hs1, hs2, hs3]
                exact HM11.out)
              have HQ4 := hid (show ∀ q, q < i + 1 → q < (outB search s q).1.length ∧ (outB search s (q + 1)).1.length ≤ 120 from fun q hq => by
                by_cases hqi : q < i
                · exact HP.out q hqi
                · obtain rfl : q = i := by omega
                  exact ⟨by rw [← HSE.out]; exact hlt, HQ2.out⟩)
              clear hs1 hs2 hs3 HSUC HM11 HP
              go_wp2_with fail
              exact ⟨⟨i + 1, _, _, _, by go_num, rfl, HQ1.out, HQ2.out, HQ3, HQ4, HB11⟩, by simp [intOf]; omega⟩
    · obtain rfl : i = sets.length := by omega
      obtain ⟨ur, hur, -⟩ := HM.out.rows
      obtain ⟨NA, nc, rfl, -⟩ := own_arr hur
      obtain ⟨TA, tc, rfl, -⟩ := own_arr HM.out.tells
      clear hur
      obtain ⟨nr, hnr⟩ : ∃ n, n = rows.length := ⟨_, rfl⟩
      obtain ⟨nt, hnt⟩ : ∃ n, n = tells.length := ⟨_, rfl⟩
      rw [← hnr, ← hnt] at HM
      have HNR := hid hnr
      clear hnr hnt
      obtain ⟨d0, d1, -⟩ := slot2 HM.out.cell
      obtain ⟨r0, r1, rf⟩ := slot2 (HRB.out _ HB.out)
      go_wp2_with fail
      have hp := heap_setCell_same _ w.heap.size 1 _ _ (.slice TA nt tc) (heap_setCell_same wr w.heap.size 0 _ _ (.slice NA nr nc) (HRB.out _ HB.out))
      obtain ⟨c0, c1, -⟩ := slot2 hp
      have e9 := HBB.out
      refine bodyPost_ret (v := .agg #[.slice NA nr nc, .slice TA nt tc]) (by simp [results, Try.results30, go_sem, c0, c1]) rfl ⟨?_, .inl (HFIN.out (congrArg List.length HSE.out) _ _ ?_)⟩
      · exact ((HBX.out.trans (HB.out.mono (show w.heap.size ≤ B by omega))).setCell (p := ⟨w.heap.size, 0, none⟩) (Nat.le_refl _) _).setCell (p := ⟨w.heap.size, 1, none⟩) (Nat.le_refl _) _
      · rw [← HRE.out, ← HTE.out]
        refine (HM.out.isD.keep fun x hx _ => ?_).mono fun x hx _ => ?_
        · have hx' : B ≤ x := hx
          rw [heap_setCell_other _ _ _ _ (show x ≠ w.heap.size by omega), heap_setCell_other _ _ _ _ (show x ≠ w.heap.size by omega)]
        · have hx' : B ≤ x := hx
          show w.heap.size ≤ x
          omega
end Go.Proofs.Ythdhbkngbmjjkaa
