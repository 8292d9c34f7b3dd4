/- A set's text, by which the table's maker knows it. Conditions: numbers of two bytes. -/
import Derived.Test.YthdhbkngbmjjkaaNx
import Derived.Lib.SlBytesRow
import Derived.Lib.BufferRead
import Derived.Test.YthdhbkngbmjjkaaMe
import Derived.Test.YthdhbkngbmjjkaaUn
import Derived.Deep.RegionHeld3
namespace Go.Proofs.Ythdhbkngbmjjkaa
open Go.RowKit Go.Lib
set_option linter.unusedSimpArgs false
def byteL (l : List Int) : List Int := l.flatMap fun p => [p / 256, p % 256]
def textB (l : List Int) : ByteArray := ⟨((byteL l).map fun z => UInt8.ofNat z.toNat).toArray⟩
def Small (l : List Int) : Prop := ∀ p ∈ l, 0 ≤ p ∧ p < 65536
theorem byteL_len (l : List Int) : (byteL l).length = 2 * l.length := by
  unfold byteL
  induction l with
  | nil => rfl
  | cons p r ih => simp only [List.flatMap_cons, List.length_append, List.length_cons, ih]; simp; omega
theorem byteL_rng {l : List Int} (h : Small l) : ∀ z ∈ byteL l, 0 ≤ z ∧ z < 256 := fun z hz => by
  obtain ⟨p, hp, hz⟩ := List.mem_flatMap.1 hz
  have := h p hp
  simp at hz
  omega
theorem byteL_inj : ∀ {a b : List Int}, byteL a = byteL b → a = b
  | [], [], _ => rfl
  | [], q :: s, h => by have := congrArg List.length h; rw [byteL_len, byteL_len] at this; simp at this
  | p :: r, [], h => by have := congrArg List.length h; rw [byteL_len, byteL_len] at this; simp at this
  | p :: r, q :: s, h => by
    have h' : p / 256 :: p % 256 :: byteL r = q / 256 :: q % 256 :: byteL s := h
    injection h' with h1 h2
    injection h2 with h2 h3
    rw [byteL_inj h3, show p = q by omega]
theorem textB_inj {a b : List Int} (ha : Small a) (hb : Small b) (h : textB a = textB b) : a = b := by
  apply byteL_inj
  have h1 : (byteL a).map (fun z => UInt8.ofNat z.toNat) = (byteL b).map fun z => UInt8.ofNat z.toNat := by
    have := congrArg (fun s : ByteArray => s.data.toList) h
    simpa [textB] using this
  have hinj : ∀ (x y : List Int), (∀ z ∈ x, 0 ≤ z ∧ z < 256) → (∀ z ∈ y, 0 ≤ z ∧ z < 256) → x.map (fun z => UInt8.ofNat z.toNat) = y.map (fun z => UInt8.ofNat z.toNat) → x = y := by
    intro x
    induction x with
    | nil => intro y _ _ e; simpa using e.symm
    | cons u r ih =>
      intro y hx hy e
      cases y with
      | nil => simp at e
      | cons v s =>
        simp only [List.map_cons, List.cons.injEq] at e
        have h1 := hx u List.mem_cons_self
        have h2 := hy v List.mem_cons_self
        have h3 := congrArg UInt8.toNat e.1
        simp at h3
        rw [ih s (fun z hz => hx z (List.mem_cons_of_mem _ hz)) (fun z hz => hy z (List.mem_cons_of_mem _ hz)) e.2, show u = v by omega]
  exact hinj _ _ (byteL_rng ha) (byteL_rng hb) h1
theorem strKey : MKey Try.prog 9 Value.string (fun s => s.size ≤ maxLen) := ⟨fun h => by injection h, fun {a} h => ⟨_, WideMaps.keyOf_string_mk Try.underlying9 h⟩, Maps.string_keyed Try.underlying9⟩
theorem byteL_take {l : List Int} {k : Nat} (h : k < l.length) : byteL (l.take (k + 1)) = byteL (l.take k) ++ [nth l k / 256, nth l k % 256] := by
  unfold byteL
  rw [take_nth h, List.flatMap_append]
  simp
theorem info5 : (Try.prog.info? 5).map (fun i => (i.zero, i.size, i.bytes)) = some (some (.int .u8 0), 1, 1) := by kernel_rfl
theorem text_bytes {w : World} {b : Nat} {l : List Int} (hs : Small l) (h : ∀ j u, ((byteL l).map (Value.int .u8))[j]? = some u → w.cell? ⟨b, j, none⟩ = some u) : Bytes w b 0 (textB l) := fun i hi => by
  have hsz : i < (byteL l).length := by simpa [textB, ByteArray.size] using hi
  have h1 := h i (.int .u8 (byteL l)[i]) (by rw [List.getElem?_map, List.getElem?_eq_getElem hsz]; rfl)
  rw [Nat.zero_add, h1]
  have h2 := byteL_rng hs _ (List.getElem_mem hsz)
  have e : (textB l)[i] = ((byteL l).map fun z => UInt8.ofNat z.toNat)[i]'(by simpa using hsz) := rfl
  have h3 : ((textB l)[i]'hi).toNat = (byteL l)[i].toNat := by
    rw [e, List.getElem_map]
    simp
    omega
  rw [h3, Int.toNat_of_nonneg h2.1]
theorem text_conv {w : World} {B : Nat} {v : Value} {l : List Int} (hs : Small l) (h : w.ownsRow B 5 1 v (byteL l).length ((byteL l).map (.int .u8))) : (convert 137 9 v).run Try.prog w = .ok (.string (textB l)) w := by
  have hsz : (textB l).size = (byteL l).length := by simp [textB, ByteArray.size]
  rcases id h.2 with ⟨rfl, h0⟩ | ⟨g, cap, _, rfl, _⟩
  · have hn : byteL l = [] := List.length_eq_zero_iff.1 h0
    have e : textB l = ⟨#[]⟩ := by unfold textB; rw [hn]; rfl
    rw [e]
    exact run_convert_nil_bytes w 137 9 5 0 Try.underlying137 Try.underlying5 Try.underlying9
  · obtain ⟨A, c, e, _, _, h3⟩ := own_arr h
    have hb : Bytes w g 0 (textB l) := text_bytes hs fun j u hu => by
      obtain ⟨b, o, eA, _, _, c0⟩ := h3.at hu
      injection e with e1
      rw [← e1] at eA
      injection eA with eA
      injection eA with e2 e3
      rw [← e2, ← e3, Nat.zero_add] at c0
      exact c0
    have := run_convert_whole (P := Try.prog) w 137 5 9 Try.underlying137 Try.underlying5 Try.underlying9 g 0 (textB l) hb cap
    rw [hsz] at this
    exact this
set_option maxRecDepth 100000 in
set_option maxHeartbeats 4000000 in
theorem text_any (S : Nat → Prop) (v : Value) (l : List Int) (w : World) (hv : IsNums .i64 w S v l) (hs : Small l) (hl : l.length ≤ 100000) :
    Calls Try.prog 79 #[v] w fun e w' => e = .returned (.string (textB l)) ∧ Below w.heap.size w w' := by
  obtain ⟨i0, hi0, hz0, hz1, hz2⟩ := info_parts info5
  have HV := hid hv
  obtain ⟨A, c, rfl⟩ := hv.form
  have HSM := hid hs
  clear hv hs
  obtain ⟨N, hNN⟩ : ∃ N, N = w.heap.size := ⟨_, rfl⟩
  have HNN := hid hNN
  clear hNN
  go_enter Try.func79, Try.ntmps79
  go_wp2_with fail
  go_loopw [3, 5, 8] (fun s3 _ s8 wr => ∃ (k : Nat) (vk : Value), k ≤ l.length ∧ s8 = .int .i64 k ∧ s3 = vk ∧ Hid (wr.ownsRow N 5 1 vk (byteL (l.take k)).length ((byteL (l.take k)).map (.int .u8))) ∧ Hid (Below N w wr) ∧ Hid (N ≤ wr.heap.size)) (fun _ _ s8 _ => l.length - (intOf s8).toNat)
  case atStart => exact ⟨0, _, by omega, rfl, rfl, hid (World.ownsRow_nil _ _ _ _), hid (Below.refl _ _), hid (by rw [HNN.out]; exact Nat.le_refl _)⟩
  case round =>
    obtain ⟨k, vk, hk, rfl, ek, HO, HB, HS⟩ := hrel
    subst ek
    by_cases hlt : k < l.length
    · obtain ⟨b, o, cm, em, -, -, c0⟩ := (HV.out.below (HNN.out ▸ HB.out)).at hlt
      obtain rfl : A = some ⟨b, o, none⟩ := by injection em
      have HT := hid (byteL_take hlt)
      have hp := HSM.out _ (nth_mem hlt)
      obtain ⟨p, hp0⟩ : ∃ p, p = nth l k := ⟨_, rfl⟩
      rw [← hp0] at c0 HT hp
      have HP := hid hp0
      clear em hp0
      obtain ⟨X, hX⟩ : ∃ X, X = wr.alloc (.cells #[.int .u8 (p / 256), .int .u8 (p % 256)] 5) := ⟨_, rfl⟩
      have HXB := hid (show Below wr.heap.size wr X by rw [hX]; exact (Below.refl _ _).alloc (Nat.le_refl _) _)
      have HOX := hid (HO.out.kept (grown_of_below HXB.out none) (Classical.em _))
      have HSX := hid (Nat.le_trans HS.out HXB.out.size)
      have HBX := hid (HB.out.trans (HXB.out.mono HS.out))
      have HLL := hid (show (byteL (l.take k)).length ≤ 200000 by rw [byteL_len, List.length_take]; omega)
      go_wp2_with (first
        | (at_builtin; refine wpList_app _ rfl (.tmp 12) (.tmp 18) 137 rfl N 5 i0 _ 1 1 Try.underlying137 hi0 hz0 hz1 hz2 rfl (by decide) _ (byteL (l.take k)).length ((byteL (l.take k)).map (.int .u8)) rfl (by rw [← hX]; exact HOX.out) _ 2 2 [.int .u8 (p / 256), .int .u8 (p % 256)] rfl (src_new wr #[.int .u8 (p / 256), .int .u8 (p % 256)] 5 2 rfl) (one_nums .u8 [p / 256, p % 256]) (by simp only [maxLen]; have := HLL.out; omega) (by have := HLL.out; omega) (by rw [← hX]; exact HSX.out) ?_; rw [← hX]; clear hX; intro v' w' hown hgrow hat; have HBW := hid (below_own HBX.out HOX.out hgrow HSX.out); have HOW := hid (show w'.ownsRow N 5 1 v' (byteL (l.take (k + 1))).length ((byteL (l.take (k + 1))).map (.int .u8)) by rw [HT.out]; simpa using hown); have HSW := hid (show N ≤ w'.heap.size from Nat.le_trans HSX.out hgrow.size); clear hown hgrow hat)
        | fail)
      refine ⟨⟨k + 1, _, by omega, by go_num, rfl, HOW, HBW, HSW⟩, by simp [intOf]; omega⟩
    · obtain rfl : k = l.length := by omega
      have HOF := hid (show wr.ownsRow N 5 1 _ (byteL l).length ((byteL l).map (.int .u8)) by have h := HO.out; rw [List.take_length] at h; exact h)
      have hcv := text_conv HSM.out HOF.out
      clear HO
      go_wp2_with fail
      go_ret
      exact ⟨rfl, by rw [← HNN.out]; exact HB.out⟩
end Go.Proofs.Ythdhbkngbmjjkaa
namespace Go.Proofs.Ythdhbkngbmjjkaa
open Go.RowKit
set_option linter.unusedSimpArgs false
def addB (sets : List (List Int)) (t : List Int) : List (List Int) := if t ∈ sets then sets else sets ++ [t]
def knownL (sets : List (List Int)) : List (ByteArray × Nat) := sets.zipIdx.map fun q => (textB q.1, q.2)
theorem knownL_len (sets : List (List Int)) : (knownL sets).length = sets.length := by simp [knownL]
theorem knownL_get {sets : List (List Int)} {i : Nat} : (knownL sets)[i]? = (sets[i]?).map fun t => (textB t, i) := by
  unfold knownL
  rw [List.getElem?_map, List.getElem?_zipIdx]
  cases sets[i]? <;> simp
/-- What the maker may be asked of: sets of small numbers, not too long. -/
def Fit (t : List Int) : Prop := Small t ∧ t.length ≤ 10000
theorem mget_known {sets : List (List Int)} (hs : ∀ t ∈ sets, Fit t) {t : List Int} (ht : Fit t) : mget (knownL sets) (textB t) = if t ∈ sets then some (sets.idxOf t) else none := by
  have h : ∀ (l : List (List Int)) (n : Nat), (∀ x ∈ l, Fit x) → mget ((l.zipIdx n).map fun q => (textB q.1, q.2)) (textB t) = if t ∈ l then some (n + l.idxOf t) else none := by
    intro l
    induction l with
    | nil => intro n _; rfl
    | cons x r ih =>
      intro n hx
      simp only [List.zipIdx_cons, List.map_cons, mget]
      by_cases e : t = x
      · subst e
        simp
      · have hne : ¬ textB x = textB t := fun h => e (textB_inj ht.1 (hx x List.mem_cons_self).1 h.symm)
        rw [if_neg hne, ih (n + 1) fun y hy => hx y (List.mem_cons_of_mem _ hy)]
        have : (x == t) = false := by simpa using fun h => e h.symm
        simp only [List.mem_cons, e, false_or, List.idxOf_cons, this, cond_false]
        split
        · congr 1; omega
        · rfl
  have := h sets 0 hs
  simpa [knownL] using this
def Mk (w : World) (B mb b g : Nat) (vs : Value) (sets : List (List Int)) (L : List Nat) : Prop :=
  B ≤ mb ∧ B ≤ b ∧ w.heap[mb]? = some (.cells #[.pointer (some ⟨g, 0, none⟩), .map (some b), vs] 108 (0, 0)) ∧ MapIs w b Value.string (fun s => s.size ≤ maxLen) (fun (i : Nat) u => u = Value.int .i64 (i : Int)) (knownL sets) ∧
    ∃ us, w.ownsRow B 23 1 vs sets.length us ∧ ∀ (k : Nat) (r : List Int), sets[k]? = some r → ∃ v, us[k]? = some v ∧ IsNums .i64 w (fun x => B ≤ x ∧ x ≠ mb ∧ x ≠ b ∧ vs.ownBlock ≠ some x ∧ x ∉ L) v r
/-- Whatever keeps the maker's blocks and all others that aren't its business keeps the maker. -/
theorem Mk.keep {w w' : World} {B mb b g : Nat} {vs : Value} {sets : List (List Int)} {L : List Nat} (h : Mk w B mb b g vs sets L) (hk : ∀ x, B ≤ x → x < w.heap.size → x ∉ L → w'.heap[x]? = w.heap[x]?) (hm : mb ∉ L) (hb : b ∉ L) (hv : ∀ k, vs.ownBlock = some k → k ∉ L) : Mk w' B mb b g vs sets L := by
  obtain ⟨h1, h2, h3, h4, us, ho, hs⟩ := h
  have hlm := (Array.getElem?_eq_some_iff.1 h3).1
  refine ⟨h1, h2, (hk mb h1 hlm hm).trans h3, h4.keep (hk b h2 h4.lt hb), us, ?_, fun k r hr => ?_⟩
  · obtain ⟨e, h5 | ⟨q, cap, cur, e1, hq, hh, r1⟩⟩ := ho
    · exact ⟨e, .inl h5⟩
    · subst e1
      exact ⟨e, .inr ⟨q, cap, cur, rfl, hq, (hk q hq (Array.getElem?_eq_some_iff.1 hh).1 (hv q rfl)).trans hh, r1⟩⟩
  · obtain ⟨v, hv', hn⟩ := hs k r hr
    exact ⟨v, hv', hn.keep fun x hx hlt => hk x hx.1 hlt hx.2.2.2.2⟩
theorem Mk.below {w w' : World} {B mb b g : Nat} {vs : Value} {sets : List (List Int)} {L : List Nat} (h : Mk w B mb b g vs sets L) (hb : Below w.heap.size w w') : Mk w' B mb b g vs sets L := by
  obtain ⟨h1, h2, h3, h4, us, ho, hs⟩ := h
  have hlm := (Array.getElem?_eq_some_iff.1 h3).1
  refine ⟨h1, h2, (hb.block mb hlm).trans h3, h4.below hb, us, ?_, fun k r hr => ?_⟩
  · exact ho.kept (grown_of_below hb none) (Classical.em _)
  · obtain ⟨v, hv', hn⟩ := hs k r hr
    exact ⟨v, hv', hn.below hb⟩
theorem text_size {t : List Int} (h : Fit t) : (textB t).size ≤ maxLen := by
  have : (textB t).size = 2 * t.length := by
    rw [show (textB t).size = (byteL t).length by simp [textB, ByteArray.size], byteL_len]
  have := h.2
  simp only [maxLen]
  omega
theorem zero3 (w : World) : (zeroValue 3).run Try.prog w = .ok (.int .i64 0) w := by kernel_rfl
theorem info23 : (Try.prog.info? 23).map (fun i => (i.zero, i.size, i.bytes)) = some (some (.slice none 0 0), 1, 24) := by kernel_rfl
theorem Mk.lt {w : World} {B mb b g : Nat} {vs : Value} {sets : List (List Int)} {L : List Nat} (h : Mk w B mb b g vs sets L) : mb < w.heap.size ∧ b < w.heap.size ∧ ∀ k, vs.ownBlock = some k → B ≤ k ∧ k < w.heap.size ∧ k ≠ mb ∧ k ≠ b := by
  obtain ⟨h1, h2, h3, h4, us, ho, hs⟩ := h
  refine ⟨(Array.getElem?_eq_some_iff.1 h3).1, h4.lt, fun k hk => ⟨(ho.lt k hk).1, (ho.lt k hk).2, fun e => ?_, fun e => ?_⟩⟩
  · subst e
    exact own_blk_ne ho h3 (by decide) hk
  · subst e
    exact own_map_ne ho h4 hk
/-- A new set noted. -/
theorem mk_add {w1 w2 X w3 w4 : World} {B mb b g : Nat} {vs v' sv : Value} {sets : List (List Int)} {L : List Nat} {t : List Int} {us : List Value} (h : Mk w1 B mb b g vs sets L) (hus : w1.ownsRow B 23 1 vs sets.length us)
    (hrow : ∀ (k : Nat) (r : List Int), sets[k]? = some r → ∃ v, us[k]? = some v ∧ IsNums .i64 w1 (fun x => B ≤ x ∧ x ≠ mb ∧ x ≠ b ∧ vs.ownBlock ≠ some x ∧ x ∉ L) v r)
    (hsv : IsNums .i64 w1 (fun x => B ≤ x ∧ x ≠ mb ∧ x ≠ b ∧ vs.ownBlock ≠ some x ∧ x ∉ L) sv t) (hm : MapIs w2 b Value.string (fun s => s.size ≤ maxLen) (fun (i : Nat) u => u = Value.int .i64 (i : Int)) (knownL (sets ++ [t]))) (hg2 : w1.grownBy w2 (some b))
    (hX : X = w2.alloc (.cells #[sv] 23)) (ho3 : w3.ownsRow B 23 1 v' (sets.length + 1) (us ++ [sv])) (hg3 : X.grownBy w3 vs.ownBlock) (hv' : v'.ownBlock = vs.ownBlock ∨ v'.ownBlock = some X.heap.size) (h4 : w4 = w3.setCell ⟨mb, 2, none⟩ v') :
    Mk w4 B mb b g v' (sets ++ [t]) L ∧ (∀ x, x < w1.heap.size → x ≠ mb → x ≠ b → vs.ownBlock ≠ some x → w4.heap[x]? = w1.heap[x]?) ∧ Below B w1 w4 := by
  obtain ⟨lm, lb, lv⟩ := h.lt
  obtain ⟨h1, h2, h3, h4', -⟩ := h
  have sX : X.heap.size = w2.heap.size + 1 := by rw [hX]; simp
  have s2 := hg2.size
  have s3 := hg3.size
  have s4 : w4.heap.size = w3.heap.size := by rw [h4]; simp
  have kX : ∀ x, x < w2.heap.size → X.heap[x]? = w2.heap[x]? := fun x hx => by rw [hX]; exact heap_alloc_old _ _ hx
  have k2 : ∀ x, x < w1.heap.size → x ≠ b → w2.heap[x]? = w1.heap[x]? := fun x hx hb => hg2.block x hx fun e => by injection e with e; exact hb e
  have k3 : ∀ x, x < X.heap.size → vs.ownBlock ≠ some x → w3.heap[x]? = X.heap[x]? := fun x hx hv => hg3.block x hx fun e => hv e.symm
  have k4 : ∀ x, x ≠ mb → w4.heap[x]? = w3.heap[x]? := fun x hx => by rw [h4]; exact heap_setCell_other _ _ _ _ hx
  have keep : ∀ x, x < w1.heap.size → x ≠ mb → x ≠ b → vs.ownBlock ≠ some x → w4.heap[x]? = w1.heap[x]? := fun x hx hm' hb hv => (k4 x hm').trans ((k3 x (by omega) hv).trans ((kX x (by omega)).trans (k2 x hx hb)))
  have hmb3 : w3.heap[mb]? = some (.cells #[.pointer (some ⟨g, 0, none⟩), .map (some b), vs] 108 (0, 0)) := (k3 mb (by omega) fun e => (lv mb e).2.2.1 rfl).trans ((kX mb (by omega)).trans ((k2 mb lm fun e => by
    subst e
    obtain ⟨es, c, hh, -⟩ := h4'
    rw [hh] at h3
    cases h3).trans h3))
  have hmbb : mb ≠ b := fun e => by
    subst e
    obtain ⟨es, c, hh, -⟩ := h4'
    rw [hh] at h3
    cases h3
  have hmb4 : w4.heap[mb]? = some (.cells #[.pointer (some ⟨g, 0, none⟩), .map (some b), v'] 108 (0, 0)) := by
    rw [h4]
    exact heap_setCell_same _ mb 2 _ _ v' hmb3
  have hm4 : MapIs w4 b Value.string (fun s => s.size ≤ maxLen) (fun (i : Nat) u => u = Value.int .i64 (i : Int)) (knownL (sets ++ [t])) := hm.keep ((k4 b hmbb.symm).trans ((k3 b (by omega) fun e => (lv b e).2.2.2 rfl).trans (kX b (by omega))))
  have hvne : v'.ownBlock ≠ some mb := own_blk_ne ho3 hmb3 (by decide)
  have ho4 : w4.ownsRow B 23 1 v' (sets ++ [t]).length (us ++ [sv]) := by
    rw [List.length_append, List.length_singleton, h4]
    exact ownsRow_setCell_other ho3 hvne _
  have hP : ∀ x, (B ≤ x ∧ x ≠ mb ∧ x ≠ b ∧ vs.ownBlock ≠ some x ∧ x ∉ L) → x < w1.heap.size → (B ≤ x ∧ x ≠ mb ∧ x ≠ b ∧ v'.ownBlock ≠ some x ∧ x ∉ L) := fun x hx hlt => ⟨hx.1, hx.2.1, hx.2.2.1, fun e => by
    rcases hv' with hv' | hv'
    · rw [hv'] at e; exact hx.2.2.2.1 e
    · rw [hv'] at e; injection e with e; omega, hx.2.2.2.2⟩
  have hmv : ∀ {v : Value} {r : List Int}, IsNums .i64 w1 (fun x => B ≤ x ∧ x ≠ mb ∧ x ≠ b ∧ vs.ownBlock ≠ some x ∧ x ∉ L) v r → IsNums .i64 w4 (fun x => B ≤ x ∧ x ≠ mb ∧ x ≠ b ∧ v'.ownBlock ≠ some x ∧ x ∉ L) v r := fun hn =>
    ((hn.mono (S' := fun x => (B ≤ x ∧ x ≠ mb ∧ x ≠ b ∧ vs.ownBlock ≠ some x ∧ x ∉ L) ∧ x < w1.heap.size) fun x hx hlt => ⟨hx, hlt⟩).keep fun x hx hlt => keep x hlt hx.1.2.1 hx.1.2.2.1 hx.1.2.2.2.1).mono fun x hx _ => hP x hx.1 hx.2
  have hul : us.length = sets.length := by simpa using hus.1
  refine ⟨⟨h1, h2, hmb4, hm4, us ++ [sv], ho4, fun k r hr => ?_⟩, keep, ?_⟩
  · by_cases hk : k < sets.length
    · rw [List.getElem?_append_left hk] at hr
      obtain ⟨v, e, hn⟩ := hrow k r hr
      exact ⟨v, by rw [List.getElem?_append_left (by omega)]; exact e, hmv hn⟩
    · have hk2 : k = sets.length := by
        have := (List.getElem?_eq_some_iff.1 hr).1
        simp at this
        omega
      subst hk2
      rw [List.getElem?_append_right (Nat.le_refl _)] at hr
      simp at hr
      subst hr
      exact ⟨sv, by rw [List.getElem?_append_right (by omega), hul]; simp, hmv hsv⟩
  · have b1 : Below B w1 w2 := ⟨hg2.os, hg2.tape, hg2.output, hg2.size, fun x hx => k2 x (by omega) (by omega)⟩
    have b2 : Below B w1 X := by rw [hX]; exact b1.alloc (by omega) _
    have b3 : Below B w1 w3 := b2.trans ⟨hg3.os, hg3.tape, hg3.output, hg3.size, fun x hx => k3 x (by omega) fun e => by have := (lv x e).1; omega⟩
    rw [h4]
    exact b3.setCell (p := ⟨mb, 2, none⟩) h1 _
/-- The table's maker asked for a set's number. -/
def NumAns (w w' : World) (B mb b g : Nat) (vs : Value) (sets : List (List Int)) (L : List Nat) (t : List Int) : Prop :=
  ∃ vs', Mk w' B mb b g vs' (addB sets t) L ∧ (∀ x, x < w.heap.size → x ≠ mb → x ≠ b → vs.ownBlock ≠ some x → w'.heap[x]? = w.heap[x]?) ∧ Below B w w' ∧ (vs'.ownBlock = vs.ownBlock ∨ ∃ k, vs'.ownBlock = some k ∧ w.heap.size ≤ k)
theorem once_known {sets : List (List Int)} {t : List Int} (hs : ∀ x ∈ sets, Fit x) (ht : Fit t) (hn : t ∉ sets) : mset (knownL sets) (textB t) sets.length = knownL (sets ++ [t]) := by
  rw [mset_new]
  · unfold knownL
    rw [List.zipIdx_append, List.map_append]
    simp
  · intro p hp e
    obtain ⟨q, hq, rfl⟩ := List.mem_map.1 hp
    have hq1 : q.1 ∈ sets := by
      have := List.mem_zipIdx hq
      rw [this.2.2]
      exact List.getElem_mem _
    exact hn (by rw [textB_inj ht.1 (hs _ hq1).1 e.symm]; exact hq1)
set_option maxRecDepth 100000 in
set_option maxHeartbeats 4000000 in
theorem number_any {w : World} {B mb b g : Nat} {vs sv : Value} {sets : List (List Int)} {L : List Nat} {t : List Int} (h : Mk w B mb b g vs sets L) (hs : ∀ x ∈ sets, Fit x) (ht : Fit t) (hn : sets.length ≤ 100000) (hsv : IsNums .i64 w (fun x => B ≤ x ∧ x ≠ mb ∧ x ≠ b ∧ vs.ownBlock ≠ some x ∧ x ∉ L) sv t) :
    Calls Try.prog 62 #[.pointer (some ⟨mb, 0, none⟩), sv] w fun e w' => e = .returned (.int .i64 (sets.idxOf t : Nat)) ∧ NumAns w w' B mb b g vs sets L t := by
  obtain ⟨i0, hi0, hz0, hz1, hz2⟩ := info_parts info23
  have HMK := hid h
  have HS := hid hs
  have HT := hid ht
  have HSV := hid hsv
  obtain ⟨SA, sc, rfl⟩ := hsv.form
  have HTS := hid (text_size ht)
  have hidx := mget_known hs ht
  have HLT := hid h.lt
  clear h hs ht hsv
  by_cases hin : t ∈ sets
  · rw [if_pos hin] at hidx
    have HI := hid hidx
    have HADD := hid (show addB sets t = sets from if_pos hin)
    clear hidx
    go_enter Try.func62, Try.ntmps62
    go_wp2_with fail
    refine (text_any _ _ t w HSV.out HT.out.1 (by have := HT.out.2; omega)).mono ?_
    rintro e w1 ⟨rfl, hb1⟩
    have HM1 := hid (HMK.out.below hb1)
    have HB1 := hid hb1
    obtain ⟨m0, m1, m2, mf⟩ := slot3 HM1.out.2.2.1
    clear hb1
    go_wp2_with (first
      | (at_lookup; refine wpList_mlookup_some true strKey rfl (.tmp 14) (.tmp 15) 106 rfl Try.underlying106 _ (zero3 _) HM1.out.2.2.2.1 (textB t) HTS.out rfl rfl (sets.idxOf t) HI.out ?_; intro u hu; rw [hu])
      | fail)
    go_ret
    exact ⟨rfl, vs, by rw [HADD.out]; exact HM1.out, fun x hx _ _ _ => HB1.out.block x hx, HB1.out.mono (by have := HLT.out.1; have := HMK.out.1; omega), .inl rfl⟩
  · rw [if_neg hin] at hidx
    have HI := hid hidx
    have HADD := hid (show addB sets t = sets ++ [t] from if_neg hin)
    have HIX := hid (show sets.idxOf t = sets.length from List.idxOf_eq_length hin)
    have HON := hid (once_known HS.out HT.out hin)
    clear hidx
    go_enter Try.func62, Try.ntmps62
    go_wp2_with fail
    refine (text_any _ _ t w HSV.out HT.out.1 (by have := HT.out.2; omega)).mono ?_
    rintro e w1 ⟨rfl, hb1⟩
    have HM1 := hid (HMK.out.below hb1)
    have HB1 := hid hb1
    have HSV1 := hid (HSV.out.below hb1)
    obtain ⟨m0, m1, m2, mf⟩ := slot3 HM1.out.2.2.1
    obtain ⟨-, -, hmb1, -, us, hus, hrow⟩ := id HM1.out
    obtain ⟨VA, vc, rfl, -, -, -⟩ := own_arr hus
    have HUS := hid hus
    have HROW := hid hrow
    have HMB1 := hid hmb1
    have HNB := hid (show mb ≠ b from fun e => by
      obtain ⟨es, c, hh, -⟩ := HM1.out.2.2.2.1
      rw [← e, HMB1.out] at hh
      cases hh)
    have HLT1 := hid HM1.out.lt
    clear hb1 hus hrow hmb1
    go_wp2_with (first
      | (at_lookup; refine wpList_mlookup_none true strKey rfl (.tmp 14) (.tmp 15) 106 rfl Try.underlying106 _ (zero3 _) HM1.out.2.2.2.1 (textB t) HTS.out rfl rfl HI.out ?_)
      | (at_mapUpdate; refine wpList_mupdate strKey rfl (.tmp 29) (.tmp 30) (.tmp 31) 106 rfl Try.underlying106 HM1.out.2.2.2.1 (textB t) HTS.out sets.length _ rfl rfl rfl rfl ?_; intro w2 hm2 hg2; rw [HON.out] at hm2; have HM2 := hid hm2; have HG2 := hid hg2; have HMB2 := hid ((hg2.block mb HLT1.out.1 (fun e => by injection e with e; first | exact HNB.out e.symm | exact HNB.out e)).trans HMB1.out); obtain ⟨n0, n1, n2, nf⟩ := slot3 HMB2.out; have HU2 := hid (HUS.out.kept hg2 (by right; intro e; have := (HLT1.out.2.2 _ e).2.2.2; exact this rfl)); have HB2 := hid (show B ≤ w2.heap.size from by have := HMK.out.1; have := HLT1.out.1; have := hg2.size; omega); clear hm2 hg2)
      | (at_builtin; obtain ⟨X, hX⟩ : ∃ X, X = w2.alloc (.cells #[.slice SA t.length sc] 23) := ⟨_, rfl⟩; rw [← hX]; have HXD := hid hX; have hxb := (show Below w2.heap.size w2 X by rw [hX]; exact (Below.refl _ _).alloc (Nat.le_refl _) _); have HUX := hid (HU2.out.kept (grown_of_below hxb none) (Classical.em _)); have HBX := hid (Nat.le_trans HB2.out hxb.size); have HMX := hid ((hxb.block mb (Nat.lt_of_lt_of_le HLT1.out.1 HG2.out.size)).trans HMB2.out); refine wpList_app _ rfl (.tmp 36) (.tmp 38) 56 rfl B 23 i0 _ 1 24 Try.underlying56 hi0 hz0 hz1 hz2 rfl (by decide) _ sets.length us rfl HUX.out _ 1 1 [.slice SA t.length sc] rfl (by rw [hX]; exact src_new w2 #[.slice SA t.length sc] 23 1 rfl) (by intro u hu; simp at hu; rw [hu]; rfl) (by simp only [maxLen]; omega) (by omega) HBX.out ?_; intro v3 w3 ho3 hg3 hv3; obtain ⟨VA3, vc3, rfl, -, -, -⟩ := own_arr ho3; have HO3 := hid ho3; have HG3 := hid hg3; have HV3 := hid hv3; have HMB3 := hid ((hg3.block mb (Nat.lt_of_lt_of_le HLT1.out.1 (Nat.le_trans HG2.out.size hxb.size)) (by intro e; have := (HLT1.out.2.2 _ e.symm).2.2.1; exact this rfl)).trans HMX.out); obtain ⟨o0, o1, o2, of⟩ := slot3 HMB3.out; have of2 := of 2; clear of ho3 hg3 hv3 hX hxb)
      | fail)
    go_ret
    obtain ⟨r1, r2, r3⟩ := mk_add HM1.out HUS.out HROW.out HSV1.out HM2.out HG2.out HXD.out HO3.out HG3.out HV3.out rfl
    have hw1 := HB1.out.size
    refine ⟨by rw [HIX.out]; rfl, _, by rw [HADD.out]; exact r1, fun x hx a1 a2 a3 => (r2 x (by omega) a1 a2 a3).trans (HB1.out.block x hx), (HB1.out.mono (by have := HLT.out.1; have := HMK.out.1; omega)).trans r3, ?_⟩
    rcases HV3.out with e | e
    · exact .inl e
    · refine .inr ⟨_, e, ?_⟩
      have h2 := HG2.out.size
      rw [HXD.out]
      simp
      omega
end Go.Proofs.Ythdhbkngbmjjkaa
namespace Go.Proofs.Ythdhbkngbmjjkaa
open Go.RowKit
set_option linter.unusedSimpArgs false
def setsTo (search : Bool) (s : Bs) (cur : List Int) (sets : List (List Int)) : Nat → List (List Int)
  | 0 => sets
  | j + 1 => addB (setsTo search s cur sets j) (stepB search s (j : Int) cur)
def rowTo (search : Bool) (s : Bs) (cur : List Int) (sets : List (List Int)) : Nat → List Int
  | 0 => []
  | j + 1 => rowTo search s cur sets j ++ [(((setsTo search s cur sets j).idxOf (stepB search s (j : Int) cur) : Nat) : Int)]
theorem addB_len (sets : List (List Int)) (t : List Int) : (addB sets t).length ≤ sets.length + 1 ∧ sets.length ≤ (addB sets t).length := by unfold addB; split <;> simp
theorem addB_get {sets : List (List Int)} {t : List Int} {i : Nat} {r : List Int} (h : sets[i]? = some r) : (addB sets t)[i]? = some r := by
  unfold addB
  split
  · exact h
  · rw [List.getElem?_append_left (List.getElem?_eq_some_iff.1 h).1]; exact h
section
variable {search : Bool} {s : Bs} {cur : List Int} {sets : List (List Int)}
theorem setsTo_len : ∀ j, (setsTo search s cur sets j).length ≤ sets.length + j ∧ sets.length ≤ (setsTo search s cur sets j).length
  | 0 => ⟨Nat.le_refl _, Nat.le_refl _⟩
  | j + 1 => by
    have h := setsTo_len j
    have h2 := addB_len (setsTo search s cur sets j) (stepB search s (j : Int) cur)
    simp only [setsTo]
    omega
theorem setsTo_get {i : Nat} {r : List Int} (h : sets[i]? = some r) : ∀ j, (setsTo search s cur sets j)[i]? = some r
  | 0 => h
  | j + 1 => addB_get (setsTo_get h j)
theorem rowTo_len : ∀ j, (rowTo search s cur sets j).length = j
  | 0 => rfl
  | j + 1 => by simp only [rowTo, List.length_append, List.length_singleton]; rw [rowTo_len j]
theorem step_fit {m : Int} (hg : Good s) : Fit (stepB search s m cur) := ⟨fun p hp => by have := step_rng hg.1 p hp; have := hg.2.2.1; omega, Nat.le_trans (step_10000 hg) (by decide)⟩
theorem addB_fit {t : List Int} (hs : ∀ x ∈ sets, Fit x) (ht : Fit t) : ∀ x ∈ addB sets t, Fit x := by
  unfold addB
  split
  · exact hs
  · intro x hx
    rcases List.mem_append.1 hx with hx | hx
    · exact hs x hx
    · rw [List.mem_singleton.1 hx]; exact ht
theorem setsTo_fit (hg : Good s) (hs : ∀ x ∈ sets, Fit x) : ∀ j, ∀ x ∈ setsTo search s cur sets j, Fit x
  | 0 => hs
  | j + 1 => addB_fit (setsTo_fit hg hs j) (step_fit hg)
end
theorem step_nums {w w1 : World} {B mb b g ob : Nat} {vs v1 : Value} {sets : List (List Int)} {L : List Nat} {t : List Int} (h : Mk w B mb b g vs sets (ob :: L)) (hL : ∀ k ∈ ob :: L, k < w.heap.size) (hv : IsNums .i64 w1 (fun x => w.heap.size ≤ x) v1 t) (hb : Below w.heap.size w w1) :
    IsNums .i64 w1 (fun x => B ≤ x ∧ x ≠ mb ∧ x ≠ b ∧ vs.ownBlock ≠ some x ∧ x ∉ ob :: L) v1 t := hv.mono fun x hx _ => by
  have hx' : w.heap.size ≤ x := hx
  obtain ⟨h1, h2, h3⟩ := h.lt
  exact ⟨by have := h.1; omega, by omega, by omega, fun e => by have := (h3 x e).2.1; omega, fun e => by have := hL x e; omega⟩
theorem row_blk {w w' : World} {B mb b g ob : Nat} {vs : Value} {sets : List (List Int)} {L : List Nat} {t zs : List Int} (h : NumAns w w' B mb b g vs sets (ob :: L) t) (hM : Mk w B mb b g vs sets (ob :: L)) (hi : IntBlk w ob 3 .i64 zs) : IntBlk w' ob 3 .i64 zs := by
  obtain ⟨vs', -, h2, -, -⟩ := h
  obtain ⟨h1, hb, h3, h4, us, ho, -⟩ := hM
  refine hi.keep (h2 ob hi.lt (fun e => ?_) (fun e => ?_) (own_blk_ne ho hi (by decide)))
  · subst e
    unfold IntBlk at hi
    rw [hi] at h3
    injection h3 with h3
    injection h3 with _ h3
    exact absurd h3 (by decide)
  · subst e
    obtain ⟨es, c, hh, -⟩ := h4
    unfold IntBlk at hi
    rw [hi] at hh
    cases hh
theorem blk_slot {w : World} {ob : Nat} {zs : List Int} (h : IntBlk w ob 3 .i64 zs) {j : Nat} (hj : j < zs.length) : w.cell? ⟨ob, j, none⟩ = some (.int .i64 (nth zs j)) ∧ w.frozen? ⟨ob, j, none⟩ = false := ⟨h.cell hj, h.frozen j⟩
def RowAns (w w' : World) (B mb b g : Nat) (vs : Value) (sets' : List (List Int)) (L : List Nat) : Prop :=
  ∃ vs', Mk w' B mb b g vs' sets' L ∧ (∀ x, x < w.heap.size → x ≠ mb → x ≠ b → vs.ownBlock ≠ some x → w'.heap[x]? = w.heap[x]?) ∧ Below B w w' ∧ (vs'.ownBlock = vs.ownBlock ∨ ∃ k, vs'.ownBlock = some k ∧ w.heap.size ≤ k)
theorem info3b : (Try.prog.info? 3).map (fun i => (i.zero, i.size, i.bytes)) = some (some (.int .i64 0), 1, 8) := by kernel_rfl
theorem make37 (w : World) : (Instr.makeSlice 23 (.int .i64 37) (.int .i64 37)).run Try.prog w = .ok (.slice (some ⟨w.heap.size, 0, none⟩) 37 37) (w.alloc (.cells (Array.replicate 37 (Value.int .i64 0)) 3)) :=
  run_make_ints 23 3 .i64 .i64 .i64 Try.underlying23 info3b 37 (by decide) w
theorem Mk.wider {w : World} {B mb b g : Nat} {vs : Value} {sets : List (List Int)} {L : List Nat} (h : Mk w B mb b g vs sets L) : Mk (w.alloc (.cells (Array.replicate 37 (Value.int .i64 0)) 3)) B mb b g vs sets (w.heap.size :: L) := by
  obtain ⟨h1, h2, h3, h4, us, ho, hs⟩ := h
  have hb : Below w.heap.size w (w.alloc (.cells (Array.replicate 37 (Value.int .i64 0)) 3)) := (Below.refl _ _).alloc (Nat.le_refl _) _
  have hlm := (Array.getElem?_eq_some_iff.1 h3).1
  refine ⟨h1, h2, (hb.block mb hlm).trans h3, h4.below hb, us, ho.kept (grown_of_below hb none) (Classical.em _), fun k r hr => ?_⟩
  obtain ⟨v, e, hn⟩ := hs k r hr
  refine ⟨v, e, ((hn.mono (S' := fun x => (B ≤ x ∧ x ≠ mb ∧ x ≠ b ∧ vs.ownBlock ≠ some x ∧ x ∉ L) ∧ x < w.heap.size) fun x hx hlt => ⟨hx, hlt⟩).below hb).mono fun x hx _ => ⟨hx.1.1, hx.1.2.1, hx.1.2.2.1, hx.1.2.2.2.1, fun e => ?_⟩⟩
  rcases List.mem_cons.1 e with e | e
  · have := hx.2; omega
  · exact hx.1.2.2.2.2 e
theorem Mk.less {w : World} {B mb b g ob : Nat} {vs : Value} {sets : List (List Int)} {L : List Nat} (h : Mk w B mb b g vs sets (ob :: L)) : Mk w B mb b g vs sets L := by
  obtain ⟨h1, h2, h3, h4, us, ho, hs⟩ := h
  refine ⟨h1, h2, h3, h4, us, ho, fun k r hr => ?_⟩
  obtain ⟨v, e, hn⟩ := hs k r hr
  exact ⟨v, e, hn.mono fun x hx _ => ⟨hx.1, hx.2.1, hx.2.2.1, hx.2.2.2.1, fun e => hx.2.2.2.2 (List.mem_cons_of_mem _ e)⟩⟩
/-- A cell of the row set: the maker stays. -/
theorem Mk.put {w : World} {B mb b g ob : Nat} {vs : Value} {sets : List (List Int)} {L : List Nat} {zs : List Int} (h : Mk w B mb b g vs sets (ob :: L)) (hi : IntBlk w ob 3 .i64 zs) (j : Nat) (v : Value) : Mk (w.setCell ⟨ob, j, none⟩ v) B mb b g vs sets (ob :: L) := by
  have hlt := h.lt
  obtain ⟨h1, hb, h3, h4, us, ho, hs⟩ := h
  have hne : ob ≠ mb := fun e => by
    subst e
    unfold IntBlk at hi
    rw [hi] at h3
    injection h3 with h3
    injection h3 with _ h3
    exact absurd h3 (by decide)
  have hneb : ob ≠ b := fun e => by
    subst e
    obtain ⟨es, c, hh, -⟩ := h4
    unfold IntBlk at hi
    rw [hi] at hh
    cases hh
  have hnev : vs.ownBlock ≠ some ob := own_blk_ne ho hi (by decide)
  have k : ∀ x, x ≠ ob → (w.setCell ⟨ob, j, none⟩ v).heap[x]? = w.heap[x]? := fun x hx => heap_setCell_other _ _ _ _ hx
  refine ⟨h1, hb, (k mb hne.symm).trans h3, h4.keep (k b hneb.symm), us, ownsRow_setCell_other ho hnev v, fun q r hr => ?_⟩
  obtain ⟨u, e, hn⟩ := hs q r hr
  exact ⟨u, e, hn.keep fun x hx _ => k x fun e => hx.2.2.2.2 (by rw [e]; exact List.mem_cons_self)⟩
theorem row_set {l : List Int} {j : Nat} (hl : l.length = j) (hj : j < 37) (z : Int) : (l ++ List.replicate (37 - j) 0).set j z = l ++ [z] ++ List.replicate (37 - (j + 1)) 0 := by
  rw [List.set_append_right _ _ (by omega), hl, Nat.sub_self, show 37 - j = (37 - (j + 1)) + 1 by omega, List.replicate_succ, List.set_cons_zero]
  simp
theorem row_next {w wr w1 w2 : World} {B mb b g ob j : Nat} {vs vk : Value} {sets : List (List Int)} {L : List Nat} {search : Bool} {s : Bs} {cur : List Int} (hob : ob = w.heap.size) (hM : Mk wr B mb b g vk (setsTo search s cur sets j) (ob :: L))
    (hK : ∀ x, x < w.heap.size → x ≠ mb → x ≠ b → vs.ownBlock ≠ some x → wr.heap[x]? = w.heap[x]?) (hB : Below B w wr) (hW : vk.ownBlock = vs.ownBlock ∨ ∃ k, vk.ownBlock = some k ∧ w.heap.size ≤ k) (hb1 : Below wr.heap.size wr w1)
    (hA : NumAns w1 w2 B mb b g vk (setsTo search s cur sets j) (ob :: L) (stepB search s (j : Int) cur)) (hI : IntBlk w2 ob 3 .i64 (rowTo search s cur sets j ++ List.replicate (37 - j) 0)) (hj : j < 37) (hBw : B ≤ w.heap.size) :
    ∃ v2, Mk (w2.setCell ⟨ob, j, none⟩ (.int .i64 ((setsTo search s cur sets j).idxOf (stepB search s (j : Int) cur) : Nat))) B mb b g v2 (setsTo search s cur sets (j + 1)) (ob :: L) ∧
      IntBlk (w2.setCell ⟨ob, j, none⟩ (.int .i64 ((setsTo search s cur sets j).idxOf (stepB search s (j : Int) cur) : Nat))) ob 3 .i64 (rowTo search s cur sets (j + 1) ++ List.replicate (37 - (j + 1)) 0) ∧
      (∀ x, x < w.heap.size → x ≠ mb → x ≠ b → vs.ownBlock ≠ some x → (w2.setCell ⟨ob, j, none⟩ (.int .i64 ((setsTo search s cur sets j).idxOf (stepB search s (j : Int) cur) : Nat))).heap[x]? = w.heap[x]?) ∧
      Below B w (w2.setCell ⟨ob, j, none⟩ (.int .i64 ((setsTo search s cur sets j).idxOf (stepB search s (j : Int) cur) : Nat))) ∧ (v2.ownBlock = vs.ownBlock ∨ ∃ k, v2.ownBlock = some k ∧ w.heap.size ≤ k) ∧
      ob < (w2.setCell ⟨ob, j, none⟩ (.int .i64 ((setsTo search s cur sets j).idxOf (stepB search s (j : Int) cur) : Nat))).heap.size := by
  obtain ⟨v2, a1, a2, a3, a4⟩ := hA
  have s1 := hb1.size
  have s0 := hB.size
  refine ⟨v2, a1.put hI j _, ?_, fun x hx c1 c2 c3 => ?_, ?_, ?_, ?_⟩
  · have h := hI.set j (((setsTo search s cur sets j).idxOf (stepB search s (j : Int) cur) : Nat) : Int)
    rw [row_set (rowTo_len j) hj] at h
    exact h
  · rw [heap_setCell_other _ _ _ _ (show x ≠ ob by omega)]
    refine (a2 x (by omega) c1 c2 fun e => ?_).trans ((hb1.block x (by omega)).trans (hK x hx c1 c2 c3))
    rcases hW with hW | ⟨k, hk, hk2⟩
    · rw [hW] at e; exact c3 e
    · rw [hk] at e; injection e with e; omega
  · have h1 : Below B wr w1 := hb1.mono (by omega)
    exact ((hB.trans h1).trans a3).setCell (p := ⟨ob, j, none⟩) (show B ≤ ob by omega) _
  · rcases a4 with a4 | ⟨k, hk, hk2⟩
    · rw [a4]; exact hW
    · exact .inr ⟨k, hk, by omega⟩
  · have h := hI.lt
    simp
    exact h
set_option maxRecDepth 100000 in
set_option maxHeartbeats 8000000 in
theorem row_any {w0 w : World} {B mb b g : Nat} {vs : Value} {sets : List (List Int)} {L : List Nat} {search : Bool} {s : Bs} {i : Nat} {cur : List Int} (h : Mk w B mb b g vs sets L) (hL : ∀ k ∈ L, k < w.heap.size) (hB0 : w0.heap.size = B) (hnf : IsNfa w0 g search s) (hb0 : Below B w0 w) (hG : Good s) (hs : ∀ x ∈ sets, Fit x) (hi : sets[i]? = some cur) (hci : ∀ z ∈ cur, i64ok z) (hn : sets.length ≤ 1000) :
    Calls Try.prog 63 #[.pointer (some ⟨mb, 0, none⟩), .int .i64 (i : Int)] w fun e w' => ∃ ob, e = .returned (.slice (some ⟨ob, 0, none⟩) 37 37) ∧ w.heap.size ≤ ob ∧ IntBlk w' ob 3 .i64 (rowTo search s cur sets 37) ∧ RowAns w w' B mb b g vs (setsTo search s cur sets 37) L := by
  have HM0 := hid h
  have HL := hid hL
  have HNF := hid hnf
  have HB0 := hid hB0
  have HBW := hid hb0
  have HG := hid hG
  have HSF := hid hs
  have HI := hid hi
  have HCO := hid (And.intro hci (show cur.length ≤ 10000 from (hs cur (List.mem_of_getElem? hi)).2))
  have hi1000 : i < sets.length := (List.getElem?_eq_some_iff.1 hi).1
  have HLT0 := hid h.lt
  have hmk := make37 w
  obtain ⟨W, hW⟩ : ∃ W, W = w.alloc (.cells (Array.replicate 37 (Value.int .i64 0)) 3) := ⟨_, rfl⟩
  have HMW := hid (show Mk W B mb b g vs sets (w.heap.size :: L) by rw [hW]; exact h.wider)
  have HWB := hid (show Below w.heap.size w W by rw [hW]; exact (Below.refl _ _).alloc (Nat.le_refl _) _)
  have HIW := hid (show IntBlk W w.heap.size 3 .i64 (rowTo search s cur sets 0 ++ List.replicate 37 0) by
    show W.heap[w.heap.size]? = _
    rw [hW, heap_alloc_new]
    rfl)
  rw [← hW] at hmk
  obtain ⟨ob, hob⟩ : ∃ ob, ob = w.heap.size := ⟨_, rfl⟩
  have HOBE := hid hob
  have HWS := hid (show W.heap.size = ob + 1 by rw [hW, hob]; simp)
  rw [← hob] at HMW HIW hmk
  have HSTART := hid (show W.heap.size = w.heap.size + 1 by rw [hW]; simp)
  clear h hL hB0 hnf hb0 hG hs hi hci hW hob
  go_enter Try.func63, Try.ntmps63
  go_wp2_with fail
  go_loopw [6, 10] (fun _ s10 wr => ∃ (j : Nat) (vk : Value), j ≤ 37 ∧ s10 = .int .i64 j ∧ Hid (Mk wr B mb b g vk (setsTo search s cur sets j) (ob :: L)) ∧ Hid (IntBlk wr ob 3 .i64 (rowTo search s cur sets j ++ List.replicate (37 - j) 0)) ∧
    Hid (∀ x, x < w.heap.size → x ≠ mb → x ≠ b → vs.ownBlock ≠ some x → wr.heap[x]? = w.heap[x]?) ∧ Hid (Below B w wr) ∧ Hid (vk.ownBlock = vs.ownBlock ∨ ∃ k, vk.ownBlock = some k ∧ w.heap.size ≤ k) ∧ Hid (ob < wr.heap.size)) (fun _ s10 _ => 37 - (intOf s10).toNat)
  case atStart => exact ⟨0, vs, by omega, rfl, HMW, HIW, hid (fun x hx _ _ _ => HWB.out.block x hx), hid (HWB.out.mono (by have := HLT0.out.1; have := HM0.out.1; omega)), hid (.inl rfl), hid (by rw [HWS.out]; omega)⟩
  case round =>
    obtain ⟨j, vk, hj, rfl, HMK, HIB, HKP, HBr, HOW, HOBL⟩ := hrel
    by_cases hlt : j < 37
    · obtain ⟨-, -, hmb, -, us, hus, hrow⟩ := id HMK.out
      obtain ⟨VA, vc, rfl, -, -, hVA⟩ := own_arr hus
      have hget : (setsTo search s cur sets j)[i]? = some cur := setsTo_get HI.out j
      obtain ⟨cv, ecv, hcv⟩ := hrow i cur hget
      obtain ⟨CA, cc, rfl⟩ := hcv.form
      obtain ⟨qb, qo, eVA, _, hqb, q0⟩ := hVA.at ecv
      have hilen : i < (setsTo search s cur sets j).length := (List.getElem?_eq_some_iff.1 hget).1
      have HSL := hid (show (setsTo search s cur sets j).length ≤ 100000 by have := (setsTo_len (search := search) (s := s) (cur := cur) (sets := sets) j).1; omega)
      subst eVA
      obtain ⟨m0, m1, m2, mf⟩ := slot3 hmb
      have D0 : Below wr.heap.size wr wr.drew := (Below.refl _ _).drew
      have HD0 := hid D0
      have HBT := hid (HBW.out.trans HBr.out)
      have HNr := hid (show IsNfa wr g search s from HNF.out.below (by rw [HB0.out]; exact HBT.out))
      have HNd := hid (HNr.out.below D0)
      have HCd := hid (hcv.below D0)
      have HOB := hid (show ∀ k ∈ ob :: L, k < wr.heap.size from fun k hk => by
        rcases List.mem_cons.1 hk with rfl | hk
        · exact HOBL.out
        · have h1 := HL.out k hk
          have h2 := HBr.out.size
          omega)
      have HFS := hid (setsTo_fit (search := search) (cur := cur) HG.out HSF.out j)
      have HFT := hid (step_fit (search := search) (cur := cur) (m := (j : Int)) HG.out)
      have HLN := HSL
      have hj37 : j < (rowTo search s cur sets j ++ List.replicate (37 - j) 0).length := by simp [rowTo_len]; omega
      have HJ37 := hid hj37
      clear hmb hus hrow hVA hget ecv hcv hqb D0 mf hj37
      go_wp2_with fail

      refine wp_region_held_drew (S := (fun _ => True)) (by kernel_rfl) (by exact trivial) (fun hHeld => ?_)
      refine wpAnyH_take (i := 0) (oi := { dst := some 13, op := Op.move (Operand.tmp 5), type := _, pos := _, after := _, guard := none }) (v := ?_) rfl (by kernel_rfl) (by kernel_rfl) (by kernel_rfl) (fun _ _ _ h => h) (Or.inl ⟨by rfl, ?_⟩) (by assumption) ?_
      rotate_left
      · intro w hSw; (try dsimp only at hSw); go_simp; try with_reducible rfl
      try simp only [Act.put, List.setIfInBounds_toArray, List.set_cons_zero, List.set_cons_succ]
      refine wpAnyH_take (i := 1) (oi := { dst := some 14, op := Op.move (Operand.tmp 6), type := _, pos := _, after := _, guard := none }) (v := ?_) rfl (by kernel_rfl) (by kernel_rfl) (by kernel_rfl) (fun _ _ _ h => h) (Or.inl ⟨by rfl, ?_⟩) (by assumption) ?_
      rotate_left
      · intro w hSw; (try dsimp only at hSw); go_simp; try with_reducible rfl
      try simp only [Act.put, List.setIfInBounds_toArray, List.set_cons_zero, List.set_cons_succ]
      refine wpAnyH_take (i := 2) (oi := { dst := some 15, op := Op.move (Operand.tmp 0), type := _, pos := _, after := _, guard := none }) (v := ?_) rfl (by kernel_rfl) (by kernel_rfl) (by kernel_rfl) (fun _ _ _ h => h) (Or.inl ⟨by rfl, ?_⟩) (by assumption) ?_
      rotate_left
      · intro w hSw; (try dsimp only at hSw); go_simp; try with_reducible rfl
      try simp only [Act.put, List.setIfInBounds_toArray, List.set_cons_zero, List.set_cons_succ]
      refine wpAnyH_take (i := 3) (oi := { dst := some 16, op := Op.move (Operand.tmp 0), type := _, pos := _, after := _, guard := none }) (v := ?_) rfl (by kernel_rfl) (by kernel_rfl) (by kernel_rfl) (fun _ _ _ h => h) (Or.inl ⟨by rfl, ?_⟩) (by assumption) ?_
      rotate_left
      · intro w hSw; (try dsimp only at hSw); go_simp; try with_reducible rfl
      try simp only [Act.put, List.setIfInBounds_toArray, List.set_cons_zero, List.set_cons_succ]
      refine wpAnyH_take (i := 4) (oi := { dst := some 17, op := Op.nilCheck (Operand.tmp 16), type := _, pos := _, after := _, guard := none }) (v := ?_) rfl (by kernel_rfl) (by kernel_rfl) (by kernel_rfl) (fun _ _ _ h => h) (Or.inl ⟨by rfl, ?_⟩) (by assumption) ?_
      rotate_left
      · intro w hSw; (try dsimp only at hSw); go_simp; try with_reducible rfl
      try simp only [Act.put, List.setIfInBounds_toArray, List.set_cons_zero, List.set_cons_succ]
      refine wpAnyH_take (i := 5) (oi := { dst := some 18, op := Op.fieldAddr 108 (Operand.tmp 17) 0, type := _, pos := _, after := _, guard := none }) (v := ?_) rfl (by kernel_rfl) (by kernel_rfl) (by kernel_rfl) (fun _ _ _ h => h) (Or.inl ⟨by rfl, ?_⟩) (by assumption) ?_
      rotate_left
      · intro w hSw; (try dsimp only at hSw); go_simp; try with_reducible rfl
      try simp only [Act.put, List.setIfInBounds_toArray, List.set_cons_zero, List.set_cons_succ]
      refine wpAnyH_take (i := 7) (oi := { dst := some 20, op := Op.move (Operand.tmp 0), type := _, pos := _, after := _, guard := none }) (v := ?_) rfl (by kernel_rfl) (by kernel_rfl) (by kernel_rfl) (fun _ _ _ h => h) (Or.inl ⟨by rfl, ?_⟩) (by assumption) ?_
      rotate_left
      · intro w hSw; (try dsimp only at hSw); go_simp; try with_reducible rfl
      try simp only [Act.put, List.setIfInBounds_toArray, List.set_cons_zero, List.set_cons_succ]
      refine wpAnyH_take (i := 8) (oi := { dst := some 21, op := Op.nilCheck (Operand.tmp 20), type := _, pos := _, after := _, guard := none }) (v := ?_) rfl (by kernel_rfl) (by kernel_rfl) (by kernel_rfl) (fun _ _ _ h => h) (Or.inl ⟨by rfl, ?_⟩) (by assumption) ?_
      rotate_left
      · intro w hSw; (try dsimp only at hSw); go_simp; try with_reducible rfl
      try simp only [Act.put, List.setIfInBounds_toArray, List.set_cons_zero, List.set_cons_succ]
      refine wpAnyH_take (i := 9) (oi := { dst := some 22, op := Op.fieldAddr 108 (Operand.tmp 21) 2, type := _, pos := _, after := _, guard := none }) (v := ?_) rfl (by kernel_rfl) (by kernel_rfl) (by kernel_rfl) (fun _ _ _ h => h) (Or.inl ⟨by rfl, ?_⟩) (by assumption) ?_
      rotate_left
      · intro w hSw; (try dsimp only at hSw); go_simp; try with_reducible rfl
      try simp only [Act.put, List.setIfInBounds_toArray, List.set_cons_zero, List.set_cons_succ]
      refine wpAnyH_take (i := 11) (oi := { dst := some 24, op := Op.move (Operand.tmp 1), type := _, pos := _, after := _, guard := none }) (v := ?_) rfl (by kernel_rfl) (by kernel_rfl) (by kernel_rfl) (fun _ _ _ h => h) (Or.inl ⟨by rfl, ?_⟩) (by assumption) ?_
      rotate_left
      · intro w hSw; (try dsimp only at hSw); go_simp; try with_reducible rfl
      try simp only [Act.put, List.setIfInBounds_toArray, List.set_cons_zero, List.set_cons_succ]
      refine wpAnyH_take (i := 14) (oi := { dst := some 27, op := Op.move (Operand.tmp 6), type := _, pos := _, after := _, guard := none }) (v := ?_) rfl (by kernel_rfl) (by kernel_rfl) (by kernel_rfl) (fun _ _ _ h => h) (Or.inl ⟨by rfl, ?_⟩) (by assumption) ?_
      rotate_left
      · intro w hSw; (try dsimp only at hSw); go_simp; try with_reducible rfl
      try simp only [Act.put, List.setIfInBounds_toArray, List.set_cons_zero, List.set_cons_succ]
      refine wpAnyH_ready (rs := [6, 10]) (by kernel_rfl) (by simp) ?_
      refine AllReadyH.cons (o := { dst := some 19, op := Op.load 26 (Operand.tmp 18), type := _, pos := _, after := _, guard := none }) rfl ?legA1 (AllReadyH.cons (o := { dst := some 23, op := Op.load 56 (Operand.tmp 22), type := _, pos := _, after := _, guard := none }) rfl ?legB1 AllReadyH.nil)
      case' legA1 =>
        intro K hK
        go_simp
        refine hK.out _ _ (by trivial) (fun hHeld => ?_)
        clear hK K
        try simp only [Act.put, List.setIfInBounds_toArray, List.set_cons_zero, List.set_cons_succ]
        refine wpAnyH_ready (rs := [10]) (by kernel_rfl) (by simp) ?_
        refine AllReadyH.cons (o := { dst := some 23, op := Op.load 56 (Operand.tmp 22), type := _, pos := _, after := _, guard := none }) rfl (fun K hK => ?_) AllReadyH.nil
        go_simp
        refine hK.out _ _ (by trivial) (fun hHeld => ?_)
        clear hK K
        try simp only [Act.put, List.setIfInBounds_toArray, List.set_cons_zero, List.set_cons_succ]
        refine wpAnyH_take (i := 12) (oi := { dst := some 25, op := Op.indexAddr 56 (Operand.tmp 23) (Operand.tmp 24), type := _, pos := _, after := _, guard := none }) (v := ?_) rfl (by kernel_rfl) (by kernel_rfl) (by kernel_rfl) (fun _ _ _ h => h) (Or.inl ⟨by rfl, ?_⟩) (by assumption) ?_
        rotate_left
        · intro w hSw; (try dsimp only at hSw); go_simp; try with_reducible rfl
        try simp only [Act.put, List.setIfInBounds_toArray, List.set_cons_zero, List.set_cons_succ]
        refine wpAnyH_ready (rs := [13]) (by kernel_rfl) (by simp) ?_
        refine AllReadyH.cons (o := { dst := some 26, op := Op.load 23 (Operand.tmp 25), type := _, pos := _, after := _, guard := none }) rfl (fun K hK => ?_) AllReadyH.nil
        go_simp
        refine hK.out _ _ (by trivial) (fun hHeld => ?_)
        clear hK K
        try simp only [Act.put, List.setIfInBounds_toArray, List.set_cons_zero, List.set_cons_succ]
        refine wpAnyH_ready (rs := [15]) (by kernel_rfl) (by simp) ?_
        refine AllReadyH.cons (o := { dst := some 28, op := Op.call { callee := Callee.value (Operand.func 24), args := #[Operand.tmp 19, Operand.tmp 26, Operand.tmp 27], argTypes := #[26, 23, 3] }, type := _, pos := _, after := _, guard := none }) rfl (fun K hK => ?_) AllReadyH.nil
        go_simp
        refine (gstep_any g search s _ _ cur (j : Int) wr.drew HNd.out HG.out HCd.out HCO.out.1 HCO.out.2).mono ?_; rintro e w1 ⟨v1, rfl, hv1, hb1⟩; have HB1 := hid (ends_true HD0.out hb1); have HMK1 := hid (HMK.out.below HB1.out); have HIB1 := hid (HIB.out.keep (HB1.out.block _ HIB.out.lt)); have HV1 := hid (step_nums HMK.out HOB.out hv1 HB1.out); clear hv1 hb1; go_wp2_with fail
        refine hK.out _ _ (by trivial) (fun hHeld => ?_)
        clear hK K
        try simp only [Act.put, List.setIfInBounds_toArray, List.set_cons_zero, List.set_cons_succ]
        refine wpAnyH_ready (rs := [16]) (by kernel_rfl) (by simp) ?_
        refine AllReadyH.cons (o := { dst := some 29, op := Op.call { callee := Callee.value (Operand.func 62), args := #[Operand.tmp 15, Operand.tmp 28], argTypes := #[105, 23] }, type := _, pos := _, after := _, guard := none }) rfl (fun K hK => ?_) AllReadyH.nil
        go_simp
        refine (number_any HMK1.out HFS.out HFT.out HLN.out HV1.out).mono ?_; rintro e w2 ⟨rfl, hans⟩; have HAN := hid hans; have HIB2 := hid (row_blk HAN.out HMK1.out HIB1.out); clear hans; obtain ⟨ob2, of2⟩ := blk_slot HIB2.out (j := j) HJ37.out; go_wp2_with fail
        refine hK.out _ _ (by trivial) (fun hHeld => ?_)
        clear hK K
        try simp only [Act.put, List.setIfInBounds_toArray, List.set_cons_zero, List.set_cons_succ]
        refine wpAnyH_take (i := 17) (oi := { dst := some 30, op := Op.indexAddr 23 (Operand.tmp 13) (Operand.tmp 14), type := _, pos := _, after := _, guard := none }) (v := ?_) rfl (by kernel_rfl) (by kernel_rfl) (by kernel_rfl) (fun _ _ _ h => h) (Or.inl ⟨by rfl, ?_⟩) (by assumption) ?_
        rotate_left
        · intro w hSw; (try dsimp only at hSw); go_simp; try with_reducible rfl
        try simp only [Act.put, List.setIfInBounds_toArray, List.set_cons_zero, List.set_cons_succ]
        refine wpAnyH_ready (rs := [18]) (by kernel_rfl) (by simp) ?_
        refine AllReadyH.cons (o := { dst := none, op := Op.store 3 (Operand.tmp 30) (Operand.tmp 29), type := _, pos := _, after := _, guard := none }) rfl (fun K hK => ?_) AllReadyH.nil
        go_simp
        refine hK.out _ _ (by trivial) (fun hHeld => ?_)
        clear hK K
        try simp only [Act.put, List.setIfInBounds_toArray, List.set_cons_zero, List.set_cons_succ]
        refine wpAnyH_done (by kernel_rfl) ?_ _
        have HNX := hid (row_next HOBE.out HMK.out HKP.out HBr.out HOW.out HB1.out HAN.out HIB2.out hlt (by have := HLT0.out.1; have := HM0.out.1; omega))
        obtain ⟨v2, k1, k2, k3, k4, k5, k6⟩ := HNX.out
        go_wp2_with fail
        exact ⟨⟨j + 1, v2, by omega, by go_num, hid k1, hid k2, hid k3, hid k4, hid k5, hid k6⟩, by simp [intOf]; omega⟩
      case' legB1 =>
        intro K hK
        go_simp
        refine hK.out _ _ (by trivial) (fun hHeld => ?_)
        clear hK K
        try simp only [Act.put, List.setIfInBounds_toArray, List.set_cons_zero, List.set_cons_succ]
        refine wpAnyH_take (i := 12) (oi := { dst := some 25, op := Op.indexAddr 56 (Operand.tmp 23) (Operand.tmp 24), type := _, pos := _, after := _, guard := none }) (v := ?_) rfl (by kernel_rfl) (by kernel_rfl) (by kernel_rfl) (fun _ _ _ h => h) (Or.inl ⟨by rfl, ?_⟩) (by assumption) ?_
        rotate_left
        · intro w hSw; (try dsimp only at hSw); go_simp; try with_reducible rfl
        try simp only [Act.put, List.setIfInBounds_toArray, List.set_cons_zero, List.set_cons_succ]
        refine wpAnyH_ready (rs := [6, 13]) (by kernel_rfl) (by simp) ?_
        refine AllReadyH.cons (o := { dst := some 19, op := Op.load 26 (Operand.tmp 18), type := _, pos := _, after := _, guard := none }) rfl ?legA2 (AllReadyH.cons (o := { dst := some 26, op := Op.load 23 (Operand.tmp 25), type := _, pos := _, after := _, guard := none }) rfl ?legB2 AllReadyH.nil)
        case' legA2 =>
          intro K hK
          go_simp
          refine hK.out _ _ (by trivial) (fun hHeld => ?_)
          clear hK K
          try simp only [Act.put, List.setIfInBounds_toArray, List.set_cons_zero, List.set_cons_succ]
          refine wpAnyH_ready (rs := [13]) (by kernel_rfl) (by simp) ?_
          refine AllReadyH.cons (o := { dst := some 26, op := Op.load 23 (Operand.tmp 25), type := _, pos := _, after := _, guard := none }) rfl (fun K hK => ?_) AllReadyH.nil
          go_simp
          refine hK.out _ _ (by trivial) (fun hHeld => ?_)
          clear hK K
          try simp only [Act.put, List.setIfInBounds_toArray, List.set_cons_zero, List.set_cons_succ]
          refine wpAnyH_ready (rs := [15]) (by kernel_rfl) (by simp) ?_
          refine AllReadyH.cons (o := { dst := some 28, op := Op.call { callee := Callee.value (Operand.func 24), args := #[Operand.tmp 19, Operand.tmp 26, Operand.tmp 27], argTypes := #[26, 23, 3] }, type := _, pos := _, after := _, guard := none }) rfl (fun K hK => ?_) AllReadyH.nil
          go_simp
          refine (gstep_any g search s _ _ cur (j : Int) wr.drew HNd.out HG.out HCd.out HCO.out.1 HCO.out.2).mono ?_; rintro e w1 ⟨v1, rfl, hv1, hb1⟩; have HB1 := hid (ends_true HD0.out hb1); have HMK1 := hid (HMK.out.below HB1.out); have HIB1 := hid (HIB.out.keep (HB1.out.block _ HIB.out.lt)); have HV1 := hid (step_nums HMK.out HOB.out hv1 HB1.out); clear hv1 hb1; go_wp2_with fail
          refine hK.out _ _ (by trivial) (fun hHeld => ?_)
          clear hK K
          try simp only [Act.put, List.setIfInBounds_toArray, List.set_cons_zero, List.set_cons_succ]
          refine wpAnyH_ready (rs := [16]) (by kernel_rfl) (by simp) ?_
          refine AllReadyH.cons (o := { dst := some 29, op := Op.call { callee := Callee.value (Operand.func 62), args := #[Operand.tmp 15, Operand.tmp 28], argTypes := #[105, 23] }, type := _, pos := _, after := _, guard := none }) rfl (fun K hK => ?_) AllReadyH.nil
          go_simp
          refine (number_any HMK1.out HFS.out HFT.out HLN.out HV1.out).mono ?_; rintro e w2 ⟨rfl, hans⟩; have HAN := hid hans; have HIB2 := hid (row_blk HAN.out HMK1.out HIB1.out); clear hans; obtain ⟨ob2, of2⟩ := blk_slot HIB2.out (j := j) HJ37.out; go_wp2_with fail
          refine hK.out _ _ (by trivial) (fun hHeld => ?_)
          clear hK K
          try simp only [Act.put, List.setIfInBounds_toArray, List.set_cons_zero, List.set_cons_succ]
          refine wpAnyH_take (i := 17) (oi := { dst := some 30, op := Op.indexAddr 23 (Operand.tmp 13) (Operand.tmp 14), type := _, pos := _, after := _, guard := none }) (v := ?_) rfl (by kernel_rfl) (by kernel_rfl) (by kernel_rfl) (fun _ _ _ h => h) (Or.inl ⟨by rfl, ?_⟩) (by assumption) ?_
          rotate_left
          · intro w hSw; (try dsimp only at hSw); go_simp; try with_reducible rfl
          try simp only [Act.put, List.setIfInBounds_toArray, List.set_cons_zero, List.set_cons_succ]
          refine wpAnyH_ready (rs := [18]) (by kernel_rfl) (by simp) ?_
          refine AllReadyH.cons (o := { dst := none, op := Op.store 3 (Operand.tmp 30) (Operand.tmp 29), type := _, pos := _, after := _, guard := none }) rfl (fun K hK => ?_) AllReadyH.nil
          go_simp
          refine hK.out _ _ (by trivial) (fun hHeld => ?_)
          clear hK K
          try simp only [Act.put, List.setIfInBounds_toArray, List.set_cons_zero, List.set_cons_succ]
          refine wpAnyH_done (by kernel_rfl) ?_ _
          have HNX := hid (row_next HOBE.out HMK.out HKP.out HBr.out HOW.out HB1.out HAN.out HIB2.out hlt (by have := HLT0.out.1; have := HM0.out.1; omega))
          obtain ⟨v2, k1, k2, k3, k4, k5, k6⟩ := HNX.out
          go_wp2_with fail
          exact ⟨⟨j + 1, v2, by omega, by go_num, hid k1, hid k2, hid k3, hid k4, hid k5, hid k6⟩, by simp [intOf]; omega⟩
        case' legB2 =>
          intro K hK
          go_simp
          refine hK.out _ _ (by trivial) (fun hHeld => ?_)
          clear hK K
          try simp only [Act.put, List.setIfInBounds_toArray, List.set_cons_zero, List.set_cons_succ]
          refine wpAnyH_ready (rs := [6]) (by kernel_rfl) (by simp) ?_
          refine AllReadyH.cons (o := { dst := some 19, op := Op.load 26 (Operand.tmp 18), type := _, pos := _, after := _, guard := none }) rfl (fun K hK => ?_) AllReadyH.nil
          go_simp
          refine hK.out _ _ (by trivial) (fun hHeld => ?_)
          clear hK K
          try simp only [Act.put, List.setIfInBounds_toArray, List.set_cons_zero, List.set_cons_succ]
          refine wpAnyH_ready (rs := [15]) (by kernel_rfl) (by simp) ?_
          refine AllReadyH.cons (o := { dst := some 28, op := Op.call { callee := Callee.value (Operand.func 24), args := #[Operand.tmp 19, Operand.tmp 26, Operand.tmp 27], argTypes := #[26, 23, 3] }, type := _, pos := _, after := _, guard := none }) rfl (fun K hK => ?_) AllReadyH.nil
          go_simp
          refine (gstep_any g search s _ _ cur (j : Int) wr.drew HNd.out HG.out HCd.out HCO.out.1 HCO.out.2).mono ?_; rintro e w1 ⟨v1, rfl, hv1, hb1⟩; have HB1 := hid (ends_true HD0.out hb1); have HMK1 := hid (HMK.out.below HB1.out); have HIB1 := hid (HIB.out.keep (HB1.out.block _ HIB.out.lt)); have HV1 := hid (step_nums HMK.out HOB.out hv1 HB1.out); clear hv1 hb1; go_wp2_with fail
          refine hK.out _ _ (by trivial) (fun hHeld => ?_)
          clear hK K
          try simp only [Act.put, List.setIfInBounds_toArray, List.set_cons_zero, List.set_cons_succ]
          refine wpAnyH_ready (rs := [16]) (by kernel_rfl) (by simp) ?_
          refine AllReadyH.cons (o := { dst := some 29, op := Op.call { callee := Callee.value (Operand.func 62), args := #[Operand.tmp 15, Operand.tmp 28], argTypes := #[105, 23] }, type := _, pos := _, after := _, guard := none }) rfl (fun K hK => ?_) AllReadyH.nil
          go_simp
          refine (number_any HMK1.out HFS.out HFT.out HLN.out HV1.out).mono ?_; rintro e w2 ⟨rfl, hans⟩; have HAN := hid hans; have HIB2 := hid (row_blk HAN.out HMK1.out HIB1.out); clear hans; obtain ⟨ob2, of2⟩ := blk_slot HIB2.out (j := j) HJ37.out; go_wp2_with fail
          refine hK.out _ _ (by trivial) (fun hHeld => ?_)
          clear hK K
          try simp only [Act.put, List.setIfInBounds_toArray, List.set_cons_zero, List.set_cons_succ]
          refine wpAnyH_take (i := 17) (oi := { dst := some 30, op := Op.indexAddr 23 (Operand.tmp 13) (Operand.tmp 14), type := _, pos := _, after := _, guard := none }) (v := ?_) rfl (by kernel_rfl) (by kernel_rfl) (by kernel_rfl) (fun _ _ _ h => h) (Or.inl ⟨by rfl, ?_⟩) (by assumption) ?_
          rotate_left
          · intro w hSw; (try dsimp only at hSw); go_simp; try with_reducible rfl
          try simp only [Act.put, List.setIfInBounds_toArray, List.set_cons_zero, List.set_cons_succ]
          refine wpAnyH_ready (rs := [18]) (by kernel_rfl) (by simp) ?_
          refine AllReadyH.cons (o := { dst := none, op := Op.store 3 (Operand.tmp 30) (Operand.tmp 29), type := _, pos := _, after := _, guard := none }) rfl (fun K hK => ?_) AllReadyH.nil
          go_simp
          refine hK.out _ _ (by trivial) (fun hHeld => ?_)
          clear hK K
          try simp only [Act.put, List.setIfInBounds_toArray, List.set_cons_zero, List.set_cons_succ]
          refine wpAnyH_done (by kernel_rfl) ?_ _
          have HNX := hid (row_next HOBE.out HMK.out HKP.out HBr.out HOW.out HB1.out HAN.out HIB2.out hlt (by have := HLT0.out.1; have := HM0.out.1; omega))
          obtain ⟨v2, k1, k2, k3, k4, k5, k6⟩ := HNX.out
          go_wp2_with fail
          exact ⟨⟨j + 1, v2, by omega, by go_num, hid k1, hid k2, hid k3, hid k4, hid k5, hid k6⟩, by simp [intOf]; omega⟩
    · obtain rfl : j = 37 := by omega
      have HIF := hid (show IntBlk wr ob 3 .i64 (rowTo search s cur sets 37) by have h := HIB.out; simpa using h)
      go_wp2_with fail
      go_ret
      exact ⟨ob, rfl, by rw [HOBE.out]; exact Nat.le_refl _, HIF.out, vk, HMK.out.less, HKP.out, HBr.out, HOW.out⟩
end Go.Proofs.Ythdhbkngbmjjkaa
namespace Go.Proofs.Ythdhbkngbmjjkaa
open Go.RowKit
set_option linter.unusedSimpArgs false
def offL (db : Nat) (nv tv : Value) : List Nat := db :: (nv.ownBlock.toList ++ tv.ownBlock.toList)
theorem Mk.swap {w : World} {B mb b g : Nat} {vs : Value} {sets : List (List Int)} {L L' : List Nat} (h : Mk w B mb b g vs sets L) (hL : ∀ k ∈ L', k ∈ L ∨ w.heap.size ≤ k) : Mk w B mb b g vs sets L' := by
  obtain ⟨h1, h2, h3, h4, us, ho, hs⟩ := h
  refine ⟨h1, h2, h3, h4, us, ho, fun k r hr => ?_⟩
  obtain ⟨v, e, hn⟩ := hs k r hr
  refine ⟨v, e, hn.mono fun x hx hlt => ⟨hx.1, hx.2.1, hx.2.2.1, hx.2.2.2.1, fun e => ?_⟩⟩
  rcases hL x e with h5 | h5
  · exact hx.2.2.2.2 h5
  · omega
/-- The table that is made, and its maker. -/
def Dk (w : World) (B mb b g db : Nat) (vs nv tv : Value) (sets rows : List (List Int)) (tells : List Int) : Prop :=
  Mk w B mb b g vs sets (offL db nv tv) ∧ B ≤ db ∧ w.heap[db]? = some (.cells #[nv, tv] 59 (0, 0)) ∧ (∃ us, w.ownsRow B 23 1 nv rows.length us ∧ OwnRows w B us rows) ∧ w.ownsRow B 37 1 tv tells.length (tells.map (.int .u64)) ∧ ∀ k, nv.ownBlock = some k → vs.ownBlock ≠ some k
theorem cells_ne {w : World} {x y : Nat} {cs ds : Array Value} {t u : TypeId} (h : w.heap[x]? = some (.cells cs t (0, 0))) (h2 : w.heap[y]? = some (.cells ds u (0, 0))) (hne : t ≠ u) : x ≠ y := fun e => by
  subst e
  rw [h] at h2
  injection h2 with h2
  injection h2 with _ h2
  exact hne h2
theorem cells_map {w : World} {x y : Nat} {cs : Array Value} {t : TypeId} {m : List (ByteArray × Nat)} (h : w.heap[x]? = some (.cells cs t (0, 0))) (h2 : MapIs w y Value.string (fun s => s.size ≤ maxLen) (fun (i : Nat) u => u = Value.int .i64 (i : Int)) m) : x ≠ y := fun e => by
  subst e
  obtain ⟨es, c, hh, -⟩ := h2
  rw [h] at hh
  cases hh
theorem own_blk {w : World} {B e size n : Nat} {v : Value} {xs : List Value} (h : w.ownsRow B e size v n xs) {k : Nat} (hk : v.ownBlock = some k) : ∃ cs, w.heap[k]? = some (.cells cs e (0, 0)) := by
  rcases h.2 with ⟨rfl, _⟩ | ⟨q, cap, cur, rfl, _, hh, _⟩
  · cases hk
  · have : q = k := by simpa [Value.ownBlock] using hk
    subst this
    exact ⟨cur, hh⟩
section
variable {w w' : World} {B mb b g db : Nat} {vs nv tv : Value} {sets rows : List (List Int)} {tells : List Int}
theorem Dk.off (h : Dk w B mb b g db vs nv tv sets rows tells) : mb ∉ offL db nv tv ∧ b ∉ offL db nv tv ∧ (∀ k, vs.ownBlock = some k → k ∉ offL db nv tv) ∧ ∀ k ∈ offL db nv tv, B ≤ k ∧ k < w.heap.size := by
  obtain ⟨hM, hB, hd, ⟨us, hn, hr⟩, ht, hsep⟩ := h
  obtain ⟨h1, h2, h3, h4, uv, ho, hs⟩ := hM
  have memL : ∀ k, k ∈ offL db nv tv → k = db ∨ nv.ownBlock = some k ∨ tv.ownBlock = some k := fun k hk => by
    unfold offL at hk
    rcases List.mem_cons.1 hk with hk | hk
    · exact .inl hk
    · rcases List.mem_append.1 hk with hk | hk
      · exact .inr (.inl (by simpa using hk))
      · exact .inr (.inr (by simpa using hk))
  refine ⟨fun e => ?_, fun e => ?_, fun k hk e => ?_, fun k hk => ?_⟩
  · rcases memL _ e with e | e | e
    · exact cells_ne h3 hd (by decide) e
    · obtain ⟨cs, hc⟩ := own_blk hn e
      exact cells_ne h3 hc (by decide) rfl
    · obtain ⟨cs, hc⟩ := own_blk ht e
      exact cells_ne h3 hc (by decide) rfl
  · rcases memL _ e with e | e | e
    · exact cells_map hd h4 e.symm
    · obtain ⟨cs, hc⟩ := own_blk hn e
      exact cells_map hc h4 rfl
    · obtain ⟨cs, hc⟩ := own_blk ht e
      exact cells_map hc h4 rfl
  · obtain ⟨cs, hc⟩ := own_blk ho hk
    rcases memL _ e with e | e | e
    · exact cells_ne hc hd (by decide) e
    · exact hsep k e hk
    · obtain ⟨cs', hc'⟩ := own_blk ht e
      exact cells_ne hc hc' (by decide) rfl
  · rcases memL _ hk with e | e | e
    · subst e; exact ⟨hB, (Array.getElem?_eq_some_iff.1 hd).1⟩
    · exact hn.lt k e
    · exact ht.lt k e
/-- Behind a row: all of the table is as it was. -/
theorem Dk.row {sets' : List (List Int)} (h : Dk w B mb b g db vs nv tv sets rows tells) (hr : RowAns w w' B mb b g vs sets' (offL db nv tv)) : ∃ vs', Dk w' B mb b g db vs' nv tv sets' rows tells ∧ Below B w w' := by
  have hoff := h.off
  obtain ⟨hM, hB, hd, ⟨us, hn, hrow⟩, ht, hsep⟩ := h
  obtain ⟨h1, h2, h3, h4, uv, ho, hs⟩ := hM
  obtain ⟨vs', a1, a2, a3, a4⟩ := hr
  have kcells : ∀ {x : Nat} {cs : Array Value} {t : TypeId}, w.heap[x]? = some (.cells cs t (0, 0)) → t ≠ 108 → vs.ownBlock ≠ some x → w'.heap[x]? = w.heap[x]? := fun {x cs t} hx ht' hv => a2 x (Array.getElem?_eq_some_iff.1 hx).1 (cells_ne hx h3 ht') (cells_map hx h4) hv
  have kown : ∀ {e n : Nat} {v : Value} {xs : List Value}, w.ownsRow B e 1 v n xs → e ≠ 108 → (∀ k, v.ownBlock = some k → vs.ownBlock ≠ some k) → w'.ownsRow B e 1 v n xs := fun {e n v xs} hv he hk => by
    obtain ⟨r0, r1 | ⟨q, cap, cur, e1, hq, hh, r2⟩⟩ := hv
    · exact ⟨r0, .inl r1⟩
    · subst e1
      exact ⟨r0, .inr ⟨q, cap, cur, rfl, hq, (kcells hh he (hk q rfl)).trans hh, r2⟩⟩
  refine ⟨vs', ⟨a1, hB, (kcells hd (by decide) (own_blk_ne ho hd (by decide))).trans hd, ⟨us, kown hn (by decide) hsep, hrow.keep fun x l hx => kcells hx (by decide) (own_blk_ne ho hx (by decide))⟩, kown ht (by decide) fun k hk e => ?_, fun k hk e => ?_⟩, a3⟩
  · obtain ⟨cs, hc⟩ := own_blk ht hk
    exact own_blk_ne ho hc (by decide) e
  · rcases a4 with a4 | ⟨q, hq, hq2⟩
    · rw [a4] at e; exact hsep k hk e
    · rw [hq] at e; injection e with e; have := (hn.lt k hk).2; omega
/-- What changes at some blocks alone keeps the maker. -/
theorem Dk.mk {w4 : World} {nv' tv' : Value} (h : Dk w B mb b g db vs nv tv sets rows tells) (hn : ∀ k, nv'.ownBlock = some k → nv.ownBlock = some k ∨ w.heap.size ≤ k) (ht : ∀ k, tv'.ownBlock = some k → tv.ownBlock = some k ∨ w.heap.size ≤ k)
    (hk : ∀ x, x < w.heap.size → x ≠ db → nv.ownBlock ≠ some x → tv.ownBlock ≠ some x → w4.heap[x]? = w.heap[x]?) : Mk w4 B mb b g vs sets (offL db nv' tv') := by
  have hoff := h.off
  obtain ⟨hM, -⟩ := h
  have m1 : ∀ {k : Nat} {v : Value}, v.ownBlock = some k → k ∈ v.ownBlock.toList := fun e => by rw [e]; simp
  have hin : ∀ k, k ∈ offL db nv' tv' → k ∈ offL db nv tv ∨ w.heap.size ≤ k := fun k hk => by
    unfold offL at hk ⊢
    rcases List.mem_cons.1 hk with hk | hk
    · exact .inl (by rw [hk]; exact List.mem_cons_self)
    · rcases List.mem_append.1 hk with hk | hk
      · rcases hn k (by simpa using hk) with e | e
        · exact .inl (List.mem_cons_of_mem _ (List.mem_append.2 (.inl (m1 e))))
        · exact .inr e
      · rcases ht k (by simpa using hk) with e | e
        · exact .inl (List.mem_cons_of_mem _ (List.mem_append.2 (.inr (m1 e))))
        · exact .inr e
  have hlt := hM.lt
  have h2 : Mk w B mb b g vs sets (offL db nv tv ++ offL db nv' tv') := hM.swap fun k hk => by
    rcases List.mem_append.1 hk with hk | hk
    · exact .inl hk
    · exact hin k hk
  have hno : ∀ q, q < w.heap.size → q ∉ offL db nv tv → q ∉ offL db nv tv ++ offL db nv' tv' := fun q hq hq2 e => by
    rcases List.mem_append.1 e with e | e
    · exact hq2 e
    · rcases hin q e with e | e
      · exact hq2 e
      · omega
  have h3 : Mk w4 B mb b g vs sets (offL db nv tv ++ offL db nv' tv') := h2.keep (fun x _ hx hno' => hk x hx (fun e => hno' (by rw [e]; exact List.mem_append.2 (.inl List.mem_cons_self))) (fun e => hno' (List.mem_append.2 (.inl (List.mem_cons_of_mem _ (List.mem_append.2 (.inl (m1 e))))))) fun e => hno' (List.mem_append.2 (.inl (List.mem_cons_of_mem _ (List.mem_append.2 (.inr (m1 e)))))))
    (hno _ hlt.1 hoff.1) (hno _ hlt.2.1 hoff.2.1) fun k hk => hno k (hlt.2.2 k hk).2.1 (hoff.2.2.1 k hk)
  exact h3.swap fun k hk => .inl (List.mem_append.2 (.inr hk))
theorem kept_blocks {X w3 w4 : World} {o : Obj} {v v' : Value} {db i : Nat} (hX : X = w.alloc o) (hg : X.grownBy w3 v.ownBlock) (h4 : w4 = w3.setCell ⟨db, i, none⟩ v') : ∀ x, x < w.heap.size → x ≠ db → v.ownBlock ≠ some x → w4.heap[x]? = w.heap[x]? := fun x hx h1 h2 => by
  have sX : X.heap.size = w.heap.size + 1 := by rw [hX]; simp
  rw [h4, heap_setCell_other _ _ _ _ h1, hg.block x (by omega) fun e => h2 e.symm, hX]
  exact heap_alloc_old _ _ hx
theorem Dk.addRow {X w3 w4 : World} {nv' : Value} {us : List Value} {ob : Nat} {row : List Int} (h : Dk w B mb b g db vs nv tv sets rows tells) (hus : w.ownsRow B 23 1 nv rows.length us) (hrw : OwnRows w B us rows) (hi : IntBlk w ob 3 .i64 row) (hob : B ≤ ob) (hrl : row.length ≤ 1000000)
    (hX : X = w.alloc (.cells #[.slice (some ⟨ob, 0, none⟩) row.length row.length] 23)) (ho3 : w3.ownsRow B 23 1 nv' (rows.length + 1) (us ++ [.slice (some ⟨ob, 0, none⟩) row.length row.length])) (hg : X.grownBy w3 nv.ownBlock) (hv : nv'.ownBlock = nv.ownBlock ∨ nv'.ownBlock = some X.heap.size) (h4 : w4 = w3.setCell ⟨db, 0, none⟩ nv') :
    Dk w4 B mb b g db vs nv' tv sets (rows ++ [row]) tells ∧ Below B w w4 := by
  have sX : X.heap.size = w.heap.size + 1 := by rw [hX]; simp
  have hkb := kept_blocks hX hg h4
  have hlt := h.1.lt
  have hM := h.mk (nv' := nv') (tv' := tv) (w4 := w4) (fun k hk => by
    rcases hv with e | e
    · rw [e] at hk; exact .inl hk
    · rw [e] at hk; injection hk with hk; exact .inr (by omega)) (fun k hk => .inl hk) fun x hx h1 h2 _ => hkb x hx h1 h2
  obtain ⟨hM0, hB, hd, -, ht, hsep⟩ := h
  have hdn : nv.ownBlock ≠ some db := own_blk_ne hus hd (by decide)
  have hdlt := (Array.getElem?_eq_some_iff.1 hd).1
  have hd3 : w3.heap[db]? = some (.cells #[nv, tv] 59 (0, 0)) := (hg.block db (by omega) fun e => hdn e.symm).trans ((by rw [hX]; exact heap_alloc_old _ _ hdlt : X.heap[db]? = w.heap[db]?).trans hd)
  have hd4 : w4.heap[db]? = some (.cells #[nv', tv] 59 (0, 0)) := by rw [h4]; exact heap_setCell_same _ db 0 _ _ nv' hd3
  have ho4 : w4.ownsRow B 23 1 nv' (rows ++ [row]).length (us ++ [.slice (some ⟨ob, 0, none⟩) row.length row.length]) := by
    rw [List.length_append, List.length_singleton, h4]
    exact ownsRow_setCell_other ho3 (own_blk_ne ho3 hd3 (by decide)) _
  have kint : ∀ x l, IntBlk w x 3 .i64 l → w4.heap[x]? = w.heap[x]? := fun x l hx => hkb x hx.lt (cells_ne hx hd (by decide)) (own_blk_ne hus hx (by decide))
  have hrw4 : OwnRows w4 B (us ++ [.slice (some ⟨ob, 0, none⟩) row.length row.length]) (rows ++ [row]) := (hrw.keep kint).snoc (hi.keep (kint ob row hi)) hob hrl
  have ht4 : w4.ownsRow B 37 1 tv tells.length (tells.map (.int .u64)) := by
    obtain ⟨r0, r1 | ⟨q, cap, cur, e1, hq, hh, r2⟩⟩ := ht
    · exact ⟨r0, .inl r1⟩
    · subst e1
      exact ⟨r0, .inr ⟨q, cap, cur, rfl, hq, (hkb q (Array.getElem?_eq_some_iff.1 hh).1 (cells_ne hh hd (by decide)) (own_blk_ne hus hh (by decide))).trans hh, r2⟩⟩
  refine ⟨⟨hM, hB, hd4, ⟨_, ho4, hrw4⟩, ht4, fun k hk e => ?_⟩, ?_⟩
  · rcases hv with hv | hv
    · rw [hv] at hk; exact hsep k hk e
    · rw [hv] at hk; injection hk with hk; have := (hlt.2.2 k e).2.1; omega
  · have b1 : Below B w X := by rw [hX]; exact (Below.refl _ _).alloc (by omega) _
    have b2 : Below B w w3 := b1.trans ⟨hg.os, hg.tape, hg.output, hg.size, fun x hx => hg.block x (by omega) fun e => by have := (hus.lt x e.symm).1; omega⟩
    rw [h4]
    exact b2.setCell (p := ⟨db, 0, none⟩) hB _
theorem Dk.addTell {X w3 w4 : World} {tv' : Value} {z : Int} (h : Dk w B mb b g db vs nv tv sets rows tells) (hX : X = w.alloc (.cells #[.int .u64 z] 37)) (ho3 : w3.ownsRow B 37 1 tv' (tells.length + 1) ((tells ++ [z]).map (.int .u64))) (hg : X.grownBy w3 tv.ownBlock) (hv : tv'.ownBlock = tv.ownBlock ∨ tv'.ownBlock = some X.heap.size) (h4 : w4 = w3.setCell ⟨db, 1, none⟩ tv') :
    Dk w4 B mb b g db vs nv tv' sets rows (tells ++ [z]) ∧ Below B w w4 := by
  have sX : X.heap.size = w.heap.size + 1 := by rw [hX]; simp
  have hkb := kept_blocks hX hg h4
  have hlt := h.1.lt
  have hM := h.mk (nv' := nv) (tv' := tv') (w4 := w4) (fun k hk => .inl hk) (fun k hk => by
    rcases hv with e | e
    · rw [e] at hk; exact .inl hk
    · rw [e] at hk; injection hk with hk; exact .inr (by omega)) fun x hx h1 _ h2 => hkb x hx h1 h2
  obtain ⟨hM0, hB, hd, ⟨us, hus, hrw⟩, ht, hsep⟩ := h
  have hdt : tv.ownBlock ≠ some db := own_blk_ne ht hd (by decide)
  have hdlt := (Array.getElem?_eq_some_iff.1 hd).1
  have hd3 : w3.heap[db]? = some (.cells #[nv, tv] 59 (0, 0)) := (hg.block db (by omega) fun e => hdt e.symm).trans ((by rw [hX]; exact heap_alloc_old _ _ hdlt : X.heap[db]? = w.heap[db]?).trans hd)
  have hd4 : w4.heap[db]? = some (.cells #[nv, tv'] 59 (0, 0)) := by rw [h4]; exact heap_setCell_same _ db 1 _ _ tv' hd3
  have ho4 : w4.ownsRow B 37 1 tv' (tells ++ [z]).length ((tells ++ [z]).map (.int .u64)) := by
    rw [List.length_append, List.length_singleton, h4]
    exact ownsRow_setCell_other ho3 (own_blk_ne ho3 hd3 (by decide)) _
  have kint : ∀ x l, IntBlk w x 3 .i64 l → w4.heap[x]? = w.heap[x]? := fun x l hx => hkb x hx.lt (cells_ne hx hd (by decide)) (own_blk_ne ht hx (by decide))
  have hn4 : w4.ownsRow B 23 1 nv rows.length us := by
    obtain ⟨r0, r1 | ⟨q, cap, cur, e1, hq, hh, r2⟩⟩ := hus
    · exact ⟨r0, .inl r1⟩
    · subst e1
      exact ⟨r0, .inr ⟨q, cap, cur, rfl, hq, (hkb q (Array.getElem?_eq_some_iff.1 hh).1 (cells_ne hh hd (by decide)) (own_blk_ne ht hh (by decide))).trans hh, r2⟩⟩
  refine ⟨⟨hM, hB, hd4, ⟨us, hn4, hrw.keep kint⟩, ho4, hsep⟩, ?_⟩
  have b1 : Below B w X := by rw [hX]; exact (Below.refl _ _).alloc (by omega) _
  have b2 : Below B w w3 := b1.trans ⟨hg.os, hg.tape, hg.output, hg.size, fun x hx => hg.block x (by omega) fun e => by have := (ht.lt x e.symm).1; omega⟩
  rw [h4]
  exact b2.setCell (p := ⟨db, 1, none⟩) hB _
end
end Go.Proofs.Ythdhbkngbmjjkaa
