/- The states that come of the first one: the walk. Condition: what is told is told in 64 bits. -/
import Derived.Test.YtmdkmobcglnmgaaBn
import Derived.Shelf.Sort.Plain
import Derived.Shelf.Slices.In.SortNone
import Derived.Test.YtmdkmobcglnmgaaProg
import Derived.Sort.OwnSortedInts
namespace Go.Proofs
open Go.Shelf
def Try.lays189_ren : Go.Shelf.Ren := ⟨fun | 125 => 72 | 128 => 84 | 129 => 85 | 189 => 63 | 215 => 92 | 216 => 81 | 257 => 71 | 294 => 75 | 295 => 76 | 296 => 77 | 297 => 78 | 298 => 79 | 299 => 80 | 300 => 82 | 301 => 83 | 328 => 87 | 329 => 88 | 330 => 89 | 331 => 90 | 332 => 91 | 343 => 93 | n => n, fun | 0 => 0 | 3 => 3 | 4 => 4 | 5 => 5 | 9 => 9 | 28 => 32 | 46 => 94 | 51 => 123 | 53 => 52 | 131 => 85 | 182 => 115 | 183 => 116 | 218 => 126 | 222 => 130 | 228 => 132 | 229 => 133 | n => n, fun | n => n⟩
theorem Try.lays189 : Go.Proofs.Lays.n189 Try.prog Try.lays189_ren := {
  mixed := by kernel_rfl
  f125 := Try.func72.trans (congrArg some (by kernel_rfl))
  f128 := Try.func84.trans (congrArg some (by kernel_rfl))
  f129 := Try.func85.trans (congrArg some (by kernel_rfl))
  f189 := Try.func63.trans (congrArg some (by kernel_rfl))
  f215 := Try.func92.trans (congrArg some (by kernel_rfl))
  f216 := Try.func81.trans (congrArg some (by kernel_rfl))
  f257 := Try.func71.trans (congrArg some (by kernel_rfl))
  f294 := Try.func75.trans (congrArg some (by kernel_rfl))
  f295 := Try.func76.trans (congrArg some (by kernel_rfl))
  f296 := Try.func77.trans (congrArg some (by kernel_rfl))
  f297 := Try.func78.trans (congrArg some (by kernel_rfl))
  f298 := Try.func79.trans (congrArg some (by kernel_rfl))
  f299 := Try.func80.trans (congrArg some (by kernel_rfl))
  f300 := Try.func82.trans (congrArg some (by kernel_rfl))
  f301 := Try.func83.trans (congrArg some (by kernel_rfl))
  f328 := Try.func87.trans (congrArg some (by kernel_rfl))
  f329 := Try.func88.trans (congrArg some (by kernel_rfl))
  f330 := Try.func89.trans (congrArg some (by kernel_rfl))
  f331 := Try.func90.trans (congrArg some (by kernel_rfl))
  f332 := Try.func91.trans (congrArg some (by kernel_rfl))
  f343 := Try.func93.trans (congrArg some (by kernel_rfl))
  t0 := Try.underlying0
  a0 := Try.isAgg0
  z0 := Try.sizeOf0
  v0 := Try.zeroValue0
  t3 := Try.underlying3
  a3 := Try.isAgg3
  z3 := Try.sizeOf3
  v3 := Try.zeroValue3
  t4 := Try.underlying4
  a4 := Try.isAgg4
  z4 := Try.sizeOf4
  v4 := Try.zeroValue4
  t5 := Try.underlying5
  a5 := Try.isAgg5
  z5 := Try.sizeOf5
  v5 := Try.zeroValue5
  t9 := Try.underlying9
  a9 := Try.isAgg9
  z9 := Try.sizeOf9
  v9 := Try.zeroValue9
  t28 := Try.underlying32
  a28 := Try.isAgg32
  z28 := Try.sizeOf32
  v28 := Try.zeroValue32
  t46 := Try.underlying94
  a46 := Try.isAgg94
  z46 := Try.sizeOf94
  v46 := Try.zeroValue94
  t51 := Try.underlying123
  a51 := Try.isAgg123
  z51 := Try.sizeOf123
  v51 := Try.zeroValue123
  t53 := Try.underlying52
  a53 := Try.isAgg52
  z53 := Try.sizeOf52
  v53 := Try.zeroValue52
  t131 := Try.underlying85
  a131 := Try.isAgg85
  z131 := Try.sizeOf85
  v131 := Try.zeroValue85
  t182 := Try.underlying115
  a182 := Try.isAgg115
  z182 := Try.sizeOf115
  v182 := Try.zeroValue115
  t183 := Try.underlying116
  a183 := Try.isAgg116
  z183 := Try.sizeOf116
  v183 := Try.zeroValue116
  t218 := Try.underlying126
  a218 := Try.isAgg126
  z218 := Try.sizeOf126
  v218 := Try.zeroValue126
  t222 := Try.underlying130
  a222 := Try.isAgg130
  z222 := Try.sizeOf130
  v222 := Try.zeroValue130
  t228 := Try.underlying132
  a228 := Try.isAgg132
  z228 := Try.sizeOf132
  v228 := Try.zeroValue132
  t229 := Try.underlying133
  a229 := Try.isAgg133
  z229 := Try.sizeOf133
  v229 := Try.zeroValue133 }
open Go.Sort Go.RowKit in
theorem Try.slices_Sort_int (blk off cap : Nat) (zs : List Int) (w : World) (hH : Holds (Value.int .i64) w blk off zs.toArray) (hblk : blk < w.heap.size) (hsz : zs.length < 4611686018427387904) :
    Calls Try.prog 63 #[.slice (some ⟨blk, off, none⟩) zs.length cap] w fun e w' => e = .returned (.tuple #[]) ∧ ∃ n os, w' = grow (putRow (Value.int .i64) (Sort.ahead w n) blk off (zs.mergeSort fun x y => decide (x ≤ y)).toArray) os := Any.slices_Sort_int Try.lays189 blk off cap zs w hH hblk hsz
end Go.Proofs
namespace Go.Proofs.Ytmdkmobcglnmgaa
open Go.RowKit
set_option linter.unusedSimpArgs false

def rStep (l : List Int) (z : Int) : List Int := if z ∈ l then l else l ++ [z]
/-- States that are met, the first i of them looked at, of the next one m marks. -/
structure RM (d : D) (l : List Int) (i m : Nat) : Prop where
  nod : l.Nodup
  st : ∀ z ∈ l, ∃ t : Nat, z = t ∧ t < d.next.length
  z : (0 : Int) ∈ l
  cl : ∀ j n, j < l.length → n < 37 → (j < i ∨ j = i ∧ n < m) → nth (row d.next (nth l j).toNat) n ∈ l
theorem RM.start {d : D} (hn : 1 ≤ d.next.length) : RM d [0] 0 0 := ⟨by simp, fun z hz => ⟨0, by simpa using hz, hn⟩, by simp, fun j n h1 h2 h3 => by omega⟩
theorem RM.next {d : D} {l : List Int} {i : Nat} (h : RM d l i 37) : RM d l (i + 1) 0 := { h with cl := fun j n h1 h2 h3 => h.cl j n h1 h2 (by omega) }
theorem rStep_mem {l : List Int} {z : Int} : z ∈ rStep l z ∧ ∀ y ∈ l, y ∈ rStep l z := by
  unfold rStep
  split
  · rename_i h; exact ⟨h, fun y hy => hy⟩
  · exact ⟨by simp, fun y hy => by simp [hy]⟩
theorem RM.step {d : D} {l : List Int} {i m : Nat} (h : RM d l i m) (hr : RT d.next d.next.length) (hi : i < l.length) (hm : m < 37) : RM d (rStep l (nth (row d.next (nth l i).toNat) m)) i (m + 1) := by
  obtain ⟨t, ht, htn⟩ := h.st _ (nth_mem hi)
  obtain ⟨z, hz⟩ : ∃ z, z = nth (row d.next (nth l i).toNat) m := ⟨_, rfl⟩
  rw [← hz]
  have hzs : ∃ s : Nat, z = s ∧ s < d.next.length := by
    rw [hz, ht]
    exact ⟨_, (hr.at htn hm).2, (hr.at htn hm).1⟩
  obtain ⟨m1, m2⟩ := rStep_mem (l := l) (z := z)
  have key : ∀ j, j < l.length → nth (rStep l z) j = nth l j := fun j hj => by
    unfold rStep
    split
    · rfl
    · simp [nth, List.getElem?_append_left hj]
  refine ⟨?_, fun y hy => ?_, m2 _ h.z, fun j n h1 h2 h3 => ?_⟩
  · unfold rStep
    split
    · exact h.nod
    · rename_i hne
      rw [List.nodup_append]
      exact ⟨h.nod, by simp, fun a ha b hb => by
        rw [List.mem_singleton.1 hb]
        exact fun e => hne (e ▸ ha)⟩
  · unfold rStep at hy
    split at hy
    · exact h.st y hy
    · rcases List.mem_append.1 hy with hy | hy
      · exact h.st y hy
      · rw [List.mem_singleton.1 hy]; exact hzs
  · have hj : j < l.length := by omega
    rw [key j hj]
    by_cases e : j = i ∧ n = m
    · obtain ⟨rfl, rfl⟩ := e
      rw [← hz]; exact m1
    · exact m2 _ (h.cl j n hj h2 (by omega))
theorem RM.size {d : D} {l : List Int} {i m : Nat} (h : RM d l i m) : l.length ≤ d.next.length := by
  have := nodup_len h.nod (k := (List.range d.next.length).map fun (t : Nat) => (t : Int)) fun z hz => by
    obtain ⟨t, rfl, ht⟩ := h.st z hz
    exact List.mem_map.2 ⟨t, List.mem_range.2 ht, rfl⟩
  simpa using this
/-- Each state comes of the first: all are met. -/
theorem RM.all {d y : D} {F : List Int} {l : List Int} (hy : LeastIs d F y) (h : RM y l l.length 0) : l.length = y.next.length := by
  have key : ∀ n k, k ≤ n → k < F.length → (k : Int) ∈ l := by
    intro n
    induction n with
    | zero => intro k hk _; rw [show k = 0 by omega]; exact h.z
    | succ n ih =>
      intro k hk hkF
      by_cases hk0 : k = 0
      · rw [hk0]; exact h.z
      · obtain ⟨j, m, hj, hm, e⟩ := hy.new k (by omega) hkF
        have hjl := ih j (by omega) (by omega)
        obtain ⟨i, hi⟩ := List.getElem?_of_mem hjl
        have hlt := (List.getElem?_eq_some_iff.1 hi).1
        have := h.cl i m hlt hm (.inl hlt)
        rw [nth_some hi] at this
        rw [← e]
        exact this
  have h1 := h.size
  have h2 := nodup_len (l := (List.range F.length).map fun (t : Nat) => (t : Int)) (k := l) (by
    rw [List.nodup_iff_pairwise_ne, List.pairwise_map]
    exact List.Pairwise.imp (fun {a b} hab => by omega) (List.nodup_iff_pairwise_ne.1 List.nodup_range)) fun z hz => by
    obtain ⟨t, ht, rfl⟩ := List.mem_map.1 hz
    exact key t t (Nat.le_refl _) (List.mem_range.1 ht)
  simp at h2
  rw [hy.len.1] at h1 ⊢
  omega
abbrev BMap (w : World) (b : Nat) (td : List (Int × Unit)) : Prop := MapIs w b (fun z : Int => Value.int .i64 z) i64ok (fun (_ : Unit) u => u = .bool true) td
def ThI (td : List (Int × Unit)) (l : List Int) : Prop := ∀ p, mget td p = some () ↔ p ∈ l
theorem ThI.step {td : List (Int × Unit)} {l : List Int} (h : ThI td l) (z : Int) : ThI (mset td z ()) (l ++ [z]) := fun p => by
  rw [mget_mset, List.mem_append, List.mem_singleton]
  by_cases hp : z = p
  · rw [if_pos hp]; exact ⟨fun _ => .inr hp.symm, fun _ => rfl⟩
  · rw [if_neg hp, h p]
    exact ⟨fun h => .inl h, fun h => h.resolve_right fun e => hp e.symm⟩
/-- The memory: what was met, in a row of its own, and in a map. -/
structure RcM (w0 : World) (B T : Nat) (w : World) (lv : Value) (l : List Int) (td : List (Int × Unit)) : Prop where
  bel : Below B w0 w
  own : OwnI w B lv l
  map : BMap w T td
  th : ThI td l
  lt : B ≤ T ∧ B ≤ w0.heap.size
section
variable {w0 w w' : World} {B T : Nat} {lv : Value} {l : List Int} {td : List (Int × Unit)}
theorem RcM.size (h : RcM w0 B T w lv l td) : B ≤ w.heap.size := Nat.le_trans h.lt.2 h.bel.size
theorem RcM.grown (h : RcM w0 B T w lv l td) (hb : Below w.heap.size w w') : RcM w0 B T w' lv l td :=
  ⟨h.bel.trans (hb.mono h.size), h.own.kept (grown_of_below hb none) (Classical.em _), h.map.keep (hb.block _ h.map.lt), h.th, h.lt⟩
theorem RcM.note (h : RcM w0 B T w lv l td) {td' : List (Int × Unit)} (hm : BMap w' T td') (hg : w.grownBy w' (some T)) : Below B w0 w' ∧ OwnI w' B lv l ∧ BMap w' T td' :=
  ⟨h.bel.grown hg h.size (fun k hk => by cases hk; exact h.lt.1), h.own.kept hg (.inr (own_map_ne h.own h.map)), hm⟩
end
def ReachAns (w : World) (d : D) (e : Ending) (w' : World) : Prop := ∃ A c l, e = .returned (.slice A l.length c) ∧ RM d l l.length 0 ∧ Below w.heap.size w w'
theorem sort_any (g n cap : Nat) (zs : List Int) (w : World) (hn : zs.length = n) (hH : Go.Sort.Holds (Value.int .i64) w g 0 zs.toArray) (hg : g < w.heap.size) (hsz : n ≤ 1000000) :
    Calls Try.prog 63 #[.slice (some ⟨g, 0, none⟩) n cap] w fun e w' => e = .returned (.tuple #[]) ∧ ∃ k os, w' = Go.Sort.grow (Go.Sort.putRow (Value.int .i64) (Go.Sort.ahead w k) g 0 (zs.mergeSort fun x y => decide (x ≤ y)).toArray) os := by
  subst hn
  exact Try.slices_Sort_int g 0 cap zs w hH hg (by omega)
set_option maxRecDepth 100000 in
set_option maxHeartbeats 4000000 in
theorem reached_any (S : Nat → Prop) (v : Value) (d : D) (w : World) (h : IsD w S v d) (hr : rightB d = true) (hu : ∀ z ∈ d.tells, u64ok z) :
    Calls Try.prog 42 #[v] w (ReachAns w d) := by
  obtain ⟨nv, tv, rfl, _, _⟩ := id h
  have HD := hid h
  have HR := hid hr
  obtain ⟨nb, no, nc, tb, to', tc, rfl, rfl, hx⟩ := tabX_of h hr hu
  have HX := hid hx
  obtain ⟨hn0, hn1000⟩ := hx.n1
  obtain ⟨W, hW⟩ : ∃ W, W = w.alloc (.cells #[.slice (some ⟨nb, no, none⟩) d.next.length nc, .slice (some ⟨tb, to', none⟩) d.next.length tc] 30) := ⟨_, rfl⟩
  have HB0 := hid (show Below w.heap.size w W by rw [hW]; exact (Below.refl _ _).alloc (Nat.le_refl _) _)
  have HL0 := hid (show w.heap.size < W.heap.size by rw [hW]; simp)
  have HP := hid (show W.heap[w.heap.size]? = some (.cells #[.slice (some ⟨nb, no, none⟩) d.next.length nc, .slice (some ⟨tb, to', none⟩) d.next.length tc] 30 (0, 0)) by rw [hW]; exact heap_alloc_new _ _)
  have HXX := hid (show ∀ Y, Below W.heap.size W Y → Y.cell? ⟨w.heap.size, 0, none⟩ = some (.slice (some ⟨nb, no, none⟩) d.next.length nc) ∧ Y.cell? ⟨w.heap.size, 1, none⟩ = some (.slice (some ⟨tb, to', none⟩) d.next.length tc) from fun Y hY => by
    obtain ⟨a, b, _⟩ := slot2 ((hY.block _ HL0.out).trans HP.out)
    exact ⟨a, b⟩)
  obtain ⟨x0, x1⟩ := HXX.out W (Below.refl _ _)
  have hmm := @run_makeMap Try.prog
  have HM0 := hid (show ∀ w : World, BMap ((w.alloc (.cells #[.int .i64 0] 3)).alloc (.map #[] 0)) (w.heap.size + 1) [] from fun w => by
    have h := mapIs_new (w.alloc (.cells #[.int .i64 0] 3)) (fun z : Int => Value.int .i64 z) i64ok (fun (_ : Unit) u => u = .bool true)
    simpa using h)
  have HK0 := hid (show i64ok (0 : Int) from ⟨by omega, by omega⟩)
  clear h hr hu hx
  go_enter Try.func42, Try.ntmps42
  go_wp2_with fail
  rw [← hW]
  obtain ⟨D0, hD0⟩ : ∃ D0, D0 = w.heap.size := ⟨_, rfl⟩
  have HD0 := hid hD0
  rw [← hD0] at HXX x0 x1 ⊢
  clear hW hD0
  go_wp2_with (first
    | (go_at_call 26; refine (right_any S _ d _ (HD.out.below HB0.out)).mono ?_; rintro e w1 ⟨rfl, hb1⟩; rw [HR.out]; have HB1 := hid hb1; clear hb1)
    | (refine wpList_minsert intKey rfl (.tmp 12) (.const (.int .i64 0)) (.const (.bool true)) 90 rfl Try.underlying90 (HM0.out w1) (0 : Int) HK0.out () _ rfl rfl rfl rfl ?_
       intro w5 hm5 hg5)
    | fail)
  clear hmm x0 x1
  obtain ⟨lb, hlb⟩ : ∃ lb, lb = w1.heap.size := ⟨_, rfl⟩
  have HLB := hid hlb
  rw [← hlb]
  rw [← hlb] at hm5 hg5
  have HS1 := hid (show W.heap.size ≤ lb by rw [hlb]; exact HB1.out.size)
  have HRC0 := hid (show RcM w1 lb (lb + 1) w5 (.slice (some ⟨lb, 0, none⟩) 1 1) [0] (mset [] (0 : Int) ()) from by
    have hz : lb + 2 ≤ w5.heap.size := by have := hg5.size; rw [hlb]; simpa using this
    have h0 : Below lb w1 ((w1.alloc (.cells #[.int .i64 0] 3)).alloc (.map #[] 0)) := by rw [hlb]; exact ((Below.refl _ _).alloc (Nat.le_refl _) _).alloc (by simp) _
    have hc : w5.heap[lb]? = some (.cells #[.int .i64 0] 3 (0, 0)) := by
      rw [hg5.block lb (by rw [hlb]; simp; omega) (fun e => by injection e with e; omega), hlb, heap_alloc_old _ _ (by simp)]
      exact heap_alloc_new _ _
    refine ⟨h0.grown hg5 (by rw [hlb]; simp; omega) (fun k hk => by cases hk; omega), ?_, hm5, ?_, by omega, by rw [hlb]; exact Nat.le_refl _⟩
    · exact (show IntBlk w5 lb 3 .i64 [0] from hc).own (l := [0]) (Nat.le_refl _) (by decide)
    · have h1 : ThI [] ([] : List Int) := fun p => ⟨(fun h => by cases h), (fun h => by cases h)⟩
      exact h1.step 0)
  have HRM0 := hid (show RM d [0] 0 0 from RM.start hn0)
  have HLOW := hid (show ∀ Y, Below lb w1 Y → Y.cell? ⟨D0, 0, none⟩ = some (.slice (some ⟨nb, no, none⟩) d.next.length nc) ∧ Below w.heap.size w Y from fun Y hY => by
    rw [HLB.out] at hY
    have h1 := HB1.out.trans (hY.mono HB1.out.size)
    exact ⟨(HXX.out Y h1).1, HB0.out.trans (h1.mono HB0.out.size)⟩)
  have HSZ := hid (show ∀ l i m, RM d l i m → l.length ≤ d.next.length from fun l i m h => h.size)
  clear hlb hm5 hg5
  go_wp2_with fail
  go_loopw [3, 5] (fun s3 s5 wr => ∃ (i : Nat) (l : List Int) (td : List (Int × Unit)), i ≤ l.length ∧ s5 = .int .i64 i ∧ Hid (RcM w1 lb (lb + 1) wr s3 l td) ∧ Hid (RM d l i 0)) (fun _ s5 _ => d.next.length - (intOf s5).toNat)
  case atStart => exact ⟨0, _, _, by simp, rfl, HRC0, HRM0⟩
  case round =>
    clear HRC0 HRM0
    obtain ⟨i, l, td, hi, rfl, HM, HRM⟩ := hrel
    have hln := HSZ.out _ _ _ HRM.out
    obtain ⟨lA, lC, hlv, -⟩ := own_arr HM.out.own
    subst hlv
    by_cases hlt : i < l.length
    · obtain ⟨q, hq, hqn⟩ := HRM.out.st _ (nth_mem hlt)
      obtain ⟨gb, go', gC, hge, -, -, hgc⟩ := (own_nums HM.out.own).at hlt
      obtain ⟨hgA, hgC⟩ : lA = some ⟨gb, go', none⟩ ∧ lC = gC := by simpa using hge
      subst hgA hgC
      rw [hq] at hgc
      obtain ⟨l0, hbw⟩ := HLOW.out _ HM.out.bel
      obtain ⟨rb, ro, rc, hrow0, hrb, hrc⟩ := HX.out.rows q hqn
      have hrow := (hbw.cell (p := ⟨nb, no + q, none⟩) HX.out.nlt).trans hrow0
      have HRC := hid (show ∀ Y, Below w.heap.size w Y → ∀ m, m < 37 → Y.cell? ⟨rb, ro + m, none⟩ = some (.int .i64 (nth (row d.next q) m)) from fun Y hY m hm => (hY.cell (p := ⟨rb, ro + m, none⟩) hrb).trans (hrc m hm))
      have HQ := hid (show i < l.length ∧ nth l i = (q : Int) from ⟨hlt, hq⟩)
      have hqi : (q : Int) < (d.next.length : Int) := by omega
      have hq0 : 0 ≤ (q : Int) := by omega
      have hii : (i : Int) < (l.length : Int) := by omega
      have hi0 : 0 ≤ (i : Int) := by omega
      clear hq hge hrow0 hrb hrc hbw
      go_wp2_with fail
      go_quiet (fail)
      go_wp2_with fail
      have HM0' := hid (HM.out.grown (below_drewN' wr nq _))
      obtain ⟨wd, hwd⟩ : ∃ wd, wd = wr.drewN nq := ⟨_, rfl⟩
      rw [← hwd] at HM0' ⊢
      clear hwd hrow l0 hgc hii
      go_loopw [3, 29] (fun s3 s29 wr => ∃ (m : Nat) (l : List Int) (td : List (Int × Unit)), m ≤ 37 ∧ s29 = .int .i64 m ∧ Hid (RcM w1 lb (lb + 1) wr s3 l td) ∧ Hid (RM d l i m) ∧ Hid (i < l.length ∧ nth l i = (q : Int))) (fun _ s29 _ => 37 - (intOf s29).toNat)
      case atStart => exact ⟨0, l, td, by omega, rfl, HM0', HRM, HQ⟩
      case round =>
        clear HM0' HM HRM HQ hlt hi hln
        obtain ⟨m, l, td, hm, rfl, HM, HRM, HQ⟩ := hrel
        have hln := HSZ.out _ _ _ HRM.out
        by_cases hlm : m < 37
        · obtain ⟨lA, lC, hlv, -⟩ := own_arr HM.out.own
          subst hlv
          obtain ⟨hzn, e1⟩ := HX.out.rt.at hqn hlm
          have hcz := HRC.out _ (HLOW.out _ HM.out.bel).2 m hlm
          rw [e1] at hcz
          obtain ⟨t, ht⟩ : ∃ t, t = stp d.next q m := ⟨_, rfl⟩
          rw [← ht] at hcz hzn
          have hmi : (m : Int) < 37 := by omega
          have hm0 : 0 ≤ (m : Int) := by omega
          have HOK := hid (show i64ok (t : Int) from ⟨by omega, by omega⟩)
          have HST := hid (show RM d (rStep l (t : Int)) i (m + 1) from by
            have h := HRM.out.step HX.out.rt HQ.out.1 hlm
            rw [HQ.out.2] at h
            have e2 : nth (row d.next ((q : Int)).toNat) m = (t : Int) := by rw [ht]; exact e1
            rw [e2] at h; exact h)
          clear e1 ht
          by_cases hmem : (t : Int) ∈ l
          · have HLK := hid (show mget td (t : Int) = some () from (HM.out.th _).2 hmem)
            have HST2 := hid (show rStep l (t : Int) = l by unfold rStep; rw [if_pos hmem])
            clear hmem
            go_wp2_with (first
              | (at_lookup; refine wpList_mlookup_some false intKey rfl (.tmp 33) (.tmp 34) 90 rfl Try.underlying90 _ (zero4 _) HM.out.map (t : Int) HOK.out rfl rfl () HLK.out ?_; intro u hu; rw [hu])
              | fail)
            go_roundw
            case rel => exact ⟨m + 1, l, td, by omega, by go_num, HM, hid (by have h := HST.out; rw [HST2.out] at h; exact h), HQ⟩
            case measure => simp [intOf]; omega
          · have HLK := hid (show mget td (t : Int) = none from by
              cases h : mget td (t : Int) with
              | none => rfl
              | some u => exact absurd ((HM.out.th _).1 (by rw [h])) hmem)
            have HST2 := hid (show rStep l (t : Int) = l ++ [(t : Int)] by unfold rStep; rw [if_neg hmem])
            clear hmem
            go_wp2_with (first
              | (at_lookup; refine wpList_mlookup_none false intKey rfl (.tmp 33) (.tmp 34) 90 rfl Try.underlying90 _ (zero4 _) HM.out.map (t : Int) HOK.out rfl rfl HLK.out ?_)
              | (at_mapUpdate; refine wpList_mupdate intKey rfl (.tmp 37) (.tmp 38) (.const (.bool true)) 90 rfl Try.underlying90 HM.out.map (t : Int) HOK.out () _ rfl rfl rfl rfl ?_; intro w6 hm6 hg6
                 have HN6 := hid (HM.out.note hm6 hg6)
                 have HZ6 := hid (show lb ≤ w6.heap.size from Nat.le_trans HM.out.size hg6.size))
              | (at_builtin; refine wpList_app_int rfl (.tmp 39) (.tmp 41) rfl (w0 := w6) (z := (t : Int)) rfl rfl HN6.out.2.1 rfl (by omega) HZ6.out ?_
                 intro A7 c7 w7 hown7 hg7 hat7)
              | fail)
            have HM7 := hid (show RcM w1 lb (lb + 1) w7 (.slice A7 (l.length + 1) c7) (l ++ [(t : Int)]) (mset td (t : Int) ()) from by
              have hn := HN6.out
              have ho := hn.2.1.alloc (.cells #[.int .i64 (t : Int)] 3)
              have hm := hn.2.2.alloc (.cells #[.int .i64 (t : Int)] 3)
              exact ⟨below_own (hn.1.alloc HZ6.out _) ho hg7 (Nat.le_trans HZ6.out (by simp)), hown7, hm.grown hg7 (Ne.symm (own_map_ne ho hm)), HM.out.th.step (t : Int), HM.out.lt⟩)
            have HQ7 := hid (show i < (l ++ [(t : Int)]).length ∧ nth (l ++ [(t : Int)]) i = (q : Int) from ⟨by have := HQ.out.1; simp; omega, by rw [show nth (l ++ [(t : Int)]) i = nth l i by simp [nth, List.getElem?_append_left HQ.out.1]]; exact HQ.out.2⟩)
            clear hown7 hg7 hat7 hm6 hg6
            go_wp2_with fail
            go_roundw
            case rel => exact ⟨m + 1, _, _, by omega, by go_num, HM7, hid (by have h := HST.out; rw [HST2.out] at h; exact h), HQ7⟩
            case measure => simp [intOf]; omega
        · obtain rfl : m = 37 := by omega
          have HRN := hid (show RM d l (i + 1) 0 from HRM.out.next)
          have hi1 := HQ.out.1
          go_wp2_with fail
          go_roundw
          case rel => exact ⟨i + 1, l, td, by omega, by go_num, HM, HRN⟩
          case measure => simp [intOf]; omega
    · obtain rfl : i = l.length := by omega
      obtain ⟨g, cap, hoe, hgb, hgc, hgm⟩ : ∃ g cap, lA = some ⟨g, 0, none⟩ ∧ lC = cap ∧ lb ≤ g ∧ g < wr.heap.size := by
        have hp : 0 < l.length := List.length_pos_of_mem HRM.out.z
        rcases HM.out.own.2 with ⟨_, h0⟩ | ⟨g, cap, cur, h1, h2, h5, h3, h4, _⟩
        · omega
        · obtain ⟨e1, e2⟩ : lA = some ⟨g, 0, none⟩ ∧ lC = cap := by simpa using h1
          exact ⟨g, cap, e1, e2, h2, (Array.getElem?_eq_some_iff.1 h5).1⟩
      subst hoe hgb
      have HH := hid (own_holds HM.out.own)
      have HG := hid (And.intro hgc hgm)
      have hl1000 : l.length ≤ 1000000 := by omega
      have HBD := hid (HLOW.out _ HM.out.bel).2
      have HLE := hid (show w.heap.size ≤ lb from by have := HS1.out; have := HL0.out; omega)
      clear hgc hgm
      go_wp2_with (first
        | (go_at_call 63; refine (sort_any g l.length lC l _ rfl HH.out HG.out.2 hl1000).mono ?_; rintro e w7 ⟨rfl, kk, os, rfl⟩)
        | fail)
      go_ret
      exact ⟨_, lC, l, rfl, HRM.out, HBD.out.grown (grownBy_sortedI _) HBD.out.size (fun j hj => by cases hj; exact Nat.le_trans HLE.out HG.out.1)⟩
end Go.Proofs.Ytmdkmobcglnmgaa
