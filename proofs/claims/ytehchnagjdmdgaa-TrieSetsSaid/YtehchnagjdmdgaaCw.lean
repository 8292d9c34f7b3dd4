/- The classes of a trie. Conditions: a trie in memory. -/
import Derived.Test.YtehchnagjdmdgaaBk
import Derived.Test.YtehchnagjdmdgaaCp
namespace Go.Proofs.Ytehchnagjdmdgaa
open Go.RowKit
set_option linter.unusedSimpArgs false
def cellsOf (bs : List (List Int)) : List Int := sortB (addsC [] bs.flatten)
theorem below_setRow {B g : Nat} {w0 w : World} {cs : Array Value} (h : Below B w0 w) (hg : B ≤ g) : Below B w0 (w.setRow g cs) := by
  refine ⟨h.os, h.tape, h.output, ?_, fun x hx => ?_⟩
  · have := h.size; simpa [World.setRow] using this
  · rw [← h.block x hx]
    have : ¬ g = x := by omega
    simp [World.setRow, Array.getElem?_modify, this]
theorem wpList_app_cls {w : World} {ops : Array Oper} {rest : List Oper} {o : Oper} {a : Act} {Q : Exit → Act → World → Prop} (hg : o.guard = none) (s x : Operand) (hop : o.op = .call { callee := .builtin .append, args := #[s, x], argTypes := #[49, 49] }) {B : Nat} {v : Value} {l : List Int} {w0 : World} {z : Int} (hw : w = w0.alloc (.cells #[.int .i64 z] 3))
    (hs : a.eval s = v) (hown : OwnI w0 B v l) (hx : a.eval x = .slice (some ⟨w0.heap.size, 0, none⟩) 1 1) (hl : l.length ≤ 1010000) (hB : B ≤ w0.heap.size)
    (h : ∀ A c w', OwnI w' B (.slice A (l.length + 1) c) (l ++ [z]) → w.grownBy w' v.ownBlock → wpList Try.prog ops Q rest (a.put o.dst (.slice A (l.length + 1) c)) w') : wpList Try.prog ops Q (o :: rest) a w :=
  wpList_plain hg fun _ hK => by
    obtain ⟨i0, hi0, hz0, hz1, hz2⟩ := info_parts info3
    subst hw
    refine wp_app _ s x 49 hop B 3 i0 _ 1 8 Try.underlying49 hi0 hz0 hz1 hz2 rfl (by decide) v _ _ hs (hown.alloc _) (some ⟨w0.heap.size, 0, none⟩) 1 1 _ hx (src_new w0 _ 3 1 rfl) (by simp [Value.oneCell']) (by simp only [maxLen]; omega) (by omega) (by simp; omega) fun v' w' h1 h2 h3 => ?_
    have h1' : OwnI w' B v' (l ++ [z]) := by
      have : (l ++ [z]).length = l.length + 1 := by simp
      show w'.ownsRow B 3 1 v' (l ++ [z]).length ((l ++ [z]).map (.int .i64))
      rw [this]
      simpa using h1
    obtain ⟨A, c, e, _⟩ := own_arr h1'
    rw [List.length_append, List.length_singleton] at e
    subst e
    exact hK _ _ (h A c w' h1' h2)
theorem run_idx76 (cells : Array Value) (j : Nat) (x : Value) (hj : j < 256) (hx : cells[j]? = some x) (w : World) : (Instr.index 76 (.agg cells) (.int .i64 j)).run Try.prog w = .ok x w := by
  have h1 : (0:Int) ≤ j ∧ (j:Int) < 256 := by omega
  simp [Instr.index, run_underlying Try.underlying76, asIntOf, go_sem, h1, hj, hx]
theorem ownI_nums {w : World} {B : Nat} {v : Value} {l : List Int} (h : OwnI w B v l) : IsNums .i64 w (fun b => B ≤ b) v l := (own_nums h).mono fun _ h _ => h.1
theorem wpList_load_midTo {ops : Array Oper} {rest : List Oper} {op : Oper} {a : Act} {w : World} {Q : Exit → Act → World → Prop} (hgd : op.guard = none) (ty : TypeId) (x : Operand) (ho : op.op = .load ty x)
    (b o : Nat) (hx : a.eval x = .pointer (some ⟨b, o, none⟩)) (cs : List Value) (cells : Array Value) (he : cells = cs.toArray) (d : TypeDesc) (hc : w.rangeAt b o cs)
    (hu : Try.prog.underlying ty = some d) (hd : d.isRow = true) (hi : (Try.prog.info? ty).map (·.size) = some cs.length)
    (h : wpList Try.prog ops Q rest (a.put op.dst (.agg cells)) w) : wpList Try.prog ops Q (op :: rest) a w :=
  wpList_load_mid hgd ty x ho b o hx cs d hc hu hd hi (by rw [← he]; exact h)
theorem cell_lt {w : World} {b o : Nat} {v : Value} (h : w.cell? ⟨b, o, none⟩ = some v) : b < w.heap.size := by
  cases e : w.heap[b]? with
  | none => simp [World.cell?, e] at h
  | some x => exact (Array.getElem?_eq_some_iff.1 e).1
theorem range_below {w w' : World} {b o B : Nat} {cs : List Value} (h : w.rangeAt b o cs) (hb : Below B w w') (hw : w.heap.size ≤ B) : w'.rangeAt b o cs := fun j v hj => by
  have h1 := h j v hj
  exact (World.cell?_of_block (a := ⟨b, o + j, none⟩) (hb.block b (Nat.lt_of_lt_of_le (cell_lt h1) hw))).trans h1
theorem adds_byte {zs : List Int} (h : ∀ x ∈ zs, 0 ≤ x ∧ x ≤ 255) : (addsC [] zs).length ≤ 256 :=
  nodup_len 256 _ (nodup_addsC List.nodup_nil) fun x hx => by
    rcases mem_addsC.1 hx with h1 | h1
    · cases h1
    · have := h x h1; omega
set_option maxRecDepth 100000 in
set_option maxHeartbeats 2000000 in
theorem classes_any {w : World} {t : Nat} {other : Int} {es : List Ent} {bs : List (List Int)} (h : IsTrie w t other es) (hbs : bs = blksTo other es 4352) (hby : ∀ l ∈ bs, ∀ x ∈ l, 0 ≤ x ∧ x ≤ 255) :
    Calls Try.prog 20 #[.pointer (some ⟨t, 0, none⟩)] w fun e w' => ∃ v, e = .returned v ∧ OwnI w' w.heap.size v (cellsOf bs) ∧ Below w.heap.size w w' := by
  obtain ⟨VA, vc, c1, hr⟩ := h.blk
  rw [← hbs] at c1 hr
  have hn : bs.length ≤ 4352 := by rw [hbs]; exact blks_len other es _
  have h256 : ∀ l ∈ bs, l.length = 256 := by rw [hbs]; exact all256 other es _
  have HR := hid hr
  have HBY := hid hby
  have H256 := hid h256
  have HFL := hid (show ∀ k, ∀ x ∈ (bs.take k).flatten, 0 ≤ x ∧ x ≤ 255 from fun k x hx => by
    obtain ⟨l, hl, hx⟩ := List.mem_flatten.1 hx
    exact hby l (List.mem_of_mem_take hl) x hx)
  clear hr h hbs hby h256
  go_enter Try.func20, Try.ntmps20
  go_wp2_with fail
  go_loopw [3, 15] (fun s3 s15 wr => ∃ (k : Nat) (v : Value), k ≤ bs.length ∧ s15 = .int .i64 k ∧ s3 = v ∧ Hid (OwnI wr w.heap.size v (addsC [] (bs.take k).flatten)) ∧ Hid (Below w.heap.size w wr)) (fun _ s15 _ => bs.length - (intOf s15).toNat)
  case atStart => exact ⟨0, _, by omega, rfl, rfl, hid (World.ownsRow_nil _ _ _ _), hid (Below.refl _ _)⟩
  case round =>
    obtain ⟨k, v, hk, rfl, e3, HO, HB⟩ := hrel
    subst e3
    by_cases hkl : k < bs.length
    · obtain ⟨l, hl⟩ : ∃ l, bs[k]? = some l := ⟨_, List.getElem?_eq_getElem hkl⟩
      obtain ⟨bb, bo, rfl, hrow⟩ := HR.out k l hl
      have hll := H256.out l (List.mem_of_getElem? hl)
      have hlb := HBY.out l (List.mem_of_getElem? hl)
      obtain ⟨cells, hcells⟩ : ∃ cs : Array Value, cs = (l.map (Value.int .u8)).toArray := ⟨_, rfl⟩
      have hsz : cells.size = 256 := by rw [hcells]; simp [hll]
      have HC := hid hcells
      have HSZ := hid hsz
      have HLB := hid hlb
      have HLL := hid hll
      have H1C := hid (show cells.all (·.oneCell') = true by rw [hcells]; simp [Value.oneCell'])
      have HROW := hid (range_below hrow HB.out (Nat.le_refl _))
      have HTK := hid (show (bs.take (k + 1)).flatten = (bs.take k).flatten ++ l by rw [List.take_add_one, hl]; simp)
      obtain ⟨X, hX⟩ : ∃ X, X = wr.alloc (.cells Z76 76) := ⟨_, rfl⟩
      obtain ⟨Y, hY⟩ : ∃ Y, Y = X.setRow wr.heap.size cells := ⟨_, rfl⟩
      have HX := hid hX
      have HY := hid hY
      have HXB := hid (show X.heap[wr.heap.size]? = some (.cells Z76 76 (0, 0)) by rw [hX]; exact heap_alloc_new _ _)
      have HYB := hid (show Y.heap[wr.heap.size]? = some (.cells cells 76 (0, 0)) by rw [hY]; exact setRow_heap X _ Z76 cells 76 (0, 0) HXB.out)
      have HBW := hid (show Below wr.heap.size wr Y by rw [hY, hX]; exact below_setRow ((Below.refl _ _).alloc (Nat.le_refl _) _) (Nat.le_refl _))
      have HOY := hid (own_moved HO.out fun q _ hq => HBW.out.block q hq)
      have HBY2 := hid (HB.out.trans (HBW.out.mono HB.out.size))
      clear hcells hsz hlb hll hrow hl hX hY
      go_wp2_with (first
        | (refine wpList_load_midTo rfl 76 (.tmp 17) rfl bb (bo + k * 256) rfl (l.map (.int .u8)) cells HC.out _ HROW.out Try.underlying76 rfl (by rw [size76, List.length_map, HLL.out]) ?_)
        | (refine wpList_alloc_of rfl 76 rfl (.agg Z76) zero76 ?_; rw [show (Value.agg Z76).cells = Z76 from rfl, ← HX.out])
        | (refine wpList_store_rowTo rfl 76 (.tmp 5) (.tmp 18) rfl rfl wr.heap.size cells rfl rfl 76 Z76 HXB.out (by rw [size76, HSZ.out]) (by rw [HSZ.out, z76_size]) H1C.out ?_; rw [← HY.out])
        | (refine wpList_load_row rfl 76 (.tmp 5) rfl wr.heap.size rfl 76 cells (0, 0) _ HYB.out Try.underlying76 rfl (by rw [size76, HSZ.out]) ?_)
        | (refine wp_load_row 76 (.tmp 5) rfl wr.heap.size rfl 76 cells (0, 0) _ HYB.out Try.underlying76 rfl (by rw [size76, HSZ.out]) ?_)
        | fail)
      go_loopw [3, 20] (fun s3 s20 wk => ∃ (j : Nat) (v : Value), j ≤ 256 ∧ s20 = .int .i64 j ∧ s3 = v ∧ Hid (OwnI wk w.heap.size v (addsC [] ((bs.take k).flatten ++ l.take j))) ∧ Hid (Below w.heap.size w wk)) (fun _ s20 _ => 256 - (intOf s20).toNat)
      case atStart => exact ⟨0, _, by omega, rfl, rfl, hid (by rw [List.take_zero, List.append_nil]; exact HOY.out), HBY2⟩
      case round =>
        clear HO HB HOY HBY2 HX HY HXB HYB HBW
        obtain ⟨j, v, hj, rfl, e3, HO, HB⟩ := hrel
        subst e3
        by_cases hjl : j < 256
        · have hjl2 : j < l.length := by rw [HLL.out]; exact hjl
          obtain ⟨x, hx⟩ : ∃ x, x = nth l j := ⟨_, rfl⟩
          have hxb := HLB.out _ (nth_mem hjl2)
          rw [← hx] at hxb
          have HTJ := hid (show addsC [] ((bs.take k).flatten ++ l.take (j + 1)) = addC (addsC [] ((bs.take k).flatten ++ l.take j)) x by rw [take_nth hjl2, ← List.append_assoc, addsC_snoc, hx])
          have hix := run_idx76 cells j (.int .u8 x) hjl (by rw [HC.out, hx]; simp [nth, List.getElem?_eq_getElem hjl2])
          have hji : (j : Int) < 256 := by omega
          have HLEN := hid (adds_byte (zs := (bs.take k).flatten ++ l.take j) fun y hy => by
            rcases List.mem_append.1 hy with hy | hy
            · exact HFL.out k y hy
            · exact HLB.out y (List.mem_of_mem_take hy))
          obtain ⟨L, hL⟩ : ∃ L, L = addsC [] ((bs.take k).flatten ++ l.take j) := ⟨_, rfl⟩
          rw [← hL] at HO HTJ HLEN
          clear hL hx hjl2
          go_wp2_with fail
          refine (contains_int _ _ L x _ (ownI_nums HO.out)).mono ?_
          rintro e w2 ⟨rfl, h2⟩
          rw [h2]
          clear h2 w2
          cases hin : inL L x with
          | true =>
            have HTJ2 := hid (show addsC [] ((bs.take k).flatten ++ l.take (j + 1)) = L by rw [HTJ.out]; unfold addC; rw [if_pos hin])
            go_wp2_with fail
            exact ⟨⟨j + 1, _, by omega, by go_num, rfl, hid (by rw [HTJ2.out]; exact HO.out), HB⟩, by simp [intOf]; omega⟩
          | false =>
            have HTJ2 := hid (show addsC [] ((bs.take k).flatten ++ l.take (j + 1)) = L ++ [x] by rw [HTJ.out]; unfold addC; rw [if_neg (by rw [hin]; simp)])
            clear hin
            go_wp2_with (at_builtin; refine wpList_app_cls rfl (.tmp 28) (.tmp 31) rfl (w0 := wr) (z := x) rfl rfl HO.out rfl (by have := HLEN.out; omega) HB.out.size ?_; intro A4 c4 w4 ho4 hg4)
            have HO4 := hid ho4
            have HB4 := hid ((HB.out.alloc HB.out.size (.cells #[.int .i64 x] 3)).grown hg4 (by have := HB.out.size; simp; omega) fun j e => (HO.out.lt j e).1)
            clear ho4 hg4
            exact ⟨⟨j + 1, _, by omega, by go_num, rfl, hid (by rw [HTJ2.out]; show World.ownsRow _ _ _ _ _ (L ++ [x]).length _; rw [List.length_append, List.length_singleton]; have h := HO4.out; rwa [OwnI, List.length_append, List.length_singleton] at h), HB4⟩, by simp [intOf]; omega⟩
        · obtain rfl : j = 256 := by omega
          have h1 := HO.out
          rw [List.take_of_length_le (l := l) (by rw [HLL.out]; exact Nat.le_refl _), ← HTK.out] at h1
          have HON := hid h1
          clear h1
          go_wp2_with fail
          exact ⟨⟨k + 1, _, by omega, by go_num, rfl, HON, HB⟩, by simp [intOf]; omega⟩
    · obtain rfl : k = bs.length := by omega
      have h1 := HO.out
      rw [List.take_length] at h1
      have HOF := hid h1
      clear h1
      have HLF := hid (show (addsC [] bs.flatten).length ≤ 256 from adds_byte (by have h := HFL.out bs.length; rwa [List.take_length] at h))
      clear HO
      go_wp2_with fail
      refine (sort_call HOF.out HB.out.size (by have := HLF.out; omega)).mono ?_
      rintro e w2 ⟨rfl, ho2, hb2⟩
      have HO2 := hid ho2
      have HB2 := hid (HB.out.trans hb2)
      clear ho2 hb2
      go_wp2_with fail
      go_ret
      refine ⟨_, rfl, ?_, HB2.out⟩
      have h := HO2.out
      unfold cellsOf OwnI
      rw [sortB_len]
      exact h
end Go.Proofs.Ytehchnagjdmdgaa
