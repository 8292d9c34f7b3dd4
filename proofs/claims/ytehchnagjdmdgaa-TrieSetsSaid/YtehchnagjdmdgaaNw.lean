/- A trie is made: the walk. Conditions: right entries in memory. -/
import Derived.Test.YtehchnagjdmdgaaTm
namespace Go.Proofs.Ytehchnagjdmdgaa
open Go.RowKit
set_option linter.unusedSimpArgs false
def knB (bs : List (List Int)) : List (List Int × Int) := bs.zipIdx.map fun p => (p.1, ((p.2 : Nat) : Int))
theorem knB_snoc (bs : List (List Int)) (t : List Int) : knB (bs ++ [t]) = knB bs ++ [(t, ((bs.length : Nat) : Int))] := by simp [knB, List.zipIdx_append]
theorem knB_get {bs : List (List Int)} {i : Nat} {t : List Int} (h : bs[i]? = some t) : (knB bs)[i]? = some (t, ((i : Nat) : Int)) := by simp [knB, List.getElem?_map, List.getElem?_zipIdx, h]
theorem knB_some {bs : List (List Int)} {t : List Int} (ho : Once (knB bs)) (h : t ∈ bs) : mget (knB bs) t = some ((bs.idxOf t : Nat) : Int) :=
  mget_at ho (knB_get (by rw [List.getElem?_eq_getElem (List.idxOf_lt_length_of_mem h), List.getElem_idxOf]))
theorem knB_fst {bs : List (List Int)} {p : List Int × Int} (h : p ∈ knB bs) : p.1 ∈ bs := by
  obtain ⟨q, hq, rfl⟩ := List.mem_map.1 h
  exact (List.mem_zipIdx' hq).2 ▸ List.getElem_mem _
theorem knB_none {bs : List (List Int)} {t : List Int} (h : t ∉ bs) : mget (knB bs) t = none ∧ ∀ z, mset (knB bs) t z = knB bs ++ [(t, z)] := by
  have hn : ∀ p ∈ knB bs, p.1 ≠ t := fun p hp e => h (e ▸ knB_fst hp)
  exact ⟨mget_none hn, fun z => mset_new z hn⟩
section
variable {w w' : World} {B q : Nat} {ev : Value} {b : Bl}
/-- What a builder lies in stays. -/
def Keep3 (w w' : World) : Prop := ∀ (x : Nat) (cs : Array Value) (t : TypeId), w.heap[x]? = some (.cells cs t (0, 0)) → t = 67 ∨ t = 3 → w'.heap[x]? = some (.cells cs t (0, 0))
theorem Keep3.trans {a b c : World} (h : Keep3 a b) (k : Keep3 b c) : Keep3 a c := fun x cs t hx ht => k x cs t (h x cs t hx ht) ht
theorem Keep3.below (h : Below w.heap.size w w') : Keep3 w w' := fun x cs t hx _ => (h.block x (Array.getElem?_eq_some_iff.1 hx).1).trans hx
theorem Keep3.grown {g t : Nat} {cs : Array Value} (h : w.grownBy w' (some g)) (hg : w.heap[g]? = some (.cells cs t (0, 0))) (ht : t ≠ 67 ∧ t ≠ 3) : Keep3 w w' := fun x ds u hx hu =>
  (h.block x (Array.getElem?_eq_some_iff.1 hx).1 fun e => by
    injection e with e
    subst e
    rw [hg] at hx
    injection hx with hx
    injection hx with _ h2
    rcases hu with hu | hu
    · exact ht.1 (h2.trans hu)
    · exact ht.2 (h2.trans hu)).trans hx
theorem Keep3.own {e size n : Nat} {v : Value} {xs : List Value} (h : w.grownBy w' v.ownBlock) (ho : w.ownsRow B e size v n xs) (ht : e ≠ 67 ∧ e ≠ 3) : Keep3 w w' := fun x ds u hx hu =>
  (h.block x (Array.getElem?_eq_some_iff.1 hx).1 fun e' => by
    rcases hu with hu | hu
    · exact own_blk_ne ho hx (by rw [hu]; exact ht.1) e'.symm
    · exact own_blk_ne ho hx (by rw [hu]; exact ht.2) e'.symm).trans hx
theorem Keep3.map {g : Nat} (h : w.grownBy w' (some g)) (hg : ∃ es clock, w.heap[g]? = some (.map es clock)) : Keep3 w w' := fun x ds u hx _ => by
  obtain ⟨es, clock, hm⟩ := hg
  exact (h.block x (Array.getElem?_eq_some_iff.1 hx).1 fun e => by
    injection e with e
    subst e
    rw [hm] at hx; cases hx).trans hx
theorem Keep3.setCell {g i t : Nat} {cs : Array Value} {u : Value} (hg : w.heap[g]? = some (.cells cs t (0, 0))) (ht : t ≠ 67 ∧ t ≠ 3) : Keep3 w (w.setCell ⟨g, i, none⟩ u) := fun x ds u' hx hu => by
  rw [heap_setCell_other _ _ _ _ (show x ≠ g from fun e => by
    subst e
    rw [hg] at hx
    injection hx with hx
    injection hx with _ h2
    rcases hu with hu | hu
    · exact ht.1 (h2.trans hu)
    · exact ht.2 (h2.trans hu))]
  exact hx
theorem Bd.keep3 (h : Bd w B q ev b) (hk : Keep3 w w') : Bd w' B q ev b := by
  obtain ⟨cs, h1, h2, h3, h4, pv, h5, h6, h7⟩ := h.blk
  refine ⟨h.base, cs, hk q cs 67 h1 (.inl rfl), h2, h3, h4, pv, h5, fun p hp => ?_, h7⟩
  obtain ⟨r0, r1 | ⟨k, cap, cur, e1, hq, hh, r2⟩⟩ := h6 p hp
  · exact ⟨r0, .inl r1⟩
  · exact ⟨r0, .inr ⟨k, cap, cur, e1, hq, hk k cur 3 hh (.inr rfl), r2⟩⟩
theorem bd_start {A : Option Addr} {n c : Nat} (hq : q = w.heap.size) : Bd (w.alloc (.cells (Z67 (.slice A n c)) 67)) q q (.slice A n c) bl0 := by
  refine ⟨Nat.le_refl _, Z67 (.slice A n c), by rw [hq]; exact heap_alloc_new _ _, by simp only [Z67, List.size_toArray, List.length_cons, List.length_append, List.length_replicate], by simp only [Z67, List.getElem?_toArray, List.getElem?_cons_zero], fun p hp => ?_, fun _ => .slice none 0 0, fun p hp => ?_, fun p hp => World.ownsRow_nil _ _ _ _, fun p r k _ _ h _ => by simp [Value.ownBlock] at h⟩
  · rw [show 1 + p = p + 1 by omega]
    simp only [Z67, List.getElem?_toArray, List.getElem?_cons_succ]
    rw [List.getElem?_append_left (by rw [List.length_replicate]; exact hp), List.getElem?_replicate, if_pos hp]
    rfl
  · rw [show 4353 + p = (4352 + p) + 1 by omega]
    simp only [Z67, List.getElem?_toArray, List.getElem?_cons_succ]
    rw [List.getElem?_append_right (by rw [List.length_replicate]; omega), List.length_replicate, List.getElem?_replicate, if_pos (by omega)]
theorem tb_start {B : Nat} {other : Int} (hB : B ≤ w.heap.size) : Tb (w.alloc (.cells (Z73 (.int .i64 other)) 73)) B w.heap.size other [] [] := by
  refine ⟨hB, Z73 (.int .i64 other), .slice none 0 0, heap_alloc_new _ _, by simp only [Z73, List.size_toArray, List.length_cons, List.length_append, List.length_replicate, List.length_nil], by simp only [Z73, List.getElem?_toArray, List.getElem?_cons_zero], fun q hq => by simp at hq, fun q hq => ⟨0, ?_⟩, ?_, World.ownsRow_nil _ _ _ _⟩
  · rw [show 1 + q = q + 1 by omega]
    simp only [Z73, List.getElem?_toArray, List.getElem?_cons_succ]
    rw [List.getElem?_append_left (by rw [List.length_replicate]; exact hq), List.getElem?_replicate, if_pos hq]
  · simp only [Z73, List.getElem?_toArray, List.getElem?_cons_succ]
    rw [List.getElem?_append_right (by rw [List.length_replicate]; omega), List.length_replicate]
    rfl
theorem Tb.firstCell {tb p : Nat} {other : Int} {first : List Int} {bs : List (List Int)} (h : Tb w B tb other first bs) (hp : p < 4352) : ∃ z, w.cell? ⟨tb, 1 + p, none⟩ = some (.int .u16 z) ∧ w.frozen? ⟨tb, 1 + p, none⟩ = false := by
  obtain ⟨cs, v, h1, h2, h3, h4, h5, h6, h7⟩ := h.blk
  obtain ⟨z, hz⟩ := h5 p hp
  exact ⟨z, by rw [cell_of_row w tb _ cs 73 (0, 0) h1]; exact hz, frozen_of_row _ _ _ _ _ h1⟩
theorem Tb.blocksCell {tb : Nat} {other : Int} {first : List Int} {bs : List (List Int)} (h : Tb w B tb other first bs) : ∃ VA vc, w.cell? ⟨tb, 4353, none⟩ = some (.slice VA bs.length vc) ∧ w.ownsRow B 76 256 (.slice VA bs.length vc) bs.length (flatB bs) ∧ w.frozen? ⟨tb, 4353, none⟩ = false := by
  obtain ⟨cs, v, h1, h2, h3, h4, h5, h6, h7⟩ := h.blk
  obtain ⟨VA, vc, e, -⟩ := own_arr h7
  subst e
  exact ⟨VA, vc, by rw [cell_of_row w tb _ cs 73 (0, 0) h1]; exact h6, h7, frozen_of_row _ _ _ _ _ h1⟩
end
/-- A trie in memory. -/
def IsTrie (w : World) (t : Nat) (other : Int) (es : List Ent) : Prop := ∃ B, Tb w B t other (firstTo other es 4352) (blksTo other es 4352)
theorem cls_byte {es : List Ent} {other : Int} (hr : ∀ e ∈ es, goodE e = true) (ho : 0 ≤ other ∧ other ≤ 255) (r : Int) : 0 ≤ cls other es r ∧ cls other es r ≤ 255 := by
  induction es generalizing other with
  | nil => exact ho
  | cons e es ih =>
    refine ih (fun x hx => hr x (List.mem_cons_of_mem _ hx)) ?_
    have := hr e List.mem_cons_self
    unfold goodE at this
    simp only [Bool.and_eq_true, decide_eq_true_eq] at this
    split
    · exact ⟨this.1.2, this.2⟩
    · exact ho
theorem blk_byte {es : List Ent} {other : Int} (hr : ∀ e ∈ es, goodE e = true) (ho : 0 ≤ other ∧ other ≤ 255) (p : Nat) : byteL (blkOf other es p) :=
  ⟨blk_len _ _ _, fun x hx => by
    obtain ⟨k, -, rfl⟩ := List.mem_map.1 hx
    exact cls_byte hr ho _⟩
theorem zero3 (w : World) : (zeroValue 3).run Try.prog w = .ok (.int .i64 0) w := by kernel_rfl
set_option maxRecDepth 100000 in
set_option maxHeartbeats 900000 in
theorem new_right {A : Option Addr} {c : Nat} {S : Nat → Prop} {es : List Ent} {other : Int} {w : World} (h : IsEnts w S (.slice A es.length c) es) (hl : es.length ≤ 200) (hm : mayE other es = true) :
    Calls Try.prog 10 #[.int .i64 other, .slice A es.length c] w fun e w' => ∃ t, e = .returned (.tuple #[.pointer (some ⟨t, 0, none⟩), .int .i64 0]) ∧ IsTrie w' t other es ∧ Below w.heap.size w w' := by
  have hm2 := hm
  unfold mayE at hm2
  rw [Bool.and_eq_true] at hm2
  have HC := hid hm2.1
  have HG := hid (List.all_eq_true.1 hm2.2)
  have HA := hid (show (!(es.all goodE)) = false by rw [hm2.2]; rfl)
  have hob : 0 ≤ other ∧ other ≤ 255 := by have := hm2.1; unfold classB at this; simpa using this
  have HOB0 := hid hob
  have HE := hid (h.imp (S' := fun x => x < w.heap.size) (fun _ _ _ => rfl) fun _ _ h => h)
  have HRR := hid (show ∀ e ∈ es, ∀ x ∈ e.1, 0 ≤ x.1 ∧ x.1 ≤ x.2 from fun e he x hx => by
    have := HG.out e he
    unfold goodE at this
    simp only [Bool.and_eq_true] at this
    have h2 := mayB_iff.1 (rightB_may this.1.1 hx)
    exact ⟨h2.1, h2.2.1⟩)
  clear hm hm2 h hob
  go_enter Try.func10, Try.ntmps10
  go_wp2_with fail
  refine (class_any other _).mono ?_
  rintro e w0 ⟨rfl, hw0⟩
  rw [hw0, HC.out]
  clear hw0 w0
  go_wp2_with fail
  refine (contains_any (fun x => x < w.heap.size) A c es _ HE.out).mono ?_
  rintro e w1 ⟨rfl, hb1⟩
  rw [HA.out]
  have HE1 := hid (HE.out.below hb1)
  have HB1 := hid hb1
  obtain ⟨B, hB⟩ : ∃ B, B = w1.heap.size := ⟨_, rfl⟩
  have HBE := hid hB
  have HE2 := hid (HE1.out.imp (S' := fun x => x < B) (fun _ _ _ => rfl) fun x h _ => Nat.lt_of_lt_of_le h (by rw [hB]; exact hb1.size))
  obtain ⟨X, hX⟩ : ∃ X, X = w1.alloc (.cells (Z67 (.slice A es.length c)) 67) := ⟨_, rfl⟩
  have HXE := hid hX
  have HXB := hid (show Below w1.heap.size w1 X by rw [hX]; exact (Below.refl _ _).alloc (Nat.le_refl _) _)
  have HD := hid (show Bd X B B (.slice A es.length c) (builtTo es 0) by rw [hX]; exact bd_start hB)
  have HBX := hid (ends_true HB1.out HXB.out)
  have HEX := hid (HE2.out.below HXB.out)
  clear hb1 hB hX HE HE1 HE2
  go_wp2_with (first
    | (refine wpList_build_of rfl 67 (.tmp 26) rfl _ _ rfl (built67 A es.length c) ?_)
    | fail)
  rw [← HXE.out, ← HBE.out]
  go_loopw [31] (fun s31 wr => ∃ (i : Nat), i ≤ es.length ∧ s31 = .int .i64 i ∧ Hid (Bd wr B B (.slice A es.length c) (builtTo es i)) ∧ Hid (Below w.heap.size w wr) ∧ Hid (Below B X wr)) (fun s31 _ => es.length - (intOf s31).toNat)
  case atStart => exact ⟨0, by omega, rfl, HD, HBX, hid (Below.refl _ _)⟩
  case round =>
    clear HD HBX
    obtain ⟨i, hi, rfl, HD, HBX, HBB⟩ := hrel
    by_cases hlt : i < es.length
    · have HM := hid (show Mid es other i (fun _ => False) (builtTo es i) from fun p => .inr ⟨built_as HRR.out i (by omega) p, id⟩)
      have HRI := hid (show rightB (ent es i).1 = true by
        have := HG.out _ (ent_mem hlt)
        unfold goodE at this
        simp only [Bool.and_eq_true] at this
        exact this.1.1)
      go_wp2_with fail
      refine (spread_any (other := other) HD.out (HEX.out.imp (fun x hx _ => HBB.out.block x hx) fun _ h _ => h) hlt hl HRI.out HM.out).mono ?_
      rintro e w2 ⟨rfl, hd2, hb2⟩
      have HD2 := hid (show Bd w2 B B (.slice A es.length c) (builtTo es (i + 1)) from hd2)
      have HB2 := hid (HBX.out.trans (hb2.mono (show w.heap.size ≤ B by rw [HBE.out]; exact HB1.out.size)))
      have HBB2 := hid (HBB.out.trans hb2)
      clear hd2 hb2
      go_wp2_with fail
      exact ⟨⟨i + 1, by omega, by go_num, HD2, HB2, HBB2⟩, by simp [intOf]; omega⟩
    · obtain rfl : i = es.length := by omega
      have HAS := hid (fun p => built_as (other := other) HRR.out es.length (Nat.le_refl _) p)
      obtain ⟨tb, htb⟩ : ∃ t, t = wr.heap.size := ⟨_, rfl⟩
      obtain ⟨mb, hmb⟩ : ∃ t, t = wr.heap.size + 1 := ⟨_, rfl⟩
      obtain ⟨W3, hW3⟩ : ∃ W, W = wr.alloc (.cells (Z73 (.int .i64 other)) 73) := ⟨_, rfl⟩
      obtain ⟨W4, hW4⟩ : ∃ W, W = W3.alloc (.map #[] 0) := ⟨_, rfl⟩
      have hBwr : B ≤ wr.heap.size := Nat.le_trans (by rw [HBE.out]; exact HXB.out.size) HBB.out.size
      have hs3 : W3.heap.size = wr.heap.size + 1 := by rw [hW3]; simp
      have b3 : Below wr.heap.size wr W3 := by rw [hW3]; exact (Below.refl _ _).alloc (Nat.le_refl _) _
      have b4 : Below W3.heap.size W3 W4 := by rw [hW4]; exact (Below.refl _ _).alloc (Nat.le_refl _) _
      have HT4 := hid (show Tb W4 B tb other (firstTo other es 0) (blksTo other es 0) from (show Tb W3 B tb other [] [] by rw [hW3, htb]; exact tb_start hBwr).below b4)
      have HM4 := hid (show MapIs W4 mb encB byteL (fun z u => u = Value.int .i64 z) (knB (blksTo other es 0)) by
        rw [hW4, hmb, ← hs3]; exact mapIs_new W3 encB byteL _)
      have HD4 := hid (HD.out.below (ends_true b3 b4))
      have HB4 := hid (HBX.out.trans ((ends_true b3 b4).mono HBX.out.size))
      have HBW := hid (show w.heap.size ≤ B by rw [HBE.out]; exact HB1.out.size)
      have HE4 := hid (show IsEnts W4 (fun x => x < B) (.slice A es.length c) es from HEX.out.imp (fun x hx _ => ((ends_true b3 b4).block x (Nat.lt_of_lt_of_le hx hBwr)).trans (HBB.out.block x hx)) fun _ h _ => h)
      have HW3 := hid hW3
      have HW4 := hid hW4
      have HTBE := hid htb
      have HMBE := hid hmb
      have HS3 := hid hs3
      have HZB := hid hBwr
      clear HD hW3 hW4 htb hmb hs3 b3 b4 hBwr
      have hmm := @run_makeMap Try.prog
      go_wp2_with (first
        | (refine wpList_build_of rfl 73 (.tmp 38) rfl _ _ rfl (built73 other) ?_)
        | fail)
      clear hmm
      rw [← HW3.out]
      try rw [HS3.out]
      rw [← HW4.out]
      try rw [← HMBE.out]
      try rw [← HTBE.out]
      go_loopw [42] (fun s42 wk => ∃ (p : Nat), p ≤ 4352 ∧ s42 = .int .i64 p ∧ Hid (Tb wk B tb other (firstTo other es p) (blksTo other es p)) ∧ Hid (MapIs wk mb encB byteL (fun z u => u = Value.int .i64 z) (knB (blksTo other es p))) ∧ Hid (Bd wk B B (.slice A es.length c) (builtTo es es.length)) ∧ Hid (Below B W4 wk)) (fun s42 _ => 4352 - (intOf s42).toNat)
      case atStart => exact ⟨0, by omega, rfl, HT4, HM4, HD4, hid (Below.refl _ _)⟩
      case round =>
        clear HT4 HM4 HD4
        obtain ⟨p, hp, rfl, HT, HM, HD, HB⟩ := hrel
        by_cases hlt : p < 4352
        · obtain ⟨t, ht⟩ : ∃ t, t = blkOf other es p := ⟨_, rfl⟩
          have HVAL := hid (show encB (B256 fun k => valOf es other (builtTo es es.length) p ((p : Int) * 256 + (k : Nat))) = encB t by
            rw [ht, blk_is]
            exact congrArg encB (B256_ext fun k hk => by
              rw [(HAS.out p).1 ((p : Int) * 256 + (k : Nat)) ⟨by omega, by omega⟩, List.take_length]))
          have HTL := hid (show t.length = 256 by rw [ht]; exact blk_len _ _ _)
          have HCS := hid (cellsB_size HTL.out)
          have HBY := hid (show byteL t by rw [ht]; exact blk_byte HG.out HOB0.out p)
          have HN1 := hid (show blksTo other es (p + 1) = addB (blksTo other es p) t by rw [blksTo, ← ht])
          have HN2 := hid (show firstTo other es (p + 1) = firstTo other es p ++ [(((blksTo other es p).idxOf t : Nat) : Int)] by rw [firstTo, ← ht])
          have hnl : (blksTo other es p).length ≤ p := blks_len other es p
          clear ht
          go_wp2_with fail
          refine (at_any HD.out (HE4.out.imp (fun x hx _ => HB.out.block x hx) fun _ h _ => h) hl HG.out HOB0.out hlt (HAS.out p)).mono ?_
          rintro e w2 ⟨rfl, hb2⟩
          rw [HVAL.out]
          obtain ⟨xb, hxb⟩ : ∃ x, x = w2.heap.size := ⟨_, rfl⟩
          obtain ⟨W5, hW5⟩ : ∃ W, W = w2.alloc (.cells Z76 76) := ⟨_, rfl⟩
          obtain ⟨w6, hw6⟩ : ∃ W, W = W5.setRow xb (cellsB t) := ⟨_, rfl⟩
          have h5 : W5.heap[xb]? = some (.cells Z76 76 (0, 0)) := by rw [hW5, hxb]; exact heap_alloc_new _ _
          have b5 : Below w2.heap.size w2 W5 := by rw [hW5]; exact (Below.refl _ _).alloc (Nat.le_refl _) _
          have HX6 := hid (show w6.heap[xb]? = some (.cells (cellsB t) 76 (0, 0)) by rw [hw6]; exact setRow_heap W5 xb Z76 (cellsB t) 76 (0, 0) h5)
          have b6 : Below w2.heap.size w2 w6 := ⟨by rw [hw6]; exact b5.os, by rw [hw6]; exact b5.tape, by rw [hw6]; exact b5.output, by rw [hw6]; have := b5.size; simpa [World.setRow] using this, fun x hx => by
            have hne : ¬ xb = x := by omega
            rw [hw6, ← b5.block x hx]
            simp [World.setRow, Array.getElem?_modify, hne]⟩
          have HB6 := hid (ends_true hb2 b6)
          have HT6 := hid (HT.out.below HB6.out)
          have HM6 := hid (HM.out.below HB6.out)
          have HD6 := hid (HD.out.below HB6.out)
          have HBB6 := hid (HB.out.trans (HB6.out.mono (Nat.le_trans HD.out.base (Nat.le_of_lt HD.out.lt))))
          have H5 := hid h5
          have HW5 := hid hW5
          have HW6 := hid hw6
          have HXN := hid hxb
          clear hb2 b5 b6 h5 hW5 hw6 hxb HT HM HD
          obtain ⟨z6, f6, g6⟩ := HT6.out.firstCell hlt
          obtain ⟨VA, vc, c4, hob, f4⟩ := HT6.out.blocksCell
          have hpi : (p : Int) < 4352 := by omega
          by_cases hin : t ∈ blksTo other es p
          · obtain ⟨ix, hix⟩ : ∃ i, i = (blksTo other es p).idxOf t := ⟨_, rfl⟩
            have hil : ix < 4352 := by have := List.idxOf_lt_length_of_mem hin; omega
            have HLK := hid (show mget (knB (blksTo other es p)) t = some ((ix : Nat) : Int) by rw [hix]; exact knB_some HM6.out.once hin)
            rw [← hix] at HN2
            have HADD1 := hid (show blksTo other es (p + 1) = blksTo other es p by rw [HN1.out]; exact if_pos hin)
            have HTN := hid (show Tb (w6.setCell ⟨tb, 1 + p, none⟩ (.int .u16 (ix : Int))) B tb other (firstTo other es (p + 1)) (blksTo other es (p + 1)) by rw [HN2.out, HADD1.out]; exact HT6.out.setFirst (first_len _ _ _).symm hlt)
            have HMN := hid (show MapIs (w6.setCell ⟨tb, 1 + p, none⟩ (.int .u16 (ix : Int))) mb encB byteL (fun z u => u = Value.int .i64 z) (knB (blksTo other es (p + 1))) by
              rw [HADD1.out]
              obtain ⟨cs, v, h1, -⟩ := HT6.out.blk
              obtain ⟨es', clock, h2, -⟩ := HM6.out
              exact HM6.out.keep (heap_setCell_other _ _ _ _ (fun e => by have e2 : mb = tb := e; rw [e2, h1] at h2; cases h2)))
            have HDN := hid (show Bd (w6.setCell ⟨tb, 1 + p, none⟩ (.int .u16 (ix : Int))) B B (.slice A es.length c) (builtTo es es.length) by
              obtain ⟨cs, v, h1, -⟩ := HT6.out.blk
              exact HD6.out.keep3 (Keep3.setCell h1 ⟨by decide, by decide⟩))
            have HBN := hid (HBB6.out.setCell (p := ⟨tb, 1 + p, none⟩) HT6.out.base (.int .u16 (ix : Int)))
            clear hin hix hob c4 f4
            go_wp2_with (first
              | (refine wpList_alloc_of rfl 76 rfl (.agg Z76) zero76 ?_; rw [show (Value.agg Z76).cells = Z76 from rfl, ← HW5.out, ← HXN.out])
              | (refine wpList_store_row rfl 76 (.tmp 11) (.tmp 48) rfl xb (cellsB t) rfl rfl 76 Z76 H5.out (by rw [size76, HCS.out]) (by rw [HCS.out, z76_size]) (cellsB_one t) ?_; rw [← HW6.out])
              | (refine wp_store_row 76 (.tmp 11) (.tmp 48) rfl xb (cellsB t) rfl rfl 76 Z76 H5.out (by rw [size76, HCS.out]) (by rw [HCS.out, z76_size]) (cellsB_one t) ?_; rw [← HW6.out])
              | (refine wpList_load_row rfl 76 (.tmp 11) rfl xb rfl 76 (cellsB t) (0, 0) _ HX6.out Try.underlying76 rfl (by rw [size76, HCS.out]) ?_)
              | (refine wp_load_row 76 (.tmp 11) rfl xb rfl 76 (cellsB t) (0, 0) _ HX6.out Try.underlying76 rfl (by rw [size76, HCS.out]) ?_)
              | (refine wpList_mlookup_some true byteKey rfl (.tmp 50) (.tmp 51) 74 rfl Try.underlying74 _ (zero3 _) HM6.out t HBY.out rfl rfl ((ix : Nat) : Int) HLK.out ?_; intro u hu; rw [hu])
              | fail)
            exact ⟨⟨p + 1, by omega, by go_num, HTN, HMN, HDN, HBN⟩, by simp [intOf]; omega⟩
          · obtain ⟨n, hn⟩ : ∃ n, n = (blksTo other es p).length := ⟨_, rfl⟩
            have hnp : n ≤ p := by rw [hn]; exact hnl
            have HLK := hid (knB_none hin).1
            have HST := hid (knB_none hin).2
            have HNE := hid hn.symm
            have HNL := hid (show (blksTo other es p).length ≤ 10000 by omega)
            have HM1 := hid (show blksTo other es (p + 1) = blksTo other es p ++ [t] by rw [HN1.out]; exact if_neg hin)
            have HM2 := hid (show firstTo other es (p + 1) = firstTo other es p ++ [(n : Int)] by rw [HN2.out, List.idxOf_eq_length hin, ← hn])
            clear HN1 HN2
            have HN1 := HM1
            have HN2 := HM2
            clear HM1 HM2
            rw [← hn] at c4
            have HU := hid (show ∀ w7, MapIs w7 mb encB byteL (fun z u => u = Value.int .i64 z) (mset (knB (blksTo other es p)) t (n : Int)) → w6.grownBy w7 (some mb) → MapIs w7 mb encB byteL (fun z u => u = Value.int .i64 z) (knB (blksTo other es p ++ [t])) ∧ Tb w7 B tb other (firstTo other es p) (blksTo other es p) ∧ Bd w7 B B (.slice A es.length c) (builtTo es es.length) ∧ w7.heap[xb]? = some (.cells (cellsB t) 76 (0, 0)) ∧ Below B W4 w7 ∧ (∃ es' clock, w7.heap[mb]? = some (.map es' clock)) from fun w7 h1 h2 => by
              obtain ⟨es', clock, hmb, -⟩ := HM6.out
              have hme : ∃ es' clock, w6.heap[mb]? = some (.map es' clock) := ⟨es', clock, hmb⟩
              obtain ⟨es2, clock2, hmb2, -⟩ := id h1
              have hBmb : B ≤ mb := by have := HZB.out; have := HMBE.out; omega
              exact ⟨by rw [knB_snoc, ← hn, ← HST.out]; exact h1, HT6.out.keep hme h2, HD6.out.keep3 (Keep3.map h2 hme), (h2.block xb (Array.getElem?_eq_some_iff.1 HX6.out).1 (fun e => by injection e with e; rw [e, hmb] at HX6; exact nomatch HX6.out)).trans HX6.out, HBB6.out.grown h2 (Nat.le_trans HT6.out.base (Nat.le_of_lt HT6.out.lt)) (fun k e => by injection e with e; omega), es2, clock2, hmb2⟩)
            clear hin hn hob f4 f6 g6 hnl
            go_wp2_with (first
              | (refine wpList_alloc_of rfl 76 rfl (.agg Z76) zero76 ?_; rw [show (Value.agg Z76).cells = Z76 from rfl, ← HW5.out, ← HXN.out])
              | (refine wpList_store_row rfl 76 (.tmp 11) (.tmp 48) rfl xb (cellsB t) rfl rfl 76 Z76 H5.out (by rw [size76, HCS.out]) (by rw [HCS.out, z76_size]) (cellsB_one t) ?_; rw [← HW6.out])
              | (refine wp_store_row 76 (.tmp 11) (.tmp 48) rfl xb (cellsB t) rfl rfl 76 Z76 H5.out (by rw [size76, HCS.out]) (by rw [HCS.out, z76_size]) (cellsB_one t) ?_; rw [← HW6.out])
              | (refine wpList_load_row rfl 76 (.tmp 11) rfl xb rfl 76 (cellsB t) (0, 0) _ HX6.out Try.underlying76 rfl (by rw [size76, HCS.out]) ?_)
              | (refine wp_load_row 76 (.tmp 11) rfl xb rfl 76 (cellsB t) (0, 0) _ HX6.out Try.underlying76 rfl (by rw [size76, HCS.out]) ?_)
              | (refine wpList_mlookup_none true byteKey rfl (.tmp 50) (.tmp 51) 74 rfl Try.underlying74 _ (zero3 _) HM6.out t HBY.out rfl rfl HLK.out ?_)
              | (refine wpList_mupdate byteKey rfl (.tmp 62) (.tmp 63) (.tmp 64) 74 rfl Try.underlying74 HM6.out t HBY.out ((n : Nat) : Int) _ rfl rfl rfl rfl ?_; intro w7 hm7 hg7; have H7 := hid (HU.out w7 hm7 hg7); clear hm7 hg7)
              | fail)
            obtain ⟨hM7, hT7, hD7, hX7, hB7, hmap7⟩ := H7.out
            have HX7 := hid hX7
            obtain ⟨VB, vd, c4', hob, -⟩ := hT7.blocksCell
            have HOB := hid (show w7.drew.ownsRow B 76 256 (.slice VB n vd) (blksTo other es p).length (flatB (blksTo other es p)) by rw [HNE.out] at hob ⊢; exact hob)
            rw [HNE.out] at c4'
            clear c4
            have c4 := c4'
            have HZ7 := hid (show B ≤ w7.drew.heap.size from Nat.le_trans hT7.base (Nat.le_of_lt hT7.lt))
            have HPX := hid (fun (o : Obj) => ((Below.refl w7.heap.size w7).alloc (Nat.le_refl _) o).cell (p := ⟨tb, 4353, none⟩) hT7.lt)
            have hbx : Below w7.heap.size w7 (w7.drew.alloc (.cells (cellsB t) 76)) := (Below.refl w7.heap.size w7).drew.alloc (Nat.le_refl _) _
            have HQB := hid (show ∀ w8, (w7.drew.alloc (.cells (cellsB t) 76)).grownBy w8 (Value.slice VB n vd).ownBlock → w8.cell? ⟨tb, 4353, none⟩ = some (.slice VB n vd) ∧ w8.frozen? ⟨tb, 4353, none⟩ = false from fun w8 hg => by
              obtain ⟨cs, v, h1, -⟩ := hT7.blk
              have h8 := (hg.block tb (Nat.lt_of_lt_of_le hT7.lt hbx.size) (fun e => own_blk_ne HOB.out h1 (by decide) e.symm)).trans ((hbx.block tb hT7.lt).trans h1)
              exact ⟨(World.cell?_of_block (a := ⟨tb, 4353, none⟩) (h8.trans h1.symm)).trans c4, frozen_of_row _ _ _ _ _ h8⟩)
            have HADD := hid (show ∀ A8 c8 w8 w9, w8.ownsRow B 76 256 (.slice A8 (n + 1) c8) (n + 1) (flatB (blksTo other es p ++ [t])) → (w7.drew.alloc (.cells (cellsB t) 76)).grownBy w8 (Value.slice VB n vd).ownBlock → w9 = w8.setCell ⟨tb, 4353, none⟩ (.slice A8 (n + 1) c8) → Tb w9 B tb other (firstTo other es p) (blksTo other es p ++ [t]) ∧ MapIs w9 mb encB byteL (fun z u => u = Value.int .i64 z) (knB (blksTo other es p ++ [t])) ∧ Bd w9 B B (.slice A es.length c) (builtTo es es.length) ∧ mb ≠ tb ∧ Below B W4 w9 from fun A8 c8 w8 w9 h1 h2 e => by
              subst e
              have hne : mb ≠ tb := by have := HTBE.out; have := HMBE.out; omega
              obtain ⟨cs, v, h3, -⟩ := hT7.blk
              have h8 := (h2.block tb (Nat.lt_of_lt_of_le hT7.lt hbx.size) (fun e => own_blk_ne HOB.out h3 (by decide) e.symm)).trans ((hbx.block tb hT7.lt).trans h3)
              have hm8 : MapIs w8 mb encB byteL (fun z u => u = Value.int .i64 z) (knB (blksTo other es p ++ [t])) := (hM7.below hbx).grown h2 (fun e => own_map_ne (w := w7) HOB.out hM7 e.symm)
              refine ⟨hT7.addBlk c4 hbx (by rw [HNE.out]; exact h1) h2, hm8.keep (heap_setCell_other _ _ _ _ hne), (hD7.keep3 ((Keep3.below hbx).trans (Keep3.own h2 (HOB.out.alloc _) ⟨by decide, by decide⟩))).keep3 (Keep3.setCell h8 ⟨by decide, by decide⟩), hne, ?_⟩
              exact ((hB7.trans (hbx.mono (Nat.le_trans hT7.base (Nat.le_of_lt hT7.lt)))).grown h2 (Nat.le_trans HZ7.out hbx.size) fun j e => (HOB.out.lt j e).1).setCell (p := ⟨tb, 4353, none⟩) hT7.base _)
            clear c4' hob hM7 hT7 hD7 hX7 hB7 hmap7 hbx z6
            refine wp_region_held_drew (S := (fun _ => True)) (by kernel_rfl) (by trivial) (fun hHeld => ?_)
            refine wpAnyH_take (i := 0) (oi := { dst := some 65, op := Op.move (Operand.tmp 8), type := _, pos := _, after := _, guard := none }) (v := ?_) rfl (by kernel_rfl) (by kernel_rfl) (by kernel_rfl) (fun _ _ _ h => h) (Or.inl ⟨by rfl, ?_⟩) (by assumption) ?_
            rotate_left
            · intro w hSw; (try dsimp only at hSw); go_simp; try (first | with_reducible rfl | (refine (if_pos ?_).trans ?_ <;> first | omega | with_reducible rfl))
            try simp only [Act.put, List.setIfInBounds_toArray, List.set_cons_zero, List.set_cons_succ]
            refine wpAnyH_take (i := 1) (oi := { dst := some 66, op := Op.move (Operand.tmp 8), type := _, pos := _, after := _, guard := none }) (v := ?_) rfl (by kernel_rfl) (by kernel_rfl) (by kernel_rfl) (fun _ _ _ h => h) (Or.inl ⟨by rfl, ?_⟩) (by assumption) ?_
            rotate_left
            · intro w hSw; (try dsimp only at hSw); go_simp; try (first | with_reducible rfl | (refine (if_pos ?_).trans ?_ <;> first | omega | with_reducible rfl))
            try simp only [Act.put, List.setIfInBounds_toArray, List.set_cons_zero, List.set_cons_succ]
            refine wpAnyH_take (i := 2) (oi := { dst := some 67, op := Op.nilCheck (Operand.tmp 66), type := _, pos := _, after := _, guard := none }) (v := ?_) rfl (by kernel_rfl) (by kernel_rfl) (by kernel_rfl) (fun _ _ _ h => h) (Or.inl ⟨by rfl, ?_⟩) (by assumption) ?_
            rotate_left
            · intro w hSw; (try dsimp only at hSw); go_simp; try (first | with_reducible rfl | (refine (if_pos ?_).trans ?_ <;> first | omega | with_reducible rfl))
            try simp only [Act.put, List.setIfInBounds_toArray, List.set_cons_zero, List.set_cons_succ]
            refine wpAnyH_take (i := 3) (oi := { dst := some 68, op := Op.fieldAddr 73 (Operand.tmp 67) 2, type := _, pos := _, after := _, guard := none }) (v := ?_) rfl (by kernel_rfl) (by kernel_rfl) (by kernel_rfl) (fun _ _ _ h => h) (Or.inl ⟨by rfl, ?_⟩) (by assumption) ?_
            rotate_left
            · intro w hSw; (try dsimp only at hSw); go_simp; try (first | with_reducible rfl | (refine (if_pos ?_).trans ?_ <;> first | omega | with_reducible rfl))
            try simp only [Act.put, List.setIfInBounds_toArray, List.set_cons_zero, List.set_cons_succ]
            refine wpAnyH_ready (rs := [4, 5]) (by kernel_rfl) (by simp) ?_
            refine AllReadyH.cons (o := { dst := some 69, op := Op.load 71 (Operand.tmp 68), type := _, pos := _, after := _, guard := none }) rfl ?legA1n1 (AllReadyH.cons (o := { dst := some 70, op := Op.load 76 (Operand.tmp 11), type := _, pos := _, after := _, guard := none }) rfl ?legB1n1 AllReadyH.nil)
            case' legA1n1 =>
              intro K hK
              go_simp
              refine hK.out _ _ (by trivial) (fun hHeld => ?_)
              clear hK K
              try simp only [Act.put, List.setIfInBounds_toArray, List.set_cons_zero, List.set_cons_succ]
              refine wpAnyH_ready (rs := [5]) (by kernel_rfl) (by simp) ?_
              refine AllReadyH.cons (o := { dst := some 70, op := Op.load 76 (Operand.tmp 11), type := _, pos := _, after := _, guard := none }) rfl (fun K hK => ?_) AllReadyH.nil
              (first | (refine wp_load_row 76 (.tmp 11) rfl xb rfl 76 (cellsB t) (0, 0) _ HX7.out Try.underlying76 rfl (by rw [size76, HCS.out]) ?_) | (rw [if_pos (by rfl)]; refine wp_load_row 76 (.tmp 11) rfl xb rfl 76 (cellsB t) (0, 0) _ HX7.out Try.underlying76 rfl (by rw [size76, HCS.out]) ?_))
              refine hK.out _ _ (by trivial) (fun hHeld => ?_)
              clear hK K
              try simp only [Act.put, List.setIfInBounds_toArray, List.set_cons_zero, List.set_cons_succ]
              refine wpAnyH_ready (rs := [6]) (by kernel_rfl) (by simp) ?_
              refine AllReadyH.cons (o := { dst := some 71, op := Op.buildSlice 71 1 #[(0, Operand.tmp 70)], type := _, pos := _, after := _, guard := none }) rfl (fun K hK => ?_) AllReadyH.nil
              rw [if_pos (by rfl)]
              refine wp_one_blk (.tmp 70) rfl HTL.out rfl ?_
              have cx := (HPX.out (.cells (cellsB t) 76)).trans c4
              refine hK.out _ _ (by trivial) (fun hHeld => ?_)
              clear hK K
              try simp only [Act.put, List.setIfInBounds_toArray, List.set_cons_zero, List.set_cons_succ]
              refine wpAnyH_ready (rs := [7]) (by kernel_rfl) (by simp) ?_
              refine AllReadyH.cons (o := { dst := some 72, op := Op.call { callee := Callee.builtin Builtin.append, args := #[Operand.tmp 69, Operand.tmp 71], argTypes := #[71, 71] }, type := _, pos := _, after := _, guard := none }) rfl (fun K hK => ?_) AllReadyH.nil
              rw [if_pos (by rfl)]
              refine wp_app_blk (.tmp 69) (.tmp 71) rfl (w0 := w7.drew) (B := B) (bs := blksTo other es p) (l := t) rfl rfl HOB.out rfl HTL.out HNL.out HZ7.out ?_
              rw [HNE.out]
              intro A8 c8 w8 ho8 hg8
              have HO8 := hid ho8
              have HG8 := hid hg8
              have HC8 := hid (HQB.out w8 hg8)
              have c8z := HC8.out.1
              have c8f := HC8.out.2
              clear ho8 hg8
              refine hK.out _ _ (by trivial) (fun hHeld => ?_)
              clear hK K
              try simp only [Act.put, List.setIfInBounds_toArray, List.set_cons_zero, List.set_cons_succ]
              refine wpAnyH_take (i := 8) (oi := { dst := some 73, op := Op.nilCheck (Operand.tmp 65), type := _, pos := _, after := _, guard := none }) (v := ?_) rfl (by kernel_rfl) (by kernel_rfl) (by kernel_rfl) (fun _ _ _ h => h) (Or.inl ⟨by rfl, ?_⟩) (by assumption) ?_
              rotate_left
              · intro w hSw; (try dsimp only at hSw); go_simp; try (first | with_reducible rfl | (refine (if_pos ?_).trans ?_ <;> first | omega | with_reducible rfl))
              try simp only [Act.put, List.setIfInBounds_toArray, List.set_cons_zero, List.set_cons_succ]
              refine wpAnyH_take (i := 9) (oi := { dst := some 74, op := Op.fieldAddr 73 (Operand.tmp 73) 2, type := _, pos := _, after := _, guard := none }) (v := ?_) rfl (by kernel_rfl) (by kernel_rfl) (by kernel_rfl) (fun _ _ _ h => h) (Or.inl ⟨by rfl, ?_⟩) (by assumption) ?_
              rotate_left
              · intro w hSw; (try dsimp only at hSw); go_simp; try (first | with_reducible rfl | (refine (if_pos ?_).trans ?_ <;> first | omega | with_reducible rfl))
              try simp only [Act.put, List.setIfInBounds_toArray, List.set_cons_zero, List.set_cons_succ]
              refine wpAnyH_ready (rs := [10]) (by kernel_rfl) (by simp) ?_
              refine AllReadyH.cons (o := { dst := none, op := Op.store 71 (Operand.tmp 74) (Operand.tmp 72), type := _, pos := _, after := _, guard := none }) rfl (fun K hK => ?_) AllReadyH.nil
              go_simp
              refine hK.out _ _ (by trivial) (fun hHeld => ?_)
              clear hK K
              try simp only [Act.put, List.setIfInBounds_toArray, List.set_cons_zero, List.set_cons_succ]
              refine wpAnyH_done (by kernel_rfl) ?_ _
              obtain ⟨w9, hw9⟩ : ∃ w9, w9 = w8.setCell ⟨tb, 4353, none⟩ (.slice A8 (n + 1) c8) := ⟨_, rfl⟩
              have H9 := hid (HADD.out A8 c8 w8 w9 HO8.out HG8.out hw9)
              rw [← hw9]
              clear hw9 c4 c8z c8f
              try clear cx
              obtain ⟨z9, f9, g9⟩ := H9.out.1.firstCell hlt
              have HTN := hid (show Tb (w9.setCell ⟨tb, 1 + p, none⟩ (.int .u16 (n : Int))) B tb other (firstTo other es (p + 1)) (blksTo other es (p + 1)) by rw [HN2.out, HN1.out]; exact H9.out.1.setFirst (first_len _ _ _).symm hlt)
              have HMN := hid (show MapIs (w9.setCell ⟨tb, 1 + p, none⟩ (.int .u16 (n : Int))) mb encB byteL (fun z u => u = Value.int .i64 z) (knB (blksTo other es (p + 1))) by rw [HN1.out]; exact H9.out.2.1.keep (heap_setCell_other _ _ _ _ H9.out.2.2.2.1))
              have HDN := hid (show Bd (w9.setCell ⟨tb, 1 + p, none⟩ (.int .u16 (n : Int))) B B (.slice A es.length c) (builtTo es es.length) by obtain ⟨cs, v, h1, -⟩ := H9.out.1.blk; exact H9.out.2.2.1.keep3 (Keep3.setCell h1 ⟨by decide, by decide⟩))
              have HBN := hid (H9.out.2.2.2.2.setCell (p := ⟨tb, 1 + p, none⟩) H9.out.1.base (.int .u16 (n : Int)))
              go_wp2_with fail
              exact ⟨⟨p + 1, by omega, by go_num, HTN, HMN, HDN, HBN⟩, by simp [intOf]; omega⟩
            case' legB1n1 =>
              intro K hK
              (first | (refine wp_load_row 76 (.tmp 11) rfl xb rfl 76 (cellsB t) (0, 0) _ HX7.out Try.underlying76 rfl (by rw [size76, HCS.out]) ?_) | (rw [if_pos (by rfl)]; refine wp_load_row 76 (.tmp 11) rfl xb rfl 76 (cellsB t) (0, 0) _ HX7.out Try.underlying76 rfl (by rw [size76, HCS.out]) ?_))
              refine hK.out _ _ (by trivial) (fun hHeld => ?_)
              clear hK K
              try simp only [Act.put, List.setIfInBounds_toArray, List.set_cons_zero, List.set_cons_succ]
              refine wpAnyH_ready (rs := [4, 6]) (by kernel_rfl) (by simp) ?_
              refine AllReadyH.cons (o := { dst := some 69, op := Op.load 71 (Operand.tmp 68), type := _, pos := _, after := _, guard := none }) rfl ?legA1n1bn2 (AllReadyH.cons (o := { dst := some 71, op := Op.buildSlice 71 1 #[(0, Operand.tmp 70)], type := _, pos := _, after := _, guard := none }) rfl ?legB1n1bn2 AllReadyH.nil)
              case' legA1n1bn2 =>
                intro K hK
                go_simp
                refine hK.out _ _ (by trivial) (fun hHeld => ?_)
                clear hK K
                try simp only [Act.put, List.setIfInBounds_toArray, List.set_cons_zero, List.set_cons_succ]
                refine wpAnyH_ready (rs := [6]) (by kernel_rfl) (by simp) ?_
                refine AllReadyH.cons (o := { dst := some 71, op := Op.buildSlice 71 1 #[(0, Operand.tmp 70)], type := _, pos := _, after := _, guard := none }) rfl (fun K hK => ?_) AllReadyH.nil
                rw [if_pos (by rfl)]
                refine wp_one_blk (.tmp 70) rfl HTL.out rfl ?_
                have cx := (HPX.out (.cells (cellsB t) 76)).trans c4
                refine hK.out _ _ (by trivial) (fun hHeld => ?_)
                clear hK K
                try simp only [Act.put, List.setIfInBounds_toArray, List.set_cons_zero, List.set_cons_succ]
                refine wpAnyH_ready (rs := [7]) (by kernel_rfl) (by simp) ?_
                refine AllReadyH.cons (o := { dst := some 72, op := Op.call { callee := Callee.builtin Builtin.append, args := #[Operand.tmp 69, Operand.tmp 71], argTypes := #[71, 71] }, type := _, pos := _, after := _, guard := none }) rfl (fun K hK => ?_) AllReadyH.nil
                rw [if_pos (by rfl)]
                refine wp_app_blk (.tmp 69) (.tmp 71) rfl (w0 := w7.drew) (B := B) (bs := blksTo other es p) (l := t) rfl rfl HOB.out rfl HTL.out HNL.out HZ7.out ?_
                rw [HNE.out]
                intro A8 c8 w8 ho8 hg8
                have HO8 := hid ho8
                have HG8 := hid hg8
                have HC8 := hid (HQB.out w8 hg8)
                have c8z := HC8.out.1
                have c8f := HC8.out.2
                clear ho8 hg8
                refine hK.out _ _ (by trivial) (fun hHeld => ?_)
                clear hK K
                try simp only [Act.put, List.setIfInBounds_toArray, List.set_cons_zero, List.set_cons_succ]
                refine wpAnyH_take (i := 8) (oi := { dst := some 73, op := Op.nilCheck (Operand.tmp 65), type := _, pos := _, after := _, guard := none }) (v := ?_) rfl (by kernel_rfl) (by kernel_rfl) (by kernel_rfl) (fun _ _ _ h => h) (Or.inl ⟨by rfl, ?_⟩) (by assumption) ?_
                rotate_left
                · intro w hSw; (try dsimp only at hSw); go_simp; try (first | with_reducible rfl | (refine (if_pos ?_).trans ?_ <;> first | omega | with_reducible rfl))
                try simp only [Act.put, List.setIfInBounds_toArray, List.set_cons_zero, List.set_cons_succ]
                refine wpAnyH_take (i := 9) (oi := { dst := some 74, op := Op.fieldAddr 73 (Operand.tmp 73) 2, type := _, pos := _, after := _, guard := none }) (v := ?_) rfl (by kernel_rfl) (by kernel_rfl) (by kernel_rfl) (fun _ _ _ h => h) (Or.inl ⟨by rfl, ?_⟩) (by assumption) ?_
                rotate_left
                · intro w hSw; (try dsimp only at hSw); go_simp; try (first | with_reducible rfl | (refine (if_pos ?_).trans ?_ <;> first | omega | with_reducible rfl))
                try simp only [Act.put, List.setIfInBounds_toArray, List.set_cons_zero, List.set_cons_succ]
                refine wpAnyH_ready (rs := [10]) (by kernel_rfl) (by simp) ?_
                refine AllReadyH.cons (o := { dst := none, op := Op.store 71 (Operand.tmp 74) (Operand.tmp 72), type := _, pos := _, after := _, guard := none }) rfl (fun K hK => ?_) AllReadyH.nil
                go_simp
                refine hK.out _ _ (by trivial) (fun hHeld => ?_)
                clear hK K
                try simp only [Act.put, List.setIfInBounds_toArray, List.set_cons_zero, List.set_cons_succ]
                refine wpAnyH_done (by kernel_rfl) ?_ _
                obtain ⟨w9, hw9⟩ : ∃ w9, w9 = w8.setCell ⟨tb, 4353, none⟩ (.slice A8 (n + 1) c8) := ⟨_, rfl⟩
                have H9 := hid (HADD.out A8 c8 w8 w9 HO8.out HG8.out hw9)
                rw [← hw9]
                clear hw9 c4 c8z c8f
                try clear cx
                obtain ⟨z9, f9, g9⟩ := H9.out.1.firstCell hlt
                have HTN := hid (show Tb (w9.setCell ⟨tb, 1 + p, none⟩ (.int .u16 (n : Int))) B tb other (firstTo other es (p + 1)) (blksTo other es (p + 1)) by rw [HN2.out, HN1.out]; exact H9.out.1.setFirst (first_len _ _ _).symm hlt)
                have HMN := hid (show MapIs (w9.setCell ⟨tb, 1 + p, none⟩ (.int .u16 (n : Int))) mb encB byteL (fun z u => u = Value.int .i64 z) (knB (blksTo other es (p + 1))) by rw [HN1.out]; exact H9.out.2.1.keep (heap_setCell_other _ _ _ _ H9.out.2.2.2.1))
                have HDN := hid (show Bd (w9.setCell ⟨tb, 1 + p, none⟩ (.int .u16 (n : Int))) B B (.slice A es.length c) (builtTo es es.length) by obtain ⟨cs, v, h1, -⟩ := H9.out.1.blk; exact H9.out.2.2.1.keep3 (Keep3.setCell h1 ⟨by decide, by decide⟩))
                have HBN := hid (H9.out.2.2.2.2.setCell (p := ⟨tb, 1 + p, none⟩) H9.out.1.base (.int .u16 (n : Int)))
                go_wp2_with fail
                exact ⟨⟨p + 1, by omega, by go_num, HTN, HMN, HDN, HBN⟩, by simp [intOf]; omega⟩
              case' legB1n1bn2 =>
                intro K hK
                rw [if_pos (by rfl)]
                refine wp_one_blk (.tmp 70) rfl HTL.out rfl ?_
                have cx := (HPX.out (.cells (cellsB t) 76)).trans c4
                refine hK.out _ _ (by trivial) (fun hHeld => ?_)
                clear hK K
                try simp only [Act.put, List.setIfInBounds_toArray, List.set_cons_zero, List.set_cons_succ]
                refine wpAnyH_ready (rs := [4]) (by kernel_rfl) (by simp) ?_
                refine AllReadyH.cons (o := { dst := some 69, op := Op.load 71 (Operand.tmp 68), type := _, pos := _, after := _, guard := none }) rfl (fun K hK => ?_) AllReadyH.nil
                go_simp
                refine hK.out _ _ (by trivial) (fun hHeld => ?_)
                clear hK K
                try simp only [Act.put, List.setIfInBounds_toArray, List.set_cons_zero, List.set_cons_succ]
                refine wpAnyH_ready (rs := [7]) (by kernel_rfl) (by simp) ?_
                refine AllReadyH.cons (o := { dst := some 72, op := Op.call { callee := Callee.builtin Builtin.append, args := #[Operand.tmp 69, Operand.tmp 71], argTypes := #[71, 71] }, type := _, pos := _, after := _, guard := none }) rfl (fun K hK => ?_) AllReadyH.nil
                rw [if_pos (by rfl)]
                refine wp_app_blk (.tmp 69) (.tmp 71) rfl (w0 := w7.drew) (B := B) (bs := blksTo other es p) (l := t) rfl rfl HOB.out rfl HTL.out HNL.out HZ7.out ?_
                rw [HNE.out]
                intro A8 c8 w8 ho8 hg8
                have HO8 := hid ho8
                have HG8 := hid hg8
                have HC8 := hid (HQB.out w8 hg8)
                have c8z := HC8.out.1
                have c8f := HC8.out.2
                clear ho8 hg8
                refine hK.out _ _ (by trivial) (fun hHeld => ?_)
                clear hK K
                try simp only [Act.put, List.setIfInBounds_toArray, List.set_cons_zero, List.set_cons_succ]
                refine wpAnyH_take (i := 8) (oi := { dst := some 73, op := Op.nilCheck (Operand.tmp 65), type := _, pos := _, after := _, guard := none }) (v := ?_) rfl (by kernel_rfl) (by kernel_rfl) (by kernel_rfl) (fun _ _ _ h => h) (Or.inl ⟨by rfl, ?_⟩) (by assumption) ?_
                rotate_left
                · intro w hSw; (try dsimp only at hSw); go_simp; try (first | with_reducible rfl | (refine (if_pos ?_).trans ?_ <;> first | omega | with_reducible rfl))
                try simp only [Act.put, List.setIfInBounds_toArray, List.set_cons_zero, List.set_cons_succ]
                refine wpAnyH_take (i := 9) (oi := { dst := some 74, op := Op.fieldAddr 73 (Operand.tmp 73) 2, type := _, pos := _, after := _, guard := none }) (v := ?_) rfl (by kernel_rfl) (by kernel_rfl) (by kernel_rfl) (fun _ _ _ h => h) (Or.inl ⟨by rfl, ?_⟩) (by assumption) ?_
                rotate_left
                · intro w hSw; (try dsimp only at hSw); go_simp; try (first | with_reducible rfl | (refine (if_pos ?_).trans ?_ <;> first | omega | with_reducible rfl))
                try simp only [Act.put, List.setIfInBounds_toArray, List.set_cons_zero, List.set_cons_succ]
                refine wpAnyH_ready (rs := [10]) (by kernel_rfl) (by simp) ?_
                refine AllReadyH.cons (o := { dst := none, op := Op.store 71 (Operand.tmp 74) (Operand.tmp 72), type := _, pos := _, after := _, guard := none }) rfl (fun K hK => ?_) AllReadyH.nil
                go_simp
                refine hK.out _ _ (by trivial) (fun hHeld => ?_)
                clear hK K
                try simp only [Act.put, List.setIfInBounds_toArray, List.set_cons_zero, List.set_cons_succ]
                refine wpAnyH_done (by kernel_rfl) ?_ _
                obtain ⟨w9, hw9⟩ : ∃ w9, w9 = w8.setCell ⟨tb, 4353, none⟩ (.slice A8 (n + 1) c8) := ⟨_, rfl⟩
                have H9 := hid (HADD.out A8 c8 w8 w9 HO8.out HG8.out hw9)
                rw [← hw9]
                clear hw9 c4 c8z c8f
                try clear cx
                obtain ⟨z9, f9, g9⟩ := H9.out.1.firstCell hlt
                have HTN := hid (show Tb (w9.setCell ⟨tb, 1 + p, none⟩ (.int .u16 (n : Int))) B tb other (firstTo other es (p + 1)) (blksTo other es (p + 1)) by rw [HN2.out, HN1.out]; exact H9.out.1.setFirst (first_len _ _ _).symm hlt)
                have HMN := hid (show MapIs (w9.setCell ⟨tb, 1 + p, none⟩ (.int .u16 (n : Int))) mb encB byteL (fun z u => u = Value.int .i64 z) (knB (blksTo other es (p + 1))) by rw [HN1.out]; exact H9.out.2.1.keep (heap_setCell_other _ _ _ _ H9.out.2.2.2.1))
                have HDN := hid (show Bd (w9.setCell ⟨tb, 1 + p, none⟩ (.int .u16 (n : Int))) B B (.slice A es.length c) (builtTo es es.length) by obtain ⟨cs, v, h1, -⟩ := H9.out.1.blk; exact H9.out.2.2.1.keep3 (Keep3.setCell h1 ⟨by decide, by decide⟩))
                have HBN := hid (H9.out.2.2.2.2.setCell (p := ⟨tb, 1 + p, none⟩) H9.out.1.base (.int .u16 (n : Int)))
                go_wp2_with fail
                exact ⟨⟨p + 1, by omega, by go_num, HTN, HMN, HDN, HBN⟩, by simp [intOf]; omega⟩
        · obtain rfl : p = 4352 := by omega
          have HTF := hid (show IsTrie wr tb other es from ⟨B, HT.out⟩)
          have HBF := hid (HB4.out.trans (HB.out.mono HBW.out))
          go_wp2_with fail
          go_ret2
          exact ⟨tb, rfl, HTF.out, HBF.out⟩
end Go.Proofs.Ytehchnagjdmdgaa
