/- Names walked: all names that have one of some bits, sorted. Condition: the table of blanks as it is laid. -/
import Derived.Test.YtfdfeblcchbcnaaDoorNv
namespace Go.Proofs.YtfdfeblcchbcnaaDoor
open Go.RowKit Go.Sort

def orAll (zs : List Int) : Int := zs.foldl (fun a z => bits .or .i64 a z) 0
theorem orAll_succ {zs : List Int} {k : Nat} (h : k < zs.length) : orAll (zs.take (k + 1)) = bits .or .i64 (orAll (zs.take k)) (nth zs k) := by
  rw [take_nth h]
  simp [orAll, List.foldl_append]
theorem info9 : (Tryd.prog.info? 9).map (fun i => (i.zero, i.size, i.bytes)) = some (some (.string ByteArray.empty), 1, 16) := by kernel_rfl
def NamesLAns (w : World) (A : Int) (e : Ending) (w' : World) : Prop := ∃ P l c, e = .returned (.slice P l.length c) ∧ NamesL A l ∧ l.length ≤ 100 ∧
  (∀ k s, l[k]? = some s → ∃ b, P = some ⟨b, 0, none⟩ ∧ w.heap.size ≤ b ∧ b < w'.heap.size ∧ w'.cell? ⟨b, k, none⟩ = some (.string (strOf s))) ∧ Below w.heap.size w w'
theorem map_enc (ss : List ByteArray) : ss.map Value.string = (ss.map fun s => s.data.toList).map encStr := by
  rw [List.map_map]
  exact List.map_congr_left fun s _ => by cases s; rfl

theorem own_iter {K V : Type} {P : Program} {kt : TypeId} {enc : K → Value} {ok : K → Prop} {R : V → Value → Prop} {w : World} {b r cnt : Nat} {m : List (K × V)} {left : K → Bool} {base e size n : Nat} {v : Value} {xs : List Value}
    (h : w.ownsRow base e size v n xs) (hr : RangeIs P kt w b r enc ok R m left cnt) : some r ≠ v.ownBlock := by
  obtain ⟨_, _, _, _, hrg, _⟩ := hr
  exact row_ne_iter h hrg
theorem own_iter_ne {K V : Type} {P : Program} {kt : TypeId} {enc : K → Value} {ok : K → Prop} {R : V → Value → Prop} {w : World} {b r cnt : Nat} {m : List (K × V)} {left : K → Bool} {base e size n : Nat} {v : Value} {xs : List Value}
    (h : w.ownsRow base e size v n xs) (hr : RangeIs P kt w b r enc ok R m left cnt) : v.ownBlock = none ∨ v.ownBlock ≠ some r := by
  obtain ⟨_, _, _, _, hrg, _⟩ := hr
  exact .inr fun e => row_ne_iter h hrg e.symm

theorem names_end {w wr : World} {A : Int} {g cap nn n : Nat} {os : Array Obj} {l : List (List UInt8)} (HB : Below w.heap.size w wr) (hg : w.heap.size ≤ g) (hgl : g < wr.heap.size) (hH : Go.Sort.Holds encStr wr g 0 l.toArray) (hn : l.length = n) (h100 : n ≤ 100)
    (hN : NamesL A (l.mergeSort fun x y => decide (x ≤ y))) :
    NamesLAns w A (.returned (.slice (some ⟨g, 0, none⟩) n cap)) (grow (putRow encStr (Sort.ahead wr nn) g 0 (l.mergeSort fun x y => decide (x ≤ y)).toArray) os) := by
  have hl2 : (l.mergeSort fun x y => decide (x ≤ y)).length = n := by rw [List.length_mergeSort]; exact hn
  have hH2 : Go.Sort.Holds encStr (grow (putRow encStr (Sort.ahead wr nn) g 0 (l.mergeSort fun x y => decide (x ≤ y)).toArray) os) g 0 (l.mergeSort fun x y => decide (x ≤ y)).toArray :=
    holds_grow encStr _ os g 0 _ (by simpa [putRow, mapBlock, Sort.ahead] using hgl) (holds_putRow encStr _ g 0 _ _ (holds_ahead encStr wr nn g 0 _ hH) (by simp))
  refine ⟨_, (l.mergeSort fun x y => decide (x ≤ y)), cap, by rw [hl2], hN, by omega, fun k s hk => ?_, HB.grown (grownBy_sorted _) HB.size (fun j hj => by cases hj; exact hg)⟩
  have hlt : k < (l.mergeSort fun x y => decide (x ≤ y)).length := (List.getElem?_eq_some_iff.1 hk).1
  have h1 := (hH2 k (by simpa using hlt)).1
  refine ⟨g, rfl, hg, by simp [grow, putRow, mapBlock, Sort.ahead]; omega, ?_⟩
  rw [Nat.zero_add] at h1
  rw [h1]
  have h2 : (l.mergeSort fun x y => decide (x ≤ y)).toArray[k]! = s := by
    rw [getElem!_pos _ k (by simpa using hlt)]
    simpa using (List.getElem?_eq_some_iff.1 hk).2
  rw [h2]

set_option maxRecDepth 100000 in
set_option maxHeartbeats 4000000 in
theorem names21_any (S : Nat → Prop) (v : Value) (zs : List Int) (w : World) (h : IsNums .i64 w S v zs) (ht : Tab w) : Calls Tryd.prog 21 #[v] w (NamesLAns w (orAll zs)) := by
  have hl := h.le
  obtain ⟨A, c, rfl, _, _, hA⟩ := h
  have HA := hid hA
  have HT := hid ht
  obtain ⟨i0, hi0, hz0, hz1, hz2⟩ := info_parts info9
  clear hA ht
  go_enter Tryd.func21, Tryd.ntmps21
  go_wp2_with fail
  go_loop [3, 11] (fun s3 s11 => ∃ k : Nat, k ≤ zs.length ∧ s11 = .int .i64 k ∧ s3 = .int .i64 (orAll (zs.take k))) (fun _ s11 => zs.length - (intOf s11).toNat)
  case atStart => exact ⟨0, by omega, rfl, rfl⟩
  case round =>
    obtain ⟨k, hk, rfl, rfl⟩ := hrel
    by_cases hlt : k < zs.length
    · obtain ⟨b, o, rfl, _, hb, hc⟩ := HA.out.num hlt
      have hst := hid (orAll_succ hlt)
      go_wp2_with fail
      go_round
      case rel => exact ⟨k + 1, by omega, by go_num, by rw [hst.out]⟩
      case measure => simp [intOf]; omega
    · obtain rfl : k = zs.length := by omega
      rw [List.take_length]
      obtain ⟨all, hall⟩ : ∃ all, all = orAll zs := ⟨_, rfl⟩
      have HALL := hid hall
      rw [← hall]
      clear hall hk hlt
      go_wp2_with fail
      refine (names_pos _ HT.out).mono ?_
      rintro e w1 ⟨mb, m, rfl, hmb, hmap, hh, hp, hb1⟩
      have ho := hmap.once
      have hml := map_len ho hh hp
      have HH := hid hh
      have HP := hid hp
      have HO := hid ho
      have HM := hid hmap
      have HB1 := hid hb1
      have hz1' := hb1.size
      have hmlt := hmap.lt
      clear hh hp ho hmap hb1
      go_wp2_with (first | (at_range; refine wpList_range_is rfl (.tmp 19) 50 rfl stringKey Tryd.underlying50 rfl HM.out (by unfold maxLen; omega) ?_; intro w2 cnt hrg2 hg2 hs2) | go_in)
      go_frame
      have HB2 := hid (HB1.out.grown hg2 HB1.out.size (fun k hk => by cases hk))
      have HRG := hid hrg2
      obtain ⟨r, hr⟩ : ∃ r, r = w1.heap.size := ⟨_, rfl⟩
      rw [← hr] at HRG ⊢
      have hrw : w.heap.size ≤ r := by omega
      have HREQ := hid hr
      clear hr
      clear hrg2 hg2 HM HB1
      go_loopw [6] (fun s6 wr => ∃ (left : ByteArray → Bool) (cnt : Nat) (ss : List ByteArray), Hid (RangeIs Tryd.prog 9 wr mb r (fun s : ByteArray => Value.string s) okS (fun (n : Int) u => u = .int .i64 n) m left cnt) ∧ Hid (wr.ownsRow w.heap.size 9 1 s6 ss.length (ss.map Value.string)) ∧ Hid (Coll all m left ss) ∧ Hid (Below w.heap.size w wr)) (fun _ wr => wr.rangeLeft mb r)
      case atStart => exact ⟨_, _, [], HRG, hid ⟨rfl, .inl ⟨rfl, rfl⟩⟩, hid (coll_start _ _), HB2⟩
      case round =>
        obtain ⟨left, cnt', ss, HR, HOW, HC, HB⟩ := hrel
        clear HRG HB2
        go_wp2_with (at_next; refine wpList_next_is rfl (.tmp 20) rfl stringKey rfl HR.out ?_ ?_)
        · intro hl0
          have HL := hid hl0
          clear hl0
          have HN := hid (names_sorted HO.out HH.out HP.out HC.out fun p hp => HL.out p.1 p.2 hp)
          have hcl := coll_len HC.out
          have hln : (ss.map fun s => s.data.toList).length = ss.length := List.length_map _
          obtain ⟨l, hl'⟩ : ∃ l, l = ss.map fun s => s.data.toList := ⟨_, rfl⟩
          have hW := HOW.out
          rw [map_enc, ← hl'] at hW
          rw [← hl'] at HN hln
          by_cases hnil : u6 = .slice none 0 0
          · subst hnil
            have hz : ss.length = 0 := by
              rcases hW.2 with ⟨_, h0⟩ | ⟨g, cap, cur, hv, _⟩
              · exact h0
              · cases hv
            obtain rfl : l = [] := List.length_eq_zero_iff.1 (by omega)
            clear hW hl' hln hz HOW HL HC
            go_wp2_with fail
            refine (Tryd.slices_Sort_string_none none 0 _).mono ?_
            rintro e w4 ⟨rfl, rfl⟩
            go_wp2_with fail
            go_ret
            rw [← HALL.out]
            exact ⟨none, [], 0, rfl, by simpa using HN.out, by simp, fun k s hk => by simp at hk, HB.out⟩
          · obtain ⟨g, cap, rfl, hbg, hgl, hncap, hcm, hlen, hH⟩ := Lib.holds_of_ownsRow hW hnil
            have hsort := Tryd.slices_Sort_string g 0 cap l wr hH hgl (by omega)
            rw [hlen] at hsort
            have HSORT := hid hsort
            have HHO := hid hH
            have HLEN := hid hlen
            clear hsort hH hlen hW hl' hln HOW HL HC hnil
            go_wp2_with fail
            refine HSORT.out.mono ?_
            rintro e w4 ⟨rfl, nn, os, rfl⟩
            go_wp2_with fail
            go_ret
            rw [← HALL.out]
            exact names_end HB.out hbg hgl HHO.out HLEN.out (by omega) HN.out
        · intro kk n u w3 cnt3 hmem hlk hu hrg3 hlt3 hg3 hs3 hen
          subst hu
          have HRG3 := hid hrg3
          have HB3 := hid (HB.out.grown hg3 HB.out.size (fun k hk => by cases hk; exact hrw))
          have HO3 := hid (HOW.out.kept hg3 (own_iter_ne HOW.out HR.out))
          have HLT := hid (show w3.rangeLeft mb r < wr.rangeLeft mb r by rw [HR.out.left_eq, hrg3.left_eq]; exact hlt3)
          have hcl := coll_len HC.out
          by_cases hw : wanted all n = true
          · have q : (bits .and .i64 n all != 0) = true := hw
            have HC3 := hid (coll_take HC.out hmem hlk hw)
            have hlen1 : (ss ++ [kk]).length = ss.length + 1 := by simp
            have hcl3 := coll_len HC3.out
            have hb3 := HB3.out.size
            clear hrg3 hlt3 hg3 hs3 hmem hlk hw HC HR HOW HB
            go_wp2_with (first
              | (at_builtin; refine wpList_app _ rfl (.tmp 30) (.tmp 32) 42 rfl w.heap.size 9 i0 _ 1 16 Tryd.underlying42 hi0 hz0 hz1 hz2 rfl (by decide) u6 _ _ rfl (HO3.out.alloc _) (some ⟨w3.heap.size, 0, none⟩) 1 1 _ rfl (src_new w3 _ 9 1 rfl) (by simp [Value.oneCell']) (by simp only [maxLen]; omega) (by omega) (by simp; omega) ?_; intro v' w4 hown4 hgrow4 hat4))
            have hg4 : w3.grownBy w4 u6.ownBlock := grown_trans (World.grownBy_alloc w3 _ _) hgrow4
            have HRG4 := hid (HRG3.out.kept hg4 (fun e => own_map_ne HO3.out HRG3.out.map e.symm) (own_iter HO3.out HRG3.out))
            have HB4 := hid (below_own HB3.out HO3.out hg4 HB3.out.size)
            have HO4 := hid (show w4.ownsRow w.heap.size 9 1 v' (ss ++ [kk]).length ((ss ++ [kk]).map Value.string) by rw [hlen1, List.map_append]; exact hown4)
            have HLT4 := hid (show w4.rangeLeft mb r < wr.rangeLeft mb r by rw [HRG4.out.left_eq, ← HRG3.out.left_eq]; exact HLT.out)
            clear hown4 hgrow4 hat4 hg4
            go_roundw
            case rel => exact ⟨_, cnt3, _, HRG4, HO4, HC3, HB4⟩
            case measure => exact HLT4.out
          · have q : (bits .and .i64 n all != 0) = false := by simpa [wanted] using hw
            have HC3 := hid (coll_skip HO.out HC.out hmem (by simpa using hw))
            clear hrg3 hlt3 hg3 hs3 hmem hlk hw HC HR HOW HB
            go_wp2_with fail
            go_roundw
            case rel => exact ⟨_, cnt3, ss, HRG3, HO3, HC3, HB3⟩
            case measure => exact HLT.out
end Go.Proofs.YtfdfeblcchbcnaaDoor
