/- A part's text, in brackets if it wants them; parts' texts, joined; an expression's text. Conditions: the expression lies in memory, is right, and has no more than 2000 parts. -/
import Derived.Test.YtjcdcmeclnihbaaQa
import Derived.Test.YtjcdcmeclnihbaaJn
import Derived.Test.YtjcdcmeclnihbaaPp
namespace Go.Proofs.Ytjcdcmeclnihbaa
open Go.RowKit
set_option linter.unusedSimpArgs false
def TxC (d : Nat) : Prop := ∀ (on : Bool) (S : Nat → Prop) (v : Value) (t : Tr d) (w : World), IsTr w S d v t → fitsT d on t = true → cnt d t ≤ 2000 →
  Calls Try.prog 51 #[v] w fun e w' => ∃ s, e = .returned (.string s) ∧ bsOf s = txP (toP d t) ∧ Below w.heap.size w w'
theorem info9 : (Try.prog.info? 9).map (fun i => (i.zero, i.size, i.bytes)) = some (some (.string ⟨#[]⟩), 1, 16) := by kernel_rfl
theorem one_strs (xs : List ByteArray) : ∀ u ∈ xs.map Value.string, u.oneCell' = true := by
  intro u hu
  obtain ⟨x, -, rfl⟩ := List.mem_map.1 hu
  rfl
/-- 'append(x, s)' of strings of one's own. -/
theorem wpList_app_str {w : World} {ops : Array Oper} {rest : List Oper} {o : Oper} {a : Act} {Q : Exit → Act → World → Prop} (hgd : o.guard = none) (s x : Operand) (ho : o.op = .call { callee := .builtin .append, args := #[s, x], argTypes := #[120, 120] })
    {B : Nat} {v : Value} {n : Nat} {xs : List ByteArray} (hs : a.eval s = v) (hown : w.ownsRow B 9 1 v n (xs.map .string)) {g c : Nat} {z : ByteArray} (hx : a.eval x = .slice (some ⟨g, 0, none⟩) 1 c) (hz : w.cell? ⟨g, 0, none⟩ = some (.string z))
    (hl : n ≤ 1000000) (hB : B ≤ w.heap.size)
    (hk : ∀ v' w', w'.ownsRow B 9 1 v' (n + 1) ((xs ++ [z]).map .string) → w.grownBy w' v.ownBlock → wpList Try.prog ops Q rest (a.put o.dst v') w') : wpList Try.prog ops Q (o :: rest) a w := by
  obtain ⟨i0, hi0, hz0, hz1, hz2⟩ := info_parts info9
  refine wpList_append_own w hgd s x 120 ho B 9 i0 _ 1 16 Try.underlying120 hi0 hz0 hz1 hz2 rfl (by decide) v n (xs.map .string) hs hown ⟨g, 0, none⟩ 1 c [.string z] hx rfl ?_ (one_strs [z]) (by simp only [maxLen]; omega) (by omega) hB ?_
  · intro j u hu
    have : j = 0 := by have := (List.getElem?_eq_some_iff.1 hu).1; simpa using this
    subst this
    simp at hu
    subst hu
    exact hz
  · intro v' w' h1 h2 _
    refine hk v' w' ?_ h2
    rw [List.map_append]
    exact h1
theorem tx_size {s : ByteArray} {d : Nat} {t : Tr d} (h : bsOf s = txP (toP d t)) (hn : cnt d t ≤ 2000) : s.size ≤ 100000 := by
  have h1 := txP_len (toP d t)
  rw [← h, bsOf_len, cntP_toP] at h1
  omega
theorem bsOf_app (a b : ByteArray) : bsOf (a ++ b) = bsOf a ++ bsOf b := by
  unfold bsOf
  rw [show (a ++ b).data = a.data ++ b.data from ByteArray.data_append, Array.toList_append, List.map_append]
set_option maxRecDepth 100000 in
set_option maxHeartbeats 1000000 in
theorem told_of {d : Nat} (H : TxC d) {on : Bool} {S S2 : Nat → Prop} {v kv : Value} {ks : List Int} {t : Tr d} {w : World} (h : IsTr w S d v t) (hf : fitsT d on t = true) (hn : cnt d t ≤ 2000) (hk : IsNums .i64 w S2 kv ks) :
    Calls Try.prog 78 #[v, kv] w fun e w' => ∃ s, e = .returned (.string s) ∧ bsOf s = toldB ks (toP d t).kind (txP (toP d t)) ∧ Below w.heap.size w w' := by
  obtain ⟨A, c, rfl⟩ := h.plain.form
  obtain ⟨k0, hk0⟩ : ∃ k, k = (toP d t).kind := ⟨_, rfl⟩
  obtain ⟨c0, hc0⟩ : ∃ k, k = (toP d t).cls := ⟨_, rfl⟩
  obtain ⟨n0, hn0⟩ : ∃ k, k = (toP d t).kids.length := ⟨_, rfl⟩
  rw [← hk0, ← hc0, ← hn0] at h ⊢
  obtain ⟨X, hX⟩ : ∃ X, X = w.alloc (.cells #[.int .i64 k0, .int .i64 c0, .slice A n0 c] 45) := ⟨_, rfl⟩
  have HX := hid hX
  have HXB := hid (show X.heap[w.heap.size]? = some (.cells #[.int .i64 k0, .int .i64 c0, .slice A n0 c] 45 (0, 0)) by rw [hX]; exact heap_alloc_new _ _)
  have hb : Below w.heap.size w X := by rw [hX]; exact (Below.refl _ _).alloc (Nat.le_refl _) _
  have HB := hid hb
  have HC := hid (H on S _ t X (h.below hb) hf hn)
  have HK := hid (hk.below hb)
  obtain ⟨kA, kc, rfl⟩ := hk.form
  clear hX h hk hb hk0 hc0 hn0
  obtain ⟨y0, y1, y2, -⟩ := slot3 HXB.out
  go_enter Try.func78, Try.ntmps78
  go_wp2_with fail
  rw [← HX.out]
  go_wp2_with fail
  refine (contains_any S2 _ ks k0 X HK.out).mono ?_
  rintro e w1 ⟨rfl, rfl⟩
  cases hin : inL ks k0 with
  | true =>
    go_wp2_with fail
    refine HC.out.mono ?_
    rintro e w2 ⟨s, rfl, hs, hb2⟩
    have HS := hid hs
    have HB2 := hid (HB.out.trans (hb2.mono HB.out.size))
    have hsz := tx_size hs hn
    clear hs hb2
    go_wp2_with fail
    go_ret
    refine ⟨_, rfl, ?_, HB2.out⟩
    rw [bsOf_app, bsOf_app, HS.out]
    unfold toldB
    rw [if_pos hin]
    rfl
  | false =>
    go_wp2_with fail
    refine HC.out.mono ?_
    rintro e w2 ⟨s, rfl, hs, hb2⟩
    have HS := hid hs
    have HB2 := hid (HB.out.trans (hb2.mono HB.out.size))
    have hsz := tx_size hs hn
    clear hs hb2
    go_wp2_with fail
    go_ret
    refine ⟨_, rfl, ?_, HB2.out⟩
    rw [HS.out]
    unfold toldB
    rw [if_neg (by rw [hin]; decide)]
theorem take_map_succ {T U : Type} (f : T → U) {l : List T} {k : Nat} (hk : k < l.length) : (l.take (k + 1)).map f = (l.take k).map f ++ [f l[k]] := by
  rw [List.take_succ_eq_append_getElem hk, List.map_append]; rfl
set_option maxRecDepth 100000 in
set_option maxHeartbeats 1000000 in
theorem joined_of {d : Nat} (H : TxC d) {S S2 : Nat → Prop} {A : Option Addr} {c : Nat} {l : List (Tr d)} {kv : Value} {ks : List Int} {w : World} (hrow : Row3 (IsTr w S d) w S A l) (hf : ∀ t, t ∈ l → fitsT d true t = true) (hn : cntL (fun k => cnt d k) l ≤ 1999) (hl0 : l ≠ []) (sep : UInt8) (hk : IsNums .i64 w S2 kv ks) :
    Calls Try.prog 77 #[.slice A l.length c, .string ⟨#[sep]⟩, kv] w fun e w' => ∃ s, e = .returned (.string s) ∧ bsOf s = joinB sep.toNat (l.map fun t => toldB ks (toP d t).kind (txP (toP d t))) ∧ Below w.heap.size w w' := by
  have HM2 := hid (show l.length ≤ 1999 from Nat.le_trans (cntL_len (fun x => cnt_pos d x) l) hn)
  have HM := hid hn
  have HR := hid hrow
  have HK := hid hk
  have HF := hid hf
  have HL0 := hid hl0
  obtain ⟨kA, kc, rfl⟩ := hk.form
  obtain ⟨f, hfd⟩ : ∃ f : Tr d → Bs, f = fun t => toldB ks (toP d t).kind (txP (toP d t)) := ⟨_, rfl⟩
  have HFD := hid hfd
  rw [← hfd]
  obtain ⟨q, hq⟩ : ∃ q, q = w.heap.size := ⟨_, rfl⟩
  have HQ := hid hq
  have HT := hid H
  obtain ⟨kn, hkn⟩ : ∃ k, k = ks.length := ⟨_, rfl⟩
  rw [← hkn] at HK ⊢
  clear hrow hk hf hn hl0 hfd hq H hkn
  go_enter Try.func77, Try.ntmps77
  go_wp2_with fail
  go_loopw [7, 12] (fun s7 s12 wr => ∃ (k : Nat) (xs : List ByteArray) (v7 : Value), k ≤ l.length ∧ v7 = s7 ∧ s12 = .int .i64 k ∧ Hid (xs.map bsOf = (l.take k).map f) ∧ Hid (wr.ownsRow q 9 1 v7 k (xs.map .string)) ∧ Hid (Below q w wr)) (fun _ s12 _ => l.length - (intOf s12).toNat)
  case atStart => exact ⟨0, [], _, by omega, rfl, rfl, hid (by simp), hid (World.ownsRow_nil _ _ _ _), hid (by rw [HQ.out]; exact Below.refl _ _)⟩
  case round =>
    obtain ⟨k, xs, v7, hk, rfl, rfl, HX, HO, HB⟩ := hrel
    have HBq := hid (show Below w.heap.size w wr by rw [← HQ.out]; exact HB.out)
    by_cases hlt : k < l.length
    · obtain ⟨b, o, v0, v1, v2, rfl, -, hbs, c0, c1, c2, ht⟩ := HR.out.at (List.getElem?_eq_getElem hlt)
      obtain ⟨k0, k1, A2, n2, cp2, rfl, rfl, rfl⟩ := ht.cells
      have hbw : wr.heap[b]? = w.heap[b]? := HBq.out.block b hbs
      have d0 := (cell_same hbw).trans c0
      have d1 := (cell_same hbw).trans c1
      have d2 := (cell_same hbw).trans c2
      obtain ⟨V, hV⟩ : ∃ V, V = wr.alloc (.cells #[.int .i64 k0, .int .i64 k1, .slice A2 n2 cp2] 45) := ⟨_, rfl⟩
      have HV := hid hV
      obtain ⟨e5, he5⟩ : ∃ e, e = wr.heap.size := ⟨_, rfl⟩
      have HE5 := hid he5
      have HBV := hid (show Below w.heap.size w V by rw [hV]; exact HBq.out.alloc HBq.out.size _)
      have HVE := hid (show V.heap[e5]? = some (.cells #[.int .i64 k0, .int .i64 k1, .slice A2 n2 cp2] 45 (0, 0)) by rw [hV, he5]; exact heap_alloc_new _ _)
      have HOV := hid (show V.ownsRow q 9 1 v7 k (xs.map .string) by rw [hV]; exact HO.out.alloc _)
      have HCn := hid (show cnt d l[k] ≤ 2000 by have h1 := cntL_mem (f := fun k => cnt d k) (List.getElem_mem hlt); have h2 := HM.out; omega)
      have HC := hid (told_of HT.out (on := true) (ht.below HBV.out) (HF.out _ (List.getElem_mem hlt)) HCn.out (HK.out.below HBV.out))
      obtain ⟨e0, e1, e2, -⟩ := slot3 HVE.out
      have hk2 : k ≤ 1000000 := by have := HM2.out; omega
      have hsz := HM2.out
      clear hV he5 hbw c0 c1 c2 ht
      go_wp2_with fail
      rw [← HV.out, ← HE5.out]
      go_wp2_with fail
      refine HC.out.mono ?_
      rintro e w2 ⟨s, rfl, hs, hb2⟩
      have HS := hid hs
      have HB2 := hid (HBV.out.trans (hb2.mono HBV.out.size))
      have HO2 := hid (HOV.out.kept (grown_of_below hb2 none) (Classical.em _))
      have HSL := hid (show (xs ++ [s]).map bsOf = (l.take (k + 1)).map f by
        rw [take_map_succ f hlt, List.map_append, HX.out, HFD.out]
        simp [HS.out])
      have HOX := hid (HO2.out.alloc (.cells #[.string s] 9))
      have HCX := hid (show (w2.alloc (.cells #[.string s] 9)).cell? ⟨w2.heap.size, 0, none⟩ = some (.string s) by rw [cell_of_row _ _ _ _ _ _ (heap_alloc_new _ _)]; rfl)
      have HBX := hid (show Below q w (w2.alloc (.cells #[.string s] 9)) by rw [HQ.out]; exact HB2.out.alloc HB2.out.size _)
      have HSX := hid (show q ≤ (w2.alloc (.cells #[.string s] 9)).heap.size by have := HBX.out.size; have := HQ.out; omega)
      clear hs hb2 e0 e1 e2 d0 d1 d2
      go_wp2_with (first
        | (at_builtin; (refine wpList_app_str rfl (.tmp 16) (.tmp 20) rfl (B := q) (v := v7) (n := k) (xs := xs) rfl HOX.out (g := w2.heap.size) (c := 1) (z := s) rfl HCX.out hk2 HSX.out ?_); intro v' w' ho hg)
        | fail)
      have HV' := hid (below_own HBX.out HOX.out hg HSX.out)
      go_roundw
      case rel => exact ⟨k + 1, xs ++ [s], _, by omega, rfl, by go_num, HSL, hid ho, HV'⟩
      case measure => simp [intOf]; omega
    · have hkl : k = l.length := by omega
      have hxl : xs.length = l.length := by
        have := congrArg List.length HX.out
        simpa [hkl] using this
      have hpos : 0 < l.length := List.length_pos_iff.2 HL0.out
      obtain ⟨-, ⟨-, h0⟩ | ⟨g, cap, cur, rfl, hg, hh, hcap, -⟩⟩ := HO.out
      · omega
      subst hkl
      have HJ := hid (Try.strings_Join g 0 cap xs ⟨#[sep]⟩ wr (fun j x hx => by
          have := HO.out.cells (g := g) rfl j (.string x) (by rw [List.getElem?_map, hx]; rfl)
          rcases j with _ | j <;> simpa [Addr.add] using this) (Array.getElem?_eq_some_iff.1 hh).1 (by have := HM2.out; omega) (by omega) (by
          have h1 := join_is sep xs
          have h2 := congrArg List.length h1
          rw [List.length_map] at h2
          have h3 := joinB_len sep.toNat (xs.map bsOf)
          have h4 : lenL (xs.map bsOf) ≤ 20 * 1999 := by
            rw [HX.out, List.take_length, HFD.out]
            have h5 := txPs_len ks (l.map (toP d))
            rw [txPs_map, List.map_map, cntPs_sum, cntL_map] at h5
            have h6 : cntL (fun x => cntP (toP d x)) l = cntL (fun k => cnt d k) l := by congr 1; funext x; exact cntP_toP d x
            rw [h6] at h5
            have := HM.out
            exact Nat.le_trans h5 (by omega)
          show (Lib.join (xs.map (·.data.toList)) [sep]).length ≤ _
          omega))
      rw [hxl] at HJ
      clear hxl hpos hg hh hcap
      go_wp2_with fail
      refine HJ.out.mono ?_
      rintro e w2 ⟨rfl, hb2⟩
      have HB2 := hid (HBq.out.trans (hb2.mono HBq.out.size))
      clear hb2 HJ
      go_wp2_with fail
      go_ret
      refine ⟨_, rfl, ?_, HB2.out⟩
      have h1 := join_is sep xs
      rw [HX.out, List.take_length] at h1
      rw [← h1]
      unfold bsOf
      rw [List.toList_toArray]
theorem tx_size2 {ks : List Int} {s : ByteArray} {d : Nat} {t : Tr d} (h : bsOf s = toldB ks (toP d t).kind (txP (toP d t))) (hn : cnt d t ≤ 2000) : s.size ≤ 100000 := by
  have h1 := txP_len (toP d t)
  have h2 := toldB_len ks (toP d t).kind (txP (toP d t))
  rw [← h, bsOf_len] at h2
  rw [cntP_toP] at h1
  omega
theorem fitB_parts {on : Bool} {k c n : Int} (h : fitB on k c n = true) : 0 ≤ k ∧ k ≤ 9 ∧ least k ≤ n := by
  unfold fitB at h
  simp only [Bool.and_eq_true, decide_eq_true_eq] at h
  exact ⟨h.1.1.1.1, h.1.1.1.2, h.1.2.1⟩
/-- A literal list of numbers. -/
theorem lit_nums (w : World) (zs : List Int) (hz : zs.length ≤ 1000000) : IsNums .i64 (w.alloc (.cells (zs.map (.int .i64)).toArray 3)) Any (.slice (some ⟨w.heap.size, 0, none⟩) zs.length zs.length) zs := by
  have h := World.ownsRow_lit (base := w.heap.size) (e := 3) (size := 1) w (zs.map (Value.int .i64)).toArray zs.length (Nat.le_refl _) (by unfold maxLen; omega) (by simp)
  rw [List.toList_toArray] at h
  exact (own_nums h).mono fun _ _ _ => trivial
theorem txK_4 (c : Int) (xs : List Bs) : txK 4 c xs = joinB 32 xs := by unfold txK; simp
theorem txK_5 (c : Int) (xs : List Bs) : txK 5 c xs = joinB 124 xs := by unfold txK; simp
theorem txK_6 (c : Int) (x : Bs) (xs : List Bs) : txK 6 c (x :: xs) = x ++ [42] := by unfold txK; simp [signB]
theorem txK_7 (c : Int) (x : Bs) (xs : List Bs) : txK 7 c (x :: xs) = x ++ [43] := by unfold txK; simp [signB]
theorem txK_8 (c : Int) (x : Bs) (xs : List Bs) : txK 8 c (x :: xs) = x ++ [63] := by unfold txK; simp [signB]
theorem ks_4 : ksOf 4 = [4, 5] := by simp [ksOf]
theorem ks_5 : ksOf 5 = [5] := by simp [ksOf]
theorem ks_6 : ksOf 6 = [4, 5, 6, 7, 8] := by simp [ksOf]
theorem ks_7 : ksOf 7 = [4, 5, 6, 7, 8] := by simp [ksOf]
theorem ks_8 : ksOf 8 = [4, 5, 6, 7, 8] := by simp [ksOf]
theorem sep32 : UInt8.toNat 32 = 32 := rfl
theorem sep124 : UInt8.toNat 124 = 124 := rfl
set_option maxRecDepth 100000 in
set_option maxHeartbeats 4000000 in
theorem text_any : ∀ d, TxC d := by
  intro d
  induction d with
  | zero => intro on S v t; exact t.elim
  | succ d ih =>
    intro on S v t w h hf hn
    obtain ⟨A, c, rfl, hle, hkids⟩ := h.open
    obtain ⟨kd, hkd⟩ : ∃ kd, kd = Tr.kind t := ⟨_, rfl⟩
    obtain ⟨cl, hcl⟩ : ∃ cl, cl = Tr.cls t := ⟨_, rfl⟩
    obtain ⟨l, hl⟩ : ∃ l, l = Tr.kids t := ⟨_, rfl⟩
    have hfit : fitB on kd cl (l.length : Int) = true ∧ ∀ x, x ∈ l → fitsT d true x = true := by
      rw [hkd, hcl, hl]
      have h2 : (fitB on (Tr.kind t) (Tr.cls t) (Tr.kids t).length && (Tr.kids t).all (fun x => fitsT d true x)) = true := hf
      rw [Bool.and_eq_true] at h2
      exact ⟨h2.1, List.all_eq_true.1 h2.2⟩
    obtain ⟨h0, h9, hleast⟩ := fitB_parts hfit.1
    have HFT := hid hfit.2
    have HM := hid (show cntL (fun k => cnt d k) l ≤ 1999 by rw [hl]; simp only [cnt] at hn; omega)
    have HLE := hid (show l.length ≤ 1999 from Nat.le_trans (cntL_len (fun x => cnt_pos d x) l) HM.out)
    have HTX := hid (show txP (toP (d + 1) t) = txK kd cl (l.map fun p => toldB (ksOf kd) (toP d p).kind (txP (toP d p))) by
      rw [toP_succ, txP_mk, List.map_map, hkd, hcl, hl]; rfl)
    rw [← hkd, ← hcl, ← hl]
    rw [← hl] at hkids
    have IH := hid ih
    obtain ⟨X, hX⟩ : ∃ X, X = w.alloc (.cells #[.int .i64 kd, .int .i64 cl, .slice A l.length c] 45) := ⟨_, rfl⟩
    obtain ⟨q, hq⟩ : ∃ q, q = w.heap.size := ⟨_, rfl⟩
    have HQ := hid hq
    have HX := hid hX
    have HXB := hid (show X.heap[q]? = some (.cells #[.int .i64 kd, .int .i64 cl, .slice A l.length c] 45 (0, 0)) by rw [hX, hq]; exact heap_alloc_new _ _)
    have HXS := hid (show X.heap.size = q + 1 by rw [hX, hq]; simp)
    have hb : Below w.heap.size w X := by rw [hX]; exact (Below.refl _ _).alloc (Nat.le_refl _) _
    have HB := hid hb
    have HK := hid (hkids.below hb)
    rw [HTX.out]
    obtain ⟨y0, y1, y2, -⟩ := slot3 HXB.out
    clear hkd hcl hl h hn hle hfit hf hX hq hb hkids ih HTX
    go_enter Try.func51, Try.ntmps51
    rcases (by omega : kd = 0 ∨ kd = 1 ∨ kd = 2 ∨ kd = 3 ∨ kd = 4 ∨ kd = 5 ∨ kd = 6 ∨ kd = 7 ∨ kd = 8 ∨ kd = 9) with rfl | rfl | rfl | rfl | rfl | rfl | rfl | rfl | rfl | rfl
    · go_wp2_with fail
      rw [← HX.out, ← HQ.out]
      go_wp2_with fail
      refine (nameOf_any cl X).mono ?_
      rintro e w2 ⟨rfl, hb2⟩
      have HB2 := hid (HB.out.trans (hb2.mono HB.out.size))
      clear hb2
      go_wp2_with fail
      go_ret
      exact ⟨_, rfl, rfl, HB2.out⟩
    · go_wp2_with fail
      rw [← HX.out, ← HQ.out]
      go_wp2_with fail
      go_ret
      exact ⟨_, rfl, rfl, by rw [HQ.out]; exact HB.out⟩
    · go_wp2_with fail
      rw [← HX.out, ← HQ.out]
      go_wp2_with fail
      refine (nameOf_any cl X).mono ?_
      rintro e w2 ⟨rfl, hb2⟩
      have HB2 := hid (HB.out.trans (hb2.mono HB.out.size))
      have hsz : (nameS cl).size ≤ 16 := by have := nameP_len cl; unfold nameP at this; rw [bsOf_len] at this; exact this
      clear hb2
      go_wp2_with fail
      go_ret
      refine ⟨_, rfl, ?_, HB2.out⟩
      rw [bsOf_app]
      rfl
    · go_wp2_with fail
      rw [← HX.out, ← HQ.out]
      go_wp2_with fail
      go_ret
      exact ⟨_, rfl, rfl, by rw [HQ.out]; exact HB.out⟩
    · have HL0 := hid (show l ≠ [] by have h2 : (2 : Int) ≤ l.length := hleast; intro e; rw [e] at h2; simp at h2)
      obtain ⟨V, hV⟩ : ∃ V, V = X.alloc (.cells #[.int .i64 4, .int .i64 5] 3) := ⟨_, rfl⟩
      have HV := hid hV
      have HBX := hid (show Below X.heap.size X V by rw [hV]; exact (Below.refl X.heap.size X).alloc (Nat.le_refl _) _)
      have hlit : IsNums .i64 V Any (.slice (some ⟨q + 1, 0, none⟩) 2 2) [4, 5] := by have h := lit_nums X [4, 5] (by decide); rw [HXS.out] at h; rw [hV]; exact h
      have HC := hid (joined_of (c := c) IH.out (HK.out.below HBX.out) HFT.out HM.out HL0.out 32 hlit)
      clear hV hlit
      go_wp2_with fail
      rw [← HX.out, ← HQ.out]
      go_wp2_with fail
      rw [← HV.out]
      refine HC.out.mono ?_
      rintro e w2 ⟨s, rfl, hs, hb2⟩
      have HS := hid hs
      have HB2 := hid (HB.out.trans ((HBX.out.trans (hb2.mono HBX.out.size)).mono HB.out.size))
      clear hs hb2
      go_wp2_with fail
      go_ret
      refine ⟨_, rfl, ?_, HB2.out⟩
      rw [HS.out, txK_4, ks_4, sep32]
    · have HL0 := hid (show l ≠ [] by have h2 : (2 : Int) ≤ l.length := hleast; intro e; rw [e] at h2; simp at h2)
      obtain ⟨V, hV⟩ : ∃ V, V = X.alloc (.cells #[.int .i64 5] 3) := ⟨_, rfl⟩
      have HV := hid hV
      have HBX := hid (show Below X.heap.size X V by rw [hV]; exact (Below.refl X.heap.size X).alloc (Nat.le_refl _) _)
      have hlit : IsNums .i64 V Any (.slice (some ⟨q + 1, 0, none⟩) 1 1) [5] := by have h := lit_nums X [5] (by decide); rw [HXS.out] at h; rw [hV]; exact h
      have HC := hid (joined_of (c := c) IH.out (HK.out.below HBX.out) HFT.out HM.out HL0.out 124 hlit)
      clear hV hlit
      go_wp2_with fail
      rw [← HX.out, ← HQ.out]
      go_wp2_with fail
      rw [← HV.out]
      refine HC.out.mono ?_
      rintro e w2 ⟨s, rfl, hs, hb2⟩
      have HS := hid hs
      have HB2 := hid (HB.out.trans ((HBX.out.trans (hb2.mono HBX.out.size)).mono HB.out.size))
      clear hs hb2
      go_wp2_with fail
      go_ret
      refine ⟨_, rfl, ?_, HB2.out⟩
      rw [HS.out, txK_5, ks_5, sep124]
    · have HL0 := hid (show 0 < l.length by have h2 : (1 : Int) ≤ l.length := hleast; omega)
      obtain ⟨n0, hn0⟩ : ∃ n, n = l.length := ⟨_, rfl⟩
      have hpos : 0 < n0 := by have := HL0.out; omega
      rw [← hn0] at HX HXB y2 ⊢
      obtain ⟨b, o, v0, v1, v2, rfl, -, hbs, c0, c1, c2, ht⟩ := HK.out.at (List.getElem?_eq_getElem HL0.out)
      obtain ⟨k0, k1, A2, n2, cp2, rfl, rfl, rfl⟩ := ht.cells
      rw [Nat.zero_mul, Nat.add_zero] at c0 c1 c2
      have HBS := hid hbs
      have HQX := hid (show q < X.heap.size from (Array.getElem?_eq_some_iff.1 HXB.out).1)
      have HSY := hid (show ∀ Y : World, Below X.heap.size X Y → Y.cell? ⟨q, 0, none⟩ = some (.int .i64 6) ∧ Y.cell? ⟨q, 2, none⟩ = some (.slice (some ⟨b, o, none⟩) n0 c) ∧ Y.cell? ⟨b, o, none⟩ = some (.int .i64 k0) ∧ Y.cell? ⟨b, o + 1, none⟩ = some (.int .i64 k1) ∧ Y.cell? ⟨b, o + 2, none⟩ = some (.slice A2 n2 cp2) from fun Y hY =>
        ⟨(cell_same (hY.block q HQX.out)).trans y0, (cell_same (hY.block q HQX.out)).trans y2, (cell_same (hY.block b HBS.out)).trans c0, (cell_same (hY.block b HBS.out)).trans c1, (cell_same (hY.block b HBS.out)).trans c2⟩)
      obtain ⟨V, hV⟩ : ∃ V, V = (X.alloc (.cells #[.int .i64 4, .int .i64 5, .int .i64 6, .int .i64 7, .int .i64 8] 3)).drew := ⟨_, rfl⟩
      have HV := hid hV
      have HBX1 := hid (show Below X.heap.size X V by rw [hV]; exact ((Below.refl X.heap.size X).alloc (Nat.le_refl _) _).drew)
      have hlit : IsNums .i64 V Any (.slice (some ⟨X.heap.size, 0, none⟩) 5 5) [4, 5, 6, 7, 8] := by rw [hV]; exact IsNums.keep (w := X.alloc (.cells #[.int .i64 4, .int .i64 5, .int .i64 6, .int .i64 7, .int .i64 8] 3)) (lit_nums X [4, 5, 6, 7, 8] (by decide)) (fun _ _ _ => rfl)
      have HCn := hid (show cnt d l[0] ≤ 2000 by have h1 := cntL_mem (f := fun k => cnt d k) (List.getElem_mem HL0.out); have h2 := HM.out; omega)
      have HC := hid (told_of IH.out (on := true) (ht.below HBX1.out) (HFT.out _ (List.getElem_mem HL0.out)) HCn.out hlit)
      clear hV hlit c0 c1 c2 hbs ht hn0 hleast
      go_wp2_with fail
      rw [← HX.out, ← HQ.out]
      go_wp2_with fail
      clear y0 y1 y2
      have hw0 : IntKind.i64.wrap 0 = 0 := by decide
      have hw1 : IntKind.i64.wrap 1 = 1 := by decide
      have hw2 : IntKind.i64.wrap 2 = 2 := by decide
      have hw3 : IntKind.i64.wrap 3 = 3 := by decide
      refine wp_region_held_drew (S := (fun Y => Y.cell? ⟨q, 0, none⟩ = some (.int .i64 6) ∧ Y.cell? ⟨q, 2, none⟩ = some (.slice (some ⟨b, o, none⟩) n0 c) ∧ Y.cell? ⟨b, o, none⟩ = some (.int .i64 k0) ∧ Y.cell? ⟨b, o + 1, none⟩ = some (.int .i64 k1) ∧ Y.cell? ⟨b, o + 2, none⟩ = some (.slice A2 n2 cp2))) (by kernel_rfl) (by exact HSY.out X (Below.refl _ _)) (fun hHeld => ?_)
      refine wpAnyH_take (i := 0) (oi := { dst := some 36, op := Op.fieldAddr 45 (Operand.tmp 1) 2, type := _, pos := _, after := _, guard := none }) (v := ?_) rfl (by kernel_rfl) (by kernel_rfl) (by kernel_rfl) (fun _ _ _ h => h) (Or.inl ⟨by rfl, ?_⟩) (by assumption) ?_
      rotate_left
      · intro w hSw; (try dsimp only at hSw); go_simp; try (first | with_reducible rfl | (refine (if_pos ?_).trans ?_ <;> first | omega | with_reducible rfl))
      try simp only [Act.put, List.setIfInBounds_toArray, List.set_cons_zero, List.set_cons_succ]
      refine wpAnyH_take (i := 1) (oi := { dst := some 37, op := Op.load 43 (Operand.tmp 36), type := _, pos := _, after := _, guard := none }) (v := ?_) rfl (by kernel_rfl) (by kernel_rfl) (by kernel_rfl) (fun _ _ _ h => h) (Or.inl ⟨by rfl, ?_⟩) (by assumption) ?_
      rotate_left
      · intro w hSw; (try dsimp only at hSw); go_simp; try (first | with_reducible rfl | (refine (if_pos ?_).trans ?_ <;> first | omega | with_reducible rfl))
      try simp only [Act.put, List.setIfInBounds_toArray, List.set_cons_zero, List.set_cons_succ]
      refine wpAnyH_take (i := 2) (oi := { dst := some 38, op := Op.indexAddr 43 (Operand.tmp 37) (Operand.const (Value.int IntKind.i64 0)), type := _, pos := _, after := _, guard := none }) (v := ?_) rfl (by kernel_rfl) (by kernel_rfl) (by kernel_rfl) (fun _ _ _ h => h) (Or.inl ⟨by rfl, ?_⟩) (by assumption) ?_
      rotate_left
      · intro w hSw; (try dsimp only at hSw); go_simp; try (first | with_reducible rfl | (refine (if_pos ?_).trans ?_ <;> first | omega | with_reducible rfl))
      try simp only [Act.put, List.setIfInBounds_toArray, List.set_cons_zero, List.set_cons_succ]
      refine wpAnyH_take (i := 3) (oi := { dst := some 39, op := Op.load 45 (Operand.tmp 38), type := _, pos := _, after := _, guard := none }) (v := ?_) rfl (by kernel_rfl) (by kernel_rfl) (by kernel_rfl) (fun _ _ _ h => h) (Or.inl ⟨by rfl, ?_⟩) (by assumption) ?_
      rotate_left
      · intro w hSw; (try dsimp only at hSw); go_simp; try (first | with_reducible rfl | (refine (if_pos ?_).trans ?_ <;> first | omega | with_reducible rfl))
      try simp only [Act.put, List.setIfInBounds_toArray, List.set_cons_zero, List.set_cons_succ]
      refine wpAnyH_take (i := 6) (oi := { dst := some 42, op := Op.fieldAddr 45 (Operand.tmp 1) 0, type := _, pos := _, after := _, guard := none }) (v := ?_) rfl (by kernel_rfl) (by kernel_rfl) (by kernel_rfl) (fun _ _ _ h => h) (Or.inl ⟨by rfl, ?_⟩) (by assumption) ?_
      rotate_left
      · intro w hSw; (try dsimp only at hSw); go_simp; try (first | with_reducible rfl | (refine (if_pos ?_).trans ?_ <;> first | omega | with_reducible rfl))
      try simp only [Act.put, List.setIfInBounds_toArray, List.set_cons_zero, List.set_cons_succ]
      refine wpAnyH_take (i := 7) (oi := { dst := some 43, op := Op.load 3 (Operand.tmp 42), type := _, pos := _, after := _, guard := none }) (v := ?_) rfl (by kernel_rfl) (by kernel_rfl) (by kernel_rfl) (fun _ _ _ h => h) (Or.inl ⟨by rfl, ?_⟩) (by assumption) ?_
      rotate_left
      · intro w hSw; (try dsimp only at hSw); go_simp; try (first | with_reducible rfl | (refine (if_pos ?_).trans ?_ <;> first | omega | with_reducible rfl))
      try simp only [Act.put, List.setIfInBounds_toArray, List.set_cons_zero, List.set_cons_succ]
      refine wpAnyH_take (i := 8) (oi := { dst := some 44, op := Op.binOp BinOp.sub 3 (Operand.tmp 43) (Operand.const (Value.int IntKind.i64 6)) 3, type := _, pos := _, after := _, guard := none }) (v := ?_) rfl (by kernel_rfl) (by kernel_rfl) (by kernel_rfl) (fun _ _ _ h => h) (Or.inl ⟨by rfl, ?_⟩) (by assumption) ?_
      rotate_left
      · intro w hSw; (try dsimp only at hSw); go_simp; try (first | with_reducible rfl | (refine (if_pos ?_).trans ?_ <;> first | omega | with_reducible rfl))
      try simp only [Act.put, List.setIfInBounds_toArray, List.set_cons_zero, List.set_cons_succ]
      refine wpAnyH_take (i := 9) (oi := { dst := some 45, op := Op.fieldAddr 45 (Operand.tmp 1) 0, type := _, pos := _, after := _, guard := none }) (v := ?_) rfl (by kernel_rfl) (by kernel_rfl) (by kernel_rfl) (fun _ _ _ h => h) (Or.inl ⟨by rfl, ?_⟩) (by assumption) ?_
      rotate_left
      · intro w hSw; (try dsimp only at hSw); go_simp; try (first | with_reducible rfl | (refine (if_pos ?_).trans ?_ <;> first | omega | with_reducible rfl))
      try simp only [Act.put, List.setIfInBounds_toArray, List.set_cons_zero, List.set_cons_succ]
      refine wpAnyH_take (i := 10) (oi := { dst := some 46, op := Op.load 3 (Operand.tmp 45), type := _, pos := _, after := _, guard := none }) (v := ?_) rfl (by kernel_rfl) (by kernel_rfl) (by kernel_rfl) (fun _ _ _ h => h) (Or.inl ⟨by rfl, ?_⟩) (by assumption) ?_
      rotate_left
      · intro w hSw; (try dsimp only at hSw); go_simp; try (first | with_reducible rfl | (refine (if_pos ?_).trans ?_ <;> first | omega | with_reducible rfl))
      try simp only [Act.put, List.setIfInBounds_toArray, List.set_cons_zero, List.set_cons_succ]
      refine wpAnyH_take (i := 11) (oi := { dst := some 47, op := Op.binOp BinOp.sub 3 (Operand.tmp 46) (Operand.const (Value.int IntKind.i64 6)) 3, type := _, pos := _, after := _, guard := none }) (v := ?_) rfl (by kernel_rfl) (by kernel_rfl) (by kernel_rfl) (fun _ _ _ h => h) (Or.inl ⟨by rfl, ?_⟩) (by assumption) ?_
      rotate_left
      · intro w hSw; (try dsimp only at hSw); go_simp; try (first | with_reducible rfl | (refine (if_pos ?_).trans ?_ <;> first | omega | with_reducible rfl))
      try simp only [Act.put, List.setIfInBounds_toArray, List.set_cons_zero, List.set_cons_succ]
      refine wpAnyH_take (i := 12) (oi := { dst := some 48, op := Op.binOp BinOp.add 3 (Operand.tmp 47) (Operand.const (Value.int IntKind.i64 1)) 3, type := _, pos := _, after := _, guard := none }) (v := ?_) rfl (by kernel_rfl) (by kernel_rfl) (by kernel_rfl) (fun _ _ _ h => h) (Or.inl ⟨by rfl, ?_⟩) (by assumption) ?_
      rotate_left
      · intro w hSw; (try dsimp only at hSw); go_simp; try (first | with_reducible rfl | (refine (if_pos ?_).trans ?_ <;> first | omega | with_reducible rfl))
      try simp only [Act.put, List.setIfInBounds_toArray, List.set_cons_zero, List.set_cons_succ]
      refine wpAnyH_take (i := 13) (oi := { dst := some 49, op := Op.slice 9 (Operand.const (Value.string { data := #[42, 43, 63] })) (some (Operand.tmp 44)) (some (Operand.tmp 48)) none, type := _, pos := _, after := _, guard := none }) (v := ?_) rfl (by kernel_rfl) (by kernel_rfl) (by kernel_rfl) (fun _ _ _ h => h) (Or.inl ⟨by rfl, ?_⟩) (by assumption) ?_
      rotate_left
      · intro w hSw; (try dsimp only at hSw); go_simp; try (first | with_reducible rfl | (refine (if_pos ?_).trans ?_ <;> first | omega | with_reducible rfl))
      try simp only [Act.put, List.setIfInBounds_toArray, List.set_cons_zero, List.set_cons_succ]
      refine wpAnyH_ready (rs := [4]) (by kernel_rfl) (by simp) ?_
      refine AllReadyH.cons (o := { dst := some 40, op := Op.buildSlice 22 5 #[(0, Operand.const (Value.int IntKind.i64 4)), (1, Operand.const (Value.int IntKind.i64 5)), (2, Operand.const (Value.int IntKind.i64 6)), (3, Operand.const (Value.int IntKind.i64 7)), (4, Operand.const (Value.int IntKind.i64 8))], type := _, pos := _, after := _, guard := none }) rfl (fun K hK => ?_) AllReadyH.nil
      rw [if_pos (by rfl)]
      go_simp
      refine hK.out _ _ (by exact HSY.out _ (((Below.refl X.heap.size X).alloc (Nat.le_refl _) _).drew)) (fun hHeld => ?_)
      clear hK K
      try simp only [Act.put, List.setIfInBounds_toArray, List.set_cons_zero, List.set_cons_succ]
      refine wpAnyH_ready (rs := [5]) (by kernel_rfl) (by simp) ?_
      refine AllReadyH.cons (o := { dst := some 41, op := Op.call { callee := Callee.value (Operand.func 78), args := #[Operand.tmp 39, Operand.tmp 40], argTypes := #[45, 22] }, type := _, pos := _, after := _, guard := none }) rfl (fun K hK => ?_) AllReadyH.nil
      rw [if_pos (by rfl)]
      go_simp
      rw [← HV.out]
      refine HC.out.mono ?_
      rintro e w2 ⟨s, rfl, hs, hb2⟩
      have HS := hid hs
      have HBX2 := hid hb2
      have hsz := tx_size2 hs HCn.out
      refine hK.out _ _ (by exact HSY.out w2 (HBX1.out.trans (HBX2.out.mono HBX1.out.size))) (fun hHeld => ?_)
      clear hK K
      try simp only [Act.put, List.setIfInBounds_toArray, List.set_cons_zero, List.set_cons_succ]
      refine wpAnyH_take (i := 14) (oi := { dst := some 50, op := Op.binOp BinOp.add 9 (Operand.tmp 41) (Operand.tmp 49) 9, type := _, pos := _, after := _, guard := none }) (v := .string (s ++ (⟨#[42, 43, 63]⟩ : ByteArray).extract 0 1)) rfl (by kernel_rfl) (by kernel_rfl) (by kernel_rfl) (fun _ _ _ h => h) (Or.inl ⟨by rfl, by intro w hSw; (try dsimp only at hSw); go_simp; omega⟩) (by assumption) ?_
      try simp only [Act.put, List.setIfInBounds_toArray, List.set_cons_zero, List.set_cons_succ]
      refine wpAnyH_take (i := 15) (oi := { dst := some 2, op := Op.assign (Operand.tmp 50), type := _, pos := _, after := _, guard := none }) (v := ?_) rfl (by kernel_rfl) (by kernel_rfl) (by kernel_rfl) (fun _ _ _ h => h) (Or.inl ⟨by rfl, ?_⟩) (by assumption) ?_
      rotate_left
      · intro w hSw; (try dsimp only at hSw); go_simp; try (first | with_reducible rfl | (refine (if_pos ?_).trans ?_ <;> first | omega | with_reducible rfl))
      try simp only [Act.put, List.setIfInBounds_toArray, List.set_cons_zero, List.set_cons_succ]
      refine wpAnyH_done (by kernel_rfl) ?_ _
      go_wp2_with fail
      go_ret
      refine ⟨_, rfl, ?_, HB.out.trans ((HBX1.out.trans (HBX2.out.mono HBX1.out.size)).mono HB.out.size)⟩
      rw [bsOf_app, HS.out]
      obtain ⟨x, r, hxr⟩ : ∃ x r, l = x :: r := by
        cases l with
        | nil => exact absurd HL0.out (by simp)
        | cons x r => exact ⟨x, r, rfl⟩
      subst hxr
      rw [List.map_cons, txK_6, ks_6]
      rfl
    · have HL0 := hid (show 0 < l.length by have h2 : (1 : Int) ≤ l.length := hleast; omega)
      obtain ⟨n0, hn0⟩ : ∃ n, n = l.length := ⟨_, rfl⟩
      have hpos : 0 < n0 := by have := HL0.out; omega
      rw [← hn0] at HX HXB y2 ⊢
      obtain ⟨b, o, v0, v1, v2, rfl, -, hbs, c0, c1, c2, ht⟩ := HK.out.at (List.getElem?_eq_getElem HL0.out)
      obtain ⟨k0, k1, A2, n2, cp2, rfl, rfl, rfl⟩ := ht.cells
      rw [Nat.zero_mul, Nat.add_zero] at c0 c1 c2
      have HBS := hid hbs
      have HQX := hid (show q < X.heap.size from (Array.getElem?_eq_some_iff.1 HXB.out).1)
      have HSY := hid (show ∀ Y : World, Below X.heap.size X Y → Y.cell? ⟨q, 0, none⟩ = some (.int .i64 7) ∧ Y.cell? ⟨q, 2, none⟩ = some (.slice (some ⟨b, o, none⟩) n0 c) ∧ Y.cell? ⟨b, o, none⟩ = some (.int .i64 k0) ∧ Y.cell? ⟨b, o + 1, none⟩ = some (.int .i64 k1) ∧ Y.cell? ⟨b, o + 2, none⟩ = some (.slice A2 n2 cp2) from fun Y hY =>
        ⟨(cell_same (hY.block q HQX.out)).trans y0, (cell_same (hY.block q HQX.out)).trans y2, (cell_same (hY.block b HBS.out)).trans c0, (cell_same (hY.block b HBS.out)).trans c1, (cell_same (hY.block b HBS.out)).trans c2⟩)
      obtain ⟨V, hV⟩ : ∃ V, V = (X.alloc (.cells #[.int .i64 4, .int .i64 5, .int .i64 6, .int .i64 7, .int .i64 8] 3)).drew := ⟨_, rfl⟩
      have HV := hid hV
      have HBX1 := hid (show Below X.heap.size X V by rw [hV]; exact ((Below.refl X.heap.size X).alloc (Nat.le_refl _) _).drew)
      have hlit : IsNums .i64 V Any (.slice (some ⟨X.heap.size, 0, none⟩) 5 5) [4, 5, 6, 7, 8] := by rw [hV]; exact IsNums.keep (w := X.alloc (.cells #[.int .i64 4, .int .i64 5, .int .i64 6, .int .i64 7, .int .i64 8] 3)) (lit_nums X [4, 5, 6, 7, 8] (by decide)) (fun _ _ _ => rfl)
      have HCn := hid (show cnt d l[0] ≤ 2000 by have h1 := cntL_mem (f := fun k => cnt d k) (List.getElem_mem HL0.out); have h2 := HM.out; omega)
      have HC := hid (told_of IH.out (on := true) (ht.below HBX1.out) (HFT.out _ (List.getElem_mem HL0.out)) HCn.out hlit)
      clear hV hlit c0 c1 c2 hbs ht hn0 hleast
      go_wp2_with fail
      rw [← HX.out, ← HQ.out]
      go_wp2_with fail
      clear y0 y1 y2
      have hw0 : IntKind.i64.wrap 0 = 0 := by decide
      have hw1 : IntKind.i64.wrap 1 = 1 := by decide
      have hw2 : IntKind.i64.wrap 2 = 2 := by decide
      have hw3 : IntKind.i64.wrap 3 = 3 := by decide
      refine wp_region_held_drew (S := (fun Y => Y.cell? ⟨q, 0, none⟩ = some (.int .i64 7) ∧ Y.cell? ⟨q, 2, none⟩ = some (.slice (some ⟨b, o, none⟩) n0 c) ∧ Y.cell? ⟨b, o, none⟩ = some (.int .i64 k0) ∧ Y.cell? ⟨b, o + 1, none⟩ = some (.int .i64 k1) ∧ Y.cell? ⟨b, o + 2, none⟩ = some (.slice A2 n2 cp2))) (by kernel_rfl) (by exact HSY.out X (Below.refl _ _)) (fun hHeld => ?_)
      refine wpAnyH_take (i := 0) (oi := { dst := some 36, op := Op.fieldAddr 45 (Operand.tmp 1) 2, type := _, pos := _, after := _, guard := none }) (v := ?_) rfl (by kernel_rfl) (by kernel_rfl) (by kernel_rfl) (fun _ _ _ h => h) (Or.inl ⟨by rfl, ?_⟩) (by assumption) ?_
      rotate_left
      · intro w hSw; (try dsimp only at hSw); go_simp; try (first | with_reducible rfl | (refine (if_pos ?_).trans ?_ <;> first | omega | with_reducible rfl))
      try simp only [Act.put, List.setIfInBounds_toArray, List.set_cons_zero, List.set_cons_succ]
      refine wpAnyH_take (i := 1) (oi := { dst := some 37, op := Op.load 43 (Operand.tmp 36), type := _, pos := _, after := _, guard := none }) (v := ?_) rfl (by kernel_rfl) (by kernel_rfl) (by kernel_rfl) (fun _ _ _ h => h) (Or.inl ⟨by rfl, ?_⟩) (by assumption) ?_
      rotate_left
      · intro w hSw; (try dsimp only at hSw); go_simp; try (first | with_reducible rfl | (refine (if_pos ?_).trans ?_ <;> first | omega | with_reducible rfl))
      try simp only [Act.put, List.setIfInBounds_toArray, List.set_cons_zero, List.set_cons_succ]
      refine wpAnyH_take (i := 2) (oi := { dst := some 38, op := Op.indexAddr 43 (Operand.tmp 37) (Operand.const (Value.int IntKind.i64 0)), type := _, pos := _, after := _, guard := none }) (v := ?_) rfl (by kernel_rfl) (by kernel_rfl) (by kernel_rfl) (fun _ _ _ h => h) (Or.inl ⟨by rfl, ?_⟩) (by assumption) ?_
      rotate_left
      · intro w hSw; (try dsimp only at hSw); go_simp; try (first | with_reducible rfl | (refine (if_pos ?_).trans ?_ <;> first | omega | with_reducible rfl))
      try simp only [Act.put, List.setIfInBounds_toArray, List.set_cons_zero, List.set_cons_succ]
      refine wpAnyH_take (i := 3) (oi := { dst := some 39, op := Op.load 45 (Operand.tmp 38), type := _, pos := _, after := _, guard := none }) (v := ?_) rfl (by kernel_rfl) (by kernel_rfl) (by kernel_rfl) (fun _ _ _ h => h) (Or.inl ⟨by rfl, ?_⟩) (by assumption) ?_
      rotate_left
      · intro w hSw; (try dsimp only at hSw); go_simp; try (first | with_reducible rfl | (refine (if_pos ?_).trans ?_ <;> first | omega | with_reducible rfl))
      try simp only [Act.put, List.setIfInBounds_toArray, List.set_cons_zero, List.set_cons_succ]
      refine wpAnyH_take (i := 6) (oi := { dst := some 42, op := Op.fieldAddr 45 (Operand.tmp 1) 0, type := _, pos := _, after := _, guard := none }) (v := ?_) rfl (by kernel_rfl) (by kernel_rfl) (by kernel_rfl) (fun _ _ _ h => h) (Or.inl ⟨by rfl, ?_⟩) (by assumption) ?_
      rotate_left
      · intro w hSw; (try dsimp only at hSw); go_simp; try (first | with_reducible rfl | (refine (if_pos ?_).trans ?_ <;> first | omega | with_reducible rfl))
      try simp only [Act.put, List.setIfInBounds_toArray, List.set_cons_zero, List.set_cons_succ]
      refine wpAnyH_take (i := 7) (oi := { dst := some 43, op := Op.load 3 (Operand.tmp 42), type := _, pos := _, after := _, guard := none }) (v := ?_) rfl (by kernel_rfl) (by kernel_rfl) (by kernel_rfl) (fun _ _ _ h => h) (Or.inl ⟨by rfl, ?_⟩) (by assumption) ?_
      rotate_left
      · intro w hSw; (try dsimp only at hSw); go_simp; try (first | with_reducible rfl | (refine (if_pos ?_).trans ?_ <;> first | omega | with_reducible rfl))
      try simp only [Act.put, List.setIfInBounds_toArray, List.set_cons_zero, List.set_cons_succ]
      refine wpAnyH_take (i := 8) (oi := { dst := some 44, op := Op.binOp BinOp.sub 3 (Operand.tmp 43) (Operand.const (Value.int IntKind.i64 6)) 3, type := _, pos := _, after := _, guard := none }) (v := ?_) rfl (by kernel_rfl) (by kernel_rfl) (by kernel_rfl) (fun _ _ _ h => h) (Or.inl ⟨by rfl, ?_⟩) (by assumption) ?_
      rotate_left
      · intro w hSw; (try dsimp only at hSw); go_simp; try (first | with_reducible rfl | (refine (if_pos ?_).trans ?_ <;> first | omega | with_reducible rfl))
      try simp only [Act.put, List.setIfInBounds_toArray, List.set_cons_zero, List.set_cons_succ]
      refine wpAnyH_take (i := 9) (oi := { dst := some 45, op := Op.fieldAddr 45 (Operand.tmp 1) 0, type := _, pos := _, after := _, guard := none }) (v := ?_) rfl (by kernel_rfl) (by kernel_rfl) (by kernel_rfl) (fun _ _ _ h => h) (Or.inl ⟨by rfl, ?_⟩) (by assumption) ?_
      rotate_left
      · intro w hSw; (try dsimp only at hSw); go_simp; try (first | with_reducible rfl | (refine (if_pos ?_).trans ?_ <;> first | omega | with_reducible rfl))
      try simp only [Act.put, List.setIfInBounds_toArray, List.set_cons_zero, List.set_cons_succ]
      refine wpAnyH_take (i := 10) (oi := { dst := some 46, op := Op.load 3 (Operand.tmp 45), type := _, pos := _, after := _, guard := none }) (v := ?_) rfl (by kernel_rfl) (by kernel_rfl) (by kernel_rfl) (fun _ _ _ h => h) (Or.inl ⟨by rfl, ?_⟩) (by assumption) ?_
      rotate_left
      · intro w hSw; (try dsimp only at hSw); go_simp; try (first | with_reducible rfl | (refine (if_pos ?_).trans ?_ <;> first | omega | with_reducible rfl))
      try simp only [Act.put, List.setIfInBounds_toArray, List.set_cons_zero, List.set_cons_succ]
      refine wpAnyH_take (i := 11) (oi := { dst := some 47, op := Op.binOp BinOp.sub 3 (Operand.tmp 46) (Operand.const (Value.int IntKind.i64 6)) 3, type := _, pos := _, after := _, guard := none }) (v := ?_) rfl (by kernel_rfl) (by kernel_rfl) (by kernel_rfl) (fun _ _ _ h => h) (Or.inl ⟨by rfl, ?_⟩) (by assumption) ?_
      rotate_left
      · intro w hSw; (try dsimp only at hSw); go_simp; try (first | with_reducible rfl | (refine (if_pos ?_).trans ?_ <;> first | omega | with_reducible rfl))
      try simp only [Act.put, List.setIfInBounds_toArray, List.set_cons_zero, List.set_cons_succ]
      refine wpAnyH_take (i := 12) (oi := { dst := some 48, op := Op.binOp BinOp.add 3 (Operand.tmp 47) (Operand.const (Value.int IntKind.i64 1)) 3, type := _, pos := _, after := _, guard := none }) (v := ?_) rfl (by kernel_rfl) (by kernel_rfl) (by kernel_rfl) (fun _ _ _ h => h) (Or.inl ⟨by rfl, ?_⟩) (by assumption) ?_
      rotate_left
      · intro w hSw; (try dsimp only at hSw); go_simp; try (first | with_reducible rfl | (refine (if_pos ?_).trans ?_ <;> first | omega | with_reducible rfl))
      try simp only [Act.put, List.setIfInBounds_toArray, List.set_cons_zero, List.set_cons_succ]
      refine wpAnyH_take (i := 13) (oi := { dst := some 49, op := Op.slice 9 (Operand.const (Value.string { data := #[42, 43, 63] })) (some (Operand.tmp 44)) (some (Operand.tmp 48)) none, type := _, pos := _, after := _, guard := none }) (v := ?_) rfl (by kernel_rfl) (by kernel_rfl) (by kernel_rfl) (fun _ _ _ h => h) (Or.inl ⟨by rfl, ?_⟩) (by assumption) ?_
      rotate_left
      · intro w hSw; (try dsimp only at hSw); go_simp; try (first | with_reducible rfl | (refine (if_pos ?_).trans ?_ <;> first | omega | with_reducible rfl))
      try simp only [Act.put, List.setIfInBounds_toArray, List.set_cons_zero, List.set_cons_succ]
      refine wpAnyH_ready (rs := [4]) (by kernel_rfl) (by simp) ?_
      refine AllReadyH.cons (o := { dst := some 40, op := Op.buildSlice 22 5 #[(0, Operand.const (Value.int IntKind.i64 4)), (1, Operand.const (Value.int IntKind.i64 5)), (2, Operand.const (Value.int IntKind.i64 6)), (3, Operand.const (Value.int IntKind.i64 7)), (4, Operand.const (Value.int IntKind.i64 8))], type := _, pos := _, after := _, guard := none }) rfl (fun K hK => ?_) AllReadyH.nil
      rw [if_pos (by rfl)]
      go_simp
      refine hK.out _ _ (by exact HSY.out _ (((Below.refl X.heap.size X).alloc (Nat.le_refl _) _).drew)) (fun hHeld => ?_)
      clear hK K
      try simp only [Act.put, List.setIfInBounds_toArray, List.set_cons_zero, List.set_cons_succ]
      refine wpAnyH_ready (rs := [5]) (by kernel_rfl) (by simp) ?_
      refine AllReadyH.cons (o := { dst := some 41, op := Op.call { callee := Callee.value (Operand.func 78), args := #[Operand.tmp 39, Operand.tmp 40], argTypes := #[45, 22] }, type := _, pos := _, after := _, guard := none }) rfl (fun K hK => ?_) AllReadyH.nil
      rw [if_pos (by rfl)]
      go_simp
      rw [← HV.out]
      refine HC.out.mono ?_
      rintro e w2 ⟨s, rfl, hs, hb2⟩
      have HS := hid hs
      have HBX2 := hid hb2
      have hsz := tx_size2 hs HCn.out
      refine hK.out _ _ (by exact HSY.out w2 (HBX1.out.trans (HBX2.out.mono HBX1.out.size))) (fun hHeld => ?_)
      clear hK K
      try simp only [Act.put, List.setIfInBounds_toArray, List.set_cons_zero, List.set_cons_succ]
      refine wpAnyH_take (i := 14) (oi := { dst := some 50, op := Op.binOp BinOp.add 9 (Operand.tmp 41) (Operand.tmp 49) 9, type := _, pos := _, after := _, guard := none }) (v := .string (s ++ (⟨#[42, 43, 63]⟩ : ByteArray).extract 1 2)) rfl (by kernel_rfl) (by kernel_rfl) (by kernel_rfl) (fun _ _ _ h => h) (Or.inl ⟨by rfl, by intro w hSw; (try dsimp only at hSw); go_simp; omega⟩) (by assumption) ?_
      try simp only [Act.put, List.setIfInBounds_toArray, List.set_cons_zero, List.set_cons_succ]
      refine wpAnyH_take (i := 15) (oi := { dst := some 2, op := Op.assign (Operand.tmp 50), type := _, pos := _, after := _, guard := none }) (v := ?_) rfl (by kernel_rfl) (by kernel_rfl) (by kernel_rfl) (fun _ _ _ h => h) (Or.inl ⟨by rfl, ?_⟩) (by assumption) ?_
      rotate_left
      · intro w hSw; (try dsimp only at hSw); go_simp; try (first | with_reducible rfl | (refine (if_pos ?_).trans ?_ <;> first | omega | with_reducible rfl))
      try simp only [Act.put, List.setIfInBounds_toArray, List.set_cons_zero, List.set_cons_succ]
      refine wpAnyH_done (by kernel_rfl) ?_ _
      go_wp2_with fail
      go_ret
      refine ⟨_, rfl, ?_, HB.out.trans ((HBX1.out.trans (HBX2.out.mono HBX1.out.size)).mono HB.out.size)⟩
      rw [bsOf_app, HS.out]
      obtain ⟨x, r, hxr⟩ : ∃ x r, l = x :: r := by
        cases l with
        | nil => exact absurd HL0.out (by simp)
        | cons x r => exact ⟨x, r, rfl⟩
      subst hxr
      rw [List.map_cons, txK_7, ks_7]
      rfl
    · have HL0 := hid (show 0 < l.length by have h2 : (1 : Int) ≤ l.length := hleast; omega)
      obtain ⟨n0, hn0⟩ : ∃ n, n = l.length := ⟨_, rfl⟩
      have hpos : 0 < n0 := by have := HL0.out; omega
      rw [← hn0] at HX HXB y2 ⊢
      obtain ⟨b, o, v0, v1, v2, rfl, -, hbs, c0, c1, c2, ht⟩ := HK.out.at (List.getElem?_eq_getElem HL0.out)
      obtain ⟨k0, k1, A2, n2, cp2, rfl, rfl, rfl⟩ := ht.cells
      rw [Nat.zero_mul, Nat.add_zero] at c0 c1 c2
      have HBS := hid hbs
      have HQX := hid (show q < X.heap.size from (Array.getElem?_eq_some_iff.1 HXB.out).1)
      have HSY := hid (show ∀ Y : World, Below X.heap.size X Y → Y.cell? ⟨q, 0, none⟩ = some (.int .i64 8) ∧ Y.cell? ⟨q, 2, none⟩ = some (.slice (some ⟨b, o, none⟩) n0 c) ∧ Y.cell? ⟨b, o, none⟩ = some (.int .i64 k0) ∧ Y.cell? ⟨b, o + 1, none⟩ = some (.int .i64 k1) ∧ Y.cell? ⟨b, o + 2, none⟩ = some (.slice A2 n2 cp2) from fun Y hY =>
        ⟨(cell_same (hY.block q HQX.out)).trans y0, (cell_same (hY.block q HQX.out)).trans y2, (cell_same (hY.block b HBS.out)).trans c0, (cell_same (hY.block b HBS.out)).trans c1, (cell_same (hY.block b HBS.out)).trans c2⟩)
      obtain ⟨V, hV⟩ : ∃ V, V = (X.alloc (.cells #[.int .i64 4, .int .i64 5, .int .i64 6, .int .i64 7, .int .i64 8] 3)).drew := ⟨_, rfl⟩
      have HV := hid hV
      have HBX1 := hid (show Below X.heap.size X V by rw [hV]; exact ((Below.refl X.heap.size X).alloc (Nat.le_refl _) _).drew)
      have hlit : IsNums .i64 V Any (.slice (some ⟨X.heap.size, 0, none⟩) 5 5) [4, 5, 6, 7, 8] := by rw [hV]; exact IsNums.keep (w := X.alloc (.cells #[.int .i64 4, .int .i64 5, .int .i64 6, .int .i64 7, .int .i64 8] 3)) (lit_nums X [4, 5, 6, 7, 8] (by decide)) (fun _ _ _ => rfl)
      have HCn := hid (show cnt d l[0] ≤ 2000 by have h1 := cntL_mem (f := fun k => cnt d k) (List.getElem_mem HL0.out); have h2 := HM.out; omega)
      have HC := hid (told_of IH.out (on := true) (ht.below HBX1.out) (HFT.out _ (List.getElem_mem HL0.out)) HCn.out hlit)
      clear hV hlit c0 c1 c2 hbs ht hn0 hleast
      go_wp2_with fail
      rw [← HX.out, ← HQ.out]
      go_wp2_with fail
      clear y0 y1 y2
      have hw0 : IntKind.i64.wrap 0 = 0 := by decide
      have hw1 : IntKind.i64.wrap 1 = 1 := by decide
      have hw2 : IntKind.i64.wrap 2 = 2 := by decide
      have hw3 : IntKind.i64.wrap 3 = 3 := by decide
      refine wp_region_held_drew (S := (fun Y => Y.cell? ⟨q, 0, none⟩ = some (.int .i64 8) ∧ Y.cell? ⟨q, 2, none⟩ = some (.slice (some ⟨b, o, none⟩) n0 c) ∧ Y.cell? ⟨b, o, none⟩ = some (.int .i64 k0) ∧ Y.cell? ⟨b, o + 1, none⟩ = some (.int .i64 k1) ∧ Y.cell? ⟨b, o + 2, none⟩ = some (.slice A2 n2 cp2))) (by kernel_rfl) (by exact HSY.out X (Below.refl _ _)) (fun hHeld => ?_)
      refine wpAnyH_take (i := 0) (oi := { dst := some 36, op := Op.fieldAddr 45 (Operand.tmp 1) 2, type := _, pos := _, after := _, guard := none }) (v := ?_) rfl (by kernel_rfl) (by kernel_rfl) (by kernel_rfl) (fun _ _ _ h => h) (Or.inl ⟨by rfl, ?_⟩) (by assumption) ?_
      rotate_left
      · intro w hSw; (try dsimp only at hSw); go_simp; try (first | with_reducible rfl | (refine (if_pos ?_).trans ?_ <;> first | omega | with_reducible rfl))
      try simp only [Act.put, List.setIfInBounds_toArray, List.set_cons_zero, List.set_cons_succ]
      refine wpAnyH_take (i := 1) (oi := { dst := some 37, op := Op.load 43 (Operand.tmp 36), type := _, pos := _, after := _, guard := none }) (v := ?_) rfl (by kernel_rfl) (by kernel_rfl) (by kernel_rfl) (fun _ _ _ h => h) (Or.inl ⟨by rfl, ?_⟩) (by assumption) ?_
      rotate_left
      · intro w hSw; (try dsimp only at hSw); go_simp; try (first | with_reducible rfl | (refine (if_pos ?_).trans ?_ <;> first | omega | with_reducible rfl))
      try simp only [Act.put, List.setIfInBounds_toArray, List.set_cons_zero, List.set_cons_succ]
      refine wpAnyH_take (i := 2) (oi := { dst := some 38, op := Op.indexAddr 43 (Operand.tmp 37) (Operand.const (Value.int IntKind.i64 0)), type := _, pos := _, after := _, guard := none }) (v := ?_) rfl (by kernel_rfl) (by kernel_rfl) (by kernel_rfl) (fun _ _ _ h => h) (Or.inl ⟨by rfl, ?_⟩) (by assumption) ?_
      rotate_left
      · intro w hSw; (try dsimp only at hSw); go_simp; try (first | with_reducible rfl | (refine (if_pos ?_).trans ?_ <;> first | omega | with_reducible rfl))
      try simp only [Act.put, List.setIfInBounds_toArray, List.set_cons_zero, List.set_cons_succ]
      refine wpAnyH_take (i := 3) (oi := { dst := some 39, op := Op.load 45 (Operand.tmp 38), type := _, pos := _, after := _, guard := none }) (v := ?_) rfl (by kernel_rfl) (by kernel_rfl) (by kernel_rfl) (fun _ _ _ h => h) (Or.inl ⟨by rfl, ?_⟩) (by assumption) ?_
      rotate_left
      · intro w hSw; (try dsimp only at hSw); go_simp; try (first | with_reducible rfl | (refine (if_pos ?_).trans ?_ <;> first | omega | with_reducible rfl))
      try simp only [Act.put, List.setIfInBounds_toArray, List.set_cons_zero, List.set_cons_succ]
      refine wpAnyH_take (i := 6) (oi := { dst := some 42, op := Op.fieldAddr 45 (Operand.tmp 1) 0, type := _, pos := _, after := _, guard := none }) (v := ?_) rfl (by kernel_rfl) (by kernel_rfl) (by kernel_rfl) (fun _ _ _ h => h) (Or.inl ⟨by rfl, ?_⟩) (by assumption) ?_
      rotate_left
      · intro w hSw; (try dsimp only at hSw); go_simp; try (first | with_reducible rfl | (refine (if_pos ?_).trans ?_ <;> first | omega | with_reducible rfl))
      try simp only [Act.put, List.setIfInBounds_toArray, List.set_cons_zero, List.set_cons_succ]
      refine wpAnyH_take (i := 7) (oi := { dst := some 43, op := Op.load 3 (Operand.tmp 42), type := _, pos := _, after := _, guard := none }) (v := ?_) rfl (by kernel_rfl) (by kernel_rfl) (by kernel_rfl) (fun _ _ _ h => h) (Or.inl ⟨by rfl, ?_⟩) (by assumption) ?_
      rotate_left
      · intro w hSw; (try dsimp only at hSw); go_simp; try (first | with_reducible rfl | (refine (if_pos ?_).trans ?_ <;> first | omega | with_reducible rfl))
      try simp only [Act.put, List.setIfInBounds_toArray, List.set_cons_zero, List.set_cons_succ]
      refine wpAnyH_take (i := 8) (oi := { dst := some 44, op := Op.binOp BinOp.sub 3 (Operand.tmp 43) (Operand.const (Value.int IntKind.i64 6)) 3, type := _, pos := _, after := _, guard := none }) (v := ?_) rfl (by kernel_rfl) (by kernel_rfl) (by kernel_rfl) (fun _ _ _ h => h) (Or.inl ⟨by rfl, ?_⟩) (by assumption) ?_
      rotate_left
      · intro w hSw; (try dsimp only at hSw); go_simp; try (first | with_reducible rfl | (refine (if_pos ?_).trans ?_ <;> first | omega | with_reducible rfl))
      try simp only [Act.put, List.setIfInBounds_toArray, List.set_cons_zero, List.set_cons_succ]
      refine wpAnyH_take (i := 9) (oi := { dst := some 45, op := Op.fieldAddr 45 (Operand.tmp 1) 0, type := _, pos := _, after := _, guard := none }) (v := ?_) rfl (by kernel_rfl) (by kernel_rfl) (by kernel_rfl) (fun _ _ _ h => h) (Or.inl ⟨by rfl, ?_⟩) (by assumption) ?_
      rotate_left
      · intro w hSw; (try dsimp only at hSw); go_simp; try (first | with_reducible rfl | (refine (if_pos ?_).trans ?_ <;> first | omega | with_reducible rfl))
      try simp only [Act.put, List.setIfInBounds_toArray, List.set_cons_zero, List.set_cons_succ]
      refine wpAnyH_take (i := 10) (oi := { dst := some 46, op := Op.load 3 (Operand.tmp 45), type := _, pos := _, after := _, guard := none }) (v := ?_) rfl (by kernel_rfl) (by kernel_rfl) (by kernel_rfl) (fun _ _ _ h => h) (Or.inl ⟨by rfl, ?_⟩) (by assumption) ?_
      rotate_left
      · intro w hSw; (try dsimp only at hSw); go_simp; try (first | with_reducible rfl | (refine (if_pos ?_).trans ?_ <;> first | omega | with_reducible rfl))
      try simp only [Act.put, List.setIfInBounds_toArray, List.set_cons_zero, List.set_cons_succ]
      refine wpAnyH_take (i := 11) (oi := { dst := some 47, op := Op.binOp BinOp.sub 3 (Operand.tmp 46) (Operand.const (Value.int IntKind.i64 6)) 3, type := _, pos := _, after := _, guard := none }) (v := ?_) rfl (by kernel_rfl) (by kernel_rfl) (by kernel_rfl) (fun _ _ _ h => h) (Or.inl ⟨by rfl, ?_⟩) (by assumption) ?_
      rotate_left
      · intro w hSw; (try dsimp only at hSw); go_simp; try (first | with_reducible rfl | (refine (if_pos ?_).trans ?_ <;> first | omega | with_reducible rfl))
      try simp only [Act.put, List.setIfInBounds_toArray, List.set_cons_zero, List.set_cons_succ]
      refine wpAnyH_take (i := 12) (oi := { dst := some 48, op := Op.binOp BinOp.add 3 (Operand.tmp 47) (Operand.const (Value.int IntKind.i64 1)) 3, type := _, pos := _, after := _, guard := none }) (v := ?_) rfl (by kernel_rfl) (by kernel_rfl) (by kernel_rfl) (fun _ _ _ h => h) (Or.inl ⟨by rfl, ?_⟩) (by assumption) ?_
      rotate_left
      · intro w hSw; (try dsimp only at hSw); go_simp; try (first | with_reducible rfl | (refine (if_pos ?_).trans ?_ <;> first | omega | with_reducible rfl))
      try simp only [Act.put, List.setIfInBounds_toArray, List.set_cons_zero, List.set_cons_succ]
      refine wpAnyH_take (i := 13) (oi := { dst := some 49, op := Op.slice 9 (Operand.const (Value.string { data := #[42, 43, 63] })) (some (Operand.tmp 44)) (some (Operand.tmp 48)) none, type := _, pos := _, after := _, guard := none }) (v := ?_) rfl (by kernel_rfl) (by kernel_rfl) (by kernel_rfl) (fun _ _ _ h => h) (Or.inl ⟨by rfl, ?_⟩) (by assumption) ?_
      rotate_left
      · intro w hSw; (try dsimp only at hSw); go_simp; try (first | with_reducible rfl | (refine (if_pos ?_).trans ?_ <;> first | omega | with_reducible rfl))
      try simp only [Act.put, List.setIfInBounds_toArray, List.set_cons_zero, List.set_cons_succ]
      refine wpAnyH_ready (rs := [4]) (by kernel_rfl) (by simp) ?_
      refine AllReadyH.cons (o := { dst := some 40, op := Op.buildSlice 22 5 #[(0, Operand.const (Value.int IntKind.i64 4)), (1, Operand.const (Value.int IntKind.i64 5)), (2, Operand.const (Value.int IntKind.i64 6)), (3, Operand.const (Value.int IntKind.i64 7)), (4, Operand.const (Value.int IntKind.i64 8))], type := _, pos := _, after := _, guard := none }) rfl (fun K hK => ?_) AllReadyH.nil
      rw [if_pos (by rfl)]
      go_simp
      refine hK.out _ _ (by exact HSY.out _ (((Below.refl X.heap.size X).alloc (Nat.le_refl _) _).drew)) (fun hHeld => ?_)
      clear hK K
      try simp only [Act.put, List.setIfInBounds_toArray, List.set_cons_zero, List.set_cons_succ]
      refine wpAnyH_ready (rs := [5]) (by kernel_rfl) (by simp) ?_
      refine AllReadyH.cons (o := { dst := some 41, op := Op.call { callee := Callee.value (Operand.func 78), args := #[Operand.tmp 39, Operand.tmp 40], argTypes := #[45, 22] }, type := _, pos := _, after := _, guard := none }) rfl (fun K hK => ?_) AllReadyH.nil
      rw [if_pos (by rfl)]
      go_simp
      rw [← HV.out]
      refine HC.out.mono ?_
      rintro e w2 ⟨s, rfl, hs, hb2⟩
      have HS := hid hs
      have HBX2 := hid hb2
      have hsz := tx_size2 hs HCn.out
      refine hK.out _ _ (by exact HSY.out w2 (HBX1.out.trans (HBX2.out.mono HBX1.out.size))) (fun hHeld => ?_)
      clear hK K
      try simp only [Act.put, List.setIfInBounds_toArray, List.set_cons_zero, List.set_cons_succ]
      refine wpAnyH_take (i := 14) (oi := { dst := some 50, op := Op.binOp BinOp.add 9 (Operand.tmp 41) (Operand.tmp 49) 9, type := _, pos := _, after := _, guard := none }) (v := .string (s ++ (⟨#[42, 43, 63]⟩ : ByteArray).extract 2 3)) rfl (by kernel_rfl) (by kernel_rfl) (by kernel_rfl) (fun _ _ _ h => h) (Or.inl ⟨by rfl, by intro w hSw; (try dsimp only at hSw); go_simp; omega⟩) (by assumption) ?_
      try simp only [Act.put, List.setIfInBounds_toArray, List.set_cons_zero, List.set_cons_succ]
      refine wpAnyH_take (i := 15) (oi := { dst := some 2, op := Op.assign (Operand.tmp 50), type := _, pos := _, after := _, guard := none }) (v := ?_) rfl (by kernel_rfl) (by kernel_rfl) (by kernel_rfl) (fun _ _ _ h => h) (Or.inl ⟨by rfl, ?_⟩) (by assumption) ?_
      rotate_left
      · intro w hSw; (try dsimp only at hSw); go_simp; try (first | with_reducible rfl | (refine (if_pos ?_).trans ?_ <;> first | omega | with_reducible rfl))
      try simp only [Act.put, List.setIfInBounds_toArray, List.set_cons_zero, List.set_cons_succ]
      refine wpAnyH_done (by kernel_rfl) ?_ _
      go_wp2_with fail
      go_ret
      refine ⟨_, rfl, ?_, HB.out.trans ((HBX1.out.trans (HBX2.out.mono HBX1.out.size)).mono HB.out.size)⟩
      rw [bsOf_app, HS.out]
      obtain ⟨x, r, hxr⟩ : ∃ x r, l = x :: r := by
        cases l with
        | nil => exact absurd HL0.out (by simp)
        | cons x r => exact ⟨x, r, rfl⟩
      subst hxr
      rw [List.map_cons, txK_8, ks_8]
      rfl
    · go_wp2_with fail
      rw [← HX.out, ← HQ.out]
      go_wp2_with fail
      go_ret
      exact ⟨_, rfl, rfl, by rw [HQ.out]; exact HB.out⟩
end Go.Proofs.Ytjcdcmeclnihbaa
