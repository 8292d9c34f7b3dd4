/- Parts one behind the other, and parts of which one is meant. Conditions: a reader and macros in memory. -/
import Derived.Test.YtjcdcmeclnihbaaPo
import Derived.Test.YtjcdcmeclnihbaaPs
namespace Go.Proofs.Ytjcdcmeclnihbaa
open Go.RowKit
set_option linter.unusedSimpArgs false
theorem wpList_app_q {ops : Array Oper} {rest : List Oper} {o : Oper} {a : Act} {w : World} {Q : Exit → Act → World → Prop} (hgd : o.guard = none) (s x : Operand) (hop : o.op = .call { callee := .builtin .append, args := #[s, x], argTypes := #[43, 43] }) {Sm : Nat → Prop} {B : Nat} {v : Value} {l : List PT} {w0 : World} {S : Nat → Prop} {v0 v1 v2 : Value} {t : PT}
    (hw : w = w0.alloc (.cells #[v0, v1, v2] 45)) (hs : a.eval s = v) (h : BQ w0 Sm B v l) (hx : a.eval x = .slice (some ⟨w0.heap.size, 0, none⟩) 1 1) (ht : IsP w0 S (.agg #[v0, v1, v2]) t) (hS : ∀ b, S b → b < w0.heap.size → (Sm b ∨ B ≤ b) ∧ v.ownBlock ≠ some b) (hl : l.length ≤ 1000000) (hB : B ≤ w0.heap.size) (hSm : ∀ b, Sm b → b < w0.heap.size)
    (hk : ∀ v' w', BQ w' Sm B v' (l ++ [t]) → w.grownBy w' v.ownBlock → wpList Try.prog ops Q rest (a.put o.dst v') w') : wpList Try.prog ops Q (o :: rest) a w :=
  wpList_plain hgd fun _ hK => wp_app_q s x hop hw hs h hx ht hS hl hB hSm fun v' w' h2 h3 => hK _ _ (hk v' w' h2 h3)
noncomputable def eOf (r : Nat) (w : World) : Int := match w.cell? ⟨r, 5, none⟩ with
  | some (.int .i64 e) => e
  | _ => 0
theorem Rd.eOf {w : World} {r : Nat} {s : ByteArray} {kv : Value} {at' op bad e : Int} (h : Rd w r s kv at' op bad e) : eOf r w = e := by
  unfold Ytjcdcmeclnihbaa.eOf
  rw [h.cells.2.2.2.2.2]
theorem BQ.grown {w w' : World} {Sm : Nat → Prop} {B : Nat} {v : Value} {l : List PT} (h : BQ w Sm B v l) {r : Nat} (hr : ∀ b, Sm b ∨ B ≤ b → b ≠ r) (hg : w.grownBy w' (some r)) : BQ w' Sm B v l :=
  h.keep fun b hb hlt => hg.block b hlt (by intro e; injection e with e; exact hr b hb e)
/-- The reader, as parts are read: all is well, or something is wrong. -/
def RdLoop (R0 : Res (List PT)) (go : Bs → Res (List PT)) (w : World) (r : Nat) (s : ByteArray) (kv : Value) (op bad : Int) (ts : List PT) : Prop :=
  (∃ a : Nat, a ≤ s.size ∧ ts.length ≤ a ∧ R0 = appR ts (go ((bsOf s).drop a)) ∧ Rd w r s kv a op bad 0) ∨
  (∃ q x, x ≠ 0 ∧ R0 = .no q x ∧ ∃ a' op' : Int, Rd w r s kv a' op' ((s.size : Int) - (q.length : Int)) x)
theorem drop_lt {s : ByteArray} {a b : Nat} (ha : a ≤ s.size) (hb : b ≤ s.size) (h : ((bsOf s).drop b).length < ((bsOf s).drop a).length) : a < b := by
  rw [List.length_drop, List.length_drop, bsOf_len] at h
  omega
theorem loop_start {Sm : Nat → Prop} {w X w2 : World} {r : Nat} {s : ByteArray} {kv : Value} {op bad : Int} {a : Nat} {one : Bs → Res PT} {more : Nat → Bool} {next : Bs → Bs} {R0 : Res (List PT)} {k c : Int} {A : Option Addr} {n cp : Nat}
    (h0 : R0 = thenR one more next (one ((bsOf s).drop a))) (h1 : Short one) (hp : PostR Sm X r s kv op bad (one ((bsOf s).drop a)) (.returned (.agg #[.int .i64 k, .int .i64 c, .slice A n cp])) w2) (_hr : Rd X r s kv a op bad 0) (_hoff : ∀ b, Sm b ∨ X.heap.size ≤ b → b ≠ r) (hSm : ∀ b, Sm b → b < w.heap.size) (hwX : w.grownBy X (some r)) (ha : a ≤ s.size) :
    ∃ ts : List PT, ts ≠ [] ∧ Hid (ts.length ≤ s.size + 1) ∧ Hid (BQ (w2.alloc (.cells #[.int .i64 k, .int .i64 c, .slice A n cp] 45)) Sm X.heap.size (.slice (some ⟨w2.heap.size, 0, none⟩) 1 1) ts) ∧ Hid (X.grownBy (w2.alloc (.cells #[.int .i64 k, .int .i64 c, .slice A n cp] 45)) (some r)) ∧ Hid (RdLoop R0 (goR one more next) (w2.alloc (.cells #[.int .i64 k, .int .i64 c, .slice A n cp] 45)) r s kv op bad ts) := by
  obtain ⟨hg, v, e, hm⟩ := hp
  cases e
  have hsz := hg.size
  have hs1 := hwX.size
  cases ho : one ((bsOf s).drop a) with
  | ok t q =>
    rw [ho] at hm h0
    obtain ⟨ht, a', ha', hd, hrd⟩ := hm
    have hlt := drop_lt ha ha' (by rw [hd]; exact h1 _ _ _ ho)
    refine ⟨[t], by simp, hid (by simp), hid (BQ.single ht (fun b hb _ => hb) hsz fun b hb => by have := hSm b hb; omega), hid (grown_alloc hg _), hid (.inl ⟨a', ha', by simp; omega, ?_, hrd.alloc _⟩)⟩
    rw [h0, hd]
    rfl
  | no q x =>
    rw [ho] at hm h0
    obtain ⟨hx, ⟨t, ht⟩, a', op', hrd⟩ := hm
    exact ⟨[t], by simp, hid (by simp), hid (BQ.single ht (fun b hb _ => hb) hsz fun b hb => by have := hSm b hb; omega), hid (grown_alloc hg _), hid (.inr ⟨q, x, hx, h0, a', op', hrd.alloc _⟩)⟩
theorem loop_next {Sm : Nat → Prop} {w1 w2 : World} {r : Nat} {s : ByteArray} {kv : Value} {op bad : Int} {a1 a2 : Nat} {one : Bs → Res PT} {more : Nat → Bool} {next : Bs → Bs} {R0 : Res (List PT)} {ts : List PT} {v : Value}
    (hR : R0 = appR ts (goR one more next ((bsOf s).drop a1))) (h1 : Short one) (hn : ∀ l, (next l).length ≤ l.length) (hm : more (hd (skip ((bsOf s).drop a1))) = true) (hd2 : (bsOf s).drop a2 = next (skip ((bsOf s).drop a1))) (ha1 : a1 ≤ s.size) (_ha2 : a2 ≤ s.size) (ht : ts.length ≤ a1)
    (hp : PostR Sm w1 r s kv op bad (one ((bsOf s).drop a2)) (.returned v) w2) :
    ∃ t, IsP w2 (fun b => Sm b ∨ w1.heap.size ≤ b) v t ∧ ∀ w' : World, w'.heap[r]? = w2.heap[r]? → RdLoop R0 (goR one more next) w' r s kv op bad (ts ++ [t]) ∧ (if eOf r w' = 0 then s.size + 1 - atOf r w' else 0) < s.size + 1 - a1 := by
  obtain ⟨hg, v', e, hm2⟩ := hp
  cases e
  rw [goR_more h1 hn hm, ← hd2] at hR
  have hlen : ((bsOf s).drop a2).length ≤ ((bsOf s).drop a1).length := by
    rw [hd2]
    exact Nat.le_trans (hn _) (skip_len _)
  cases ho : one ((bsOf s).drop a2) with
  | ok t q =>
    rw [ho] at hm2 hR
    obtain ⟨hi, a', ha', hd3, hrd⟩ := hm2
    have hlt : a1 < a' := drop_lt ha1 ha' (by rw [hd3]; exact Nat.lt_of_lt_of_le (h1 _ _ _ ho) hlen)
    refine ⟨t, hi, fun w' hw => ?_⟩
    have hrd' : Rd w' r s kv a' op bad 0 := hw.trans hrd
    refine ⟨.inl ⟨a', ha', by simp; omega, ?_, hrd'⟩, ?_⟩
    · rw [hR, hd3]
      show appR ts (appR [t] _) = _
      rw [appR_appR]
    · rw [hrd'.eOf, if_pos rfl, hrd'.at]
      omega
  | no q x =>
    rw [ho] at hm2 hR
    obtain ⟨hx, ⟨t, hi⟩, a', op', hrd⟩ := hm2
    refine ⟨t, hi, fun w' hw => ?_⟩
    have hrd' : Rd w' r s kv a' op' ((s.size : Int) - (q.length : Int)) x := hw.trans hrd
    refine ⟨.inr ⟨q, x, hx, hR, a', op', hrd'⟩, ?_⟩
    rw [hrd'.eOf, if_neg (by omega)]
    omega
theorem BQ.rest {w w0 w' : World} {Sm : Nat → Prop} {B r : Nat} {v : Value} {l : List PT} (h : BQ w0 Sm B v l) (hb : w.heap.size ≤ w0.heap.size) (hg : w0.grownBy w' v.ownBlock) (hB : w.heap.size ≤ B) (hr : r < w.heap.size) : w'.heap[r]? = w0.heap[r]? ∧ ∀ X : World, X.heap.size ≤ B → X.grownBy w0 (some r) → X.grownBy w' (some r) := by
  have ho : ∀ k, v.ownBlock = some k → B ≤ k := fun k hk => (h.lt k hk).1
  refine ⟨hg.block r (by omega) fun e => by have := ho r e.symm; omega, fun X hX hXg => hXg.andThen hg fun j e => .inl (by have := ho j e; omega)⟩
set_option maxRecDepth 100000 in
set_option maxHeartbeats 2000000 in
theorem seq_any {Sm : Nat → Prop} {kv : Value} {ms : List (ByteArray × PT)} {op : Int} {alts : Option (Bs → Res PT)} {macs : Bs → Option PT} (ho : ∀ f, alts = some f → Short f) (hA : RdC 94 Sm kv ms op (oftenF numB macs alts)) :
    RdC 79 Sm kv ms op (seqF numB macs alts) := by
  intro w r s bad a h he ha hs
  obtain ⟨X, hX⟩ : ∃ X, X = w.alloc (.cells nodeC 45) := ⟨_, rfl⟩
  have HX := hid hX
  obtain ⟨g, hg⟩ : ∃ g, g = w.heap.size := ⟨_, rfl⟩
  have HXB := hid (show X.heap[g]? = some (.cells #[.int .i64 0, .int .i64 0, .slice none 0 0] 45 (0, 0)) by rw [hg, hX]; exact heap_alloc_new _ _)
  have HGE := hid hg
  have HGX := hid (show w.grownBy X (some r) by rw [hX]; exact World.grownBy_alloc _ _ _)
  have HRX := hid (show Rd X r s kv a op bad 0 by rw [hX]; exact h.alloc _)
  have HNE := hid (show g ≠ r by have := h.lt; omega)
  have HOLD := hid (show ∀ Y : World, X.grownBy Y (some r) → Y.heap[g]? = some (.cells #[.int .i64 0, .int .i64 0, .slice none 0 0] 45 (0, 0)) from fun Y hY => (hY.block g (Array.getElem?_eq_some_iff.1 HXB.out).1 (by have := HNE.out; simpa using this)).trans HXB.out)
  have HE := hid he
  have HSX := hid (show X.heap.size = g + 1 by rw [hX, hg]; simp)
  have HSM := hid (show ∀ b, Sm b → b < w.heap.size from fun b hb => (he.off b hb).2)
  have HOFF := hid (show ∀ b, Sm b ∨ X.heap.size ≤ b → b ≠ r from fun b hb => hb.elim (fun h => (he.off b h).1) fun h => by have := HRX.out.lt; omega)
  have HA := hid hA
  have HS1 := hid (show Short (oftenF numB macs alts) from often_short ho)
  have HN1 := hid (show ∀ l : Bs, (id l : Bs).length ≤ l.length from fun _ => Nat.le_refl _)
  obtain ⟨R0, hR0⟩ : ∃ R0, R0 = partsR (oftenF numB macs alts) beginsB id ((bsOf s).drop a) := ⟨_, rfl⟩
  have HF := hid (show seqF numB macs alts ((bsOf s).drop a) = oneR 4 R0 by rw [hR0]; rfl)
  have HR0 := hid (hR0.trans (partsR_eq HS1.out HN1.out _))
  clear hX hg h he hA ho hR0
  go_enter Try.func79, Try.ntmps79
  go_wp2_with (first
    | (refine wpList_alloc_of rfl 45 rfl (.agg nodeC) zero45 ?_; rw [show (Value.agg nodeC).cells = nodeC from rfl, ← HX.out, ← HGE.out])
    | fail)
  refine (HA.out X r s bad a HRX.out (HE.out.grown HGX.out) ha hs).mono ?_
  rintro x w2 hp
  obtain ⟨u, rfl⟩ : ∃ u, x = .returned u := ⟨_, hp.2.choose_spec.1⟩
  obtain ⟨k, c, A, n, cp, rfl⟩ := post_form hp
  have HP := hid hp
  clear hp
  go_wp2_with fail
  go_loopw [3] (fun s3 wr => ∃ ts : List PT, ts ≠ [] ∧ Hid (ts.length ≤ s.size + 1) ∧ Hid (BQ wr Sm X.heap.size s3 ts) ∧ Hid (X.grownBy wr (some r)) ∧ Hid (RdLoop R0 (goR (oftenF numB macs alts) beginsB id) wr r s kv op bad ts)) (fun _ wr => if eOf r wr = 0 then s.size + 1 - atOf r wr else 0)
  case atStart =>
    exact loop_start HR0.out HS1.out HP.out HRX.out HOFF.out HSM.out HGX.out ha
  case round =>
    obtain ⟨ts, hts, HLN, HBQ, HG, HL⟩ := hrel
    obtain ⟨A3, c3, rfl⟩ := HBQ.out.form
    rcases HL.out with ⟨a1, ha1, hta, hR, hrd⟩ | ⟨q, x, hx, hR, a', op', hrd⟩
    · have HR1 := hid hrd
      have HRR := hid hR
      obtain ⟨c0, c1, c2, c3', c4, c5⟩ := hrd.cells
      have HEO := hid (show (if eOf r wr = 0 then s.size + 1 - atOf r wr else 0) = s.size + 1 - a1 by rw [HR1.out.eOf, if_pos rfl, HR1.out.at]; omega)
      clear hR hrd
      go_wp2_with fail
      refine (peek_any a1 HR1.out ha1 hs).mono ?_
      rintro x w1 ⟨rfl, hcb, a2, ha2, ha3, hd3, hr3, hg3⟩
      have HR2 := hid hr3
      have HG2 := hid (HG.out.trans hg3)
      have HD2 := hid hd3
      have HBQ2 := hid (HBQ.out.grown HOFF.out hg3)
      have HB2 := hid (HOLD.out w1 HG2.out)
      clear hr3 hg3 hd3 c0 c1 c2 c3' c4 c5
      obtain ⟨l, hl⟩ : ∃ l, l = skip ((bsOf s).drop a1) := ⟨_, rfl⟩
      have HL1 := hid hl
      rw [← hl] at hcb HD2 ⊢
      clear hl HL
      go_wp2_with fail
      refine (begins_any (hd l) w1 hcb).mono ?_
      rintro x w1' ⟨rfl, rfl⟩
      cases hmore : beginsB (hd l) with
      | false =>
        have HRE := hid (show oneR 4 R0 = .ok (oneP 4 ts) l by rw [HRR.out, goR_end (by rw [← HL1.out]; exact hmore), ← HL1.out]; simp [appR, oneR])
        go_wp2_with fail
        refine (onep_any 4 HBQ2.out hts (by have := HLN.out; omega)).mono ?_
        rintro x w3 ⟨u, rfl, hi, hb3⟩
        obtain ⟨A4, c4, rfl⟩ := hi.form
        have hgl : g < w1'.heap.size := by have := HG2.out.size; have := HSX.out; omega
        have HB3 := hid ((hb3.block g hgl).trans HB2.out)
        have HPX := hid (show PostR Sm X r s kv op bad (.ok (oneP 4 ts) l) (.returned (.agg #[.int .i64 (oneP 4 ts).kind, .int .i64 (oneP 4 ts).cls, .slice A4 (oneP 4 ts).kids.length c4])) w3 from ⟨grown_later2 HG2.out (hb3.mono HG2.out.size), _, rfl, (hi.mono fun b hb _ => hb.1), a2, ha3, HD2.out, HR2.out.below hb3⟩)
        obtain ⟨y0, y1, y2, yf⟩ := slot3 HB3.out
        have yf0 := yf 0
        have yf1 := yf 1
        have yf2 := yf 2
        clear yf hi hb3
        go_wp2_with fail
        refine ret_node (p := 2) rfl rfl HB3.out rfl ?_
        rw [HF.out, HRE.out]
        exact post_put HGX.out (Nat.le_of_eq HGE.out.symm) (by have := HSX.out; omega) HNE.out HSM.out HPX.out _ _ _
      | true =>
        have HMORE := hid hmore
        have HGA := HG2
        have HBQA := HBQ2
        go_wp2_with fail
        refine (HA.out w1' r s bad a2 HR2.out (HE.out.grown (HGX.out.trans HG2.out)) ha3 hs).mono ?_
        rintro x w3 hp
        obtain ⟨u, rfl⟩ : ∃ u, x = .returned u := ⟨_, hp.2.choose_spec.1⟩
        obtain ⟨k', c', A', n', cp', rfl⟩ := post_form hp
        obtain ⟨t, hit, hnext⟩ := loop_next HRR.out HS1.out HN1.out (by rw [← HL1.out]; exact HMORE.out) (by rw [HD2.out, HL1.out]; rfl) ha1 ha3 hta hp
        have HIT := hid hit
        have HNX := hid hnext
        have HG3 := hid (HGA.out.trans hp.1)
        have HBQ3 := hid (HBQA.out.grown HOFF.out hp.1)
        have HSZ3 := hid hp.1.size
        have HSZA := hid (HGA.out.size)
        have hlen := HLN.out
        have HSMw := hid (show ∀ b, Sm b → b < w3.heap.size from fun b hb => by have := HSM.out b hb; have := HGX.out.size; have := HG3.out.size; omega)
        clear hp hit hnext
        go_wp2_with (first
          | (at_builtin; (refine wpList_app_q rfl (.tmp 19) (.tmp 22) rfl (S := fun b => Sm b ∨ w1'.heap.size ≤ b) rfl rfl HBQ3.out rfl HIT.out (fun b hb hlt => ⟨hb.imp id (by have := HSZA.out; omega), fun e => by have h1 := HBQA.out.lt b e; have h2 := HSM.out b; have h3 := HGX.out.size; rcases hb with hb | hb <;> (first | (have := h2 hb; omega) | omega)⟩) (by omega) HG3.out.size HSMw.out ?_); intro v' w' hbq hgr)
          | fail)
        have hbd := HBQ3.out.below ((Below.refl w3.heap.size w3).alloc (Nat.le_refl _) (.cells #[.int .i64 k', .int .i64 c', .slice A' n' cp'] 45))
        obtain ⟨hr', hX'⟩ := BQ.rest (w := X) hbd (by have := HG3.out.size; simp; omega) hgr (Nat.le_refl _) HRX.out.lt
        have hr2 : w'.heap[r]? = w3.heap[r]? := hr'.trans (((Below.refl w3.heap.size w3).alloc (Nat.le_refl _) (.cells #[.int .i64 k', .int .i64 c', .slice A' n' cp'] 45)).block r (by have := HG3.out.size; have := HRX.out.lt; omega))
        obtain ⟨hl1, hl2⟩ := HNX.out w' hr2
        exact ⟨⟨ts ++ [t], by simp, hid (by simp; omega), hid hbq, hid (hX' X (Nat.le_refl _) (grown_alloc HG3.out _)), hid hl1⟩, by rw [HEO.out]; exact hl2⟩
    · have HR1 := hid hrd
      have hx2 : ¬ (x : Int) = 0 := by omega
      have HRE := hid (show oneR 4 R0 = .no q x by rw [hR]; rfl)
      obtain ⟨c0, c1, c2, c3', c4, c5⟩ := hrd.cells
      clear hR hrd c0 c1 c2 c3' c4 HL
      go_wp2_with fail
      refine (onep_any 4 HBQ.out hts (by have := HLN.out; omega)).mono ?_
      rintro x w3 ⟨u, rfl, hi, hb3⟩
      obtain ⟨A4, c4, rfl⟩ := hi.form
      have hgl : g < wr.heap.size := by have := HG.out.size; have := HSX.out; omega
      have HB3 := hid ((hb3.block g hgl).trans (HOLD.out wr HG.out))
      have HPX := hid (show PostR Sm X r s kv op bad (.no q x) (.returned (.agg #[.int .i64 (oneP 4 ts).kind, .int .i64 (oneP 4 ts).cls, .slice A4 (oneP 4 ts).kids.length c4])) w3 from ⟨grown_later2 HG.out (hb3.mono HG.out.size), _, rfl, hx, ⟨_, hi.mono fun b hb _ => hb.1⟩, a', op', HR1.out.below hb3⟩)
      obtain ⟨y0, y1, y2, yf⟩ := slot3 HB3.out
      have yf0 := yf 0
      have yf1 := yf 1
      have yf2 := yf 2
      clear yf hi hb3
      go_wp2_with fail
      refine ret_node (p := 2) rfl rfl HB3.out rfl ?_
      rw [HF.out, HRE.out]
      exact post_put HGX.out (Nat.le_of_eq HGE.out.symm) (by have := HSX.out; omega) HNE.out HSM.out HPX.out _ _ _
set_option maxRecDepth 100000 in
set_option maxHeartbeats 2000000 in
theorem alts_any {Sm : Nat → Prop} {kv : Value} {ms : List (ByteArray × PT)} {op : Int} {alts : Option (Bs → Res PT)} {macs : Bs → Option PT} (ho : ∀ f, alts = some f → Short f) (hA : RdC 79 Sm kv ms op (seqF numB macs alts)) :
    RdC 52 Sm kv ms op (altsF numB macs alts) := by
  intro w r s bad a h he ha hs
  obtain ⟨X, hX⟩ : ∃ X, X = w.alloc (.cells nodeC 45) := ⟨_, rfl⟩
  have HX := hid hX
  obtain ⟨g, hg⟩ : ∃ g, g = w.heap.size := ⟨_, rfl⟩
  have HXB := hid (show X.heap[g]? = some (.cells #[.int .i64 0, .int .i64 0, .slice none 0 0] 45 (0, 0)) by rw [hg, hX]; exact heap_alloc_new _ _)
  have HGE := hid hg
  have HGX := hid (show w.grownBy X (some r) by rw [hX]; exact World.grownBy_alloc _ _ _)
  have HRX := hid (show Rd X r s kv a op bad 0 by rw [hX]; exact h.alloc _)
  have HNE := hid (show g ≠ r by have := h.lt; omega)
  have HOLD := hid (show ∀ Y : World, X.grownBy Y (some r) → Y.heap[g]? = some (.cells #[.int .i64 0, .int .i64 0, .slice none 0 0] 45 (0, 0)) from fun Y hY => (hY.block g (Array.getElem?_eq_some_iff.1 HXB.out).1 (by have := HNE.out; simpa using this)).trans HXB.out)
  have HE := hid he
  have HSX := hid (show X.heap.size = g + 1 by rw [hX, hg]; simp)
  have HSM := hid (show ∀ b, Sm b → b < w.heap.size from fun b hb => (he.off b hb).2)
  have HOFF := hid (show ∀ b, Sm b ∨ X.heap.size ≤ b → b ≠ r from fun b hb => hb.elim (fun h => (he.off b h).1) fun h => by have := HRX.out.lt; omega)
  have HA := hid hA
  have HS1 := hid (show Short (seqF numB macs alts) from seq_short ho)
  have HN1 := hid (show ∀ l : Bs, (List.tail l : Bs).length ≤ l.length from tail_len)
  obtain ⟨R0, hR0⟩ : ∃ R0, R0 = partsR (seqF numB macs alts) (fun c => c == 124) List.tail ((bsOf s).drop a) := ⟨_, rfl⟩
  have HF := hid (show altsF numB macs alts ((bsOf s).drop a) = oneR 5 R0 by rw [hR0]; rfl)
  have HR0 := hid (hR0.trans (partsR_eq HS1.out HN1.out _))
  clear hX hg h he hA ho hR0
  go_enter Try.func52, Try.ntmps52
  go_wp2_with (first
    | (refine wpList_alloc_of rfl 45 rfl (.agg nodeC) zero45 ?_; rw [show (Value.agg nodeC).cells = nodeC from rfl, ← HX.out, ← HGE.out])
    | fail)
  refine (HA.out X r s bad a HRX.out (HE.out.grown HGX.out) ha hs).mono ?_
  rintro x w2 hp
  obtain ⟨u, rfl⟩ : ∃ u, x = .returned u := ⟨_, hp.2.choose_spec.1⟩
  obtain ⟨k, c, A, n, cp, rfl⟩ := post_form hp
  have HP := hid hp
  clear hp
  go_wp2_with fail
  go_loopw [3] (fun s3 wr => ∃ ts : List PT, ts ≠ [] ∧ Hid (ts.length ≤ s.size + 1) ∧ Hid (BQ wr Sm X.heap.size s3 ts) ∧ Hid (X.grownBy wr (some r)) ∧ Hid (RdLoop R0 (goR (seqF numB macs alts) (fun c => c == 124) List.tail) wr r s kv op bad ts)) (fun _ wr => if eOf r wr = 0 then s.size + 1 - atOf r wr else 0)
  case atStart =>
    exact loop_start HR0.out HS1.out HP.out HRX.out HOFF.out HSM.out HGX.out ha
  case round =>
    obtain ⟨ts, hts, HLN, HBQ, HG, HL⟩ := hrel
    obtain ⟨A3, c3, rfl⟩ := HBQ.out.form
    rcases HL.out with ⟨a1, ha1, hta, hR, hrd⟩ | ⟨q, x, hx, hR, a', op', hrd⟩
    · have HR1 := hid hrd
      have HRR := hid hR
      obtain ⟨c0, c1, c2, c3', c4, c5⟩ := hrd.cells
      have HEO := hid (show (if eOf r wr = 0 then s.size + 1 - atOf r wr else 0) = s.size + 1 - a1 by rw [HR1.out.eOf, if_pos rfl, HR1.out.at]; omega)
      clear hR hrd
      go_wp2_with fail
      refine (peek_any a1 HR1.out ha1 hs).mono ?_
      rintro x w1 ⟨rfl, hcb, a2, ha2, ha3, hd3, hr3, hg3⟩
      have HR2 := hid hr3
      have HG2 := hid (HG.out.trans hg3)
      have HD2 := hid hd3
      have HBQ2 := hid (HBQ.out.grown HOFF.out hg3)
      have HB2 := hid (HOLD.out w1 HG2.out)
      clear hr3 hg3 hd3 c0 c1 c2 c3' c4 c5
      obtain ⟨l, hl⟩ : ∃ l, l = skip ((bsOf s).drop a1) := ⟨_, rfl⟩
      have HL1 := hid hl
      rw [← hl] at hcb HD2 ⊢
      clear hl HL
      by_cases h124 : hd l = 124
      · have HMORE := hid (show (hd l == 124) = true by rw [h124]; rfl)
        obtain ⟨q, hq⟩ := hd_cons (l := l) (by rw [h124]; decide)
        rw [h124] at hq
        obtain ⟨hq1, hq2⟩ := drop_more (HD2.out.trans hq)
        have HQ := hid (show (bsOf s).drop (a2 + 1) = l.tail by rw [hq1, hq]; rfl)
        have h124b : ((hd l : Nat) : Int) = 124 := by rw [h124]; rfl
        obtain ⟨V, hV⟩ : ∃ V, V = w1.setCell ⟨r, 1, none⟩ (.int .i64 ((a2 : Int) + 1)) := ⟨_, rfl⟩
        have HV := hid hV
        have hgv : w1.grownBy V (some r) := by rw [hV]; exact grown_setCell (World.grownBy.refl _ _) 1 _
        have HRV := hid (show Rd V r s kv (a2 + 1 : Nat) op bad 0 by rw [hV]; exact HR2.out.setAt _)
        have HGA := hid (HG2.out.trans hgv)
        have HBQA := hid (HBQ2.out.grown HOFF.out hgv)
        obtain ⟨c0, c1, c2, c3', c4, c5⟩ := HR2.out.cells
        have f1 := HR2.out.frozen 1
        clear hq hq1 h124 hV hgv
        go_wp2_with fail
        rw [← HV.out]
        refine (HA.out V r s bad (a2 + 1) HRV.out (HE.out.grown (HGX.out.trans HGA.out)) (by omega) hs).mono ?_
        rintro x w3 hp
        obtain ⟨u, rfl⟩ : ∃ u, x = .returned u := ⟨_, hp.2.choose_spec.1⟩
        obtain ⟨k', c', A', n', cp', rfl⟩ := post_form hp
        obtain ⟨t, hit, hnext⟩ := loop_next HRR.out HS1.out HN1.out (by rw [← HL1.out]; exact HMORE.out) (by rw [HQ.out, HL1.out]) ha1 (by omega) hta hp
        have HIT := hid hit
        have HNX := hid hnext
        have HG3 := hid (HGA.out.trans hp.1)
        have HBQ3 := hid (HBQA.out.grown HOFF.out hp.1)
        have HSZ3 := hid hp.1.size
        have HSZA := hid (HGA.out.size)
        have hlen := HLN.out
        have HSMw := hid (show ∀ b, Sm b → b < w3.heap.size from fun b hb => by have := HSM.out b hb; have := HGX.out.size; have := HG3.out.size; omega)
        clear hp hit hnext
        go_wp2_with (first
          | (at_builtin; (refine wpList_app_q rfl (.tmp 28) (.tmp 31) rfl (S := fun b => Sm b ∨ V.heap.size ≤ b) rfl rfl HBQ3.out rfl HIT.out (fun b hb hlt => ⟨hb.imp id (by have := HSZA.out; omega), fun e => by have h1 := HBQA.out.lt b e; have h2 := HSM.out b; have h3 := HGX.out.size; rcases hb with hb | hb <;> (first | (have := h2 hb; omega) | omega)⟩) (by omega) HG3.out.size HSMw.out ?_); intro v' w' hbq hgr)
          | fail)
        have hbd := HBQ3.out.below ((Below.refl w3.heap.size w3).alloc (Nat.le_refl _) (.cells #[.int .i64 k', .int .i64 c', .slice A' n' cp'] 45))
        obtain ⟨hr', hX'⟩ := BQ.rest (w := X) hbd (by have := HG3.out.size; simp; omega) hgr (Nat.le_refl _) HRX.out.lt
        have hr2 : w'.heap[r]? = w3.heap[r]? := hr'.trans (((Below.refl w3.heap.size w3).alloc (Nat.le_refl _) (.cells #[.int .i64 k', .int .i64 c', .slice A' n' cp'] 45)).block r (by have := HG3.out.size; have := HRX.out.lt; omega))
        obtain ⟨hl1, hl2⟩ := HNX.out w' hr2
        exact ⟨⟨ts ++ [t], by simp, hid (by simp; omega), hid hbq, hid (hX' X (Nat.le_refl _) (grown_alloc HG3.out _)), hid hl1⟩, by rw [HEO.out]; exact hl2⟩
      · have h124b : ¬ ((hd l : Nat) : Int) = 124 := by omega
        have HRE := hid (show oneR 5 R0 = .ok (oneP 5 ts) l by rw [HRR.out, goR_end (by rw [← HL1.out]; simpa using h124), ← HL1.out]; simp [appR, oneR])
        go_wp2_with fail
        refine (onep_any 5 HBQ2.out hts (by have := HLN.out; omega)).mono ?_
        rintro x w3 ⟨u, rfl, hi, hb3⟩
        obtain ⟨A4, c4, rfl⟩ := hi.form
        have hgl : g < w1.heap.size := by have := HG2.out.size; have := HSX.out; omega
        have HB3 := hid ((hb3.block g hgl).trans HB2.out)
        have HPX := hid (show PostR Sm X r s kv op bad (.ok (oneP 5 ts) l) (.returned (.agg #[.int .i64 (oneP 5 ts).kind, .int .i64 (oneP 5 ts).cls, .slice A4 (oneP 5 ts).kids.length c4])) w3 from ⟨grown_later2 HG2.out (hb3.mono HG2.out.size), _, rfl, (hi.mono fun b hb _ => hb.1), a2, ha3, HD2.out, HR2.out.below hb3⟩)
        obtain ⟨y0, y1, y2, yf⟩ := slot3 HB3.out
        have yf0 := yf 0
        have yf1 := yf 1
        have yf2 := yf 2
        clear yf hi hb3
        go_wp2_with fail
        refine ret_node (p := 2) rfl rfl HB3.out rfl ?_
        rw [HF.out, HRE.out]
        exact post_put HGX.out (Nat.le_of_eq HGE.out.symm) (by have := HSX.out; omega) HNE.out HSM.out HPX.out _ _ _
    · have HR1 := hid hrd
      have hx2 : ¬ (x : Int) = 0 := by omega
      have HRE := hid (show oneR 5 R0 = .no q x by rw [hR]; rfl)
      obtain ⟨c0, c1, c2, c3', c4, c5⟩ := hrd.cells
      clear hR hrd c0 c1 c2 c3' c4 HL
      go_wp2_with fail
      refine (onep_any 5 HBQ.out hts (by have := HLN.out; omega)).mono ?_
      rintro x w3 ⟨u, rfl, hi, hb3⟩
      obtain ⟨A4, c4, rfl⟩ := hi.form
      have hgl : g < wr.heap.size := by have := HG.out.size; have := HSX.out; omega
      have HB3 := hid ((hb3.block g hgl).trans (HOLD.out wr HG.out))
      have HPX := hid (show PostR Sm X r s kv op bad (.no q x) (.returned (.agg #[.int .i64 (oneP 5 ts).kind, .int .i64 (oneP 5 ts).cls, .slice A4 (oneP 5 ts).kids.length c4])) w3 from ⟨grown_later2 HG.out (hb3.mono HG.out.size), _, rfl, hx, ⟨_, hi.mono fun b hb _ => hb.1⟩, a', op', HR1.out.below hb3⟩)
      obtain ⟨y0, y1, y2, yf⟩ := slot3 HB3.out
      have yf0 := yf 0
      have yf1 := yf 1
      have yf2 := yf 2
      clear yf hi hb3
      go_wp2_with fail
      refine ret_node (p := 2) rfl rfl HB3.out rfl ?_
      rw [HF.out, HRE.out]
      exact post_put HGX.out (Nat.le_of_eq HGE.out.symm) (by have := HSX.out; omega) HNE.out HSM.out HPX.out _ _ _
end Go.Proofs.Ytjcdcmeclnihbaa
