/- The seven texts by their bits: what the program's lists returns. Conditions: none. -/
import Derived.Test.YtfdfeblcchbcnaaDoorProg
import Derived.Test.YtfdfeblcchbcnaaDoorTx
import Derived.Test.YtfdfeblcchbcnaaDoorBaseM
import Derived.Maps.RangeWalk
namespace Go.Proofs.YtfdfeblcchbcnaaDoor
open Go.RowKit

theorem wpList_insert_own {H : Type} {P : Program} (w : World) {ops : Array Oper} {rest : List Oper} {o : Oper} {a : Act} {Q : Exit → Act → World → Prop}
    (hg : o.guard = none) (m x v : Operand) (t : TypeId) (hop : o.op = Op.insert t m x v)
    (k e : TypeId) (K : Maps.Keyed P k) (ht : P.underlying t = some (.map k e)) (R : Value → Option (DataW H × List MemPlace)) (b n : Nat) (D : DataW H)
    (hm : a.eval m = .map (some b)) (hown : w.ownsMap P k R b n D) (hn : n < maxLen) (key val : Value) (kl : Lit) (hx : a.eval x = key) (hv : a.eval v = val) (hkey : keyOf P k key = some kl)
    (d : DataW H) (ps : List MemPlace) (hval : R val = some (d, ps))
    (hK : ∀ w', w'.ownsMap P k R b (n + 1) (D.put kl d) → w.grownBy w' (some b) → wpList P ops Q rest (a.put o.dst undef) w') :
    wpList P ops Q (o :: rest) a w := by
  refine wpList_plain hg fun K' hK' => ?_
  obtain ⟨w', hrun, r1, r2⟩ := hown.update K ht hn hkey hval
  unfold Oper.wp
  simp [execOp, hop, hm, hx, hv, hrun, Result.andThen]
  exact hK' _ _ (hK w' r1 r2)

/-- What the map of texts reads as. -/
def listsD : DataW Unit := .map [(.int .i64 1, .lit (.string txt1)), (.int .i64 2, .lit (.string txt2)), (.int .i64 4, .lit (.string txt4)), (.int .i64 8, .lit (.string txt8)), (.int .i64 16, .lit (.string txt16)), (.int .i64 32, .lit (.string txt32)), (.int .i64 64, .lit (.string txt64))]
theorem key3 (n : Int) (h : (Lit.int .i64 n).wf = true) : keyOf Tryd.prog 3 (.int .i64 n) = some (.int .i64 n) := by simp [keyOf, mapKey, Tryd.underlying3, h]
theorem plainTxt (s : ByteArray) (t : List UInt8) (h : s.data.toList = t) (hl : t.length ≤ 1000) : plainElem (H := Unit) Tryd.prog 9 (.string s) = some (.lit (.string t), []) := by
  have hs : s.size = t.length := by rw [← h]; rfl
  rw [plainElem_string Tryd.underlying9 (by unfold maxLen; omega), h]
def ListsAns (w : World) (e : Ending) (w' : World) : Prop := ∃ b, e = .returned (.map (some b)) ∧ w.heap.size ≤ b ∧ w'.ownsMap Tryd.prog 3 (plainElem Tryd.prog 9) b 7 listsD ∧ Below w.heap.size w w'

set_option maxRecDepth 100000 in
set_option maxHeartbeats 1000000 in
theorem lists_any (w : World) : Calls Tryd.prog 29 #[] w (ListsAns w) := by
  have hmm := @run_makeMap Tryd.prog
  go_enter Tryd.func29, Tryd.ntmps29
  have hown0 : (w.alloc (.map #[] 0)).ownsMap Tryd.prog 3 (plainElem (H := Unit) Tryd.prog 9) w.heap.size 0 (.map []) := World.ownsMap_made _ _ _ _
  go_wp2_with (first
    | (refine wpList_insert_own _ rfl (.tmp 1) (.const (.int .i64 1)) _ 62 rfl 3 9 (Maps.int_keyed Tryd.underlying3) Tryd.underlying62 (plainElem Tryd.prog 9) w.heap.size 0 _ rfl hown0 (by decide) _ _ (.int .i64 1) rfl rfl (key3 1 (by decide)) (.lit (.string txt1)) [] (plainTxt _ _ (by rfl) (by decide)) ?_; intro w1 hown1 hg1)
    | (refine wpList_insert_own _ rfl (.tmp 1) (.const (.int .i64 2)) _ 62 rfl 3 9 (Maps.int_keyed Tryd.underlying3) Tryd.underlying62 (plainElem Tryd.prog 9) w.heap.size 1 _ rfl hown1 (by decide) _ _ (.int .i64 2) rfl rfl (key3 2 (by decide)) (.lit (.string txt2)) [] (plainTxt _ _ (by rfl) (by decide)) ?_; intro w2 hown2 hg2)
    | (refine wpList_insert_own _ rfl (.tmp 1) (.const (.int .i64 4)) _ 62 rfl 3 9 (Maps.int_keyed Tryd.underlying3) Tryd.underlying62 (plainElem Tryd.prog 9) w.heap.size 2 _ rfl hown2 (by decide) _ _ (.int .i64 4) rfl rfl (key3 4 (by decide)) (.lit (.string txt4)) [] (plainTxt _ _ (by rfl) (by decide)) ?_; intro w3 hown3 hg3)
    | (refine wpList_insert_own _ rfl (.tmp 1) (.const (.int .i64 8)) _ 62 rfl 3 9 (Maps.int_keyed Tryd.underlying3) Tryd.underlying62 (plainElem Tryd.prog 9) w.heap.size 3 _ rfl hown3 (by decide) _ _ (.int .i64 8) rfl rfl (key3 8 (by decide)) (.lit (.string txt8)) [] (plainTxt _ _ (by rfl) (by decide)) ?_; intro w4 hown4 hg4)
    | (refine wpList_insert_own _ rfl (.tmp 1) (.const (.int .i64 16)) _ 62 rfl 3 9 (Maps.int_keyed Tryd.underlying3) Tryd.underlying62 (plainElem Tryd.prog 9) w.heap.size 4 _ rfl hown4 (by decide) _ _ (.int .i64 16) rfl rfl (key3 16 (by decide)) (.lit (.string txt16)) [] (plainTxt _ _ (by rfl) (by decide)) ?_; intro w5 hown5 hg5)
    | (refine wpList_insert_own _ rfl (.tmp 1) (.const (.int .i64 32)) _ 62 rfl 3 9 (Maps.int_keyed Tryd.underlying3) Tryd.underlying62 (plainElem Tryd.prog 9) w.heap.size 5 _ rfl hown5 (by decide) _ _ (.int .i64 32) rfl rfl (key3 32 (by decide)) (.lit (.string txt32)) [] (plainTxt _ _ (by rfl) (by decide)) ?_; intro w6 hown6 hg6)
    | (refine wpList_insert_own _ rfl (.tmp 1) (.const (.int .i64 64)) _ 62 rfl 3 9 (Maps.int_keyed Tryd.underlying3) Tryd.underlying62 (plainElem Tryd.prog 9) w.heap.size 6 _ rfl hown6 (by decide) _ _ (.int .i64 64) rfl rfl (key3 64 (by decide)) (.lit (.string txt64)) [] (plainTxt _ _ (by rfl) (by decide)) ?_; intro w7 hown7 hg7))
  go_ret
  have hlt : w.heap.size < (w.alloc (.map #[] 0)).heap.size := by simp
  have hb1 : Below w.heap.size w (w.alloc (.map #[] 0)) := (Below.refl _ _).alloc (Nat.le_refl _) _
  have step : ∀ {a b : World}, Below w.heap.size w a → a.grownBy b (some w.heap.size) → Below w.heap.size w b := fun h g => h.grown g h.size (fun k hk => by cases hk; exact Nat.le_refl _)
  exact ⟨_, rfl, Nat.le_refl _, hown7, step (step (step (step (step (step (step hb1 hg1) hg2) hg3) hg4) hg5) hg6) hg7⟩
end Go.Proofs.YtfdfeblcchbcnaaDoor
