/- A reader's functions, level by level. Conditions: a reader and macros in memory. -/
import Derived.Test.YtjcdcmeclnihbaaPv
import Derived.Test.YtjcdcmeclnihbaaFl
import Derived.Test.YtjcdcmeclnihbaaEs
namespace Go.Proofs.Ytjcdcmeclnihbaa
open Go.RowKit
/-- What a macro's name stands for: the last of that name that is right and matches something. -/
def macsOf (rightP : PT → Bool) (ms : List (ByteArray × PT)) (b : Bs) : Option PT := (ms.reverse.find? fun m => bsOf m.1 == b && rightP m.2 && !(m.2.kind == 9)).map (·.2)
theorem level_one {Sm : Nat → Prop} {kv : Value} {ms : List (ByteArray × PT)} {rightP : PT → Bool} (hms : ms.length ≤ 1000)
    (hright : ∀ (w : World) (v : Value) (p : PT), IsP w Any v p → Calls Try.prog 49 #[v] w fun e w' => e = .returned (.bool (rightP p)) ∧ Below w.heap.size w w')
    {op : Int} {alts : Option (Bs → Res PT)} (hop0 : 0 ≤ op) (hop : op ≤ 20) (h0 : op = 20 → alts = none) (h1 : op ≠ 20 → ∃ f, alts = some f ∧ RdC 52 Sm kv ms (op + 1) f) (ho : ∀ f, alts = some f → Short f) :
    RdC 52 Sm kv ms op (altsF numB (macsOf rightP ms) alts) := by
  refine alts_any ho (seq_any ho (often_any (atom_any ?_ ?_)))
  · exact fun w r s bad a h he ha hs hl => named_any rightP hright (macsOf rightP ms) ms (fun _ => rfl) a h he.macs he.off hms ha hs hl
  · exact fun w r s bad a h he ha hs hl => brack_any hop0 hop h0 h1 a h he ha hs hl
theorem level_any {Sm : Nat → Prop} {kv : Value} {ms : List (ByteArray × PT)} {rightP : PT → Bool} (hms : ms.length ≤ 1000)
    (hright : ∀ (w : World) (v : Value) (p : PT), IsP w Any v p → Calls Try.prog 49 #[v] w fun e w' => e = .returned (.bool (rightP p)) ∧ Below w.heap.size w w') :
    ∀ d : Nat, d ≤ 20 → RdC 52 Sm kv ms (20 - (d : Int)) (pAlts numB (macsOf rightP ms) d)
  | 0, _ => level_one hms hright (by decide) (by decide) (fun _ => rfl) (fun h => absurd rfl h) (fun f e => by cases e)
  | d + 1, hd => level_one hms hright (by omega) (by omega) (fun h => by omega) (fun _ => ⟨_, rfl, by
      have := level_any (Sm := Sm) (kv := kv) hms hright d (by omega)
      rw [show (20 : Int) - ((d + 1 : Nat) : Int) + 1 = 20 - (d : Int) by omega]
      exact this⟩) (fun f e => by injection e with e; rw [← e]; exact pAlts_short _ _ d)
end Go.Proofs.Ytjcdcmeclnihbaa
namespace Go.Proofs.Ytjcdcmeclnihbaa
open Go.RowKit
mutual
def fitsP (within : Bool) : PT → Bool
  | .mk k c l => fitB within k c l.length && fitsPs l
def fitsPs : List PT → Bool
  | [] => true
  | p :: l => fitsP true p && fitsPs l
end
mutual
def cntP : PT → Nat
  | .mk _ _ l => 1 + cntPs l
def cntPs : List PT → Nat
  | [] => 0
  | p :: l => cntP p + cntPs l
end
theorem fitsPs_all (l : List PT) : fitsPs l = l.all (fitsP true) := by
  induction l with
  | nil => rw [fitsPs]; rfl
  | cons p l ih => rw [fitsPs, ih]; rfl
theorem cntPs_sum (l : List PT) : cntPs l = cntL cntP l := by
  induction l with
  | nil => rw [cntPs]; rfl
  | cons p l ih => rw [cntPs, ih]; rfl
theorem fitsP_toP : ∀ (d : Nat) (on : Bool) (t : Tr d), fitsP on (toP d t) = fitsT d on t
  | 0, _, t => t.elim
  | d + 1, on, t => by
    rw [toP_succ, fitsP, fitsPs_all, List.length_map, List.all_map]
    show _ = (fitB on (Tr.kind t) (Tr.cls t) (Tr.kids t).length && (Tr.kids t).all (fun x => fitsT d true x))
    congr 2
    funext x
    exact fitsP_toP d true x
theorem cntL_map {T U : Type} (f : U → Nat) (g : T → U) (l : List T) : cntL f (l.map g) = cntL (fun x => f (g x)) l := by
  induction l with
  | nil => rfl
  | cons x l ih => simp only [List.map_cons, cntL, ih]
theorem cntP_toP : ∀ (d : Nat) (t : Tr d), cntP (toP d t) = cnt d t
  | 0, t => t.elim
  | d + 1, t => by
    rw [toP_succ, cntP, cntPs_sum, cntL_map]
    show 1 + cntL _ _ = 1 + cntL (fun k => cnt d k) (Tr.kids t)
    congr 2
    funext x
    exact cntP_toP d x
/-- An expression that is right: of no more than 2000 parts, each with what it wants. -/
def rightP (p : PT) : Bool := decide (cntP p ≤ 2000) && fitsP false p
theorem rightP_toP (d : Nat) (t : Tr d) : rightP (toP d t) = rightT d t := by
  unfold rightP rightT
  rw [fitsP_toP, cntP_toP]
  congr 1
  rw [decide_eq_decide, sizeT_le (by decide)]
  omega
theorem rightP_any (w : World) (v : Value) (p : PT) (h : IsP w Any v p) : Calls Try.prog 49 #[v] w fun e w' => e = .returned (.bool (rightP p)) ∧ Below w.heap.size w w' := by
  obtain ⟨d, t, h1, rfl⟩ := h
  rw [rightP_toP]
  exact eright_any Any d v t w h1
theorem sizeP_any {w : World} {S : Nat → Prop} {v : Value} {p : PT} (h : IsP w S v p) : Calls Try.prog 55 #[v, .int .i64 2000] w fun e w' => ∃ n : Int, e = .returned (.int .i64 n) ∧ (n ≤ 2000 ↔ cntP p ≤ 2000) ∧ Below w.heap.size w w' := by
  obtain ⟨d, t, h1, rfl⟩ := h
  refine (esize_any S d v t 2000 w h1 (by decide) (by decide)).mono ?_
  rintro e w' ⟨rfl, hb⟩
  exact ⟨_, rfl, by rw [cntP_toP, sizeT_le (by decide)]; omega, hb⟩
/-- The reader at its outermost. -/
theorem alts20_any {Sm : Nat → Prop} {kv : Value} {ms : List (ByteArray × PT)} (hms : ms.length ≤ 1000) : RdC 52 Sm kv ms 0 (pAlts numB (macsOf rightP ms) 20) :=
  level_any hms rightP_any 20 (Nat.le_refl _)
end Go.Proofs.Ytjcdcmeclnihbaa
