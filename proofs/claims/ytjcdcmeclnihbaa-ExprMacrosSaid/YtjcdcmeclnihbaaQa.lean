/- An expression's text, in bytes, and how long it is. Plain. No conditions. -/
import Derived.Test.YtjcdcmeclnihbaaPx
import Derived.Test.YtjcdcmeclnihbaaCl
import Derived.Lib.Join
namespace Go.Proofs.Ytjcdcmeclnihbaa
def joinB (c : Nat) : List Bs → Bs
  | [] => []
  | [x] => x
  | x :: y :: r => x ++ c :: joinB c (y :: r)
def ksOf (k : Int) : List Int := if k = 4 then [4, 5] else if k = 5 then [5] else [4, 5, 6, 7, 8]
def toldB (ks : List Int) (k : Int) (b : Bs) : Bs := if inL ks k then 40 :: (b ++ [41]) else b
def nameP (c : Int) : Bs := bsOf (nameS c)
def signB (k : Int) : Nat := if k = 6 then 42 else if k = 7 then 43 else 63
def txK (k c : Int) (xs : List Bs) : Bs :=
  if k = 0 then nameP c else if k = 1 then [97, 110, 121] else if k = 2 then 126 :: nameP c else if k = 3 then [94]
  else if k = 4 then joinB 32 xs else if k = 5 then joinB 124 xs else if k = 6 ∨ k = 7 ∨ k = 8 then xs.headD [] ++ [signB k] else []
mutual
def txP : PT → Bs
  | .mk k c l => txK k c (txPs (ksOf k) l)
def txPs (ks : List Int) : List PT → List Bs
  | [] => []
  | p :: l => toldB ks p.kind (txP p) :: txPs ks l
end
theorem txPs_map (ks : List Int) (l : List PT) : txPs ks l = l.map fun p => toldB ks p.kind (txP p) := by
  induction l with
  | nil => rw [txPs]; rfl
  | cons p l ih => rw [txPs, ih]; rfl
theorem txP_mk (k c : Int) (l : List PT) : txP (.mk k c l) = txK k c (l.map fun p => toldB (ksOf k) p.kind (txP p)) := by rw [txP, txPs_map]
theorem names_short : nmL.all (fun x => decide (x.size ≤ 16)) = true := by decide
theorem nameP_len (c : Int) : (nameP c).length ≤ 16 := by
  unfold nameP
  rw [bsOf_len]
  unfold nameS
  split
  · rename_i h
    obtain ⟨z, hz⟩ : ∃ z, nmL[c.toNat]? = some z := ⟨_, List.getElem?_eq_getElem (by rw [nm_len]; omega)⟩
    rw [hz]
    have := List.all_eq_true.1 names_short z (List.mem_of_getElem? hz)
    simpa using this
  · exact Nat.zero_le _
theorem toldB_len (ks : List Int) (k : Int) (b : Bs) : (toldB ks k b).length ≤ b.length + 2 := by
  unfold toldB
  split <;> simp
def lenL : List Bs → Nat
  | [] => 0
  | x :: r => x.length + 1 + lenL r
theorem joinB_len (c : Nat) : ∀ l : List Bs, (joinB c l).length ≤ lenL l
  | [] => Nat.le_refl _
  | [x] => by show x.length ≤ x.length + 1 + 0; omega
  | x :: y :: r => by
    have := joinB_len c (y :: r)
    show (x ++ c :: joinB c (y :: r)).length ≤ x.length + 1 + lenL (y :: r)
    rw [List.length_append, List.length_cons]
    omega
theorem cntP_pos (p : PT) : 1 ≤ cntP p := by
  cases p with
  | mk k c l => rw [cntP]; omega
theorem txK_len (k c : Int) (xs : List Bs) (n : Nat) (h : lenL xs ≤ 20 * n) : (txK k c xs).length + 3 ≤ 20 * (1 + n) := by
  have hn := nameP_len c
  have h1 := joinB_len 32 xs
  have h2 := joinB_len 124 xs
  have h3 : (xs.headD []).length + 1 ≤ 20 * n + 1 := by
    cases xs with
    | nil => simp
    | cons x r => simp only [lenL, List.headD_cons] at *; omega
  unfold txK
  repeat' split
  all_goals (try simp only [List.length_cons, List.length_nil, List.length_append])
  all_goals omega
mutual
theorem txP_len : (p : PT) → (txP p).length + 3 ≤ 20 * cntP p
  | .mk k c l => by
    rw [txP, cntP]
    exact txK_len k c _ _ (txPs_len (ksOf k) l)
theorem txPs_len (ks : List Int) : (l : List PT) → lenL (txPs ks l) ≤ 20 * cntPs l
  | [] => by rw [txPs, cntPs]; exact Nat.le_refl _
  | p :: l => by
    have h1 := txP_len p
    have h2 := txPs_len ks l
    have h3 := toldB_len ks p.kind (txP p)
    rw [txPs, cntPs]
    show (toldB ks p.kind (txP p)).length + 1 + lenL (txPs ks l) ≤ _
    omega
end
/-- What the library joins. -/
theorem join_two (x y : List UInt8) (r : List (List UInt8)) (sep : List UInt8) : Lib.join (x :: y :: r) sep = x ++ (sep ++ Lib.join (y :: r) sep) := by
  rw [Lib.join_cons, Lib.join_cons]
  simp [Lib.joinTail]
theorem join_is (c : UInt8) : ∀ l : List ByteArray, ((Lib.join (l.map (·.data.toList)) [c]).map UInt8.toNat) = joinB c.toNat (l.map bsOf)
  | [] => rfl
  | [x] => by rw [List.map_cons, List.map_nil, Lib.join_one]; rfl
  | x :: y :: r => by
    rw [List.map_cons, List.map_cons, join_two, List.map_append, List.map_append]
    have := join_is c (y :: r)
    rw [List.map_cons] at this
    rw [this]
    rfl
end Go.Proofs.Ytjcdcmeclnihbaa
