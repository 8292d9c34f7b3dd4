/- The places to which a node leads from places: what the program's ends and loop compute, as plain lists. No conditions. -/
import Derived.Test.YtjcdcmeclnihbaaLn
import Derived.Test.YtjcdcmeclnihbaaBo
import Derived.Test.YtjcdcmeclnihbaaTk
namespace Go.Proofs.Ytjcdcmeclnihbaa
open Go.RowKit
def falses (l : List Bool) : Nat := (l.filter (fun x => !x)).length
def noB (n : Nat) : List Bool := List.replicate n false
/-- As many parts as one likes. -/
def loopP (f : List Bool → List Bool) : Nat → List Bool → List Bool → List Bool
  | 0, o, _ => o
  | k + 1, o, nx => if moreB o nx = true then loopP f k (uni o nx) (f nx) else o
/-- By one mark each. -/
def stepL (kd cl : Int) (marks : List Int) (frm : List Bool) : List Bool := false :: List.zipWith (fun m x => x && takesT kd cl m) marks frm
def kid0 {d : Nat} (l : List (Tr d)) (f : Tr d → List Bool) (els : List Bool) : List Bool := match l with
  | [] => els
  | k :: _ => f k
def endsK (kd cl : Int) {T : Type} (l : List T) (f : T → List Bool → List Bool) (marks : List Int) (frm : List Bool) : List Bool :=
  if kd = 4 then l.foldl (fun x k => f k x) frm
  else if kd = 5 then l.foldl (fun o k => uni o (f k frm)) (noB frm.length)
  else if kd = 6 ∨ kd = 7 then (match l with
    | [] => frm
    | k :: _ => loopP (f k) (frm.length + 1) (if kd = 6 then uni (noB frm.length) frm else noB frm.length) (f k frm))
  else if kd = 8 then (match l with
    | [] => frm
    | k :: _ => uni (uni (noB frm.length) frm) (f k frm))
  else if kd = 9 then frm
  else stepL kd cl marks frm
def endsT : (d : Nat) → Tr d → List Int → List Bool → List Bool
  | 0, _, _, frm => frm
  | d + 1, t, marks, frm => endsK (Tr.kind t) (Tr.cls t) (Tr.kids t) (fun k x => endsT d k marks x) marks frm
theorem loopP_len {f : List Bool → List Bool} {n : Nat} (hf : ∀ x, x.length = n → (f x).length = n) : ∀ (k : Nat) (o nx : List Bool), o.length = n → nx.length = n → (loopP f k o nx).length = n := by
  intro k
  induction k with
  | zero => intro o nx h1 _; exact h1
  | succ k ih =>
    intro o nx h1 h2
    simp only [loopP]
    split
    · exact ih _ _ (by rw [uni_len (by omega)]; exact h1) (hf _ h2)
    · exact h1
theorem foldl_len {T : Type} {n : Nat} (g : List Bool → T → List Bool) (hg : ∀ x k, x.length = n → (g x k).length = n) (l : List T) : ∀ x : List Bool, x.length = n → (l.foldl g x).length = n := by
  induction l with
  | nil => intro x h; exact h
  | cons k r ih => intro x h; exact ih _ (hg x k h)
theorem endsT_len : ∀ (d : Nat) (t : Tr d) (marks : List Int) (frm : List Bool), frm.length = marks.length + 1 → (endsT d t marks frm).length = marks.length + 1 := by
  intro d
  induction d with
  | zero => intro t; exact t.elim
  | succ d ih =>
    intro t marks frm h
    have hno : (noB frm.length).length = marks.length + 1 := by simp [noB, h]
    simp only [endsT, endsK]
    split
    · exact foldl_len _ (fun x k hx => ih k marks x hx) _ _ h
    split
    · exact foldl_len _ (fun x k hx => by rw [uni_len (by rw [ih k marks frm h, hx])]; exact hx) _ _ hno
    split
    · split
      · exact h
      · refine loopP_len (fun x hx => ih _ marks x hx) _ _ _ ?_ (ih _ _ _ h)
        split
        · rw [uni_len (by rw [hno, h])]; exact hno
        · exact hno
    split
    · split
      · exact h
      · have h1 : (uni (noB frm.length) frm).length = marks.length + 1 := by rw [uni_len (by rw [hno, h])]; exact hno
        rw [uni_len (by rw [ih _ _ _ h, h1])]; exact h1
    split
    · exact h
    · simp [stepL, h]
theorem falses_le (l : List Bool) : falses l ≤ l.length := List.length_filter_le _ _
theorem falses_uni {a b : List Bool} (h : b.length = a.length) (hm : moreB a b = true) : falses (uni a b) < falses a := by
  have key : ∀ (a b : List Bool), b.length = a.length → falses (uni a b) ≤ falses a ∧ ((∃ i, nthB b i = true ∧ nthB a i = false ∧ i < b.length) → falses (uni a b) < falses a) := by
    intro a
    induction a with
    | nil => intro b hb; exact ⟨by simp [uni, falses], fun ⟨i, _, _, hi⟩ => by simp at hb; simp [hb] at hi⟩
    | cons x a ih =>
      intro b hb
      cases b with
      | nil => simp at hb
      | cons y b =>
        obtain ⟨h1, h2⟩ := ih b (by simpa using hb)
        have e : uni (x :: a) (y :: b) = (x || y) :: uni a b := rfl
        rw [e]
        have hf : ∀ (z : Bool) (l : List Bool), falses (z :: l) = (if z = true then 0 else 1) + falses l := by
          intro z l
          cases z <;> simp [falses]; omega
        rw [hf, hf]
        refine ⟨?_, ?_⟩
        · cases x <;> cases y <;> simp <;> omega
        · rintro ⟨i, hi1, hi2, hi3⟩
          cases i with
          | zero =>
            have hy : y = true := hi1
            have hx : x = false := hi2
            subst hy hx
            simp; omega
          | succ i =>
            have := h2 ⟨i, hi1, hi2, by simpa using hi3⟩
            cases x <;> cases y <;> simp <;> omega
  refine (key a b h).2 ?_
  simp only [moreB, moreFrom, List.any_eq_true, List.mem_range, Bool.and_eq_true, Bool.not_eq_true'] at hm
  obtain ⟨i, hi, h1, h2⟩ := hm
  exact ⟨i, h1, h2, hi⟩
end Go.Proofs.Ytjcdcmeclnihbaa
