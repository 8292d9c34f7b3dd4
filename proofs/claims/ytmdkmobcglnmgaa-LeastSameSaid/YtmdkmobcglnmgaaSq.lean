/- A block split in two: the words. No conditions. -/
import Derived.Test.YtmdkmobcglnmgaaDi
namespace Go.Proofs.Ytmdkmobcglnmgaa
open Go.RowKit

/-- States taken out into a block of their own. -/
def cut (blk : List Int) (N : Int) (ol : List Int) : List Int := ol.foldl (fun l i => l.set i.toNat N) blk
theorem cut_snoc (blk : List Int) (N : Int) (ol : List Int) (i : Int) : cut blk N (ol ++ [i]) = (cut blk N ol).set i.toNat N := by simp [cut, List.foldl_append]
theorem cut_len (N : Int) : ∀ (ol blk : List Int), (cut blk N ol).length = blk.length := by
  intro ol
  induction ol with
  | nil => intro blk; rfl
  | cons i ol ih =>
    intro blk
    show (cut (blk.set i.toNat N) N ol).length = _
    rw [ih]
    simp
theorem cut_nth {blk : List Int} {N : Int} {t : Nat} (ht : t < blk.length) : ∀ {ol : List Int}, (∀ z ∈ ol, ∃ s : Nat, z = s ∧ s < blk.length) → nth (cut blk N ol) t = if (t : Int) ∈ ol then N else nth blk t := by
  have key : ∀ (n : Nat) (ol : List Int), ol.length = n → (∀ z ∈ ol, ∃ s : Nat, z = s ∧ s < blk.length) → nth (cut blk N ol) t = if (t : Int) ∈ ol then N else nth blk t := by
    intro n
    induction n with
    | zero =>
      intro ol h _
      obtain rfl : ol = [] := List.length_eq_zero_iff.1 h
      simp [cut]
    | succ n ih =>
      intro ol h hz
      obtain ⟨ol', i, rfl⟩ : ∃ ol' i, ol = ol' ++ [i] := by
        rcases List.eq_nil_or_concat ol with rfl | ⟨a, b, rfl⟩
        · simp at h
        · exact ⟨a, b, by simp⟩
      obtain ⟨s, hs, hsl⟩ := hz i (by simp)
      have ih' := ih ol' (by simpa using h) (fun z hz' => hz z (by simp [hz']))
      rw [cut_snoc, hs, Int.toNat_natCast, nth_set (by rw [cut_len]; exact hsl), ih']
      by_cases e : s = t
      · subst e; simp
      · have : ¬ (t : Int) = (s : Int) := by omega
        simp [e, this]
  intro ol
  exact key ol.length ol rfl
/-- What is to do, before and behind. -/
def TdPart (td td' : List ((Int × Int) × Unit)) (b N : Int) (j : Int) : Prop := (∀ p, mget td p = some () → mget td' p = some ()) ∧
  (∀ m, 0 ≤ m → m < j → (mget td (b, m) = some () → mget td' (N, m) = some ()) ∧ (mget td' (b, m) = some () ∨ mget td' (N, m) = some ())) ∧
  (∀ p, mget td' p = some () → mget td p = some () ∨ ((p.1 = b ∨ p.1 = N) ∧ 0 ≤ p.2 ∧ p.2 < j))
theorem TdPart.start (td : List ((Int × Int) × Unit)) (b N : Int) : TdPart td td b N 0 := ⟨fun _ h => h, fun m h1 h2 => by omega, fun _ h => .inl h⟩
theorem TdPart.step {td td' : List ((Int × Int) × Unit)} {b N j c : Int} (h : TdPart td td' b N j) (hj : 0 ≤ j) (hc : c = b ∨ c = N) (hN : mget td' (b, j) = some () → c = N) : TdPart td (mset td' (c, j) ()) b N (j + 1) := by
  obtain ⟨h1, h2, h3⟩ := h
  have hm : ∀ p, mget td' p = some () → mget (mset td' (c, j) ()) p = some () := fun p hp => by
    rw [mget_mset]
    split
    · rfl
    · exact hp
  refine ⟨fun p hp => hm p (h1 p hp), fun m m0 m1 => ?_, fun p hp => ?_⟩
  · by_cases e : m = j
    · subst e
      refine ⟨fun hb => ?_, ?_⟩
      · rw [mget_mset, if_pos (by rw [hN (h1 _ hb)])]
      · rcases hc with rfl | rfl
        · exact .inl (by rw [mget_mset, if_pos rfl])
        · exact .inr (by rw [mget_mset, if_pos rfl])
    · obtain ⟨a, c'⟩ := h2 m m0 (by omega)
      exact ⟨fun hb => hm _ (a hb), c'.imp (hm _) (hm _)⟩
  · rw [mget_mset] at hp
    split at hp
    · rename_i e
      subst e
      exact .inr ⟨hc, hj, show j < j + 1 by omega⟩
    · rcases h3 p hp with h | ⟨a, b', c'⟩
      · exact .inl h
      · exact .inr ⟨a, b', by omega⟩
theorem Rows.add {w : World} {B : Nat} {st : List (Int × GV)} (h : Rows w B st) (ho : Once st) {k : Int} {v : Value} {l : List Int} (hown : OwnI w B v l) (hap : ∀ p ∈ st, p.1 ≠ k → Aprt p.2.1 v) : Rows w B (mset st k (v, l)) := by
  refine ⟨fun p hp => ?_, pairwise_mset (fun h => h.symm) ho h.2 hap⟩
  rcases mem_mset_ne ho hp with rfl | ⟨hp, _⟩
  · exact hown
  · exact h.1 p hp
theorem NotIn.add {g : Nat} {st : List (Int × GV)} (h : NotIn g st) {k : Int} {v : Value} {l : List Int} (hv : v.ownBlock ≠ some g) : NotIn g (mset st k (v, l)) := fun p hp => by
  rcases mem_mset hp with rfl | hp
  · exact hv
  · exact h p hp
/-- A row of another's is taken in. -/
theorem SpM.add {x : Sx} {w w' : World} {fv : Value} {many : Int} {blk : List Int} {st : List (Int × GV)} {td : List ((Int × Int) × Unit)} (hx : x.ok) (h : SpM x w fv many blk st td) {k : Int} {v : Value} {l : List Int}
    (hown : OwnI w x.B v l) (hap : ∀ p ∈ st, p.1 ≠ k → Aprt p.2.1 v) (hbb : v.ownBlock ≠ some x.bb) (hm : GMap w' x.bs (mset st k (v, l))) (hg : w.grownBy w' (some x.bs)) : SpM x w' fv many blk (mset st k (v, l)) td := by
  obtain ⟨a, b, c, d, e, f⟩ := h
  have r1 := d.add c.once hown hap
  exact ⟨a.keep (hg.block _ a.lt (fun e => a.ne_map c (by injection e))), b.keep (hg.block _ b.lt (fun e => blk_ne_map b c (by injection e))), hm, r1.grown hg fun p hp => .inr (own_map_ne (r1.1 p hp) c), e.add hbb, f.grown hg (fun e => hx.2.2.2.2 (by injection e with e; exact e.symm))⟩
theorem rowV_mset (st : List (Int × GV)) (b : Int) (y : GV) (c : Int) : rowV (mset st b y) c = if b = c then y.1 else rowV st c := by
  unfold rowV
  rw [mget_mset]
  split <;> rfl
def SplitAns (x : Sx) (w : World) (fv : Value) (many : Int) (blk : List Int) (st : List (Int × GV)) (td : List ((Int × Int) × Unit)) (b : Int) (vo : Value) (ol : List Int) (e : Ending) (w' : World) : Prop :=
  e = .returned (.tuple #[]) ∧ Below x.B w w' ∧ Kept x (rowV st b).ownBlock w w' ∧ ∃ v' td', v'.ownBlock = (rowV st b).ownBlock ∧ TdPart td td' b many 37 ∧
    SpM x w' fv (many + 1) (cut blk many ol) (mset (mset st many (vo, ol)) b (v', (lst st b).filter fun z => !inB (cut blk many ol) many z)) td'
end Go.Proofs.Ytmdkmobcglnmgaa
