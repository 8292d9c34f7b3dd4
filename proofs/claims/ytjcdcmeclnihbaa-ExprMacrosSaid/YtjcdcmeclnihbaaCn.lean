/- How many nodes a tree has, against what size answers. No conditions. -/
import Derived.Test.YtjcdcmeclnihbaaFk
import Derived.Test.YtjcdcmeclnihbaaBx
namespace Go.Proofs.Ytjcdcmeclnihbaa
open Go.RowKit
def cntL {T : Type} (f : T → Nat) : List T → Nat
  | [] => 0
  | k :: r => f k + cntL f r
def cnt : (d : Nat) → Tr d → Nat
  | 0, _ => 0
  | d + 1, t => 1 + cntL (fun k => cnt d k) (Tr.kids t)
theorem cntL_mem {T : Type} {f : T → Nat} {l : List T} {x : T} (h : x ∈ l) : f x ≤ cntL f l := by
  induction l with
  | nil => simp at h
  | cons k r ih =>
    simp only [cntL]
    rcases List.mem_cons.1 h with rfl | h
    · omega
    · have := ih h; omega
theorem cntL_drop {T : Type} {f : T → Nat} {l : List T} {k : Nat} (h : k < l.length) : cntL f (l.drop k) = f l[k] + cntL f (l.drop (k + 1)) := by
  rw [List.drop_eq_getElem_cons h]; rfl
theorem cntL_len {T : Type} {f : T → Nat} (hf : ∀ x, 1 ≤ f x) (l : List T) : l.length ≤ cntL f l := by
  induction l with
  | nil => simp [cntL]
  | cons k r ih => have := hf k; simp only [cntL, List.length_cons]; omega
theorem cnt_pos : ∀ (d : Nat) (t : Tr d), 1 ≤ cnt d t := by
  intro d t
  cases d with
  | zero => exact t.elim
  | succ d => simp only [cnt]; omega
theorem sizeL_cnt {T : Type} {f : Int → T → Int} {c : T → Nat} {most : Int} (hf : ∀ m k, 0 ≤ m → ((c k : Int) ≤ m → f m k = c k) ∧ (m < c k → m < f m k)) (l : List T) :
    ∀ sum : Int, sum ≤ most → (sum + cntL c l ≤ most → sizeL f most sum l = sum + cntL c l) ∧ (most < sum + cntL c l → most < sizeL f most sum l) := by
  induction l with
  | nil => intro sum h; simp only [sizeL, cntL]; exact ⟨fun _ => by omega, fun _ => by omega⟩
  | cons k r ih =>
    intro sum h
    simp only [sizeL, cntL]
    rw [if_pos h]
    obtain ⟨h1, h2⟩ := hf (most - sum) k (by omega)
    by_cases hk : (c k : Int) ≤ most - sum
    · rw [h1 hk]
      obtain ⟨h3, h4⟩ := ih (sum + c k) (by omega)
      exact ⟨fun _ => by rw [h3 (by omega)]; omega, fun _ => h4 (by omega)⟩
    · have h5 := h2 (by omega)
      refine ⟨fun _ => by omega, fun _ => ?_⟩
      have h6 : ∀ (s : Int) (r : List T), most < s → most < sizeL f most s r := by
        intro s r hs
        cases r with
        | nil => exact hs
        | cons a r => simp only [sizeL]; rw [if_neg (by omega)]; exact hs
      exact h6 _ r (by omega)
theorem sizeT_cnt : ∀ (d : Nat) (most : Int) (t : Tr d), 0 ≤ most → ((cnt d t : Int) ≤ most → sizeT d most t = cnt d t) ∧ (most < cnt d t → most < sizeT d most t) := by
  intro d
  induction d with
  | zero => intro m t; exact t.elim
  | succ d ih =>
    intro most t h
    obtain ⟨s, hs⟩ : ∃ s, s = sizeT (d + 1) most t := ⟨_, rfl⟩
    obtain ⟨c, hc⟩ : ∃ c, c = cntL (fun k => cnt d k) (Tr.kids t) := ⟨_, rfl⟩
    have hs' : s = sizeL (fun m k => sizeT d m k) most 1 (Tr.kids t) := hs
    have hcn : cnt (d + 1) t = 1 + c := by rw [hc]; rfl
    rw [← hs, hcn]
    by_cases h1 : 1 ≤ most
    · have H := sizeL_cnt (f := fun m k => sizeT d m k) (c := fun k => cnt d k) (fun m k hm => ih m k hm) (Tr.kids t) 1 h1
      rw [← hs', ← hc] at H
      exact ⟨fun _ => by rw [H.1 (by omega)]; omega, fun _ => H.2 (by omega)⟩
    · have h0 : most = 0 := by omega
      subst h0
      refine ⟨fun _ => by omega, fun _ => ?_⟩
      rw [hs']
      cases Tr.kids t with
      | nil => simp [sizeL]
      | cons a r => simp only [sizeL]; rw [if_neg (by omega)]; omega
theorem sizeT_le {d : Nat} {most : Int} {t : Tr d} (h : 0 ≤ most) : sizeT d most t ≤ most ↔ (cnt d t : Int) ≤ most := by
  obtain ⟨h1, h2⟩ := sizeT_cnt d most t h
  by_cases hc : (cnt d t : Int) ≤ most
  · rw [h1 hc]
  · have := h2 (by omega); omega
end Go.Proofs.Ytjcdcmeclnihbaa
