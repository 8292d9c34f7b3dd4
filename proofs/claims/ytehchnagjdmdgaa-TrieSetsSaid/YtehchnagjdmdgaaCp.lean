/- What Classes gathers: each class that occurs, once. Plain. No conditions. -/
import Derived.Test.YtehchnagjdmdgaaCi
import Derived.Test.YtehchnagjdmdgaaSs
namespace Go.Proofs.Ytehchnagjdmdgaa
def addC (l : List Int) (c : Int) : List Int := if inL l c = true then l else l ++ [c]
def addsC (l zs : List Int) : List Int := zs.foldl addC l
theorem inL_iff (l : List Int) (c : Int) : inL l c = true ↔ c ∈ l := by simp [inL]
theorem mem_addC {l : List Int} {c x : Int} : x ∈ addC l c ↔ x ∈ l ∨ x = c := by
  unfold addC
  by_cases h : inL l c = true
  · rw [if_pos h]
    exact ⟨.inl, fun e => e.elim id fun e => by rw [e]; exact (inL_iff _ _).1 h⟩
  · rw [if_neg h, List.mem_append, List.mem_singleton]
theorem mem_addsC : ∀ {zs l : List Int} {x : Int}, x ∈ addsC l zs ↔ x ∈ l ∨ x ∈ zs
  | [], l, x => by simp [addsC]
  | z :: zs, l, x => by
    show x ∈ addsC (addC l z) zs ↔ _
    rw [mem_addsC, mem_addC, List.mem_cons, or_assoc]
theorem nodup_addC {l : List Int} {c : Int} (h : l.Nodup) : (addC l c).Nodup := by
  unfold addC
  by_cases e : inL l c = true
  · rw [if_pos e]; exact h
  · rw [if_neg e, List.nodup_append]
    refine ⟨h, by simp, fun a ha b hb => ?_⟩
    rw [List.mem_singleton.1 hb]
    intro q
    rw [q] at ha
    exact e ((inL_iff _ _).2 ha)
theorem nodup_addsC : ∀ {zs l : List Int}, l.Nodup → (addsC l zs).Nodup
  | [], _, h => h
  | z :: zs, l, h => show (addsC (addC l z) zs).Nodup from nodup_addsC (nodup_addC h)
theorem addsC_snoc (l zs : List Int) (z : Int) : addsC l (zs ++ [z]) = addC (addsC l zs) z := by simp [addsC, List.foldl_append]
theorem addsC_append (l a b : List Int) : addsC l (a ++ b) = addsC (addsC l a) b := by simp [addsC, List.foldl_append]
/-- Unlike numbers below n are no more than n. -/
theorem nodup_len : ∀ (n : Nat) (l : List Int), l.Nodup → (∀ x ∈ l, 0 ≤ x ∧ x < (n : Int)) → l.length ≤ n
  | 0, [], _, _ => Nat.le_refl _
  | 0, x :: l, _, h => by have := h x (by simp); omega
  | n + 1, l, hn, h => by
    have h1 := nodup_len n (l.erase (n : Int)) (hn.erase _) fun x hx => by
      have hm := (List.Nodup.mem_erase_iff hn).1 hx
      have := h x hm.2
      have := hm.1
      omega
    have h2 := List.length_erase (a := (n : Int)) (l := l)
    by_cases e : (n : Int) ∈ l
    · rw [if_pos e] at h2; omega
    · rw [if_neg e] at h2; omega
theorem mem_sortB {l : List Int} {x : Int} : x ∈ sortB l ↔ x ∈ l := List.mem_mergeSort
end Go.Proofs.Ytehchnagjdmdgaa
