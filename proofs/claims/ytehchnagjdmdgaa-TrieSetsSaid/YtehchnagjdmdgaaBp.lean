/- A block told by what changes in it. Plain. No conditions. -/
import Derived.Test.YtehchnagjdmdgaaPt
namespace Go.Proofs.Ytehchnagjdmdgaa
/-- What changes in a block up to a place: pairs of an offset and what stands there. -/
def rleTo (b : List Int) : Nat → List Int
  | 0 => [0, nth b 0]
  | k + 1 => if nth b (k + 1) = nth b k then rleTo b k else rleTo b k ++ [((k + 1 : Nat) : Int), nth b (k + 1)]
theorem rle_form (b : List Int) : ∀ k, ∃ t, ∃ o : Nat, o ≤ k ∧ rleTo b k = t ++ [(o : Int), nth b k]
  | 0 => ⟨[], 0, Nat.le_refl _, rfl⟩
  | k + 1 => by
    obtain ⟨t, o, h1, h2⟩ := rle_form b k
    unfold rleTo
    split
    · rename_i h
      exact ⟨t, o, by omega, by rw [h2, h]⟩
    · exact ⟨_, k + 1, Nat.le_refl _, rfl⟩
theorem rle_last (b : List Int) (k : Nat) : 2 ≤ (rleTo b k).length ∧ nth (rleTo b k) ((rleTo b k).length - 1) = nth b k := by
  obtain ⟨t, o, -, h⟩ := rle_form b k
  rw [h]
  refine ⟨by simp, ?_⟩
  have e : (t ++ [(o : Int), nth b k]).length - 1 = t.length + 1 := by simp
  rw [e]
  simp [nth]
theorem rle_len (b : List Int) : ∀ k, (rleTo b k).length ≤ 2 * k + 2
  | 0 => by simp [rleTo]
  | k + 1 => by
    have := rle_len b k
    unfold rleTo
    split
    · omega
    · simp; omega
theorem rle_byte {b : List Int} (hb : ∀ x ∈ b, 0 ≤ x ∧ x ≤ 255) (hl : b.length = 256) : ∀ k, k ≤ 255 → ∀ x ∈ rleTo b k, 0 ≤ x ∧ x ≤ 255
  | 0, _, x, hx => by
    simp only [rleTo, List.mem_cons, List.not_mem_nil, or_false] at hx
    rcases hx with hx | hx
    · omega
    · rw [hx]; exact hb _ (nth_mem (by omega))
  | k + 1, hk, x, hx => by
    have ih := rle_byte hb hl k (by omega)
    unfold rleTo at hx
    split at hx
    · exact ih x hx
    · rcases List.mem_append.1 hx with hx | hx
      · exact ih x hx
      · simp only [List.mem_cons, List.not_mem_nil, or_false] at hx
        rcases hx with hx | hx
        · omega
        · rw [hx]; exact hb _ (nth_mem (by omega))
theorem rle_skip {b : List Int} {m : Nat} : ∀ d, (∀ i, m ≤ i → i ≤ m + d → nth b i = nth b m) → rleTo b (m + d) = rleTo b m
  | 0, _ => rfl
  | d + 1, h => by
    have ih := rle_skip d fun i h1 h2 => h i h1 (by omega)
    have e : rleTo b (m + (d + 1)) = if nth b (m + d + 1) = nth b (m + d) then rleTo b (m + d) else rleTo b (m + d) ++ [((m + d + 1 : Nat) : Int), nth b (m + d + 1)] := rfl
    rw [e, if_pos (by rw [h (m + d + 1) (by omega) (by omega), h (m + d) (by omega) (by omega)]), ih]
theorem rle_skip' {b : List Int} {m n : Nat} (hmn : m ≤ n) (h : ∀ i, m ≤ i → i ≤ n → nth b i = nth b m) : rleTo b n = rleTo b m := by
  obtain ⟨d, rfl⟩ : ∃ d, n = m + d := ⟨n - m, by omega⟩
  exact rle_skip d h
theorem append_two {a b : List Int} {x y x' y' : Int} (h : a ++ [x, y] = b ++ [x', y']) : a = b ∧ x = x' ∧ y = y' := by
  have h1 := List.append_inj' h rfl
  simpa using h1
theorem rle_inj {b c : List Int} : ∀ n, rleTo b n = rleTo c n → ∀ i, i ≤ n → nth b i = nth c i
  | 0, h, i, hi => by
    obtain rfl : i = 0 := by omega
    simpa [rleTo] using h
  | n + 1, h, i, hi => by
    obtain ⟨t, o, h1, h2⟩ := rle_form b n
    obtain ⟨u, q, g1, g2⟩ := rle_form c n
    unfold rleTo at h
    split at h
    · rename_i eb
      split at h
      · rename_i ec
        have ih := rle_inj n h
        by_cases e : i ≤ n
        · exact ih i e
        · obtain rfl : i = n + 1 := by omega
          rw [eb, ec]; exact ih n (Nat.le_refl _)
      · rw [h2] at h
        have := (append_two h).2.1
        omega
    · split at h
      · rw [g2] at h
        have := (append_two h).2.1
        omega
      · obtain ⟨h3, -, h4⟩ := append_two h
        have ih := rle_inj n h3
        by_cases e : i ≤ n
        · exact ih i e
        · obtain rfl : i = n + 1 := by omega
          exact h4
theorem rle_inj256 {b c : List Int} (hb : b.length = 256) (hc : c.length = 256) (h : rleTo b 255 = rleTo c 255) : b = c :=
  nth_ext (by omega) fun k hk => rle_inj 255 h k (by omega)
/-- As a text. -/
def strL (l : List Int) : ByteArray := ⟨(l.map fun z => UInt8.ofNat z.toNat).toArray⟩
theorem strL_inj {a b : List Int} (ha : ∀ x ∈ a, 0 ≤ x ∧ x ≤ 255) (hb : ∀ x ∈ b, 0 ≤ x ∧ x ≤ 255) (h : strL a = strL b) : a = b := by
  unfold strL at h
  have h1 : (a.map fun z => UInt8.ofNat z.toNat) = b.map fun z => UInt8.ofNat z.toNat := by
    have := congrArg ByteArray.data h
    simpa using this
  have hl : a.length = b.length := by have := congrArg List.length h1; simpa using this
  refine nth_ext hl fun k hk => ?_
  have h2 := congrArg (fun l => l[k]?) h1
  simp only [List.getElem?_map, some_nth hk, some_nth (show k < b.length by omega), Option.map_some] at h2
  have h3 := Option.some.inj h2
  have a1 := ha _ (nth_mem hk)
  have b1 := hb _ (nth_mem (show k < b.length by omega))
  have h4 := congrArg UInt8.toNat h3
  rw [UInt8.toNat_ofNat', UInt8.toNat_ofNat'] at h4
  omega
theorem strL_append (a b : List Int) : strL (a ++ b) = strL a ++ strL b := by
  apply ByteArray.ext
  simp [strL]
theorem strL_size (a : List Int) : (strL a).size = a.length := by simp [strL, ByteArray.size]
theorem map_inj_mem {α β : Type} {f : α → β} {l : List α} {t : α} (h : ∀ x ∈ l, f x = f t → x = t) : f t ∈ l.map f ↔ t ∈ l := by
  rw [List.mem_map]
  constructor
  · rintro ⟨x, hx, e⟩
    rw [← h x hx e]; exact hx
  · exact fun h => ⟨t, h, rfl⟩
/-- The texts of a list of blocks. -/
def txtB (b : List Int) : ByteArray := strL (rleTo b 255)
theorem txtB_inj {b c : List Int} (hb : b.length = 256) (hb2 : ∀ x ∈ b, 0 ≤ x ∧ x ≤ 255) (hc : c.length = 256) (hc2 : ∀ x ∈ c, 0 ≤ x ∧ x ≤ 255) (h : txtB b = txtB c) : b = c :=
  rle_inj256 hb hc (strL_inj (rle_byte hb2 hb 255 (by omega)) (rle_byte hc2 hc 255 (by omega)) h)
end Go.Proofs.Ytehchnagjdmdgaa
