/- Names: all names that have one of some bits, sorted. Condition: the table of blanks as it is laid. -/
import Derived.Test.YtfdfeblcchbcnaaDoorNn
import Derived.Test.YtfdfeblcchbcnaaDoorBaseR
import Derived.Test.YtfdfeblcchbcnaaDoorSo
import Derived.Sort.OwnSorted
import Derived.Lib.OwnBridge
import Derived.Deep.LoopGhost
namespace Go.Proofs.YtfdfeblcchbcnaaDoor
open Go.RowKit Go.Sort

theorem nodup_len {α : Type} [DecidableEq α] : ∀ {l k : List α}, l.Nodup → (∀ x ∈ l, x ∈ k) → l.length ≤ k.length
  | [], _, _, _ => Nat.zero_le _
  | a :: l, k, hn, hs => by
    obtain ⟨h1, h2⟩ := List.nodup_cons.1 hn
    have ha : a ∈ k := hs a List.mem_cons_self
    have := nodup_len (k := k.erase a) h2 fun x hx => (List.mem_erase_of_ne (fun e : x = a => h1 (by rw [← e]; exact hx))).2 (hs x (List.mem_cons_of_mem _ hx))
    rw [List.length_erase_of_mem ha] at this
    have hp : 0 < k.length := List.length_pos_of_mem ha
    simp only [List.length_cons]
    omega
theorem data_inj {a b : ByteArray} (h : a.data.toList = b.data.toList) : a = b := by
  cases a; cases b; simp at h; rw [h]
/-- What is asked of, of some bits. -/
def wanted (A : Int) (n : Int) : Bool := bits .and .i64 n A != 0
theorem wanted_zero (A : Int) : wanted A 0 = false := by
  have h : bits .and .i64 0 A = 0 := by
    show IntKind.i64.wrap (((BitVec.ofInt 64 0) &&& (BitVec.ofInt 64 A)).toNat : Int) = 0
    simp
    decide
  simp [wanted, h]
theorem map_names {m : List (ByteArray × Int)} (ho : Once m) (hh : Holds (fun x s => (nmsOf x).contains s) m) (hp : Pos m) {p : ByteArray × Int} (h : p ∈ m) : p.2 = ((valOf p.1.data.toList : Nat) : Int) ∧ p.1.data.toList ∈ allNames := by
  have h1 := hh p.1
  rw [mget_of_mem ho (k := p.1) (v := p.2) h, Option.getD_some] at h1
  refine ⟨h1, ?_⟩
  by_cases hm : p.1.data.toList ∈ allNames
  · exact hm
  · exfalso
    have := valOf_none hm
    exact hp p h (by rw [h1]; show ((valOf p.1.data.toList : Nat) : Int) = 0; rw [this]; rfl)
theorem names_len : allNames.length ≤ 100 := by decide +kernel
theorem map_len {m : List (ByteArray × Int)} (ho : Once m) (hh : Holds (fun x s => (nmsOf x).contains s) m) (hp : Pos m) : m.length ≤ 100 := by
  have h1 : (m.map fun p => p.1.data.toList).Nodup := by
    unfold List.Nodup
    rw [List.pairwise_map]
    exact List.Pairwise.imp (fun h e => h (data_inj e)) ho
  have := nodup_len h1 (k := allNames) fun x hx => by
    obtain ⟨p, hp', rfl⟩ := List.mem_map.1 hx
    exact (map_names ho hh hp hp').2
  rw [List.length_map] at this
  exact Nat.le_trans this names_len

/-- What has been taken. -/
def Coll (A : Int) (m : List (ByteArray × Int)) (left : ByteArray → Bool) (ss : List ByteArray) : Prop := ss.Nodup ∧ ∀ s, s ∈ ss ↔ ∃ n, (s, n) ∈ m ∧ left s = false ∧ wanted A n = true
theorem coll_start (A : Int) (m : List (ByteArray × Int)) : Coll A m (fun _ => true) [] := ⟨List.Pairwise.nil, fun s => by simp⟩
theorem coll_take {A : Int} {m : List (ByteArray × Int)} {left : ByteArray → Bool} {ss : List ByteArray} {k : ByteArray} {n : Int} (h : Coll A m left ss) (hm : (k, n) ∈ m) (hl : left k = true) (hw : wanted A n = true) :
    Coll A m (fun z => left z && !decide (z = k)) (ss ++ [k]) := by
  obtain ⟨h1, h2⟩ := h
  refine ⟨List.nodup_append.2 ⟨h1, by simp, fun a ha b hb => ?_⟩, fun s => ?_⟩
  · obtain rfl := List.mem_singleton.1 hb
    rintro rfl
    obtain ⟨_, _, hf, _⟩ := (h2 a).1 ha
    rw [hl] at hf
    cases hf
  · rw [List.mem_append, List.mem_singleton]
    by_cases e : s = k
    · subst e
      simp only [or_true, true_iff]
      exact ⟨n, hm, by simp, hw⟩
    · simp only [e, or_false, decide_false, Bool.not_false, Bool.and_true]
      exact h2 s
theorem coll_skip {A : Int} {m : List (ByteArray × Int)} {left : ByteArray → Bool} {ss : List ByteArray} {k : ByteArray} {n : Int} (ho : Once m) (h : Coll A m left ss) (hm : (k, n) ∈ m) (hw : wanted A n = false) :
    Coll A m (fun z => left z && !decide (z = k)) ss := by
  obtain ⟨h1, h2⟩ := h
  refine ⟨h1, fun s => ?_⟩
  rw [h2 s]
  by_cases e : s = k
  · subst e
    constructor
    · rintro ⟨n', a, b, c⟩
      exact ⟨n', a, by simp, c⟩
    · rintro ⟨n', a, b, c⟩
      have := (mget_of_mem ho a).symm.trans (mget_of_mem ho hm)
      cases this
      rw [hw] at c
      cases c
  · simp [e]
theorem coll_len {A : Int} {m : List (ByteArray × Int)} {left : ByteArray → Bool} {ss : List ByteArray} (h : Coll A m left ss) : ss.length ≤ m.length := by
  have := nodup_len h.1 (k := m.map fun p => p.1) fun x hx => by
    obtain ⟨n, hn, _⟩ := (h.2 x).1 hx
    exact List.mem_map.2 ⟨(x, n), hn, rfl⟩
  rwa [List.length_map] at this
/-- The answer: rising, just the wanted names. -/
def NamesL (A : Int) (l : List (List UInt8)) : Prop := l.Pairwise (fun a b => a < b) ∧ ∀ s, s ∈ l ↔ wanted A (valOf s : Nat) = true
theorem in_map {m : List (ByteArray × Int)} (hh : Holds (fun x s => (nmsOf x).contains s) m) {A : Int} {s : List UInt8} (h : wanted A (valOf s : Nat) = true) : (strOf s, ((valOf s : Nat) : Int)) ∈ m := by
  cases hg : mget m (strOf s) with
  | none =>
    have := hh (strOf s)
    rw [hg, Option.getD_none] at this
    have h0 : ((valOf s : Nat) : Int) = 0 := by rw [this]; rfl
    rw [h0, wanted_zero] at h
    cases h
  | some v =>
    have := hh (strOf s)
    rw [hg, Option.getD_some] at this
    have h0 : v = ((valOf s : Nat) : Int) := this
    rw [← h0]
    exact mget_mem hg
theorem names_sorted {A : Int} {m : List (ByteArray × Int)} {left : ByteArray → Bool} {ss : List ByteArray} (ho : Once m) (hh : Holds (fun x s => (nmsOf x).contains s) m) (hp : Pos m) (h : Coll A m left ss) (hl : ∀ p ∈ m, left p.1 = false) :
    NamesL A ((ss.map fun s => s.data.toList).mergeSort fun x y => decide (x ≤ y)) := by
  have hle : ∀ a b : List UInt8, (decide (a ≤ b) || decide (b ≤ a)) = true := fun a b => by
    rcases List.le_total a b with h | h
    · simp [h]
    · simp [h]
  have htr : ∀ a b c : List UInt8, decide (a ≤ b) = true → decide (b ≤ c) = true → decide (a ≤ c) = true := fun a b c h1 h2 => by
    simp only [decide_eq_true_eq] at h1 h2 ⊢
    exact List.le_trans h1 h2
  have hsort := List.pairwise_mergeSort htr hle (ss.map fun s => s.data.toList)
  have hnd : ((ss.map fun s => s.data.toList).mergeSort fun x y => decide (x ≤ y)).Nodup := by
    rw [(List.mergeSort_perm _ _).nodup_iff]
    unfold List.Nodup
    rw [List.pairwise_map]
    exact List.Pairwise.imp (fun h e => h (data_inj e)) h.1
  refine ⟨?_, fun s => ?_⟩
  · refine (List.pairwise_and_iff.2 ⟨hsort, hnd⟩).imp fun {a b} ⟨h1, h2⟩ => ?_
    simp only [decide_eq_true_eq] at h1
    exact Std.lt_of_le_of_ne h1 h2
  · rw [(List.mergeSort_perm _ _).mem_iff, List.mem_map]
    constructor
    · rintro ⟨x, hx, rfl⟩
      obtain ⟨n, hn, _, hw⟩ := (h.2 x).1 hx
      have := (map_names ho hh hp hn).1
      simp only at this
      rw [← this]
      exact hw
    · intro hw
      have hm := in_map hh hw
      exact ⟨strOf s, (h.2 _).2 ⟨_, hm, hl _ hm, hw⟩, rfl⟩
end Go.Proofs.YtfdfeblcchbcnaaDoor
