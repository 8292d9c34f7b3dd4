/- The seven texts of names, and their names, as bytes: plain data off the dump. No conditions. -/
import Derived.Test.YtfdfeblcchbcnaaDoorPl
import Derived.Lib.Fields
namespace Go.Proofs.YtfdfeblcchbcnaaDoor

def txt1 : List UInt8 := [97, 100, 100, 114, 101, 115, 115, 32, 97, 114, 116, 105, 99, 108, 101, 32, 97, 115, 105, 100, 101, 32, 98, 108, 111, 99, 107, 113, 117, 111, 116, 101, 32, 98, 111, 100, 121, 32, 99, 101, 110, 116, 101, 114, 32, 100, 100, 32, 100, 101, 116, 97, 105, 108, 115, 32, 100, 105, 97, 108, 111, 103, 32, 100, 105, 118, 32, 100, 108, 32, 100, 116, 32, 102, 105, 101, 108, 100, 115, 101, 116, 32, 102, 105, 103, 99, 97, 112, 116, 105, 111, 110, 32, 102, 105, 103, 117, 114, 101, 32, 102, 111, 111, 116, 101, 114, 32, 102, 111, 114, 109, 32, 104, 49, 32, 104, 50, 32, 104, 51, 32, 104, 52, 32, 104, 53, 32, 104, 54, 32, 104, 101, 97, 100, 101, 114, 32, 104, 114, 32, 104, 116, 109, 108, 32, 108, 105, 32, 109, 97, 105, 110, 32, 110, 97, 118, 32, 111, 108, 32, 112, 32, 112, 114, 101, 32, 115, 101, 99, 116, 105, 111, 110, 32, 115, 117, 109, 109, 97, 114, 121, 32, 116, 97, 98, 108, 101, 32, 116, 98, 111, 100, 121, 32, 116, 100, 32, 116, 102, 111, 111, 116, 32, 116, 104, 32, 116, 104, 101, 97, 100, 32, 116, 114, 32, 117, 108]
def txt2 : List UInt8 := [97, 114, 101, 97, 32, 98, 97, 115, 101, 32, 98, 114, 32, 99, 111, 108, 32, 101, 109, 98, 101, 100, 32, 104, 114, 32, 105, 109, 103, 32, 105, 110, 112, 117, 116, 32, 108, 105, 110, 107, 32, 109, 101, 116, 97, 32, 115, 111, 117, 114, 99, 101, 32, 116, 114, 97, 99, 107, 32, 119, 98, 114]
def txt4 : List UInt8 := [104, 101, 97, 100, 32, 110, 111, 115, 99, 114, 105, 112, 116, 32, 115, 99, 114, 105, 112, 116, 32, 115, 116, 121, 108, 101, 32, 116, 101, 109, 112, 108, 97, 116, 101, 32, 116, 105, 116, 108, 101]
def txt8 : List UInt8 := [112, 114, 101]
def txt16 : List UInt8 := [110, 111, 98, 114]
def txt32 : List UInt8 := [98, 114]
def txt64 : List UInt8 := [119, 98, 114]
def nms1 : List (List UInt8) := [[97, 100, 100, 114, 101, 115, 115], [97, 114, 116, 105, 99, 108, 101], [97, 115, 105, 100, 101], [98, 108, 111, 99, 107, 113, 117, 111, 116, 101], [98, 111, 100, 121], [99, 101, 110, 116, 101, 114], [100, 100], [100, 101, 116, 97, 105, 108, 115], [100, 105, 97, 108, 111, 103], [100, 105, 118], [100, 108], [100, 116], [102, 105, 101, 108, 100, 115, 101, 116], [102, 105, 103, 99, 97, 112, 116, 105, 111, 110], [102, 105, 103, 117, 114, 101], [102, 111, 111, 116, 101, 114], [102, 111, 114, 109], [104, 49], [104, 50], [104, 51], [104, 52], [104, 53], [104, 54], [104, 101, 97, 100, 101, 114], [104, 114], [104, 116, 109, 108], [108, 105], [109, 97, 105, 110], [110, 97, 118], [111, 108], [112], [112, 114, 101], [115, 101, 99, 116, 105, 111, 110], [115, 117, 109, 109, 97, 114, 121], [116, 97, 98, 108, 101], [116, 98, 111, 100, 121], [116, 100], [116, 102, 111, 111, 116], [116, 104], [116, 104, 101, 97, 100], [116, 114], [117, 108]]
def nms2 : List (List UInt8) := [[97, 114, 101, 97], [98, 97, 115, 101], [98, 114], [99, 111, 108], [101, 109, 98, 101, 100], [104, 114], [105, 109, 103], [105, 110, 112, 117, 116], [108, 105, 110, 107], [109, 101, 116, 97], [115, 111, 117, 114, 99, 101], [116, 114, 97, 99, 107], [119, 98, 114]]
def nms4 : List (List UInt8) := [[104, 101, 97, 100], [110, 111, 115, 99, 114, 105, 112, 116], [115, 99, 114, 105, 112, 116], [115, 116, 121, 108, 101], [116, 101, 109, 112, 108, 97, 116, 101], [116, 105, 116, 108, 101]]
def nms8 : List (List UInt8) := [[112, 114, 101]]
def nms16 : List (List UInt8) := [[110, 111, 98, 114]]
def nms32 : List (List UInt8) := [[98, 114]]
def nms64 : List (List UInt8) := [[119, 98, 114]]
theorem fields1 : Lib.fields txt1 = nms1 := by decide +kernel
theorem ascii1 : ∀ c ∈ txt1, c.toNat < 128 := by decide +kernel
theorem fields2 : Lib.fields txt2 = nms2 := by decide +kernel
theorem ascii2 : ∀ c ∈ txt2, c.toNat < 128 := by decide +kernel
theorem fields4 : Lib.fields txt4 = nms4 := by decide +kernel
theorem ascii4 : ∀ c ∈ txt4, c.toNat < 128 := by decide +kernel
theorem fields8 : Lib.fields txt8 = nms8 := by decide +kernel
theorem ascii8 : ∀ c ∈ txt8, c.toNat < 128 := by decide +kernel
theorem fields16 : Lib.fields txt16 = nms16 := by decide +kernel
theorem ascii16 : ∀ c ∈ txt16, c.toNat < 128 := by decide +kernel
theorem fields32 : Lib.fields txt32 = nms32 := by decide +kernel
theorem ascii32 : ∀ c ∈ txt32, c.toNat < 128 := by decide +kernel
theorem fields64 : Lib.fields txt64 = nms64 := by decide +kernel
theorem ascii64 : ∀ c ∈ txt64, c.toNat < 128 := by decide +kernel
/-- The names of a bit. -/
def nmsOf (b : Nat) : List (List UInt8) := if b = 1 then nms1 else if b = 2 then nms2 else if b = 4 then nms4 else if b = 8 then nms8 else if b = 16 then nms16 else if b = 32 then nms32 else if b = 64 then nms64 else []
/-- The text of a bit. -/
def txtOf (b : Nat) : List UInt8 := if b = 1 then txt1 else if b = 2 then txt2 else if b = 4 then txt4 else if b = 8 then txt8 else if b = 16 then txt16 else if b = 32 then txt32 else if b = 64 then txt64 else []
theorem fieldsOf {b : Nat} (h : isBit b = true) : Lib.fields (txtOf b) = nmsOf b := by
  rcases isBit_cases h with rfl | rfl | rfl | rfl | rfl | rfl | rfl
  · exact fields1
  · exact fields2
  · exact fields4
  · exact fields8
  · exact fields16
  · exact fields32
  · exact fields64
theorem asciiOf {b : Nat} (h : isBit b = true) : ∀ c ∈ txtOf b, c.toNat < 128 := by
  rcases isBit_cases h with rfl | rfl | rfl | rfl | rfl | rfl | rfl
  · exact ascii1
  · exact ascii2
  · exact ascii4
  · exact ascii8
  · exact ascii16
  · exact ascii32
  · exact ascii64
theorem lenOf (b : Nat) : (txtOf b).length ≤ 1000 ∧ (nmsOf b).length ≤ 100 := by
  unfold txtOf nmsOf
  repeat (split; · decide +kernel)
  decide
/-- What a name is. -/
def valOf (name : List UInt8) : Nat := seven fun b => (nmsOf b).contains name
/-- All names. -/
def allNames : List (List UInt8) := nms1 ++ nms2 ++ nms4 ++ nms8 ++ nms16 ++ nms32 ++ nms64
theorem valOf_none {name : List UInt8} (h : name ∉ allNames) : valOf name = 0 := by
  unfold allNames at h
  simp only [List.mem_append, not_or] at h
  obtain ⟨⟨⟨⟨⟨⟨h1, h2⟩, h3⟩, h4⟩, h5⟩, h6⟩, h7⟩ := h
  have hf : ∀ (l : List (List UInt8)), name ∉ l → l.contains name = false := fun l hl => by
    cases hc : l.contains name with
    | false => rfl
    | true => exact absurd (List.contains_iff_mem.1 hc) hl
  show or7 (nms1.contains name) (nms2.contains name) (nms4.contains name) (nms8.contains name) (nms16.contains name) (nms32.contains name) (nms64.contains name) = 0
  rw [hf _ h1, hf _ h2, hf _ h3, hf _ h4, hf _ h5, hf _ h6, hf _ h7]
  rfl
/-- A Void, a Hidden. -/
def partsB (n : Nat) : Bool := (n &&& 96 == 0 || n &&& 2 != 0) && (n &&& 28 == 0 || n &&& 2 == 0)
theorem parts_all : allNames.all (fun s => partsB (valOf s)) = true := by decide +kernel
theorem parts_any (name : List UInt8) : partsB (valOf name) = true := by
  by_cases h : name ∈ allNames
  · exact List.all_eq_true.1 parts_all name h
  · rw [valOf_none h]; rfl
theorem val_hr : valOf [104, 114] = 3 := by decide +kernel
theorem val_br : valOf [98, 114] = 34 := by decide +kernel
theorem val_b : valOf [98] = 0 := by decide +kernel
end Go.Proofs.YtfdfeblcchbcnaaDoor
