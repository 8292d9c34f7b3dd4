/-
  DERIVED. GIVEN WITH THE SEED: THE CARDS: each row of YtfdfeblcchbcnaaDoorRows.lean that lists a variable, with what it lists TIED to the program's text (the seventh form; the later family's looks); each row that meets fmt, with fmt's text TOLD by the authors' own Lean function (tested against real Go, not proved from fmt's source: count such statements apart). THE CARD IS WHAT COUNTS. Prove the row's statement (the work); the ties are given (YtfdfeblcchbcnaaDoorTie.lean); close each card by the builder's one call (the guide's Derived/Test/ToyasCard.lean, 'card_holds'). Laid BY PROGRAM, IN A SANDBOX (cutbox-door.mjs). By AI agents, Wed Nov 11 2026. No macro, syntax, notation, axiom, sorry.
-/
import Derived.Test.YtfdfeblcchbcnaaDoorRows
import GoSem.ClaimSeven
namespace Go.Proofs.YtfdfeblcchbcnaaDoor
namespace Rows

/-- THE TIED CARD OF 'virgulelaw21.ElementParts'. -/
def elementPartsCard : Claim7 := { stood := { row := elementPartsRow, standIns := [], harness := (true, "6c726f3031308e52224af768eb6d3e2c7a9d8cc9673bf9a56e7b1041eecb8267"), looks := false }, kinds := [], alts := [], laidByText := true, laidKinds := [.listed, .data], laidTests := true, laidLooks := .later }
def ElementPartsCardSaid : Prop := Claim7.holds Tryd.pinned (.plain (OpenSpec.ofChange elementPartsSpec)) elementPartsCard

/-- THE TIED CARD OF 'virgulelaw21.ElementOf'. -/
def elementOfCard : Claim7 := { stood := { row := elementOfRow, standIns := [], harness := (true, "6c726f3031308e52224af768eb6d3e2c7a9d8cc9673bf9a56e7b1041eecb8267"), looks := false }, kinds := [], alts := [], laidByText := true, laidKinds := [.listed, .data], laidTests := true, laidLooks := .later }
def ElementOfCardSaid : Prop := Claim7.holds Tryd.pinned (.plain (OpenSpec.ofChange elementOfSpec)) elementOfCard

/-- THE TIED CARD OF 'virgulelaw22.NestPlays'. -/
def nestPlaysCard : Claim7 := { stood := { row := nestPlaysRow, standIns := [], harness := (true, "6c726f3031308e52224af768eb6d3e2c7a9d8cc9673bf9a56e7b1041eecb8267"), looks := false }, kinds := [], alts := [], laidByText := true, laidKinds := [.listed, .data], laidTests := true, laidLooks := .later }
def NestPlaysCardSaid : Prop := Claim7.holds Tryd.pinned (.plain (OpenSpec.ofChange nestPlaysSpec)) nestPlaysCard

/-- THE TIED CARD OF 'virgulelaw22.NestFull'. -/
def nestFullCard : Claim7 := { stood := { row := nestFullRow, standIns := [], harness := (true, "6c726f3031308e52224af768eb6d3e2c7a9d8cc9673bf9a56e7b1041eecb8267"), looks := false }, kinds := [], alts := [], laidByText := true, laidKinds := [.listed, .data], laidTests := true, laidLooks := .later }
def NestFullCardSaid : Prop := Claim7.holds Tryd.pinned (.plain (OpenSpec.ofChange nestFullSpec)) nestFullCard

/-- THE TIED CARD OF 'virgulelaw22.NestBack'. -/
def nestBackCard : Claim7 := { stood := { row := nestBackRow, standIns := [], harness := (true, "6c726f3031308e52224af768eb6d3e2c7a9d8cc9673bf9a56e7b1041eecb8267"), looks := false }, kinds := [], alts := [], laidByText := true, laidKinds := [.listed, .data], laidTests := true, laidLooks := .later }
def NestBackCardSaid : Prop := Claim7.holds Tryd.pinned (.plain (OpenSpec.ofChange nestBackSpec)) nestBackCard

/-- THE TIED CARD OF 'virgulelaw22.NestNone'. -/
def nestNoneCard : Claim7 := { stood := { row := nestNoneRow, standIns := [], harness := (true, "6c726f3031308e52224af768eb6d3e2c7a9d8cc9673bf9a56e7b1041eecb8267"), looks := false }, kinds := [], alts := [], laidByText := true, laidKinds := [.listed, .data], laidTests := true, laidLooks := .later }
def NestNoneCardSaid : Prop := Claim7.holds Tryd.pinned (.plain (OpenSpec.ofChange nestNoneSpec)) nestNoneCard

/-- THE TIED CARD OF 'virgulelaw21.ElementNames'. -/
def elementNamesCard : Claim7 := { stood := { row := elementNamesRow, standIns := [], harness := (true, "6c726f3031308e52224af768eb6d3e2c7a9d8cc9673bf9a56e7b1041eecb8267"), looks := false }, kinds := [], alts := [], laidByText := true, laidKinds := [.listed, .data], laidTests := true, laidLooks := .later }
def ElementNamesCardSaid : Prop := Claim7.holds Tryd.pinned (.plain (OpenSpec.ofChange elementNamesSpec)) elementNamesCard

/-- THE SECOND FORM's CARD OF 'virgulelaw21.ElementParts'. -/
def elementPartsUptoCard : Claim7 := { stood := { row := elementPartsUptoRow, standIns := [], harness := (true, "6c726f3031308e52224af768eb6d3e2c7a9d8cc9673bf9a56e7b1041eecb8267"), looks := false }, kinds := [], alts := [], laidByText := true, laidKinds := [.listed, .data], laidTests := true, laidLooks := .later }
def ElementPartsUptoCardSaid : Prop := Claim7.holds Tryd.pinned (.plain (OpenSpec.upto elementPartsSpec)) elementPartsUptoCard

/-- THE SECOND FORM's CARD OF 'virgulelaw21.ElementOf'. -/
def elementOfUptoCard : Claim7 := { stood := { row := elementOfUptoRow, standIns := [], harness := (true, "6c726f3031308e52224af768eb6d3e2c7a9d8cc9673bf9a56e7b1041eecb8267"), looks := false }, kinds := [], alts := [], laidByText := true, laidKinds := [.listed, .data], laidTests := true, laidLooks := .later }
def ElementOfUptoCardSaid : Prop := Claim7.holds Tryd.pinned (.plain (OpenSpec.upto elementOfSpec)) elementOfUptoCard

/-- THE SECOND FORM's CARD OF 'virgulelaw22.NestPlays'. -/
def nestPlaysUptoCard : Claim7 := { stood := { row := nestPlaysUptoRow, standIns := [], harness := (true, "6c726f3031308e52224af768eb6d3e2c7a9d8cc9673bf9a56e7b1041eecb8267"), looks := false }, kinds := [], alts := [], laidByText := true, laidKinds := [.listed, .data], laidTests := true, laidLooks := .later }
def NestPlaysUptoCardSaid : Prop := Claim7.holds Tryd.pinned (.plain (OpenSpec.upto nestPlaysSpec)) nestPlaysUptoCard

/-- THE SECOND FORM's CARD OF 'virgulelaw22.NestFull'. -/
def nestFullUptoCard : Claim7 := { stood := { row := nestFullUptoRow, standIns := [], harness := (true, "6c726f3031308e52224af768eb6d3e2c7a9d8cc9673bf9a56e7b1041eecb8267"), looks := false }, kinds := [], alts := [], laidByText := true, laidKinds := [.listed, .data], laidTests := true, laidLooks := .later }
def NestFullUptoCardSaid : Prop := Claim7.holds Tryd.pinned (.plain (OpenSpec.upto nestFullSpec)) nestFullUptoCard

/-- THE SECOND FORM's CARD OF 'virgulelaw22.NestBack'. -/
def nestBackUptoCard : Claim7 := { stood := { row := nestBackUptoRow, standIns := [], harness := (true, "6c726f3031308e52224af768eb6d3e2c7a9d8cc9673bf9a56e7b1041eecb8267"), looks := false }, kinds := [], alts := [], laidByText := true, laidKinds := [.listed, .data], laidTests := true, laidLooks := .later }
def NestBackUptoCardSaid : Prop := Claim7.holds Tryd.pinned (.plain (OpenSpec.upto nestBackSpec)) nestBackUptoCard

/-- THE SECOND FORM's CARD OF 'virgulelaw22.NestNone'. -/
def nestNoneUptoCard : Claim7 := { stood := { row := nestNoneUptoRow, standIns := [], harness := (true, "6c726f3031308e52224af768eb6d3e2c7a9d8cc9673bf9a56e7b1041eecb8267"), looks := false }, kinds := [], alts := [], laidByText := true, laidKinds := [.listed, .data], laidTests := true, laidLooks := .later }
def NestNoneUptoCardSaid : Prop := Claim7.holds Tryd.pinned (.plain (OpenSpec.upto nestNoneSpec)) nestNoneUptoCard

/-- THE SECOND FORM's CARD OF 'virgulelaw21.ElementNames'. -/
def elementNamesUptoCard : Claim7 := { stood := { row := elementNamesUptoRow, standIns := [], harness := (true, "6c726f3031308e52224af768eb6d3e2c7a9d8cc9673bf9a56e7b1041eecb8267"), looks := false }, kinds := [], alts := [], laidByText := true, laidKinds := [.listed, .data], laidTests := true, laidLooks := .later }
def ElementNamesUptoCardSaid : Prop := Claim7.holds Tryd.pinned (.plain (OpenSpec.upto elementNamesSpec)) elementNamesUptoCard
end Rows
end Go.Proofs.YtfdfeblcchbcnaaDoor
