/-
  No cell of these rows narrows 'for every input' (looked for: loops, veiled, ifaces, maps, wideKeys, modest, calm, conditions, laid).
  DERIVED. THE GIVEN ROWS OF THIS SEAT. 5 by the template 'for every input the law returns true; each argument reads behind the call as it read before'; 0 by the template 'total and deterministic' (their statements: YtehchnagjdmdgaaTotals.lean).
  GIVEN WITH THE SEED: the statements are not yours to turn. If you find one false, say at which input.
  Laid BY PROGRAM, IN A SANDBOX (cutbox-rows.mjs): the forced cells as the released guide's own fill.sh prints them over the translation fb4fc24bf1cf1912… (all of the seat's roots in one cut). By AI agents, Wed Nov 11 2026. No macro, syntax, notation, axiom, sorry.
-/
import Derived.Test.YtehchnagjdmdgaaChecked
import GoSem.Claim
import GoSem.ClaimJoined
import GoSem.ClaimMapViews
import Derived.JoinedTies
import Derived.KernelRfl
namespace Go.Proofs.Ytehchnagjdmdgaa
/- THE CELL 'sum', in the pinned program and in every row, IS THE sha256 OF THE DUMP (.gsa) THAT YtehchnagjdmdgaaProg.lean LOADS. Nothing in Lean hashes anything: it is a label: what it is worth is what the hold of that sum in a sandbox is worth. -/
noncomputable def Try.pinned : Pinned := { name := "ytehchnagjdmdgaa", sum := "fb4fc24bf1cf19124caae154d0dbc341ea123c666303b0b125f9d522a1a35808", checked := Try.checked }
namespace Rows
def none {H : Type} : Left H := { results := [], args := [] }

/-- 'virgulelaw03.TrieGets': WHATEVER THE INPUT: true; the input reads as it did. -/
def trieGetsSpec : ChangeSpec := { name := "trieGets", fn := fun _ => fun
  | [d1, d2, d3] => { results := [.lit (.bool true)], args := [d1, d2, d3] }
  | _ => none }
def trieGetsRow : OpenClaim := { program := "ytehchnagjdmdgaa", sum := "fb4fc24bf1cf19124caae154d0dbc341ea123c666303b0b125f9d522a1a35808", func := "virgule/virgulelaw03.TrieGets", spec := "trieGets", unfollowed := true, recurses := true, plainKeys := false, apart := false }
def TrieGetsSaid : Prop := trieGetsRow.holds Try.pinned (OpenSpec.ofChange trieGetsSpec)

/-- ITS FALSE NEIGHBOUR: 'it returns false'. Refute it at one input. -/
def trieGetsWrong : ChangeSpec := { name := "trieGets", fn := fun _ => fun
  | [d1, d2, d3] => { results := [.lit (.bool false)], args := [d1, d2, d3] }
  | _ => none }
def TrieGetsWrongFalsely : Prop := trieGetsRow.holds Try.pinned (OpenSpec.ofChange trieGetsWrong)

/-- 'virgulelaw03.TrieEdges': WHATEVER THE INPUT: true; the input reads as it did. -/
def trieEdgesSpec : ChangeSpec := { name := "trieEdges", fn := fun _ => fun
  | [d1, d2] => { results := [.lit (.bool true)], args := [d1, d2] }
  | _ => none }
def trieEdgesRow : OpenClaim := { program := "ytehchnagjdmdgaa", sum := "fb4fc24bf1cf19124caae154d0dbc341ea123c666303b0b125f9d522a1a35808", func := "virgule/virgulelaw03.TrieEdges", spec := "trieEdges", unfollowed := true, recurses := true, plainKeys := false, apart := false }
def TrieEdgesSaid : Prop := trieEdgesRow.holds Try.pinned (OpenSpec.ofChange trieEdgesSpec)

/-- ITS FALSE NEIGHBOUR: 'it returns false'. Refute it at one input. -/
def trieEdgesWrong : ChangeSpec := { name := "trieEdges", fn := fun _ => fun
  | [d1, d2] => { results := [.lit (.bool false)], args := [d1, d2] }
  | _ => none }
def TrieEdgesWrongFalsely : Prop := trieEdgesRow.holds Try.pinned (OpenSpec.ofChange trieEdgesWrong)

/-- 'virgulelaw03.TrieSets': WHATEVER THE INPUT: true; the input reads as it did. -/
def trieSetsSpec : ChangeSpec := { name := "trieSets", fn := fun _ => fun
  | [d1, d2, d3] => { results := [.lit (.bool true)], args := [d1, d2, d3] }
  | _ => none }
def trieSetsRow : OpenClaim := { program := "ytehchnagjdmdgaa", sum := "fb4fc24bf1cf19124caae154d0dbc341ea123c666303b0b125f9d522a1a35808", func := "virgule/virgulelaw03.TrieSets", spec := "trieSets", unfollowed := true, recurses := true, plainKeys := false, apart := false }
def TrieSetsSaid : Prop := trieSetsRow.holds Try.pinned (OpenSpec.ofChange trieSetsSpec)

/-- ITS FALSE NEIGHBOUR: 'it returns false'. Refute it at one input. -/
def trieSetsWrong : ChangeSpec := { name := "trieSets", fn := fun _ => fun
  | [d1, d2, d3] => { results := [.lit (.bool false)], args := [d1, d2, d3] }
  | _ => none }
def TrieSetsWrongFalsely : Prop := trieSetsRow.holds Try.pinned (OpenSpec.ofChange trieSetsWrong)

/-- 'virgulelaw03.TrieNone': WHATEVER THE INPUT: true; the input reads as it did. -/
def trieNoneSpec : ChangeSpec := { name := "trieNone", fn := fun _ => fun
  | [d1, d2] => { results := [.lit (.bool true)], args := [d1, d2] }
  | _ => none }
def trieNoneRow : OpenClaim := { program := "ytehchnagjdmdgaa", sum := "fb4fc24bf1cf19124caae154d0dbc341ea123c666303b0b125f9d522a1a35808", func := "virgule/virgulelaw03.TrieNone", spec := "trieNone", unfollowed := true, recurses := true, plainKeys := false, apart := false }
def TrieNoneSaid : Prop := trieNoneRow.holds Try.pinned (OpenSpec.ofChange trieNoneSpec)

/-- ITS FALSE NEIGHBOUR: 'it returns false'. Refute it at one input. -/
def trieNoneWrong : ChangeSpec := { name := "trieNone", fn := fun _ => fun
  | [d1, d2] => { results := [.lit (.bool false)], args := [d1, d2] }
  | _ => none }
def TrieNoneWrongFalsely : Prop := trieNoneRow.holds Try.pinned (OpenSpec.ofChange trieNoneWrong)

/-- 'virgulelaw03.TrieApart': WHATEVER THE INPUT: true; the input reads as it did. -/
def trieApartSpec : ChangeSpec := { name := "trieApart", fn := fun _ => fun
  | [d1, d2, d3] => { results := [.lit (.bool true)], args := [d1, d2, d3] }
  | _ => none }
def trieApartRow : OpenClaim := { program := "ytehchnagjdmdgaa", sum := "fb4fc24bf1cf19124caae154d0dbc341ea123c666303b0b125f9d522a1a35808", func := "virgule/virgulelaw03.TrieApart", spec := "trieApart", unfollowed := true, recurses := true, plainKeys := false, apart := false }
def TrieApartSaid : Prop := trieApartRow.holds Try.pinned (OpenSpec.ofChange trieApartSpec)

/-- ITS FALSE NEIGHBOUR: 'it returns false'. Refute it at one input. -/
def trieApartWrong : ChangeSpec := { name := "trieApart", fn := fun _ => fun
  | [d1, d2, d3] => { results := [.lit (.bool false)], args := [d1, d2, d3] }
  | _ => none }
def TrieApartWrongFalsely : Prop := trieApartRow.holds Try.pinned (OpenSpec.ofChange trieApartWrong)

/- THE SECOND FORM. 'bulk': how many values and letters a reading holds, each counted each time it is reached (what is shared counts as often as it is met; a slice's spare places count too). A statement '..UptoSaid' is the law's where the arguments, and the package variables that the reading takes, are together of bulk at most 1048576: NARROWER than '..Said'. Prove '..Said' where nothing that the law and all that it calls make is longer than what came in: it says more and counts as full. Else prove '..UptoSaid'. A law counts once. -/
mutual
def uptoBulk {H : Type} : DataW H → Nat
  | .lit (.string bytes) => bytes.length + 1
  | .lit _ => 1
  | .nil => 1
  | .ptr d => uptoBulk d + 1
  | .slice elems spare => uptoBulkAll elems + uptoBulkAll spare + 1
  | .agg parts => uptoBulkAll parts + 1
  | .iface _ d => uptoBulk d + 1
  | .map entries => uptoBulkEntries entries + 1
  | .held _ => 1
def uptoBulkAll {H : Type} : List (DataW H) → Nat
  | [] => 0
  | d :: r => uptoBulk d + uptoBulkAll r
def uptoBulkEntries {H : Type} : List (Lit × DataW H) → Nat
  | [] => 0
  | x :: r => uptoBulkEntry x + uptoBulkEntries r
def uptoBulkEntry {H : Type} : Lit × DataW H → Nat
  | (.string bytes, d) => bytes.length + uptoBulk d + 1
  | (_, d) => uptoBulk d + 1
 end
def uptoSmall : (H : Type) → List (DataW H) → Bool := fun _ ds => decide (uptoBulkAll ds ≤ 1048576)
def OpenSpec.upto (s : _root_.Go.ChangeSpec) : _root_.Go.OpenSpec := { _root_.Go.OpenSpec.ofChange s with cond := some uptoSmall }

/-- 'virgulelaw03.TrieGets', WHERE WHAT IT READS IS OF BULK AT MOST 1048576: true; the input reads as it did. -/
def trieGetsUptoRow : OpenClaim := { program := "ytehchnagjdmdgaa", sum := "fb4fc24bf1cf19124caae154d0dbc341ea123c666303b0b125f9d522a1a35808", func := "virgule/virgulelaw03.TrieGets", spec := "trieGets", unfollowed := true, recurses := true, plainKeys := false, apart := false, narrowed := true }
def TrieGetsUptoSaid : Prop := trieGetsUptoRow.holds Try.pinned (OpenSpec.upto trieGetsSpec)

/-- 'virgulelaw03.TrieEdges', WHERE WHAT IT READS IS OF BULK AT MOST 1048576: true; the input reads as it did. -/
def trieEdgesUptoRow : OpenClaim := { program := "ytehchnagjdmdgaa", sum := "fb4fc24bf1cf19124caae154d0dbc341ea123c666303b0b125f9d522a1a35808", func := "virgule/virgulelaw03.TrieEdges", spec := "trieEdges", unfollowed := true, recurses := true, plainKeys := false, apart := false, narrowed := true }
def TrieEdgesUptoSaid : Prop := trieEdgesUptoRow.holds Try.pinned (OpenSpec.upto trieEdgesSpec)

/-- 'virgulelaw03.TrieSets', WHERE WHAT IT READS IS OF BULK AT MOST 1048576: true; the input reads as it did. -/
def trieSetsUptoRow : OpenClaim := { program := "ytehchnagjdmdgaa", sum := "fb4fc24bf1cf19124caae154d0dbc341ea123c666303b0b125f9d522a1a35808", func := "virgule/virgulelaw03.TrieSets", spec := "trieSets", unfollowed := true, recurses := true, plainKeys := false, apart := false, narrowed := true }
def TrieSetsUptoSaid : Prop := trieSetsUptoRow.holds Try.pinned (OpenSpec.upto trieSetsSpec)

/-- 'virgulelaw03.TrieNone', WHERE WHAT IT READS IS OF BULK AT MOST 1048576: true; the input reads as it did. -/
def trieNoneUptoRow : OpenClaim := { program := "ytehchnagjdmdgaa", sum := "fb4fc24bf1cf19124caae154d0dbc341ea123c666303b0b125f9d522a1a35808", func := "virgule/virgulelaw03.TrieNone", spec := "trieNone", unfollowed := true, recurses := true, plainKeys := false, apart := false, narrowed := true }
def TrieNoneUptoSaid : Prop := trieNoneUptoRow.holds Try.pinned (OpenSpec.upto trieNoneSpec)

/-- 'virgulelaw03.TrieApart', WHERE WHAT IT READS IS OF BULK AT MOST 1048576: true; the input reads as it did. -/
def trieApartUptoRow : OpenClaim := { program := "ytehchnagjdmdgaa", sum := "fb4fc24bf1cf19124caae154d0dbc341ea123c666303b0b125f9d522a1a35808", func := "virgule/virgulelaw03.TrieApart", spec := "trieApart", unfollowed := true, recurses := true, plainKeys := false, apart := false, narrowed := true }
def TrieApartUptoSaid : Prop := trieApartUptoRow.holds Try.pinned (OpenSpec.upto trieApartSpec)

end Rows
end Go.Proofs.Ytehchnagjdmdgaa
