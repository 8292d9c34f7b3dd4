/-
  No cell of these rows narrows 'for every input' (looked for: loops, veiled, ifaces, maps, wideKeys, modest, calm, conditions, laid).
  DERIVED. THE GIVEN ROWS OF THIS SEAT. 10 by the template 'for every input the law returns true; each argument reads behind the call as it read before'; 0 by the template 'total and deterministic' (their statements: YtmdkmobcglnmgaaTotals.lean).
  GIVEN WITH THE SEED: the statements are not yours to turn. If you find one false, say at which input.
  Laid BY PROGRAM, IN A SANDBOX (cutbox-rows.mjs): the forced cells as the released guide's own fill.sh prints them over the translation 6f3bfdd21aadf591… (all of the seat's roots in one cut). By AI agents, Wed Nov 11 2026. No macro, syntax, notation, axiom, sorry.
-/
import Derived.Test.YtmdkmobcglnmgaaChecked
import GoSem.Claim
import GoSem.ClaimJoined
import GoSem.ClaimMapViews
import Derived.JoinedTies
import Derived.KernelRfl
namespace Go.Proofs.Ytmdkmobcglnmgaa
/- THE CELL 'sum', in the pinned program and in every row, IS THE sha256 OF THE DUMP (.gsa) THAT YtmdkmobcglnmgaaProg.lean LOADS. Nothing in Lean hashes anything: it is a label: what it is worth is what the hold of that sum in a sandbox is worth. -/
noncomputable def Try.pinned : Pinned := { name := "ytmdkmobcglnmgaa", sum := "6f3bfdd21aadf591cf8de672ba565c090166a7178a837baa4b3382899a5b8874", checked := Try.checked }
namespace Rows
def none {H : Type} : Left H := { results := [], args := [] }

/-- 'virgulelaw11.SqueezeGroups': WHATEVER THE INPUT: true; the input reads as it did. -/
def squeezeGroupsSpec : ChangeSpec := { name := "squeezeGroups", fn := fun _ => fun
  | [d] => { results := [.lit (.bool true)], args := [d] }
  | _ => none }
def squeezeGroupsRow : OpenClaim := { program := "ytmdkmobcglnmgaa", sum := "6f3bfdd21aadf591cf8de672ba565c090166a7178a837baa4b3382899a5b8874", func := "virgule/virgulelaw11.SqueezeGroups", spec := "squeezeGroups", unfollowed := true, recurses := true, plainKeys := false, apart := false }
def SqueezeGroupsSaid : Prop := squeezeGroupsRow.holds Try.pinned (OpenSpec.ofChange squeezeGroupsSpec)

/-- ITS FALSE NEIGHBOUR: 'it returns false'. Refute it at one input. -/
def squeezeGroupsWrong : ChangeSpec := { name := "squeezeGroups", fn := fun _ => fun
  | [d] => { results := [.lit (.bool false)], args := [d] }
  | _ => none }
def SqueezeGroupsWrongFalsely : Prop := squeezeGroupsRow.holds Try.pinned (OpenSpec.ofChange squeezeGroupsWrong)

/-- 'virgulelaw11.SqueezeMakes': WHATEVER THE INPUT: true; the input reads as it did. -/
def squeezeMakesSpec : ChangeSpec := { name := "squeezeMakes", fn := fun _ => fun
  | [d1, d2] => { results := [.lit (.bool true)], args := [d1, d2] }
  | _ => none }
def squeezeMakesRow : OpenClaim := { program := "ytmdkmobcglnmgaa", sum := "6f3bfdd21aadf591cf8de672ba565c090166a7178a837baa4b3382899a5b8874", func := "virgule/virgulelaw11.SqueezeMakes", spec := "squeezeMakes", unfollowed := true, recurses := true, plainKeys := false, apart := false }
def SqueezeMakesSaid : Prop := squeezeMakesRow.holds Try.pinned (OpenSpec.ofChange squeezeMakesSpec)

/-- ITS FALSE NEIGHBOUR: 'it returns false'. Refute it at one input. -/
def squeezeMakesWrong : ChangeSpec := { name := "squeezeMakes", fn := fun _ => fun
  | [d1, d2] => { results := [.lit (.bool false)], args := [d1, d2] }
  | _ => none }
def SqueezeMakesWrongFalsely : Prop := squeezeMakesRow.holds Try.pinned (OpenSpec.ofChange squeezeMakesWrong)

/-- 'virgulelaw11.SqueezeOwn': WHATEVER THE INPUT: true; the input reads as it did. -/
def squeezeOwnSpec : ChangeSpec := { name := "squeezeOwn", fn := fun _ => fun
  | [d] => { results := [.lit (.bool true)], args := [d] }
  | _ => none }
def squeezeOwnRow : OpenClaim := { program := "ytmdkmobcglnmgaa", sum := "6f3bfdd21aadf591cf8de672ba565c090166a7178a837baa4b3382899a5b8874", func := "virgule/virgulelaw11.SqueezeOwn", spec := "squeezeOwn", unfollowed := true, recurses := true, plainKeys := false, apart := false }
def SqueezeOwnSaid : Prop := squeezeOwnRow.holds Try.pinned (OpenSpec.ofChange squeezeOwnSpec)

/-- ITS FALSE NEIGHBOUR: 'it returns false'. Refute it at one input. -/
def squeezeOwnWrong : ChangeSpec := { name := "squeezeOwn", fn := fun _ => fun
  | [d] => { results := [.lit (.bool false)], args := [d] }
  | _ => none }
def SqueezeOwnWrongFalsely : Prop := squeezeOwnRow.holds Try.pinned (OpenSpec.ofChange squeezeOwnWrong)

/-- 'virgulelaw11.SqueezeWide': WHATEVER THE INPUT: true; the input reads as it did. -/
def squeezeWideSpec : ChangeSpec := { name := "squeezeWide", fn := fun _ => fun
  | [d] => { results := [.lit (.bool true)], args := [d] }
  | _ => none }
def squeezeWideRow : OpenClaim := { program := "ytmdkmobcglnmgaa", sum := "6f3bfdd21aadf591cf8de672ba565c090166a7178a837baa4b3382899a5b8874", func := "virgule/virgulelaw11.SqueezeWide", spec := "squeezeWide", unfollowed := true, recurses := true, plainKeys := false, apart := false }
def SqueezeWideSaid : Prop := squeezeWideRow.holds Try.pinned (OpenSpec.ofChange squeezeWideSpec)

/-- ITS FALSE NEIGHBOUR: 'it returns false'. Refute it at one input. -/
def squeezeWideWrong : ChangeSpec := { name := "squeezeWide", fn := fun _ => fun
  | [d] => { results := [.lit (.bool false)], args := [d] }
  | _ => none }
def SqueezeWideWrongFalsely : Prop := squeezeWideRow.holds Try.pinned (OpenSpec.ofChange squeezeWideWrong)

/-- 'virgulelaw10.LeastOf': WHATEVER THE INPUT: true; the input reads as it did. -/
def leastOfSpec : ChangeSpec := { name := "leastOf", fn := fun _ => fun
  | [d] => { results := [.lit (.bool true)], args := [d] }
  | _ => none }
def leastOfRow : OpenClaim := { program := "ytmdkmobcglnmgaa", sum := "6f3bfdd21aadf591cf8de672ba565c090166a7178a837baa4b3382899a5b8874", func := "virgule/virgulelaw10.LeastOf", spec := "leastOf", unfollowed := true, recurses := true, plainKeys := false, apart := false }
def LeastOfSaid : Prop := leastOfRow.holds Try.pinned (OpenSpec.ofChange leastOfSpec)

/-- ITS FALSE NEIGHBOUR: 'it returns false'. Refute it at one input. -/
def leastOfWrong : ChangeSpec := { name := "leastOf", fn := fun _ => fun
  | [d] => { results := [.lit (.bool false)], args := [d] }
  | _ => none }
def LeastOfWrongFalsely : Prop := leastOfRow.holds Try.pinned (OpenSpec.ofChange leastOfWrong)

/-- 'virgulelaw10.LeastRuns': WHATEVER THE INPUT: true; the input reads as it did. -/
def leastRunsSpec : ChangeSpec := { name := "leastRuns", fn := fun _ => fun
  | [d1, d2] => { results := [.lit (.bool true)], args := [d1, d2] }
  | _ => none }
def leastRunsRow : OpenClaim := { program := "ytmdkmobcglnmgaa", sum := "6f3bfdd21aadf591cf8de672ba565c090166a7178a837baa4b3382899a5b8874", func := "virgule/virgulelaw10.LeastRuns", spec := "leastRuns", unfollowed := true, recurses := true, plainKeys := false, apart := false }
def LeastRunsSaid : Prop := leastRunsRow.holds Try.pinned (OpenSpec.ofChange leastRunsSpec)

/-- ITS FALSE NEIGHBOUR: 'it returns false'. Refute it at one input. -/
def leastRunsWrong : ChangeSpec := { name := "leastRuns", fn := fun _ => fun
  | [d1, d2] => { results := [.lit (.bool false)], args := [d1, d2] }
  | _ => none }
def LeastRunsWrongFalsely : Prop := leastRunsRow.holds Try.pinned (OpenSpec.ofChange leastRunsWrong)

/-- 'virgulelaw10.LeastApart': WHATEVER THE INPUT: true; the input reads as it did. -/
def leastApartSpec : ChangeSpec := { name := "leastApart", fn := fun _ => fun
  | [d1, d2, d3] => { results := [.lit (.bool true)], args := [d1, d2, d3] }
  | _ => none }
def leastApartRow : OpenClaim := { program := "ytmdkmobcglnmgaa", sum := "6f3bfdd21aadf591cf8de672ba565c090166a7178a837baa4b3382899a5b8874", func := "virgule/virgulelaw10.LeastApart", spec := "leastApart", unfollowed := true, recurses := true, plainKeys := false, apart := false }
def LeastApartSaid : Prop := leastApartRow.holds Try.pinned (OpenSpec.ofChange leastApartSpec)

/-- ITS FALSE NEIGHBOUR: 'it returns false'. Refute it at one input. -/
def leastApartWrong : ChangeSpec := { name := "leastApart", fn := fun _ => fun
  | [d1, d2, d3] => { results := [.lit (.bool false)], args := [d1, d2, d3] }
  | _ => none }
def LeastApartWrongFalsely : Prop := leastApartRow.holds Try.pinned (OpenSpec.ofChange leastApartWrong)

/-- 'virgulelaw11.SqueezeBack': WHATEVER THE INPUT: true; the input reads as it did. -/
def squeezeBackSpec : ChangeSpec := { name := "squeezeBack", fn := fun _ => fun
  | [d1, d2, d3, d4] => { results := [.lit (.bool true)], args := [d1, d2, d3, d4] }
  | _ => none }
def squeezeBackRow : OpenClaim := { program := "ytmdkmobcglnmgaa", sum := "6f3bfdd21aadf591cf8de672ba565c090166a7178a837baa4b3382899a5b8874", func := "virgule/virgulelaw11.SqueezeBack", spec := "squeezeBack", unfollowed := true, recurses := true, plainKeys := false, apart := false }
def SqueezeBackSaid : Prop := squeezeBackRow.holds Try.pinned (OpenSpec.ofChange squeezeBackSpec)

/-- ITS FALSE NEIGHBOUR: 'it returns false'. Refute it at one input. -/
def squeezeBackWrong : ChangeSpec := { name := "squeezeBack", fn := fun _ => fun
  | [d1, d2, d3, d4] => { results := [.lit (.bool false)], args := [d1, d2, d3, d4] }
  | _ => none }
def SqueezeBackWrongFalsely : Prop := squeezeBackRow.holds Try.pinned (OpenSpec.ofChange squeezeBackWrong)

/-- 'virgulelaw10.LeastAlike': WHATEVER THE INPUT: true; the input reads as it did. -/
def leastAlikeSpec : ChangeSpec := { name := "leastAlike", fn := fun _ => fun
  | [d1, d2] => { results := [.lit (.bool true)], args := [d1, d2] }
  | _ => none }
def leastAlikeRow : OpenClaim := { program := "ytmdkmobcglnmgaa", sum := "6f3bfdd21aadf591cf8de672ba565c090166a7178a837baa4b3382899a5b8874", func := "virgule/virgulelaw10.LeastAlike", spec := "leastAlike", unfollowed := true, recurses := true, plainKeys := false, apart := false }
def LeastAlikeSaid : Prop := leastAlikeRow.holds Try.pinned (OpenSpec.ofChange leastAlikeSpec)

/-- ITS FALSE NEIGHBOUR: 'it returns false'. Refute it at one input. -/
def leastAlikeWrong : ChangeSpec := { name := "leastAlike", fn := fun _ => fun
  | [d1, d2] => { results := [.lit (.bool false)], args := [d1, d2] }
  | _ => none }
def LeastAlikeWrongFalsely : Prop := leastAlikeRow.holds Try.pinned (OpenSpec.ofChange leastAlikeWrong)

/-- 'virgulelaw10.LeastSame': WHATEVER THE INPUT: true; the input reads as it did. -/
def leastSameSpec : ChangeSpec := { name := "leastSame", fn := fun _ => fun
  | [d1, d2, d3] => { results := [.lit (.bool true)], args := [d1, d2, d3] }
  | _ => none }
def leastSameRow : OpenClaim := { program := "ytmdkmobcglnmgaa", sum := "6f3bfdd21aadf591cf8de672ba565c090166a7178a837baa4b3382899a5b8874", func := "virgule/virgulelaw10.LeastSame", spec := "leastSame", unfollowed := true, recurses := true, plainKeys := false, apart := false }
def LeastSameSaid : Prop := leastSameRow.holds Try.pinned (OpenSpec.ofChange leastSameSpec)

/-- ITS FALSE NEIGHBOUR: 'it returns false'. Refute it at one input. -/
def leastSameWrong : ChangeSpec := { name := "leastSame", fn := fun _ => fun
  | [d1, d2, d3] => { results := [.lit (.bool false)], args := [d1, d2, d3] }
  | _ => none }
def LeastSameWrongFalsely : Prop := leastSameRow.holds Try.pinned (OpenSpec.ofChange leastSameWrong)

/- THE SECOND FORM. 'bulk': how many values and letters a reading holds, each counted each time it is reached (what is shared counts as often as it is met; a slice's spare places count too). A statement '..UptoSaid' is the law's where the arguments, and the package variables that the reading takes, are together of bulk at most 1048576: NARROWER than '..Said'. Prove '..Said' where nothing that the law and all that it calls make is longer than what came in: it says more and counts as full. Else prove '..UptoSaid'. A law counts once. -/
mutual
def uptoBulk {H : Type} : DataW H → Nat
  | .lit (.string bytes) => bytes.length + 1
  | .lit _ => 1
  | .nil => 1
  | .ptr d => uptoBulk d + 1
  | .slice elems spare => uptoBulkAll elems + uptoBulkAll spare + 1
  | .agg parts => uptoBulkAll parts + 1
  | .iface _ d => uptoBulk d + 1
  | .map entries => uptoBulkEntries entries + 1
  | .held _ => 1
def uptoBulkAll {H : Type} : List (DataW H) → Nat
  | [] => 0
  | d :: r => uptoBulk d + uptoBulkAll r
def uptoBulkEntries {H : Type} : List (Lit × DataW H) → Nat
  | [] => 0
  | x :: r => uptoBulkEntry x + uptoBulkEntries r
def uptoBulkEntry {H : Type} : Lit × DataW H → Nat
  | (.string bytes, d) => bytes.length + uptoBulk d + 1
  | (_, d) => uptoBulk d + 1
 end
def uptoSmall : (H : Type) → List (DataW H) → Bool := fun _ ds => decide (uptoBulkAll ds ≤ 1048576)
def OpenSpec.upto (s : _root_.Go.ChangeSpec) : _root_.Go.OpenSpec := { _root_.Go.OpenSpec.ofChange s with cond := some uptoSmall }

/-- 'virgulelaw11.SqueezeGroups', WHERE WHAT IT READS IS OF BULK AT MOST 1048576: true; the input reads as it did. -/
def squeezeGroupsUptoRow : OpenClaim := { program := "ytmdkmobcglnmgaa", sum := "6f3bfdd21aadf591cf8de672ba565c090166a7178a837baa4b3382899a5b8874", func := "virgule/virgulelaw11.SqueezeGroups", spec := "squeezeGroups", unfollowed := true, recurses := true, plainKeys := false, apart := false, narrowed := true }
def SqueezeGroupsUptoSaid : Prop := squeezeGroupsUptoRow.holds Try.pinned (OpenSpec.upto squeezeGroupsSpec)

/-- 'virgulelaw11.SqueezeMakes', WHERE WHAT IT READS IS OF BULK AT MOST 1048576: true; the input reads as it did. -/
def squeezeMakesUptoRow : OpenClaim := { program := "ytmdkmobcglnmgaa", sum := "6f3bfdd21aadf591cf8de672ba565c090166a7178a837baa4b3382899a5b8874", func := "virgule/virgulelaw11.SqueezeMakes", spec := "squeezeMakes", unfollowed := true, recurses := true, plainKeys := false, apart := false, narrowed := true }
def SqueezeMakesUptoSaid : Prop := squeezeMakesUptoRow.holds Try.pinned (OpenSpec.upto squeezeMakesSpec)

/-- 'virgulelaw11.SqueezeOwn', WHERE WHAT IT READS IS OF BULK AT MOST 1048576: true; the input reads as it did. -/
def squeezeOwnUptoRow : OpenClaim := { program := "ytmdkmobcglnmgaa", sum := "6f3bfdd21aadf591cf8de672ba565c090166a7178a837baa4b3382899a5b8874", func := "virgule/virgulelaw11.SqueezeOwn", spec := "squeezeOwn", unfollowed := true, recurses := true, plainKeys := false, apart := false, narrowed := true }
def SqueezeOwnUptoSaid : Prop := squeezeOwnUptoRow.holds Try.pinned (OpenSpec.upto squeezeOwnSpec)

/-- 'virgulelaw11.SqueezeWide', WHERE WHAT IT READS IS OF BULK AT MOST 1048576: true; the input reads as it did. -/
def squeezeWideUptoRow : OpenClaim := { program := "ytmdkmobcglnmgaa", sum := "6f3bfdd21aadf591cf8de672ba565c090166a7178a837baa4b3382899a5b8874", func := "virgule/virgulelaw11.SqueezeWide", spec := "squeezeWide", unfollowed := true, recurses := true, plainKeys := false, apart := false, narrowed := true }
def SqueezeWideUptoSaid : Prop := squeezeWideUptoRow.holds Try.pinned (OpenSpec.upto squeezeWideSpec)

/-- 'virgulelaw10.LeastOf', WHERE WHAT IT READS IS OF BULK AT MOST 1048576: true; the input reads as it did. -/
def leastOfUptoRow : OpenClaim := { program := "ytmdkmobcglnmgaa", sum := "6f3bfdd21aadf591cf8de672ba565c090166a7178a837baa4b3382899a5b8874", func := "virgule/virgulelaw10.LeastOf", spec := "leastOf", unfollowed := true, recurses := true, plainKeys := false, apart := false, narrowed := true }
def LeastOfUptoSaid : Prop := leastOfUptoRow.holds Try.pinned (OpenSpec.upto leastOfSpec)

/-- 'virgulelaw10.LeastRuns', WHERE WHAT IT READS IS OF BULK AT MOST 1048576: true; the input reads as it did. -/
def leastRunsUptoRow : OpenClaim := { program := "ytmdkmobcglnmgaa", sum := "6f3bfdd21aadf591cf8de672ba565c090166a7178a837baa4b3382899a5b8874", func := "virgule/virgulelaw10.LeastRuns", spec := "leastRuns", unfollowed := true, recurses := true, plainKeys := false, apart := false, narrowed := true }
def LeastRunsUptoSaid : Prop := leastRunsUptoRow.holds Try.pinned (OpenSpec.upto leastRunsSpec)

/-- 'virgulelaw10.LeastApart', WHERE WHAT IT READS IS OF BULK AT MOST 1048576: true; the input reads as it did. -/
def leastApartUptoRow : OpenClaim := { program := "ytmdkmobcglnmgaa", sum := "6f3bfdd21aadf591cf8de672ba565c090166a7178a837baa4b3382899a5b8874", func := "virgule/virgulelaw10.LeastApart", spec := "leastApart", unfollowed := true, recurses := true, plainKeys := false, apart := false, narrowed := true }
def LeastApartUptoSaid : Prop := leastApartUptoRow.holds Try.pinned (OpenSpec.upto leastApartSpec)

/-- 'virgulelaw11.SqueezeBack', WHERE WHAT IT READS IS OF BULK AT MOST 1048576: true; the input reads as it did. -/
def squeezeBackUptoRow : OpenClaim := { program := "ytmdkmobcglnmgaa", sum := "6f3bfdd21aadf591cf8de672ba565c090166a7178a837baa4b3382899a5b8874", func := "virgule/virgulelaw11.SqueezeBack", spec := "squeezeBack", unfollowed := true, recurses := true, plainKeys := false, apart := false, narrowed := true }
def SqueezeBackUptoSaid : Prop := squeezeBackUptoRow.holds Try.pinned (OpenSpec.upto squeezeBackSpec)

/-- 'virgulelaw10.LeastAlike', WHERE WHAT IT READS IS OF BULK AT MOST 1048576: true; the input reads as it did. -/
def leastAlikeUptoRow : OpenClaim := { program := "ytmdkmobcglnmgaa", sum := "6f3bfdd21aadf591cf8de672ba565c090166a7178a837baa4b3382899a5b8874", func := "virgule/virgulelaw10.LeastAlike", spec := "leastAlike", unfollowed := true, recurses := true, plainKeys := false, apart := false, narrowed := true }
def LeastAlikeUptoSaid : Prop := leastAlikeUptoRow.holds Try.pinned (OpenSpec.upto leastAlikeSpec)

/-- 'virgulelaw10.LeastSame', WHERE WHAT IT READS IS OF BULK AT MOST 1048576: true; the input reads as it did. -/
def leastSameUptoRow : OpenClaim := { program := "ytmdkmobcglnmgaa", sum := "6f3bfdd21aadf591cf8de672ba565c090166a7178a837baa4b3382899a5b8874", func := "virgule/virgulelaw10.LeastSame", spec := "leastSame", unfollowed := true, recurses := true, plainKeys := false, apart := false, narrowed := true }
def LeastSameUptoSaid : Prop := leastSameUptoRow.holds Try.pinned (OpenSpec.upto leastSameSpec)

end Rows
end Go.Proofs.Ytmdkmobcglnmgaa
