/-
  NARROWER THAN 'FOR EVERY INPUT', by the rows' own cells (each row's printed sentence says how): NfaSteps: loops · NfaTells: loops · NfaUnions: loops · NfaBeside: loops · DfaMakes: loops · DfaRuns: loops.
  DERIVED. THE GIVEN ROWS OF THIS SEAT. 10 by the template 'for every input the law returns true; each argument reads behind the call as it read before'; 0 by the template 'total and deterministic' (their statements: YthdhbkngbmjjkaaTotals.lean).
  GIVEN WITH THE SEED: the statements are not yours to turn. If you find one false, say at which input.
  Laid BY PROGRAM, IN A SANDBOX (cutbox-rows.mjs): the forced cells as the released guide's own fill.sh prints them over the translation 78d962f120f86c16… (all of the seat's roots in one cut). By AI agents, Wed Nov 11 2026. No macro, syntax, notation, axiom, sorry.
-/
import Derived.Test.YthdhbkngbmjjkaaChecked
import GoSem.Claim
import GoSem.ClaimJoined
import GoSem.ClaimMapViews
import Derived.JoinedTies
import Derived.KernelRfl
namespace Go.Proofs.Ythdhbkngbmjjkaa
/- THE CELL 'sum', in the pinned program and in every row, IS THE sha256 OF THE DUMP (.gsa) THAT YthdhbkngbmjjkaaProg.lean LOADS. Nothing in Lean hashes anything: it is a label: what it is worth is what the hold of that sum in a sandbox is worth. -/
noncomputable def Try.pinned : Pinned := { name := "ythdhbkngbmjjkaa", sum := "78d962f120f86c1641d44da2a27397813f8e4b6e364f3f05e889bdc1deb1f365", checked := Try.checked }
namespace Rows
def none {H : Type} : Left H := { results := [], args := [] }

/-- 'virgulelaw08.NfaSteps': WHATEVER THE INPUT: true; the input reads as it did. -/
def nfaStepsSpec : ChangeSpec := { name := "nfaSteps", fn := fun _ => fun
  | [d1, d2, d3] => { results := [.lit (.bool true)], args := [d1, d2, d3] }
  | _ => none }
def nfaStepsRow : OpenClaim := { program := "ythdhbkngbmjjkaa", sum := "78d962f120f86c1641d44da2a27397813f8e4b6e364f3f05e889bdc1deb1f365", func := "virgule/virgulelaw08.NfaSteps", spec := "nfaSteps", unfollowed := true, recurses := true, loops := true, apart := false }
def NfaStepsSaid : Prop := nfaStepsRow.holds Try.pinned (OpenSpec.ofChange nfaStepsSpec)

/-- ITS FALSE NEIGHBOUR: 'it returns false'. Refute it at one input. -/
def nfaStepsWrong : ChangeSpec := { name := "nfaSteps", fn := fun _ => fun
  | [d1, d2, d3] => { results := [.lit (.bool false)], args := [d1, d2, d3] }
  | _ => none }
def NfaStepsWrongFalsely : Prop := nfaStepsRow.holds Try.pinned (OpenSpec.ofChange nfaStepsWrong)

/-- 'virgulelaw08.NfaTells': WHATEVER THE INPUT: true; the input reads as it did. -/
def nfaTellsSpec : ChangeSpec := { name := "nfaTells", fn := fun _ => fun
  | [d1, d2, d3] => { results := [.lit (.bool true)], args := [d1, d2, d3] }
  | _ => none }
def nfaTellsRow : OpenClaim := { program := "ythdhbkngbmjjkaa", sum := "78d962f120f86c1641d44da2a27397813f8e4b6e364f3f05e889bdc1deb1f365", func := "virgule/virgulelaw08.NfaTells", spec := "nfaTells", unfollowed := true, recurses := true, loops := true, apart := false }
def NfaTellsSaid : Prop := nfaTellsRow.holds Try.pinned (OpenSpec.ofChange nfaTellsSpec)

/-- ITS FALSE NEIGHBOUR: 'it returns false'. Refute it at one input. -/
def nfaTellsWrong : ChangeSpec := { name := "nfaTells", fn := fun _ => fun
  | [d1, d2, d3] => { results := [.lit (.bool false)], args := [d1, d2, d3] }
  | _ => none }
def NfaTellsWrongFalsely : Prop := nfaTellsRow.holds Try.pinned (OpenSpec.ofChange nfaTellsWrong)

/-- 'virgulelaw08.NfaUnions': WHATEVER THE INPUT: true; the input reads as it did. -/
def nfaUnionsSpec : ChangeSpec := { name := "nfaUnions", fn := fun _ => fun
  | [d1, d2, d3, d4, d5] => { results := [.lit (.bool true)], args := [d1, d2, d3, d4, d5] }
  | _ => none }
def nfaUnionsRow : OpenClaim := { program := "ythdhbkngbmjjkaa", sum := "78d962f120f86c1641d44da2a27397813f8e4b6e364f3f05e889bdc1deb1f365", func := "virgule/virgulelaw08.NfaUnions", spec := "nfaUnions", unfollowed := true, recurses := true, loops := true, apart := false }
def NfaUnionsSaid : Prop := nfaUnionsRow.holds Try.pinned (OpenSpec.ofChange nfaUnionsSpec)

/-- ITS FALSE NEIGHBOUR: 'it returns false'. Refute it at one input. -/
def nfaUnionsWrong : ChangeSpec := { name := "nfaUnions", fn := fun _ => fun
  | [d1, d2, d3, d4, d5] => { results := [.lit (.bool false)], args := [d1, d2, d3, d4, d5] }
  | _ => none }
def NfaUnionsWrongFalsely : Prop := nfaUnionsRow.holds Try.pinned (OpenSpec.ofChange nfaUnionsWrong)

/-- 'virgulelaw08.NfaCounts': WHATEVER THE INPUT: true; the input reads as it did. -/
def nfaCountsSpec : ChangeSpec := { name := "nfaCounts", fn := fun _ => fun
  | [d1, d2] => { results := [.lit (.bool true)], args := [d1, d2] }
  | _ => none }
def nfaCountsRow : OpenClaim := { program := "ythdhbkngbmjjkaa", sum := "78d962f120f86c1641d44da2a27397813f8e4b6e364f3f05e889bdc1deb1f365", func := "virgule/virgulelaw08.NfaCounts", spec := "nfaCounts", unfollowed := true, recurses := true, apart := false }
def NfaCountsSaid : Prop := nfaCountsRow.holds Try.pinned (OpenSpec.ofChange nfaCountsSpec)

/-- ITS FALSE NEIGHBOUR: 'it returns false'. Refute it at one input. -/
def nfaCountsWrong : ChangeSpec := { name := "nfaCounts", fn := fun _ => fun
  | [d1, d2] => { results := [.lit (.bool false)], args := [d1, d2] }
  | _ => none }
def NfaCountsWrongFalsely : Prop := nfaCountsRow.holds Try.pinned (OpenSpec.ofChange nfaCountsWrong)

/-- 'virgulelaw08.NfaBeside': WHATEVER THE INPUT: true; the input reads as it did. -/
def nfaBesideSpec : ChangeSpec := { name := "nfaBeside", fn := fun _ => fun
  | [d1, d2, d3, d4] => { results := [.lit (.bool true)], args := [d1, d2, d3, d4] }
  | _ => none }
def nfaBesideRow : OpenClaim := { program := "ythdhbkngbmjjkaa", sum := "78d962f120f86c1641d44da2a27397813f8e4b6e364f3f05e889bdc1deb1f365", func := "virgule/virgulelaw08.NfaBeside", spec := "nfaBeside", unfollowed := true, recurses := true, loops := true, apart := false }
def NfaBesideSaid : Prop := nfaBesideRow.holds Try.pinned (OpenSpec.ofChange nfaBesideSpec)

/-- ITS FALSE NEIGHBOUR: 'it returns false'. Refute it at one input. -/
def nfaBesideWrong : ChangeSpec := { name := "nfaBeside", fn := fun _ => fun
  | [d1, d2, d3, d4] => { results := [.lit (.bool false)], args := [d1, d2, d3, d4] }
  | _ => none }
def NfaBesideWrongFalsely : Prop := nfaBesideRow.holds Try.pinned (OpenSpec.ofChange nfaBesideWrong)

/-- 'virgulelaw09.DfaMakes': WHATEVER THE INPUT: true; the input reads as it did. -/
def dfaMakesSpec : ChangeSpec := { name := "dfaMakes", fn := fun _ => fun
  | [d1, d2] => { results := [.lit (.bool true)], args := [d1, d2] }
  | _ => none }
def dfaMakesRow : OpenClaim := { program := "ythdhbkngbmjjkaa", sum := "78d962f120f86c1641d44da2a27397813f8e4b6e364f3f05e889bdc1deb1f365", func := "virgule/virgulelaw09.DfaMakes", spec := "dfaMakes", unfollowed := true, recurses := true, loops := true, apart := false }
def DfaMakesSaid : Prop := dfaMakesRow.holds Try.pinned (OpenSpec.ofChange dfaMakesSpec)

/-- ITS FALSE NEIGHBOUR: 'it returns false'. Refute it at one input. -/
def dfaMakesWrong : ChangeSpec := { name := "dfaMakes", fn := fun _ => fun
  | [d1, d2] => { results := [.lit (.bool false)], args := [d1, d2] }
  | _ => none }
def DfaMakesWrongFalsely : Prop := dfaMakesRow.holds Try.pinned (OpenSpec.ofChange dfaMakesWrong)

/-- 'virgulelaw09.DfaMany': WHATEVER THE INPUT: true; the input reads as it did. -/
def dfaManySpec : ChangeSpec := { name := "dfaMany", fn := fun _ => fun
  | [d] => { results := [.lit (.bool true)], args := [d] }
  | _ => none }
def dfaManyRow : OpenClaim := { program := "ythdhbkngbmjjkaa", sum := "78d962f120f86c1641d44da2a27397813f8e4b6e364f3f05e889bdc1deb1f365", func := "virgule/virgulelaw09.DfaMany", spec := "dfaMany", unfollowed := true, recurses := true, apart := false }
def DfaManySaid : Prop := dfaManyRow.holds Try.pinned (OpenSpec.ofChange dfaManySpec)

/-- ITS FALSE NEIGHBOUR: 'it returns false'. Refute it at one input. -/
def dfaManyWrong : ChangeSpec := { name := "dfaMany", fn := fun _ => fun
  | [d] => { results := [.lit (.bool false)], args := [d] }
  | _ => none }
def DfaManyWrongFalsely : Prop := dfaManyRow.holds Try.pinned (OpenSpec.ofChange dfaManyWrong)

/-- 'virgulelaw09.DfaRuns': WHATEVER THE INPUT: true; the input reads as it did. -/
def dfaRunsSpec : ChangeSpec := { name := "dfaRuns", fn := fun _ => fun
  | [d1, d2, d3] => { results := [.lit (.bool true)], args := [d1, d2, d3] }
  | _ => none }
def dfaRunsRow : OpenClaim := { program := "ythdhbkngbmjjkaa", sum := "78d962f120f86c1641d44da2a27397813f8e4b6e364f3f05e889bdc1deb1f365", func := "virgule/virgulelaw09.DfaRuns", spec := "dfaRuns", unfollowed := true, recurses := true, loops := true, apart := false }
def DfaRunsSaid : Prop := dfaRunsRow.holds Try.pinned (OpenSpec.ofChange dfaRunsSpec)

/-- ITS FALSE NEIGHBOUR: 'it returns false'. Refute it at one input. -/
def dfaRunsWrong : ChangeSpec := { name := "dfaRuns", fn := fun _ => fun
  | [d1, d2, d3] => { results := [.lit (.bool false)], args := [d1, d2, d3] }
  | _ => none }
def DfaRunsWrongFalsely : Prop := dfaRunsRow.holds Try.pinned (OpenSpec.ofChange dfaRunsWrong)

/-- 'virgulelaw09.DfaRights': WHATEVER THE INPUT: true; the input reads as it did. -/
def dfaRightsSpec : ChangeSpec := { name := "dfaRights", fn := fun _ => fun
  | [d1, d2, d3] => { results := [.lit (.bool true)], args := [d1, d2, d3] }
  | _ => none }
def dfaRightsRow : OpenClaim := { program := "ythdhbkngbmjjkaa", sum := "78d962f120f86c1641d44da2a27397813f8e4b6e364f3f05e889bdc1deb1f365", func := "virgule/virgulelaw09.DfaRights", spec := "dfaRights", unfollowed := true, recurses := true, apart := false }
def DfaRightsSaid : Prop := dfaRightsRow.holds Try.pinned (OpenSpec.ofChange dfaRightsSpec)

/-- ITS FALSE NEIGHBOUR: 'it returns false'. Refute it at one input. -/
def dfaRightsWrong : ChangeSpec := { name := "dfaRights", fn := fun _ => fun
  | [d1, d2, d3] => { results := [.lit (.bool false)], args := [d1, d2, d3] }
  | _ => none }
def DfaRightsWrongFalsely : Prop := dfaRightsRow.holds Try.pinned (OpenSpec.ofChange dfaRightsWrong)

/-- 'virgulelaw09.DfaSame': WHATEVER THE INPUT: true; the input reads as it did. -/
def dfaSameSpec : ChangeSpec := { name := "dfaSame", fn := fun _ => fun
  | [d1, d2] => { results := [.lit (.bool true)], args := [d1, d2] }
  | _ => none }
def dfaSameRow : OpenClaim := { program := "ythdhbkngbmjjkaa", sum := "78d962f120f86c1641d44da2a27397813f8e4b6e364f3f05e889bdc1deb1f365", func := "virgule/virgulelaw09.DfaSame", spec := "dfaSame", unfollowed := true, recurses := true, apart := false }
def DfaSameSaid : Prop := dfaSameRow.holds Try.pinned (OpenSpec.ofChange dfaSameSpec)

/-- ITS FALSE NEIGHBOUR: 'it returns false'. Refute it at one input. -/
def dfaSameWrong : ChangeSpec := { name := "dfaSame", fn := fun _ => fun
  | [d1, d2] => { results := [.lit (.bool false)], args := [d1, d2] }
  | _ => none }
def DfaSameWrongFalsely : Prop := dfaSameRow.holds Try.pinned (OpenSpec.ofChange dfaSameWrong)

/- THE SECOND FORM. 'bulk': how many values and letters a reading holds, each counted each time it is reached (what is shared counts as often as it is met; a slice's spare places count too). A statement '..UptoSaid' is the law's where the arguments, and the package variables that the reading takes, are together of bulk at most 1048576: NARROWER than '..Said'. Prove '..Said' where nothing that the law and all that it calls make is longer than what came in: it says more and counts as full. Else prove '..UptoSaid'. A law counts once. -/
mutual
def uptoBulk {H : Type} : DataW H → Nat
  | .lit (.string bytes) => bytes.length + 1
  | .lit _ => 1
  | .nil => 1
  | .ptr d => uptoBulk d + 1
  | .slice elems spare => uptoBulkAll elems + uptoBulkAll spare + 1
  | .agg parts => uptoBulkAll parts + 1
  | .iface _ d => uptoBulk d + 1
  | .map entries => uptoBulkEntries entries + 1
  | .held _ => 1
def uptoBulkAll {H : Type} : List (DataW H) → Nat
  | [] => 0
  | d :: r => uptoBulk d + uptoBulkAll r
def uptoBulkEntries {H : Type} : List (Lit × DataW H) → Nat
  | [] => 0
  | x :: r => uptoBulkEntry x + uptoBulkEntries r
def uptoBulkEntry {H : Type} : Lit × DataW H → Nat
  | (.string bytes, d) => bytes.length + uptoBulk d + 1
  | (_, d) => uptoBulk d + 1
 end
def uptoSmall : (H : Type) → List (DataW H) → Bool := fun _ ds => decide (uptoBulkAll ds ≤ 1048576)
def OpenSpec.upto (s : _root_.Go.ChangeSpec) : _root_.Go.OpenSpec := { _root_.Go.OpenSpec.ofChange s with cond := some uptoSmall }

/-- 'virgulelaw08.NfaSteps', WHERE WHAT IT READS IS OF BULK AT MOST 1048576: true; the input reads as it did. -/
def nfaStepsUptoRow : OpenClaim := { program := "ythdhbkngbmjjkaa", sum := "78d962f120f86c1641d44da2a27397813f8e4b6e364f3f05e889bdc1deb1f365", func := "virgule/virgulelaw08.NfaSteps", spec := "nfaSteps", unfollowed := true, recurses := true, loops := true, apart := false, narrowed := true }
def NfaStepsUptoSaid : Prop := nfaStepsUptoRow.holds Try.pinned (OpenSpec.upto nfaStepsSpec)

/-- 'virgulelaw08.NfaTells', WHERE WHAT IT READS IS OF BULK AT MOST 1048576: true; the input reads as it did. -/
def nfaTellsUptoRow : OpenClaim := { program := "ythdhbkngbmjjkaa", sum := "78d962f120f86c1641d44da2a27397813f8e4b6e364f3f05e889bdc1deb1f365", func := "virgule/virgulelaw08.NfaTells", spec := "nfaTells", unfollowed := true, recurses := true, loops := true, apart := false, narrowed := true }
def NfaTellsUptoSaid : Prop := nfaTellsUptoRow.holds Try.pinned (OpenSpec.upto nfaTellsSpec)

/-- 'virgulelaw08.NfaUnions', WHERE WHAT IT READS IS OF BULK AT MOST 1048576: true; the input reads as it did. -/
def nfaUnionsUptoRow : OpenClaim := { program := "ythdhbkngbmjjkaa", sum := "78d962f120f86c1641d44da2a27397813f8e4b6e364f3f05e889bdc1deb1f365", func := "virgule/virgulelaw08.NfaUnions", spec := "nfaUnions", unfollowed := true, recurses := true, loops := true, apart := false, narrowed := true }
def NfaUnionsUptoSaid : Prop := nfaUnionsUptoRow.holds Try.pinned (OpenSpec.upto nfaUnionsSpec)

/-- 'virgulelaw08.NfaCounts', WHERE WHAT IT READS IS OF BULK AT MOST 1048576: true; the input reads as it did. -/
def nfaCountsUptoRow : OpenClaim := { program := "ythdhbkngbmjjkaa", sum := "78d962f120f86c1641d44da2a27397813f8e4b6e364f3f05e889bdc1deb1f365", func := "virgule/virgulelaw08.NfaCounts", spec := "nfaCounts", unfollowed := true, recurses := true, apart := false, narrowed := true }
def NfaCountsUptoSaid : Prop := nfaCountsUptoRow.holds Try.pinned (OpenSpec.upto nfaCountsSpec)

/-- 'virgulelaw08.NfaBeside', WHERE WHAT IT READS IS OF BULK AT MOST 1048576: true; the input reads as it did. -/
def nfaBesideUptoRow : OpenClaim := { program := "ythdhbkngbmjjkaa", sum := "78d962f120f86c1641d44da2a27397813f8e4b6e364f3f05e889bdc1deb1f365", func := "virgule/virgulelaw08.NfaBeside", spec := "nfaBeside", unfollowed := true, recurses := true, loops := true, apart := false, narrowed := true }
def NfaBesideUptoSaid : Prop := nfaBesideUptoRow.holds Try.pinned (OpenSpec.upto nfaBesideSpec)

/-- 'virgulelaw09.DfaMakes', WHERE WHAT IT READS IS OF BULK AT MOST 1048576: true; the input reads as it did. -/
def dfaMakesUptoRow : OpenClaim := { program := "ythdhbkngbmjjkaa", sum := "78d962f120f86c1641d44da2a27397813f8e4b6e364f3f05e889bdc1deb1f365", func := "virgule/virgulelaw09.DfaMakes", spec := "dfaMakes", unfollowed := true, recurses := true, loops := true, apart := false, narrowed := true }
def DfaMakesUptoSaid : Prop := dfaMakesUptoRow.holds Try.pinned (OpenSpec.upto dfaMakesSpec)

/-- 'virgulelaw09.DfaMany', WHERE WHAT IT READS IS OF BULK AT MOST 1048576: true; the input reads as it did. -/
def dfaManyUptoRow : OpenClaim := { program := "ythdhbkngbmjjkaa", sum := "78d962f120f86c1641d44da2a27397813f8e4b6e364f3f05e889bdc1deb1f365", func := "virgule/virgulelaw09.DfaMany", spec := "dfaMany", unfollowed := true, recurses := true, apart := false, narrowed := true }
def DfaManyUptoSaid : Prop := dfaManyUptoRow.holds Try.pinned (OpenSpec.upto dfaManySpec)

/-- 'virgulelaw09.DfaRuns', WHERE WHAT IT READS IS OF BULK AT MOST 1048576: true; the input reads as it did. -/
def dfaRunsUptoRow : OpenClaim := { program := "ythdhbkngbmjjkaa", sum := "78d962f120f86c1641d44da2a27397813f8e4b6e364f3f05e889bdc1deb1f365", func := "virgule/virgulelaw09.DfaRuns", spec := "dfaRuns", unfollowed := true, recurses := true, loops := true, apart := false, narrowed := true }
def DfaRunsUptoSaid : Prop := dfaRunsUptoRow.holds Try.pinned (OpenSpec.upto dfaRunsSpec)

/-- 'virgulelaw09.DfaRights', WHERE WHAT IT READS IS OF BULK AT MOST 1048576: true; the input reads as it did. -/
def dfaRightsUptoRow : OpenClaim := { program := "ythdhbkngbmjjkaa", sum := "78d962f120f86c1641d44da2a27397813f8e4b6e364f3f05e889bdc1deb1f365", func := "virgule/virgulelaw09.DfaRights", spec := "dfaRights", unfollowed := true, recurses := true, apart := false, narrowed := true }
def DfaRightsUptoSaid : Prop := dfaRightsUptoRow.holds Try.pinned (OpenSpec.upto dfaRightsSpec)

/-- 'virgulelaw09.DfaSame', WHERE WHAT IT READS IS OF BULK AT MOST 1048576: true; the input reads as it did. -/
def dfaSameUptoRow : OpenClaim := { program := "ythdhbkngbmjjkaa", sum := "78d962f120f86c1641d44da2a27397813f8e4b6e364f3f05e889bdc1deb1f365", func := "virgule/virgulelaw09.DfaSame", spec := "dfaSame", unfollowed := true, recurses := true, apart := false, narrowed := true }
def DfaSameUptoSaid : Prop := dfaSameUptoRow.holds Try.pinned (OpenSpec.upto dfaSameSpec)

end Rows
end Go.Proofs.Ythdhbkngbmjjkaa
