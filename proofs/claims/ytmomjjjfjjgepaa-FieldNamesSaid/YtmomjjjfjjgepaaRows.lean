/-
  No cell of these rows narrows 'for every input' (looked for: loops, veiled, ifaces, maps, wideKeys, modest, calm, conditions, laid).
  DERIVED. THE GIVEN ROWS OF THIS SEAT. 7 by the template 'for every input the law returns true; each argument reads behind the call as it read before'; 0 by the template 'total and deterministic' (their statements: YtmomjjjfjjgepaaTotals.lean).
  GIVEN WITH THE SEED: the statements are not yours to turn. If you find one false, say at which input.
  Laid BY PROGRAM, IN A SANDBOX (cutbox-rows.mjs): the forced cells as the released guide's own fill.sh prints them over the translation 41820301fbb3df0f… (all of the seat's roots in one cut). By AI agents, Wed Nov 11 2026. No macro, syntax, notation, axiom, sorry.
-/
import Derived.Test.YtmomjjjfjjgepaaChecked
import GoSem.Claim
import GoSem.ClaimJoined
import GoSem.ClaimMapViews
import Derived.JoinedTies
import Derived.KernelRfl
namespace Go.Proofs.Ytmomjjjfjjgepaa
/- THE CELL 'sum', in the pinned program and in every row, IS THE sha256 OF THE DUMP (.gsa) THAT YtmomjjjfjjgepaaProg.lean LOADS. Nothing in Lean hashes anything: it is a label: what it is worth is what the hold of that sum in a sandbox is worth. -/
noncomputable def Try.pinned : Pinned := { name := "ytmomjjjfjjgepaa", sum := "41820301fbb3df0fbc838dea3e760be44856a7dfbd54332182b47ba20f0dc9f0", checked := Try.checked }
namespace Rows
def none {H : Type} : Left H := { results := [], args := [] }

/-- 'gambrellaw33.FieldTraces': WHATEVER THE INPUT: true; the input reads as it did. -/
def fieldTracesSpec : ChangeSpec := { name := "fieldTraces", fn := fun _ => fun
  | [d1, d2, d3, d4] => { results := [.lit (.bool true)], args := [d1, d2, d3, d4] }
  | _ => none }
def fieldTracesRow : OpenClaim := { program := "ytmomjjjfjjgepaa", sum := "41820301fbb3df0fbc838dea3e760be44856a7dfbd54332182b47ba20f0dc9f0", func := "gambrel/gambrellaw33.FieldTraces", spec := "fieldTraces", unfollowed := true, recurses := true, apart := false }
def FieldTracesSaid : Prop := fieldTracesRow.holds Try.pinned (OpenSpec.ofChange fieldTracesSpec)

/-- ITS FALSE NEIGHBOUR: 'it returns false'. Refute it at one input. -/
def fieldTracesWrong : ChangeSpec := { name := "fieldTraces", fn := fun _ => fun
  | [d1, d2, d3, d4] => { results := [.lit (.bool false)], args := [d1, d2, d3, d4] }
  | _ => none }
def FieldTracesWrongFalsely : Prop := fieldTracesRow.holds Try.pinned (OpenSpec.ofChange fieldTracesWrong)

/-- 'gambrellaw33.FieldValues': WHATEVER THE INPUT: true; the input reads as it did. -/
def fieldValuesSpec : ChangeSpec := { name := "fieldValues", fn := fun _ => fun
  | [d1, d2] => { results := [.lit (.bool true)], args := [d1, d2] }
  | _ => none }
def fieldValuesRow : OpenClaim := { program := "ytmomjjjfjjgepaa", sum := "41820301fbb3df0fbc838dea3e760be44856a7dfbd54332182b47ba20f0dc9f0", func := "gambrel/gambrellaw33.FieldValues", spec := "fieldValues", unfollowed := true, recurses := true, apart := false }
def FieldValuesSaid : Prop := fieldValuesRow.holds Try.pinned (OpenSpec.ofChange fieldValuesSpec)

/-- ITS FALSE NEIGHBOUR: 'it returns false'. Refute it at one input. -/
def fieldValuesWrong : ChangeSpec := { name := "fieldValues", fn := fun _ => fun
  | [d1, d2] => { results := [.lit (.bool false)], args := [d1, d2] }
  | _ => none }
def FieldValuesWrongFalsely : Prop := fieldValuesRow.holds Try.pinned (OpenSpec.ofChange fieldValuesWrong)

/-- 'gambrellaw33.FieldSums': WHATEVER THE INPUT: true; the input reads as it did. -/
def fieldSumsSpec : ChangeSpec := { name := "fieldSums", fn := fun _ => fun
  | [d1, d2, d3] => { results := [.lit (.bool true)], args := [d1, d2, d3] }
  | _ => none }
def fieldSumsRow : OpenClaim := { program := "ytmomjjjfjjgepaa", sum := "41820301fbb3df0fbc838dea3e760be44856a7dfbd54332182b47ba20f0dc9f0", func := "gambrel/gambrellaw33.FieldSums", spec := "fieldSums", unfollowed := true, recurses := true, apart := false }
def FieldSumsSaid : Prop := fieldSumsRow.holds Try.pinned (OpenSpec.ofChange fieldSumsSpec)

/-- ITS FALSE NEIGHBOUR: 'it returns false'. Refute it at one input. -/
def fieldSumsWrong : ChangeSpec := { name := "fieldSums", fn := fun _ => fun
  | [d1, d2, d3] => { results := [.lit (.bool false)], args := [d1, d2, d3] }
  | _ => none }
def FieldSumsWrongFalsely : Prop := fieldSumsRow.holds Try.pinned (OpenSpec.ofChange fieldSumsWrong)

/-- 'gambrellaw33.FieldSteps': WHATEVER THE INPUT: true; the input reads as it did. -/
def fieldStepsSpec : ChangeSpec := { name := "fieldSteps", fn := fun _ => fun
  | [d1, d2, d3, d4] => { results := [.lit (.bool true)], args := [d1, d2, d3, d4] }
  | _ => none }
def fieldStepsRow : OpenClaim := { program := "ytmomjjjfjjgepaa", sum := "41820301fbb3df0fbc838dea3e760be44856a7dfbd54332182b47ba20f0dc9f0", func := "gambrel/gambrellaw33.FieldSteps", spec := "fieldSteps", unfollowed := true, recurses := true, apart := false }
def FieldStepsSaid : Prop := fieldStepsRow.holds Try.pinned (OpenSpec.ofChange fieldStepsSpec)

/-- ITS FALSE NEIGHBOUR: 'it returns false'. Refute it at one input. -/
def fieldStepsWrong : ChangeSpec := { name := "fieldSteps", fn := fun _ => fun
  | [d1, d2, d3, d4] => { results := [.lit (.bool false)], args := [d1, d2, d3, d4] }
  | _ => none }
def FieldStepsWrongFalsely : Prop := fieldStepsRow.holds Try.pinned (OpenSpec.ofChange fieldStepsWrong)

/-- 'gambrellaw33.FieldReaches': WHATEVER THE INPUT: true; the input reads as it did. -/
def fieldReachesSpec : ChangeSpec := { name := "fieldReaches", fn := fun _ => fun
  | [d1, d2, d3] => { results := [.lit (.bool true)], args := [d1, d2, d3] }
  | _ => none }
def fieldReachesRow : OpenClaim := { program := "ytmomjjjfjjgepaa", sum := "41820301fbb3df0fbc838dea3e760be44856a7dfbd54332182b47ba20f0dc9f0", func := "gambrel/gambrellaw33.FieldReaches", spec := "fieldReaches", unfollowed := true, recurses := true, apart := false }
def FieldReachesSaid : Prop := fieldReachesRow.holds Try.pinned (OpenSpec.ofChange fieldReachesSpec)

/-- ITS FALSE NEIGHBOUR: 'it returns false'. Refute it at one input. -/
def fieldReachesWrong : ChangeSpec := { name := "fieldReaches", fn := fun _ => fun
  | [d1, d2, d3] => { results := [.lit (.bool false)], args := [d1, d2, d3] }
  | _ => none }
def FieldReachesWrongFalsely : Prop := fieldReachesRow.holds Try.pinned (OpenSpec.ofChange fieldReachesWrong)

/-- 'gambrellaw33.FieldNames': WHATEVER THE INPUT: true; the input reads as it did. -/
def fieldNamesSpec : ChangeSpec := { name := "fieldNames", fn := fun _ => fun
  | [] => { results := [.lit (.bool true)], args := [] }
  | _ => none }
def fieldNamesRow : OpenClaim := { program := "ytmomjjjfjjgepaa", sum := "41820301fbb3df0fbc838dea3e760be44856a7dfbd54332182b47ba20f0dc9f0", func := "gambrel/gambrellaw33.FieldNames", spec := "fieldNames", unfollowed := true, recurses := true, apart := false }
def FieldNamesSaid : Prop := fieldNamesRow.holds Try.pinned (OpenSpec.ofChange fieldNamesSpec)

/-- ITS FALSE NEIGHBOUR: 'it returns false'. Refute it at one input. -/
def fieldNamesWrong : ChangeSpec := { name := "fieldNames", fn := fun _ => fun
  | [] => { results := [.lit (.bool false)], args := [] }
  | _ => none }
def FieldNamesWrongFalsely : Prop := fieldNamesRow.holds Try.pinned (OpenSpec.ofChange fieldNamesWrong)

/-- 'gambrellaw33.FieldTurns': WHATEVER THE INPUT: true; the input reads as it did. -/
def fieldTurnsSpec : ChangeSpec := { name := "fieldTurns", fn := fun _ => fun
  | [d1, d2, d3, d4] => { results := [.lit (.bool true)], args := [d1, d2, d3, d4] }
  | _ => none }
def fieldTurnsRow : OpenClaim := { program := "ytmomjjjfjjgepaa", sum := "41820301fbb3df0fbc838dea3e760be44856a7dfbd54332182b47ba20f0dc9f0", func := "gambrel/gambrellaw33.FieldTurns", spec := "fieldTurns", unfollowed := true, recurses := true, apart := false }
def FieldTurnsSaid : Prop := fieldTurnsRow.holds Try.pinned (OpenSpec.ofChange fieldTurnsSpec)

/-- ITS FALSE NEIGHBOUR: 'it returns false'. Refute it at one input. -/
def fieldTurnsWrong : ChangeSpec := { name := "fieldTurns", fn := fun _ => fun
  | [d1, d2, d3, d4] => { results := [.lit (.bool false)], args := [d1, d2, d3, d4] }
  | _ => none }
def FieldTurnsWrongFalsely : Prop := fieldTurnsRow.holds Try.pinned (OpenSpec.ofChange fieldTurnsWrong)

/- THE SECOND FORM. 'bulk': how many values and letters a reading holds, each counted each time it is reached (what is shared counts as often as it is met; a slice's spare places count too). A statement '..UptoSaid' is the law's where the arguments, and the package variables that the reading takes, are together of bulk at most 1048576: NARROWER than '..Said'. Prove '..Said' where nothing that the law and all that it calls make is longer than what came in: it says more and counts as full. Else prove '..UptoSaid'. A law counts once. -/
mutual
def uptoBulk {H : Type} : DataW H → Nat
  | .lit (.string bytes) => bytes.length + 1
  | .lit _ => 1
  | .nil => 1
  | .ptr d => uptoBulk d + 1
  | .slice elems spare => uptoBulkAll elems + uptoBulkAll spare + 1
  | .agg parts => uptoBulkAll parts + 1
  | .iface _ d => uptoBulk d + 1
  | .map entries => uptoBulkEntries entries + 1
  | .held _ => 1
def uptoBulkAll {H : Type} : List (DataW H) → Nat
  | [] => 0
  | d :: r => uptoBulk d + uptoBulkAll r
def uptoBulkEntries {H : Type} : List (Lit × DataW H) → Nat
  | [] => 0
  | x :: r => uptoBulkEntry x + uptoBulkEntries r
def uptoBulkEntry {H : Type} : Lit × DataW H → Nat
  | (.string bytes, d) => bytes.length + uptoBulk d + 1
  | (_, d) => uptoBulk d + 1
 end
def uptoSmall : (H : Type) → List (DataW H) → Bool := fun _ ds => decide (uptoBulkAll ds ≤ 1048576)
def OpenSpec.upto (s : _root_.Go.ChangeSpec) : _root_.Go.OpenSpec := { _root_.Go.OpenSpec.ofChange s with cond := some uptoSmall }

/-- 'gambrellaw33.FieldTraces', WHERE WHAT IT READS IS OF BULK AT MOST 1048576: true; the input reads as it did. -/
def fieldTracesUptoRow : OpenClaim := { program := "ytmomjjjfjjgepaa", sum := "41820301fbb3df0fbc838dea3e760be44856a7dfbd54332182b47ba20f0dc9f0", func := "gambrel/gambrellaw33.FieldTraces", spec := "fieldTraces", unfollowed := true, recurses := true, apart := false, narrowed := true }
def FieldTracesUptoSaid : Prop := fieldTracesUptoRow.holds Try.pinned (OpenSpec.upto fieldTracesSpec)

/-- 'gambrellaw33.FieldValues', WHERE WHAT IT READS IS OF BULK AT MOST 1048576: true; the input reads as it did. -/
def fieldValuesUptoRow : OpenClaim := { program := "ytmomjjjfjjgepaa", sum := "41820301fbb3df0fbc838dea3e760be44856a7dfbd54332182b47ba20f0dc9f0", func := "gambrel/gambrellaw33.FieldValues", spec := "fieldValues", unfollowed := true, recurses := true, apart := false, narrowed := true }
def FieldValuesUptoSaid : Prop := fieldValuesUptoRow.holds Try.pinned (OpenSpec.upto fieldValuesSpec)

/-- 'gambrellaw33.FieldSums', WHERE WHAT IT READS IS OF BULK AT MOST 1048576: true; the input reads as it did. -/
def fieldSumsUptoRow : OpenClaim := { program := "ytmomjjjfjjgepaa", sum := "41820301fbb3df0fbc838dea3e760be44856a7dfbd54332182b47ba20f0dc9f0", func := "gambrel/gambrellaw33.FieldSums", spec := "fieldSums", unfollowed := true, recurses := true, apart := false, narrowed := true }
def FieldSumsUptoSaid : Prop := fieldSumsUptoRow.holds Try.pinned (OpenSpec.upto fieldSumsSpec)

/-- 'gambrellaw33.FieldSteps', WHERE WHAT IT READS IS OF BULK AT MOST 1048576: true; the input reads as it did. -/
def fieldStepsUptoRow : OpenClaim := { program := "ytmomjjjfjjgepaa", sum := "41820301fbb3df0fbc838dea3e760be44856a7dfbd54332182b47ba20f0dc9f0", func := "gambrel/gambrellaw33.FieldSteps", spec := "fieldSteps", unfollowed := true, recurses := true, apart := false, narrowed := true }
def FieldStepsUptoSaid : Prop := fieldStepsUptoRow.holds Try.pinned (OpenSpec.upto fieldStepsSpec)

/-- 'gambrellaw33.FieldReaches', WHERE WHAT IT READS IS OF BULK AT MOST 1048576: true; the input reads as it did. -/
def fieldReachesUptoRow : OpenClaim := { program := "ytmomjjjfjjgepaa", sum := "41820301fbb3df0fbc838dea3e760be44856a7dfbd54332182b47ba20f0dc9f0", func := "gambrel/gambrellaw33.FieldReaches", spec := "fieldReaches", unfollowed := true, recurses := true, apart := false, narrowed := true }
def FieldReachesUptoSaid : Prop := fieldReachesUptoRow.holds Try.pinned (OpenSpec.upto fieldReachesSpec)

/-- 'gambrellaw33.FieldNames', WHERE WHAT IT READS IS OF BULK AT MOST 1048576: true; the input reads as it did. -/
def fieldNamesUptoRow : OpenClaim := { program := "ytmomjjjfjjgepaa", sum := "41820301fbb3df0fbc838dea3e760be44856a7dfbd54332182b47ba20f0dc9f0", func := "gambrel/gambrellaw33.FieldNames", spec := "fieldNames", unfollowed := true, recurses := true, apart := false, narrowed := true }
def FieldNamesUptoSaid : Prop := fieldNamesUptoRow.holds Try.pinned (OpenSpec.upto fieldNamesSpec)

/-- 'gambrellaw33.FieldTurns', WHERE WHAT IT READS IS OF BULK AT MOST 1048576: true; the input reads as it did. -/
def fieldTurnsUptoRow : OpenClaim := { program := "ytmomjjjfjjgepaa", sum := "41820301fbb3df0fbc838dea3e760be44856a7dfbd54332182b47ba20f0dc9f0", func := "gambrel/gambrellaw33.FieldTurns", spec := "fieldTurns", unfollowed := true, recurses := true, apart := false, narrowed := true }
def FieldTurnsUptoSaid : Prop := fieldTurnsUptoRow.holds Try.pinned (OpenSpec.upto fieldTurnsSpec)

end Rows
end Go.Proofs.Ytmomjjjfjjgepaa
