/-
  No cell of these rows narrows 'for every input' (looked for: loops, veiled, ifaces, maps, wideKeys, modest, calm, conditions, laid).
  DERIVED. THE GIVEN ROWS OF THIS SEAT. 8 by the template 'for every input the law returns true; each argument reads behind the call as it read before'; 0 by the template 'total and deterministic' (their statements: YtkjgcippcbfmgaaTotals.lean).
  GIVEN WITH THE SEED: the statements are not yours to turn. If you find one false, say at which input.
  Laid BY PROGRAM, IN A SANDBOX (cutbox-rows.mjs): the forced cells as the released guide's own fill.sh prints them over the translation 3da01330e05d6e23… (all of the seat's roots in one cut). By AI agents, Wed Nov 11 2026. No macro, syntax, notation, axiom, sorry.
-/
import Derived.Test.YtkjgcippcbfmgaaChecked
import GoSem.Claim
import GoSem.ClaimJoined
import GoSem.ClaimMapViews
import Derived.JoinedTies
import Derived.KernelRfl
namespace Go.Proofs.Ytkjgcippcbfmgaa
/- THE CELL 'sum', in the pinned program and in every row, IS THE sha256 OF THE DUMP (.gsa) THAT YtkjgcippcbfmgaaProg.lean LOADS. Nothing in Lean hashes anything: it is a label: what it is worth is what the hold of that sum in a sandbox is worth. -/
noncomputable def Try.pinned : Pinned := { name := "ytkjgcippcbfmgaa", sum := "3da01330e05d6e23044b7ed67bfb180af6e07dc35adba20f987fe1fb367cd659", checked := Try.checked }
namespace Rows
def none {H : Type} : Left H := { results := [], args := [] }

/-- 'gambrellaw02.LabelPaths': WHATEVER THE INPUT: true; the input reads as it did. -/
def labelPathsSpec : ChangeSpec := { name := "labelPaths", fn := fun _ => fun
  | [d] => { results := [.lit (.bool true)], args := [d] }
  | _ => none }
def labelPathsRow : OpenClaim := { program := "ytkjgcippcbfmgaa", sum := "3da01330e05d6e23044b7ed67bfb180af6e07dc35adba20f987fe1fb367cd659", func := "gambrel/gambrellaw02.LabelPaths", spec := "labelPaths", inPlace := ["internal/bytealg.CountString", "internal/bytealg.IndexByteString", "internal/bytealg.IndexString"], unfollowed := true, recurses := true, named := ["internal/bytealg.MaxLen"], apart := false }
def LabelPathsSaid : Prop := labelPathsRow.holds Try.pinned (OpenSpec.ofChange labelPathsSpec)

/-- ITS FALSE NEIGHBOUR: 'it returns false'. Refute it at one input. -/
def labelPathsWrong : ChangeSpec := { name := "labelPaths", fn := fun _ => fun
  | [d] => { results := [.lit (.bool false)], args := [d] }
  | _ => none }
def LabelPathsWrongFalsely : Prop := labelPathsRow.holds Try.pinned (OpenSpec.ofChange labelPathsWrong)

/-- 'gambrellaw02.LabelPairs': WHATEVER THE INPUT: true; the input reads as it did. -/
def labelPairsSpec : ChangeSpec := { name := "labelPairs", fn := fun _ => fun
  | [d1, d2] => { results := [.lit (.bool true)], args := [d1, d2] }
  | _ => none }
def labelPairsRow : OpenClaim := { program := "ytkjgcippcbfmgaa", sum := "3da01330e05d6e23044b7ed67bfb180af6e07dc35adba20f987fe1fb367cd659", func := "gambrel/gambrellaw02.LabelPairs", spec := "labelPairs", inPlace := ["internal/bytealg.CountString", "internal/bytealg.IndexByteString", "internal/bytealg.IndexString", "internal/bytealg.abigen_runtime_cmpstring"], unfollowed := true, recurses := true, named := ["internal/bytealg.MaxLen"], apart := false }
def LabelPairsSaid : Prop := labelPairsRow.holds Try.pinned (OpenSpec.ofChange labelPairsSpec)

/-- ITS FALSE NEIGHBOUR: 'it returns false'. Refute it at one input. -/
def labelPairsWrong : ChangeSpec := { name := "labelPairs", fn := fun _ => fun
  | [d1, d2] => { results := [.lit (.bool false)], args := [d1, d2] }
  | _ => none }
def LabelPairsWrongFalsely : Prop := labelPairsRow.holds Try.pinned (OpenSpec.ofChange labelPairsWrong)

/-- 'gambrellaw02.LabelCommon': WHATEVER THE INPUT: true; the input reads as it did. -/
def labelCommonSpec : ChangeSpec := { name := "labelCommon", fn := fun _ => fun
  | [d1, d2, d3] => { results := [.lit (.bool true)], args := [d1, d2, d3] }
  | _ => none }
def labelCommonRow : OpenClaim := { program := "ytkjgcippcbfmgaa", sum := "3da01330e05d6e23044b7ed67bfb180af6e07dc35adba20f987fe1fb367cd659", func := "gambrel/gambrellaw02.LabelCommon", spec := "labelCommon", inPlace := ["internal/bytealg.CountString", "internal/bytealg.IndexByteString", "internal/bytealg.IndexString", "internal/bytealg.abigen_runtime_cmpstring"], unfollowed := true, recurses := true, named := ["internal/bytealg.MaxLen"], apart := false }
def LabelCommonSaid : Prop := labelCommonRow.holds Try.pinned (OpenSpec.ofChange labelCommonSpec)

/-- ITS FALSE NEIGHBOUR: 'it returns false'. Refute it at one input. -/
def labelCommonWrong : ChangeSpec := { name := "labelCommon", fn := fun _ => fun
  | [d1, d2, d3] => { results := [.lit (.bool false)], args := [d1, d2, d3] }
  | _ => none }
def LabelCommonWrongFalsely : Prop := labelCommonRow.holds Try.pinned (OpenSpec.ofChange labelCommonWrong)

/-- 'gambrellaw02.LabelOrder': WHATEVER THE INPUT: true; the input reads as it did. -/
def labelOrderSpec : ChangeSpec := { name := "labelOrder", fn := fun _ => fun
  | [d1, d2, d3] => { results := [.lit (.bool true)], args := [d1, d2, d3] }
  | _ => none }
def labelOrderRow : OpenClaim := { program := "ytkjgcippcbfmgaa", sum := "3da01330e05d6e23044b7ed67bfb180af6e07dc35adba20f987fe1fb367cd659", func := "gambrel/gambrellaw02.LabelOrder", spec := "labelOrder", inPlace := ["internal/bytealg.CountString", "internal/bytealg.IndexByteString", "internal/bytealg.IndexString", "internal/bytealg.abigen_runtime_cmpstring"], unfollowed := true, recurses := true, named := ["internal/bytealg.MaxLen"], apart := false }
def LabelOrderSaid : Prop := labelOrderRow.holds Try.pinned (OpenSpec.ofChange labelOrderSpec)

/-- ITS FALSE NEIGHBOUR: 'it returns false'. Refute it at one input. -/
def labelOrderWrong : ChangeSpec := { name := "labelOrder", fn := fun _ => fun
  | [d1, d2, d3] => { results := [.lit (.bool false)], args := [d1, d2, d3] }
  | _ => none }
def LabelOrderWrongFalsely : Prop := labelOrderRow.holds Try.pinned (OpenSpec.ofChange labelOrderWrong)

/-- 'gambrellaw02.LabelNear': WHATEVER THE INPUT: true; the input reads as it did. -/
def labelNearSpec : ChangeSpec := { name := "labelNear", fn := fun _ => fun
  | [d1, d2, d3] => { results := [.lit (.bool true)], args := [d1, d2, d3] }
  | _ => none }
def labelNearRow : OpenClaim := { program := "ytkjgcippcbfmgaa", sum := "3da01330e05d6e23044b7ed67bfb180af6e07dc35adba20f987fe1fb367cd659", func := "gambrel/gambrellaw02.LabelNear", spec := "labelNear", inPlace := ["internal/bytealg.CountString", "internal/bytealg.IndexByteString", "internal/bytealg.IndexString", "internal/bytealg.abigen_runtime_cmpstring"], unfollowed := true, recurses := true, named := ["internal/bytealg.MaxLen"], apart := false }
def LabelNearSaid : Prop := labelNearRow.holds Try.pinned (OpenSpec.ofChange labelNearSpec)

/-- ITS FALSE NEIGHBOUR: 'it returns false'. Refute it at one input. -/
def labelNearWrong : ChangeSpec := { name := "labelNear", fn := fun _ => fun
  | [d1, d2, d3] => { results := [.lit (.bool false)], args := [d1, d2, d3] }
  | _ => none }
def LabelNearWrongFalsely : Prop := labelNearRow.holds Try.pinned (OpenSpec.ofChange labelNearWrong)

/-- 'gambrellaw02.LabelNames': WHATEVER THE INPUT: true; the input reads as it did. -/
def labelNamesSpec : ChangeSpec := { name := "labelNames", fn := fun _ => fun
  | [] => { results := [.lit (.bool true)], args := [] }
  | _ => none }
def labelNamesRow : OpenClaim := { program := "ytkjgcippcbfmgaa", sum := "3da01330e05d6e23044b7ed67bfb180af6e07dc35adba20f987fe1fb367cd659", func := "gambrel/gambrellaw02.LabelNames", spec := "labelNames", inPlace := ["internal/bytealg.CountString", "internal/bytealg.IndexByteString", "internal/bytealg.IndexString", "internal/bytealg.abigen_runtime_cmpstring"], unfollowed := true, recurses := true, named := ["internal/bytealg.MaxLen"], apart := false }
def LabelNamesSaid : Prop := labelNamesRow.holds Try.pinned (OpenSpec.ofChange labelNamesSpec)

/-- ITS FALSE NEIGHBOUR: 'it returns false'. Refute it at one input. -/
def labelNamesWrong : ChangeSpec := { name := "labelNames", fn := fun _ => fun
  | [] => { results := [.lit (.bool false)], args := [] }
  | _ => none }
def LabelNamesWrongFalsely : Prop := labelNamesRow.holds Try.pinned (OpenSpec.ofChange labelNamesWrong)

/-- 'gambrellaw02.LabelJoins': WHATEVER THE INPUT: true; the input reads as it did. -/
def labelJoinsSpec : ChangeSpec := { name := "labelJoins", fn := fun _ => fun
  | [d1, d2] => { results := [.lit (.bool true)], args := [d1, d2] }
  | _ => none }
def labelJoinsRow : OpenClaim := { program := "ytkjgcippcbfmgaa", sum := "3da01330e05d6e23044b7ed67bfb180af6e07dc35adba20f987fe1fb367cd659", func := "gambrel/gambrellaw02.LabelJoins", spec := "labelJoins", inPlace := ["internal/bytealg.CountString", "internal/bytealg.IndexByteString", "internal/bytealg.IndexString", "internal/bytealg.abigen_runtime_cmpstring"], unfollowed := true, recurses := true, named := ["internal/bytealg.MaxLen"], apart := false }
def LabelJoinsSaid : Prop := labelJoinsRow.holds Try.pinned (OpenSpec.ofChange labelJoinsSpec)

/-- ITS FALSE NEIGHBOUR: 'it returns false'. Refute it at one input. -/
def labelJoinsWrong : ChangeSpec := { name := "labelJoins", fn := fun _ => fun
  | [d1, d2] => { results := [.lit (.bool false)], args := [d1, d2] }
  | _ => none }
def LabelJoinsWrongFalsely : Prop := labelJoinsRow.holds Try.pinned (OpenSpec.ofChange labelJoinsWrong)

/-- 'gambrellaw02.LabelWhole': WHATEVER THE INPUT: true; the input reads as it did. -/
def labelWholeSpec : ChangeSpec := { name := "labelWhole", fn := fun _ => fun
  | [d] => { results := [.lit (.bool true)], args := [d] }
  | _ => none }
def labelWholeRow : OpenClaim := { program := "ytkjgcippcbfmgaa", sum := "3da01330e05d6e23044b7ed67bfb180af6e07dc35adba20f987fe1fb367cd659", func := "gambrel/gambrellaw02.LabelWhole", spec := "labelWhole", inPlace := ["internal/bytealg.CountString", "internal/bytealg.IndexByteString", "internal/bytealg.IndexString", "internal/bytealg.abigen_runtime_cmpstring"], unfollowed := true, recurses := true, named := ["internal/bytealg.MaxLen"], apart := false }
def LabelWholeSaid : Prop := labelWholeRow.holds Try.pinned (OpenSpec.ofChange labelWholeSpec)

/-- ITS FALSE NEIGHBOUR: 'it returns false'. Refute it at one input. -/
def labelWholeWrong : ChangeSpec := { name := "labelWhole", fn := fun _ => fun
  | [d] => { results := [.lit (.bool false)], args := [d] }
  | _ => none }
def LabelWholeWrongFalsely : Prop := labelWholeRow.holds Try.pinned (OpenSpec.ofChange labelWholeWrong)

/- THE SECOND FORM. 'bulk': how many values and letters a reading holds, each counted each time it is reached (what is shared counts as often as it is met; a slice's spare places count too). A statement '..UptoSaid' is the law's where the arguments, and the package variables that the reading takes, are together of bulk at most 1048576: NARROWER than '..Said'. Prove '..Said' where nothing that the law and all that it calls make is longer than what came in: it says more and counts as full. Else prove '..UptoSaid'. A law counts once. -/
mutual
def uptoBulk {H : Type} : DataW H → Nat
  | .lit (.string bytes) => bytes.length + 1
  | .lit _ => 1
  | .nil => 1
  | .ptr d => uptoBulk d + 1
  | .slice elems spare => uptoBulkAll elems + uptoBulkAll spare + 1
  | .agg parts => uptoBulkAll parts + 1
  | .iface _ d => uptoBulk d + 1
  | .map entries => uptoBulkEntries entries + 1
  | .held _ => 1
def uptoBulkAll {H : Type} : List (DataW H) → Nat
  | [] => 0
  | d :: r => uptoBulk d + uptoBulkAll r
def uptoBulkEntries {H : Type} : List (Lit × DataW H) → Nat
  | [] => 0
  | x :: r => uptoBulkEntry x + uptoBulkEntries r
def uptoBulkEntry {H : Type} : Lit × DataW H → Nat
  | (.string bytes, d) => bytes.length + uptoBulk d + 1
  | (_, d) => uptoBulk d + 1
 end
def uptoSmall : (H : Type) → List (DataW H) → Bool := fun _ ds => decide (uptoBulkAll ds ≤ 1048576)
def OpenSpec.upto (s : _root_.Go.ChangeSpec) : _root_.Go.OpenSpec := { _root_.Go.OpenSpec.ofChange s with cond := some uptoSmall }

/-- 'gambrellaw02.LabelPaths', WHERE WHAT IT READS IS OF BULK AT MOST 1048576: true; the input reads as it did. -/
def labelPathsUptoRow : OpenClaim := { program := "ytkjgcippcbfmgaa", sum := "3da01330e05d6e23044b7ed67bfb180af6e07dc35adba20f987fe1fb367cd659", func := "gambrel/gambrellaw02.LabelPaths", spec := "labelPaths", inPlace := ["internal/bytealg.CountString", "internal/bytealg.IndexByteString", "internal/bytealg.IndexString"], unfollowed := true, recurses := true, named := ["internal/bytealg.MaxLen"], apart := false, narrowed := true }
def LabelPathsUptoSaid : Prop := labelPathsUptoRow.holds Try.pinned (OpenSpec.upto labelPathsSpec)

/-- 'gambrellaw02.LabelPairs', WHERE WHAT IT READS IS OF BULK AT MOST 1048576: true; the input reads as it did. -/
def labelPairsUptoRow : OpenClaim := { program := "ytkjgcippcbfmgaa", sum := "3da01330e05d6e23044b7ed67bfb180af6e07dc35adba20f987fe1fb367cd659", func := "gambrel/gambrellaw02.LabelPairs", spec := "labelPairs", inPlace := ["internal/bytealg.CountString", "internal/bytealg.IndexByteString", "internal/bytealg.IndexString", "internal/bytealg.abigen_runtime_cmpstring"], unfollowed := true, recurses := true, named := ["internal/bytealg.MaxLen"], apart := false, narrowed := true }
def LabelPairsUptoSaid : Prop := labelPairsUptoRow.holds Try.pinned (OpenSpec.upto labelPairsSpec)

/-- 'gambrellaw02.LabelCommon', WHERE WHAT IT READS IS OF BULK AT MOST 1048576: true; the input reads as it did. -/
def labelCommonUptoRow : OpenClaim := { program := "ytkjgcippcbfmgaa", sum := "3da01330e05d6e23044b7ed67bfb180af6e07dc35adba20f987fe1fb367cd659", func := "gambrel/gambrellaw02.LabelCommon", spec := "labelCommon", inPlace := ["internal/bytealg.CountString", "internal/bytealg.IndexByteString", "internal/bytealg.IndexString", "internal/bytealg.abigen_runtime_cmpstring"], unfollowed := true, recurses := true, named := ["internal/bytealg.MaxLen"], apart := false, narrowed := true }
def LabelCommonUptoSaid : Prop := labelCommonUptoRow.holds Try.pinned (OpenSpec.upto labelCommonSpec)

/-- 'gambrellaw02.LabelOrder', WHERE WHAT IT READS IS OF BULK AT MOST 1048576: true; the input reads as it did. -/
def labelOrderUptoRow : OpenClaim := { program := "ytkjgcippcbfmgaa", sum := "3da01330e05d6e23044b7ed67bfb180af6e07dc35adba20f987fe1fb367cd659", func := "gambrel/gambrellaw02.LabelOrder", spec := "labelOrder", inPlace := ["internal/bytealg.CountString", "internal/bytealg.IndexByteString", "internal/bytealg.IndexString", "internal/bytealg.abigen_runtime_cmpstring"], unfollowed := true, recurses := true, named := ["internal/bytealg.MaxLen"], apart := false, narrowed := true }
def LabelOrderUptoSaid : Prop := labelOrderUptoRow.holds Try.pinned (OpenSpec.upto labelOrderSpec)

/-- 'gambrellaw02.LabelNear', WHERE WHAT IT READS IS OF BULK AT MOST 1048576: true; the input reads as it did. -/
def labelNearUptoRow : OpenClaim := { program := "ytkjgcippcbfmgaa", sum := "3da01330e05d6e23044b7ed67bfb180af6e07dc35adba20f987fe1fb367cd659", func := "gambrel/gambrellaw02.LabelNear", spec := "labelNear", inPlace := ["internal/bytealg.CountString", "internal/bytealg.IndexByteString", "internal/bytealg.IndexString", "internal/bytealg.abigen_runtime_cmpstring"], unfollowed := true, recurses := true, named := ["internal/bytealg.MaxLen"], apart := false, narrowed := true }
def LabelNearUptoSaid : Prop := labelNearUptoRow.holds Try.pinned (OpenSpec.upto labelNearSpec)

/-- 'gambrellaw02.LabelNames', WHERE WHAT IT READS IS OF BULK AT MOST 1048576: true; the input reads as it did. -/
def labelNamesUptoRow : OpenClaim := { program := "ytkjgcippcbfmgaa", sum := "3da01330e05d6e23044b7ed67bfb180af6e07dc35adba20f987fe1fb367cd659", func := "gambrel/gambrellaw02.LabelNames", spec := "labelNames", inPlace := ["internal/bytealg.CountString", "internal/bytealg.IndexByteString", "internal/bytealg.IndexString", "internal/bytealg.abigen_runtime_cmpstring"], unfollowed := true, recurses := true, named := ["internal/bytealg.MaxLen"], apart := false, narrowed := true }
def LabelNamesUptoSaid : Prop := labelNamesUptoRow.holds Try.pinned (OpenSpec.upto labelNamesSpec)

/-- 'gambrellaw02.LabelJoins', WHERE WHAT IT READS IS OF BULK AT MOST 1048576: true; the input reads as it did. -/
def labelJoinsUptoRow : OpenClaim := { program := "ytkjgcippcbfmgaa", sum := "3da01330e05d6e23044b7ed67bfb180af6e07dc35adba20f987fe1fb367cd659", func := "gambrel/gambrellaw02.LabelJoins", spec := "labelJoins", inPlace := ["internal/bytealg.CountString", "internal/bytealg.IndexByteString", "internal/bytealg.IndexString", "internal/bytealg.abigen_runtime_cmpstring"], unfollowed := true, recurses := true, named := ["internal/bytealg.MaxLen"], apart := false, narrowed := true }
def LabelJoinsUptoSaid : Prop := labelJoinsUptoRow.holds Try.pinned (OpenSpec.upto labelJoinsSpec)

/-- 'gambrellaw02.LabelWhole', WHERE WHAT IT READS IS OF BULK AT MOST 1048576: true; the input reads as it did. -/
def labelWholeUptoRow : OpenClaim := { program := "ytkjgcippcbfmgaa", sum := "3da01330e05d6e23044b7ed67bfb180af6e07dc35adba20f987fe1fb367cd659", func := "gambrel/gambrellaw02.LabelWhole", spec := "labelWhole", inPlace := ["internal/bytealg.CountString", "internal/bytealg.IndexByteString", "internal/bytealg.IndexString", "internal/bytealg.abigen_runtime_cmpstring"], unfollowed := true, recurses := true, named := ["internal/bytealg.MaxLen"], apart := false, narrowed := true }
def LabelWholeUptoSaid : Prop := labelWholeUptoRow.holds Try.pinned (OpenSpec.upto labelWholeSpec)

end Rows
end Go.Proofs.Ytkjgcippcbfmgaa
