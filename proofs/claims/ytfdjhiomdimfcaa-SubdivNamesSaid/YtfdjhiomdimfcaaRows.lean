/-
  No cell of these rows narrows 'for every input' (looked for: loops, veiled, ifaces, maps, wideKeys, modest, calm, conditions, laid).
  DERIVED. THE GIVEN ROWS OF THIS SEAT. 8 by the template 'for every input the law returns true; each argument reads behind the call as it read before'; 0 by the template 'total and deterministic' (their statements: YtfdjhiomdimfcaaTotals.lean).
  GIVEN WITH THE SEED: the statements are not yours to turn. If you find one false, say at which input.
  Laid BY PROGRAM, IN A SANDBOX (cutbox-rows.mjs): the forced cells as the released guide's own fill.sh prints them over the translation 5fcd2102bde6a3d3… (all of the seat's roots in one cut). By AI agents, Wed Nov 11 2026. No macro, syntax, notation, axiom, sorry.
-/
import Derived.Test.YtfdjhiomdimfcaaChecked
import GoSem.Claim
import GoSem.ClaimJoined
import GoSem.ClaimMapViews
import Derived.JoinedTies
import Derived.KernelRfl
namespace Go.Proofs.Ytfdjhiomdimfcaa
/- THE CELL 'sum', in the pinned program and in every row, IS THE sha256 OF THE DUMP (.gsa) THAT YtfdjhiomdimfcaaProg.lean LOADS. Nothing in Lean hashes anything: it is a label: what it is worth is what the hold of that sum in a sandbox is worth. -/
noncomputable def Try.pinned : Pinned := { name := "ytfdjhiomdimfcaa", sum := "5fcd2102bde6a3d3bb33f50584da5936640f88344e5c047797dfbfbfcbb8461a", checked := Try.checked }
namespace Rows
def none {H : Type} : Left H := { results := [], args := [] }

/-- 'gambrellaw22.SubdivRounds': WHATEVER THE INPUT: true; the input reads as it did. -/
def subdivRoundsSpec : ChangeSpec := { name := "subdivRounds", fn := fun _ => fun
  | [d] => { results := [.lit (.bool true)], args := [d] }
  | _ => none }
def subdivRoundsRow : OpenClaim := { program := "ytfdjhiomdimfcaa", sum := "5fcd2102bde6a3d3bb33f50584da5936640f88344e5c047797dfbfbfcbb8461a", func := "gambrel/gambrellaw22.SubdivRounds", spec := "subdivRounds", apart := false }
def SubdivRoundsSaid : Prop := subdivRoundsRow.holds Try.pinned (OpenSpec.ofChange subdivRoundsSpec)

/-- ITS FALSE NEIGHBOUR: 'it returns false'. Refute it at one input. -/
def subdivRoundsWrong : ChangeSpec := { name := "subdivRounds", fn := fun _ => fun
  | [d] => { results := [.lit (.bool false)], args := [d] }
  | _ => none }
def SubdivRoundsWrongFalsely : Prop := subdivRoundsRow.holds Try.pinned (OpenSpec.ofChange subdivRoundsWrong)

/-- 'gambrellaw22.SubdivRefines': WHATEVER THE INPUT: true; the input reads as it did. -/
def subdivRefinesSpec : ChangeSpec := { name := "subdivRefines", fn := fun _ => fun
  | [d1, d2] => { results := [.lit (.bool true)], args := [d1, d2] }
  | _ => none }
def subdivRefinesRow : OpenClaim := { program := "ytfdjhiomdimfcaa", sum := "5fcd2102bde6a3d3bb33f50584da5936640f88344e5c047797dfbfbfcbb8461a", func := "gambrel/gambrellaw22.SubdivRefines", spec := "subdivRefines", unfollowed := true, recurses := true, apart := false }
def SubdivRefinesSaid : Prop := subdivRefinesRow.holds Try.pinned (OpenSpec.ofChange subdivRefinesSpec)

/-- ITS FALSE NEIGHBOUR: 'it returns false'. Refute it at one input. -/
def subdivRefinesWrong : ChangeSpec := { name := "subdivRefines", fn := fun _ => fun
  | [d1, d2] => { results := [.lit (.bool false)], args := [d1, d2] }
  | _ => none }
def SubdivRefinesWrongFalsely : Prop := subdivRefinesRow.holds Try.pinned (OpenSpec.ofChange subdivRefinesWrong)

/-- 'gambrellaw22.SubdivLimits': WHATEVER THE INPUT: true; the input reads as it did. -/
def subdivLimitsSpec : ChangeSpec := { name := "subdivLimits", fn := fun _ => fun
  | [d1, d2] => { results := [.lit (.bool true)], args := [d1, d2] }
  | _ => none }
def subdivLimitsRow : OpenClaim := { program := "ytfdjhiomdimfcaa", sum := "5fcd2102bde6a3d3bb33f50584da5936640f88344e5c047797dfbfbfcbb8461a", func := "gambrel/gambrellaw22.SubdivLimits", spec := "subdivLimits", unfollowed := true, recurses := true, apart := false }
def SubdivLimitsSaid : Prop := subdivLimitsRow.holds Try.pinned (OpenSpec.ofChange subdivLimitsSpec)

/-- ITS FALSE NEIGHBOUR: 'it returns false'. Refute it at one input. -/
def subdivLimitsWrong : ChangeSpec := { name := "subdivLimits", fn := fun _ => fun
  | [d1, d2] => { results := [.lit (.bool false)], args := [d1, d2] }
  | _ => none }
def SubdivLimitsWrongFalsely : Prop := subdivLimitsRow.holds Try.pinned (OpenSpec.ofChange subdivLimitsWrong)

/-- 'gambrellaw22.SubdivMoves': WHATEVER THE INPUT: true; the input reads as it did. -/
def subdivMovesSpec : ChangeSpec := { name := "subdivMoves", fn := fun _ => fun
  | [d1, d2, d3] => { results := [.lit (.bool true)], args := [d1, d2, d3] }
  | _ => none }
def subdivMovesRow : OpenClaim := { program := "ytfdjhiomdimfcaa", sum := "5fcd2102bde6a3d3bb33f50584da5936640f88344e5c047797dfbfbfcbb8461a", func := "gambrel/gambrellaw22.SubdivMoves", spec := "subdivMoves", unfollowed := true, recurses := true, apart := false }
def SubdivMovesSaid : Prop := subdivMovesRow.holds Try.pinned (OpenSpec.ofChange subdivMovesSpec)

/-- ITS FALSE NEIGHBOUR: 'it returns false'. Refute it at one input. -/
def subdivMovesWrong : ChangeSpec := { name := "subdivMoves", fn := fun _ => fun
  | [d1, d2, d3] => { results := [.lit (.bool false)], args := [d1, d2, d3] }
  | _ => none }
def SubdivMovesWrongFalsely : Prop := subdivMovesRow.holds Try.pinned (OpenSpec.ofChange subdivMovesWrong)

/-- 'gambrellaw22.SubdivTurns': WHATEVER THE INPUT: true; the input reads as it did. -/
def subdivTurnsSpec : ChangeSpec := { name := "subdivTurns", fn := fun _ => fun
  | [d1, d2] => { results := [.lit (.bool true)], args := [d1, d2] }
  | _ => none }
def subdivTurnsRow : OpenClaim := { program := "ytfdjhiomdimfcaa", sum := "5fcd2102bde6a3d3bb33f50584da5936640f88344e5c047797dfbfbfcbb8461a", func := "gambrel/gambrellaw22.SubdivTurns", spec := "subdivTurns", unfollowed := true, recurses := true, apart := false }
def SubdivTurnsSaid : Prop := subdivTurnsRow.holds Try.pinned (OpenSpec.ofChange subdivTurnsSpec)

/-- ITS FALSE NEIGHBOUR: 'it returns false'. Refute it at one input. -/
def subdivTurnsWrong : ChangeSpec := { name := "subdivTurns", fn := fun _ => fun
  | [d1, d2] => { results := [.lit (.bool false)], args := [d1, d2] }
  | _ => none }
def SubdivTurnsWrongFalsely : Prop := subdivTurnsRow.holds Try.pinned (OpenSpec.ofChange subdivTurnsWrong)

/-- 'gambrellaw22.SubdivInside': WHATEVER THE INPUT: true; the input reads as it did. -/
def subdivInsideSpec : ChangeSpec := { name := "subdivInside", fn := fun _ => fun
  | [d1, d2] => { results := [.lit (.bool true)], args := [d1, d2] }
  | _ => none }
def subdivInsideRow : OpenClaim := { program := "ytfdjhiomdimfcaa", sum := "5fcd2102bde6a3d3bb33f50584da5936640f88344e5c047797dfbfbfcbb8461a", func := "gambrel/gambrellaw22.SubdivInside", spec := "subdivInside", unfollowed := true, recurses := true, apart := false }
def SubdivInsideSaid : Prop := subdivInsideRow.holds Try.pinned (OpenSpec.ofChange subdivInsideSpec)

/-- ITS FALSE NEIGHBOUR: 'it returns false'. Refute it at one input. -/
def subdivInsideWrong : ChangeSpec := { name := "subdivInside", fn := fun _ => fun
  | [d1, d2] => { results := [.lit (.bool false)], args := [d1, d2] }
  | _ => none }
def SubdivInsideWrongFalsely : Prop := subdivInsideRow.holds Try.pinned (OpenSpec.ofChange subdivInsideWrong)

/-- 'gambrellaw22.SubdivNames': WHATEVER THE INPUT: true; the input reads as it did. -/
def subdivNamesSpec : ChangeSpec := { name := "subdivNames", fn := fun _ => fun
  | [] => { results := [.lit (.bool true)], args := [] }
  | _ => none }
def subdivNamesRow : OpenClaim := { program := "ytfdjhiomdimfcaa", sum := "5fcd2102bde6a3d3bb33f50584da5936640f88344e5c047797dfbfbfcbb8461a", func := "gambrel/gambrellaw22.SubdivNames", spec := "subdivNames", unfollowed := true, recurses := true, apart := false }
def SubdivNamesSaid : Prop := subdivNamesRow.holds Try.pinned (OpenSpec.ofChange subdivNamesSpec)

/-- ITS FALSE NEIGHBOUR: 'it returns false'. Refute it at one input. -/
def subdivNamesWrong : ChangeSpec := { name := "subdivNames", fn := fun _ => fun
  | [] => { results := [.lit (.bool false)], args := [] }
  | _ => none }
def SubdivNamesWrongFalsely : Prop := subdivNamesRow.holds Try.pinned (OpenSpec.ofChange subdivNamesWrong)

/-- 'gambrellaw22.SubdivNearest': WHATEVER THE INPUT: true; the input reads as it did. -/
def subdivNearestSpec : ChangeSpec := { name := "subdivNearest", fn := fun _ => fun
  | [d] => { results := [.lit (.bool true)], args := [d] }
  | _ => none }
def subdivNearestRow : OpenClaim := { program := "ytfdjhiomdimfcaa", sum := "5fcd2102bde6a3d3bb33f50584da5936640f88344e5c047797dfbfbfcbb8461a", func := "gambrel/gambrellaw22.SubdivNearest", spec := "subdivNearest", unfollowed := true, recurses := true, apart := false }
def SubdivNearestSaid : Prop := subdivNearestRow.holds Try.pinned (OpenSpec.ofChange subdivNearestSpec)

/-- ITS FALSE NEIGHBOUR: 'it returns false'. Refute it at one input. -/
def subdivNearestWrong : ChangeSpec := { name := "subdivNearest", fn := fun _ => fun
  | [d] => { results := [.lit (.bool false)], args := [d] }
  | _ => none }
def SubdivNearestWrongFalsely : Prop := subdivNearestRow.holds Try.pinned (OpenSpec.ofChange subdivNearestWrong)

/- THE SECOND FORM. 'bulk': how many values and letters a reading holds, each counted each time it is reached (what is shared counts as often as it is met; a slice's spare places count too). A statement '..UptoSaid' is the law's where the arguments, and the package variables that the reading takes, are together of bulk at most 1048576: NARROWER than '..Said'. Prove '..Said' where nothing that the law and all that it calls make is longer than what came in: it says more and counts as full. Else prove '..UptoSaid'. A law counts once. -/
mutual
def uptoBulk {H : Type} : DataW H → Nat
  | .lit (.string bytes) => bytes.length + 1
  | .lit _ => 1
  | .nil => 1
  | .ptr d => uptoBulk d + 1
  | .slice elems spare => uptoBulkAll elems + uptoBulkAll spare + 1
  | .agg parts => uptoBulkAll parts + 1
  | .iface _ d => uptoBulk d + 1
  | .map entries => uptoBulkEntries entries + 1
  | .held _ => 1
def uptoBulkAll {H : Type} : List (DataW H) → Nat
  | [] => 0
  | d :: r => uptoBulk d + uptoBulkAll r
def uptoBulkEntries {H : Type} : List (Lit × DataW H) → Nat
  | [] => 0
  | x :: r => uptoBulkEntry x + uptoBulkEntries r
def uptoBulkEntry {H : Type} : Lit × DataW H → Nat
  | (.string bytes, d) => bytes.length + uptoBulk d + 1
  | (_, d) => uptoBulk d + 1
 end
def uptoSmall : (H : Type) → List (DataW H) → Bool := fun _ ds => decide (uptoBulkAll ds ≤ 1048576)
def OpenSpec.upto (s : _root_.Go.ChangeSpec) : _root_.Go.OpenSpec := { _root_.Go.OpenSpec.ofChange s with cond := some uptoSmall }

/-- 'gambrellaw22.SubdivRounds', WHERE WHAT IT READS IS OF BULK AT MOST 1048576: true; the input reads as it did. -/
def subdivRoundsUptoRow : OpenClaim := { program := "ytfdjhiomdimfcaa", sum := "5fcd2102bde6a3d3bb33f50584da5936640f88344e5c047797dfbfbfcbb8461a", func := "gambrel/gambrellaw22.SubdivRounds", spec := "subdivRounds", apart := false, narrowed := true }
def SubdivRoundsUptoSaid : Prop := subdivRoundsUptoRow.holds Try.pinned (OpenSpec.upto subdivRoundsSpec)

/-- 'gambrellaw22.SubdivRefines', WHERE WHAT IT READS IS OF BULK AT MOST 1048576: true; the input reads as it did. -/
def subdivRefinesUptoRow : OpenClaim := { program := "ytfdjhiomdimfcaa", sum := "5fcd2102bde6a3d3bb33f50584da5936640f88344e5c047797dfbfbfcbb8461a", func := "gambrel/gambrellaw22.SubdivRefines", spec := "subdivRefines", unfollowed := true, recurses := true, apart := false, narrowed := true }
def SubdivRefinesUptoSaid : Prop := subdivRefinesUptoRow.holds Try.pinned (OpenSpec.upto subdivRefinesSpec)

/-- 'gambrellaw22.SubdivLimits', WHERE WHAT IT READS IS OF BULK AT MOST 1048576: true; the input reads as it did. -/
def subdivLimitsUptoRow : OpenClaim := { program := "ytfdjhiomdimfcaa", sum := "5fcd2102bde6a3d3bb33f50584da5936640f88344e5c047797dfbfbfcbb8461a", func := "gambrel/gambrellaw22.SubdivLimits", spec := "subdivLimits", unfollowed := true, recurses := true, apart := false, narrowed := true }
def SubdivLimitsUptoSaid : Prop := subdivLimitsUptoRow.holds Try.pinned (OpenSpec.upto subdivLimitsSpec)

/-- 'gambrellaw22.SubdivMoves', WHERE WHAT IT READS IS OF BULK AT MOST 1048576: true; the input reads as it did. -/
def subdivMovesUptoRow : OpenClaim := { program := "ytfdjhiomdimfcaa", sum := "5fcd2102bde6a3d3bb33f50584da5936640f88344e5c047797dfbfbfcbb8461a", func := "gambrel/gambrellaw22.SubdivMoves", spec := "subdivMoves", unfollowed := true, recurses := true, apart := false, narrowed := true }
def SubdivMovesUptoSaid : Prop := subdivMovesUptoRow.holds Try.pinned (OpenSpec.upto subdivMovesSpec)

/-- 'gambrellaw22.SubdivTurns', WHERE WHAT IT READS IS OF BULK AT MOST 1048576: true; the input reads as it did. -/
def subdivTurnsUptoRow : OpenClaim := { program := "ytfdjhiomdimfcaa", sum := "5fcd2102bde6a3d3bb33f50584da5936640f88344e5c047797dfbfbfcbb8461a", func := "gambrel/gambrellaw22.SubdivTurns", spec := "subdivTurns", unfollowed := true, recurses := true, apart := false, narrowed := true }
def SubdivTurnsUptoSaid : Prop := subdivTurnsUptoRow.holds Try.pinned (OpenSpec.upto subdivTurnsSpec)

/-- 'gambrellaw22.SubdivInside', WHERE WHAT IT READS IS OF BULK AT MOST 1048576: true; the input reads as it did. -/
def subdivInsideUptoRow : OpenClaim := { program := "ytfdjhiomdimfcaa", sum := "5fcd2102bde6a3d3bb33f50584da5936640f88344e5c047797dfbfbfcbb8461a", func := "gambrel/gambrellaw22.SubdivInside", spec := "subdivInside", unfollowed := true, recurses := true, apart := false, narrowed := true }
def SubdivInsideUptoSaid : Prop := subdivInsideUptoRow.holds Try.pinned (OpenSpec.upto subdivInsideSpec)

/-- 'gambrellaw22.SubdivNames', WHERE WHAT IT READS IS OF BULK AT MOST 1048576: true; the input reads as it did. -/
def subdivNamesUptoRow : OpenClaim := { program := "ytfdjhiomdimfcaa", sum := "5fcd2102bde6a3d3bb33f50584da5936640f88344e5c047797dfbfbfcbb8461a", func := "gambrel/gambrellaw22.SubdivNames", spec := "subdivNames", unfollowed := true, recurses := true, apart := false, narrowed := true }
def SubdivNamesUptoSaid : Prop := subdivNamesUptoRow.holds Try.pinned (OpenSpec.upto subdivNamesSpec)

/-- 'gambrellaw22.SubdivNearest', WHERE WHAT IT READS IS OF BULK AT MOST 1048576: true; the input reads as it did. -/
def subdivNearestUptoRow : OpenClaim := { program := "ytfdjhiomdimfcaa", sum := "5fcd2102bde6a3d3bb33f50584da5936640f88344e5c047797dfbfbfcbb8461a", func := "gambrel/gambrellaw22.SubdivNearest", spec := "subdivNearest", unfollowed := true, recurses := true, apart := false, narrowed := true }
def SubdivNearestUptoSaid : Prop := subdivNearestUptoRow.holds Try.pinned (OpenSpec.upto subdivNearestSpec)

end Rows
end Go.Proofs.Ytfdjhiomdimfcaa
