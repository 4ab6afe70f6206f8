/- The laid table: a world that holds it; what the condition of a row gives. -/
import Derived.Test.YtpkcmjiokdpegaaDoorRatAlive
import Derived.Test.YtpkcmjiokdpegaaDoorRatRow
import Derived.Test.YtpkcmjiokdpegaaDoorCards
import Derived.Test.YtpkcmjiokdpegaaDoorTie
import Derived.ChangeSame
import Derived.ChangeVars
import Derived.JoinedOf
import Derived.LaidLaws
import Derived.LaidHandle
import Derived.Lib.LaidTab
import Derived.Stop.LaidErr
import Derived.Deep.DeepLaidRun
import Derived.SevenTiedAt
namespace Go.Proofs.YtpkcmjiokdpegaaDoor
open Go.ChangeShapes Go.WideShapes Go.RowKit Go.Rel Go.Joins

theorem own : ownKnob Tryd.prog.godebug = none := by kernel_rfl
theorem laidOut : laidOutB Tryd.prog = true := by kernel_rfl
/-- What a variable's block holds where it reads as a row of numbers. -/
def laidCells : DataW Unit → Array Value
  | .agg l => (l.map fun x => match x with
    | .lit (.int k z) => Value.int k z
    | _ => undef).toArray
  | _ => #[]
/-- The settled world with the three tables laid. -/
noncomputable def laidWorld (os : Os) : World :=
  let w0 := World.holding Tryd.prog os ⟨#[], #[], []⟩
  let put (h : Array Obj) (g : Nat) (cs : Array Value) : Array Obj := h.modify g fun
    | .cells _ t frozen => .cells cs t frozen
    | o => o
  { w0 with heap := put (put (put w0.heap 0 (laidCells Rows.laid_internal_strconv_uint64pow10)) 2 (laidCells Rows.laid_math_bits_deBruijn32tab)) 3 (laidCells Rows.laid_math_bits_deBruijn64tab) }
theorem laid_met (os : Os) (args : Array Value) : laidMetH Tryd.prog Rows.ratioFieldRow.laid ((laidWorld os).forCall (fun _ _ => 0) ⟨#[], args, []⟩).memory :=
  (laidMet_of_run3 10 (by kernel_rfl) (by kernel_rfl) (by kernel_rfl) : laidMet Tryd.prog Rows.ratioFieldRow.laid _)
theorem pow_data : (Rows.laid_internal_strconv_uint64pow10 : DataW Unit) = Lib.tabData .u64 Lib.pow10Tab := by kernel_rfl
theorem powGlobal : Tryd.prog.globalNamed "internal/strconv.uint64pow10" = some 0 := by kernel_rfl
theorem powType : (Tryd.prog.globals[0]?).map (·.type) = some 89 := by kernel_rfl
theorem powUnder : Tryd.prog.underlying 89 = some (.array 20 60) := by kernel_rfl
theorem powElem : Tryd.prog.underlying 60 = some (.int .u64) := by kernel_rfl
theorem powCells : Tryd.prog.cellsOf 60 = 1 := by kernel_rfl
theorem powCells20 : Tryd.prog.cellsOf 89 = 20 := by kernel_rfl
theorem tab_of_laid {W : World} (h : laidMetH Tryd.prog Rows.ratioFieldRow.laid W) : Tab W := by
  have h' : laidMet Tryd.prog Rows.ratioFieldRow.laid W := h
  have h3 := laidMet.tail (laidMet.tail h')
  rw [pow_data] at h3
  exact Lib.tabIs_of_head powGlobal powType powUnder powElem powCells powCells20 h3
end Go.Proofs.YtpkcmjiokdpegaaDoor
