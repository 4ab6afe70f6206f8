import Derived.Test.YtfdjhiomdimfcaaRows
import Derived.Test.YtfdjhiomdimfcaaRow
namespace Go.Proofs.Ytfdjhiomdimfcaa
open Go.RowKit Go.ChangeShapes Go.WideShapes Go.ChangeAt Go.Joins Go.Rel

theorem own : ownKnob Try.prog.godebug = none := by kernel_rfl
theorem laidOut : laidOutB Try.prog = true := by kernel_rfl
theorem Try.cells24 : Try.prog.cellsOf 24 = 3 := by kernel_rfl
theorem Try.cells31 : Try.prog.cellsOf 31 = 3 := by kernel_rfl
theorem Try.cells3 : Try.prog.cellsOf 3 = 1 := by kernel_rfl

/-- A curve, opened. -/
theorem open_curve {H : Type} {enc : TypeId × Value → H} {W : World} {r : Reach} {b0 : Nat} {v : Value} {d : DataW H} {p : List MemPlace} (hv : Value.okWide Try.prog W r b0 24 v) (h : DataW.Trod enc Try.prog W 0 (fun _ => true) true 24 v d p) :
    ∃ (A : Option Addr) (n cap : Nat) (l : List Vec) (down : Int) (closed : Bool), v = .agg #[.slice A n cap, .int .i64 down, .bool closed] ∧ l.length = n ∧ n ≤ 9223372036854775807 ∧ Vecs W W.heap.size A l ∧ (Lit.int .i64 down).wf = true := by
  obtain ⟨c0, c1, c2, y0, y1, y2, m, rfl, -, -, h0, h1, h2⟩ := open_agg3 Try.underlying24 (by kernel_rfl) Try.cells24 hv h
  obtain ⟨A, n, cap, l, rfl, hn, hl, hvs, -⟩ := open_vecs Try.underlying22 Try.underlying31 Try.underlying3 ⟨rfl, rfl⟩ ⟨rfl, rfl⟩ ⟨rfl, rfl⟩ Try.cells3 Try.cells31 h0
  obtain ⟨down, rfl, hw⟩ := cell_int Try.underlying3 h1
  obtain ⟨closed, rfl⟩ := cell_bool Try.underlying4 h2
  exact ⟨A, n, cap, l, down, closed, rfl, hn, hl, hvs, hw⟩
end Go.Proofs.Ytfdjhiomdimfcaa
