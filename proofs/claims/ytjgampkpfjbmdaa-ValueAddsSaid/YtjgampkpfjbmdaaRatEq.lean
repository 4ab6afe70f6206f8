/- The comparison of two ratios. -/
import Derived.Test.YtjgampkpfjbmdaaRatB
namespace Go.Proofs.Ytjgampkpfjbmdaa
open Go.RowKit Go.Rel

def ratB (a b c d : Int) : Bool := decide (a = c) && decide (b = d)
theorem ratB_self (a b : Int) : ratB a b a b = true := by simp [ratB]
theorem ratB_iff (a b : Rat2) : ratB a.n a.d b.n b.d = decide (a = b) := by
  obtain ⟨x, y⟩ := a
  obtain ⟨x', y'⟩ := b
  simp [ratB]
theorem Try.eqGuardRat : Try.prog.eqGuardType Try.prog.depth 23 = false := by kernel_rfl
theorem Try.stoodRat : Try.prog.stoodInHeld 23 = false := by kernel_rfl
theorem Try.fieldsRat : Try.prog.underlying 23 = some (.struct (Try.prog.fieldsOf 23)) := by kernel_rfl
theorem ratEqIn (x y x' y' : Int) (w : World) : (Op.equalIn 10000 23 (.agg #[.int .i64 x, .int .i64 y]) (.agg #[.int .i64 x', .int .i64 y'])).run Try.prog w = .ok (ratB x y x' y') w := by
  rw [run_equalIn_agg w 9999 23 _ _ Try.fieldsRat Try.stoodRat]
  unfold Program.fieldsOf
  rw [Try.underlying23]
  by_cases h1 : x = x' <;> by_cases h2 : y = y' <;> simp [Op.eqFields, part, go_sem, h1, h2, ratB, Try.underlying2]
theorem ratEql (x y x' y' : Int) (w : World) : (binOp .eql 23 (.agg #[.int .i64 x, .int .i64 y]) (.agg #[.int .i64 x', .int .i64 y'])).run Try.prog w = .ok (.bool (ratB x y x' y')) w := by
  rw [run_eql_struct, ratEqIn]; rfl
theorem ratNeq (x y x' y' : Int) (w : World) : (binOp .neq 23 (.agg #[.int .i64 x, .int .i64 y]) (.agg #[.int .i64 x', .int .i64 y'])).run Try.prog w = .ok (.bool (!ratB x y x' y')) w := by
  rw [run_neq_struct, ratEqIn]; rfl
end Go.Proofs.Ytjgampkpfjbmdaa
