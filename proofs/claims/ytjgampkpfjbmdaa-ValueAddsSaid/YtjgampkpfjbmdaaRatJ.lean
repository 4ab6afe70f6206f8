/- Sub, Mul, Div on both sides: what they give, for any two ratios of 64 bits. -/
import Derived.Test.YtjgampkpfjbmdaaRatG
namespace Go.Proofs.Ytjgampkpfjbmdaa
open Go.RowKit Go.Rel

/-! ### Sub -/
def opSubR (a b : Rat2) : Rat2 := runV a b (a.n * b.d - b.n * a.d) (a.d * b.d)
def opSubE (a b : Rat2) : Int := runE a b (a.n * b.d - b.n * a.d) (a.d * b.d)

/-! ### Mul -/
def opMulR (a b : Rat2) : Rat2 := runV a b (a.n * b.n) (a.d * b.d)
def opMulE (a b : Rat2) : Int := runE a b (a.n * b.n) (a.d * b.d)

/-! ### Div -/
def opDivR (a b : Rat2) : Rat2 := runV a b (a.n * b.d) (a.d * b.n)
def opDivE (a b : Rat2) : Int := runE a b (a.n * b.d) (a.d * b.n)

end Go.Proofs.Ytjgampkpfjbmdaa
