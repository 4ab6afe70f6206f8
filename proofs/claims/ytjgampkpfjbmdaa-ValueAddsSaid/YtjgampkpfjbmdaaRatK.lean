/- Neg, Cmp, Floor, Ceil on both sides: what they give, for any ratios of 64 bits. -/
import Derived.Test.YtjgampkpfjbmdaaRatJ
namespace Go.Proofs.Ytjgampkpfjbmdaa
open Go.RowKit Go.Rel

def negR (a : Rat2) : Rat2 := if RatOk a then ⟨-a.n, a.d⟩ else ⟨0, 0⟩
theorem negR_ok {a : Rat2} (h : RatOk a) : negR a = ⟨-a.n, a.d⟩ := if_pos h
theorem negR_bad {a : Rat2} (h : ¬ RatOk a) : negR a = ⟨0, 0⟩ := if_neg h
theorem one_ok : RatOk ⟨0, 1⟩ := by unfold RatOk; simp
theorem sub_neg (a : Rat2) : opSubR ⟨0, 1⟩ a = negR a ∧ opSubE ⟨0, 1⟩ a = ratE a := by
  unfold opSubR opSubE
  by_cases h : RatOk a
  · obtain ⟨r1, r2, -⟩ := run_yes (0 * a.d - a.n * 1) (1 * a.d) ⟨one_ok, h⟩
    rw [r1, r2, negR_ok h, ratE_ok h]
    have hd : a.d ≠ 0 := by have := h.1; omega
    have e1 : 0 * a.d - a.n * 1 = -a.n := by omega
    have e2 : 1 * a.d = a.d := by omega
    rw [e1, e2]
    have hg : Int.gcd (-a.n) a.d = 1 := by rw [Int.neg_gcd]; exact h.2.2.2.2
    have hl : lowest (-a.n) a.d = ⟨-a.n, a.d⟩ := by
      rw [lowest_of (a := -a.n) (b := a.d) Nat.one_pos hg (by simp) (by simp), if_neg (by have := h.1; omega)]
    refine make_ok hd hl ?_
    obtain ⟨h1, h2, h3, h4⟩ := ratOk_bounds h
    exact ⟨by simpa using h3, by simpa using h4, by simp only; omega, by simp only; omega, hg⟩
  · obtain ⟨r1, r2, -⟩ := run_no (0 * a.d - a.n * 1) (1 * a.d) (fun hh => h hh.2)
    rw [r1, r2, negR_bad h, ratE_bad h]
    exact ⟨rfl, rfl⟩

end Go.Proofs.Ytjgampkpfjbmdaa
