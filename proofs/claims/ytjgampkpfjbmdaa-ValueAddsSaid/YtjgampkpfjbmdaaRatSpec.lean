/- Ratios: what the functions on ratios compute, in plain terms. No condition. -/
import Derived.Test.YtjgampkpfjbmdaaBase
namespace Go.Rel
open Go.RowKit

structure Rat2 where
  n : Int
  d : Int
  deriving DecidableEq

@[reducible] def Rat2.v (a : Rat2) : Value := .agg #[.int .i64 a.n, .int .i64 a.d]

/-- A valid ratio. -/
def RatOk (a : Rat2) : Prop := 1 ≤ a.d ∧ a.d ≤ 1000000000 ∧ -1000000000 ≤ a.n ∧ a.n ≤ 1000000000 ∧ Int.gcd a.n a.d = 1
instance (a : Rat2) : Decidable (RatOk a) := by unfold RatOk; infer_instance
def ratE (a : Rat2) : Int := if RatOk a then 0 else 8
theorem ratE_ok {a : Rat2} (h : RatOk a) : ratE a = 0 := if_pos h
theorem ratE_bad {a : Rat2} (h : ¬ RatOk a) : ratE a = 8 := if_neg h

/-- n / d in lowest terms, the denominator above nought. -/
def lowest (n d : Int) : Rat2 := if d < 0 then ⟨-n / (Int.gcd n d : Int), -d / (Int.gcd n d : Int)⟩ else ⟨n / (Int.gcd n d : Int), d / (Int.gcd n d : Int)⟩
def makeR (n d : Int) : Rat2 := if d = 0 then ⟨0, 0⟩ else if RatOk (lowest n d) then lowest n d else ⟨0, 0⟩
def makeE (n d : Int) : Int := if d = 0 then 18 else if RatOk (lowest n d) then 0 else 16

theorem gcd_pos_of {n d : Int} (h : d ≠ 0) : 0 < Int.gcd n d := Nat.pos_of_ne_zero (fun e => h (Int.gcd_eq_zero_iff.1 e).2)

/-- Two numbers, and how they stand to their greatest common divisor. -/
theorem parts_of {n d : Int} (h : d ≠ 0) : ∃ (g : Nat) (a b : Int), Int.gcd n d = g ∧ 0 < g ∧ n = g * a ∧ d = g * b ∧ Int.gcd a b = 1 := by
  have hg := gcd_pos_of (n := n) h
  obtain ⟨a, ha⟩ := Int.gcd_dvd_left (a := n) (b := d)
  obtain ⟨b, hb⟩ := Int.gcd_dvd_right (a := n) (b := d)
  refine ⟨Int.gcd n d, a, b, rfl, hg, ha, hb, ?_⟩
  have e : Int.gcd n d = Int.gcd n d * Int.gcd a b := by
    have := Int.gcd_mul_left (Int.gcd n d : Int) a b
    rw [← ha, ← hb] at this
    simpa using this
  exact Nat.eq_of_mul_eq_mul_left hg (by omega)

theorem lowest_of {n d a b : Int} {g : Nat} (hg : 0 < g) (e : Int.gcd n d = g) (hn : n = g * a) (hd : d = g * b) : lowest n d = if b < 0 then ⟨-a, -b⟩ else ⟨a, b⟩ := by
  have hg' : (g : Int) ≠ 0 := by omega
  have hs : d < 0 ↔ b < 0 := by
    rw [hd]
    constructor
    · intro h
      exact Int.not_le.1 fun hb => absurd (Int.mul_nonneg (show (0 : Int) ≤ g by omega) hb) (by omega)
    · intro h
      exact Int.mul_neg_of_pos_of_neg (by omega) h
  unfold lowest
  rw [e, hn, hd, ← Int.mul_neg, ← Int.mul_neg, Int.mul_ediv_cancel_left _ hg', Int.mul_ediv_cancel_left _ hg', Int.mul_ediv_cancel_left _ hg', Int.mul_ediv_cancel_left _ hg', ← hd]
  by_cases hb : b < 0
  · rw [if_pos hb, if_pos (hs.2 hb)]
  · rw [if_neg hb, if_neg (fun h => hb (hs.1 h))]

theorem ok_pos {a b : Int} (h : Int.gcd a b = 1) (hb : 0 < b) : RatOk ⟨a, b⟩ ↔ a.natAbs ≤ 1000000000 ∧ b.natAbs ≤ 1000000000 := by
  simp only [RatOk, h, and_true]; omega
theorem ok_neg {a b : Int} (h : Int.gcd a b = 1) (hb : b < 0) : RatOk ⟨-a, -b⟩ ↔ a.natAbs ≤ 1000000000 ∧ b.natAbs ≤ 1000000000 := by
  simp only [RatOk, Int.gcd_neg, Int.neg_gcd, h, and_true]; omega

theorem make_zero (n : Int) : makeR n 0 = ⟨0, 0⟩ ∧ makeE n 0 = 18 := ⟨rfl, rfl⟩
theorem make_ok {n d : Int} {r : Rat2} (h : d ≠ 0) (hl : lowest n d = r) (ho : RatOk r) : makeR n d = r ∧ makeE n d = 0 := by
  unfold makeR makeE; rw [if_neg h, if_neg h, hl, if_pos ho, if_pos ho]; exact ⟨rfl, rfl⟩
theorem make_bad {n d : Int} {r : Rat2} (h : d ≠ 0) (hl : lowest n d = r) (ho : ¬ RatOk r) : makeR n d = ⟨0, 0⟩ ∧ makeE n d = 16 := by
  unfold makeR makeE; rw [if_neg h, if_neg h, hl, if_neg ho, if_neg ho]; exact ⟨rfl, rfl⟩

theorem mul_natAbs_le {g : Nat} (hg : 0 < g) (a : Int) : a.natAbs ≤ ((g : Int) * a).natAbs := by
  rw [Int.natAbs_mul]
  exact Nat.le_mul_of_pos_left _ (by simpa using hg)

/-- All that is wanted of two numbers and their greatest common divisor. -/
theorem parts_all {n d : Int} (h : d ≠ 0) : ∃ (g : Nat) (a b : Int), Int.gcd n d = g ∧ 0 < g ∧ Int.gcd a b = 1 ∧ n.tdiv g = a ∧ d.tdiv g = b ∧ (-n).tdiv g = -a ∧ (-d).tdiv g = -b ∧ a.natAbs ≤ n.natAbs ∧ b.natAbs ≤ d.natAbs ∧
    n.natAbs / g = a.natAbs ∧ d.natAbs / g = b.natAbs ∧ (n < 0 ↔ a < 0) ∧ (d < 0 ↔ b < 0) ∧ b ≠ 0 ∧ g ≤ d.natAbs ∧ lowest n d = if b < 0 then ⟨-a, -b⟩ else ⟨a, b⟩ := by
  obtain ⟨g, a, b, e, hg, hn, hd, hc⟩ := parts_of (n := n) h
  have hl := lowest_of hg e hn hd
  have hg' : (g : Int) ≠ 0 := by omega
  have sgn : ∀ x : Int, (g : Int) * x < 0 ↔ x < 0 := fun x => by
    constructor
    · intro h
      exact Int.not_le.1 fun hb => absurd (Int.mul_nonneg (show (0 : Int) ≤ g by omega) hb) (by omega)
    · intro h
      exact Int.mul_neg_of_pos_of_neg (by omega) h
  have hb0 : b ≠ 0 := fun h0 => h (by rw [hd, h0, Int.mul_zero])
  refine ⟨g, a, b, e, hg, hc, ?_, ?_, ?_, ?_, ?_, ?_, ?_, ?_, ?_, ?_, hb0, ?_, hl⟩
  · rw [hn, Int.mul_tdiv_cancel_left _ hg']
  · rw [hd, Int.mul_tdiv_cancel_left _ hg']
  · rw [hn, Int.neg_tdiv, Int.mul_tdiv_cancel_left _ hg']
  · rw [hd, Int.neg_tdiv, Int.mul_tdiv_cancel_left _ hg']
  · rw [hn]; exact mul_natAbs_le hg a
  · rw [hd]; exact mul_natAbs_le hg b
  · rw [hn, Int.natAbs_mul]; simp [Nat.mul_div_cancel_left _ hg]
  · rw [hd, Int.natAbs_mul]; simp [Nat.mul_div_cancel_left _ hg]
  · rw [hn]; exact sgn a
  · rw [hd]; exact sgn b
  · rw [← e]; exact Nat.le_of_dvd (by omega) (Nat.gcd_dvd_right n.natAbs d.natAbs)

section
variable {w : World} {g : Nat} {t : TypeId} {x y : Value}
theorem Blk.set2 (h : Blk w g t #[x, y]) (a b : Value) : Blk ((w.setCell ⟨g, 0, none⟩ a).setCell ⟨g, 1, none⟩ b) g t #[a, b] := by
  simpa using (h.set_ 0 a).set_ 1 b
end
theorem below_set2 {B : Nat} {w w' : World} {g : Nat} (h : Below B w w') (hg : B ≤ g) (a b : Value) : Below B w ((w'.setCell ⟨g, 0, none⟩ a).setCell ⟨g, 1, none⟩ b) :=
  (h.setCell (p := ⟨g, 0, none⟩) hg a).setCell (p := ⟨g, 1, none⟩) hg b
end Go.Rel
