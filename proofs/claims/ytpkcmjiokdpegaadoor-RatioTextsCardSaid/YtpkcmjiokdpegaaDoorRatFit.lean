/- Whether two ratios are valid. -/
import Derived.Test.YtpkcmjiokdpegaaDoorRatG
import Derived.Test.YtpkcmjiokdpegaaDoorRatL
namespace Go.Proofs.YtpkcmjiokdpegaaDoor
open Go.RowKit Go.Rel

theorem or_zero (a b : Rat2) : (orE (ratE a) (ratE b) == 0) = decide (RatOk a ∧ RatOk b) := by
  by_cases h : RatOk a ∧ RatOk b
  · rw [or_ok h, decide_eq_true h]; rfl
  · rw [or_bad h, decide_eq_false h]; rfl
theorem fit_any (a b : Rat2) (w : World) (ha : Rat64 a) (hb : Rat64 b) :
    Calls Tryd.prog 11 #[a.v, b.v] w (Ret w (.bool (decide (RatOk a ∧ RatOk b)))) := by
  obtain ⟨x1, x2, x3, x4⟩ := boxes2 w #[.int .i64 a.n, .int .i64 a.d] #[.int .i64 b.n, .int .i64 b.d] 23 23
  have h := fun W => both_any a b W ha hb
  have hz := or_zero a b
  obtain ⟨E, hE⟩ : ∃ E, orE (ratE a) (ratE b) = E := ⟨_, rfl⟩
  rw [hE] at h hz
  obtain ⟨bz, hbz⟩ : ∃ bz, decide (RatOk a ∧ RatOk b) = bz := ⟨_, rfl⟩
  rw [hbz] at hz
  rw [hbz]
  have HH := Lib.hid h
  clear h hE hbz x2 x3 x4
  go_enter Tryd.func11, Tryd.ntmps11
  go_wp2_with fail
  generalize World.alloc (World.alloc _ _) _ = w0 at x1 ⊢
  refine (HH.out _).mono ?_
  rintro e w1 ⟨rfl, hb1⟩
  replace x1 := x1.trans (hb1.mono x1.size)
  clear hb1 HH
  go_wp2_with fail
  go_ret
  exact ret_bool rfl x1
end Go.Proofs.YtpkcmjiokdpegaaDoor
