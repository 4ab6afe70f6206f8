/- In range, valid: both sides. -/
import Derived.Test.YtmomjjjfjjgepaaRows
import Derived.Test.YtmomjjjfjjgepaaRegion
import Derived.Test.YtmomjjjfjjgepaaElems
import Derived.Test.YtmomjjjfjjgepaaFieldSpec
import Derived.WalkKit
import Derived.WalkSpells
import Derived.WalkLawsBesides
import Derived.Deep.QuietTactic
import Derived.BigQuiet
namespace Go.Proofs.Ytmomjjjfjjgepaa
open Go.RowKit Go.Rel

theorem in_any (p : Pt) (w : World) (h : p.In64) :
    Calls Try.prog 30 #[p.v] w (Ret w (.bool (inB p.x p.y))) := by
  obtain ⟨x, y⟩ := p
  obtain ⟨h1, h2, h3, h4⟩ := h
  simp only at h1 h2 h3 h4
  go_enter Try.func30, Try.ntmps30
  go_wp2
  all_goals
    go_ret
    refine ret_bool ?_ (below_alloc w _)
    rw [Bool.eq_iff_iff]
    simp [inB]
    try omega

set_option maxHeartbeats 400000 in
theorem inside_any (p : Pt) (w : World) (h : p.In64) :
    Calls Try.prog 28 #[p.v] w (Ret w (.bool (inB p.x p.y))) := by
  obtain ⟨x, y⟩ := p
  obtain ⟨h1, h2, h3, h4⟩ := h
  simp only at h1 h2 h3 h4
  have hmin := @run_imin Try.prog
  have hmax := @run_imax4 Try.prog
  obtain ⟨a, ha⟩ : ∃ a, IntKind.i64.wrap (-x) = a := ⟨_, rfl⟩
  obtain ⟨b, hb⟩ : ∃ b, IntKind.i64.wrap (-y) = b := ⟨_, rfl⟩
  have ea : (-9223372036854775807 ≤ x ∧ a = -x) ∨ (x = -9223372036854775808 ∧ a = x) := by rw [IntKind.wrap_i64] at ha; omega
  have eb : (-9223372036854775807 ≤ y ∧ b = -y) ∨ (y = -9223372036854775808 ∧ b = y) := by rw [IntKind.wrap_i64] at hb; omega
  have HA := Lib.hid ea
  have HB := Lib.hid eb
  clear ea eb
  go_enter Try.func28, Try.ntmps28
  go_wp2
  all_goals
    go_ret
    refine ret_bool ?_ (below_alloc w _)
    have e1 := HA.out
    have e2 := HB.out
    clear hmin hmax HA HB ha hb
    rw [Bool.eq_iff_iff]
    simp [inB, imax_le, le_imin, lt_imax] at *
    try omega

theorem size_any (x : Int) (w : World) (h1 : -4611686018427387904 ≤ x) (h2 : x ≤ 4611686018427387904) :
    Calls Try.prog 39 #[.int .i64 x] w (Same w (.int .i64 (x.natAbs : Int))) := by
  go_enter Try.func39, Try.ntmps39
  go_wp2
  all_goals
    go_ret
    refine same_int ?_
    omega
end Go.Proofs.Ytmomjjjfjjgepaa
