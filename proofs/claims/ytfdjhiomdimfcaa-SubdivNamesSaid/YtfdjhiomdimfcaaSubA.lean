/- Sums of vectors, checks with a degree: both sides. -/
import Derived.Test.YtfdjhiomdimfcaaCurveG
import Derived.Test.YtfdjhiomdimfcaaSubSpec
namespace Go.Rel
open Go.RowKit
/-- All coordinates are numbers that a product and a sum may have. -/
def okV (v : Vec) : Prop := inV 4000000000000000000 v
theorem ret_vec {w w' : World} {x y z : Int} {v : Vec} (hx : x = v.x) (hy : y = v.y) (hz : z = v.z) (hb : Below w.heap.size w w') : Ret w v.v (.returned (.agg #[.int .i64 x, .int .i64 y, .int .i64 z])) w' := ⟨by rw [hx, hy, hz], hb⟩
theorem below_alloc2 (w : World) (o o' : Obj) : Below w.heap.size w ((w.alloc o).alloc o') := (below_alloc w o).alloc (by simp) _
theorem below_alloc3 (w : World) (o o' o2 : Obj) : Below w.heap.size w (((w.alloc o).alloc o').alloc o2) := (below_alloc2 w o o').alloc (by simp; omega) _
end Go.Rel
namespace Go.Proofs.Ytfdjhiomdimfcaa
open Go.RowKit Go.Rel

set_option maxHeartbeats 400000 in
theorem vsum_any (a b : Vec) (n : Int) (w : World) (ha : okV a) (hb : okV (mulV n b)) :
    Calls Try.prog 35 #[a.v, b.v, .int .i64 n] w (Ret w (sumV a b n).v) := by
  obtain ⟨x, y, z⟩ := a
  obtain ⟨x', y', z'⟩ := b
  obtain ⟨X, hX⟩ : ∃ X, n * x' = X := ⟨_, rfl⟩
  obtain ⟨Y, hY⟩ : ∃ Y, n * y' = Y := ⟨_, rfl⟩
  obtain ⟨Z, hZ⟩ : ∃ Z, n * z' = Z := ⟨_, rfl⟩
  simp only [okV, inV, mulV, hX, hY, hZ] at ha hb
  obtain ⟨a1, a2, a3, a4, a5, a6⟩ := ha
  obtain ⟨b1, b2, b3, b4, b5, b6⟩ := hb
  unfold sumV
  rw [hX, hY, hZ]
  go_enter Try.func35, Try.ntmps35
  go_wp2
  refine bodyPost_ret (v := Vec.v ⟨x + X, y + Y, z + Z⟩) (by simp [results, Try.results35, go_sem]) rfl ⟨rfl, (below_alloc3 w _ _ _)⟩

set_option maxHeartbeats 400000 in
theorem times_any (b : Vec) (n : Int) (w : World) (hb : okV (mulV n b)) :
    Calls Try.prog 26 #[.int .i64 n, b.v] w (Ret w (mulV n b).v) := by
  obtain ⟨x', y', z'⟩ := b
  obtain ⟨X, hX⟩ : ∃ X, n * x' = X := ⟨_, rfl⟩
  obtain ⟨Y, hY⟩ : ∃ Y, n * y' = Y := ⟨_, rfl⟩
  obtain ⟨Z, hZ⟩ : ∃ Z, n * z' = Z := ⟨_, rfl⟩
  simp only [okV, inV, mulV, hX, hY, hZ] at hb
  obtain ⟨b1, b2, b3, b4, b5, b6⟩ := hb
  unfold mulV
  rw [hX, hY, hZ]
  go_enter Try.func26, Try.ntmps26
  go_wp2
  refine bodyPost_ret (v := Vec.v ⟨X, Y, Z⟩) (by simp [results, Try.results26, go_sem]) rfl ⟨rfl, (below_alloc2 w _ _)⟩

set_option maxHeartbeats 400000 in
theorem plus_any (a b : Vec) (w : World) (ha : okV a) (hb : okV b) :
    Calls Try.prog 28 #[a.v, b.v] w (Ret w (addV a b).v) := by
  obtain ⟨x, y, z⟩ := a
  obtain ⟨X, Y, Z⟩ := b
  simp only [okV, inV] at ha hb
  obtain ⟨a1, a2, a3, a4, a5, a6⟩ := ha
  obtain ⟨b1, b2, b3, b4, b5, b6⟩ := hb
  unfold addV
  go_enter Try.func28, Try.ntmps28
  go_wp2
  refine bodyPost_ret (v := Vec.v ⟨x + X, y + Y, z + Z⟩) (by simp [results, Try.results28, go_sem]) rfl ⟨rfl, (below_alloc3 w _ _ _)⟩

set_option maxHeartbeats 400000 in
theorem checked_any (A : Option Addr) (n cap : Nat) (l : List Vec) (down d : Int) (closed : Bool) (w : World) (hn : l.length = n) (hl : n ≤ 4611686018427387904) (hv : Vecs w w.heap.size A l) (hd : -9223372036854775808 ≤ d ∧ d ≤ 9223372036854775807) :
    Calls Try.prog 34 #[.agg #[.slice A n cap, .int .i64 down, .bool closed], .int .i64 d] w (Ret w (.int .i64 (checkedE l down d))) := by
  obtain ⟨E, hE⟩ : ∃ E, checkE l down = E := ⟨_, rfl⟩
  have hE' : E = 0 ∨ E = 8 := by rw [← hE]; unfold checkE; split <;> omega
  have hC : checkedE l down d = if E = 0 then (if degOk d then 0 else 2) else E := by
    rw [← hE]; unfold checkedE checkE; split <;> simp
  rw [hC]
  have hck := check_n A n cap l down closed
  rw [hE] at hck
  obtain ⟨d1, d2⟩ := hd
  have HN := Lib.hid hn
  clear hC hE hn
  rcases hE' with rfl | rfl
  · by_cases hdeg : 1 ≤ d ∧ d ≤ 3
    · have e0 : (if degOk d then (0 : Int) else 2) = 0 := if_pos hdeg
      rw [if_pos rfl, e0]
      obtain ⟨g1, g2⟩ := hdeg
      clear e0
      go_enter Try.func34, Try.ntmps34
      go_wp2_with (go_at_call 21; refine (hck _ HN.out hl ?_).mono ?_; exact (hv.below (below_alloc w _)).more (by simp); rintro e w1 ⟨rfl, hb1⟩)
      go_ret
      exact ret_int rfl ((below_alloc w _).trans (hb1.mono (by simp)))
    · have e0 : (if degOk d then (0 : Int) else 2) = 2 := if_neg hdeg
      rw [if_pos rfl, e0]
      clear e0
      go_enter Try.func34, Try.ntmps34
      go_wp2_with (go_at_call 21; refine (hck _ HN.out hl ?_).mono ?_; exact (hv.below (below_alloc w _)).more (by simp); rintro e w1 ⟨rfl, hb1⟩)
      all_goals first | (exfalso; apply hdeg; omega) | skip
      all_goals
        go_ret
        exact ret_int rfl ((below_alloc w _).trans (hb1.mono (by simp)))
  · rw [if_neg (by decide)]
    go_enter Try.func34, Try.ntmps34
    go_wp2_with (go_at_call 21; refine (hck _ HN.out hl ?_).mono ?_; exact (hv.below (below_alloc w _)).more (by simp); rintro e w1 ⟨rfl, hb1⟩)
    go_ret
    exact ret_int rfl ((below_alloc w _).trans (hb1.mono (by simp)))
end Go.Proofs.Ytfdjhiomdimfcaa
