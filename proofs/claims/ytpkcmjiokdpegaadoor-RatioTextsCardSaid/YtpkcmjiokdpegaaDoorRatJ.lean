/- Sub, Mul, Div on both sides: what they give, for any two ratios of 64 bits. -/
import Derived.Test.YtpkcmjiokdpegaaDoorRatG
namespace Go.Proofs.YtpkcmjiokdpegaaDoor
open Go.RowKit Go.Rel

/-! ### Sub -/
set_option maxHeartbeats 1000000 in
theorem opSub1 (a b : Rat2) (w : World) (ha : RatOk a) (hb : RatOk b) :
    Calls Tryd.prog 32 #[a.v, b.v] w (Ret w (.tuple #[.int .i64 (a.n * b.d - b.n * a.d), .int .i64 (a.d * b.d)])) := by
  obtain ⟨a1, a2, a3, a4⟩ := ratOk_bounds ha
  obtain ⟨b1, b2, b3, b4⟩ := ratOk_bounds hb
  have m1 := mul_bound a1 a2 b1 b2
  have m2 := mul_bound a1 a2 (show -1000000000 ≤ b.d by omega) b4
  have m3 := mul_bound b1 b2 (show -1000000000 ≤ a.d by omega) a4
  have m4 := mul_bound (show -1000000000 ≤ a.d by omega) a4 (show -1000000000 ≤ b.d by omega) b4
  have m5 := mul_bound (show -1000000000 ≤ a.d by omega) a4 b1 b2
  clear ha hb a1 a2 a3 a4 b1 b2 b3 b4
  obtain ⟨m1, m1'⟩ := m1
  obtain ⟨m2, m2'⟩ := m2
  obtain ⟨m3, m3'⟩ := m3
  obtain ⟨m4, m4'⟩ := m4
  obtain ⟨m5, m5'⟩ := m5
  obtain ⟨an, ad⟩ := a
  obtain ⟨bn, bd⟩ := b
  simp only at *
  obtain ⟨x1, x2, x3, x4⟩ := boxes2 w #[.int .i64 an, .int .i64 ad] #[.int .i64 bn, .int .i64 bd] 23 23
  have hx := Lib.hid (show _ ∧ _ ∧ _ ∧ _ from ⟨x1, x2, x3, x4⟩)
  clear x1 x2 x3 x4
  go_enter Tryd.func32, Tryd.ntmps32
  go_wp2_with fail
  obtain ⟨x1, x2, x3, x4⟩ := hx.out
  generalize World.alloc _ _ = w0 at x1 x2 x3 x4 ⊢
  have y0 := Blk.cell (i := 0) x3 rfl
  have y1 := Blk.cell (i := 1) x3 rfl
  have z0 := Blk.cell (i := 0) x4 rfl
  have z1 := Blk.cell (i := 1) x4 rfl
  clear x2 x3 x4
  go_quiet (fail)
  go_wp2_with fail
  go_ret2
  exact ⟨rfl, below_drewN x1 _⟩

def opSubR (a b : Rat2) : Rat2 := runV a b (a.n * b.d - b.n * a.d) (a.d * b.d)
def opSubE (a b : Rat2) : Int := runE a b (a.n * b.d - b.n * a.d) (a.d * b.d)

set_option maxHeartbeats 1000000 in
theorem opSub_any (a b : Rat2) (w : World) (ha : Rat64 a) (hb : Rat64 b) :
    Calls Tryd.prog 14 #[a.v, b.v] w (Ret w (.tuple #[(opSubR a b).v, .int .i64 (opSubE a b)])) := by
  have hF : RatOk a ∧ RatOk b → (-9223372036854775808 ≤ (a.n * b.d - b.n * a.d) ∧ (a.n * b.d - b.n * a.d) ≤ 9223372036854775807 ∧ -9223372036854775808 ≤ (a.d * b.d) ∧ (a.d * b.d) ≤ 9223372036854775807) ∧ ∀ w, Calls Tryd.prog 32 #[a.v, b.v] w (Ret w (.tuple #[.int .i64 (a.n * b.d - b.n * a.d), .int .i64 (a.d * b.d)])) := fun h => by
    obtain ⟨a1, a2, a3, a4⟩ := ratOk_bounds h.1
    obtain ⟨b1, b2, b3, b4⟩ := ratOk_bounds h.2
    have m1 := mul_bound a1 a2 b1 b2
    have m2 := mul_bound a1 a2 (show -1000000000 ≤ b.d by omega) b4
    have m3 := mul_bound b1 b2 (show -1000000000 ≤ a.d by omega) a4
    have m4 := mul_bound (show -1000000000 ≤ a.d by omega) a4 (show -1000000000 ≤ b.d by omega) b4
    have m5 := mul_bound (show -1000000000 ≤ a.d by omega) a4 b1 b2
    exact ⟨⟨by omega, by omega, by omega, by omega⟩, fun w => opSub1 a b w h.1 h.2⟩
  have hcf : ∀ (args : Array Value) (w : World), (callFunc 32 args).run Tryd.prog w = .ok (.enter 32 args) w := fun args w => by simp [go_sem]
  have key := fun w => run_any 32 a b (a.n * b.d - b.n * a.d) (a.d * b.d) w ha hb hcf hF
  clear hF hcf
  obtain ⟨x1, x2, x3, x4, x5⟩ := boxes3 w #[.int .i64 a.n, .int .i64 a.d] #[.int .i64 b.n, .int .i64 b.d] #[.int .i64 0, .int .i64 0] 23 23 23
  have hx := Lib.hid (show _ ∧ _ ∧ _ from ⟨x1, x2, x5⟩)
  clear x1 x2 x3 x4 x5
  go_enter Tryd.func14, Tryd.ntmps14
  go_wp2_with fail
  obtain ⟨x1, x2, x5⟩ := hx.out
  generalize World.alloc _ _ = w0 at x1 x2 x5 ⊢
  replace x5 : Blk w0 _ _ _ := x5
  refine (key _).mono ?_
  rintro e w1 ⟨rfl, hb1⟩
  replace x1 := x1.trans (hb1.mono (by omega))
  replace x5 := x5.keep hb1
  have y0 := x5.cell (i := 0) rfl
  have y1 := x5.cell (i := 1) rfl
  have y2 := x5.frozen
  have f0 := x5.set2 (.int .i64 (opSubR a b).n) (.int .i64 (opSubR a b).d)
  have k0 := f0.cell (i := 0) rfl
  have k1 := f0.cell (i := 1) rfl
  clear x2 hb1 hx key
  go_wp2_with fail
  refine bodyPost_ret (v := .tuple #[(opSubR a b).v, .int .i64 (opSubE a b)]) ?_ rfl ⟨rfl, below_set2 x1 (by omega) _ _⟩
  simp only [opSubR] at k0 k1
  simp [results, Tryd.results14, go_sem, k0, k1, opSubR, opSubE]

/-! ### Mul -/
set_option maxHeartbeats 1000000 in
theorem opMul1 (a b : Rat2) (w : World) (ha : RatOk a) (hb : RatOk b) :
    Calls Tryd.prog 31 #[a.v, b.v] w (Ret w (.tuple #[.int .i64 (a.n * b.n), .int .i64 (a.d * b.d)])) := by
  obtain ⟨a1, a2, a3, a4⟩ := ratOk_bounds ha
  obtain ⟨b1, b2, b3, b4⟩ := ratOk_bounds hb
  have m1 := mul_bound a1 a2 b1 b2
  have m2 := mul_bound a1 a2 (show -1000000000 ≤ b.d by omega) b4
  have m3 := mul_bound b1 b2 (show -1000000000 ≤ a.d by omega) a4
  have m4 := mul_bound (show -1000000000 ≤ a.d by omega) a4 (show -1000000000 ≤ b.d by omega) b4
  have m5 := mul_bound (show -1000000000 ≤ a.d by omega) a4 b1 b2
  clear ha hb a1 a2 a3 a4 b1 b2 b3 b4
  obtain ⟨m1, m1'⟩ := m1
  obtain ⟨m2, m2'⟩ := m2
  obtain ⟨m3, m3'⟩ := m3
  obtain ⟨m4, m4'⟩ := m4
  obtain ⟨m5, m5'⟩ := m5
  obtain ⟨an, ad⟩ := a
  obtain ⟨bn, bd⟩ := b
  simp only at *
  obtain ⟨x1, x2, x3, x4⟩ := boxes2 w #[.int .i64 an, .int .i64 ad] #[.int .i64 bn, .int .i64 bd] 23 23
  have hx := Lib.hid (show _ ∧ _ ∧ _ ∧ _ from ⟨x1, x2, x3, x4⟩)
  clear x1 x2 x3 x4
  go_enter Tryd.func31, Tryd.ntmps31
  go_wp2_with fail
  obtain ⟨x1, x2, x3, x4⟩ := hx.out
  generalize World.alloc _ _ = w0 at x1 x2 x3 x4 ⊢
  have y0 := Blk.cell (i := 0) x3 rfl
  have y1 := Blk.cell (i := 1) x3 rfl
  have z0 := Blk.cell (i := 0) x4 rfl
  have z1 := Blk.cell (i := 1) x4 rfl
  clear x2 x3 x4
  go_quiet (fail)
  go_wp2_with fail
  go_ret2
  exact ⟨rfl, below_drewN x1 _⟩

def opMulR (a b : Rat2) : Rat2 := runV a b (a.n * b.n) (a.d * b.d)
def opMulE (a b : Rat2) : Int := runE a b (a.n * b.n) (a.d * b.d)

set_option maxHeartbeats 1000000 in
theorem opMul_any (a b : Rat2) (w : World) (ha : Rat64 a) (hb : Rat64 b) :
    Calls Tryd.prog 13 #[a.v, b.v] w (Ret w (.tuple #[(opMulR a b).v, .int .i64 (opMulE a b)])) := by
  have hF : RatOk a ∧ RatOk b → (-9223372036854775808 ≤ (a.n * b.n) ∧ (a.n * b.n) ≤ 9223372036854775807 ∧ -9223372036854775808 ≤ (a.d * b.d) ∧ (a.d * b.d) ≤ 9223372036854775807) ∧ ∀ w, Calls Tryd.prog 31 #[a.v, b.v] w (Ret w (.tuple #[.int .i64 (a.n * b.n), .int .i64 (a.d * b.d)])) := fun h => by
    obtain ⟨a1, a2, a3, a4⟩ := ratOk_bounds h.1
    obtain ⟨b1, b2, b3, b4⟩ := ratOk_bounds h.2
    have m1 := mul_bound a1 a2 b1 b2
    have m2 := mul_bound a1 a2 (show -1000000000 ≤ b.d by omega) b4
    have m3 := mul_bound b1 b2 (show -1000000000 ≤ a.d by omega) a4
    have m4 := mul_bound (show -1000000000 ≤ a.d by omega) a4 (show -1000000000 ≤ b.d by omega) b4
    have m5 := mul_bound (show -1000000000 ≤ a.d by omega) a4 b1 b2
    exact ⟨⟨by omega, by omega, by omega, by omega⟩, fun w => opMul1 a b w h.1 h.2⟩
  have hcf : ∀ (args : Array Value) (w : World), (callFunc 31 args).run Tryd.prog w = .ok (.enter 31 args) w := fun args w => by simp [go_sem]
  have key := fun w => run_any 31 a b (a.n * b.n) (a.d * b.d) w ha hb hcf hF
  clear hF hcf
  obtain ⟨x1, x2, x3, x4, x5⟩ := boxes3 w #[.int .i64 a.n, .int .i64 a.d] #[.int .i64 b.n, .int .i64 b.d] #[.int .i64 0, .int .i64 0] 23 23 23
  have hx := Lib.hid (show _ ∧ _ ∧ _ from ⟨x1, x2, x5⟩)
  clear x1 x2 x3 x4 x5
  go_enter Tryd.func13, Tryd.ntmps13
  go_wp2_with fail
  obtain ⟨x1, x2, x5⟩ := hx.out
  generalize World.alloc _ _ = w0 at x1 x2 x5 ⊢
  replace x5 : Blk w0 _ _ _ := x5
  refine (key _).mono ?_
  rintro e w1 ⟨rfl, hb1⟩
  replace x1 := x1.trans (hb1.mono (by omega))
  replace x5 := x5.keep hb1
  have y0 := x5.cell (i := 0) rfl
  have y1 := x5.cell (i := 1) rfl
  have y2 := x5.frozen
  have f0 := x5.set2 (.int .i64 (opMulR a b).n) (.int .i64 (opMulR a b).d)
  have k0 := f0.cell (i := 0) rfl
  have k1 := f0.cell (i := 1) rfl
  clear x2 hb1 hx key
  go_wp2_with fail
  refine bodyPost_ret (v := .tuple #[(opMulR a b).v, .int .i64 (opMulE a b)]) ?_ rfl ⟨rfl, below_set2 x1 (by omega) _ _⟩
  simp only [opMulR] at k0 k1
  simp [results, Tryd.results13, go_sem, k0, k1, opMulR, opMulE]

/-! ### Div -/
set_option maxHeartbeats 1000000 in
theorem opDiv1 (a b : Rat2) (w : World) (ha : RatOk a) (hb : RatOk b) :
    Calls Tryd.prog 33 #[a.v, b.v] w (Ret w (.tuple #[.int .i64 (a.n * b.d), .int .i64 (a.d * b.n)])) := by
  obtain ⟨a1, a2, a3, a4⟩ := ratOk_bounds ha
  obtain ⟨b1, b2, b3, b4⟩ := ratOk_bounds hb
  have m1 := mul_bound a1 a2 b1 b2
  have m2 := mul_bound a1 a2 (show -1000000000 ≤ b.d by omega) b4
  have m3 := mul_bound b1 b2 (show -1000000000 ≤ a.d by omega) a4
  have m4 := mul_bound (show -1000000000 ≤ a.d by omega) a4 (show -1000000000 ≤ b.d by omega) b4
  have m5 := mul_bound (show -1000000000 ≤ a.d by omega) a4 b1 b2
  clear ha hb a1 a2 a3 a4 b1 b2 b3 b4
  obtain ⟨m1, m1'⟩ := m1
  obtain ⟨m2, m2'⟩ := m2
  obtain ⟨m3, m3'⟩ := m3
  obtain ⟨m4, m4'⟩ := m4
  obtain ⟨m5, m5'⟩ := m5
  obtain ⟨an, ad⟩ := a
  obtain ⟨bn, bd⟩ := b
  simp only at *
  obtain ⟨x1, x2, x3, x4⟩ := boxes2 w #[.int .i64 an, .int .i64 ad] #[.int .i64 bn, .int .i64 bd] 23 23
  have hx := Lib.hid (show _ ∧ _ ∧ _ ∧ _ from ⟨x1, x2, x3, x4⟩)
  clear x1 x2 x3 x4
  go_enter Tryd.func33, Tryd.ntmps33
  go_wp2_with fail
  obtain ⟨x1, x2, x3, x4⟩ := hx.out
  generalize World.alloc _ _ = w0 at x1 x2 x3 x4 ⊢
  have y0 := Blk.cell (i := 0) x3 rfl
  have y1 := Blk.cell (i := 1) x3 rfl
  have z0 := Blk.cell (i := 0) x4 rfl
  have z1 := Blk.cell (i := 1) x4 rfl
  clear x2 x3 x4
  go_quiet (fail)
  go_wp2_with fail
  go_ret2
  exact ⟨rfl, below_drewN x1 _⟩

def opDivR (a b : Rat2) : Rat2 := runV a b (a.n * b.d) (a.d * b.n)
def opDivE (a b : Rat2) : Int := runE a b (a.n * b.d) (a.d * b.n)

set_option maxHeartbeats 1000000 in
theorem opDiv_any (a b : Rat2) (w : World) (ha : Rat64 a) (hb : Rat64 b) :
    Calls Tryd.prog 15 #[a.v, b.v] w (Ret w (.tuple #[(opDivR a b).v, .int .i64 (opDivE a b)])) := by
  have hF : RatOk a ∧ RatOk b → (-9223372036854775808 ≤ (a.n * b.d) ∧ (a.n * b.d) ≤ 9223372036854775807 ∧ -9223372036854775808 ≤ (a.d * b.n) ∧ (a.d * b.n) ≤ 9223372036854775807) ∧ ∀ w, Calls Tryd.prog 33 #[a.v, b.v] w (Ret w (.tuple #[.int .i64 (a.n * b.d), .int .i64 (a.d * b.n)])) := fun h => by
    obtain ⟨a1, a2, a3, a4⟩ := ratOk_bounds h.1
    obtain ⟨b1, b2, b3, b4⟩ := ratOk_bounds h.2
    have m1 := mul_bound a1 a2 b1 b2
    have m2 := mul_bound a1 a2 (show -1000000000 ≤ b.d by omega) b4
    have m3 := mul_bound b1 b2 (show -1000000000 ≤ a.d by omega) a4
    have m4 := mul_bound (show -1000000000 ≤ a.d by omega) a4 (show -1000000000 ≤ b.d by omega) b4
    have m5 := mul_bound (show -1000000000 ≤ a.d by omega) a4 b1 b2
    exact ⟨⟨by omega, by omega, by omega, by omega⟩, fun w => opDiv1 a b w h.1 h.2⟩
  have hcf : ∀ (args : Array Value) (w : World), (callFunc 33 args).run Tryd.prog w = .ok (.enter 33 args) w := fun args w => by simp [go_sem]
  have key := fun w => run_any 33 a b (a.n * b.d) (a.d * b.n) w ha hb hcf hF
  clear hF hcf
  obtain ⟨x1, x2, x3, x4, x5⟩ := boxes3 w #[.int .i64 a.n, .int .i64 a.d] #[.int .i64 b.n, .int .i64 b.d] #[.int .i64 0, .int .i64 0] 23 23 23
  have hx := Lib.hid (show _ ∧ _ ∧ _ from ⟨x1, x2, x5⟩)
  clear x1 x2 x3 x4 x5
  go_enter Tryd.func15, Tryd.ntmps15
  go_wp2_with fail
  obtain ⟨x1, x2, x5⟩ := hx.out
  generalize World.alloc _ _ = w0 at x1 x2 x5 ⊢
  replace x5 : Blk w0 _ _ _ := x5
  refine (key _).mono ?_
  rintro e w1 ⟨rfl, hb1⟩
  replace x1 := x1.trans (hb1.mono (by omega))
  replace x5 := x5.keep hb1
  have y0 := x5.cell (i := 0) rfl
  have y1 := x5.cell (i := 1) rfl
  have y2 := x5.frozen
  have f0 := x5.set2 (.int .i64 (opDivR a b).n) (.int .i64 (opDivR a b).d)
  have k0 := f0.cell (i := 0) rfl
  have k1 := f0.cell (i := 1) rfl
  clear x2 hb1 hx key
  go_wp2_with fail
  refine bodyPost_ret (v := .tuple #[(opDivR a b).v, .int .i64 (opDivE a b)]) ?_ rfl ⟨rfl, below_set2 x1 (by omega) _ _⟩
  simp only [opDivR] at k0 k1
  simp [results, Tryd.results15, go_sem, k0, k1, opDivR, opDivE]

end Go.Proofs.YtpkcmjiokdpegaaDoor
