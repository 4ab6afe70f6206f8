/- Add, Sub, Mul, Div on both sides: what they give, for any two ratios of 64 bits. -/
import Derived.Test.YtjgampkpfjbmdaaRatF
namespace Go.Proofs.Ytjgampkpfjbmdaa
open Go.RowKit Go.Rel

theorem mul_bound {x y : Int} (h1 : -1000000000 ≤ x) (h2 : x ≤ 1000000000) (h3 : -1000000000 ≤ y) (h4 : y ≤ 1000000000) : -1000000000000000000 ≤ x * y ∧ x * y ≤ 1000000000000000000 := by
  have h : (x * y).natAbs ≤ 1000000000 * 1000000000 := by
    rw [Int.natAbs_mul]
    exact Nat.mul_le_mul (by omega) (by omega)
  omega

theorem ratOk_bounds {a : Rat2} (h : RatOk a) : -1000000000 ≤ a.n ∧ a.n ≤ 1000000000 ∧ 1 ≤ a.d ∧ a.d ≤ 1000000000 := ⟨h.2.2.1, h.2.2.2.1, h.1, h.2.1⟩

/-- The reference's Make, neither number the least one. -/
theorem refMake_small (n d : Int) (w : World) (hn : -9223372036854775807 ≤ n) (hn' : n ≤ 9223372036854775807) (hd : -9223372036854775807 ≤ d) (hd' : d ≤ 9223372036854775807) :
    Calls Try.prog 41 #[.int .i64 n, .int .i64 d] w (Ret w (.tuple #[(makeR n d).v, .int .i64 (makeE n d)])) := by
  rcases Int.lt_trichotomy d 0 with h | h | h
  · exact refMake_neg n d w hn hn' hd hd' h
  · subst h; exact refMake_zero n w
  · exact refMake_pos n d w hn hn' hd hd' h

set_option maxHeartbeats 1000000 in
theorem both_any (a b : Rat2) (w : World) (ha : Rat64 a) (hb : Rat64 b) :
    Calls Try.prog 40 #[a.v, b.v] w (Ret w (.int .i64 (orE (ratE a) (ratE b)))) := by
  obtain ⟨x1, x2, x3, x4⟩ := boxes2 w #[.int .i64 a.n, .int .i64 a.d] #[.int .i64 b.n, .int .i64 b.d] 23 23
  have hx := Lib.hid (show _ ∧ _ ∧ _ ∧ _ from ⟨x1, x2, x3, x4⟩)
  clear x1 x2 x3 x4
  have hE : (ratE a = 0 ∧ orE (ratE a) (ratE b) = ratE b) ∨ (ratE a = 8 ∧ orE (ratE a) (ratE b) = 8) := by
    by_cases h : RatOk a
    · rw [ratE_ok h]; exact .inl ⟨rfl, rfl⟩
    · rw [ratE_bad h]; exact .inr ⟨rfl, rfl⟩
  have HE := Lib.hid hE
  clear hE
  go_enter Try.func40, Try.ntmps40
  go_wp2_with fail
  obtain ⟨x1, x2, x3, x4⟩ := hx.out
  generalize World.alloc _ _ = w0 at x1 x2 x3 x4 ⊢
  replace x3 : Blk w0 _ _ _ := x3
  replace x4 : Blk w0 _ _ _ := x4
  refine (refRatCheck_any a _ ha.1 ha.2.1 ha.2.2.1 ha.2.2.2).mono ?_
  rintro e w1 ⟨rfl, hb1⟩
  replace x1 := x1.trans (hb1.mono (by omega))
  replace x3 := x3.keep hb1
  replace x4 := x4.keep hb1
  clear x2 hb1
  have y0 := x3.cell (i := 0) rfl
  have y1 := x3.cell (i := 1) rfl
  have z0 := x4.cell (i := 0) rfl
  have z1 := x4.cell (i := 1) rfl
  rcases HE.out with ⟨h1, h2⟩ | ⟨h1, h2⟩
  · rw [h1]
    have H2 := Lib.hid h2
    clear h1 h2
    go_wp2_with fail
    refine (refRatCheck_any b _ hb.1 hb.2.1 hb.2.2.1 hb.2.2.2).mono ?_
    rintro e w2 ⟨rfl, hb2⟩
    go_wp2_with fail
    go_ret
    exact ret_int H2.out.symm (x1.trans (hb2.mono x1.size))
  · have H1 := Lib.hid h1
    have H2 := Lib.hid h2
    rw [h1]
    clear h1 h2
    go_wp2_with fail
    refine (refRatCheck_any a _ ha.1 ha.2.1 ha.2.2.1 ha.2.2.2).mono ?_
    rintro e w2 ⟨rfl, hb2⟩
    rw [H1.out]
    go_wp2_with fail
    go_ret
    exact ret_int H2.out.symm (x1.trans (hb2.mono x1.size))

/-! ### Add -/
set_option maxHeartbeats 1000000 in
theorem opAdd1 (a b : Rat2) (w : World) (ha : RatOk a) (hb : RatOk b) :
    Calls Try.prog 39 #[a.v, b.v] w (Ret w (.tuple #[.int .i64 (a.n * b.d + b.n * a.d), .int .i64 (a.d * b.d)])) := by
  obtain ⟨a1, a2, a3, a4⟩ := ratOk_bounds ha
  obtain ⟨b1, b2, b3, b4⟩ := ratOk_bounds hb
  have m1 := mul_bound a1 a2 b1 b2
  have m2 := mul_bound a1 a2 (show -1000000000 ≤ b.d by omega) b4
  have m3 := mul_bound b1 b2 (show -1000000000 ≤ a.d by omega) a4
  have m4 := mul_bound (show -1000000000 ≤ a.d by omega) a4 (show -1000000000 ≤ b.d by omega) b4
  have m5 := mul_bound (show -1000000000 ≤ a.d by omega) a4 b1 b2
  clear ha hb a1 a2 a3 a4 b1 b2 b3 b4
  obtain ⟨m1, m1'⟩ := m1
  obtain ⟨m2, m2'⟩ := m2
  obtain ⟨m3, m3'⟩ := m3
  obtain ⟨m4, m4'⟩ := m4
  obtain ⟨m5, m5'⟩ := m5
  obtain ⟨an, ad⟩ := a
  obtain ⟨bn, bd⟩ := b
  simp only at *
  obtain ⟨x1, x2, x3, x4⟩ := boxes2 w #[.int .i64 an, .int .i64 ad] #[.int .i64 bn, .int .i64 bd] 23 23
  have hx := Lib.hid (show _ ∧ _ ∧ _ ∧ _ from ⟨x1, x2, x3, x4⟩)
  clear x1 x2 x3 x4
  go_enter Try.func39, Try.ntmps39
  go_wp2_with fail
  obtain ⟨x1, x2, x3, x4⟩ := hx.out
  generalize World.alloc _ _ = w0 at x1 x2 x3 x4 ⊢
  have y0 := Blk.cell (i := 0) x3 rfl
  have y1 := Blk.cell (i := 1) x3 rfl
  have z0 := Blk.cell (i := 0) x4 rfl
  have z1 := Blk.cell (i := 1) x4 rfl
  clear x2 x3 x4
  go_quiet (fail)
  go_wp2_with fail
  go_ret2
  exact ⟨rfl, below_drewN x1 _⟩

def opAddR (a b : Rat2) : Rat2 := runV a b (a.n * b.d + b.n * a.d) (a.d * b.d)
def opAddE (a b : Rat2) : Int := runE a b (a.n * b.d + b.n * a.d) (a.d * b.d)

set_option maxHeartbeats 1000000 in
theorem opAdd_any (a b : Rat2) (w : World) (ha : Rat64 a) (hb : Rat64 b) :
    Calls Try.prog 30 #[a.v, b.v] w (Ret w (.tuple #[(opAddR a b).v, .int .i64 (opAddE a b)])) := by
  have hF : RatOk a ∧ RatOk b → (-9223372036854775808 ≤ (a.n * b.d + b.n * a.d) ∧ (a.n * b.d + b.n * a.d) ≤ 9223372036854775807 ∧ -9223372036854775808 ≤ (a.d * b.d) ∧ (a.d * b.d) ≤ 9223372036854775807) ∧ ∀ w, Calls Try.prog 39 #[a.v, b.v] w (Ret w (.tuple #[.int .i64 (a.n * b.d + b.n * a.d), .int .i64 (a.d * b.d)])) := fun h => by
    obtain ⟨a1, a2, a3, a4⟩ := ratOk_bounds h.1
    obtain ⟨b1, b2, b3, b4⟩ := ratOk_bounds h.2
    have m1 := mul_bound a1 a2 b1 b2
    have m2 := mul_bound a1 a2 (show -1000000000 ≤ b.d by omega) b4
    have m3 := mul_bound b1 b2 (show -1000000000 ≤ a.d by omega) a4
    have m4 := mul_bound (show -1000000000 ≤ a.d by omega) a4 (show -1000000000 ≤ b.d by omega) b4
    have m5 := mul_bound (show -1000000000 ≤ a.d by omega) a4 b1 b2
    exact ⟨⟨by omega, by omega, by omega, by omega⟩, fun w => opAdd1 a b w h.1 h.2⟩
  have hcf : ∀ (args : Array Value) (w : World), (callFunc 39 args).run Try.prog w = .ok (.enter 39 args) w := fun args w => by simp [go_sem]
  have key := fun w => run_any 39 a b (a.n * b.d + b.n * a.d) (a.d * b.d) w ha hb hcf hF
  clear hF hcf
  obtain ⟨x1, x2, x3, x4, x5⟩ := boxes3 w #[.int .i64 a.n, .int .i64 a.d] #[.int .i64 b.n, .int .i64 b.d] #[.int .i64 0, .int .i64 0] 23 23 23
  have hx := Lib.hid (show _ ∧ _ ∧ _ from ⟨x1, x2, x5⟩)
  clear x1 x2 x3 x4 x5
  go_enter Try.func30, Try.ntmps30
  go_wp2_with fail
  obtain ⟨x1, x2, x5⟩ := hx.out
  generalize World.alloc _ _ = w0 at x1 x2 x5 ⊢
  replace x5 : Blk w0 _ _ _ := x5
  refine (key _).mono ?_
  rintro e w1 ⟨rfl, hb1⟩
  replace x1 := x1.trans (hb1.mono (by omega))
  replace x5 := x5.keep hb1
  have y0 := x5.cell (i := 0) rfl
  have y1 := x5.cell (i := 1) rfl
  have y2 := x5.frozen
  have f0 := x5.set2 (.int .i64 (opAddR a b).n) (.int .i64 (opAddR a b).d)
  have k0 := f0.cell (i := 0) rfl
  have k1 := f0.cell (i := 1) rfl
  clear x2 hb1 hx key
  go_wp2_with fail
  refine bodyPost_ret (v := .tuple #[(opAddR a b).v, .int .i64 (opAddE a b)]) ?_ rfl ⟨rfl, below_set2 x1 (by omega) _ _⟩
  simp only [opAddR] at k0 k1
  simp [results, Try.results30, go_sem, k0, k1, opAddR, opAddE]

set_option maxHeartbeats 1000000 in
theorem refAdd_any (a b : Rat2) (w : World) (ha : Rat64 a) (hb : Rat64 b) :
    Calls Try.prog 32 #[a.v, b.v] w (Ret w (.tuple #[(opAddR a b).v, .int .i64 (opAddE a b)])) := by
  obtain ⟨x1, x2, x3, x4, x5⟩ := boxes3 w #[.int .i64 a.n, .int .i64 a.d] #[.int .i64 b.n, .int .i64 b.d] #[.int .i64 0, .int .i64 0] 23 23 23
  have hx := Lib.hid (show _ ∧ _ ∧ _ ∧ _ ∧ _ from ⟨x1, x2, x3, x4, x5⟩)
  clear x1 x2 x3 x4 x5
  by_cases hok : RatOk a ∧ RatOk b
  · obtain ⟨a1, a2, a3, a4⟩ := ratOk_bounds hok.1
    obtain ⟨b1, b2, b3, b4⟩ := ratOk_bounds hok.2
    have m1 := mul_bound a1 a2 b1 b2
    have m2 := mul_bound a1 a2 (show -1000000000 ≤ b.d by omega) b4
    have m3 := mul_bound b1 b2 (show -1000000000 ≤ a.d by omega) a4
    have m4 := mul_bound (show -1000000000 ≤ a.d by omega) a4 (show -1000000000 ≤ b.d by omega) b4
    have m5 := mul_bound (show -1000000000 ≤ a.d by omega) a4 b1 b2
    obtain ⟨m1, m1'⟩ := m1
    obtain ⟨m2, m2'⟩ := m2
    obtain ⟨m3, m3'⟩ := m3
    obtain ⟨m4, m4'⟩ := m4
    obtain ⟨m5, m5'⟩ := m5
    have HY := Lib.hid (run_yes (a.n * b.d + b.n * a.d) (a.d * b.d) hok)
    clear hok a1 a2 a3 a4 b1 b2 b3 b4
    go_enter Try.func32, Try.ntmps32
    go_wp2_with fail
    obtain ⟨x1, x2, x3, x4, x5⟩ := hx.out
    generalize World.alloc _ _ = w0 at x1 x2 x3 x4 x5 ⊢
    replace x3 : Blk w0 _ _ #[.int .i64 a.n, .int .i64 a.d] := x3
    replace x4 : Blk w0 _ _ #[.int .i64 b.n, .int .i64 b.d] := x4
    replace x5 : Blk w0 _ _ #[.int .i64 0, .int .i64 0] := x5
    refine (both_any a b _ ha hb).mono ?_
    rintro e w1 ⟨rfl, hb1⟩
    rw [HY.out.2.2]
    replace x1 := x1.trans (hb1.mono (by omega))
    replace x3 := x3.keep hb1
    replace x4 := x4.keep hb1
    replace x5 := x5.keep hb1
    clear x2 hb1 hx
    have y0 := x3.cell (i := 0) rfl
    have y1 := x3.cell (i := 1) rfl
    have z0 := x4.cell (i := 0) rfl
    have z1 := x4.cell (i := 1) rfl
    go_wp2_with fail
    refine (refMake_small _ _ _ (by omega) (by omega) (by omega) (by omega)).mono ?_
    rintro e w2 ⟨rfl, hb2⟩
    replace x1 := x1.trans (hb2.mono x1.size)
    replace x5 := x5.keep hb2
    clear y0 y1 z0 z1 x3 x4 hb2
    have y0 := x5.cell (i := 0) rfl
    have y1 := x5.cell (i := 1) rfl
    have y2 := x5.frozen
    have f0 := x5.set2 (.int .i64 (makeR (a.n * b.d + b.n * a.d) (a.d * b.d)).n) (.int .i64 (makeR (a.n * b.d + b.n * a.d) (a.d * b.d)).d)
    have k0 := f0.cell (i := 0) rfl
    have k1 := f0.cell (i := 1) rfl
    go_wp2_with fail
    refine bodyPost_ret (v := .tuple #[(makeR (a.n * b.d + b.n * a.d) (a.d * b.d)).v, .int .i64 (makeE (a.n * b.d + b.n * a.d) (a.d * b.d))]) (by simp [results, Try.results32, go_sem, k0, k1]) rfl ⟨by rw [opAddR, opAddE, HY.out.1, HY.out.2.1], below_set2 x1 (by omega) _ _⟩
  · have HY := Lib.hid (run_no (a.n * b.d + b.n * a.d) (a.d * b.d) hok)
    clear hok
    go_enter Try.func32, Try.ntmps32
    go_wp2_with fail
    obtain ⟨x1, x2, x3, x4, x5⟩ := hx.out
    generalize World.alloc _ _ = w0 at x1 x2 x3 x4 x5 ⊢
    replace x3 : Blk w0 _ _ #[.int .i64 a.n, .int .i64 a.d] := x3
    replace x4 : Blk w0 _ _ #[.int .i64 b.n, .int .i64 b.d] := x4
    replace x5 : Blk w0 _ _ #[.int .i64 0, .int .i64 0] := x5
    refine (both_any a b _ ha hb).mono ?_
    rintro e w1 ⟨rfl, hb1⟩
    rw [HY.out.2.2]
    replace x1 := x1.trans (hb1.mono (by omega))
    replace x3 := x3.keep hb1
    replace x4 := x4.keep hb1
    replace x5 := x5.keep hb1
    clear x2 hb1 hx
    have y0 := x3.cell (i := 0) rfl
    have y1 := x3.cell (i := 1) rfl
    have z0 := x4.cell (i := 0) rfl
    have z1 := x4.cell (i := 1) rfl
    go_wp2_with fail
    refine (both_any a b _ ha hb).mono ?_
    rintro e w2 ⟨rfl, hb2⟩
    rw [HY.out.2.2]
    replace x1 := x1.trans (hb2.mono x1.size)
    replace x5 := x5.keep hb2
    clear y0 y1 z0 z1 x3 x4 hb2
    have y0 := x5.cell (i := 0) rfl
    have y1 := x5.cell (i := 1) rfl
    have y2 := x5.frozen
    have f0 := x5.set2 (.int .i64 0) (.int .i64 0)
    have k0 := f0.cell (i := 0) rfl
    have k1 := f0.cell (i := 1) rfl
    go_wp2_with fail
    refine bodyPost_ret (v := .tuple #[.agg #[.int .i64 0, .int .i64 0], .int .i64 8]) (by simp [results, Try.results32, go_sem, k0, k1]) rfl ⟨by rw [opAddR, opAddE, HY.out.1, HY.out.2.1], below_set2 x1 (by omega) _ _⟩
end Go.Proofs.Ytjgampkpfjbmdaa
