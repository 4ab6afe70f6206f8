/- Texts put together: RatJ, RatK, RatL. -/
import Derived.Test.YtjgampkpfjbmdaaDoorPack09
section
/- Sub, Mul, Div on both sides: what they give, for any two ratios of 64 bits. -/
namespace Go.Proofs.YtjgampkpfjbmdaaDoor
open Go.RowKit Go.Rel

/-! ### Sub -/
def opSubR (a b : Rat2) : Rat2 := runV a b (a.n * b.d - b.n * a.d) (a.d * b.d)
def opSubE (a b : Rat2) : Int := runE a b (a.n * b.d - b.n * a.d) (a.d * b.d)

/-! ### Mul -/
def opMulR (a b : Rat2) : Rat2 := runV a b (a.n * b.n) (a.d * b.d)
def opMulE (a b : Rat2) : Int := runE a b (a.n * b.n) (a.d * b.d)

/-! ### Div -/
def opDivR (a b : Rat2) : Rat2 := runV a b (a.n * b.d) (a.d * b.n)
def opDivE (a b : Rat2) : Int := runE a b (a.n * b.d) (a.d * b.n)

end Go.Proofs.YtjgampkpfjbmdaaDoor
end
section
/- Neg, Cmp, Floor, Ceil on both sides: what they give, for any ratios of 64 bits. -/
namespace Go.Proofs.YtjgampkpfjbmdaaDoor
open Go.RowKit Go.Rel

def negR (a : Rat2) : Rat2 := if RatOk a then ⟨-a.n, a.d⟩ else ⟨0, 0⟩
theorem negR_ok {a : Rat2} (h : RatOk a) : negR a = ⟨-a.n, a.d⟩ := if_pos h
theorem negR_bad {a : Rat2} (h : ¬ RatOk a) : negR a = ⟨0, 0⟩ := if_neg h
theorem one_ok : RatOk ⟨0, 1⟩ := by unfold RatOk; simp
theorem sub_neg (a : Rat2) : opSubR ⟨0, 1⟩ a = negR a ∧ opSubE ⟨0, 1⟩ a = ratE a := by
  unfold opSubR opSubE
  by_cases h : RatOk a
  · obtain ⟨r1, r2, -⟩ := run_yes (0 * a.d - a.n * 1) (1 * a.d) ⟨one_ok, h⟩
    rw [r1, r2, negR_ok h, ratE_ok h]
    have hd : a.d ≠ 0 := by have := h.1; omega
    have e1 : 0 * a.d - a.n * 1 = -a.n := by omega
    have e2 : 1 * a.d = a.d := by omega
    rw [e1, e2]
    have hg : Int.gcd (-a.n) a.d = 1 := by rw [Int.neg_gcd]; exact h.2.2.2.2
    have hl : lowest (-a.n) a.d = ⟨-a.n, a.d⟩ := by
      rw [lowest_of (a := -a.n) (b := a.d) Nat.one_pos hg (by simp) (by simp), if_neg (by have := h.1; omega)]
    refine make_ok hd hl ?_
    obtain ⟨h1, h2, h3, h4⟩ := ratOk_bounds h
    exact ⟨by simpa using h3, by simpa using h4, by simp only; omega, by simp only; omega, hg⟩
  · obtain ⟨r1, r2, -⟩ := run_no (0 * a.d - a.n * 1) (1 * a.d) (fun hh => h hh.2)
    rw [r1, r2, negR_bad h, ratE_bad h]
    exact ⟨rfl, rfl⟩

end Go.Proofs.YtjgampkpfjbmdaaDoor
end
section
/- Cmp, Floor, Ceil on both sides: what they give, for any ratios of 64 bits. -/
namespace Go.Proofs.YtjgampkpfjbmdaaDoor
open Go.RowKit Go.Rel

theorem ret2_int {w w' : World} {k k' : IntKind} {a a' b b' : Int} (h1 : a = a') (h2 : b = b') (hb : Below w.heap.size w w') : Ret w (.tuple #[.int k a', .int k' b']) (.returned (.tuple #[.int k a, .int k' b])) w' := ⟨by rw [h1, h2], hb⟩
def sgn (x y : Int) : Int := if x < y then -1 else if y < x then 1 else 0
theorem nan_any (x : Int) (w : World) : Calls Tryd.prog 100 #[.int .i64 x] w (Same w (.bool false)) := by
  go_enter Tryd.func100, Tryd.ntmps100
  go_wp2
  go_ret
  exact ⟨by simp, rfl⟩
theorem compare_any (x y : Int) (w : World) : Calls Tryd.prog 89 #[.int .i64 x, .int .i64 y] w (Same w (.int .i64 (sgn x y))) := by
  rcases Int.lt_trichotomy x y with h | h | h
  · have e : sgn x y = -1 := if_pos h
    rw [e]
    clear e
    go_enter Tryd.func89, Tryd.ntmps89
    go_wp2_with (go_at_call 100; refine (nan_any _ _).mono ?_; rintro e w' ⟨rfl, rfl⟩)
    go_ret
    exact ⟨rfl, rfl⟩
  · subst h
    have e : sgn x x = 0 := by simp [sgn]
    rw [e]
    clear e
    go_enter Tryd.func89, Tryd.ntmps89
    go_wp2_with (go_at_call 100; refine (nan_any _ _).mono ?_; rintro e w' ⟨rfl, rfl⟩)
    go_ret
    exact ⟨rfl, rfl⟩
  · have e : sgn x y = 1 := by unfold sgn; rw [if_neg (by omega), if_pos h]
    rw [e]
    clear e
    have h' : ¬ x < y := by omega
    go_enter Tryd.func89, Tryd.ntmps89
    go_wp2_with (go_at_call 100; refine (nan_any _ _).mono ?_; rintro e w' ⟨rfl, rfl⟩)
    go_ret
    exact ⟨rfl, rfl⟩

theorem floor_tdiv {n d : Int} (hd : 0 < d) : n / d = if n.tmod d < 0 then n.tdiv d - 1 else n.tdiv d := by
  have e := Int.mul_tdiv_add_tmod n d
  have h1 : (n.tmod d).natAbs < d.natAbs := by rw [Int.natAbs_tmod]; exact Nat.mod_lt _ (by omega)
  split
  · refine ((Int.ediv_emod_unique (r := n.tmod d + d) hd).2 ⟨?_, by omega, by omega⟩).1
    rw [Int.mul_sub, Int.mul_one]; omega
  · exact ((Int.ediv_emod_unique (r := n.tmod d) hd).2 ⟨by omega, by omega, by omega⟩).1
theorem tdiv_small (n d : Int) (hn : -1000000000 ≤ n) (hn' : n ≤ 1000000000) : -1000000000 ≤ n.tdiv d ∧ n.tdiv d ≤ 1000000000 := by
  have h : (n.tdiv d).natAbs ≤ n.natAbs := by rw [Int.natAbs_tdiv]; exact Nat.div_le_self _ _
  omega
def cmpR (a b : Rat2) : Int := if RatOk a ∧ RatOk b then sgn (a.n * b.d) (b.n * a.d) else 0
theorem cmpR_ok {a b : Rat2} (h : RatOk a ∧ RatOk b) : cmpR a b = sgn (a.n * b.d) (b.n * a.d) := if_pos h
theorem cmpR_bad {a b : Rat2} (h : ¬ (RatOk a ∧ RatOk b)) : cmpR a b = 0 := if_neg h
theorem or_ok {a b : Rat2} (h : RatOk a ∧ RatOk b) : orE (ratE a) (ratE b) = 0 := (run_yes 0 0 h).2.2
theorem or_bad {a b : Rat2} (h : ¬ (RatOk a ∧ RatOk b)) : orE (ratE a) (ratE b) = 8 := (run_no 0 0 h).2.2

set_option maxHeartbeats 1000000 in
theorem cmp_any (a b : Rat2) (w : World) (ha : Rat64 a) (hb : Rat64 b) :
    Calls Tryd.prog 74 #[a.v, b.v] w (Ret w (.tuple #[.int .i64 (cmpR a b), .int .i64 (orE (ratE a) (ratE b))])) := by
  obtain ⟨x1, x2, x3, x4⟩ := boxes2 w #[.int .i64 a.n, .int .i64 a.d] #[.int .i64 b.n, .int .i64 b.d] 23 23
  have hx := Lib.hid (show _ ∧ _ ∧ _ ∧ _ from ⟨x1, x2, x3, x4⟩)
  clear x1 x2 x3 x4
  by_cases hok : RatOk a ∧ RatOk b
  · have HE := Lib.hid (or_ok hok)
    have HC := Lib.hid (cmpR_ok hok)
    obtain ⟨a1, a2, a3, a4⟩ := ratOk_bounds hok.1
    obtain ⟨b1, b2, b3, b4⟩ := ratOk_bounds hok.2
    have m2 := mul_bound a1 a2 (show -1000000000 ≤ b.d by omega) b4
    have m3 := mul_bound b1 b2 (show -1000000000 ≤ a.d by omega) a4
    obtain ⟨m2, m2'⟩ := m2
    obtain ⟨m3, m3'⟩ := m3
    clear hok
    go_enter Tryd.func74, Tryd.ntmps74
    go_wp2_with fail
    obtain ⟨x1, x2, x3, x4⟩ := hx.out
    generalize World.alloc _ _ = w0 at x1 x2 x3 x4 ⊢
    replace x3 : Blk w0 _ _ #[.int .i64 a.n, .int .i64 a.d] := x3
    replace x4 : Blk w0 _ _ #[.int .i64 b.n, .int .i64 b.d] := x4
    refine (with_any a b _ ha hb).mono ?_
    rintro e w1 ⟨rfl, hb1⟩
    rw [HE.out]
    replace x1 := x1.trans (hb1.mono (by omega))
    replace x3 := x3.keep hb1
    replace x4 := x4.keep hb1
    have y0 := x3.cell (i := 0) rfl
    have y1 := x3.cell (i := 1) rfl
    have z0 := x4.cell (i := 0) rfl
    have z1 := x4.cell (i := 1) rfl
    have hlt := x4.lt
    have hlt' := x3.lt
    clear x2 hb1 hx
    go_wp2_with fail
    refine (compare_any _ _ _).mono ?_
    rintro e w2 ⟨rfl, rfl⟩
    go_wp2_with fail
    go_ret2
    exact ret2_int HC.out.symm HE.out.symm (x1.alloc x1.size _)
  · have HE := Lib.hid (or_bad hok)
    have HC := Lib.hid (cmpR_bad hok)
    clear hok
    go_enter Tryd.func74, Tryd.ntmps74
    go_wp2_with fail
    obtain ⟨x1, x2, x3, x4⟩ := hx.out
    generalize World.alloc _ _ = w0 at x1 x2 x3 x4 ⊢
    refine (with_any a b _ ha hb).mono ?_
    rintro e w1 ⟨rfl, hb1⟩
    rw [HE.out]
    replace x1 := x1.trans (hb1.mono (by omega))
    clear x2 x3 x4 hb1 hx
    have hb2 := Lib.hid (x1.alloc x1.size (.cells #[.int .i64 a.n, .int .i64 a.d, .int .i64 b.n, .int .i64 b.d, .int .i64 0, .int .i64 0, .int .i64 8] 108))
    go_wp2_with fail
    go_quiet (fail)
    go_wp2_with fail
    go_ret2
    exact ret2_int HC.out.symm HE.out.symm (below_drewN hb2.out _)

/-! ### Floor and Ceil -/
def floorR (a : Rat2) : Int := if RatOk a then a.n / a.d else 0
def ceilR (a : Rat2) : Int := if RatOk a then -(-a.n / a.d) else 0
theorem floorR_ok {a : Rat2} (h : RatOk a) : floorR a = a.n / a.d := if_pos h
theorem floorR_bad {a : Rat2} (h : ¬ RatOk a) : floorR a = 0 := if_neg h
theorem ceilR_ok {a : Rat2} (h : RatOk a) : ceilR a = -(-a.n / a.d) := if_pos h
theorem ceilR_bad {a : Rat2} (h : ¬ RatOk a) : ceilR a = 0 := if_neg h

theorem check_split (a : Rat2) : (RatOk a ∧ ratE a = 0) ∨ (¬ RatOk a ∧ ratE a = 8) := by
  by_cases h : RatOk a
  · exact .inl ⟨h, ratE_ok h⟩
  · exact .inr ⟨h, ratE_bad h⟩

theorem ceil_tdiv {n d : Int} (hd : 0 < d) : -(-n / d) = if 0 < n.tmod d then n.tdiv d + 1 else n.tdiv d := by
  have h := floor_tdiv (n := -n) hd
  rw [h, Int.neg_tmod, Int.neg_tdiv]
  by_cases h0 : 0 < n.tmod d
  · rw [if_pos (by omega), if_pos h0]; omega
  · rw [if_neg (by omega), if_neg h0]; omega

end Go.Proofs.YtjgampkpfjbmdaaDoor
end
