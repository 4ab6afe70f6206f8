/- Neg, Cmp, Floor, Ceil on both sides: what they give, for any ratios of 64 bits. -/
import Derived.Test.YtpkcmjiokdpegaaRatJ
namespace Go.Proofs.Ytpkcmjiokdpegaa
open Go.RowKit Go.Rel

def negR (a : Rat2) : Rat2 := if RatOk a then ⟨-a.n, a.d⟩ else ⟨0, 0⟩
theorem negR_ok {a : Rat2} (h : RatOk a) : negR a = ⟨-a.n, a.d⟩ := if_pos h
theorem negR_bad {a : Rat2} (h : ¬ RatOk a) : negR a = ⟨0, 0⟩ := if_neg h
theorem one_ok : RatOk ⟨0, 1⟩ := by unfold RatOk; simp
theorem sub_neg (a : Rat2) : opSubR ⟨0, 1⟩ a = negR a ∧ opSubE ⟨0, 1⟩ a = ratE a := by
  unfold opSubR opSubE
  by_cases h : RatOk a
  · obtain ⟨r1, r2, -⟩ := run_yes (0 * a.d - a.n * 1) (1 * a.d) ⟨one_ok, h⟩
    rw [r1, r2, negR_ok h, ratE_ok h]
    have hd : a.d ≠ 0 := by have := h.1; omega
    have e1 : 0 * a.d - a.n * 1 = -a.n := by omega
    have e2 : 1 * a.d = a.d := by omega
    rw [e1, e2]
    have hg : Int.gcd (-a.n) a.d = 1 := by rw [Int.neg_gcd]; exact h.2.2.2.2
    have hl : lowest (-a.n) a.d = ⟨-a.n, a.d⟩ := by
      rw [lowest_of (a := -a.n) (b := a.d) Nat.one_pos hg (by simp) (by simp), if_neg (by have := h.1; omega)]
    refine make_ok hd hl ?_
    obtain ⟨h1, h2, h3, h4⟩ := ratOk_bounds h
    exact ⟨by simpa using h3, by simpa using h4, by simp only; omega, by simp only; omega, hg⟩
  · obtain ⟨r1, r2, -⟩ := run_no (0 * a.d - a.n * 1) (1 * a.d) (fun hh => h hh.2)
    rw [r1, r2, negR_bad h, ratE_bad h]
    exact ⟨rfl, rfl⟩

set_option maxHeartbeats 1000000 in
theorem neg_any (a : Rat2) (w : World) (ha : Rat64 a) :
    Calls Try.prog 17 #[a.v] w (Ret w (.tuple #[(negR a).v, .int .i64 (ratE a)])) := by
  obtain ⟨x1, x2, x3, x4⟩ := boxes2 w #[.int .i64 a.n, .int .i64 a.d] #[.int .i64 0, .int .i64 0] 24 24
  have hx := Lib.hid (show _ ∧ _ ∧ _ ∧ _ from ⟨x1, x2, x3, x4⟩)
  clear x1 x2 x3 x4
  have hE : (RatOk a ∧ ratE a = 0 ∧ negR a = ⟨-a.n, a.d⟩) ∨ (ratE a = 8 ∧ negR a = ⟨0, 0⟩) := by
    by_cases h : RatOk a
    · exact .inl ⟨h, ratE_ok h, negR_ok h⟩
    · exact .inr ⟨ratE_bad h, negR_bad h⟩
  have HE := Lib.hid hE
  clear hE
  go_enter Try.func17, Try.ntmps17
  go_wp2_with fail
  obtain ⟨x1, x2, x3, x4⟩ := hx.out
  generalize World.alloc _ _ = w0 at x1 x2 x3 x4 ⊢
  replace x3 : Blk w0 _ _ #[.int .i64 a.n, .int .i64 a.d] := x3
  replace x4 : Blk w0 _ _ #[.int .i64 0, .int .i64 0] := x4
  refine (ratCheck_any a _ ha.1 ha.2.1 ha.2.2.1 ha.2.2.2).mono ?_
  rintro e w1 ⟨rfl, hb1⟩
  replace x1 := x1.trans (hb1.mono (by omega))
  replace x3 := x3.keep hb1
  replace x4 := x4.keep hb1
  clear x2 hb1 hx
  have y0 := x3.cell (i := 0) rfl
  have y1 := x3.cell (i := 1) rfl
  have y2 := x3.frozen
  have z0 := x4.cell (i := 0) rfl
  have z1 := x4.cell (i := 1) rfl
  have z2 := x4.frozen
  have hlt := x4.lt
  rcases HE.out with ⟨h0, h1, h2⟩ | ⟨h1, h2⟩
  · obtain ⟨b1, b2, b3, b4⟩ := ratOk_bounds h0
    rw [h1]
    have H1 := Lib.hid h1
    have H2 := Lib.hid h2
    have hne : ¬ w.heap.size + 1 = w.heap.size := by omega
    have n1 := (x4.far (p := ⟨w.heap.size, 0, none⟩) hne (.int .i64 (-a.n))).set2 (.int .i64 (-a.n)) (.int .i64 a.d)
    have k0 := n1.cell (i := 0) rfl
    have k1 := n1.cell (i := 1) rfl
    clear h0 h1 h2
    go_wp2_with fail
    refine bodyPost_ret (v := .tuple #[.agg #[.int .i64 (-a.n), .int .i64 a.d], .int .i64 0]) (by simp [results, Try.results17, go_sem, k0, k1]) rfl ⟨by rw [H2.out, H1.out], below_set2 (x1.setCell (p := ⟨w.heap.size, 0, none⟩) (Nat.le_refl _) _) (by omega) _ _⟩
  · rw [h1]
    have H1 := Lib.hid h1
    have H2 := Lib.hid h2
    have n1 := x4.set2 (.int .i64 0) (.int .i64 0)
    have k0 := n1.cell (i := 0) rfl
    have k1 := n1.cell (i := 1) rfl
    clear h1 h2
    go_wp2_with fail
    refine bodyPost_ret (v := .tuple #[.agg #[.int .i64 0, .int .i64 0], .int .i64 8]) (by simp [results, Try.results17, go_sem, k0, k1]) rfl ⟨by rw [H2.out, H1.out], below_set2 x1 (by omega) _ _⟩

set_option maxHeartbeats 1000000 in
theorem refNeg_any (a : Rat2) (w : World) (ha : Rat64 a) :
    Calls Try.prog 18 #[a.v] w (Ret w (.tuple #[(negR a).v, .int .i64 (ratE a)])) := by
  obtain ⟨x1, x2, x3, x4⟩ := boxes2 w #[.int .i64 a.n, .int .i64 a.d] #[.int .i64 0, .int .i64 0] 24 24
  have hx := Lib.hid (show _ ∧ _ ∧ _ ∧ _ from ⟨x1, x2, x3, x4⟩)
  clear x1 x2 x3 x4
  go_enter Try.func18, Try.ntmps18
  go_wp2_with fail
  obtain ⟨x1, x2, x3, x4⟩ := hx.out
  generalize World.alloc _ _ = w0 at x1 x2 x3 x4 ⊢
  replace x4 : Blk w0 _ _ #[.int .i64 0, .int .i64 0] := x4
  refine (refSub_any ⟨0, 1⟩ a _ (by simp [Rat64]) ha).mono ?_
  rintro e w1 ⟨rfl, hb1⟩
  rw [(sub_neg a).1, (sub_neg a).2]
  replace x1 := x1.trans (hb1.mono (by omega))
  replace x4 := x4.keep hb1
  clear x2 x3 hb1 hx
  have z0 := x4.cell (i := 0) rfl
  have z1 := x4.cell (i := 1) rfl
  have z2 := x4.frozen
  have n1 := x4.set2 (.int .i64 (negR a).n) (.int .i64 (negR a).d)
  have k0 := n1.cell (i := 0) rfl
  have k1 := n1.cell (i := 1) rfl
  go_wp2_with fail
  refine bodyPost_ret (v := .tuple #[(negR a).v, .int .i64 (ratE a)]) (by simp [results, Try.results18, go_sem, k0, k1]) rfl ⟨rfl, below_set2 x1 (by omega) _ _⟩
end Go.Proofs.Ytpkcmjiokdpegaa
