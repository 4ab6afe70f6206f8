/- The program's Make: n / d in lowest terms, or the error. For numbers of 64 bits. -/
import Derived.Test.YtjgampkpfjbmdaaRatC
namespace Go.Proofs.Ytjgampkpfjbmdaa
open Go.RowKit Go.Rel

set_option maxHeartbeats 400000 in
theorem make_zero_any (n : Int) (w : World) :
    Calls Try.prog 54 #[.int .i64 n, .int .i64 0] w (Ret w (.tuple #[(makeR n 0).v, .int .i64 (makeE n 0)])) := by
  obtain ⟨m1, m2⟩ := make_zero n
  rw [m1, m2]
  have y := Blk.new w 23 #[.int .i64 0, .int .i64 0]
  have hbw := below_alloc w (.cells #[.int .i64 0, .int .i64 0] 23)
  have y0 := y.cell (i := 0) rfl
  have y1 := y.cell (i := 1) rfl
  have y2 := y.frozen
  clear m1 m2
  go_enter Try.func54, Try.ntmps54
  go_wp2_with fail
  refine bodyPost_ret (v := .tuple #[.agg #[.int .i64 0, .int .i64 0], .int .i64 18]) (by simp [results, Try.results54, go_sem, y0, y1]) rfl ⟨rfl, ?_⟩
  first | exact below_set2 hbw (Nat.le_refl _) _ _ | exact hbw

/-- The signs of the quotient. -/
theorem make_facts {n d : Int} (hn : -9223372036854775808 ≤ n) (hn' : n ≤ 9223372036854775807) (hd : -9223372036854775808 ≤ d) (hd' : d ≤ 9223372036854775807) (h0 : d ≠ 0) :
    ∃ g A B : Nat, Nat.gcd n.natAbs d.natAbs = g ∧ 0 < g ∧ n.natAbs / g = A ∧ d.natAbs / g = B ∧ A ≤ 9223372036854775808 ∧ B ≤ 9223372036854775808 ∧
      (((decide ((A : Int) > 1000000000) = true ∧ makeR n d = ⟨0, 0⟩ ∧ makeE n d = 16) ∨ (decide ((A : Int) > 1000000000) = false ∧ decide ((B : Int) > 1000000000) = true ∧ makeR n d = ⟨0, 0⟩ ∧ makeE n d = 16)) ∨
       (decide ((A : Int) > 1000000000) = false ∧ decide ((B : Int) > 1000000000) = false ∧ makeR n d = ⟨if (decide (n < 0) != decide (d < 0)) = true then -(A : Int) else A, B⟩ ∧ makeE n d = 0)) := by
  obtain ⟨g, a, b, hg, hg0, hc, -, -, -, -, l1, l2, q1, q2, s1, s2, hb0, hgd, hlow⟩ := parts_all (n := n) h0
  refine ⟨g, a.natAbs, b.natAbs, hg, hg0, q1, q2, by omega, by omega, ?_⟩
  have hr : RatOk (if b < 0 then ⟨-a, -b⟩ else ⟨a, b⟩) ↔ a.natAbs ≤ 1000000000 ∧ b.natAbs ≤ 1000000000 := by
    split
    · exact ok_neg hc (by assumption)
    · exact ok_pos hc (by omega)
  by_cases h1 : (a.natAbs : Int) > 1000000000
  · have := make_bad h0 hlow (fun h => by have := (hr.1 h).1; omega)
    exact .inl (.inl ⟨by simpa using h1, this.1, this.2⟩)
  by_cases h2 : (b.natAbs : Int) > 1000000000
  · have := make_bad h0 hlow (fun h => by have := (hr.1 h).2; omega)
    exact .inl (.inr ⟨by simpa using h1, by simpa using h2, this.1, this.2⟩)
  have := make_ok h0 hlow (hr.2 ⟨by omega, by omega⟩)
  refine .inr ⟨by simpa using h1, by simpa using h2, ?_, this.2⟩
  rw [this.1]
  have e1 : decide (n < 0) = decide (a < 0) := by simp [s1]
  have e2 : decide (d < 0) = decide (b < 0) := by simp [s2]
  rw [e1, e2]
  by_cases ha : a < 0 <;> by_cases hb : b < 0 <;> simp [ha, hb] <;> omega

set_option maxHeartbeats 1000000 in
theorem make_any (n d : Int) (w : World) (hn : -9223372036854775808 ≤ n) (hn' : n ≤ 9223372036854775807) (hd : -9223372036854775808 ≤ d) (hd' : d ≤ 9223372036854775807) :
    Calls Try.prog 54 #[.int .i64 n, .int .i64 d] w (Ret w (.tuple #[(makeR n d).v, .int .i64 (makeE n d)])) := by
  by_cases h0 : d = 0
  · subst h0; exact make_zero_any n w
  have e0 : (d == 0) = false := by simpa using h0
  obtain ⟨g, A, B, hg, hg0, q1, q2, lA, lB, hcase⟩ := make_facts hn hn' hd hd' h0
  have HC := Lib.hid hcase
  have HG := Lib.hid hg
  have gz : ¬ g = 0 := by omega
  clear hcase hg
  have x1 : ((n.natAbs : Int) / (g : Int)) = A := by rw [← Int.natCast_ediv, q1]
  have x2 : ((d.natAbs : Int) / (g : Int)) = B := by rw [← Int.natCast_ediv, q2]
  clear q1 q2
  go_enter Try.func54, Try.ntmps54
  go_wp2_with (go_at_call 45; refine (size_any _ _ (by omega) (by omega)).mono ?_; rintro e w1 ⟨rfl, rfl⟩)
  refine (gcd_any _ _ _ (by omega) (by omega)).mono ?_
  rintro e w1 ⟨rfl, hb1⟩
  rw [HG.out]
  have q0 := (Blk.new w 23 #[.int .i64 0, .int .i64 0]).keep hb1
  have hbw := (below_alloc w _).trans (hb1.mono (by simp))
  have hlt0 := q0.lt
  have y0 := q0.cell (i := 0) rfl
  have y1 := q0.cell (i := 1) rfl
  have y2 := q0.frozen
  clear hb1
  go_wp2_with fail
  go_quiet (fail)
  replace hbw := below_drewN hbw nq
  replace q0 : Blk (w1.drewN nq) w.heap.size 23 #[.int .i64 0, .int .i64 0] := q0
  clear y0 y1 y2 hlt0
  generalize w1.drewN nq = w2 at hbw q0 ⊢
  have hlt0 := q0.lt
  rcases HC.out with hcase | hcase
  · have y0 := q0.cell (i := 0) rfl
    have y1 := q0.cell (i := 1) rfl
    have y2 := q0.frozen
    clear HC x1 x2
    rcases hcase with ⟨d1, m⟩ | ⟨d1, d2, m⟩
    all_goals
      have HM := Lib.hid m
      clear m
      go_wp2_with fail
      refine bodyPost_ret (v := .tuple #[.agg #[.int .i64 0, .int .i64 0], .int .i64 16]) (by simp [results, Try.results54, go_sem, y0, y1]) rfl ⟨by rw [HM.out.1, HM.out.2], below_set2 hbw (Nat.le_refl _) _ _⟩
  · obtain ⟨d1, d2, m⟩ := hcase
    have HM := Lib.hid m
    have wA : IntKind.i64.wrap (A : Int) = A := by simp at d1; rw [IntKind.wrap_i64]; omega
    have wB : IntKind.i64.wrap (B : Int) = B := by simp at d2; rw [IntKind.wrap_i64]; omega
    have wA' : IntKind.i64.wrap (-(A : Int)) = -(A : Int) := by simp at d1; rw [IntKind.wrap_i64]; omega
    clear HC x1 x2 m
    have z := Blk.new w2 23 #[.int .i64 A, .int .i64 B]
    have hz := below_alloc w2 (.cells #[.int .i64 A, .int .i64 B] 23)
    have y0 := q0.cell (i := 0) rfl
    have y1 := q0.cell (i := 1) rfl
    have y2 := q0.frozen
    have z0 := z.cell (i := 0) rfl
    have z1 := z.cell (i := 1) rfl
    have z2 := z.frozen
    have hne : ¬ w.heap.size = w2.heap.size := by omega
    rcases Bool.eq_false_or_eq_true (decide (n < 0)) with s1 | s1 <;> rcases Bool.eq_false_or_eq_true (decide (d < 0)) with s2 | s2
    all_goals
      have HS := Lib.hid s1
      have HS' := Lib.hid s2
      go_wp2_with fail
      first
        | (have f := (q0.set2 (.int .i64 A) (.int .i64 B)).alloc (.cells #[.int .i64 A, .int .i64 B] 23)
           have f0 := f.cell (i := 0) rfl
           have f1 := f.cell (i := 1) rfl
           refine bodyPost_ret (v := .tuple #[.agg #[.int .i64 A, .int .i64 B], .int .i64 0]) (by simp [results, Try.results54, go_sem, f0, f1]) rfl ⟨by rw [HM.out.1, HM.out.2, HS.out, HS'.out]; rfl, ?_⟩
           exact (below_set2 hbw (Nat.le_refl _) _ _).alloc (by simp; omega) _)
        | (have f := (q0.set2 (.int .i64 (-(A : Int))) (.int .i64 B)).alloc (.cells #[.int .i64 (-(A : Int)), .int .i64 B] 23)
           have f0 := f.cell (i := 0) rfl
           have f1 := f.cell (i := 1) rfl
           refine bodyPost_ret (v := .tuple #[.agg #[.int .i64 (-(A : Int)), .int .i64 B], .int .i64 0]) (by simp [results, Try.results54, go_sem, f0, f1]) rfl ⟨by rw [HM.out.1, HM.out.2, HS.out, HS'.out]; rfl, ?_⟩
           exact (below_set2 hbw (Nat.le_refl _) _ _).alloc (by simp; omega) _)
end Go.Proofs.Ytjgampkpfjbmdaa
