/- The reference's Make: n / d in lowest terms, or the error, for whatever numbers of 64 bits. -/
import Derived.Test.YtpkcmjiokdpegaaDoorRatC
namespace Go.Rel
open Go.RowKit
theorem lowest_two {a b : Int} (hb : b ≠ 0) : lowest (2 * a) (2 * b) = lowest a b := by
  obtain ⟨g, x, y, e, hg, rfl, rfl, hc⟩ := parts_of (n := a) (d := b) hb
  rw [lowest_of (n := (g : Int) * x) (d := (g : Int) * y) hg e rfl rfl]
  refine lowest_of (g := 2 * g) (by omega) ?_ (by rw [← Int.mul_assoc]; rfl) (by rw [← Int.mul_assoc]; rfl)
  rw [Int.gcd_mul_left, e]; rfl
theorem make_two {a b : Int} : makeR (2 * a) (2 * b) = makeR a b ∧ makeE (2 * a) (2 * b) = makeE a b := by
  by_cases hb : b = 0
  · subst hb; exact ⟨rfl, rfl⟩
  · unfold makeR makeE
    rw [lowest_two hb, if_neg hb, if_neg hb, if_neg (show ¬ 2 * b = 0 by omega), if_neg (show ¬ 2 * b = 0 by omega)]
    exact ⟨rfl, rfl⟩
theorem odd_pow {k : Nat} (hk : k % 2 = 1) : Nat.gcd 9223372036854775808 k = 1 := by
  have h2 : Nat.Coprime 2 k := by
    unfold Nat.Coprime
    rw [Nat.gcd_rec, hk]
    decide
  have h3 := Nat.Coprime.pow_left 63 h2
  have e : (9223372036854775808 : Nat) = 2 ^ 63 := by decide
  rw [e]
  exact h3
theorem tm2 (d : Int) : d.tmod 2 = 0 ↔ d % 2 = 0 :=
  ⟨fun h => Int.emod_eq_zero_of_dvd (Int.dvd_of_tmod_eq_zero h), fun h => Int.tmod_eq_zero_of_dvd (Int.dvd_of_emod_eq_zero h)⟩
theorem make_odd {n d : Int} (hd : d ≠ 0) (h : (n = -9223372036854775808 ∧ d.natAbs % 2 = 1) ∨ (d = -9223372036854775808 ∧ n.natAbs % 2 = 1)) : makeR n d = ⟨0, 0⟩ ∧ makeE n d = 16 := by
  have hg : Int.gcd n d = 1 := by
    have e : Int.natAbs (-9223372036854775808) = 9223372036854775808 := by simp
    rcases h with ⟨rfl, h⟩ | ⟨rfl, h⟩
    · show Nat.gcd (Int.natAbs _) _ = 1; rw [e]; exact odd_pow h
    · rw [Int.gcd_comm]; show Nat.gcd (Int.natAbs _) _ = 1; rw [e]; exact odd_pow h
  have hl := lowest_of (n := n) (d := d) (a := n) (b := d) (g := 1) (by decide) hg (by simp) (by simp)
  refine make_bad hd hl ?_
  unfold RatOk
  split <;> simp only <;> omega
end Go.Rel
namespace Go.Proofs.YtpkcmjiokdpegaaDoor
open Go.RowKit Go.Rel
theorem refMake_main (n d : Int) (w : World) (hn : -9223372036854775807 ≤ n) (hn' : n ≤ 9223372036854775807) (hd : -9223372036854775807 ≤ d) (hd' : d ≤ 9223372036854775807) :
    Calls Tryd.prog 21 #[.int .i64 n, .int .i64 d] w (Ret w (.tuple #[(makeR n d).v, .int .i64 (makeE n d)])) := by
  rcases Int.lt_trichotomy d 0 with h | h | h
  · exact refMake_neg n d w hn hn' hd hd' h
  · subst h; exact refMake_zero n w
  · exact refMake_pos n d w hn hn' hd hd' h
theorem refMake_both (w : World) : Calls Tryd.prog 21 #[.int .i64 (-9223372036854775808), .int .i64 (-9223372036854775808)] w (Ret w (.tuple #[.agg #[.int .i64 1, .int .i64 1], .int .i64 0])) := by
  have y := (Blk.new w 23 #[.int .i64 1, .int .i64 1])
  have hbw := below_alloc w (.cells #[.int .i64 1, .int .i64 1] 23)
  go_enter Tryd.func21, Tryd.ntmps21
  go_wp2_with fail
  have y0 := y.cell (i := 0) rfl
  have y1 := y.cell (i := 1) rfl
  refine bodyPost_ret (v := .tuple #[.agg #[.int .i64 1, .int .i64 1], .int .i64 0]) (by simp [results, Tryd.results21, go_sem, y0, y1]) rfl ⟨rfl, hbw⟩
set_option maxHeartbeats 1000000 in
theorem refMake_half1 (d : Int) (w : World) (hd0 : (d == (0:Int)) = false) (e2 : (d == -9223372036854775808) = false) (b : Int) (t2 : d.tmod 2 = 0) (t4 : d.tdiv 2 = b) (t6 : IntKind.i64.wrap b = b) (r1 r2 me : Int)
    (hc : ∀ W, Calls Tryd.prog 21 #[.int .i64 (-4611686018427387904), .int .i64 b] W (Ret W (.tuple #[Rat2.v ⟨r1, r2⟩, .int .i64 me]))) :
    Calls Tryd.prog 21 #[.int .i64 (-9223372036854775808), .int .i64 d] w (Ret w (.tuple #[Rat2.v ⟨r1, r2⟩, .int .i64 me])) := by
  have HC := Lib.hid hc
  clear hc
  have hb := below_alloc w (.cells #[.int .i64 0, .int .i64 0] 23)
  have y := (Blk.new w 23 #[.int .i64 0, .int .i64 0])
  go_enter Tryd.func21, Tryd.ntmps21
  go_wp2_with fail
  refine (HC.out _).mono ?_
  rintro e w1 ⟨rfl, hb1⟩
  replace y := y.keep hb1
  replace hb := hb.trans (hb1.mono hb.size)
  clear hb1
  have y0 := y.cell (i := 0) rfl
  have y1 := y.cell (i := 1) rfl
  have y2 := y.frozen
  have HY := Lib.hid (y.set2 (.int .i64 r1) (.int .i64 r2))
  have HB := Lib.hid (below_set2 hb (Nat.le_refl _) (.int .i64 r1) (.int .i64 r2))
  clear y hb
  go_wp2_with fail
  have z := HY.out
  have hb := HB.out
  clear HY HB y0 y1 y2
  generalize World.setCell _ _ _ = w2 at z hb ⊢
  have z0 := z.cell (i := 0) rfl
  have z1 := z.cell (i := 1) rfl
  refine bodyPost_ret (v := .tuple #[.agg #[.int .i64 r1, .int .i64 r2], .int .i64 me]) (by simp [results, Tryd.results21, go_sem, z0, z1]) rfl ⟨rfl, hb⟩
set_option maxHeartbeats 1000000 in
theorem refMake_half2 (n : Int) (w : World) (hd0 : (-9223372036854775808 == (0:Int)) = false) (e2 : (n == -9223372036854775808) = false) (a : Int) (t2 : n.tmod 2 = 0) (t4 : n.tdiv 2 = a) (t6 : IntKind.i64.wrap a = a) (r1 r2 me : Int)
    (hc : ∀ W, Calls Tryd.prog 21 #[.int .i64 a, .int .i64 (-4611686018427387904)] W (Ret W (.tuple #[Rat2.v ⟨r1, r2⟩, .int .i64 me]))) :
    Calls Tryd.prog 21 #[.int .i64 n, .int .i64 (-9223372036854775808)] w (Ret w (.tuple #[Rat2.v ⟨r1, r2⟩, .int .i64 me])) := by
  have HC := Lib.hid hc
  clear hc
  have hb := below_alloc w (.cells #[.int .i64 0, .int .i64 0] 23)
  have y := (Blk.new w 23 #[.int .i64 0, .int .i64 0])
  go_enter Tryd.func21, Tryd.ntmps21
  go_wp2_with fail
  refine (HC.out _).mono ?_
  rintro e w1 ⟨rfl, hb1⟩
  replace y := y.keep hb1
  replace hb := hb.trans (hb1.mono hb.size)
  clear hb1
  have y0 := y.cell (i := 0) rfl
  have y1 := y.cell (i := 1) rfl
  have y2 := y.frozen
  have HY := Lib.hid (y.set2 (.int .i64 r1) (.int .i64 r2))
  have HB := Lib.hid (below_set2 hb (Nat.le_refl _) (.int .i64 r1) (.int .i64 r2))
  clear y hb
  go_wp2_with fail
  have z := HY.out
  have hb := HB.out
  clear HY HB y0 y1 y2
  generalize World.setCell _ _ _ = w2 at z hb ⊢
  have z0 := z.cell (i := 0) rfl
  have z1 := z.cell (i := 1) rfl
  refine bodyPost_ret (v := .tuple #[.agg #[.int .i64 r1, .int .i64 r2], .int .i64 me]) (by simp [results, Tryd.results21, go_sem, z0, z1]) rfl ⟨rfl, hb⟩
set_option maxHeartbeats 1000000 in
theorem refMake_odd1 (d : Int) (w : World) (hd0 : (d == (0:Int)) = false) (e2 : (d == -9223372036854775808) = false) (t2 : (d.tmod 2 == 0) = false) :
    Calls Tryd.prog 21 #[.int .i64 (-9223372036854775808), .int .i64 d] w (Ret w (.tuple #[.agg #[.int .i64 0, .int .i64 0], .int .i64 16])) := by
  have hb := below_alloc w (.cells #[.int .i64 0, .int .i64 0] 23)
  have y := (Blk.new w 23 #[.int .i64 0, .int .i64 0])
  go_enter Tryd.func21, Tryd.ntmps21
  go_wp2_with fail
  have y0 := y.cell (i := 0) rfl
  have y1 := y.cell (i := 1) rfl
  refine bodyPost_ret (v := .tuple #[.agg #[.int .i64 0, .int .i64 0], .int .i64 16]) (by simp [results, Tryd.results21, go_sem, y0, y1]) rfl ⟨rfl, hb⟩
set_option maxHeartbeats 1000000 in
theorem refMake_odd2 (n : Int) (w : World) (e2 : (n == -9223372036854775808) = false) (t2 : (n.tmod 2 == 0) = false) :
    Calls Tryd.prog 21 #[.int .i64 n, .int .i64 (-9223372036854775808)] w (Ret w (.tuple #[.agg #[.int .i64 0, .int .i64 0], .int .i64 16])) := by
  have hb := below_alloc w (.cells #[.int .i64 0, .int .i64 0] 23)
  have y := (Blk.new w 23 #[.int .i64 0, .int .i64 0])
  go_enter Tryd.func21, Tryd.ntmps21
  go_wp2_with fail
  have y0 := y.cell (i := 0) rfl
  have y1 := y.cell (i := 1) rfl
  refine bodyPost_ret (v := .tuple #[.agg #[.int .i64 0, .int .i64 0], .int .i64 16]) (by simp [results, Tryd.results21, go_sem, y0, y1]) rfl ⟨rfl, hb⟩
theorem refMake_any (n d : Int) (w : World) (hn : -9223372036854775808 ≤ n) (hn' : n ≤ 9223372036854775807) (hd : -9223372036854775808 ≤ d) (hd' : d ≤ 9223372036854775807) :
    Calls Tryd.prog 21 #[.int .i64 n, .int .i64 d] w (Ret w (.tuple #[(makeR n d).v, .int .i64 (makeE n d)])) := by
  by_cases h0 : d = 0
  · subst h0; exact refMake_zero n w
  by_cases h1 : n = -9223372036854775808
  · by_cases h2 : d = -9223372036854775808
    · subst h1 h2
      have := refMake_both w
      rwa [show makeR (-9223372036854775808) (-9223372036854775808) = ⟨1, 1⟩ by decide +kernel, show makeE (-9223372036854775808) (-9223372036854775808) = 0 by decide +kernel]
    · subst h1
      by_cases h3 : d.tmod 2 = 0
      · obtain ⟨b, rfl⟩ : ∃ b, d = 2 * b := ⟨d / 2, by rw [tm2] at h3; omega⟩
        have hm := make_two (a := -4611686018427387904) (b := b)
        rw [show (2 : Int) * -4611686018427387904 = -9223372036854775808 by decide] at hm
        rw [hm.1, hm.2]
        exact refMake_half1 (2 * b) w (by simp; omega) (by simp; omega) b h3 (by simp) (by rw [IntKind.wrap_i64]; omega) _ _ _ (fun W => refMake_main _ b W (by omega) (by omega) (by omega) (by omega))
      · obtain ⟨m1, m2⟩ := make_odd (n := -9223372036854775808) (d := d) h0 (.inl ⟨rfl, by rw [tm2] at h3; omega⟩)
        rw [m1, m2]
        exact refMake_odd1 d w (by simpa using h0) (by simpa using h2) (by simpa using h3)
  · by_cases h2 : d = -9223372036854775808
    · subst h2
      by_cases h3 : n.tmod 2 = 0
      · obtain ⟨a, rfl⟩ : ∃ a, n = 2 * a := ⟨n / 2, by rw [tm2] at h3; omega⟩
        have hm := make_two (a := a) (b := -4611686018427387904)
        rw [show (2 : Int) * -4611686018427387904 = -9223372036854775808 by decide] at hm
        rw [hm.1, hm.2]
        exact refMake_half2 (2 * a) w (by decide) (by simp; omega) a h3 (by simp) (by rw [IntKind.wrap_i64]; omega) _ _ _ (fun W => refMake_main a _ W (by omega) (by omega) (by omega) (by omega))
      · obtain ⟨m1, m2⟩ := make_odd (n := n) (d := -9223372036854775808) h0 (.inr ⟨rfl, by rw [tm2] at h3; omega⟩)
        rw [m1, m2]
        exact refMake_odd2 n w (by simpa using h1) (by simpa using h3)
    · exact refMake_main n d w (by omega) (by omega) (by omega) (by omega)
end Go.Proofs.YtpkcmjiokdpegaaDoor
