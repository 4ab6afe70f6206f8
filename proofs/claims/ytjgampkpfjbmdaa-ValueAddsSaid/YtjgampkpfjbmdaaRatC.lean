/- The reference's Make: n / d in lowest terms, or the error. For numbers of 64 bits. -/
import Derived.Test.YtjgampkpfjbmdaaRatB
namespace Go.Proofs.Ytjgampkpfjbmdaa
open Go.RowKit Go.Rel

theorem Try.cellsRat : Try.prog.cellsOf 23 = 2 := by kernel_rfl

set_option maxHeartbeats 1000000 in
theorem refMake_pos (n d : Int) (w : World) (hn : -9223372036854775807 ≤ n) (hn' : n ≤ 9223372036854775807) (hd : -9223372036854775807 ≤ d) (hd' : d ≤ 9223372036854775807) (hdx : 0 < d) :
    Calls Try.prog 41 #[.int .i64 n, .int .i64 d] w (Ret w (.tuple #[(makeR n d).v, .int .i64 (makeE n d)])) := by
  have h0 : d ≠ 0 := by omega
  have e0 : (d == 0) = false := by simpa using h0
  have e1 : (n == -9223372036854775808) = false := by simp; omega
  have e2 : (d == -9223372036854775808) = false := by simp; omega
  obtain ⟨g, a, b, hg, hg0, hc, t1, t2, t3, t4, l1, l2, -, -, s1, s2, hb0, hgd, hlow⟩ := parts_all (n := n) h0
  have gneg : Int.gcd (-n) (-d) = g := by rw [Int.gcd_neg, Int.neg_gcd, hg]
  have hsb : 0 < b := by omega
  have hx : decide (d < 0) = false := by simp; omega
  rw [if_neg (by omega)] at hlow
  have HL := Lib.hid hlow
  have HG := Lib.hid hg
  have wn : IntKind.i64.wrap (-n) = -n := by rw [IntKind.wrap_i64]; omega
  have wd : IntKind.i64.wrap (-d) = -d := by rw [IntKind.wrap_i64]; omega
  have wa : IntKind.i64.wrap (a) = a := by rw [IntKind.wrap_i64]; omega
  have wb : IntKind.i64.wrap (b) = b := by rw [IntKind.wrap_i64]; omega
  have gz : ¬ g = 0 := by omega
  clear hlow hc t3 t4 gneg hg s1 s2
  have hok : (RatOk ⟨a, b⟩ ∧ ratE ⟨a, b⟩ = 0) ∨ (¬ RatOk ⟨a, b⟩ ∧ ratE ⟨a, b⟩ = 8) := by
    by_cases h : RatOk ⟨a, b⟩
    · exact .inl ⟨h, ratE_ok h⟩
    · exact .inr ⟨h, ratE_bad h⟩
  have HK := Lib.hid hok
  clear hok
  go_enter Try.func41, Try.ntmps41
  go_wp2_with fail
  refine (common_any (n) (d) _ (by omega) (by omega) (by omega) (by omega)).mono ?_
  rintro e w1 ⟨rfl, hb1⟩
  rw [HG.out]
  go_wp2_with fail
  have q0 := (Blk.new w 23 #[.int .i64 0, .int .i64 0]).keep hb1
  have hbw := (below_alloc w _).trans (hb1.mono (by simp))
  have hlt0 := q0.lt
  clear hb1 hx
  apply wp_region_head 8 61 (hm := by kernel_rfl) (hN := rfl)
  case h =>
    simp only [List.take_succ_cons, List.take_zero]
    iterate 7 (apply head_still rfl; (intro W hW; go_simp; (try rfl)))
    apply head_alloc rfl
    · intro W; go_simp; rfl
    intro v
    refine head_nil ?_
    intro W hW hF
    obtain ⟨⟨g', rfl, hg', hgc⟩, -⟩ := hF
    have hgb : Blk W g' 23 #[.int .i64 0, .int .i64 0] := hgc
    have k0 := hgb.cell (i := 0) rfl
    have k1 := hgb.cell (i := 1) rfl
    have k2 := hgb.frozen
    have hne : ¬ w.heap.size = g' := by omega
    have HB := Lib.hid (hgb.set2 (.int .i64 (a)) (.int .i64 (b)))
    have HQ := Lib.hid (((q0.keep hW).far (p := ⟨g', 0, none⟩) hne (.int .i64 (a))).far (p := ⟨g', 1, none⟩) hne (.int .i64 (b)))
    have HW := Lib.hid (below_set2 (hbw.trans (hW.mono (by omega))) (show w.heap.size ≤ g' by omega) (.int .i64 (a)) (.int .i64 (b)))
    clear hgc hgb
    go_wp2_with fail
    have h1 := HB.out
    have h2 := HQ.out
    have h3 := HW.out
    clear HB HQ HW k0 k1 k2
    generalize World.setCell _ _ _ = w2 at h1 h2 h3 ⊢
    refine (refRatCheck_any ⟨a, b⟩ _ (by simp only; omega) (by simp only; omega) (by simp only; omega) (by simp only; omega)).mono ?_
    rintro e w3 ⟨rfl, hb3⟩
    replace h1 := h1.keep hb3
    replace h2 := h2.keep hb3
    replace h3 := h3.trans (hb3.mono h3.size)
    clear hb3
    have z0 := h1.cell (i := 0) rfl
    have z1 := h1.cell (i := 1) rfl
    have y0 := h2.cell (i := 0) rfl
    have y1 := h2.cell (i := 1) rfl
    have y2 := h2.frozen
    have hok := HK.out
    rcases hok with ⟨ho, hE⟩ | ⟨ho, hE⟩
    · have HM := Lib.hid (make_ok h0 HL.out ho)
      rw [hE]
      clear hE ho
      go_wp2_with fail
      refine bodyPost_ret (v := .tuple #[.agg #[.int .i64 (a), .int .i64 (b)], .int .i64 0]) (by simp [results, Try.results41, go_sem, y0, y1]) rfl ⟨by rw [HM.out.1, HM.out.2], below_set2 h3 (Nat.le_refl _) _ _⟩
    · have HM := Lib.hid (make_bad h0 HL.out ho)
      rw [hE]
      clear hE ho
      go_wp2_with fail
      refine bodyPost_ret (v := .tuple #[.agg #[.int .i64 0, .int .i64 0], .int .i64 16]) (by simp [results, Try.results41, go_sem, y0, y1]) rfl ⟨by rw [HM.out.1, HM.out.2], below_set2 h3 (Nat.le_refl _) _ _⟩
  case hB => kernel_rfl
  all_goals rfl

set_option maxHeartbeats 1000000 in
theorem refMake_neg (n d : Int) (w : World) (hn : -9223372036854775807 ≤ n) (hn' : n ≤ 9223372036854775807) (hd : -9223372036854775807 ≤ d) (hd' : d ≤ 9223372036854775807) (hdx : d < 0) :
    Calls Try.prog 41 #[.int .i64 n, .int .i64 d] w (Ret w (.tuple #[(makeR n d).v, .int .i64 (makeE n d)])) := by
  have h0 : d ≠ 0 := by omega
  have e0 : (d == 0) = false := by simpa using h0
  have e1 : (n == -9223372036854775808) = false := by simp; omega
  have e2 : (d == -9223372036854775808) = false := by simp; omega
  obtain ⟨g, a, b, hg, hg0, hc, t1, t2, t3, t4, l1, l2, -, -, s1, s2, hb0, hgd, hlow⟩ := parts_all (n := n) h0
  have gneg : Int.gcd (-n) (-d) = g := by rw [Int.gcd_neg, Int.neg_gcd, hg]
  have hsb : b < 0 := by omega
  have hx : decide (d < 0) = true := by simp; omega
  rw [if_pos (by omega)] at hlow
  have HL := Lib.hid hlow
  have HG := Lib.hid gneg
  have wn : IntKind.i64.wrap (-n) = -n := by rw [IntKind.wrap_i64]; omega
  have wd : IntKind.i64.wrap (-d) = -d := by rw [IntKind.wrap_i64]; omega
  have wa : IntKind.i64.wrap (-a) = -a := by rw [IntKind.wrap_i64]; omega
  have wb : IntKind.i64.wrap (-b) = -b := by rw [IntKind.wrap_i64]; omega
  have gz : ¬ g = 0 := by omega
  clear hlow hc t1 t2 gneg hg s1 s2
  have hok : (RatOk ⟨-a, -b⟩ ∧ ratE ⟨-a, -b⟩ = 0) ∨ (¬ RatOk ⟨-a, -b⟩ ∧ ratE ⟨-a, -b⟩ = 8) := by
    by_cases h : RatOk ⟨-a, -b⟩
    · exact .inl ⟨h, ratE_ok h⟩
    · exact .inr ⟨h, ratE_bad h⟩
  have HK := Lib.hid hok
  clear hok
  go_enter Try.func41, Try.ntmps41
  go_wp2_with fail
  refine (common_any (-n) (-d) _ (by omega) (by omega) (by omega) (by omega)).mono ?_
  rintro e w1 ⟨rfl, hb1⟩
  rw [HG.out]
  go_wp2_with fail
  have q0 := (Blk.new w 23 #[.int .i64 0, .int .i64 0]).keep hb1
  have hbw := (below_alloc w _).trans (hb1.mono (by simp))
  have hlt0 := q0.lt
  clear hb1 hx
  apply wp_region_head 8 61 (hm := by kernel_rfl) (hN := rfl)
  case h =>
    simp only [List.take_succ_cons, List.take_zero]
    iterate 7 (apply head_still rfl; (intro W hW; go_simp; (try rfl)))
    apply head_alloc rfl
    · intro W; go_simp; rfl
    intro v
    refine head_nil ?_
    intro W hW hF
    obtain ⟨⟨g', rfl, hg', hgc⟩, -⟩ := hF
    have hgb : Blk W g' 23 #[.int .i64 0, .int .i64 0] := hgc
    have k0 := hgb.cell (i := 0) rfl
    have k1 := hgb.cell (i := 1) rfl
    have k2 := hgb.frozen
    have hne : ¬ w.heap.size = g' := by omega
    have HB := Lib.hid (hgb.set2 (.int .i64 (-a)) (.int .i64 (-b)))
    have HQ := Lib.hid (((q0.keep hW).far (p := ⟨g', 0, none⟩) hne (.int .i64 (-a))).far (p := ⟨g', 1, none⟩) hne (.int .i64 (-b)))
    have HW := Lib.hid (below_set2 (hbw.trans (hW.mono (by omega))) (show w.heap.size ≤ g' by omega) (.int .i64 (-a)) (.int .i64 (-b)))
    clear hgc hgb
    go_wp2_with fail
    have h1 := HB.out
    have h2 := HQ.out
    have h3 := HW.out
    clear HB HQ HW k0 k1 k2
    generalize World.setCell _ _ _ = w2 at h1 h2 h3 ⊢
    refine (refRatCheck_any ⟨-a, -b⟩ _ (by simp only; omega) (by simp only; omega) (by simp only; omega) (by simp only; omega)).mono ?_
    rintro e w3 ⟨rfl, hb3⟩
    replace h1 := h1.keep hb3
    replace h2 := h2.keep hb3
    replace h3 := h3.trans (hb3.mono h3.size)
    clear hb3
    have z0 := h1.cell (i := 0) rfl
    have z1 := h1.cell (i := 1) rfl
    have y0 := h2.cell (i := 0) rfl
    have y1 := h2.cell (i := 1) rfl
    have y2 := h2.frozen
    have hok := HK.out
    rcases hok with ⟨ho, hE⟩ | ⟨ho, hE⟩
    · have HM := Lib.hid (make_ok h0 HL.out ho)
      rw [hE]
      clear hE ho
      go_wp2_with fail
      refine bodyPost_ret (v := .tuple #[.agg #[.int .i64 (-a), .int .i64 (-b)], .int .i64 0]) (by simp [results, Try.results41, go_sem, y0, y1]) rfl ⟨by rw [HM.out.1, HM.out.2], below_set2 h3 (Nat.le_refl _) _ _⟩
    · have HM := Lib.hid (make_bad h0 HL.out ho)
      rw [hE]
      clear hE ho
      go_wp2_with fail
      refine bodyPost_ret (v := .tuple #[.agg #[.int .i64 0, .int .i64 0], .int .i64 16]) (by simp [results, Try.results41, go_sem, y0, y1]) rfl ⟨by rw [HM.out.1, HM.out.2], below_set2 h3 (Nat.le_refl _) _ _⟩
  case hB => kernel_rfl
  all_goals rfl

set_option maxHeartbeats 400000 in
theorem refMake_zero (n : Int) (w : World) :
    Calls Try.prog 41 #[.int .i64 n, .int .i64 0] w (Ret w (.tuple #[(makeR n 0).v, .int .i64 (makeE n 0)])) := by
  obtain ⟨m1, m2⟩ := make_zero n
  rw [m1, m2]
  have y := Blk.new w 23 #[.int .i64 0, .int .i64 0]
  have hbw := below_alloc w (.cells #[.int .i64 0, .int .i64 0] 23)
  have y0 := y.cell (i := 0) rfl
  have y1 := y.cell (i := 1) rfl
  have y2 := y.frozen
  clear m1 m2
  go_enter Try.func41, Try.ntmps41
  go_wp2_with fail
  refine bodyPost_ret (v := .tuple #[.agg #[.int .i64 0, .int .i64 0], .int .i64 18]) (by simp [results, Try.results41, go_sem, y0, y1]) rfl ⟨rfl, ?_⟩
  first | exact below_set2 hbw (Nat.le_refl _) _ _ | exact hbw
end Go.Proofs.Ytjgampkpfjbmdaa
