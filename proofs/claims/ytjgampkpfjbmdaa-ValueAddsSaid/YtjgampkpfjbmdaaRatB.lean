/- Check, on both sides: the error of a ratio. For numbers of 64 bits. -/
import Derived.Test.YtjgampkpfjbmdaaRatA
namespace Go.Proofs.Ytjgampkpfjbmdaa
open Go.RowKit Go.Rel

set_option maxHeartbeats 1000000 in
theorem ratCheck_any (a : Rat2) (w : World) (hn : -9223372036854775808 ≤ a.n) (hn' : a.n ≤ 9223372036854775807) (hd : -9223372036854775808 ≤ a.d) (hd' : a.d ≤ 9223372036854775807) :
    Calls Try.prog 36 #[a.v] w (Ret w (.int .i64 (ratE a))) := by
  have key : (decide (a.d < 1) = true ∧ ratE a = 8) ∨ (decide (a.d < 1) = false ∧ decide (a.d > 1000000000) = true ∧ ratE a = 8) ∨
      (decide (a.d < 1) = false ∧ decide (a.d > 1000000000) = false ∧ decide ((a.n.natAbs : Int) > 1000000000) = true ∧ ratE a = 8) ∨
      (decide (a.d < 1) = false ∧ decide (a.d > 1000000000) = false ∧ decide ((a.n.natAbs : Int) > 1000000000) = false ∧ ((Nat.gcd a.n.natAbs a.d.toNat : Int) != 1) = true ∧ ratE a = 8) ∨
      (decide (a.d < 1) = false ∧ decide (a.d > 1000000000) = false ∧ decide ((a.n.natAbs : Int) > 1000000000) = false ∧ ((Nat.gcd a.n.natAbs a.d.toNat : Int) != 1) = false ∧ ratE a = 0) := by
    by_cases h1 : a.d < 1
    · exact .inl ⟨by simpa using h1, ratE_bad (fun h => by have := h.1; omega)⟩
    have h1' : decide (a.d < 1) = false := by simpa using h1
    by_cases h2 : a.d > 1000000000
    · exact .inr (.inl ⟨h1', by simpa using h2, ratE_bad (fun h => by have := h.2.1; omega)⟩)
    have h2' : decide (a.d > 1000000000) = false := by simpa using h2
    by_cases h3 : (a.n.natAbs : Int) > 1000000000
    · exact .inr (.inr (.inl ⟨h1', h2', by simpa using h3, ratE_bad (fun h => by have := h.2.2; omega)⟩))
    have h3' : decide ((a.n.natAbs : Int) > 1000000000) = false := by simpa using h3
    have e : a.d.toNat = a.d.natAbs := by omega
    by_cases h4 : Int.gcd a.n a.d = 1
    · exact .inr (.inr (.inr (.inr ⟨h1', h2', h3', by rw [e]; simp [Int.gcd] at h4 ⊢; omega, ratE_ok ⟨by omega, by omega, by omega, by omega, h4⟩⟩)))
    · exact .inr (.inr (.inr (.inl ⟨h1', h2', h3', by rw [e]; simp [Int.gcd] at h4 ⊢; omega, ratE_bad (fun h => h4 h.2.2.2.2)⟩)))
  obtain ⟨n, d⟩ := a
  simp only at hn hn' hd hd' key
  rcases key with ⟨d1, hE⟩ | ⟨d1, d2, hE⟩ | ⟨d1, d2, d3, hE⟩ | ⟨d1, d2, d3, d4, hE⟩ | ⟨d1, d2, d3, d4, hE⟩
  · have HE := Lib.hid hE
    clear hE
    go_enter Try.func36, Try.ntmps36
    go_wp2_with fail
    have q := Blk.new w 23 #[.int .i64 n, .int .i64 d]
    have hbw := below_alloc w (.cells #[.int .i64 n, .int .i64 d] 23)
    generalize World.alloc w _ = w1 at q hbw ⊢
    have hlt := q.lt
    have c0 : ∀ W, Below w1.heap.size w1 W → W.cell? ⟨w.heap.size, 0, none⟩ = some (.int .i64 n) := fun W hW => (q.keep hW).cell rfl
    have c1 : ∀ W, Below w1.heap.size w1 W → W.cell? ⟨w.heap.size, 1, none⟩ = some (.int .i64 d) := fun W hW => (q.keep hW).cell rfl
    apply wp_region_head 24 27 (hm := by kernel_rfl) (hN := rfl)
    case h =>
      simp only [List.take_succ_cons, List.take_zero]
      iterate 4 (apply head_still rfl; (intro W hW; go_simp; (try rfl)))
      iterate 3 (apply head_skip (by kernel_rfl))
      iterate 2 (apply head_still rfl; (intro W hW; go_simp; (try rfl)))
      iterate 4 (apply head_skip (by kernel_rfl))
      iterate 2 (apply head_still rfl; (intro W hW; go_simp; (try rfl)))
      iterate 8 (apply head_skip (by kernel_rfl))
      (apply head_still rfl; (intro W hW; go_simp; (try rfl)))
      refine head_nil ?_
      intro W hW _
      go_wp2_with fail
      go_ret
      exact ret_int HE.out.symm (hbw.trans (hW.mono (by omega)))
    case hB => kernel_rfl
    all_goals rfl
  · have HE := Lib.hid hE
    clear hE
    go_enter Try.func36, Try.ntmps36
    go_wp2_with fail
    have q := Blk.new w 23 #[.int .i64 n, .int .i64 d]
    have hbw := below_alloc w (.cells #[.int .i64 n, .int .i64 d] 23)
    generalize World.alloc w _ = w1 at q hbw ⊢
    have hlt := q.lt
    have c0 : ∀ W, Below w1.heap.size w1 W → W.cell? ⟨w.heap.size, 0, none⟩ = some (.int .i64 n) := fun W hW => (q.keep hW).cell rfl
    have c1 : ∀ W, Below w1.heap.size w1 W → W.cell? ⟨w.heap.size, 1, none⟩ = some (.int .i64 d) := fun W hW => (q.keep hW).cell rfl
    apply wp_region_head 24 27 (hm := by kernel_rfl) (hN := rfl)
    case h =>
      simp only [List.take_succ_cons, List.take_zero]
      iterate 4 (apply head_still rfl; (intro W hW; go_simp; (try rfl)))
      iterate 3 (apply head_still (by kernel_rfl); (intro W hW; go_simp; (try rfl)))
      iterate 2 (apply head_still rfl; (intro W hW; go_simp; (try rfl)))
      iterate 4 (apply head_skip (by kernel_rfl))
      iterate 2 (apply head_still rfl; (intro W hW; go_simp; (try rfl)))
      iterate 8 (apply head_skip (by kernel_rfl))
      (apply head_still rfl; (intro W hW; go_simp; (try rfl)))
      refine head_nil ?_
      intro W hW _
      go_wp2_with fail
      go_ret
      exact ret_int HE.out.symm (hbw.trans (hW.mono (by omega)))
    case hB => kernel_rfl
    all_goals rfl
  · have HE := Lib.hid hE
    clear hE
    go_enter Try.func36, Try.ntmps36
    go_wp2_with fail
    have q := Blk.new w 23 #[.int .i64 n, .int .i64 d]
    have hbw := below_alloc w (.cells #[.int .i64 n, .int .i64 d] 23)
    generalize World.alloc w _ = w1 at q hbw ⊢
    have hlt := q.lt
    have c0 : ∀ W, Below w1.heap.size w1 W → W.cell? ⟨w.heap.size, 0, none⟩ = some (.int .i64 n) := fun W hW => (q.keep hW).cell rfl
    have c1 : ∀ W, Below w1.heap.size w1 W → W.cell? ⟨w.heap.size, 1, none⟩ = some (.int .i64 d) := fun W hW => (q.keep hW).cell rfl
    apply wp_region_head 24 27 (hm := by kernel_rfl) (hN := rfl)
    case h =>
      simp only [List.take_succ_cons, List.take_zero]
      iterate 4 (apply head_still rfl; (intro W hW; go_simp; (try rfl)))
      iterate 3 (apply head_still (by kernel_rfl); (intro W hW; go_simp; (try rfl)))
      iterate 2 (apply head_still rfl; (intro W hW; go_simp; (try rfl)))
      iterate 2 (apply head_still (by kernel_rfl); (intro W hW; go_simp; (try rfl)))
      (apply head_call (by kernel_rfl); (intro W; go_simp; exact ⟨rfl, rfl⟩); (intro W hW; exact (size_any _ _ (by omega) (by omega)).mono fun e W' h => h.ret))
      (apply head_still (by kernel_rfl); (intro W hW; go_simp; (try rfl)))
      iterate 2 (apply head_still rfl; (intro W hW; go_simp; (try rfl)))
      iterate 8 (apply head_skip (by kernel_rfl))
      (apply head_still rfl; (intro W hW; go_simp; (try rfl)))
      refine head_nil ?_
      intro W hW _
      go_wp2_with fail
      go_ret
      exact ret_int HE.out.symm (hbw.trans (hW.mono (by omega)))
    case hB => kernel_rfl
    all_goals rfl
  · have HE := Lib.hid hE
    clear hE
    obtain ⟨D, rfl⟩ : ∃ D : Nat, d = D := ⟨d.toNat, by simp at d1; omega⟩
    have hD : IntKind.u64.wrap (D : Int) = D := by rw [IntKind.wrap_u64]; omega
    rw [Int.toNat_natCast] at d4
    go_enter Try.func36, Try.ntmps36
    go_wp2_with fail
    have q := Blk.new w 23 #[.int .i64 n, .int .i64 D]
    have hbw := below_alloc w (.cells #[.int .i64 n, .int .i64 D] 23)
    generalize World.alloc w _ = w1 at q hbw ⊢
    have hlt := q.lt
    have c0 : ∀ W, Below w1.heap.size w1 W → W.cell? ⟨w.heap.size, 0, none⟩ = some (.int .i64 n) := fun W hW => (q.keep hW).cell rfl
    have c1 : ∀ W, Below w1.heap.size w1 W → W.cell? ⟨w.heap.size, 1, none⟩ = some (.int .i64 D) := fun W hW => (q.keep hW).cell rfl
    apply wp_region_head 24 27 (hm := by kernel_rfl) (hN := rfl)
    case h =>
      simp only [List.take_succ_cons, List.take_zero]
      iterate 4 (apply head_still rfl; (intro W hW; go_simp; (try rfl)))
      iterate 3 (apply head_still (by kernel_rfl); (intro W hW; go_simp; (try rfl)))
      iterate 2 (apply head_still rfl; (intro W hW; go_simp; (try rfl)))
      iterate 2 (apply head_still (by kernel_rfl); (intro W hW; go_simp; (try rfl)))
      (apply head_call (by kernel_rfl); (intro W; go_simp; exact ⟨rfl, rfl⟩); (intro W hW; exact (size_any _ _ (by omega) (by omega)).mono fun e W' h => h.ret))
      (apply head_still (by kernel_rfl); (intro W hW; go_simp; (try rfl)))
      iterate 2 (apply head_still rfl; (intro W hW; go_simp; (try rfl)))
      iterate 2 (apply head_still (by kernel_rfl); (intro W hW; go_simp; (try rfl)))
      (apply head_call (by kernel_rfl); (intro W; go_simp; exact ⟨rfl, rfl⟩); (intro W hW; exact (size_any _ _ (by omega) (by omega)).mono fun e W' h => h.ret))
      iterate 3 (apply head_still (by kernel_rfl); (intro W hW; go_simp; (try rfl)))
      (apply head_call (by kernel_rfl); (intro W; go_simp; exact ⟨rfl, rfl⟩); (intro W hW; exact gcd_any _ _ _ (by omega) (by omega)))
      (apply head_still (by kernel_rfl); (intro W hW; go_simp; (try rfl)))
      (apply head_still rfl; (intro W hW; go_simp; (try rfl)))
      refine head_nil ?_
      intro W hW _
      go_wp2_with fail
      go_ret
      exact ret_int HE.out.symm (hbw.trans (hW.mono (by omega)))
    case hB => kernel_rfl
    all_goals rfl
  · have HE := Lib.hid hE
    clear hE
    obtain ⟨D, rfl⟩ : ∃ D : Nat, d = D := ⟨d.toNat, by simp at d1; omega⟩
    have hD : IntKind.u64.wrap (D : Int) = D := by rw [IntKind.wrap_u64]; omega
    rw [Int.toNat_natCast] at d4
    go_enter Try.func36, Try.ntmps36
    go_wp2_with fail
    have q := Blk.new w 23 #[.int .i64 n, .int .i64 D]
    have hbw := below_alloc w (.cells #[.int .i64 n, .int .i64 D] 23)
    generalize World.alloc w _ = w1 at q hbw ⊢
    have hlt := q.lt
    have c0 : ∀ W, Below w1.heap.size w1 W → W.cell? ⟨w.heap.size, 0, none⟩ = some (.int .i64 n) := fun W hW => (q.keep hW).cell rfl
    have c1 : ∀ W, Below w1.heap.size w1 W → W.cell? ⟨w.heap.size, 1, none⟩ = some (.int .i64 D) := fun W hW => (q.keep hW).cell rfl
    apply wp_region_head 24 27 (hm := by kernel_rfl) (hN := rfl)
    case h =>
      simp only [List.take_succ_cons, List.take_zero]
      iterate 4 (apply head_still rfl; (intro W hW; go_simp; (try rfl)))
      iterate 3 (apply head_still (by kernel_rfl); (intro W hW; go_simp; (try rfl)))
      iterate 2 (apply head_still rfl; (intro W hW; go_simp; (try rfl)))
      iterate 2 (apply head_still (by kernel_rfl); (intro W hW; go_simp; (try rfl)))
      (apply head_call (by kernel_rfl); (intro W; go_simp; exact ⟨rfl, rfl⟩); (intro W hW; exact (size_any _ _ (by omega) (by omega)).mono fun e W' h => h.ret))
      (apply head_still (by kernel_rfl); (intro W hW; go_simp; (try rfl)))
      iterate 2 (apply head_still rfl; (intro W hW; go_simp; (try rfl)))
      iterate 2 (apply head_still (by kernel_rfl); (intro W hW; go_simp; (try rfl)))
      (apply head_call (by kernel_rfl); (intro W; go_simp; exact ⟨rfl, rfl⟩); (intro W hW; exact (size_any _ _ (by omega) (by omega)).mono fun e W' h => h.ret))
      iterate 3 (apply head_still (by kernel_rfl); (intro W hW; go_simp; (try rfl)))
      (apply head_call (by kernel_rfl); (intro W; go_simp; exact ⟨rfl, rfl⟩); (intro W hW; exact gcd_any _ _ _ (by omega) (by omega)))
      (apply head_still (by kernel_rfl); (intro W hW; go_simp; (try rfl)))
      (apply head_still rfl; (intro W hW; go_simp; (try rfl)))
      refine head_nil ?_
      intro W hW _
      go_wp2_with fail
      go_ret
      exact ret_int HE.out.symm (hbw.trans (hW.mono (by omega)))
    case hB => kernel_rfl
    all_goals rfl

set_option maxHeartbeats 1000000 in
theorem refRatCheck_any (a : Rat2) (w : World) (hn : -9223372036854775808 ≤ a.n) (hn' : a.n ≤ 9223372036854775807) (hd : -9223372036854775808 ≤ a.d) (hd' : a.d ≤ 9223372036854775807) :
    Calls Try.prog 37 #[a.v] w (Ret w (.int .i64 (ratE a))) := by
  have key : (decide (a.d < 1) = true ∧ ratE a = 8) ∨ (decide (a.d < 1) = false ∧ decide (a.d > 1000000000) = true ∧ ratE a = 8) ∨
      (decide (a.d < 1) = false ∧ decide (a.d > 1000000000) = false ∧ decide (a.n < -1000000000) = true ∧ ratE a = 8) ∨
      (decide (a.d < 1) = false ∧ decide (a.d > 1000000000) = false ∧ decide (a.n < -1000000000) = false ∧ decide (a.n > 1000000000) = true ∧ ratE a = 8) ∨
      (decide (a.d < 1) = false ∧ decide (a.d > 1000000000) = false ∧ decide (a.n < -1000000000) = false ∧ decide (a.n > 1000000000) = false ∧ ((Int.gcd a.n a.d : Int) != 1) = true ∧ ratE a = 8) ∨
      (decide (a.d < 1) = false ∧ decide (a.d > 1000000000) = false ∧ decide (a.n < -1000000000) = false ∧ decide (a.n > 1000000000) = false ∧ ((Int.gcd a.n a.d : Int) != 1) = false ∧ ratE a = 0) := by
    by_cases h1 : a.d < 1
    · exact .inl ⟨by simpa using h1, ratE_bad (fun h => by have := h.1; omega)⟩
    have h1' : decide (a.d < 1) = false := by simpa using h1
    by_cases h2 : a.d > 1000000000
    · exact .inr (.inl ⟨h1', by simpa using h2, ratE_bad (fun h => by have := h.2.1; omega)⟩)
    have h2' : decide (a.d > 1000000000) = false := by simpa using h2
    by_cases h3 : a.n < -1000000000
    · exact .inr (.inr (.inl ⟨h1', h2', by simpa using h3, ratE_bad (fun h => by have := h.2.2; omega)⟩))
    have h3' : decide (a.n < -1000000000) = false := by simpa using h3
    by_cases h4 : a.n > 1000000000
    · exact .inr (.inr (.inr (.inl ⟨h1', h2', h3', by simpa using h4, ratE_bad (fun h => by have := h.2.2; omega)⟩)))
    have h4' : decide (a.n > 1000000000) = false := by simpa using h4
    by_cases h5 : Int.gcd a.n a.d = 1
    · exact .inr (.inr (.inr (.inr (.inr ⟨h1', h2', h3', h4', by simp; omega, ratE_ok ⟨by omega, by omega, by omega, by omega, h5⟩⟩))))
    · exact .inr (.inr (.inr (.inr (.inl ⟨h1', h2', h3', h4', by simp; omega, ratE_bad (fun h => h5 h.2.2.2.2)⟩))))
  obtain ⟨n, d⟩ := a
  simp only at hn hn' hd hd' key
  rcases key with ⟨d1, hE⟩ | ⟨d1, d2, hE⟩ | ⟨d1, d2, d3, hE⟩ | ⟨d1, d2, d3, d4, hE⟩ | ⟨d1, d2, d3, d4, d5, hE⟩ | ⟨d1, d2, d3, d4, d5, hE⟩
  all_goals
    have HE := Lib.hid hE
    clear hE
    go_enter Try.func37, Try.ntmps37
    go_wp2_with fail
    first
      | (go_ret; exact ret_int HE.out.symm (below_alloc w _))
      | (simp only [decide_eq_false_iff_not] at d1 d2 d3 d4
         refine (common_any _ _ _ (by omega) (by omega) (by omega) (by omega)).mono ?_
         rintro e w2 ⟨rfl, hb2⟩
         go_wp2_with fail
         go_ret
         exact ret_int HE.out.symm ((below_alloc w _).trans (hb2.mono (by simp))))
end Go.Proofs.Ytjgampkpfjbmdaa
