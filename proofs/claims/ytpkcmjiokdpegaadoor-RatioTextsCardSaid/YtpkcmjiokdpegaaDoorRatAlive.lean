/- The chapter's examples on ratios. -/
import Derived.Test.YtpkcmjiokdpegaaDoorRatT
import Derived.Test.YtpkcmjiokdpegaaDoorRatEq
import Derived.Test.YtpkcmjiokdpegaaDoorRatJ
import Derived.Test.YtpkcmjiokdpegaaDoorRatL
namespace Go.Proofs.YtpkcmjiokdpegaaDoor
open Go.RowKit Go.Rel

theorem part_any (x y : Int) (w : World) : Calls Tryd.prog 26 #[.int .i64 x, .int .i64 y] w (Ret w (Rat2.v ⟨x, y⟩)) := by
  go_enter Tryd.func26, Tryd.ntmps26
  go_wp2_with fail
  refine bodyPost_ret (v := Rat2.v ⟨x, y⟩) (by
    have z0 := cell_new w #[.int .i64 x, .int .i64 y] 23 (i := 0) rfl
    have z1 := cell_new w #[.int .i64 x, .int .i64 y] 23 (i := 1) rfl
    simp [results, Tryd.results26, go_sem]) rfl ⟨rfl, below_alloc w _⟩

theorem text32 : textS ⟨-3, 2⟩ = ⟨#[45, 51, 47, 50]⟩ := by
  unfold textS
  rw [if_pos (by decide +kernel)]
  have h : textL ⟨-3, 2⟩ = [45, 51, 47, 50] := by
    unfold textL
    have e1 : Lib.itoa (-3) = [45, 51] := by simp [Lib.itoa, Lib.decDigits]
    have e2 : Lib.itoa 2 = [50] := by simp [Lib.itoa, Lib.decDigits]
    simp [e1, e2]
  rw [h]

attribute [local irreducible] Go.Rel.Gives in
set_option maxRecDepth 100000 in
set_option maxHeartbeats 8000000 in
theorem alive_any (w : World) (ht : Tab w) : Calls Tryd.prog 10 #[] w (Ret w (.bool true)) := by
  have hb := Below.refl w.heap.size w
  go_enter Tryd.func10, Tryd.ntmps10
  go_wp2_with fail
  refine (part_any _ _ _).mono ?_
  rintro e w1 ⟨rfl, hx⟩
  replace ht := ht.keep hx
  replace hb := hb.trans (hx.mono hb.size)
  clear hx
  go_wp2_with fail
  refine (part_any _ _ _).mono ?_
  rintro e w2 ⟨rfl, hx⟩
  replace ht := ht.keep hx
  replace hb := hb.trans (hx.mono hb.size)
  clear hx
  go_wp2_with fail
  have r := opAdd_any ⟨1, 2⟩ ⟨1, 3⟩ w2 (by simp [Rat64]) (by simp [Rat64])
  rw [show opAddR ⟨1, 2⟩ ⟨1, 3⟩ = ⟨5, 6⟩ by decide +kernel, show opAddE ⟨1, 2⟩ ⟨1, 3⟩ = 0 by decide +kernel] at r
  refine r.mono ?_
  clear r
  rintro e w3 ⟨rfl, hx⟩
  replace ht := ht.keep hx
  replace hb := hb.trans (hx.mono hb.size)
  clear hx
  have k1 := Blk.new w3 23 #[.int .i64 5, .int .i64 6]
  have hx := below_alloc w3 (.cells #[.int .i64 5, .int .i64 6] 23)
  replace ht := ht.keep hx
  replace hb := hb.trans (hx.mono hb.size)
  clear hx
  go_wp2_with fail
  generalize World.alloc w3 _ = w4 at k1 hb ht ⊢
  generalize w3.heap.size = gk1 at k1 ⊢
  refine (part_any _ _ _).mono ?_
  rintro e w5 ⟨rfl, hx⟩
  replace k1 := k1.keep hx
  replace ht := ht.keep hx
  replace hb := hb.trans (hx.mono hb.size)
  clear hx
  go_wp2_with fail
  refine (part_any _ _ _).mono ?_
  rintro e w6 ⟨rfl, hx⟩
  replace k1 := k1.keep hx
  replace ht := ht.keep hx
  replace hb := hb.trans (hx.mono hb.size)
  clear hx
  go_wp2_with fail
  have r := opSub_any ⟨1, 2⟩ ⟨1, 3⟩ w6 (by simp [Rat64]) (by simp [Rat64])
  rw [show opSubR ⟨1, 2⟩ ⟨1, 3⟩ = ⟨1, 6⟩ by decide +kernel, show opSubE ⟨1, 2⟩ ⟨1, 3⟩ = 0 by decide +kernel] at r
  refine r.mono ?_
  clear r
  rintro e w7 ⟨rfl, hx⟩
  replace k1 := k1.keep hx
  replace ht := ht.keep hx
  replace hb := hb.trans (hx.mono hb.size)
  clear hx
  have k3 := Blk.new w7 23 #[.int .i64 1, .int .i64 6]
  have hx := below_alloc w7 (.cells #[.int .i64 1, .int .i64 6] 23)
  replace k1 := k1.keep hx
  replace ht := ht.keep hx
  replace hb := hb.trans (hx.mono hb.size)
  clear hx
  go_wp2_with fail
  generalize World.alloc w7 _ = w8 at k1 k3 hb ht ⊢
  generalize w7.heap.size = gk3 at k3 ⊢
  refine (part_any _ _ _).mono ?_
  rintro e w9 ⟨rfl, hx⟩
  replace k1 := k1.keep hx
  replace k3 := k3.keep hx
  replace ht := ht.keep hx
  replace hb := hb.trans (hx.mono hb.size)
  clear hx
  go_wp2_with fail
  refine (part_any _ _ _).mono ?_
  rintro e w10 ⟨rfl, hx⟩
  replace k1 := k1.keep hx
  replace k3 := k3.keep hx
  replace ht := ht.keep hx
  replace hb := hb.trans (hx.mono hb.size)
  clear hx
  go_wp2_with fail
  have r := opMul_any ⟨1, 2⟩ ⟨1, 3⟩ w10 (by simp [Rat64]) (by simp [Rat64])
  rw [show opMulR ⟨1, 2⟩ ⟨1, 3⟩ = ⟨1, 6⟩ by decide +kernel, show opMulE ⟨1, 2⟩ ⟨1, 3⟩ = 0 by decide +kernel] at r
  refine r.mono ?_
  clear r
  rintro e w11 ⟨rfl, hx⟩
  replace k1 := k1.keep hx
  replace k3 := k3.keep hx
  replace ht := ht.keep hx
  replace hb := hb.trans (hx.mono hb.size)
  clear hx
  have k5 := Blk.new w11 23 #[.int .i64 1, .int .i64 6]
  have hx := below_alloc w11 (.cells #[.int .i64 1, .int .i64 6] 23)
  replace k1 := k1.keep hx
  replace k3 := k3.keep hx
  replace ht := ht.keep hx
  replace hb := hb.trans (hx.mono hb.size)
  clear hx
  go_wp2_with fail
  generalize World.alloc w11 _ = w12 at k1 k3 k5 hb ht ⊢
  generalize w11.heap.size = gk5 at k5 ⊢
  refine (part_any _ _ _).mono ?_
  rintro e w13 ⟨rfl, hx⟩
  replace k1 := k1.keep hx
  replace k3 := k3.keep hx
  replace k5 := k5.keep hx
  replace ht := ht.keep hx
  replace hb := hb.trans (hx.mono hb.size)
  clear hx
  go_wp2_with fail
  refine (part_any _ _ _).mono ?_
  rintro e w14 ⟨rfl, hx⟩
  replace k1 := k1.keep hx
  replace k3 := k3.keep hx
  replace k5 := k5.keep hx
  replace ht := ht.keep hx
  replace hb := hb.trans (hx.mono hb.size)
  clear hx
  go_wp2_with fail
  have r := opDiv_any ⟨1, 2⟩ ⟨1, 3⟩ w14 (by simp [Rat64]) (by simp [Rat64])
  rw [show opDivR ⟨1, 2⟩ ⟨1, 3⟩ = ⟨3, 2⟩ by decide +kernel, show opDivE ⟨1, 2⟩ ⟨1, 3⟩ = 0 by decide +kernel] at r
  refine r.mono ?_
  clear r
  rintro e w15 ⟨rfl, hx⟩
  replace k1 := k1.keep hx
  replace k3 := k3.keep hx
  replace k5 := k5.keep hx
  replace ht := ht.keep hx
  replace hb := hb.trans (hx.mono hb.size)
  clear hx
  have k7 := Blk.new w15 23 #[.int .i64 3, .int .i64 2]
  have hx := below_alloc w15 (.cells #[.int .i64 3, .int .i64 2] 23)
  replace k1 := k1.keep hx
  replace k3 := k3.keep hx
  replace k5 := k5.keep hx
  replace ht := ht.keep hx
  replace hb := hb.trans (hx.mono hb.size)
  clear hx
  go_wp2_with fail
  generalize World.alloc w15 _ = w16 at k1 k3 k5 k7 hb ht ⊢
  generalize w15.heap.size = gk7 at k7 ⊢
  refine (part_any _ _ _).mono ?_
  rintro e w17 ⟨rfl, hx⟩
  replace k1 := k1.keep hx
  replace k3 := k3.keep hx
  replace k5 := k5.keep hx
  replace k7 := k7.keep hx
  replace ht := ht.keep hx
  replace hb := hb.trans (hx.mono hb.size)
  clear hx
  go_wp2_with fail
  have r := floor_r ⟨-7, 2⟩ w17 (by simp [Rat64])
  rw [show floorR ⟨-7, 2⟩ = -4 by decide +kernel, show ratE ⟨-7, 2⟩ = 0 by decide +kernel] at r
  refine r.mono ?_
  clear r
  rintro e w18 ⟨rfl, hx⟩
  replace k1 := k1.keep hx
  replace k3 := k3.keep hx
  replace k5 := k5.keep hx
  replace k7 := k7.keep hx
  replace ht := ht.keep hx
  replace hb := hb.trans (hx.mono hb.size)
  clear hx
  go_wp2_with fail
  refine (part_any _ _ _).mono ?_
  rintro e w19 ⟨rfl, hx⟩
  replace k1 := k1.keep hx
  replace k3 := k3.keep hx
  replace k5 := k5.keep hx
  replace k7 := k7.keep hx
  replace ht := ht.keep hx
  replace hb := hb.trans (hx.mono hb.size)
  clear hx
  go_wp2_with fail
  have r := ceil_r ⟨-7, 2⟩ w19 (by simp [Rat64])
  rw [show ceilR ⟨-7, 2⟩ = -3 by decide +kernel, show ratE ⟨-7, 2⟩ = 0 by decide +kernel] at r
  refine r.mono ?_
  clear r
  rintro e w20 ⟨rfl, hx⟩
  replace k1 := k1.keep hx
  replace k3 := k3.keep hx
  replace k5 := k5.keep hx
  replace k7 := k7.keep hx
  replace ht := ht.keep hx
  replace hb := hb.trans (hx.mono hb.size)
  clear hx
  go_wp2_with fail
  have r := make_any 6 (-4) w20 (by omega) (by omega) (by omega) (by omega)
  rw [show makeR 6 (-4) = ⟨-3, 2⟩ by decide +kernel, show makeE 6 (-4) = 0 by decide +kernel] at r
  refine r.mono ?_
  clear r
  rintro e w21 ⟨rfl, hx⟩
  replace k1 := k1.keep hx
  replace k3 := k3.keep hx
  replace k5 := k5.keep hx
  replace k7 := k7.keep hx
  replace ht := ht.keep hx
  replace hb := hb.trans (hx.mono hb.size)
  clear hx
  have k13 := Blk.new w21 23 #[.int .i64 (-3), .int .i64 2]
  have hx := below_alloc w21 (.cells #[.int .i64 (-3), .int .i64 2] 23)
  replace k1 := k1.keep hx
  replace k3 := k3.keep hx
  replace k5 := k5.keep hx
  replace k7 := k7.keep hx
  replace ht := ht.keep hx
  replace hb := hb.trans (hx.mono hb.size)
  clear hx
  go_wp2_with fail
  generalize World.alloc w21 _ = w22 at k1 k3 k5 k7 k13 hb ht ⊢
  generalize w21.heap.size = gk13 at k13 ⊢
  refine (part_any _ _ _).mono ?_
  rintro e w23 ⟨rfl, hx⟩
  replace k1 := k1.keep hx
  replace k3 := k3.keep hx
  replace k5 := k5.keep hx
  replace k7 := k7.keep hx
  replace k13 := k13.keep hx
  replace ht := ht.keep hx
  replace hb := hb.trans (hx.mono hb.size)
  clear hx
  go_wp2_with fail
  refine (part_any _ _ _).mono ?_
  rintro e w24 ⟨rfl, hx⟩
  replace k1 := k1.keep hx
  replace k3 := k3.keep hx
  replace k5 := k5.keep hx
  replace k7 := k7.keep hx
  replace k13 := k13.keep hx
  replace ht := ht.keep hx
  replace hb := hb.trans (hx.mono hb.size)
  clear hx
  go_wp2_with fail
  have r := opAdd_any ⟨1, 1000000000⟩ ⟨1, 999999999⟩ w24 (by simp [Rat64]) (by simp [Rat64])
  rw [show opAddR ⟨1, 1000000000⟩ ⟨1, 999999999⟩ = ⟨0, 0⟩ by decide +kernel, show opAddE ⟨1, 1000000000⟩ ⟨1, 999999999⟩ = 16 by decide +kernel] at r
  refine r.mono ?_
  clear r
  rintro e w25 ⟨rfl, hx⟩
  replace k1 := k1.keep hx
  replace k3 := k3.keep hx
  replace k5 := k5.keep hx
  replace k7 := k7.keep hx
  replace k13 := k13.keep hx
  replace ht := ht.keep hx
  replace hb := hb.trans (hx.mono hb.size)
  clear hx
  have hx := below_alloc w25 (.cells #[.int .i64 0, .int .i64 0] 23)
  replace k1 := k1.keep hx
  replace k3 := k3.keep hx
  replace k5 := k5.keep hx
  replace k7 := k7.keep hx
  replace k13 := k13.keep hx
  replace ht := ht.keep hx
  replace hb := hb.trans (hx.mono hb.size)
  clear hx
  go_wp2_with fail
  generalize World.alloc w25 _ = w26 at k1 k3 k5 k7 k13 hb ht ⊢
  refine (part_any _ _ _).mono ?_
  rintro e w27 ⟨rfl, hx⟩
  replace k1 := k1.keep hx
  replace k3 := k3.keep hx
  replace k5 := k5.keep hx
  replace k7 := k7.keep hx
  replace k13 := k13.keep hx
  replace ht := ht.keep hx
  replace hb := hb.trans (hx.mono hb.size)
  clear hx
  go_wp2_with fail
  have r := text_any ⟨-3, 2⟩ w27 (by simp [Rat64]) ht
  rw [show textS ⟨-3, 2⟩ = ⟨#[45, 51, 47, 50]⟩ from text32, show ratE ⟨-3, 2⟩ = 0 by decide +kernel] at r
  refine r.mono ?_
  clear r
  rintro e w28 ⟨rfl, hx⟩
  replace k1 := k1.keep hx
  replace k3 := k3.keep hx
  replace k5 := k5.keep hx
  replace k7 := k7.keep hx
  replace k13 := k13.keep hx
  replace ht := ht.keep hx
  replace hb := hb.trans (hx.mono hb.size)
  clear hx
  go_wp2_with fail
  have k1_0 := fun W (hW : Below w28.heap.size w28 W) => (k1.keep hW).cell (i := 0) rfl
  have k1_1 := fun W (hW : Below w28.heap.size w28 W) => (k1.keep hW).cell (i := 1) rfl
  have k3_0 := fun W (hW : Below w28.heap.size w28 W) => (k3.keep hW).cell (i := 0) rfl
  have k3_1 := fun W (hW : Below w28.heap.size w28 W) => (k3.keep hW).cell (i := 1) rfl
  have k5_0 := fun W (hW : Below w28.heap.size w28 W) => (k5.keep hW).cell (i := 0) rfl
  have k5_1 := fun W (hW : Below w28.heap.size w28 W) => (k5.keep hW).cell (i := 1) rfl
  have k7_0 := fun W (hW : Below w28.heap.size w28 W) => (k7.keep hW).cell (i := 0) rfl
  have k7_1 := fun W (hW : Below w28.heap.size w28 W) => (k7.keep hW).cell (i := 1) rfl
  have k13_0 := fun W (hW : Below w28.heap.size w28 W) => (k13.keep hW).cell (i := 0) rfl
  have k13_1 := fun W (hW : Below w28.heap.size w28 W) => (k13.keep hW).cell (i := 1) rfl
  have e0 : ∀ W, (binOp .eql 23 (.agg #[.int .i64 5, .int .i64 6]) (.agg #[.int .i64 5, .int .i64 6])).run Tryd.prog W = .ok (.bool true) W := fun W => by rw [ratEql]; rfl
  have e1 : ∀ W, (binOp .eql 23 (.agg #[.int .i64 1, .int .i64 6]) (.agg #[.int .i64 1, .int .i64 6])).run Tryd.prog W = .ok (.bool true) W := fun W => by rw [ratEql]; rfl
  have e2 : ∀ W, (binOp .eql 23 (.agg #[.int .i64 3, .int .i64 2]) (.agg #[.int .i64 3, .int .i64 2])).run Tryd.prog W = .ok (.bool true) W := fun W => by rw [ratEql]; rfl
  have e3 : ∀ W, (binOp .eql 23 (.agg #[.int .i64 (-3), .int .i64 2]) (.agg #[.int .i64 (-3), .int .i64 2])).run Tryd.prog W = .ok (.bool true) W := fun W => by rw [ratEql]; rfl
  have hveg := Tryd.eqGuardRat
  have HB := Lib.hid hb
  clear k1 k3 k5 k7 k13 hb ht
  apply wp_region_head 38 141 (hm := by kernel_rfl) (hN := rfl)
  case h =>
    simp only [List.take_succ_cons, List.take_zero]
    iterate 3 (apply head_still (by kernel_rfl); (intro W hW; go_simp; (try rfl)))
    (apply head_call (by kernel_rfl); (intro W; go_simp; exact ⟨rfl, rfl⟩); (intro W hW; exact part_any _ _ W))
    iterate 4 (apply head_still (by kernel_rfl); (intro W hW; go_simp; (try rfl)))
    (apply head_call (by kernel_rfl); (intro W; go_simp; exact ⟨rfl, rfl⟩); (intro W hW; exact part_any _ _ W))
    iterate 4 (apply head_still (by kernel_rfl); (intro W hW; go_simp; (try rfl)))
    (apply head_call (by kernel_rfl); (intro W; go_simp; exact ⟨rfl, rfl⟩); (intro W hW; exact part_any _ _ W))
    iterate 4 (apply head_still (by kernel_rfl); (intro W hW; go_simp; (try rfl)))
    (apply head_call (by kernel_rfl); (intro W; go_simp; exact ⟨rfl, rfl⟩); (intro W hW; exact part_any _ _ W))
    iterate 12 (apply head_still (by kernel_rfl); (intro W hW; go_simp; (try rfl)))
    (apply head_call (by kernel_rfl); (intro W; go_simp; exact ⟨rfl, rfl⟩); (intro W hW; exact part_any _ _ W))
    iterate 6 (apply head_still (by kernel_rfl); (intro W hW; go_simp; (try rfl)))
    refine head_nil ?_
    intro W hW hF
    clear k1_0 k1_1 k3_0 k3_1 k5_0 k5_1 k7_0 k7_1 k13_0 k13_1
    go_wp2_with fail
    go_ret
    exact ret_bool rfl (HB.out.trans (hW.mono HB.out.size))
  case hB => kernel_rfl
  all_goals rfl
end Go.Proofs.YtpkcmjiokdpegaaDoor
