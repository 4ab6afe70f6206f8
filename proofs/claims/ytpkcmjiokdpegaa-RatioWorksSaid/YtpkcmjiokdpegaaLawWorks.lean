/- The law 'RatioWorks': Check, Add, Sub, Mul, Div, Neg, Cmp, Floor and Ceil return what the reference returns, for every two ratios. -/
import Derived.Test.YtpkcmjiokdpegaaRatL
import Derived.Test.YtpkcmjiokdpegaaRatEq
import Derived.Test.YtpkcmjiokdpegaaRatRow
namespace Go.Proofs.Ytpkcmjiokdpegaa
open Go.RowKit Go.Rel

theorem far2 {w : World} {g : Nat} {t : TypeId} {cs : Array Value} (h : Blk w g t cs) {b : Nat} (hp : ¬ g = b) (u v : Value) : Blk ((w.setCell ⟨b, 0, none⟩ u).setCell ⟨b, 1, none⟩ v) g t cs :=
  (h.far (p := ⟨b, 0, none⟩) hp u).far (p := ⟨b, 1, none⟩) hp v

set_option maxRecDepth 100000 in
set_option maxHeartbeats 4000000 in
theorem works_walk (a b : Rat2) (w : World) (ha : Rat64 a) (hb : Rat64 b) :
    Calls Try.prog 4 #[a.v, b.v] w (Ret w (.bool true)) := by
  have hself := ratB_self
  have hm31 := Try.eqGuardRat
  have hvn := ratNeq
  obtain ⟨x1, x2, x3, x4⟩ := boxes2 w #[.int .i64 a.n, .int .i64 a.d] #[.int .i64 b.n, .int .i64 b.d] 24 24
  have hx := Lib.hid (show _ ∧ _ ∧ _ ∧ _ from ⟨x1, x2, x3, x4⟩)
  clear x1 x2 x3 x4
  go_enter Try.func4, Try.ntmps4
  go_wp2_with fail
  obtain ⟨hb0, x2, ka, kb⟩ := hx.out
  generalize World.alloc _ _ = w0 at hb0 x2 ka kb ⊢
  replace ka : Blk w0 _ _ #[.int .i64 a.n, .int .i64 a.d] := ka
  replace kb : Blk w0 _ _ #[.int .i64 b.n, .int .i64 b.d] := kb
  have hab : ¬ w.heap.size = w.heap.size + 1 := by omega
  clear x2 hx
  refine (opAdd_any a b _ ha hb).mono ?_
  rintro e w1 ⟨rfl, hb1⟩
  replace hb0 := hb0.trans (hb1.mono hb0.size)
  replace ka := ka.keep hb1
  replace kb := kb.keep hb1
  clear hb1
  have mkc := Lib.hid (Blk.new w1 24 #[.int .i64 (opAddR a b).n, .int .i64 (opAddR a b).d])
  have ma := Lib.hid (ka.alloc (.cells #[.int .i64 (opAddR a b).n, .int .i64 (opAddR a b).d] 24))
  have mb := Lib.hid (kb.alloc (.cells #[.int .i64 (opAddR a b).n, .int .i64 (opAddR a b).d] 24))
  have nbw := Lib.hid (hb0.trans ((below_alloc w1 (.cells #[.int .i64 (opAddR a b).n, .int .i64 (opAddR a b).d] 24)).mono hb0.size))
  have a0 := ka.cell (i := 0) rfl
  have a1 := ka.cell (i := 1) rfl
  have af := ka.frozen
  have al := ka.lt
  have b0 := kb.cell (i := 0) rfl
  have b1 := kb.cell (i := 1) rfl
  have bf := kb.frozen
  have bl := kb.lt
  obtain ⟨nc, hnc⟩ : ∃ nc, w1.heap.size = nc := ⟨_, rfl⟩
  have hac : ¬ w.heap.size = nc := by omega
  have hbc : ¬ (w.heap.size + 1) = nc := by omega
  have hlec : w.heap.size ≤ nc := by omega
  have HN := Lib.hid hnc
  clear hnc
  go_wp2_with fail
  clear a0 a1 af al b0 b1 bf bl
  have kc := mkc.out
  replace ka := ma.out
  replace kb := mb.out
  replace hb0 := nbw.out
  rw [HN.out] at kc ⊢
  clear mkc nbw HN ma mb
  generalize World.alloc _ _ = w2 at ka kb kc hb0 ⊢
  refine (refAdd_any a b _ ha hb).mono ?_
  rintro e w3 ⟨rfl, hb1⟩
  replace hb0 := hb0.trans (hb1.mono hb0.size)
  replace ka := ka.keep hb1
  replace kb := kb.keep hb1
  replace kc := kc.keep hb1
  clear hb1
  have mkd := Lib.hid (Blk.new w3 24 #[.int .i64 (opAddR a b).n, .int .i64 (opAddR a b).d])
  have ma := Lib.hid (ka.alloc (.cells #[.int .i64 (opAddR a b).n, .int .i64 (opAddR a b).d] 24))
  have mb := Lib.hid (kb.alloc (.cells #[.int .i64 (opAddR a b).n, .int .i64 (opAddR a b).d] 24))
  have mc := Lib.hid (kc.alloc (.cells #[.int .i64 (opAddR a b).n, .int .i64 (opAddR a b).d] 24))
  have nbw := Lib.hid (hb0.trans ((below_alloc w3 (.cells #[.int .i64 (opAddR a b).n, .int .i64 (opAddR a b).d] 24)).mono hb0.size))
  have a0 := ka.cell (i := 0) rfl
  have a1 := ka.cell (i := 1) rfl
  have af := ka.frozen
  have al := ka.lt
  have b0 := kb.cell (i := 0) rfl
  have b1 := kb.cell (i := 1) rfl
  have bf := kb.frozen
  have bl := kb.lt
  have c0 := kc.cell (i := 0) rfl
  have c1 := kc.cell (i := 1) rfl
  have cf := kc.frozen
  have cl := kc.lt
  obtain ⟨nd, hnd⟩ : ∃ nd, w3.heap.size = nd := ⟨_, rfl⟩
  have had : ¬ w.heap.size = nd := by omega
  have hbd : ¬ (w.heap.size + 1) = nd := by omega
  have hcd : ¬ nc = nd := by omega
  have hled : w.heap.size ≤ nd := by omega
  have HN := Lib.hid hnd
  clear hnd
  go_wp2_with fail
  clear a0 a1 af al b0 b1 bf bl c0 c1 cf cl
  have kd := mkd.out
  replace ka := ma.out
  replace kb := mb.out
  replace kc := mc.out
  replace hb0 := nbw.out
  rw [HN.out] at kd ⊢
  clear mkd nbw HN ma mb mc
  generalize World.alloc _ _ = w4 at ka kb kc kd hb0 ⊢
  have ga0 : ∀ W, Below w4.heap.size w4 W → W.cell? ⟨w.heap.size, 0, none⟩ = some (.int .i64 (a).n) := fun W hW => (ka.keep hW).cell rfl
  have ga1 : ∀ W, Below w4.heap.size w4 W → W.cell? ⟨w.heap.size, 1, none⟩ = some (.int .i64 (a).d) := fun W hW => (ka.keep hW).cell rfl
  have gc0 : ∀ W, Below w4.heap.size w4 W → W.cell? ⟨nc, 0, none⟩ = some (.int .i64 (opAddR a b).n) := fun W hW => (kc.keep hW).cell rfl
  have gc1 : ∀ W, Below w4.heap.size w4 W → W.cell? ⟨nc, 1, none⟩ = some (.int .i64 (opAddR a b).d) := fun W hW => (kc.keep hW).cell rfl
  have gd0 : ∀ W, Below w4.heap.size w4 W → W.cell? ⟨nd, 0, none⟩ = some (.int .i64 (opAddR a b).n) := fun W hW => (kd.keep hW).cell rfl
  have gd1 : ∀ W, Below w4.heap.size w4 W → W.cell? ⟨nd, 1, none⟩ = some (.int .i64 (opAddR a b).d) := fun W hW => (kd.keep hW).cell rfl
  apply wp_region_head 15 186 (hm := by kernel_rfl) (hN := rfl)
  case h =>
    simp only [List.take_succ_cons, List.take_zero]
    iterate 4 (apply head_still rfl; (intro W hW; go_simp; (try rfl)))
    iterate 3 (apply head_still (by kernel_rfl); (intro W hW; go_simp; (try rfl)))
    iterate 2 (apply head_still rfl; (intro W hW; go_simp; (try rfl)))
    iterate 1 (apply head_still (by kernel_rfl); (intro W hW; go_simp; (try rfl)))
    (apply head_call (by kernel_rfl); (intro W; go_simp; exact ⟨rfl, rfl⟩); (intro W hW; exact ratCheck_any a W ha.1 ha.2.1 ha.2.2.1 ha.2.2.2))
    iterate 1 (apply head_still (by kernel_rfl); (intro W hW; go_simp; (try rfl)))
    (apply head_call (by kernel_rfl); (intro W; go_simp; exact ⟨rfl, rfl⟩); (intro W hW; exact refRatCheck_any a W ha.1 ha.2.1 ha.2.2.1 ha.2.2.2))
    iterate 1 (apply head_still (by kernel_rfl); (intro W hW; go_simp; (try rfl)))
    iterate 1 (apply head_still rfl; (intro W hW; go_simp; (try rfl)))
    refine head_nil ?_
    intro w5 hW _
    replace hb0 := hb0.trans (hW.mono hb0.size)
    replace ka := ka.keep hW
    replace kb := kb.keep hW
    replace kc := kc.keep hW
    replace kd := kd.keep hW
    clear hW ga0 ga1 gc0 gc1 gd0 gd1
    have a0 := ka.cell (i := 0) rfl
    have a1 := ka.cell (i := 1) rfl
    have af := ka.frozen
    have al := ka.lt
    have b0 := kb.cell (i := 0) rfl
    have b1 := kb.cell (i := 1) rfl
    have bf := kb.frozen
    have bl := kb.lt
    have c0 := kc.cell (i := 0) rfl
    have c1 := kc.cell (i := 1) rfl
    have cf := kc.frozen
    have cl := kc.lt
    have d0 := kd.cell (i := 0) rfl
    have d1 := kd.cell (i := 1) rfl
    have df := kd.frozen
    have dl := kd.lt
    go_wp2_with fail
    clear a0 a1 af al b0 b1 bf bl c0 c1 cf cl d0 d1 df dl
    refine (opSub_any a b _ ha hb).mono ?_
    rintro e w6 ⟨rfl, hb1⟩
    replace hb0 := hb0.trans (hb1.mono hb0.size)
    replace ka := ka.keep hb1
    replace kb := kb.keep hb1
    replace kc := kc.keep hb1
    replace kd := kd.keep hb1
    clear hb1
    have ma := Lib.hid (far2 ka hac (.int .i64 (opSubR a b).n) (.int .i64 (opSubR a b).d))
    have mb := Lib.hid (far2 kb hbc (.int .i64 (opSubR a b).n) (.int .i64 (opSubR a b).d))
    have mc := Lib.hid (kc.set2 (.int .i64 (opSubR a b).n) (.int .i64 (opSubR a b).d))
    have md := Lib.hid (far2 kd (Ne.symm hcd) (.int .i64 (opSubR a b).n) (.int .i64 (opSubR a b).d))
    have nbw := Lib.hid (below_set2 hb0 hlec (.int .i64 (opSubR a b).n) (.int .i64 (opSubR a b).d))
    have a0 := ka.cell (i := 0) rfl
    have a1 := ka.cell (i := 1) rfl
    have af := ka.frozen
    have al := ka.lt
    have b0 := kb.cell (i := 0) rfl
    have b1 := kb.cell (i := 1) rfl
    have bf := kb.frozen
    have bl := kb.lt
    have c0 := kc.cell (i := 0) rfl
    have c1 := kc.cell (i := 1) rfl
    have cf := kc.frozen
    have cl := kc.lt
    have d0 := kd.cell (i := 0) rfl
    have d1 := kd.cell (i := 1) rfl
    have df := kd.frozen
    have dl := kd.lt
    go_wp2_with fail
    clear a0 a1 af al b0 b1 bf bl c0 c1 cf cl d0 d1 df dl
    replace ka := ma.out
    replace kb := mb.out
    replace kc := mc.out
    replace kd := md.out
    replace hb0 := nbw.out
    clear nbw ma mb mc md
    generalize World.setCell _ _ _ = w7 at ka kb kc kd hb0 ⊢
    refine (refSub_any a b _ ha hb).mono ?_
    rintro e w8 ⟨rfl, hb1⟩
    replace hb0 := hb0.trans (hb1.mono hb0.size)
    replace ka := ka.keep hb1
    replace kb := kb.keep hb1
    replace kc := kc.keep hb1
    replace kd := kd.keep hb1
    clear hb1
    have ma := Lib.hid (far2 ka had (.int .i64 (opSubR a b).n) (.int .i64 (opSubR a b).d))
    have mb := Lib.hid (far2 kb hbd (.int .i64 (opSubR a b).n) (.int .i64 (opSubR a b).d))
    have mc := Lib.hid (far2 kc hcd (.int .i64 (opSubR a b).n) (.int .i64 (opSubR a b).d))
    have md := Lib.hid (kd.set2 (.int .i64 (opSubR a b).n) (.int .i64 (opSubR a b).d))
    have nbw := Lib.hid (below_set2 hb0 hled (.int .i64 (opSubR a b).n) (.int .i64 (opSubR a b).d))
    have a0 := ka.cell (i := 0) rfl
    have a1 := ka.cell (i := 1) rfl
    have af := ka.frozen
    have al := ka.lt
    have b0 := kb.cell (i := 0) rfl
    have b1 := kb.cell (i := 1) rfl
    have bf := kb.frozen
    have bl := kb.lt
    have c0 := kc.cell (i := 0) rfl
    have c1 := kc.cell (i := 1) rfl
    have cf := kc.frozen
    have cl := kc.lt
    have d0 := kd.cell (i := 0) rfl
    have d1 := kd.cell (i := 1) rfl
    have df := kd.frozen
    have dl := kd.lt
    go_wp2_with fail
    clear a0 a1 af al b0 b1 bf bl c0 c1 cf cl d0 d1 df dl
    replace ka := ma.out
    replace kb := mb.out
    replace kc := mc.out
    replace kd := md.out
    replace hb0 := nbw.out
    clear nbw ma mb mc md
    generalize World.setCell _ _ _ = w9 at ka kb kc kd hb0 ⊢
    refine (opMul_any a b _ ha hb).mono ?_
    rintro e w10 ⟨rfl, hb1⟩
    replace hb0 := hb0.trans (hb1.mono hb0.size)
    replace ka := ka.keep hb1
    replace kb := kb.keep hb1
    replace kc := kc.keep hb1
    replace kd := kd.keep hb1
    clear hb1
    have ma := Lib.hid (far2 ka hac (.int .i64 (opMulR a b).n) (.int .i64 (opMulR a b).d))
    have mb := Lib.hid (far2 kb hbc (.int .i64 (opMulR a b).n) (.int .i64 (opMulR a b).d))
    have mc := Lib.hid (kc.set2 (.int .i64 (opMulR a b).n) (.int .i64 (opMulR a b).d))
    have md := Lib.hid (far2 kd (Ne.symm hcd) (.int .i64 (opMulR a b).n) (.int .i64 (opMulR a b).d))
    have nbw := Lib.hid (below_set2 hb0 hlec (.int .i64 (opMulR a b).n) (.int .i64 (opMulR a b).d))
    have a0 := ka.cell (i := 0) rfl
    have a1 := ka.cell (i := 1) rfl
    have af := ka.frozen
    have al := ka.lt
    have b0 := kb.cell (i := 0) rfl
    have b1 := kb.cell (i := 1) rfl
    have bf := kb.frozen
    have bl := kb.lt
    have c0 := kc.cell (i := 0) rfl
    have c1 := kc.cell (i := 1) rfl
    have cf := kc.frozen
    have cl := kc.lt
    have d0 := kd.cell (i := 0) rfl
    have d1 := kd.cell (i := 1) rfl
    have df := kd.frozen
    have dl := kd.lt
    go_wp2_with fail
    clear a0 a1 af al b0 b1 bf bl c0 c1 cf cl d0 d1 df dl
    replace ka := ma.out
    replace kb := mb.out
    replace kc := mc.out
    replace kd := md.out
    replace hb0 := nbw.out
    clear nbw ma mb mc md
    generalize World.setCell _ _ _ = w11 at ka kb kc kd hb0 ⊢
    refine (refMul_any a b _ ha hb).mono ?_
    rintro e w12 ⟨rfl, hb1⟩
    replace hb0 := hb0.trans (hb1.mono hb0.size)
    replace ka := ka.keep hb1
    replace kb := kb.keep hb1
    replace kc := kc.keep hb1
    replace kd := kd.keep hb1
    clear hb1
    have ma := Lib.hid (far2 ka had (.int .i64 (opMulR a b).n) (.int .i64 (opMulR a b).d))
    have mb := Lib.hid (far2 kb hbd (.int .i64 (opMulR a b).n) (.int .i64 (opMulR a b).d))
    have mc := Lib.hid (far2 kc hcd (.int .i64 (opMulR a b).n) (.int .i64 (opMulR a b).d))
    have md := Lib.hid (kd.set2 (.int .i64 (opMulR a b).n) (.int .i64 (opMulR a b).d))
    have nbw := Lib.hid (below_set2 hb0 hled (.int .i64 (opMulR a b).n) (.int .i64 (opMulR a b).d))
    have a0 := ka.cell (i := 0) rfl
    have a1 := ka.cell (i := 1) rfl
    have af := ka.frozen
    have al := ka.lt
    have b0 := kb.cell (i := 0) rfl
    have b1 := kb.cell (i := 1) rfl
    have bf := kb.frozen
    have bl := kb.lt
    have c0 := kc.cell (i := 0) rfl
    have c1 := kc.cell (i := 1) rfl
    have cf := kc.frozen
    have cl := kc.lt
    have d0 := kd.cell (i := 0) rfl
    have d1 := kd.cell (i := 1) rfl
    have df := kd.frozen
    have dl := kd.lt
    go_wp2_with fail
    clear a0 a1 af al b0 b1 bf bl c0 c1 cf cl d0 d1 df dl
    replace ka := ma.out
    replace kb := mb.out
    replace kc := mc.out
    replace kd := md.out
    replace hb0 := nbw.out
    clear nbw ma mb mc md
    generalize World.setCell _ _ _ = w13 at ka kb kc kd hb0 ⊢
    refine (opDiv_any a b _ ha hb).mono ?_
    rintro e w14 ⟨rfl, hb1⟩
    replace hb0 := hb0.trans (hb1.mono hb0.size)
    replace ka := ka.keep hb1
    replace kb := kb.keep hb1
    replace kc := kc.keep hb1
    replace kd := kd.keep hb1
    clear hb1
    have ma := Lib.hid (far2 ka hac (.int .i64 (opDivR a b).n) (.int .i64 (opDivR a b).d))
    have mb := Lib.hid (far2 kb hbc (.int .i64 (opDivR a b).n) (.int .i64 (opDivR a b).d))
    have mc := Lib.hid (kc.set2 (.int .i64 (opDivR a b).n) (.int .i64 (opDivR a b).d))
    have md := Lib.hid (far2 kd (Ne.symm hcd) (.int .i64 (opDivR a b).n) (.int .i64 (opDivR a b).d))
    have nbw := Lib.hid (below_set2 hb0 hlec (.int .i64 (opDivR a b).n) (.int .i64 (opDivR a b).d))
    have a0 := ka.cell (i := 0) rfl
    have a1 := ka.cell (i := 1) rfl
    have af := ka.frozen
    have al := ka.lt
    have b0 := kb.cell (i := 0) rfl
    have b1 := kb.cell (i := 1) rfl
    have bf := kb.frozen
    have bl := kb.lt
    have c0 := kc.cell (i := 0) rfl
    have c1 := kc.cell (i := 1) rfl
    have cf := kc.frozen
    have cl := kc.lt
    have d0 := kd.cell (i := 0) rfl
    have d1 := kd.cell (i := 1) rfl
    have df := kd.frozen
    have dl := kd.lt
    go_wp2_with fail
    clear a0 a1 af al b0 b1 bf bl c0 c1 cf cl d0 d1 df dl
    replace ka := ma.out
    replace kb := mb.out
    replace kc := mc.out
    replace kd := md.out
    replace hb0 := nbw.out
    clear nbw ma mb mc md
    generalize World.setCell _ _ _ = w15 at ka kb kc kd hb0 ⊢
    refine (refDiv_any a b _ ha hb).mono ?_
    rintro e w16 ⟨rfl, hb1⟩
    replace hb0 := hb0.trans (hb1.mono hb0.size)
    replace ka := ka.keep hb1
    replace kb := kb.keep hb1
    replace kc := kc.keep hb1
    replace kd := kd.keep hb1
    clear hb1
    have ma := Lib.hid (far2 ka had (.int .i64 (opDivR a b).n) (.int .i64 (opDivR a b).d))
    have mb := Lib.hid (far2 kb hbd (.int .i64 (opDivR a b).n) (.int .i64 (opDivR a b).d))
    have mc := Lib.hid (far2 kc hcd (.int .i64 (opDivR a b).n) (.int .i64 (opDivR a b).d))
    have md := Lib.hid (kd.set2 (.int .i64 (opDivR a b).n) (.int .i64 (opDivR a b).d))
    have nbw := Lib.hid (below_set2 hb0 hled (.int .i64 (opDivR a b).n) (.int .i64 (opDivR a b).d))
    have a0 := ka.cell (i := 0) rfl
    have a1 := ka.cell (i := 1) rfl
    have af := ka.frozen
    have al := ka.lt
    have b0 := kb.cell (i := 0) rfl
    have b1 := kb.cell (i := 1) rfl
    have bf := kb.frozen
    have bl := kb.lt
    have c0 := kc.cell (i := 0) rfl
    have c1 := kc.cell (i := 1) rfl
    have cf := kc.frozen
    have cl := kc.lt
    have d0 := kd.cell (i := 0) rfl
    have d1 := kd.cell (i := 1) rfl
    have df := kd.frozen
    have dl := kd.lt
    go_wp2_with fail
    clear a0 a1 af al b0 b1 bf bl c0 c1 cf cl d0 d1 df dl
    replace ka := ma.out
    replace kb := mb.out
    replace kc := mc.out
    replace kd := md.out
    replace hb0 := nbw.out
    clear nbw ma mb mc md
    generalize World.setCell _ _ _ = w17 at ka kb kc kd hb0 ⊢
    refine (neg_any a _ ha).mono ?_
    rintro e w18 ⟨rfl, hb1⟩
    replace hb0 := hb0.trans (hb1.mono hb0.size)
    replace ka := ka.keep hb1
    replace kb := kb.keep hb1
    replace kc := kc.keep hb1
    replace kd := kd.keep hb1
    clear hb1
    have ma := Lib.hid (far2 ka hac (.int .i64 (negR a).n) (.int .i64 (negR a).d))
    have mb := Lib.hid (far2 kb hbc (.int .i64 (negR a).n) (.int .i64 (negR a).d))
    have mc := Lib.hid (kc.set2 (.int .i64 (negR a).n) (.int .i64 (negR a).d))
    have md := Lib.hid (far2 kd (Ne.symm hcd) (.int .i64 (negR a).n) (.int .i64 (negR a).d))
    have nbw := Lib.hid (below_set2 hb0 hlec (.int .i64 (negR a).n) (.int .i64 (negR a).d))
    have a0 := ka.cell (i := 0) rfl
    have a1 := ka.cell (i := 1) rfl
    have af := ka.frozen
    have al := ka.lt
    have b0 := kb.cell (i := 0) rfl
    have b1 := kb.cell (i := 1) rfl
    have bf := kb.frozen
    have bl := kb.lt
    have c0 := kc.cell (i := 0) rfl
    have c1 := kc.cell (i := 1) rfl
    have cf := kc.frozen
    have cl := kc.lt
    have d0 := kd.cell (i := 0) rfl
    have d1 := kd.cell (i := 1) rfl
    have df := kd.frozen
    have dl := kd.lt
    go_wp2_with fail
    clear a0 a1 af al b0 b1 bf bl c0 c1 cf cl d0 d1 df dl
    replace ka := ma.out
    replace kb := mb.out
    replace kc := mc.out
    replace kd := md.out
    replace hb0 := nbw.out
    clear nbw ma mb mc md
    generalize World.setCell _ _ _ = w19 at ka kb kc kd hb0 ⊢
    refine (refNeg_any a _ ha).mono ?_
    rintro e w20 ⟨rfl, hb1⟩
    replace hb0 := hb0.trans (hb1.mono hb0.size)
    replace ka := ka.keep hb1
    replace kb := kb.keep hb1
    replace kc := kc.keep hb1
    replace kd := kd.keep hb1
    clear hb1
    have ma := Lib.hid (far2 ka had (.int .i64 (negR a).n) (.int .i64 (negR a).d))
    have mb := Lib.hid (far2 kb hbd (.int .i64 (negR a).n) (.int .i64 (negR a).d))
    have mc := Lib.hid (far2 kc hcd (.int .i64 (negR a).n) (.int .i64 (negR a).d))
    have md := Lib.hid (kd.set2 (.int .i64 (negR a).n) (.int .i64 (negR a).d))
    have nbw := Lib.hid (below_set2 hb0 hled (.int .i64 (negR a).n) (.int .i64 (negR a).d))
    have a0 := ka.cell (i := 0) rfl
    have a1 := ka.cell (i := 1) rfl
    have af := ka.frozen
    have al := ka.lt
    have b0 := kb.cell (i := 0) rfl
    have b1 := kb.cell (i := 1) rfl
    have bf := kb.frozen
    have bl := kb.lt
    have c0 := kc.cell (i := 0) rfl
    have c1 := kc.cell (i := 1) rfl
    have cf := kc.frozen
    have cl := kc.lt
    have d0 := kd.cell (i := 0) rfl
    have d1 := kd.cell (i := 1) rfl
    have df := kd.frozen
    have dl := kd.lt
    go_wp2_with fail
    clear a0 a1 af al b0 b1 bf bl c0 c1 cf cl d0 d1 df dl
    replace ka := ma.out
    replace kb := mb.out
    replace kc := mc.out
    replace kd := md.out
    replace hb0 := nbw.out
    clear nbw ma mb mc md
    generalize World.setCell _ _ _ = w21 at ka kb kc kd hb0 ⊢
    refine (cmp_any a b _ ha hb).mono ?_
    rintro e w22 ⟨rfl, hb1⟩
    replace hb0 := hb0.trans (hb1.mono hb0.size)
    replace ka := ka.keep hb1
    replace kb := kb.keep hb1
    replace kc := kc.keep hb1
    replace kd := kd.keep hb1
    clear hb1
    have a0 := ka.cell (i := 0) rfl
    have a1 := ka.cell (i := 1) rfl
    have af := ka.frozen
    have al := ka.lt
    have b0 := kb.cell (i := 0) rfl
    have b1 := kb.cell (i := 1) rfl
    have bf := kb.frozen
    have bl := kb.lt
    have c0 := kc.cell (i := 0) rfl
    have c1 := kc.cell (i := 1) rfl
    have cf := kc.frozen
    have cl := kc.lt
    have d0 := kd.cell (i := 0) rfl
    have d1 := kd.cell (i := 1) rfl
    have df := kd.frozen
    have dl := kd.lt
    go_wp2_with fail
    clear a0 a1 af al b0 b1 bf bl c0 c1 cf cl d0 d1 df dl
    refine (refCmp_any a b _ ha hb).mono ?_
    rintro e w23 ⟨rfl, hb1⟩
    replace hb0 := hb0.trans (hb1.mono hb0.size)
    replace ka := ka.keep hb1
    replace kb := kb.keep hb1
    replace kc := kc.keep hb1
    replace kd := kd.keep hb1
    clear hb1
    have a0 := ka.cell (i := 0) rfl
    have a1 := ka.cell (i := 1) rfl
    have af := ka.frozen
    have al := ka.lt
    have b0 := kb.cell (i := 0) rfl
    have b1 := kb.cell (i := 1) rfl
    have bf := kb.frozen
    have bl := kb.lt
    have c0 := kc.cell (i := 0) rfl
    have c1 := kc.cell (i := 1) rfl
    have cf := kc.frozen
    have cl := kc.lt
    have d0 := kd.cell (i := 0) rfl
    have d1 := kd.cell (i := 1) rfl
    have df := kd.frozen
    have dl := kd.lt
    go_wp2_with fail
    clear a0 a1 af al b0 b1 bf bl c0 c1 cf cl d0 d1 df dl
    refine (floor_r a _ ha).mono ?_
    rintro e w24 ⟨rfl, hb1⟩
    replace hb0 := hb0.trans (hb1.mono hb0.size)
    replace ka := ka.keep hb1
    replace kb := kb.keep hb1
    replace kc := kc.keep hb1
    replace kd := kd.keep hb1
    clear hb1
    have a0 := ka.cell (i := 0) rfl
    have a1 := ka.cell (i := 1) rfl
    have af := ka.frozen
    have al := ka.lt
    have b0 := kb.cell (i := 0) rfl
    have b1 := kb.cell (i := 1) rfl
    have bf := kb.frozen
    have bl := kb.lt
    have c0 := kc.cell (i := 0) rfl
    have c1 := kc.cell (i := 1) rfl
    have cf := kc.frozen
    have cl := kc.lt
    have d0 := kd.cell (i := 0) rfl
    have d1 := kd.cell (i := 1) rfl
    have df := kd.frozen
    have dl := kd.lt
    go_wp2_with fail
    clear a0 a1 af al b0 b1 bf bl c0 c1 cf cl d0 d1 df dl
    refine (refFloor_any a _ ha).mono ?_
    rintro e w25 ⟨rfl, hb1⟩
    replace hb0 := hb0.trans (hb1.mono hb0.size)
    replace ka := ka.keep hb1
    replace kb := kb.keep hb1
    replace kc := kc.keep hb1
    replace kd := kd.keep hb1
    clear hb1
    have a0 := ka.cell (i := 0) rfl
    have a1 := ka.cell (i := 1) rfl
    have af := ka.frozen
    have al := ka.lt
    have b0 := kb.cell (i := 0) rfl
    have b1 := kb.cell (i := 1) rfl
    have bf := kb.frozen
    have bl := kb.lt
    have c0 := kc.cell (i := 0) rfl
    have c1 := kc.cell (i := 1) rfl
    have cf := kc.frozen
    have cl := kc.lt
    have d0 := kd.cell (i := 0) rfl
    have d1 := kd.cell (i := 1) rfl
    have df := kd.frozen
    have dl := kd.lt
    go_wp2_with fail
    clear a0 a1 af al b0 b1 bf bl c0 c1 cf cl d0 d1 df dl
    refine (ceil_r a _ ha).mono ?_
    rintro e w26 ⟨rfl, hb1⟩
    replace hb0 := hb0.trans (hb1.mono hb0.size)
    replace ka := ka.keep hb1
    replace kb := kb.keep hb1
    replace kc := kc.keep hb1
    replace kd := kd.keep hb1
    clear hb1
    have a0 := ka.cell (i := 0) rfl
    have a1 := ka.cell (i := 1) rfl
    have af := ka.frozen
    have al := ka.lt
    have b0 := kb.cell (i := 0) rfl
    have b1 := kb.cell (i := 1) rfl
    have bf := kb.frozen
    have bl := kb.lt
    have c0 := kc.cell (i := 0) rfl
    have c1 := kc.cell (i := 1) rfl
    have cf := kc.frozen
    have cl := kc.lt
    have d0 := kd.cell (i := 0) rfl
    have d1 := kd.cell (i := 1) rfl
    have df := kd.frozen
    have dl := kd.lt
    go_wp2_with fail
    clear a0 a1 af al b0 b1 bf bl c0 c1 cf cl d0 d1 df dl
    refine (refCeil_any a _ ha).mono ?_
    rintro e w27 ⟨rfl, hb1⟩
    replace hb0 := hb0.trans (hb1.mono hb0.size)
    replace ka := ka.keep hb1
    replace kb := kb.keep hb1
    replace kc := kc.keep hb1
    replace kd := kd.keep hb1
    clear hb1
    have a0 := ka.cell (i := 0) rfl
    have a1 := ka.cell (i := 1) rfl
    have af := ka.frozen
    have al := ka.lt
    have b0 := kb.cell (i := 0) rfl
    have b1 := kb.cell (i := 1) rfl
    have bf := kb.frozen
    have bl := kb.lt
    have c0 := kc.cell (i := 0) rfl
    have c1 := kc.cell (i := 1) rfl
    have cf := kc.frozen
    have cl := kc.lt
    have d0 := kd.cell (i := 0) rfl
    have d1 := kd.cell (i := 1) rfl
    have df := kd.frozen
    have dl := kd.lt
    go_wp2_with fail
    clear a0 a1 af al b0 b1 bf bl c0 c1 cf cl d0 d1 df dl
    go_ret
    exact ret_bool rfl hb0
  case hB => kernel_rfl
  all_goals rfl

open Go.ChangeShapes Go.WideShapes Go.ChangeAt Go.Joins

theorem ownW : ownKnob Try.prog.godebug = none := by kernel_rfl
theorem laidOutW : laidOutB Try.prog = true := by kernel_rfl
theorem Try.cells1w : Try.prog.cellsOf 2 = 1 := by kernel_rfl
theorem Try.cellsRatw : Try.prog.cellsOf 24 = 2 := by kernel_rfl

/-- A ratio among a law's arguments. -/
theorem open_rat {H : Type} {enc : TypeId × Value → H} {W : World} {r : Reach} {b0 : Nat} {v : Value} {d : DataW H} {p : List MemPlace} (hv : Value.okWide Try.prog W r b0 24 v) (h : DataW.Trod enc Try.prog W 0 (fun _ => true) true 24 v d p) :
    ∃ a : Rat2, v = a.v ∧ Rat64 a := by
  obtain ⟨c0, c1, y0, y1, m, rfl, -, -, h0, h1⟩ := open_agg2 Try.underlying24 (by kernel_rfl) Try.cellsRatw hv h
  obtain ⟨x, rfl, w0⟩ := cell_int Try.underlying2 h0
  obtain ⟨y, rfl, w1⟩ := cell_int Try.underlying2 h1
  have := wf_64 (v := ⟨x, y⟩) w0 w1
  exact ⟨⟨x, y⟩, rfl, this⟩

set_option maxRecDepth 100000 in
theorem works_lifted (os : Os) (started : os.Started) (H : Type) (enc : TypeId × Value → H) :
    ReturnsInHanded {} Try.checked os 4 .any (Rows.ratioWorksSpec.pre6 enc Try.prog Try.f4 Rows.ratioWorksRow.domain false) (Rows.ratioWorksSpec.post enc Try.prog Try.f4 false true false false) := by
  refine returnsInHanded_of_change (C := Try.checked) ownW started (by kernel_rfl) Try.func4
    (ChangeSpec.witness6 (enc := enc) (C := Try.checked) false ⟨#[], #[.agg #[.int .i64 0, .int .i64 0], .agg #[.int .i64 0, .int .i64 0]], []⟩ 8 (by kernel_rfl) (by kernel_rfl) (by kernel_rfl) (by kernel_rfl)) ?_
  intro W base args ds gs before hval0 hW hcnd _
  have hval : ∀ (j : Nat) t v, Try.f4.params[j]? = some t → args[j]? = some v → Value.okWide Try.prog W .any base t v := hval0
  have hW' := hW
  obtain ⟨p, q, hA0, hV, rfl, hfz, hnd⟩ := hW
  have hA : DataW.TrodAll enc Try.prog W 0 (fun _ => true) true Try.f4.params.toList args.toList ds p := hA0
  rw [Try.params4] at hA hval
  obtain ⟨v0, vs0, d0, ds0, p0, q0, hargs, rfl, rfl, h0, r0⟩ := trodAll_cons hA
  obtain ⟨v1, vs1, d1, ds1, p1, q1, rfl, rfl, rfl, h1, r1⟩ := trodAll_cons r0
  obtain ⟨rfl, rfl, rfl⟩ := trodAll_nil r1
  obtain rfl : args = #[v0, v1] := by cases args; simp_all
  obtain ⟨rfl, rfl⟩ := trodVars_none hV
  obtain ⟨a, rfl, ha⟩ := open_rat (hval 0 24 v0 rfl rfl) h0
  obtain ⟨b, rfl, hb⟩ := open_rat (hval 1 24 v1 rfl rfl) h1
  refine (works_walk a b W ha hb).mono fun e W' ⟨he, hb⟩ => ?_
  exact ⟨_, he, law_post laidOutW hW' rfl (by kernel_rfl) rfl Try.underlying4 rfl rfl rfl hb⟩

theorem works_holds : Rows.RatioWorksSaid :=
  OpenClaim.holds_of_wide 4 Try.f4 rfl rfl rfl rfl rfl rfl rfl ⟨rfl, rfl, rfl, rfl, rfl⟩ rfl rfl rfl rfl rfl (by kernel_rfl) Try.func4 (by kernel_rfl)
    (of_decide_eq_true (by kernel_rfl)) (by unfold Func.isWrapper; first | (rw [if_pos (by decide +kernel)]; kernel_rfl) | (rw [if_neg (by decide +kernel)]; exact ⟨rfl, rfl⟩))
    (fun os started H enc _ => works_lifted os started H enc)
#print axioms works_holds
end Go.Proofs.Ytpkcmjiokdpegaa
