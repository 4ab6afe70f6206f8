/- The law 'RatioField': whatever two ratios come in, it returns true. Condition: the library's three tables are laid. -/
import Derived.Test.YtpkcmjiokdpegaaDoorRatCard
import Derived.Test.YtpkcmjiokdpegaaDoorRatFit
import Derived.Test.YtpkcmjiokdpegaaDoorRatLaws
namespace Go.Proofs.YtpkcmjiokdpegaaDoor
open Go.RowKit Go.Rel

set_option maxHeartbeats 2000000 in
theorem field_early (a b : Rat2) (w : World) (ha : Rat64 a) (hb : Rat64 b) (ht : Tab w) (hno : ¬ (RatOk a ∧ RatOk b)) :
    Calls Tryd.prog 3 #[a.v, b.v] w (Ret w (.bool true)) := by
  obtain ⟨hb0, -, x3, x4⟩ := boxes2 w #[.int .i64 a.n, .int .i64 a.d] #[.int .i64 b.n, .int .i64 b.d] 23 23
  have q0 : Blk _ w.heap.size _ _ := x3
  have q1 : Blk _ (w.heap.size + 1) _ _ := x4
  have h := fun W => fit_any a b W ha hb
  rw [decide_eq_false hno] at h
  have HH := Lib.hid (show _ ∧ _ from ⟨h, ht.keep hb0⟩)
  clear h ha hb ht hno x3 x4
  go_enter Tryd.func3, Tryd.ntmps3
  go_wp2_with fail
  obtain ⟨h, ht0⟩ := HH.out
  clear HH
  generalize World.alloc (World.alloc _ _) _ = w0 at hb0 q0 q1 ht0 ⊢
  have H := Lib.hid h
  clear h
  refine (alive_any _ ht0).mono ?_
  clear ht0
  rintro e w1 ⟨rfl, hb1⟩
  replace q0 := q0.keep hb1
  replace q1 := q1.keep hb1
  replace hb0 := hb0.trans (hb1.mono hb0.size)
  have c0 := q0.cell (i := 0) rfl
  have c1 := q0.cell (i := 1) rfl
  have c2 := q1.cell (i := 0) rfl
  have c3 := q1.cell (i := 1) rfl
  clear hb1
  go_wp2_with fail
  refine (H.out _).mono ?_
  rintro e w2 ⟨rfl, hb1⟩
  replace hb0 := hb0.trans (hb1.mono hb0.size)
  clear c0 c1 c2 c3 hb1 q0 q1 H
  go_wp2_with fail
  go_ret
  exact ret_bool rfl hb0

set_option maxRecDepth 100000 in
set_option maxHeartbeats 8000000 in
theorem field_walk (a b : Rat2) (w : World) (ha : Rat64 a) (hb' : Rat64 b) (ht : Tab w) (hok : RatOk a ∧ RatOk b) :
    Calls Tryd.prog 3 #[a.v, b.v] w (Ret w (.bool true)) := by
  have e1 := add_comm_v a b
  have e2 := mul_comm_v a b
  have r1 := fun W => opAdd_any a b W ha hb'
  have r2 := fun W => opAdd_any b a W hb' ha
  rw [← e1.1, ← e1.2] at r2
  have r3 := fun W => opMul_any a b W ha hb'
  have r4 := fun W => opMul_any b a W hb' ha
  rw [← e2.1, ← e2.2] at r4
  have r5 := fun W => opSub_any a b W ha hb'
  have r6 := fun W => opAdd_any (opSubR a b) b W (runV_64 _ _ _ _) hb'
  have r7 := fun W => opDiv_any a b W ha hb'
  have r8 := fun W => opMul_any (opDivR a b) b W (runV_64 _ _ _ _) hb'
  have r0 := fun W => fit_any a b W ha hb'
  rw [decide_eq_true hok] at r0
  have hL : (opSubE a b = 0 ∧ opAddE (opSubR a b) b = 0 ∧ opAddR (opSubR a b) b = a) ∨ (opSubE a b == 0) = false := by
    by_cases h : opSubE a b = 0
    · exact .inl ⟨h, sub_add_v h⟩
    · exact .inr (by simpa using h)
  have hP : ((b.n == 0) = true ∧ opDivE a b = 18) ∨ ((b.n == 0) = false ∧ opDivE a b = 16) ∨ ((b.n == 0) = false ∧ opDivE a b = 0 ∧ opMulE (opDivR a b) b = 0 ∧ opMulR (opDivR a b) b = a) := by
    by_cases h : b.n = 0
    · exact .inl ⟨by simpa using h, div_zero_v hok.1 hok.2 h⟩
    · rcases div_mul_v hok.1 hok.2 h with h1 | h1
      · exact .inr (.inl ⟨by simpa using h, h1⟩)
      · exact .inr (.inr ⟨by simpa using h, h1⟩)
  clear e1 e2 ha hb' hok
  generalize opAddR (opSubR a b) b = M at *
  generalize opAddE (opSubR a b) b = EN at *
  generalize opMulR (opDivR a b) b = Q at *
  generalize opMulE (opDivR a b) b = ER at *
  generalize opSubR a b = K at *
  generalize opSubE a b = EL at *
  generalize opDivR a b = O at *
  generalize opDivE a b = EP at *
  generalize opAddR a b = C at *
  generalize opAddE a b = EC at *
  generalize opMulR a b = G at *
  generalize opMulE a b = EG at *
  obtain ⟨an, ad⟩ := a
  obtain ⟨bn, bd⟩ := b
  obtain ⟨m1, m2⟩ := M
  obtain ⟨q1', q2'⟩ := Q
  obtain ⟨k1, k2⟩ := K
  obtain ⟨o1, o2⟩ := O
  obtain ⟨c1, c2⟩ := C
  obtain ⟨g1, g2⟩ := G
  have R0 := Lib.hid r0
  have R1 := Lib.hid r1
  have R2 := Lib.hid r2
  have R3 := Lib.hid r3
  have R4 := Lib.hid r4
  have R5 := Lib.hid r5
  have R6 := Lib.hid r6
  have R7 := Lib.hid r7
  have R8 := Lib.hid r8
  have HL := Lib.hid hL
  have HP := Lib.hid hP
  obtain ⟨hb, -, x3, x4⟩ := boxes2 w #[.int .i64 an, .int .i64 ad] #[.int .i64 bn, .int .i64 bd] 23 23
  have qa : Blk _ w.heap.size _ _ := x3
  have qb : Blk _ (w.heap.size + 1) _ _ := x4
  have HT := Lib.hid (ht.keep hb)
  clear r0 r1 r2 r3 r4 r5 r6 r7 r8 hL hP x3 x4 ht
  go_enter Tryd.func3, Tryd.ntmps3
  go_wp2_with fail
  have ht0 := HT.out
  clear HT
  generalize World.alloc (World.alloc _ _) _ = w0 at hb qa qb ht0 ⊢
  refine (alive_any _ ht0).mono ?_
  clear ht0
  rintro e w1 ⟨rfl, hx⟩
  replace qa := qa.keep hx
  replace qb := qb.keep hx
  replace hb := hb.trans (hx.mono hb.size)
  have qa_0 := qa.cell (i := 0) rfl
  have qa_1 := qa.cell (i := 1) rfl
  have qb_0 := qb.cell (i := 0) rfl
  have qb_1 := qb.cell (i := 1) rfl
  clear hx
  go_wp2_with fail
  refine (R0.out w1).mono ?_
  rintro e w2 ⟨rfl, hx⟩
  replace qa := qa.keep hx
  replace qb := qb.keep hx
  replace hb := hb.trans (hx.mono hb.size)
  replace qa_0 := qa.cell (i := 0) rfl
  replace qa_1 := qa.cell (i := 1) rfl
  replace qb_0 := qb.cell (i := 0) rfl
  replace qb_1 := qb.cell (i := 1) rfl
  clear hx R0
  go_wp2_with fail
  clear qa_0 qa_1 qb_0 qb_1
  refine (R1.out w2).mono ?_
  rintro e w3 ⟨rfl, hx⟩
  replace qa := qa.keep hx
  replace qb := qb.keep hx
  replace hb := hb.trans (hx.mono hb.size)
  clear hx R1
  have bc := Blk.new w3 23 #[.int .i64 c1, .int .i64 c2]
  have hx := below_alloc w3 (.cells #[.int .i64 c1, .int .i64 c2] 23)
  replace qa := qa.keep hx
  replace qb := qb.keep hx
  replace hb := hb.trans (hx.mono hb.size)
  clear hx
  have qa_0 := qa.cell (i := 0) rfl
  have qa_1 := qa.cell (i := 1) rfl
  have qb_0 := qb.cell (i := 0) rfl
  have qb_1 := qb.cell (i := 1) rfl
  go_wp2_with fail
  generalize World.alloc w3 _ = w4 at qa qb bc hb ⊢
  generalize w3.heap.size = gbc at bc ⊢
  clear qa_0 qa_1
  clear qb_0 qb_1
  refine (R2.out w4).mono ?_
  rintro e w5 ⟨rfl, hx⟩
  replace qa := qa.keep hx
  replace qb := qb.keep hx
  replace bc := bc.keep hx
  replace hb := hb.trans (hx.mono hb.size)
  clear hx R2
  have bd_ := Blk.new w5 23 #[.int .i64 c1, .int .i64 c2]
  have hx := below_alloc w5 (.cells #[.int .i64 c1, .int .i64 c2] 23)
  replace qa := qa.keep hx
  replace qb := qb.keep hx
  replace bc := bc.keep hx
  replace hb := hb.trans (hx.mono hb.size)
  clear hx
  have qa_0 := qa.cell (i := 0) rfl
  have qa_1 := qa.cell (i := 1) rfl
  have qb_0 := qb.cell (i := 0) rfl
  have qb_1 := qb.cell (i := 1) rfl
  go_wp2_with fail
  generalize World.alloc w5 _ = w6 at qa qb bc bd_ hb ⊢
  generalize w5.heap.size = gbd_ at bd_ ⊢
  clear qa_0 qa_1
  clear qb_0 qb_1
  refine (R3.out w6).mono ?_
  rintro e w7 ⟨rfl, hx⟩
  replace qa := qa.keep hx
  replace qb := qb.keep hx
  replace bc := bc.keep hx
  replace bd_ := bd_.keep hx
  replace hb := hb.trans (hx.mono hb.size)
  clear hx R3
  have bg := Blk.new w7 23 #[.int .i64 g1, .int .i64 g2]
  have hx := below_alloc w7 (.cells #[.int .i64 g1, .int .i64 g2] 23)
  replace qa := qa.keep hx
  replace qb := qb.keep hx
  replace bc := bc.keep hx
  replace bd_ := bd_.keep hx
  replace hb := hb.trans (hx.mono hb.size)
  clear hx
  have qa_0 := qa.cell (i := 0) rfl
  have qa_1 := qa.cell (i := 1) rfl
  have qb_0 := qb.cell (i := 0) rfl
  have qb_1 := qb.cell (i := 1) rfl
  go_wp2_with fail
  generalize World.alloc w7 _ = w8 at qa qb bc bd_ bg hb ⊢
  generalize w7.heap.size = gbg at bg ⊢
  clear qa_0 qa_1
  clear qb_0 qb_1
  have hm31 := Tryd.eqGuardRat
  have hvn := ratNeq
  have hself := ratB_self
  refine (R4.out w8).mono ?_
  rintro e w9 ⟨rfl, hx⟩
  replace qa := qa.keep hx
  replace qb := qb.keep hx
  replace bc := bc.keep hx
  replace bd_ := bd_.keep hx
  replace bg := bg.keep hx
  replace hb := hb.trans (hx.mono hb.size)
  clear hx R4
  have bi := Blk.new w9 23 #[.int .i64 g1, .int .i64 g2]
  have hx := below_alloc w9 (.cells #[.int .i64 g1, .int .i64 g2] 23)
  replace qa := qa.keep hx
  replace qb := qb.keep hx
  replace bc := bc.keep hx
  replace bd_ := bd_.keep hx
  replace bg := bg.keep hx
  replace hb := hb.trans (hx.mono hb.size)
  clear hx
  have qa_0 := qa.cell (i := 0) rfl
  have qa_1 := qa.cell (i := 1) rfl
  have qb_0 := qb.cell (i := 0) rfl
  have qb_1 := qb.cell (i := 1) rfl
  have bc_0 := bc.cell (i := 0) rfl
  have bc_1 := bc.cell (i := 1) rfl
  have bd__0 := bd_.cell (i := 0) rfl
  have bd__1 := bd_.cell (i := 1) rfl
  have bg_0 := bg.cell (i := 0) rfl
  have bg_1 := bg.cell (i := 1) rfl
  have bi_0 := bi.cell (i := 0) rfl
  have bi_1 := bi.cell (i := 1) rfl
  go_wp2_with fail
  generalize World.alloc w9 _ = w10 at qa qb bc bd_ bg bi hb ⊢
  generalize w9.heap.size = gbi at bi ⊢
  clear qa_0 qa_1
  clear qb_0 qb_1
  clear bc_0 bc_1
  clear bd__0 bd__1
  clear bg_0 bg_1
  clear bi_0 bi_1
  clear bc bd_ bg bi
  refine (R5.out w10).mono ?_
  rintro e w11 ⟨rfl, hx⟩
  replace qa := qa.keep hx
  replace qb := qb.keep hx
  replace hb := hb.trans (hx.mono hb.size)
  clear hx R5
  have bk := Blk.new w11 23 #[.int .i64 k1, .int .i64 k2]
  have hx := below_alloc w11 (.cells #[.int .i64 k1, .int .i64 k2] 23)
  replace qa := qa.keep hx
  replace qb := qb.keep hx
  replace hb := hb.trans (hx.mono hb.size)
  clear hx
  have qa_0 := qa.cell (i := 0) rfl
  have qa_1 := qa.cell (i := 1) rfl
  have qb_0 := qb.cell (i := 0) rfl
  have qb_1 := qb.cell (i := 1) rfl
  have bk_0 := bk.cell (i := 0) rfl
  have bk_1 := bk.cell (i := 1) rfl
  go_wp2_with fail
  generalize World.alloc w11 _ = w12 at qa qb bk hb ⊢
  generalize w11.heap.size = gbk at bk ⊢
  clear qa_0 qa_1
  clear qb_0 qb_1
  clear bk_0 bk_1
  rcases HL.out with ⟨l1, l2, l3⟩ | l1
  · obtain ⟨rfl, rfl⟩ : m1 = an ∧ m2 = ad := by simpa using l3
    subst l1 l2
    clear l3 HL
    refine (R6.out w12).mono ?_
    rintro e w13 ⟨rfl, hx⟩
    replace qa := qa.keep hx
    replace qb := qb.keep hx
    replace bk := bk.keep hx
    replace hb := hb.trans (hx.mono hb.size)
    clear hx R6
    have bm := Blk.new w13 23 #[.int .i64 m1, .int .i64 m2]
    have hx := below_alloc w13 (.cells #[.int .i64 m1, .int .i64 m2] 23)
    replace qa := qa.keep hx
    replace qb := qb.keep hx
    replace bk := bk.keep hx
    replace hb := hb.trans (hx.mono hb.size)
    clear hx
    have qa_0 := qa.cell (i := 0) rfl
    have qa_1 := qa.cell (i := 1) rfl
    have qb_0 := qb.cell (i := 0) rfl
    have qb_1 := qb.cell (i := 1) rfl
    have bm_0 := bm.cell (i := 0) rfl
    have bm_1 := bm.cell (i := 1) rfl
    go_wp2_with fail
    generalize World.alloc w13 _ = w14 at qa qb bk bm hb ⊢
    generalize w13.heap.size = gbm at bm ⊢
    clear qa_0 qa_1
    clear qb_0 qb_1
    clear bm_0 bm_1
    refine (R7.out w14).mono ?_
    rintro e w15 ⟨rfl, hx⟩
    replace qa := qa.keep hx
    replace qb := qb.keep hx
    replace bk := bk.keep hx
    replace bm := bm.keep hx
    replace hb := hb.trans (hx.mono hb.size)
    clear hx R7
    have bo := Blk.new w15 23 #[.int .i64 o1, .int .i64 o2]
    have hx := below_alloc w15 (.cells #[.int .i64 o1, .int .i64 o2] 23)
    replace qa := qa.keep hx
    replace qb := qb.keep hx
    replace bk := bk.keep hx
    replace bm := bm.keep hx
    replace hb := hb.trans (hx.mono hb.size)
    clear hx
    have qa_0 := qa.cell (i := 0) rfl
    have qa_1 := qa.cell (i := 1) rfl
    have qb_0 := qb.cell (i := 0) rfl
    have qb_1 := qb.cell (i := 1) rfl
    have bo_0 := bo.cell (i := 0) rfl
    have bo_1 := bo.cell (i := 1) rfl
    go_wp2_with fail
    generalize World.alloc w15 _ = w16 at qa qb bk bm bo hb ⊢
    generalize w15.heap.size = gbo at bo ⊢
    clear qa_0 qa_1
    clear qb_0 qb_1
    clear bo_0 bo_1
    refine (R8.out w16).mono ?_
    rintro e w17 ⟨rfl, hx⟩
    replace qa := qa.keep hx
    replace qb := qb.keep hx
    replace bk := bk.keep hx
    replace bm := bm.keep hx
    replace bo := bo.keep hx
    replace hb := hb.trans (hx.mono hb.size)
    clear hx R8
    have bq := Blk.new w17 23 #[.int .i64 q1', .int .i64 q2']
    have hx := below_alloc w17 (.cells #[.int .i64 q1', .int .i64 q2'] 23)
    replace qa := qa.keep hx
    replace qb := qb.keep hx
    replace bk := bk.keep hx
    replace bm := bm.keep hx
    replace bo := bo.keep hx
    replace hb := hb.trans (hx.mono hb.size)
    clear hx
    have qa_0 := qa.cell (i := 0) rfl
    have qa_1 := qa.cell (i := 1) rfl
    have qb_0 := qb.cell (i := 0) rfl
    have qb_1 := qb.cell (i := 1) rfl
    have bq_0 := bq.cell (i := 0) rfl
    have bq_1 := bq.cell (i := 1) rfl
    have HB := Lib.hid hb
    clear hb
    rcases HP.out with ⟨p1, p2⟩ | ⟨p1, p2⟩ | ⟨p1, p2, p3, p4⟩
    · subst p2
      clear qa qb bq bm bo bk HP
      go_wp2_with fail
      go_ret
      exact ret_bool rfl HB.out
    · subst p2
      clear qa qb bq bm bo bk HP
      go_wp2_with fail
      go_ret
      exact ret_bool rfl HB.out
    · obtain ⟨rfl, rfl⟩ : q1' = m1 ∧ q2' = m2 := by simpa using p4
      subst p2 p3
      clear p4 qa qb bq bm bo bk HP
      go_wp2_with fail
      go_ret
      exact ret_bool rfl HB.out
  · clear HL
    refine (R6.out w12).mono ?_
    rintro e w13 ⟨rfl, hx⟩
    replace qa := qa.keep hx
    replace qb := qb.keep hx
    replace bk := bk.keep hx
    replace hb := hb.trans (hx.mono hb.size)
    clear hx R6
    have bm := Blk.new w13 23 #[.int .i64 m1, .int .i64 m2]
    have hx := below_alloc w13 (.cells #[.int .i64 m1, .int .i64 m2] 23)
    replace qa := qa.keep hx
    replace qb := qb.keep hx
    replace bk := bk.keep hx
    replace hb := hb.trans (hx.mono hb.size)
    clear hx
    have qa_0 := qa.cell (i := 0) rfl
    have qa_1 := qa.cell (i := 1) rfl
    have qb_0 := qb.cell (i := 0) rfl
    have qb_1 := qb.cell (i := 1) rfl
    have bm_0 := bm.cell (i := 0) rfl
    have bm_1 := bm.cell (i := 1) rfl
    go_wp2_with fail
    generalize World.alloc w13 _ = w14 at qa qb bk bm hb ⊢
    generalize w13.heap.size = gbm at bm ⊢
    clear qa_0 qa_1
    clear qb_0 qb_1
    clear bm_0 bm_1
    refine (R7.out w14).mono ?_
    rintro e w15 ⟨rfl, hx⟩
    replace qa := qa.keep hx
    replace qb := qb.keep hx
    replace bk := bk.keep hx
    replace bm := bm.keep hx
    replace hb := hb.trans (hx.mono hb.size)
    clear hx R7
    have bo := Blk.new w15 23 #[.int .i64 o1, .int .i64 o2]
    have hx := below_alloc w15 (.cells #[.int .i64 o1, .int .i64 o2] 23)
    replace qa := qa.keep hx
    replace qb := qb.keep hx
    replace bk := bk.keep hx
    replace bm := bm.keep hx
    replace hb := hb.trans (hx.mono hb.size)
    clear hx
    have qa_0 := qa.cell (i := 0) rfl
    have qa_1 := qa.cell (i := 1) rfl
    have qb_0 := qb.cell (i := 0) rfl
    have qb_1 := qb.cell (i := 1) rfl
    have bo_0 := bo.cell (i := 0) rfl
    have bo_1 := bo.cell (i := 1) rfl
    go_wp2_with fail
    generalize World.alloc w15 _ = w16 at qa qb bk bm bo hb ⊢
    generalize w15.heap.size = gbo at bo ⊢
    clear qa_0 qa_1
    clear qb_0 qb_1
    clear bo_0 bo_1
    refine (R8.out w16).mono ?_
    rintro e w17 ⟨rfl, hx⟩
    replace qa := qa.keep hx
    replace qb := qb.keep hx
    replace bk := bk.keep hx
    replace bm := bm.keep hx
    replace bo := bo.keep hx
    replace hb := hb.trans (hx.mono hb.size)
    clear hx R8
    have bq := Blk.new w17 23 #[.int .i64 q1', .int .i64 q2']
    have hx := below_alloc w17 (.cells #[.int .i64 q1', .int .i64 q2'] 23)
    replace qa := qa.keep hx
    replace qb := qb.keep hx
    replace bk := bk.keep hx
    replace bm := bm.keep hx
    replace bo := bo.keep hx
    replace hb := hb.trans (hx.mono hb.size)
    clear hx
    have qa_0 := qa.cell (i := 0) rfl
    have qa_1 := qa.cell (i := 1) rfl
    have qb_0 := qb.cell (i := 0) rfl
    have qb_1 := qb.cell (i := 1) rfl
    have bq_0 := bq.cell (i := 0) rfl
    have bq_1 := bq.cell (i := 1) rfl
    have HB := Lib.hid hb
    clear hb
    rcases HP.out with ⟨p1, p2⟩ | ⟨p1, p2⟩ | ⟨p1, p2, p3, p4⟩
    · subst p2
      clear qa qb bq bm bo bk HP
      go_wp2_with fail
      go_ret
      exact ret_bool rfl HB.out
    · subst p2
      clear qa qb bq bm bo bk HP
      go_wp2_with fail
      go_ret
      exact ret_bool rfl HB.out
    · obtain ⟨rfl, rfl⟩ : q1' = an ∧ q2' = ad := by simpa using p4
      subst p2 p3
      clear p4 qa qb bq bm bo bk HP
      go_wp2_with fail
      go_ret
      exact ret_bool rfl HB.out

theorem field_all (a b : Rat2) (w : World) (ha : Rat64 a) (hb : Rat64 b) (ht : Tab w) : Calls Tryd.prog 3 #[a.v, b.v] w (Ret w (.bool true)) := by
  by_cases h : RatOk a ∧ RatOk b
  · exact field_walk a b w ha hb ht h
  · exact field_early a b w ha hb ht h
open Go.ChangeShapes Go.WideShapes Go.ChangeAt Go.Joins
theorem open_rat {H : Type} {enc : TypeId × Value → H} {W : World} {r : Reach} {b0 : Nat} {v : Value} {d : DataW H} {p : List MemPlace} (hv : Value.okWide Tryd.prog W r b0 23 v) (h : DataW.Trod enc Tryd.prog W 0 (fun _ => true) true 23 v d p) :
    ∃ a : Rat2, v = a.v ∧ Rat64 a := by
  obtain ⟨c0, c1, y0, y1, m, rfl, -, -, h0, h1⟩ := open_agg2 Tryd.underlying23 (by kernel_rfl) Tryd.cellsRat hv h
  obtain ⟨n, rfl, w0⟩ := cell_int Tryd.underlying2 h0
  obtain ⟨d, rfl, w1⟩ := cell_int Tryd.underlying2 h1
  exact ⟨⟨n, d⟩, rfl, wf_64 (v := ⟨n, d⟩) w0 w1⟩

set_option maxRecDepth 100000 in
theorem field_lifted (os : Os) (started : os.Started) (H : Type) (enc : TypeId × Value → H) :
    ReturnsInHanded {} Tryd.checked os 3 .any (fun w args => (Rows.ratioFieldSpec.pre enc Tryd.prog Tryd.f3 [] false w args ∧ laidMetH Tryd.prog Rows.ratioFieldRow.laid w) ∧ sizedMet enc Tryd.prog Tryd.f3 (OpenSpec.ofChange Rows.ratioFieldSpec) false w args)
      (Rows.ratioFieldSpec.post enc Tryd.prog Tryd.f3 false true false false) := by
  refine returnsInHanded_of_change_and (C := Tryd.checked) (X := fun w _ => laidMetH Tryd.prog Rows.ratioFieldRow.laid w) (fun _ _ _ hh h => h.of_heap hh) own started (by kernel_rfl) Tryd.func3
    (ChangeSpec.witness_at (enc := enc) (C := Tryd.checked) (os := os) (X := fun w _ => laidMetH Tryd.prog Rows.ratioFieldRow.laid w) false (laidWorld os) #[.agg #[.int .i64 0, .int .i64 0], .agg #[.int .i64 0, .int .i64 0]] 8 rfl (by kernel_rfl) (by kernel_rfl) (by kernel_rfl) (by kernel_rfl) (by kernel_rfl) (laid_met os _)) ?_
  intro W base args ds gs before hval0 hW _ _ hLd _
  have hval : ∀ (j : Nat) t v, Tryd.f3.params[j]? = some t → args[j]? = some v → Value.okWide Tryd.prog W .any base t v := hval0
  have hW' := hW
  obtain ⟨p, q, hA0, hV, rfl, hfz, hnd⟩ := hW
  have hA : DataW.TrodAll enc Tryd.prog W 0 (fun _ => true) true Tryd.f3.params.toList args.toList ds p := hA0
  rw [Tryd.params3] at hA hval
  obtain ⟨v0, vs0, d0, ds0, p0, q0, hargs, rfl, rfl, h0, r0⟩ := trodAll_cons hA
  obtain ⟨v1, vs1, d1, ds1, p1, q1, rfl, rfl, rfl, h1, r1⟩ := trodAll_cons r0
  obtain ⟨rfl, rfl, rfl⟩ := trodAll_nil r1
  obtain rfl : args = #[v0, v1] := by cases args; simp_all
  obtain ⟨rfl, rfl⟩ := trodVars_none hV
  obtain ⟨a, rfl, ha⟩ := open_rat (hval 0 23 v0 rfl rfl) h0
  obtain ⟨b, rfl, hb⟩ := open_rat (hval 1 23 v1 rfl rfl) h1
  refine (field_all a b W ha hb (tab_of_laid hLd)).mono fun e W' ⟨he, hb⟩ => ?_
  exact ⟨_, he, law_post laidOut hW' rfl (by kernel_rfl) rfl Tryd.underlying4 rfl rfl rfl hb⟩

theorem field_row : Rows.RatioFieldSaid :=
  OpenClaim.holds_of_wide 3 Tryd.f3 rfl rfl rfl rfl rfl rfl rfl ⟨rfl, rfl, rfl, rfl, rfl⟩ rfl rfl rfl rfl rfl (by kernel_rfl) Tryd.func3 (by kernel_rfl)
    (of_decide_eq_true (by kernel_rfl)) (by unfold Func.isWrapper; first | (rw [if_pos (by decide +kernel)]; kernel_rfl) | (rw [if_neg (by decide +kernel)]; exact ⟨rfl, rfl⟩))
    (fun os started H enc _ => field_lifted os started H enc)

theorem field_holds : Rows.RatioFieldCardSaid :=
  Claim7.holds_tied_plain_at .later [] [.data, .data, .data] true Rows.ratioFieldCard.stood.harness false
    field_row (fun _ h => by cases h) (by kernel_rfl) (fun _ h => by cases h) ratioField_row_tie rfl ⟨rfl, rfl⟩ (by kernel_rfl) rfl
    (fun f fn hf hfn => by
      obtain rfl : f = 3 := Option.some.inj ((show Tryd.prog.funcNamed Rows.ratioFieldRow.func = some 3 by kernel_rfl).symm.trans hf) |>.symm
      obtain rfl : fn = Tryd.f3 := (Option.some.inj (Tryd.func3.symm.trans hfn)).symm
      exact ⟨by kernel_rfl, fun j t ht => by
        rw [Tryd.params3] at ht
        have h3 : t = 23 := by
          rcases j with _ | _ | j
          · simpa using ht.symm
          · simpa using ht.symm
          · simp at ht
        subst h3
        exact (show Tryd.prog.wantsStandIn 23 = false by kernel_rfl)⟩)
    (by kernel_rfl)
#print axioms field_holds
end Go.Proofs.YtpkcmjiokdpegaaDoor
