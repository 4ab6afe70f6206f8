/- The law 'RatioRing': whatever three ratios come in, it returns true. Condition: the library's three tables are laid. -/
import Derived.Test.YtpkcmjiokdpegaaDoorRatCard
import Derived.Test.YtpkcmjiokdpegaaDoorRatFit
import Derived.Test.YtpkcmjiokdpegaaDoorRatLaws
namespace Go.Proofs.YtpkcmjiokdpegaaDoor
open Go.RowKit Go.Rel

set_option maxHeartbeats 2000000 in
theorem ring_early (a b c : Rat2) (w : World) (ha : Rat64 a) (hb : Rat64 b) (hc : Rat64 c) (ht : Tab w) (hno : ¬ (RatOk a ∧ RatOk b) ∨ ((RatOk a ∧ RatOk b) ∧ ¬ RatOk c)) :
    Calls Tryd.prog 4 #[a.v, b.v, c.v] w (Ret w (.bool true)) := by
  obtain ⟨hb0, -, x3, x4, x5⟩ := boxes3 w #[.int .i64 a.n, .int .i64 a.d] #[.int .i64 b.n, .int .i64 b.d] #[.int .i64 c.n, .int .i64 c.d] 23 23 23
  have q0 : Blk _ w.heap.size _ _ := x3
  have q1 : Blk _ (w.heap.size + 1) _ _ := x4
  have q2 : Blk _ (w.heap.size + 1 + 1) _ _ := x5
  have h := fun W => fit_any a b W ha hb
  have h2 := fun W => fit_any c c W hc hc
  rcases hno with hno | ⟨hok, hno⟩
  · rw [decide_eq_false hno] at h
    have HH := Lib.hid (show _ ∧ _ from ⟨h, ht.keep hb0⟩)
    clear h h2 ha hb hc ht hno x3 x4 x5 q2
    go_enter Tryd.func4, Tryd.ntmps4
    go_wp2_with fail
    obtain ⟨h, ht0⟩ := HH.out
    clear HH
    generalize World.alloc (World.alloc (World.alloc _ _) _) _ = w0 at hb0 q0 q1 ht0 ⊢
    have H := Lib.hid h
    clear h
    refine (alive_any _ ht0).mono ?_
    clear ht0
    rintro e w1 ⟨rfl, hb1⟩
    replace q0 := q0.keep hb1
    replace q1 := q1.keep hb1
    replace hb0 := hb0.trans (hb1.mono hb0.size)
    have c0 := q0.cell (i := 0) rfl
    have c1 := q0.cell (i := 1) rfl
    have c2 := q1.cell (i := 0) rfl
    have c3 := q1.cell (i := 1) rfl
    clear hb1
    go_wp2_with fail
    refine (H.out _).mono ?_
    rintro e w2 ⟨rfl, hb1⟩
    replace hb0 := hb0.trans (hb1.mono hb0.size)
    clear c0 c1 c2 c3 hb1 q0 q1 H
    go_wp2_with fail
    go_ret
    exact ret_bool rfl hb0
  · rw [decide_eq_true hok] at h
    rw [decide_eq_false (fun h => hno h.1)] at h2
    have HH := Lib.hid (show _ ∧ _ ∧ _ from ⟨h, h2, ht.keep hb0⟩)
    clear h h2 ha hb hc ht hno hok x3 x4 x5
    go_enter Tryd.func4, Tryd.ntmps4
    go_wp2_with fail
    obtain ⟨h, h2, ht0⟩ := HH.out
    clear HH
    generalize World.alloc (World.alloc (World.alloc _ _) _) _ = w0 at hb0 q0 q1 q2 ht0 ⊢
    have H := Lib.hid h
    have H2 := Lib.hid h2
    clear h h2
    refine (alive_any _ ht0).mono ?_
    clear ht0
    rintro e w1 ⟨rfl, hb1⟩
    replace q0 := q0.keep hb1
    replace q1 := q1.keep hb1
    replace q2 := q2.keep hb1
    replace hb0 := hb0.trans (hb1.mono hb0.size)
    have c0 := q0.cell (i := 0) rfl
    have c1 := q0.cell (i := 1) rfl
    have c2 := q1.cell (i := 0) rfl
    have c3 := q1.cell (i := 1) rfl
    clear hb1
    go_wp2_with fail
    refine (H.out _).mono ?_
    rintro e w2 ⟨rfl, hb1⟩
    replace q2 := q2.keep hb1
    replace hb0 := hb0.trans (hb1.mono hb0.size)
    have c4 := q2.cell (i := 0) rfl
    have c5 := q2.cell (i := 1) rfl
    clear c0 c1 c2 c3 hb1 q0 q1 H
    go_wp2_with fail
    refine (H2.out _).mono ?_
    rintro e w3 ⟨rfl, hb1⟩
    replace hb0 := hb0.trans (hb1.mono hb0.size)
    clear c4 c5 hb1 q2 H2
    go_wp2_with fail
    go_ret
    exact ret_bool rfl hb0

theorem zero_or (E : Int) : E = 0 ∨ ((E == 0) = false ∧ (E != 0) = true) := by
  by_cases h : E = 0
  · exact .inl h
  · exact .inr ⟨by simpa using h, by simpa using h⟩

set_option maxRecDepth 100000 in
set_option maxHeartbeats 16000000 in
theorem ring_walk (a b c : Rat2) (w : World) (ha : Rat64 a) (hb' : Rat64 b) (hc : Rat64 c) (ht : Tab w) (hok : RatOk a ∧ RatOk b) (hok2 : RatOk c) :
    Calls Tryd.prog 4 #[a.v, b.v, c.v] w (Ret w (.bool true)) := by
  have r1 := fun W => opAdd_any a b W ha hb'
  have r2 := fun W => opAdd_any b c W hb' hc
  have r3 := fun W => opAdd_any (opAddR a b) c W (runV_64 _ _ _ _) hc
  have r4 := fun W => opAdd_any a (opAddR b c) W ha (runV_64 _ _ _ _)
  have r5 := fun W => opMul_any (opAddR a b) c W (runV_64 _ _ _ _) hc
  have r6 := fun W => opMul_any a c W ha hc
  have r7 := fun W => opMul_any b c W hb' hc
  have r8 := fun W => opAdd_any (opMulR a c) (opMulR b c) W (runV_64 _ _ _ _) (runV_64 _ _ _ _)
  have r0 := fun W => fit_any a b W ha hb'
  have r9 := fun W => fit_any c c W hc hc
  rw [decide_eq_true hok] at r0
  rw [decide_eq_true ⟨hok2, hok2⟩] at r9
  have hA := add_assoc_v (a := a) (b := b) (c := c)
  have hM := add_mul_v (a := a) (b := b) (c := c)
  clear ha hb' hc hok hok2
  generalize opAddR (opAddR a b) c = LF at *
  generalize opAddE (opAddR a b) c = E3 at *
  generalize opAddR a (opAddR b c) = RT at *
  generalize opAddE a (opAddR b c) = E4 at *
  generalize opMulR (opAddR a b) c = X at *
  generalize opMulE (opAddR a b) c = E5 at *
  generalize opAddR (opMulR a c) (opMulR b c) = Y at *
  generalize opAddE (opMulR a c) (opMulR b c) = E8 at *
  generalize opMulR a c = AC at *
  generalize opMulE a c = E6 at *
  generalize opMulR b c = BD at *
  generalize opMulE b c = E7 at *
  generalize opAddR a b = AB at *
  generalize opAddE a b = E1 at *
  generalize opAddR b c = BC at *
  generalize opAddE b c = E2 at *
  obtain ⟨an, ad⟩ := a
  obtain ⟨bn, bd⟩ := b
  obtain ⟨cn, cd⟩ := c
  obtain ⟨l1, l2⟩ := LF
  obtain ⟨t1, t2⟩ := RT
  obtain ⟨x1, x2⟩ := X
  obtain ⟨y1, y2⟩ := Y
  obtain ⟨ac1, ac2⟩ := AC
  obtain ⟨bd1, bd2⟩ := BD
  obtain ⟨ab1, ab2⟩ := AB
  obtain ⟨bc1, bc2⟩ := BC
  have R0 := Lib.hid r0
  have R1 := Lib.hid r1
  have R2 := Lib.hid r2
  have R3 := Lib.hid r3
  have R4 := Lib.hid r4
  have R5 := Lib.hid r5
  have R6 := Lib.hid r6
  have R7 := Lib.hid r7
  have R8 := Lib.hid r8
  have R9 := Lib.hid r9
  have HA := Lib.hid hA
  have HM := Lib.hid hM
  obtain ⟨hb, -, z3, z4, z5⟩ := boxes3 w #[.int .i64 an, .int .i64 ad] #[.int .i64 bn, .int .i64 bd] #[.int .i64 cn, .int .i64 cd] 23 23 23
  have qa : Blk _ w.heap.size _ _ := z3
  have qb : Blk _ (w.heap.size + 1) _ _ := z4
  have qc : Blk _ (w.heap.size + 1 + 1) _ _ := z5
  have HT := Lib.hid (ht.keep hb)
  clear r0 r1 r2 r3 r4 r5 r6 r7 r8 r9 hA hM z3 z4 z5 ht
  go_enter Tryd.func4, Tryd.ntmps4
  go_wp2_with fail
  have ht0 := HT.out
  clear HT
  generalize World.alloc (World.alloc (World.alloc _ _) _) _ = w0 at hb qa qb qc ht0 ⊢
  refine (alive_any _ ht0).mono ?_
  clear ht0
  rintro e w1 ⟨rfl, hx⟩
  replace qa := qa.keep hx
  replace qb := qb.keep hx
  replace qc := qc.keep hx
  replace hb := hb.trans (hx.mono hb.size)
  clear hx
  have qa_0 := qa.cell (i := 0) rfl
  have qa_1 := qa.cell (i := 1) rfl
  have qb_0 := qb.cell (i := 0) rfl
  have qb_1 := qb.cell (i := 1) rfl
  go_wp2_with fail
  clear qa_0 qa_1
  clear qb_0 qb_1
  refine (R0.out w1).mono ?_
  rintro e w2 ⟨rfl, hx⟩
  replace qa := qa.keep hx
  replace qb := qb.keep hx
  replace qc := qc.keep hx
  replace hb := hb.trans (hx.mono hb.size)
  clear hx
  have qc_0 := qc.cell (i := 0) rfl
  have qc_1 := qc.cell (i := 1) rfl
  go_wp2_with fail
  clear qc_0 qc_1
  refine (R9.out w2).mono ?_
  rintro e w3 ⟨rfl, hx⟩
  replace qa := qa.keep hx
  replace qb := qb.keep hx
  replace qc := qc.keep hx
  replace hb := hb.trans (hx.mono hb.size)
  clear hx
  have qa_0 := qa.cell (i := 0) rfl
  have qa_1 := qa.cell (i := 1) rfl
  have qb_0 := qb.cell (i := 0) rfl
  have qb_1 := qb.cell (i := 1) rfl
  go_wp2_with fail
  clear qa_0 qa_1
  clear qb_0 qb_1
  clear R0 R9
  refine (R1.out w3).mono ?_
  rintro e w4 ⟨rfl, hx⟩
  replace qa := qa.keep hx
  replace qb := qb.keep hx
  replace qc := qc.keep hx
  replace hb := hb.trans (hx.mono hb.size)
  clear hx R1
  have kab := Blk.new w4 23 #[.int .i64 ab1, .int .i64 ab2]
  have hx := below_alloc w4 (.cells #[.int .i64 ab1, .int .i64 ab2] 23)
  replace qa := qa.keep hx
  replace qb := qb.keep hx
  replace qc := qc.keep hx
  replace hb := hb.trans (hx.mono hb.size)
  clear hx
  have qb_0 := qb.cell (i := 0) rfl
  have qb_1 := qb.cell (i := 1) rfl
  have qc_0 := qc.cell (i := 0) rfl
  have qc_1 := qc.cell (i := 1) rfl
  go_wp2_with fail
  generalize World.alloc w4 _ = w5 at qa qb qc kab hb ⊢
  generalize w4.heap.size = gkab at kab ⊢
  clear qb_0 qb_1
  clear qc_0 qc_1
  refine (R2.out w5).mono ?_
  rintro e w6 ⟨rfl, hx⟩
  replace qa := qa.keep hx
  replace qb := qb.keep hx
  replace qc := qc.keep hx
  replace kab := kab.keep hx
  replace hb := hb.trans (hx.mono hb.size)
  clear hx R2
  have kbc := Blk.new w6 23 #[.int .i64 bc1, .int .i64 bc2]
  have hx := below_alloc w6 (.cells #[.int .i64 bc1, .int .i64 bc2] 23)
  replace qa := qa.keep hx
  replace qb := qb.keep hx
  replace qc := qc.keep hx
  replace kab := kab.keep hx
  replace hb := hb.trans (hx.mono hb.size)
  clear hx
  have kab_0 := kab.cell (i := 0) rfl
  have kab_1 := kab.cell (i := 1) rfl
  have qc_0 := qc.cell (i := 0) rfl
  have qc_1 := qc.cell (i := 1) rfl
  go_wp2_with fail
  generalize World.alloc w6 _ = w7 at qa qb qc kab kbc hb ⊢
  generalize w6.heap.size = gkbc at kbc ⊢
  clear kab_0 kab_1
  clear qc_0 qc_1
  refine (R3.out w7).mono ?_
  rintro e w8 ⟨rfl, hx⟩
  replace qa := qa.keep hx
  replace qb := qb.keep hx
  replace qc := qc.keep hx
  replace kab := kab.keep hx
  replace kbc := kbc.keep hx
  replace hb := hb.trans (hx.mono hb.size)
  clear hx R3
  have klf := Blk.new w8 23 #[.int .i64 l1, .int .i64 l2]
  have hx := below_alloc w8 (.cells #[.int .i64 l1, .int .i64 l2] 23)
  replace qa := qa.keep hx
  replace qb := qb.keep hx
  replace qc := qc.keep hx
  replace kab := kab.keep hx
  replace kbc := kbc.keep hx
  replace hb := hb.trans (hx.mono hb.size)
  clear hx
  have qa_0 := qa.cell (i := 0) rfl
  have qa_1 := qa.cell (i := 1) rfl
  have kbc_0 := kbc.cell (i := 0) rfl
  have kbc_1 := kbc.cell (i := 1) rfl
  go_wp2_with fail
  generalize World.alloc w8 _ = w9 at qa qb qc kab kbc klf hb ⊢
  generalize w8.heap.size = gklf at klf ⊢
  clear qa_0 qa_1
  clear kbc_0 kbc_1
  refine (R4.out w9).mono ?_
  rintro e w10 ⟨rfl, hx⟩
  replace qa := qa.keep hx
  replace qb := qb.keep hx
  replace qc := qc.keep hx
  replace kab := kab.keep hx
  replace kbc := kbc.keep hx
  replace klf := klf.keep hx
  replace hb := hb.trans (hx.mono hb.size)
  clear hx R4
  have krt := Blk.new w10 23 #[.int .i64 t1, .int .i64 t2]
  have hx := below_alloc w10 (.cells #[.int .i64 t1, .int .i64 t2] 23)
  replace qa := qa.keep hx
  replace qb := qb.keep hx
  replace qc := qc.keep hx
  replace kab := kab.keep hx
  replace kbc := kbc.keep hx
  replace klf := klf.keep hx
  replace hb := hb.trans (hx.mono hb.size)
  clear hx
  have hm31 := Tryd.eqGuardRat
  have hvn := ratNeq
  have hve := ratEql
  have hself := ratB_self
  have hcase : ((E1 == 0) = false ∧ (E1 != 0) = true) ∨ (E1 = 0 ∧ (((E2 == 0) = false ∧ (E2 != 0) = true) ∨ (E2 = 0 ∧ (((E3 == 0) = false ∧ (E3 != 0) = true) ∨ (E3 = 0 ∧ (((E4 == 0) = false ∧ (E4 != 0) = true) ∨ (E4 = 0 ∧ l1 = t1 ∧ l2 = t2))))))) := by
    rcases zero_or E1 with h1 | h1
    case inr => exact .inl h1
    rcases zero_or E2 with h2 | h2
    case inr => exact .inr ⟨h1, .inl h2⟩
    rcases zero_or E3 with h3 | h3
    case inr => exact .inr ⟨h1, .inr ⟨h2, .inl h3⟩⟩
    rcases zero_or E4 with h4 | h4
    case inr => exact .inr ⟨h1, .inr ⟨h2, .inr ⟨h3, .inl h4⟩⟩⟩
    exact .inr ⟨h1, .inr ⟨h2, .inr ⟨h3, .inr ⟨h4, by simpa using HA.out h1 h2 h3 h4⟩⟩⟩⟩
  have hm2 : ((E1 != 0) = true) ∨ (E1 = 0 ∧ (((E5 == 0) = false ∧ (E5 != 0) = true) ∨ (E5 = 0 ∧ (((E6 == 0) = false ∧ (E6 != 0) = true) ∨ (E6 = 0 ∧ (((E7 == 0) = false ∧ (E7 != 0) = true) ∨ (E7 = 0 ∧ (((E8 == 0) = false ∧ (E8 != 0) = true) ∨ (E8 = 0 ∧ x1 = y1 ∧ x2 = y2))))))))) := by
    rcases zero_or E1 with h1 | h1
    case inr => exact .inl h1.2
    rcases zero_or E5 with h2 | h2
    case inr => exact .inr ⟨h1, .inl h2⟩
    rcases zero_or E6 with h3 | h3
    case inr => exact .inr ⟨h1, .inr ⟨h2, .inl h3⟩⟩
    rcases zero_or E7 with h4 | h4
    case inr => exact .inr ⟨h1, .inr ⟨h2, .inr ⟨h3, .inl h4⟩⟩⟩
    rcases zero_or E8 with h5 | h5
    case inr => exact .inr ⟨h1, .inr ⟨h2, .inr ⟨h3, .inr ⟨h4, .inl h5⟩⟩⟩⟩
    exact .inr ⟨h1, .inr ⟨h2, .inr ⟨h3, .inr ⟨h4, .inr ⟨h5, by simpa using HM.out h1 h2 h3 h4 h5⟩⟩⟩⟩⟩
  have HM2 := Lib.hid hm2
  have HCASE := Lib.hid hcase
  clear hm2 hcase HA HM
  have kab_0 := kab.cell (i := 0) rfl
  have kab_1 := kab.cell (i := 1) rfl
  have qc_0 := qc.cell (i := 0) rfl
  have qc_1 := qc.cell (i := 1) rfl
  have klf_0 := klf.cell (i := 0) rfl
  have klf_1 := klf.cell (i := 1) rfl
  have krt_0 := krt.cell (i := 0) rfl
  have krt_1 := krt.cell (i := 1) rfl
  have HBK := Lib.hid (show _ ∧ _ ∧ _ ∧ _ ∧ _ from ⟨qa, qb, qc, kab, hb⟩)
  rcases HCASE.out with ⟨i1, i2⟩ | ⟨rfl, ⟨i1, i2⟩ | ⟨rfl, ⟨i1, i2⟩ | ⟨rfl, ⟨i1, i2⟩ | ⟨rfl, i1, i2⟩⟩⟩⟩
  all_goals
    (try subst i1)
    (try subst i2)
    clear HCASE qa qb qc kab kbc klf krt hb
    go_wp2_with fail
    generalize World.alloc w10 _ = wz at HBK ⊢
    obtain ⟨qa, qb, qc, kab, hb⟩ := HBK.out
    clear HBK kab_0 kab_1 qc_0 qc_1 klf_0 klf_1 krt_0 krt_1
    refine (R5.out wz).mono ?_
    rintro e v11 ⟨rfl, hx⟩
    replace qa := qa.keep hx
    replace qb := qb.keep hx
    replace qc := qc.keep hx
    replace kab := kab.keep hx
    replace hb := hb.trans (hx.mono hb.size)
    clear hx R5
    have kx := Blk.new v11 23 #[.int .i64 x1, .int .i64 x2]
    have hx := below_alloc v11 (.cells #[.int .i64 x1, .int .i64 x2] 23)
    replace qa := qa.keep hx
    replace qb := qb.keep hx
    replace qc := qc.keep hx
    replace kab := kab.keep hx
    replace hb := hb.trans (hx.mono hb.size)
    clear hx
    have qa_0 := qa.cell (i := 0) rfl
    have qa_1 := qa.cell (i := 1) rfl
    have qc_0 := qc.cell (i := 0) rfl
    have qc_1 := qc.cell (i := 1) rfl
    go_wp2_with fail
    generalize World.alloc v11 _ = v12 at qa qb qc kab kx hb ⊢
    generalize v11.heap.size = gkx at kx ⊢
    clear qa_0 qa_1
    clear qc_0 qc_1
    refine (R6.out v12).mono ?_
    rintro e v13 ⟨rfl, hx⟩
    replace qa := qa.keep hx
    replace qb := qb.keep hx
    replace qc := qc.keep hx
    replace kab := kab.keep hx
    replace kx := kx.keep hx
    replace hb := hb.trans (hx.mono hb.size)
    clear hx R6
    have kac := Blk.new v13 23 #[.int .i64 ac1, .int .i64 ac2]
    have hx := below_alloc v13 (.cells #[.int .i64 ac1, .int .i64 ac2] 23)
    replace qa := qa.keep hx
    replace qb := qb.keep hx
    replace qc := qc.keep hx
    replace kab := kab.keep hx
    replace kx := kx.keep hx
    replace hb := hb.trans (hx.mono hb.size)
    clear hx
    have qb_0 := qb.cell (i := 0) rfl
    have qb_1 := qb.cell (i := 1) rfl
    have qc_0 := qc.cell (i := 0) rfl
    have qc_1 := qc.cell (i := 1) rfl
    go_wp2_with fail
    generalize World.alloc v13 _ = v14 at qa qb qc kab kx kac hb ⊢
    generalize v13.heap.size = gkac at kac ⊢
    clear qb_0 qb_1
    clear qc_0 qc_1
    refine (R7.out v14).mono ?_
    rintro e v15 ⟨rfl, hx⟩
    replace qa := qa.keep hx
    replace qb := qb.keep hx
    replace qc := qc.keep hx
    replace kab := kab.keep hx
    replace kx := kx.keep hx
    replace kac := kac.keep hx
    replace hb := hb.trans (hx.mono hb.size)
    clear hx R7
    have kbd := Blk.new v15 23 #[.int .i64 bd1, .int .i64 bd2]
    have hx := below_alloc v15 (.cells #[.int .i64 bd1, .int .i64 bd2] 23)
    replace qa := qa.keep hx
    replace qb := qb.keep hx
    replace qc := qc.keep hx
    replace kab := kab.keep hx
    replace kx := kx.keep hx
    replace kac := kac.keep hx
    replace hb := hb.trans (hx.mono hb.size)
    clear hx
    have kac_0 := kac.cell (i := 0) rfl
    have kac_1 := kac.cell (i := 1) rfl
    have kbd_0 := kbd.cell (i := 0) rfl
    have kbd_1 := kbd.cell (i := 1) rfl
    go_wp2_with fail
    generalize World.alloc v15 _ = v16 at qa qb qc kab kx kac kbd hb ⊢
    generalize v15.heap.size = gkbd at kbd ⊢
    clear kac_0 kac_1
    clear kbd_0 kbd_1
    refine (R8.out v16).mono ?_
    rintro e v17 ⟨rfl, hx⟩
    replace qa := qa.keep hx
    replace qb := qb.keep hx
    replace qc := qc.keep hx
    replace kab := kab.keep hx
    replace kx := kx.keep hx
    replace kac := kac.keep hx
    replace kbd := kbd.keep hx
    replace hb := hb.trans (hx.mono hb.size)
    clear hx R8
    have ky := Blk.new v17 23 #[.int .i64 y1, .int .i64 y2]
    have hx := below_alloc v17 (.cells #[.int .i64 y1, .int .i64 y2] 23)
    replace qa := qa.keep hx
    replace qb := qb.keep hx
    replace qc := qc.keep hx
    replace kab := kab.keep hx
    replace kx := kx.keep hx
    replace kac := kac.keep hx
    replace kbd := kbd.keep hx
    replace hb := hb.trans (hx.mono hb.size)
    clear hx
    have kx_0 := kx.cell (i := 0) rfl
    have kx_1 := kx.cell (i := 1) rfl
    have ky_0 := ky.cell (i := 0) rfl
    have ky_1 := ky.cell (i := 1) rfl
    have HB := Lib.hid hb
    clear qa qb qc kab kac kbd kx ky hb
    rcases HM2.out with i3 | ⟨j1, ⟨i3, i4⟩ | ⟨rfl, ⟨i3, i4⟩ | ⟨rfl, ⟨i3, i4⟩ | ⟨rfl, ⟨i3, i4⟩ | ⟨rfl, i3, i4⟩⟩⟩⟩⟩
    all_goals
      (try subst j1)
      (try subst i3)
      (try subst i4)
      clear HM2
      go_wp2_with fail
      all_goals (go_ret; exact ret_bool rfl HB.out)

theorem ring_all (a b c : Rat2) (w : World) (ha : Rat64 a) (hb : Rat64 b) (hc : Rat64 c) (ht : Tab w) : Calls Tryd.prog 4 #[a.v, b.v, c.v] w (Ret w (.bool true)) := by
  by_cases h : RatOk a ∧ RatOk b
  · by_cases h2 : RatOk c
    · exact ring_walk a b c w ha hb hc ht h h2
    · exact ring_early a b c w ha hb hc ht (.inr ⟨h, h2⟩)
  · exact ring_early a b c w ha hb hc ht (.inl h)
open Go.ChangeShapes Go.WideShapes Go.ChangeAt Go.Joins
theorem open_rat {H : Type} {enc : TypeId × Value → H} {W : World} {r : Reach} {b0 : Nat} {v : Value} {d : DataW H} {p : List MemPlace} (hv : Value.okWide Tryd.prog W r b0 23 v) (h : DataW.Trod enc Tryd.prog W 0 (fun _ => true) true 23 v d p) :
    ∃ a : Rat2, v = a.v ∧ Rat64 a := by
  obtain ⟨c0, c1, y0, y1, m, rfl, -, -, h0, h1⟩ := open_agg2 Tryd.underlying23 (by kernel_rfl) Tryd.cellsRat hv h
  obtain ⟨n, rfl, w0⟩ := cell_int Tryd.underlying2 h0
  obtain ⟨d, rfl, w1⟩ := cell_int Tryd.underlying2 h1
  exact ⟨⟨n, d⟩, rfl, wf_64 (v := ⟨n, d⟩) w0 w1⟩

set_option maxRecDepth 100000 in
theorem ring_lifted (os : Os) (started : os.Started) (H : Type) (enc : TypeId × Value → H) :
    ReturnsInHanded {} Tryd.checked os 4 .any (fun w args => (Rows.ratioRingSpec.pre enc Tryd.prog Tryd.f4 [] false w args ∧ laidMetH Tryd.prog Rows.ratioRingRow.laid w) ∧ sizedMet enc Tryd.prog Tryd.f4 (OpenSpec.ofChange Rows.ratioRingSpec) false w args)
      (Rows.ratioRingSpec.post enc Tryd.prog Tryd.f4 false true false false) := by
  refine returnsInHanded_of_change_and (C := Tryd.checked) (X := fun w _ => laidMetH Tryd.prog Rows.ratioRingRow.laid w) (fun _ _ _ hh h => h.of_heap hh) own started (by kernel_rfl) Tryd.func4
    (ChangeSpec.witness_at (enc := enc) (C := Tryd.checked) (os := os) (X := fun w _ => laidMetH Tryd.prog Rows.ratioRingRow.laid w) false (laidWorld os) #[.agg #[.int .i64 0, .int .i64 0], .agg #[.int .i64 0, .int .i64 0], .agg #[.int .i64 0, .int .i64 0]] 8 rfl (by kernel_rfl) (by kernel_rfl) (by kernel_rfl) (by kernel_rfl) (by kernel_rfl) (laid_met os _)) ?_
  intro W base args ds gs before hval0 hW _ _ hLd _
  have hval : ∀ (j : Nat) t v, Tryd.f4.params[j]? = some t → args[j]? = some v → Value.okWide Tryd.prog W .any base t v := hval0
  have hW' := hW
  obtain ⟨p, q, hA0, hV, rfl, hfz, hnd⟩ := hW
  have hA : DataW.TrodAll enc Tryd.prog W 0 (fun _ => true) true Tryd.f4.params.toList args.toList ds p := hA0
  rw [Tryd.params4] at hA hval
  obtain ⟨v0, vs0, d0, ds0, p0, q0, hargs, rfl, rfl, h0, r0⟩ := trodAll_cons hA
  obtain ⟨v1, vs1, d1, ds1, p1, q1, rfl, rfl, rfl, h1, r1⟩ := trodAll_cons r0
  obtain ⟨v2, vs2, d2, ds2, p2, q2, rfl, rfl, rfl, h2, r2⟩ := trodAll_cons r1
  obtain ⟨rfl, rfl, rfl⟩ := trodAll_nil r2
  obtain rfl : args = #[v0, v1, v2] := by cases args; simp_all
  obtain ⟨rfl, rfl⟩ := trodVars_none hV
  obtain ⟨a, rfl, ha⟩ := open_rat (hval 0 23 v0 rfl rfl) h0
  obtain ⟨b, rfl, hb⟩ := open_rat (hval 1 23 v1 rfl rfl) h1
  obtain ⟨c, rfl, hc⟩ := open_rat (hval 2 23 v2 rfl rfl) h2
  refine (ring_all a b c W ha hb hc (tab_of_laid hLd)).mono fun e W' ⟨he, hb⟩ => ?_
  exact ⟨_, he, law_post laidOut hW' rfl (by kernel_rfl) rfl Tryd.underlying4 rfl rfl rfl hb⟩

theorem ring_row : Rows.RatioRingSaid :=
  OpenClaim.holds_of_wide 4 Tryd.f4 rfl rfl rfl rfl rfl rfl rfl ⟨rfl, rfl, rfl, rfl, rfl⟩ rfl rfl rfl rfl rfl (by kernel_rfl) Tryd.func4 (by kernel_rfl)
    (of_decide_eq_true (by kernel_rfl)) (by unfold Func.isWrapper; first | (rw [if_pos (by decide +kernel)]; kernel_rfl) | (rw [if_neg (by decide +kernel)]; exact ⟨rfl, rfl⟩))
    (fun os started H enc _ => ring_lifted os started H enc)

theorem ring_holds : Rows.RatioRingCardSaid :=
  Claim7.holds_tied_plain_at .later [] [.data, .data, .data] true Rows.ratioRingCard.stood.harness false
    ring_row (fun _ h => by cases h) (by kernel_rfl) (fun _ h => by cases h) ratioRing_row_tie rfl ⟨rfl, rfl⟩ (by kernel_rfl) rfl
    (fun f fn hf hfn => by
      obtain rfl : f = 4 := Option.some.inj ((show Tryd.prog.funcNamed Rows.ratioRingRow.func = some 4 by kernel_rfl).symm.trans hf) |>.symm
      obtain rfl : fn = Tryd.f4 := (Option.some.inj (Tryd.func4.symm.trans hfn)).symm
      exact ⟨by kernel_rfl, fun j t ht => by
        rw [Tryd.params4] at ht
        have h3 : t = 23 := by
          rcases j with _ | _ | _ | j
          · simpa using ht.symm
          · simpa using ht.symm
          · simpa using ht.symm
          · simp at ht
        subst h3
        exact (show Tryd.prog.wantsStandIn 23 = false by kernel_rfl)⟩)
    (by kernel_rfl)
#print axioms ring_holds
end Go.Proofs.YtpkcmjiokdpegaaDoor
