/- The law 'RatioOrder': whatever two ratios come in, it returns true. Condition: the library's three tables are laid. -/
import Derived.Test.YtpkcmjiokdpegaaDoorRatCard
import Derived.Test.YtpkcmjiokdpegaaDoorRatFit
import Derived.Test.YtpkcmjiokdpegaaDoorRatLaws
namespace Go.Proofs.YtpkcmjiokdpegaaDoor
open Go.RowKit Go.Rel

set_option maxHeartbeats 2000000 in
theorem order_early (a b : Rat2) (w : World) (ha : Rat64 a) (hb : Rat64 b) (ht : Tab w) (hno : ¬ (RatOk a ∧ RatOk b)) :
    Calls Tryd.prog 6 #[a.v, b.v] w (Ret w (.bool true)) := by
  obtain ⟨hb0, -, x3, x4⟩ := boxes2 w #[.int .i64 a.n, .int .i64 a.d] #[.int .i64 b.n, .int .i64 b.d] 23 23
  have q0 : Blk _ w.heap.size _ _ := x3
  have q1 : Blk _ (w.heap.size + 1) _ _ := x4
  have h := fun W => fit_any a b W ha hb
  rw [decide_eq_false hno] at h
  have HH := Lib.hid (show _ ∧ _ from ⟨h, ht.keep hb0⟩)
  clear h ha hb ht hno x3 x4
  go_enter Tryd.func6, Tryd.ntmps6
  go_wp2_with fail
  obtain ⟨h, ht0⟩ := HH.out
  clear HH
  generalize World.alloc (World.alloc _ _) _ = w0 at hb0 q0 q1 ht0 ⊢
  have H := Lib.hid h
  clear h
  refine (alive_any _ ht0).mono ?_
  clear ht0
  rintro e w1 ⟨rfl, hb1⟩
  replace q0 := q0.keep hb1
  replace q1 := q1.keep hb1
  replace hb0 := hb0.trans (hb1.mono hb0.size)
  have c0 := q0.cell (i := 0) rfl
  have c1 := q0.cell (i := 1) rfl
  have c2 := q1.cell (i := 0) rfl
  have c3 := q1.cell (i := 1) rfl
  clear hb1
  go_wp2_with fail
  refine (H.out _).mono ?_
  rintro e w2 ⟨rfl, hb1⟩
  replace hb0 := hb0.trans (hb1.mono hb0.size)
  clear c0 c1 c2 c3 hb1 q0 q1 H
  go_wp2_with fail
  go_ret
  exact ret_bool rfl hb0

set_option maxRecDepth 100000 in
set_option maxHeartbeats 8000000 in
theorem order_walk (a b : Rat2) (w : World) (ha : Rat64 a) (hb' : Rat64 b) (ht : Tab w) (hok : RatOk a ∧ RatOk b) :
    Calls Tryd.prog 6 #[a.v, b.v] w (Ret w (.bool true)) := by
  have r1 := fun W => cmp_any a b W ha hb'
  have r2 := fun W => cmp_any b a W hb' ha
  have r3 := fun W => opSub_any a b W ha hb'
  have r4 := fun W => floor_r a W ha
  have r5 := fun W => ceil_r a W ha
  have r0 := fun W => fit_any a b W ha hb'
  rw [decide_eq_true hok] at r0
  rw [cmpR_ok hok, or_ok hok, sgn_swap] at r1
  rw [cmpR_ok ⟨hok.2, hok.1⟩, or_ok ⟨hok.2, hok.1⟩] at r2
  rw [floorR_ok hok.1, ratE_ok hok.1] at r4
  rw [ceilR_ok hok.1, ratE_ok hok.1] at r5
  have hz := cmp_eq_iff hok.1 hok.2
  have hs : opSubE a b = 0 → (0 < (opSubR a b).n ↔ 0 < sgn (a.n * b.d) (b.n * a.d)) := sub_sign
  rw [sgn_swap] at hz
  rw [sgn_swap] at hs
  have hfc := floor_ceil hok.1
  have hbd := ratOk_bounds hok.1
  have hlo : -1000000000 ≤ a.n / a.d ∧ a.n / a.d ≤ 1000000000 := by
    refine ⟨(Int.le_ediv_iff_mul_le (by omega)).2 (by omega), ?_⟩
    have : a.n / a.d < 1000000001 := (Int.ediv_lt_iff_lt_mul (by omega)).2 (by omega)
    omega
  have hsg : sgn (b.n * a.d) (a.n * b.d) = -1 ∨ sgn (b.n * a.d) (a.n * b.d) = 0 ∨ sgn (b.n * a.d) (a.n * b.d) = 1 := by unfold sgn; repeat' split <;> omega
  clear ha hb' hok
  generalize sgn (b.n * a.d) (a.n * b.d) = S at *
  generalize a.n / a.d = LO at *
  generalize -(-a.n / a.d) = HI at *
  generalize opSubE a b = EL at *
  generalize opSubR a b = K at *
  obtain ⟨an, ad⟩ := a
  obtain ⟨bn, bd⟩ := b
  obtain ⟨k1, k2⟩ := K
  simp only at hz hs hfc hbd
  obtain ⟨f1, f2, f3, f4⟩ := hfc
  obtain ⟨d1, d2, d3, d4⟩ := hbd
  obtain ⟨lo1, lo2⟩ := hlo
  have hhi : HI - LO = 0 ∨ HI - LO = 1 := by split at f2 <;> omega
  have w1 : IntKind.i64.wrap (HI - LO) = HI - LO := by rw [IntKind.wrap_i64]; omega
  have w2 : IntKind.i64.wrap (ad - 1) = ad - 1 := by rw [IntKind.wrap_i64]; omega
  have m1 := mul_bound (x := LO) (y := ad) (by omega) (by omega) (by omega) (by omega)
  have hHA : HI * ad = LO * ad + (HI - LO) * ad := by rw [← Int.add_mul]; congr 1; omega
  have m2 : -2000000000000000000 ≤ HI * ad ∧ HI * ad ≤ 2000000000000000000 := by rcases hhi with h | h <;> rw [h] at hHA <;> omega
  have w3 : IntKind.i64.wrap (LO * ad) = LO * ad := by rw [IntKind.wrap_i64]; omega
  have w4 : IntKind.i64.wrap (HI * ad) = HI * ad := by rw [IntKind.wrap_i64]; omega
  have t1 : decide (LO ≤ HI) = true := decide_eq_true f1
  have t2 : decide (LO * ad ≤ an) = true := decide_eq_true f3
  have t3 : decide (an ≤ HI * ad) = true := decide_eq_true f4
  have hmin : ∀ ts t W, (Builtin.min_ ts t #[.int .i64 1, .int .i64 (ad - 1)]).run Tryd.prog W = .ok (.int .i64 (HI - LO)) W := fun ts t W => by
    rw [run_min_int2, f2]
  have HF := Lib.hid (show _ ∧ _ ∧ _ ∧ _ ∧ _ ∧ _ ∧ _ ∧ _ from ⟨w1, w2, w3, w4, t1, t2, t3, hmin⟩)
  have R0 := Lib.hid r0
  have R1 := Lib.hid r1
  have R2 := Lib.hid r2
  have R3 := Lib.hid r3
  have R4 := Lib.hid r4
  have R5 := Lib.hid r5
  have HZ := Lib.hid (show _ ∧ _ from ⟨hz, hs⟩)
  have HSG := Lib.hid hsg
  obtain ⟨hb, -, x3, x4⟩ := boxes2 w #[.int .i64 an, .int .i64 ad] #[.int .i64 bn, .int .i64 bd] 23 23
  have qa : Blk _ w.heap.size _ _ := x3
  have qb : Blk _ (w.heap.size + 1) _ _ := x4
  have HT := Lib.hid (ht.keep hb)
  clear r0 r1 r2 r3 r4 r5 hz hs hsg w1 w2 w3 w4 t1 t2 t3 hmin f1 f2 f3 f4 m1 m2 hHA hhi x3 x4 ht
  go_enter Tryd.func6, Tryd.ntmps6
  go_wp2_with fail
  have ht0 := HT.out
  clear HT
  generalize World.alloc (World.alloc _ _) _ = w0 at hb qa qb ht0 ⊢
  refine (alive_any _ ht0).mono ?_
  clear ht0
  rintro e w1 ⟨rfl, hx⟩
  replace qa := qa.keep hx
  replace qb := qb.keep hx
  replace hb := hb.trans (hx.mono hb.size)
  have qa_0 := qa.cell (i := 0) rfl
  have qa_1 := qa.cell (i := 1) rfl
  have qb_0 := qb.cell (i := 0) rfl
  have qb_1 := qb.cell (i := 1) rfl
  clear hx
  go_wp2_with fail
  refine (R0.out w1).mono ?_
  rintro e w2 ⟨rfl, hx⟩
  replace qa := qa.keep hx
  replace qb := qb.keep hx
  replace hb := hb.trans (hx.mono hb.size)
  replace qa_0 := qa.cell (i := 0) rfl
  replace qa_1 := qa.cell (i := 1) rfl
  replace qb_0 := qb.cell (i := 0) rfl
  replace qb_1 := qb.cell (i := 1) rfl
  clear hx R0
  go_wp2_with fail
  clear qa_0 qa_1 qb_0 qb_1
  refine (R1.out w2).mono ?_
  rintro e w3 ⟨rfl, hx⟩
  replace qa := qa.keep hx
  replace qb := qb.keep hx
  replace hb := hb.trans (hx.mono hb.size)
  clear hx R1
  have qa_0 := qa.cell (i := 0) rfl
  have qa_1 := qa.cell (i := 1) rfl
  have qb_0 := qb.cell (i := 0) rfl
  have qb_1 := qb.cell (i := 1) rfl
  go_wp2_with fail
  clear qa_0 qa_1
  clear qb_0 qb_1
  refine (R2.out w3).mono ?_
  rintro e w4 ⟨rfl, hx⟩
  replace qa := qa.keep hx
  replace qb := qb.keep hx
  replace hb := hb.trans (hx.mono hb.size)
  clear hx R2
  have qa_0 := qa.cell (i := 0) rfl
  have qa_1 := qa.cell (i := 1) rfl
  have qb_0 := qb.cell (i := 0) rfl
  have qb_1 := qb.cell (i := 1) rfl
  go_wp2_with fail
  clear qa_0 qa_1
  clear qb_0 qb_1
  have hm31 := Tryd.eqGuardRat
  have hve := ratEql
  have hself := ratB_self
  have hcs : (S = -1 ∧ ratB an ad bn bd = false) ∨ (S = 0 ∧ an = bn ∧ ad = bd) ∨ (S = 1 ∧ ratB an ad bn bd = false) := by
    have hz := HZ.out.1
    rcases HSG.out with h | h | h
    · refine .inl ⟨h, ?_⟩
      have := ratB_iff ⟨an, ad⟩ ⟨bn, bd⟩
      rw [show ratB an ad bn bd = _ from this]; exact decide_eq_false fun e => by have := hz.2 e; omega
    · have := hz.1 (by omega)
      exact .inr (.inl ⟨h, by simpa using this⟩)
    · refine .inr (.inr ⟨h, ?_⟩)
      have := ratB_iff ⟨an, ad⟩ ⟨bn, bd⟩
      rw [show ratB an ad bn bd = _ from this]; exact decide_eq_false fun e => by have := hz.2 e; omega
  have hks : (EL == 0) = false ∨ (EL = 0 ∧ decide (0 < k1) = decide (0 < -S)) := by
    by_cases h : EL = 0
    · refine .inr ⟨h, ?_⟩
      have := HZ.out.2 h
      exact decide_eq_decide.2 this
    · exact .inl (by simpa using h)
  have HCS := Lib.hid hcs
  have HKS := Lib.hid hks
  clear hcs hks HZ HSG
  refine (R3.out w4).mono ?_
  rintro e w5 ⟨rfl, hx⟩
  replace qa := qa.keep hx
  replace qb := qb.keep hx
  replace hb := hb.trans (hx.mono hb.size)
  clear hx R3
  have bk := Blk.new w5 23 #[.int .i64 k1, .int .i64 k2]
  have hx := below_alloc w5 (.cells #[.int .i64 k1, .int .i64 k2] 23)
  replace qa := qa.keep hx
  replace qb := qb.keep hx
  replace hb := hb.trans (hx.mono hb.size)
  clear hx
  have qa_0 := qa.cell (i := 0) rfl
  have qa_1 := qa.cell (i := 1) rfl
  have qb_0 := qb.cell (i := 0) rfl
  have qb_1 := qb.cell (i := 1) rfl
  have bk_0 := bk.cell (i := 0) rfl
  have bk_1 := bk.cell (i := 1) rfl
  rcases HCS.out with ⟨s1, s2⟩ | ⟨s1, s2, s3⟩ | ⟨s1, s2⟩ <;> rcases HKS.out with e1 | ⟨e1, e2⟩
  all_goals
    (try subst s3)
    (try subst e1)
    (try (obtain rfl := s2))
    subst s1
    (try (simp only [Int.neg_neg, Int.neg_zero, Int.reduceNeg, Int.reduceLT, decide_true, decide_false, Int.lt_irrefl] at e2))
    have HBK := Lib.hid (show _ ∧ _ ∧ _ from ⟨qa, qb, hb⟩)
    clear qa qb bk hb HCS HKS
    go_wp2_with fail
    generalize World.alloc w5 _ = wz at HBK ⊢
    obtain ⟨qa, qb, hb⟩ := HBK.out
    clear HBK qa_0 qa_1 qb_0 qb_1 bk_0 bk_1
    refine (R4.out wz).mono ?_
    rintro e wy ⟨rfl, hx⟩
    replace qa := qa.keep hx
    replace qb := qb.keep hx
    replace hb := hb.trans (hx.mono hb.size)
    clear hx R4
    have qa_0 := qa.cell (i := 0) rfl
    have qa_1 := qa.cell (i := 1) rfl
    go_wp2_with fail
    refine (R5.out wy).mono ?_
    rintro e wx ⟨rfl, hx⟩
    replace qa := qa.keep hx
    replace qb := qb.keep hx
    replace hb := hb.trans (hx.mono hb.size)
    clear hx R5
    replace qa_0 := qa.cell (i := 0) rfl
    replace qa_1 := qa.cell (i := 1) rfl
    obtain ⟨w1, w2, w3, w4, t1, t2, t3, hmin⟩ := HF.out
    clear HF qa qb
    go_wp2_with fail
    go_ret
    exact ret_bool rfl hb

theorem order_all (a b : Rat2) (w : World) (ha : Rat64 a) (hb : Rat64 b) (ht : Tab w) : Calls Tryd.prog 6 #[a.v, b.v] w (Ret w (.bool true)) := by
  by_cases h : RatOk a ∧ RatOk b
  · exact order_walk a b w ha hb ht h
  · exact order_early a b w ha hb ht h
open Go.ChangeShapes Go.WideShapes Go.ChangeAt Go.Joins
theorem open_rat {H : Type} {enc : TypeId × Value → H} {W : World} {r : Reach} {b0 : Nat} {v : Value} {d : DataW H} {p : List MemPlace} (hv : Value.okWide Tryd.prog W r b0 23 v) (h : DataW.Trod enc Tryd.prog W 0 (fun _ => true) true 23 v d p) :
    ∃ a : Rat2, v = a.v ∧ Rat64 a := by
  obtain ⟨c0, c1, y0, y1, m, rfl, -, -, h0, h1⟩ := open_agg2 Tryd.underlying23 (by kernel_rfl) Tryd.cellsRat hv h
  obtain ⟨n, rfl, w0⟩ := cell_int Tryd.underlying2 h0
  obtain ⟨d, rfl, w1⟩ := cell_int Tryd.underlying2 h1
  exact ⟨⟨n, d⟩, rfl, wf_64 (v := ⟨n, d⟩) w0 w1⟩

set_option maxRecDepth 100000 in
theorem order_lifted (os : Os) (started : os.Started) (H : Type) (enc : TypeId × Value → H) :
    ReturnsInHanded {} Tryd.checked os 6 .any (fun w args => (Rows.ratioOrderSpec.pre enc Tryd.prog Tryd.f6 [] false w args ∧ laidMetH Tryd.prog Rows.ratioOrderRow.laid w) ∧ sizedMet enc Tryd.prog Tryd.f6 (OpenSpec.ofChange Rows.ratioOrderSpec) false w args)
      (Rows.ratioOrderSpec.post enc Tryd.prog Tryd.f6 false true false false) := by
  refine returnsInHanded_of_change_and (C := Tryd.checked) (X := fun w _ => laidMetH Tryd.prog Rows.ratioOrderRow.laid w) (fun _ _ _ hh h => h.of_heap hh) own started (by kernel_rfl) Tryd.func6
    (ChangeSpec.witness_at (enc := enc) (C := Tryd.checked) (os := os) (X := fun w _ => laidMetH Tryd.prog Rows.ratioOrderRow.laid w) false (laidWorld os) #[.agg #[.int .i64 0, .int .i64 0], .agg #[.int .i64 0, .int .i64 0]] 8 rfl (by kernel_rfl) (by kernel_rfl) (by kernel_rfl) (by kernel_rfl) (by kernel_rfl) (laid_met os _)) ?_
  intro W base args ds gs before hval0 hW _ _ hLd _
  have hval : ∀ (j : Nat) t v, Tryd.f6.params[j]? = some t → args[j]? = some v → Value.okWide Tryd.prog W .any base t v := hval0
  have hW' := hW
  obtain ⟨p, q, hA0, hV, rfl, hfz, hnd⟩ := hW
  have hA : DataW.TrodAll enc Tryd.prog W 0 (fun _ => true) true Tryd.f6.params.toList args.toList ds p := hA0
  rw [Tryd.params6] at hA hval
  obtain ⟨v0, vs0, d0, ds0, p0, q0, hargs, rfl, rfl, h0, r0⟩ := trodAll_cons hA
  obtain ⟨v1, vs1, d1, ds1, p1, q1, rfl, rfl, rfl, h1, r1⟩ := trodAll_cons r0
  obtain ⟨rfl, rfl, rfl⟩ := trodAll_nil r1
  obtain rfl : args = #[v0, v1] := by cases args; simp_all
  obtain ⟨rfl, rfl⟩ := trodVars_none hV
  obtain ⟨a, rfl, ha⟩ := open_rat (hval 0 23 v0 rfl rfl) h0
  obtain ⟨b, rfl, hb⟩ := open_rat (hval 1 23 v1 rfl rfl) h1
  refine (order_all a b W ha hb (tab_of_laid hLd)).mono fun e W' ⟨he, hb⟩ => ?_
  exact ⟨_, he, law_post laidOut hW' rfl (by kernel_rfl) rfl Tryd.underlying4 rfl rfl rfl hb⟩

theorem order_row : Rows.RatioOrderSaid :=
  OpenClaim.holds_of_wide 6 Tryd.f6 rfl rfl rfl rfl rfl rfl rfl ⟨rfl, rfl, rfl, rfl, rfl⟩ rfl rfl rfl rfl rfl (by kernel_rfl) Tryd.func6 (by kernel_rfl)
    (of_decide_eq_true (by kernel_rfl)) (by unfold Func.isWrapper; first | (rw [if_pos (by decide +kernel)]; kernel_rfl) | (rw [if_neg (by decide +kernel)]; exact ⟨rfl, rfl⟩))
    (fun os started H enc _ => order_lifted os started H enc)

theorem order_holds : Rows.RatioOrderCardSaid :=
  Claim7.holds_tied_plain_at .later [] [.data, .data, .data] true Rows.ratioOrderCard.stood.harness false
    order_row (fun _ h => by cases h) (by kernel_rfl) (fun _ h => by cases h) ratioOrder_row_tie rfl ⟨rfl, rfl⟩ (by kernel_rfl) rfl
    (fun f fn hf hfn => by
      obtain rfl : f = 6 := Option.some.inj ((show Tryd.prog.funcNamed Rows.ratioOrderRow.func = some 6 by kernel_rfl).symm.trans hf) |>.symm
      obtain rfl : fn = Tryd.f6 := (Option.some.inj (Tryd.func6.symm.trans hfn)).symm
      exact ⟨by kernel_rfl, fun j t ht => by
        rw [Tryd.params6] at ht
        have h3 : t = 23 := by
          rcases j with _ | _ | j
          · simpa using ht.symm
          · simpa using ht.symm
          · simp at ht
        subst h3
        exact (show Tryd.prog.wantsStandIn 23 = false by kernel_rfl)⟩)
    (by kernel_rfl)
#print axioms order_holds
end Go.Proofs.YtpkcmjiokdpegaaDoor
