/- The law 'RatioBack': whatever ratio and factor come in, it returns true. Condition: the library's three tables are laid. -/
import Derived.ChangeMaps5
import Derived.Test.YtpkcmjiokdpegaaDoorRatCard
import Derived.Test.YtpkcmjiokdpegaaDoorRatFit
import Derived.Test.YtpkcmjiokdpegaaDoorRatW
namespace Go.Rel
open Go.RowKit
theorem textL_len {a : Rat2} (ha : RatOk a) : (textL a).length ≤ 1000 := by
  obtain ⟨h1, h2, h3, h4, -⟩ := ha
  have e1 : (⟨(Lib.itoa a.n).toArray⟩ : ByteArray).size ≤ 21 := Lib.itoa_length_le a.n (by omega) (by omega)
  have e2 : (⟨(Lib.itoa a.d).toArray⟩ : ByteArray).size ≤ 21 := Lib.itoa_length_le a.d (by omega) (by omega)
  have e1' : (Lib.itoa a.n).length ≤ 21 := e1
  have e2' : (Lib.itoa a.d).length ≤ 21 := e2
  unfold textL
  rw [List.length_append]
  split
  · simp; omega
  · rw [List.length_cons]; omega
theorem times_rng {n f : Int} (h1 : -1000000000 ≤ n) (h2 : n ≤ 1000000000) (h3 : -128 ≤ f) (h4 : f ≤ 127) : -128000000000 ≤ n * f ∧ n * f ≤ 128000000000 := by
  have h5 : (n * f).natAbs = n.natAbs * f.natAbs := Int.natAbs_mul _ _
  have h6 : n.natAbs * f.natAbs ≤ 1000000000 * 128 := Nat.mul_le_mul (by omega) (by omega)
  omega
end Go.Rel
namespace Go.Proofs.YtpkcmjiokdpegaaDoor
open Go.RowKit Go.Rel

set_option maxHeartbeats 2000000 in
theorem back_early (a : Rat2) (f : Int) (w : World) (ha : Rat64 a) (ht : Tab w) (hno : ¬ (RatOk a ∧ f ≠ 0)) :
    Calls Tryd.prog 8 #[a.v, .int .i8 f] w (Ret w (.bool true)) := by
  have hb0 := below_alloc w (.cells #[.int .i64 a.n, .int .i64 a.d] 23)
  have q0 := Blk.new w 23 #[.int .i64 a.n, .int .i64 a.d]
  have h := fun W => fit_any a a W ha ha
  have hor : ((RatOk a ∧ RatOk a) ∧ (f == 0) = true) ∨ ¬ (RatOk a ∧ RatOk a) := by
    by_cases h1 : RatOk a
    · refine .inl ⟨⟨h1, h1⟩, ?_⟩
      by_cases h2 : f = 0
      · simpa using h2
      · exact absurd ⟨h1, h2⟩ hno
    · exact .inr (fun h => h1 h.1)
  have HT := Lib.hid (ht.keep hb0)
  rcases hor with ⟨h1, h2⟩ | h1
  · rw [decide_eq_true h1] at h
    have H := Lib.hid h
    clear h ha ht hno h1
    go_enter Tryd.func8, Tryd.ntmps8
    go_wp2_with fail
    generalize World.alloc _ _ = w0 at hb0 q0 HT ⊢
    refine (alive_any _ HT.out).mono ?_
    rintro e w1 ⟨rfl, hb1⟩
    replace q0 := q0.keep hb1
    replace hb0 := hb0.trans (hb1.mono hb0.size)
    have c0 := q0.cell (i := 0) rfl
    have c1 := q0.cell (i := 1) rfl
    clear hb1
    go_wp2_with fail
    refine (H.out _).mono ?_
    rintro e w2 ⟨rfl, hb1⟩
    replace hb0 := hb0.trans (hb1.mono hb0.size)
    clear c0 c1 hb1 q0 H
    go_wp2_with fail
    go_ret
    exact ret_bool rfl hb0
  · rw [decide_eq_false h1] at h
    have H := Lib.hid h
    clear h ha ht hno h1
    go_enter Tryd.func8, Tryd.ntmps8
    go_wp2_with fail
    generalize World.alloc _ _ = w0 at hb0 q0 HT ⊢
    refine (alive_any _ HT.out).mono ?_
    rintro e w1 ⟨rfl, hb1⟩
    replace q0 := q0.keep hb1
    replace hb0 := hb0.trans (hb1.mono hb0.size)
    have c0 := q0.cell (i := 0) rfl
    have c1 := q0.cell (i := 1) rfl
    clear hb1
    go_wp2_with fail
    refine (H.out _).mono ?_
    rintro e w2 ⟨rfl, hb1⟩
    replace hb0 := hb0.trans (hb1.mono hb0.size)
    clear c0 c1 hb1 q0 H
    go_wp2_with fail
    go_ret
    exact ret_bool rfl hb0

set_option maxRecDepth 100000 in
set_option maxHeartbeats 8000000 in
theorem back_walk (a : Rat2) (f : Int) (w : World) (ha : Rat64 a) (ht : Tab w) (hok : RatOk a) (hf : f ≠ 0) (f1 : -128 ≤ f) (f2 : f ≤ 127) :
    Calls Tryd.prog 8 #[a.v, .int .i8 f] w (Ret w (.bool true)) := by
  have r0 := fun W => fit_any a a W ha ha
  rw [decide_eq_true ⟨hok, hok⟩] at r0
  have r1 := fun W ht => text_any a W ha ht
  rw [show textS a = str (textL a) from if_pos hok, ratE_ok hok] at r1
  obtain ⟨po, pe⟩ := parse_text hok
  have r2 := fun W ht => parse_any (str (textL a)) W (by rw [str_size]; have := textL_len hok; omega) ht
  rw [str_list, show parseR (textL a) = a by unfold parseR; rw [if_pos po, pe], show parseE (textL a) = 0 from if_pos po] at r2
  obtain ⟨g1, g2⟩ := times_rng hok.2.2.1 hok.2.2.2.1 f1 f2
  obtain ⟨g3, g4⟩ := times_rng (n := a.d) (by have := hok.1; omega) hok.2.1 f1 f2
  have r3 := fun W => make_any (a.n * f) (a.d * f) W (by omega) (by omega) (by omega) (by omega)
  rw [(make_times hok hf).1, (make_times hok hf).2] at r3
  have hb := below_alloc w (.cells #[.int .i64 a.n, .int .i64 a.d] 23)
  have qa := Blk.new w 23 #[.int .i64 a.n, .int .i64 a.d]
  have HT := Lib.hid (ht.keep hb)
  generalize textL a = TX at *
  obtain ⟨an, ad⟩ := a
  simp only at g1 g2 g3 g4 r3 qa hb HT
  obtain ⟨X, hX⟩ : ∃ X, an * f = X := ⟨_, rfl⟩
  obtain ⟨Y, hY⟩ : ∃ Y, ad * f = Y := ⟨_, rfl⟩
  rw [hX] at g1 g2 r3
  rw [hY] at g3 g4 r3
  have hf0 : (f == 0) = false := by simpa using hf
  have R0 := Lib.hid r0
  have R1 := Lib.hid r1
  have R2 := Lib.hid r2
  have R3 := Lib.hid r3
  clear r0 r1 r2 r3 ha ht hok hf po pe
  go_enter Tryd.func8, Tryd.ntmps8
  go_wp2_with fail
  generalize World.alloc _ _ = w0 at hb qa HT ⊢
  have ht := HT.out
  clear HT
  refine (alive_any _ ht).mono ?_
  rintro e w1 ⟨rfl, hx⟩
  replace qa := qa.keep hx
  replace ht := ht.keep hx
  replace hb := hb.trans (hx.mono hb.size)
  clear hx
  have c0 := qa.cell (i := 0) rfl
  have c1 := qa.cell (i := 1) rfl
  go_wp2_with fail
  clear c0 c1
  refine (R0.out _).mono ?_
  rintro e w2 ⟨rfl, hx⟩
  replace qa := qa.keep hx
  replace ht := ht.keep hx
  replace hb := hb.trans (hx.mono hb.size)
  clear hx
  have c0 := qa.cell (i := 0) rfl
  have c1 := qa.cell (i := 1) rfl
  go_wp2_with fail
  clear c0 c1
  refine (R1.out _ ht).mono ?_
  rintro e w3 ⟨rfl, hx⟩
  replace qa := qa.keep hx
  replace ht := ht.keep hx
  replace hb := hb.trans (hx.mono hb.size)
  clear hx
  go_wp2_with fail
  refine (R2.out _ ht).mono ?_
  rintro e w4 ⟨rfl, hx⟩
  replace qa := qa.keep hx
  replace hb := hb.trans (hx.mono hb.size)
  clear hx ht
  have qb := Blk.new w4 23 #[.int .i64 an, .int .i64 ad]
  have hx := below_alloc w4 (.cells #[.int .i64 an, .int .i64 ad] 23)
  have ca0 := qa.cell (i := 0) rfl
  have ca1 := qa.cell (i := 1) rfl
  have la := qa.lt
  replace qa := qa.keep hx
  replace hb := hb.trans (hx.mono hb.size)
  clear hx
  go_wp2_with fail
  clear ca0 ca1 la
  generalize w4.heap.size = g4' at qb ⊢
  generalize World.alloc w4 _ = w5 at qa qb hb ⊢
  refine (R3.out _).mono ?_
  rintro e w6 ⟨rfl, hx⟩
  replace qa := qa.keep hx
  replace qb := qb.keep hx
  replace hb := hb.trans (hx.mono hb.size)
  clear hx
  have qc := Blk.new w6 23 #[.int .i64 an, .int .i64 ad]
  have hx := below_alloc w6 (.cells #[.int .i64 an, .int .i64 ad] 23)
  have ca0 := qa.cell (i := 0) rfl
  have ca1 := qa.cell (i := 1) rfl
  have cb0 := qb.cell (i := 0) rfl
  have cb1 := qb.cell (i := 1) rfl
  have la := qa.lt
  have lb := qb.lt
  replace hb := hb.trans (hx.mono hb.size)
  have hm31 := Tryd.eqGuardRat
  have hvn := ratNeq
  have hve := ratEql
  have hself := ratB_self
  clear hx qa qb qc
  go_wp2_with fail
  go_ret
  exact ret_bool rfl hb

theorem back_all (a : Rat2) (f : Int) (w : World) (ha : Rat64 a) (ht : Tab w) (f1 : -128 ≤ f) (f2 : f ≤ 127) : Calls Tryd.prog 8 #[a.v, .int .i8 f] w (Ret w (.bool true)) := by
  by_cases h : RatOk a ∧ f ≠ 0
  · exact back_walk a f w ha ht h.1 h.2 f1 f2
  · exact back_early a f w ha ht h
theorem wf_i8 {x : Int} (h : (Lit.int .i8 x).wf = true) : -128 ≤ x ∧ x ≤ 127 := by
  simp [Lit.wf, IntKind.min, IntKind.max, IntKind.signed, IntKind.bits] at h
  omega

open Go.ChangeShapes Go.WideShapes Go.ChangeAt Go.Joins Go.ChangeMaps
theorem back_rat {H : Type} {enc : TypeId × Value → H} {W : World} {r : Reach} {b0 : Nat} {v : Value} {d : DataW H} {p : List MemPlace} (hv : Value.okWide Tryd.prog W r b0 23 v) (h : DataW.Trod enc Tryd.prog W 0 (fun _ => true) true 23 v d p) :
    ∃ a : Rat2, v = a.v ∧ Rat64 a := by
  obtain ⟨c0, c1, y0, y1, m, rfl, -, -, h0, h1⟩ := open_agg2 Tryd.underlying23 (by kernel_rfl) Tryd.cellsRat hv h
  obtain ⟨n, rfl, w0⟩ := cell_int Tryd.underlying2 h0
  obtain ⟨d, rfl, w1⟩ := cell_int Tryd.underlying2 h1
  exact ⟨⟨n, d⟩, rfl, wf_64 (v := ⟨n, d⟩) w0 w1⟩

set_option maxRecDepth 100000 in
theorem back_lifted (os : Os) (started : os.Started) (H : Type) (enc : TypeId × Value → H) :
    ReturnsInHanded {} Tryd.checked os 8 .any (fun w args => (Rows.ratioBackSpec.pre enc Tryd.prog Tryd.f8 [] false w args ∧ laidMetH Tryd.prog Rows.ratioBackRow.laid w) ∧ sizedMet enc Tryd.prog Tryd.f8 (OpenSpec.ofChange Rows.ratioBackSpec) false w args)
      (Rows.ratioBackSpec.post enc Tryd.prog Tryd.f8 false true false false) := by
  refine returnsInHanded_of_change_and (C := Tryd.checked) (X := fun w _ => laidMetH Tryd.prog Rows.ratioBackRow.laid w) (fun _ _ _ hh h => h.of_heap hh) own started (by kernel_rfl) Tryd.func8
    (ChangeSpec.witness_at (enc := enc) (C := Tryd.checked) (os := os) (X := fun w _ => laidMetH Tryd.prog Rows.ratioBackRow.laid w) false (laidWorld os) #[.agg #[.int .i64 0, .int .i64 0], .int .i8 0] 8 rfl (by kernel_rfl) (by kernel_rfl) (by kernel_rfl) (by kernel_rfl) (by kernel_rfl) (laid_met os _)) ?_
  intro W base args ds gs before hval0 hW _ _ hLd _
  have hval : ∀ (j : Nat) t v, Tryd.f8.params[j]? = some t → args[j]? = some v → Value.okWide Tryd.prog W .any base t v := hval0
  have hW' := hW
  obtain ⟨p, q, hA0, hV, rfl, hfz, hnd⟩ := hW
  have hA : DataW.TrodAll enc Tryd.prog W 0 (fun _ => true) true Tryd.f8.params.toList args.toList ds p := hA0
  rw [Tryd.params8] at hA hval
  obtain ⟨v0, vs0, d0, ds0, p0, q0, hargs, rfl, rfl, h0, r0⟩ := trodAll_cons hA
  obtain ⟨v1, vs1, d1, ds1, p1, q1, rfl, rfl, rfl, h1, r1⟩ := trodAll_cons r0
  obtain ⟨rfl, rfl, rfl⟩ := trodAll_nil r1
  obtain rfl : args = #[v0, v1] := by cases args; simp_all
  obtain ⟨rfl, rfl⟩ := trodVars_none hV
  obtain ⟨a, rfl, ha⟩ := back_rat (hval 0 23 v0 rfl rfl) h0
  obtain ⟨k, rfl, -, -, hk⟩ := open_int Tryd.underlying47 (hval 1 47 v1 rfl rfl) h1
  refine (back_all a k W ha (tab_of_laid hLd) (wf_i8 hk).1 (wf_i8 hk).2).mono fun e W' ⟨he, hb⟩ => ?_
  exact ⟨_, he, law_post laidOut hW' rfl (by kernel_rfl) rfl Tryd.underlying4 rfl rfl rfl hb⟩

theorem back_row : Rows.RatioBackSaid :=
  OpenClaim.holds_of_wide 8 Tryd.f8 rfl rfl rfl rfl rfl rfl rfl ⟨rfl, rfl, rfl, rfl, rfl⟩ rfl rfl rfl rfl rfl (by kernel_rfl) Tryd.func8 (by kernel_rfl)
    (of_decide_eq_true (by kernel_rfl)) (by unfold Func.isWrapper; first | (rw [if_pos (by decide +kernel)]; kernel_rfl) | (rw [if_neg (by decide +kernel)]; exact ⟨rfl, rfl⟩))
    (fun os started H enc _ => back_lifted os started H enc)

theorem back_holds : Rows.RatioBackCardSaid :=
  Claim7.holds_tied_plain_at .later [] [.data, .data, .data] true Rows.ratioBackCard.stood.harness false
    back_row (fun _ h => by cases h) (by kernel_rfl) (fun _ h => by cases h) ratioBack_row_tie rfl ⟨rfl, rfl⟩ (by kernel_rfl) rfl
    (fun f fn hf hfn => by
      obtain rfl : f = 8 := Option.some.inj ((show Tryd.prog.funcNamed Rows.ratioBackRow.func = some 8 by kernel_rfl).symm.trans hf) |>.symm
      obtain rfl : fn = Tryd.f8 := (Option.some.inj (Tryd.func8.symm.trans hfn)).symm
      exact ⟨by kernel_rfl, fun j t ht => by
        rw [Tryd.params8] at ht
        rcases j with _ | _ | j
        · obtain rfl : t = 23 := by simpa using ht.symm
          exact (show Tryd.prog.wantsStandIn 23 = false by kernel_rfl)
        · obtain rfl : t = 47 := by simpa using ht.symm
          exact (show Tryd.prog.wantsStandIn 47 = false by kernel_rfl)
        · simp at ht⟩)
    (by kernel_rfl)
#print axioms back_holds
end Go.Proofs.YtpkcmjiokdpegaaDoor
