/- The law 'RatioTexts': whatever numbers, ratio and string come in, it returns true. Condition: the library's three tables are laid. -/
import Derived.ChangeMaps5
import Derived.Test.YtpkcmjiokdpegaaDoorRatCard
import Derived.Test.YtpkcmjiokdpegaaDoorRatFit
import Derived.Test.YtpkcmjiokdpegaaDoorRatP
namespace Go.Proofs.YtpkcmjiokdpegaaDoor
open Go.RowKit Go.Rel

set_option maxRecDepth 100000 in
set_option maxHeartbeats 16000000 in
theorem rtexts_walk (n d : Int) (a : Rat2) (s : ByteArray) (w : World) (ht : Tab w) (n1 : -9223372036854775808 ≤ n) (n2 : n ≤ 9223372036854775807) (d1 : -9223372036854775808 ≤ d) (d2 : d ≤ 9223372036854775807) (ha : Rat64 a) :
    Calls Tryd.prog 7 #[.int .i64 n, .int .i64 d, a.v, .string s] w (Ret w (.bool true)) := by
  have c1 := fun W => make_any n d W n1 n2 d1 d2
  have c2 := fun W => refMake_any n d W n1 n2 d1 d2
  have c3 := fun W ht => text_any a W ha ht
  have c4 := fun W => refText_any a W ha
  have hb := below_alloc w (.cells #[.int .i64 a.n, .int .i64 a.d] 23)
  have qa := Blk.new w 23 #[.int .i64 a.n, .int .i64 a.d]
  replace ht := ht.keep hb
  by_cases hs : s.size ≤ 200
  · have c5 := fun W ht => parse_any s W (by omega) ht
    have c6 := fun W => refParse_any s W (by omega)
    generalize makeR n d = m at *
    generalize makeE n d = me at *
    generalize textS a = tx at *
    generalize ratE a = te at *
    generalize parseR s.data.toList = p at *
    generalize parseE s.data.toList = pe at *
    obtain ⟨m1, m2⟩ := m
    obtain ⟨p1, p2⟩ := p
    obtain ⟨an, ad⟩ := a
    simp only at hb qa ht
    have Q1 := Lib.hid c1
    have Q2 := Lib.hid c2
    have Q3 := Lib.hid c3
    have Q4 := Lib.hid c4
    have Q5 := Lib.hid c5
    have Q6 := Lib.hid c6
    have HT := Lib.hid ht
    clear c1 c2 c3 c4 c5 c6 ht ha n1 n2 d1 d2
    have hsz : ¬ 200 < s.size := by omega
    go_enter Tryd.func7, Tryd.ntmps7
    go_wp2_with fail
    have ht := HT.out
    clear HT
    generalize World.alloc _ _ = w0 at hb qa ht ⊢
    refine (Q1.out _).mono ?_
    rintro e w1 ⟨rfl, hx⟩
    replace ht := ht.keep hx
    replace qa := qa.keep hx
    replace hb := hb.trans (hx.mono hb.size)
    clear hx
    have hx := below_alloc w1 (.cells #[.int .i64 m1, .int .i64 m2] 23)
    have kb := Blk.new w1 23 #[.int .i64 m1, .int .i64 m2]
    replace ht := ht.keep hx
    replace qa := qa.keep hx
    replace hb := hb.trans (hx.mono hb.size)
    clear hx
    go_wp2_with fail
    generalize w1.heap.size = g2 at kb ⊢
    generalize World.alloc w1 _ = w2 at qa kb hb ht ⊢
    refine (Q2.out _).mono ?_
    rintro e w3 ⟨rfl, hx⟩
    replace ht := ht.keep hx
    replace qa := qa.keep hx
    replace kb := kb.keep hx
    replace hb := hb.trans (hx.mono hb.size)
    clear hx
    have hx := below_alloc w3 (.cells #[.int .i64 m1, .int .i64 m2] 23)
    have kc := Blk.new w3 23 #[.int .i64 m1, .int .i64 m2]
    replace ht := ht.keep hx
    replace qa := qa.keep hx
    replace kb := kb.keep hx
    replace hb := hb.trans (hx.mono hb.size)
    clear hx
    have cqa0 := qa.cell (i := 0) rfl
    have cqa1 := qa.cell (i := 1) rfl
    go_wp2_with fail
    clear cqa0 cqa1
    generalize w3.heap.size = g4 at kc ⊢
    generalize World.alloc w3 _ = w4 at qa kb kc hb ht ⊢
    refine (Q3.out _ ht).mono ?_
    rintro e w5 ⟨rfl, hx⟩
    replace ht := ht.keep hx
    replace qa := qa.keep hx
    replace kb := kb.keep hx
    replace kc := kc.keep hx
    replace hb := hb.trans (hx.mono hb.size)
    clear hx
    have cqa0 := qa.cell (i := 0) rfl
    have cqa1 := qa.cell (i := 1) rfl
    go_wp2_with fail
    clear cqa0 cqa1
    refine (Q4.out _).mono ?_
    rintro e w6 ⟨rfl, hx⟩
    replace ht := ht.keep hx
    replace qa := qa.keep hx
    replace kb := kb.keep hx
    replace kc := kc.keep hx
    replace hb := hb.trans (hx.mono hb.size)
    clear hx
    go_wp2_with fail
    refine (Q5.out _ ht).mono ?_
    rintro e w7 ⟨rfl, hx⟩
    replace ht := ht.keep hx
    replace qa := qa.keep hx
    replace kb := kb.keep hx
    replace kc := kc.keep hx
    replace hb := hb.trans (hx.mono hb.size)
    clear hx
    have hx := below_alloc w7 (.cells #[.int .i64 p1, .int .i64 p2] 23)
    have kp := Blk.new w7 23 #[.int .i64 p1, .int .i64 p2]
    replace ht := ht.keep hx
    replace qa := qa.keep hx
    replace kb := kb.keep hx
    replace kc := kc.keep hx
    replace hb := hb.trans (hx.mono hb.size)
    clear hx
    go_wp2_with fail
    generalize w7.heap.size = g8 at kp ⊢
    generalize World.alloc w7 _ = w8 at qa kb kc kp hb ht ⊢
    refine (Q6.out _).mono ?_
    rintro e w9 ⟨rfl, hx⟩
    replace ht := ht.keep hx
    replace qa := qa.keep hx
    replace kb := kb.keep hx
    replace kc := kc.keep hx
    replace kp := kp.keep hx
    replace hb := hb.trans (hx.mono hb.size)
    clear hx
    have hm31 := Tryd.eqGuardRat
    have hvn := ratNeq
    have hve := ratEql
    have hself := ratB_self
    have hx := below_alloc w9 (.cells #[.int .i64 p1, .int .i64 p2] 23)
    replace hb := hb.trans (hx.mono hb.size)
    clear hx ht
    have cqa0 := qa.cell (i := 0) rfl
    have cqa1 := qa.cell (i := 1) rfl
    have lqa := qa.lt
    have ckb0 := kb.cell (i := 0) rfl
    have ckb1 := kb.cell (i := 1) rfl
    have lkb := kb.lt
    have ckc0 := kc.cell (i := 0) rfl
    have ckc1 := kc.cell (i := 1) rfl
    have lkc := kc.lt
    have ckp0 := kp.cell (i := 0) rfl
    have ckp1 := kp.cell (i := 1) rfl
    have lkp := kp.lt
    clear qa kb kc kp
    go_wp2_with fail
    go_ret
    exact ret_bool rfl hb
  · have hsz : 200 < s.size := by omega
    clear c1 c2 c3 c4 ht ha n1 n2 d1 d2
    obtain ⟨an, ad⟩ := a
    go_enter Tryd.func7, Tryd.ntmps7
    go_wp2_with fail
    go_ret
    exact ret_bool rfl hb
theorem rt_i64 {x : Int} (h : (Lit.int .i64 x).wf = true) : -9223372036854775808 ≤ x ∧ x ≤ 9223372036854775807 := by
  simp [Lit.wf, IntKind.min, IntKind.max, IntKind.signed, IntKind.bits] at h
  omega

open Go.ChangeShapes Go.WideShapes Go.ChangeAt Go.Joins Go.ChangeMaps
theorem rtexts_rat {H : Type} {enc : TypeId × Value → H} {W : World} {r : Reach} {b0 : Nat} {v : Value} {d : DataW H} {p : List MemPlace} (hv : Value.okWide Tryd.prog W r b0 23 v) (h : DataW.Trod enc Tryd.prog W 0 (fun _ => true) true 23 v d p) :
    ∃ a : Rat2, v = a.v ∧ Rat64 a := by
  obtain ⟨c0, c1, y0, y1, m, rfl, -, -, h0, h1⟩ := open_agg2 Tryd.underlying23 (by kernel_rfl) Tryd.cellsRat hv h
  obtain ⟨n, rfl, w0⟩ := cell_int Tryd.underlying2 h0
  obtain ⟨d, rfl, w1⟩ := cell_int Tryd.underlying2 h1
  exact ⟨⟨n, d⟩, rfl, wf_64 (v := ⟨n, d⟩) w0 w1⟩

set_option maxRecDepth 100000 in
theorem rtexts_lifted (os : Os) (started : os.Started) (H : Type) (enc : TypeId × Value → H) :
    ReturnsInHanded {} Tryd.checked os 7 .any (fun w args => (Rows.ratioTextsSpec.pre enc Tryd.prog Tryd.f7 [] false w args ∧ laidMetH Tryd.prog Rows.ratioTextsRow.laid w) ∧ sizedMet enc Tryd.prog Tryd.f7 (OpenSpec.ofChange Rows.ratioTextsSpec) false w args)
      (Rows.ratioTextsSpec.post enc Tryd.prog Tryd.f7 false true false false) := by
  refine returnsInHanded_of_change_and (C := Tryd.checked) (X := fun w _ => laidMetH Tryd.prog Rows.ratioTextsRow.laid w) (fun _ _ _ hh h => h.of_heap hh) own started (by kernel_rfl) Tryd.func7
    (ChangeSpec.witness_at (enc := enc) (C := Tryd.checked) (os := os) (X := fun w _ => laidMetH Tryd.prog Rows.ratioTextsRow.laid w) false (laidWorld os) #[.int .i64 0, .int .i64 0, .agg #[.int .i64 0, .int .i64 0], .string ⟨#[]⟩] 8 rfl (by kernel_rfl) (by kernel_rfl) (by kernel_rfl) (by kernel_rfl) (by kernel_rfl) (laid_met os _)) ?_
  intro W base args ds gs before hval0 hW _ _ hLd _
  have hval : ∀ (j : Nat) t v, Tryd.f7.params[j]? = some t → args[j]? = some v → Value.okWide Tryd.prog W .any base t v := hval0
  have hW' := hW
  obtain ⟨p, q, hA0, hV, rfl, hfz, hnd⟩ := hW
  have hA : DataW.TrodAll enc Tryd.prog W 0 (fun _ => true) true Tryd.f7.params.toList args.toList ds p := hA0
  rw [Tryd.params7] at hA hval
  obtain ⟨v0, vs0, d0, ds0, p0, q0, hargs, rfl, rfl, h0, r0⟩ := trodAll_cons hA
  obtain ⟨v1, vs1, d1, ds1, p1, q1, rfl, rfl, rfl, h1, r1⟩ := trodAll_cons r0
  obtain ⟨v2, vs2, d2, ds2, p2, q2, rfl, rfl, rfl, h2, r2⟩ := trodAll_cons r1
  obtain ⟨v3, vs3, d3, ds3, p3, q3, rfl, rfl, rfl, h3, r3⟩ := trodAll_cons r2
  obtain ⟨rfl, rfl, rfl⟩ := trodAll_nil r3
  obtain rfl : args = #[v0, v1, v2, v3] := by cases args; simp_all
  obtain ⟨rfl, rfl⟩ := trodVars_none hV
  obtain ⟨n, rfl, -, -, hk0⟩ := open_int Tryd.underlying2 (hval 0 2 v0 rfl rfl) h0
  obtain ⟨d, rfl, -, -, hk1⟩ := open_int Tryd.underlying2 (hval 1 2 v1 rfl rfl) h1
  obtain ⟨a, rfl, ha⟩ := rtexts_rat (hval 2 23 v2 rfl rfl) h2
  obtain ⟨s, rfl, rfl, rfl, hs⟩ := open_string Tryd.underlying9 (hval 3 9 v3 rfl rfl) h3
  refine (rtexts_walk n d a s W (tab_of_laid hLd) (rt_i64 hk0).1 (rt_i64 hk0).2 (rt_i64 hk1).1 (rt_i64 hk1).2 ha).mono fun e W' ⟨he, hb⟩ => ?_
  exact ⟨_, he, law_post laidOut hW' rfl (by kernel_rfl) rfl Tryd.underlying4 rfl rfl rfl hb⟩

theorem rtexts_row : Rows.RatioTextsSaid :=
  OpenClaim.holds_of_wide 7 Tryd.f7 rfl rfl rfl rfl rfl rfl rfl ⟨rfl, rfl, rfl, rfl, rfl⟩ rfl rfl rfl rfl rfl (by kernel_rfl) Tryd.func7 (by kernel_rfl)
    (of_decide_eq_true (by kernel_rfl)) (by unfold Func.isWrapper; first | (rw [if_pos (by decide +kernel)]; kernel_rfl) | (rw [if_neg (by decide +kernel)]; exact ⟨rfl, rfl⟩))
    (fun os started H enc _ => rtexts_lifted os started H enc)

theorem rtexts_holds : Rows.RatioTextsCardSaid :=
  Claim7.holds_tied_plain_at .later [] [.data, .data, .data] true Rows.ratioTextsCard.stood.harness false
    rtexts_row (fun _ h => by cases h) (by kernel_rfl) (fun _ h => by cases h) ratioTexts_row_tie rfl ⟨rfl, rfl⟩ (by kernel_rfl) rfl
    (fun f fn hf hfn => by
      obtain rfl : f = 7 := Option.some.inj ((show Tryd.prog.funcNamed Rows.ratioTextsRow.func = some 7 by kernel_rfl).symm.trans hf) |>.symm
      obtain rfl : fn = Tryd.f7 := (Option.some.inj (Tryd.func7.symm.trans hfn)).symm
      exact ⟨by kernel_rfl, fun j t ht => by
        rw [Tryd.params7] at ht
        rcases j with _ | _ | _ | _ | j
        · obtain rfl : t = 2 := by simpa using ht.symm
          exact (show Tryd.prog.wantsStandIn 2 = false by kernel_rfl)
        · obtain rfl : t = 2 := by simpa using ht.symm
          exact (show Tryd.prog.wantsStandIn 2 = false by kernel_rfl)
        · obtain rfl : t = 23 := by simpa using ht.symm
          exact (show Tryd.prog.wantsStandIn 23 = false by kernel_rfl)
        · obtain rfl : t = 9 := by simpa using ht.symm
          exact (show Tryd.prog.wantsStandIn 9 = false by kernel_rfl)
        · simp at ht⟩)
    (by kernel_rfl)
#print axioms rtexts_holds
end Go.Proofs.YtpkcmjiokdpegaaDoor
