/- ValueTexts returns true for all values, strings and numbers. Condition: the library's tables are laid. -/
import Derived.ChangeMaps5
import Derived.Test.YtjgampkpfjbmdaaDoorTexE
import Derived.Test.YtjgampkpfjbmdaaDoorPack21
import Derived.Test.YtjgampkpfjbmdaaDoorPack22
namespace Go.Proofs.YtjgampkpfjbmdaaDoor
open Go.RowKit Go.Rel
set_option maxRecDepth 100000
theorem nv_fit (n d : Int) : fitT (nvT n d) 10 = true := by
  unfold nvT
  split
  · unfold tNum; rw [fitT_succ]; rfl
  · decide
set_option maxHeartbeats 16000000 in
theorem texts_walk (T : Tree) (x : Val) (s : ByteArray) (n d : Int) (w : World) (hT : RdB w w.heap.size T x) (hn : -9223372036854775808 ≤ n ∧ n ≤ 9223372036854775807) (hd : -9223372036854775808 ≤ d ∧ d ≤ 9223372036854775807) (ht : Tab w) :
    Calls Tryd.prog 5 #[x.v, .string s, .int .i64 n, .int .i64 d] w (Ret w (.bool true)) := by
  have HB := Lib.hid (box_val w 26 x)
  have HR := Lib.hid (show _ ∧ _ from ⟨hT, ht⟩)
  have hN1 := fun W => numberV_any n d W hn.1 hn.2 hd.1 hd.2
  have hN2 := fun W => refNumberV_any n d W hn.1 hn.2 hd.1 hd.2
  have hN3 := fun W => (nv_fresh n d W W.heap.size 26).rd
  have hN4 := fun W h => refSame_any 10 (nvT n d) (nvT n d) (nvV n d) (nvV n d) W (nv_fit n d) h h
  rw [sameB_self] at hN4
  obtain ⟨NE, hNE⟩ : ∃ NE, makeE n d = NE := ⟨_, rfl⟩
  rw [hNE] at hN1 hN2
  generalize nvT n d = NT at hN3 hN4
  generalize nvV n d = NV at hN1 hN2 hN3 hN4
  have HN := Lib.hid (show _ ∧ _ ∧ _ from ⟨hN1, hN2, fun W => hN4 W (hN3 W)⟩)
  clear hT ht hn hd hN1 hN2 hN3 hN4 hNE
  obtain ⟨k, q, t, sx, A, len, cap⟩ := x
  obtain ⟨hb, hx⟩ := HB.out
  go_enter Tryd.func5, Tryd.ntmps5
  obtain ⟨c0, c1, c2, c3, c4, c5⟩ := hx.val
  go_wp2_with fail
  clear c0 c1 c2 c3 c4 c5
  generalize w.alloc _ = w1 at hb hx ⊢
  refine (refGreat_any T _ _ (HR.out.1.in_ hb hb.size)).mono ?_
  rintro e w2 ⟨rfl, hb2⟩
  replace hx := hx.keep hb2
  replace hb := hb.trans (hb2.mono hb.size)
  clear hb2 HB
  cases hg : greatT T with
  | true =>
    clear hg hx
    go_wp2_with fail
    go_ret
    exact ⟨rfl, hb⟩
  | false =>
  have hfit := great_fit3 hg
  have r1 := fun W h h' => textV_any T ⟨k, q, t, sx, A, len, cap⟩ W hfit h h'
  have r2 := fun W h => refTextV_any T ⟨k, q, t, sx, A, len, cap⟩ W hfit h
  generalize textVS T = S at r1 r2
  generalize textVE T = E at r1 r2
  have HT := Lib.hid (show _ ∧ _ from ⟨r1, r2⟩)
  have hSS : (S.toList == S.toList) = true := by simp
  clear hg hfit r1 r2
  by_cases h5 : s.size ≤ 5000
  case neg =>
    have h6 : (5000 : Int) < s.size := by omega
    clear hx
    go_wp2_with fail
    go_ret
    exact ⟨rfl, hb⟩
  have h6 : ¬ (5000 : Int) < s.size := by omega
  have p1 := fun W h => parseV_any s W (by omega) h
  have p2 := fun W => refParseV_any s W (by omega)
  have p3 := fun y z W h h' => refSame_any 10 (parseVT s.data.toList) (parseVT s.data.toList) y z W (parse_fit s.data.toList) h h'
  rw [sameB_self] at p3
  generalize parseVT s.data.toList = PT at p1 p2 p3
  generalize parseVE s.data.toList = PE at p1 p2
  have HP := Lib.hid (show _ ∧ _ ∧ _ from ⟨p1, p2, p3⟩)
  clear p1 p2 p3
  obtain ⟨c0, c1, c2, c3, c4, c5⟩ := hx.val
  go_wp2_with fail
  clear c0 c1 c2 c3 c4 c5
  refine (HT.out.1 _ (HR.out.1.in_ hb hb.size) (HR.out.2.keep hb)).mono ?_
  rintro e w3 ⟨rfl, hb2⟩
  replace hx := hx.keep hb2
  replace hb := hb.trans (hb2.mono hb.size)
  clear hb2
  obtain ⟨c0, c1, c2, c3, c4, c5⟩ := hx.val
  go_wp2_with fail
  clear c0 c1 c2 c3 c4 c5
  refine (HT.out.2 _ (HR.out.1.in_ hb hb.size)).mono ?_
  rintro e w4 ⟨rfl, hb2⟩
  replace hb := hb.trans (hb2.mono hb.size)
  clear hb2 hx HT
  go_wp2_with fail
  refine (HP.out.1 _ (HR.out.2.keep hb)).mono ?_
  rintro e w5 ⟨⟨k1, ⟨n1, m1⟩, t1, s1, A1, l1, cap1⟩, rfl, hf1, hb2⟩
  replace hb := hb.trans (hb2.mono hb.size)
  have hba := below_alloc w5 (.cells (Val.box ⟨k1, ⟨n1, m1⟩, t1, s1, A1, l1, cap1⟩) 26)
  have hy1 := Blk.new w5 26 (Val.box ⟨k1, ⟨n1, m1⟩, t1, s1, A1, l1, cap1⟩)
  have HA := Lib.hid (show _ ∧ _ ∧ _ from ⟨hb.trans (hba.mono hb.size), hy1, (hf1.below hba).rd⟩)
  clear hb hb2 hf1 hba hy1
  go_wp2_with fail
  generalize w5.alloc _ = W5 at HA ⊢
  generalize w5.heap.size = g1 at HA ⊢
  refine (HP.out.2.1 _).mono ?_
  rintro e w6 ⟨⟨k2, ⟨n2, m2⟩, t2, s2, A2, l2, cap2⟩, rfl, hf2, hb2⟩
  have hb := HA.out.1.trans (hb2.mono HA.out.1.size)
  have hba := below_alloc w6 (.cells (Val.box ⟨k2, ⟨n2, m2⟩, t2, s2, A2, l2, cap2⟩) 26)
  have hy2 := Blk.new w6 26 (Val.box ⟨k2, ⟨n2, m2⟩, t2, s2, A2, l2, cap2⟩)
  have hs1 := HA.out.2.1.lt
  have HA2 := Lib.hid (show _ ∧ _ ∧ _ ∧ _ ∧ _ from ⟨hb.trans (hba.mono hb.size), (HA.out.2.1.keep hb2).keep hba, (HA.out.2.2.below hb2 hb2.size).below hba hba.size, hy2, (hf2.below hba).rd⟩)
  clear hb hb2 hf2 hba hy2 HA
  go_wp2_with fail
  generalize w6.alloc _ = W6 at HA2 ⊢
  generalize w6.heap.size = g2 at HA2 ⊢
  refine (HN.out.1 _).mono ?_
  rintro e w7 ⟨rfl, hb2⟩
  obtain ⟨k3, ⟨n3, m3⟩, t3, s3, A3, l3, cap3⟩ := NV
  have hb := HA2.out.1.trans (hb2.mono HA2.out.1.size)
  have hba := below_alloc w7 (.cells (Val.box ⟨k3, ⟨n3, m3⟩, t3, s3, A3, l3, cap3⟩) 26)
  have hy3 := Blk.new w7 26 (Val.box ⟨k3, ⟨n3, m3⟩, t3, s3, A3, l3, cap3⟩)
  have HA3 := Lib.hid (show _ ∧ _ ∧ _ ∧ _ ∧ _ ∧ _ from ⟨hb.trans (hba.mono hb.size), (HA2.out.2.1.keep hb2).keep hba, (HA2.out.2.2.1.below hb2 hb2.size).below hba hba.size, (HA2.out.2.2.2.1.keep hb2).keep hba, (HA2.out.2.2.2.2.below hb2 hb2.size).below hba hba.size, hy3⟩)
  clear hb hb2 hba hy3 HA2
  go_wp2_with fail
  generalize w7.alloc _ = W7 at HA3 ⊢
  generalize w7.heap.size = g3 at HA3 ⊢
  refine (HN.out.2.1 _).mono ?_
  rintro e w8 ⟨rfl, hb2⟩
  have hb := HA3.out.1.trans (hb2.mono HA3.out.1.size)
  have hba := below_alloc w8 (.cells (Val.box ⟨k3, ⟨n3, m3⟩, t3, s3, A3, l3, cap3⟩) 26)
  have hy4 := Blk.new w8 26 (Val.box ⟨k3, ⟨n3, m3⟩, t3, s3, A3, l3, cap3⟩)
  have z1 := HA3.out.2.1.keep hb2
  have z2 := HA3.out.2.2.2.1.keep hb2
  have z3 := HA3.out.2.2.2.2.2.keep hb2
  have lt1 := z1.lt
  have lt2 := z2.lt
  have lt3 := z3.lt
  obtain ⟨a0, a1, a2, a3, a4, a5⟩ := z1.val
  obtain ⟨b0, b1, b2, b3, b4, b5⟩ := z2.val
  have HA4 := Lib.hid (show _ ∧ _ ∧ _ ∧ _ ∧ _ from ⟨hb.trans (hba.mono hb.size), (HA3.out.2.2.1.below hb2 hb2.size).below hba hba.size, (HA3.out.2.2.2.2.1.below hb2 hb2.size).below hba hba.size, z3.keep hba, hy4⟩)
  clear hb hb2 hba hy4 z1 z2 z3 HA3
  go_wp2_with fail
  generalize w8.alloc _ = W8 at HA4 ⊢
  generalize w8.heap.size = g4 at HA4 ⊢
  clear a0 a1 a2 a3 a4 a5 b0 b1 b2 b3 b4 b5
  refine (HP.out.2.2 _ _ _ HA4.out.2.1 HA4.out.2.2.1).mono ?_
  rintro e w9 ⟨rfl, hb2⟩
  have hb := HA4.out.1.trans (hb2.mono HA4.out.1.size)
  obtain ⟨a0, a1, a2, a3, a4, a5⟩ := (HA4.out.2.2.2.1.keep hb2).val
  obtain ⟨b0, b1, b2, b3, b4, b5⟩ := (HA4.out.2.2.2.2.keep hb2).val
  have HA5 := Lib.hid hb
  clear hb hb2 HA4
  go_wp2_with fail
  refine (HN.out.2.2 _).mono ?_
  rintro e w10 ⟨rfl, hb2⟩
  have HA6 := Lib.hid (HA5.out.trans (hb2.mono HA5.out.size))
  clear hb2 HA5 a0 a1 a2 a3 a4 a5 b0 b1 b2 b3 b4 b5
  go_wp2_with fail
  go_ret
  exact ⟨rfl, HA6.out⟩
open Go.ChangeShapes Go.WideShapes Go.ChangeAt Go.Joins Go.ChangeMaps
set_option maxRecDepth 100000 in
theorem texts_lifted (os : Os) (started : os.Started) (H : Type) (enc : TypeId × Value → H) :
    ReturnsInHanded {} Tryd.checked os 5 .any (fun w args => (Rows.valueTextsSpec.pre enc Tryd.prog Tryd.f5 [] false w args ∧ laidMetH Tryd.prog Rows.valueTextsRow.laid w) ∧ sizedMet enc Tryd.prog Tryd.f5 (OpenSpec.ofChange Rows.valueTextsSpec) false w args)
      (Rows.valueTextsSpec.post enc Tryd.prog Tryd.f5 false true false false) := by
  refine returnsInHanded_of_change_and (C := Tryd.checked) (X := fun w _ => laidMetH Tryd.prog Rows.valueTextsRow.laid w) (fun _ _ _ hh h => h.of_heap hh) own started (by kernel_rfl) Tryd.func5
    (ChangeSpec.witness_at (enc := enc) (C := Tryd.checked) (os := os) (X := fun w _ => laidMetH Tryd.prog Rows.valueTextsRow.laid w) false (laidWorld os) #[.agg #[.int .u8 0, .int .i64 0, .int .i64 0, .bool false, .string ⟨#[]⟩, .slice none 0 0], .string ⟨#[]⟩, .int .i64 0, .int .i64 0] 8 rfl (by kernel_rfl) (by kernel_rfl) (by kernel_rfl) (by kernel_rfl) (by kernel_rfl) (laid_met os _)) ?_
  intro W base args ds gs before hval0 hW _ _ hLd _
  have hval : ∀ (j : Nat) t v, Tryd.f5.params[j]? = some t → args[j]? = some v → Value.okWide Tryd.prog W .any base t v := hval0
  have hW' := hW
  obtain ⟨p, q, hA0, hV, rfl, hfz, hnd⟩ := hW
  have hA : DataW.TrodAll enc Tryd.prog W 0 (fun _ => true) true Tryd.f5.params.toList args.toList ds p := hA0
  rw [Tryd.params5] at hA hval
  obtain ⟨v0, vs0, d0, ds0, p0, q0, hargs, rfl, rfl, h0, r0⟩ := trodAll_cons hA
  obtain ⟨v1, vs1, d1, ds1, p1, q1, rfl, rfl, rfl, h1, r1⟩ := trodAll_cons r0
  obtain ⟨v2, vs2, d2, ds2, p2, q2, rfl, rfl, rfl, h2, r2⟩ := trodAll_cons r1
  obtain ⟨v3, vs3, d3, ds3, p3, q3, rfl, rfl, rfl, h3, r3⟩ := trodAll_cons r2
  obtain ⟨rfl, rfl, rfl⟩ := trodAll_nil r3
  obtain rfl : args = #[v0, v1, v2, v3] := by cases args; simp_all
  obtain ⟨rfl, rfl⟩ := trodVars_none hV
  obtain ⟨x0, T0, rfl, hT0⟩ := open_val (hval 0 26 v0 rfl rfl) h0
  obtain ⟨s1, rfl, rfl, rfl, hs1⟩ := open_string Tryd.underlying9 (hval 1 9 v1 rfl rfl) h1
  obtain ⟨k2, rfl, -, -, hk2⟩ := open_int Tryd.underlying2 (hval 2 2 v2 rfl rfl) h2
  have hw2 := wf_i64 hk2
  obtain ⟨k3, rfl, -, -, hk3⟩ := open_int Tryd.underlying2 (hval 3 2 v3 rfl rfl) h3
  have hw3 := wf_i64 hk3
  refine (texts_walk T0 x0 s1 k2 k3 W hT0 hw2 hw3 (tab_of_laid hLd)).mono fun e W' ⟨he, hb⟩ => ?_
  exact ⟨_, he, law_post laidOut hW' rfl (by kernel_rfl) rfl Tryd.underlying4 rfl rfl rfl hb⟩

theorem texts_row : Rows.ValueTextsSaid :=
  OpenClaim.holds_of_wide 5 Tryd.f5 rfl rfl rfl rfl rfl rfl rfl ⟨rfl, rfl, rfl, rfl, rfl⟩ rfl rfl rfl rfl rfl (by kernel_rfl) Tryd.func5 (by kernel_rfl)
    (of_decide_eq_true (by kernel_rfl)) (by unfold Func.isWrapper; first | (rw [if_pos (by decide +kernel)]; kernel_rfl) | (rw [if_neg (by decide +kernel)]; exact ⟨rfl, rfl⟩))
    (fun os started H enc _ => texts_lifted os started H enc)

theorem texts_holds : Rows.ValueTextsCardSaid :=
  Claim7.holds_tied_plain_at .later [] [.data, .data, .data] true Rows.valueTextsCard.stood.harness false
    texts_row (fun _ h => by cases h) (by kernel_rfl) (fun _ h => by cases h) valueTexts_row_tie rfl ⟨rfl, rfl⟩ (by kernel_rfl) rfl
    (fun f fn hf hfn => by
      obtain rfl : f = 5 := Option.some.inj ((show Tryd.prog.funcNamed Rows.valueTextsRow.func = some 5 by kernel_rfl).symm.trans hf) |>.symm
      obtain rfl : fn = Tryd.f5 := (Option.some.inj (Tryd.func5.symm.trans hfn)).symm
      exact ⟨by kernel_rfl, fun j t ht => by
        rw [Tryd.params5] at ht
        rcases j with _ | _ | _ | _ | j
        · obtain rfl : t = 26 := by simpa using ht.symm
          exact (show Tryd.prog.wantsStandIn 26 = false by kernel_rfl)
        · obtain rfl : t = 9 := by simpa using ht.symm
          exact (show Tryd.prog.wantsStandIn 9 = false by kernel_rfl)
        · obtain rfl : t = 2 := by simpa using ht.symm
          exact (show Tryd.prog.wantsStandIn 2 = false by kernel_rfl)
        · obtain rfl : t = 2 := by simpa using ht.symm
          exact (show Tryd.prog.wantsStandIn 2 = false by kernel_rfl)
        · simp at ht⟩)
    (by kernel_rfl)
#print axioms texts_holds
end Go.Proofs.YtjgampkpfjbmdaaDoor
