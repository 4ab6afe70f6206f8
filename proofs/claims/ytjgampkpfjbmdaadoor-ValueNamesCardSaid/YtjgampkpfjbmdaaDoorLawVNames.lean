/- ValueNames returns true. Condition: the library's tables are laid. -/
import Derived.Test.YtjgampkpfjbmdaaDoorVNamesA
import Derived.Test.YtjgampkpfjbmdaaDoorPack22
namespace Go.Proofs.YtjgampkpfjbmdaaDoor
open Go.RowKit Go.Rel
set_option maxRecDepth 100000
set_option maxHeartbeats 32000000 in
theorem vnames_walk (w : World) (ht : Tab w) : Calls Tryd.prog 8 #[] w (Ret w (.bool true)) := by
  have HT := Lib.hid ht
  clear ht
  have hb := Below.refl w.heap.size w
  go_enter Tryd.func8, Tryd.ntmps8
  go_wp2_with fail
  refine (refused_any ⟨#[91, 49, 44, 50, 93]⟩ w (by decide) (HT.out.keep hb) form1).mono ?_
  rintro e w1 ⟨rfl, hx⟩
  replace hb := hb.trans (hx.mono hb.size)
  clear hx
  go_wp2_with fail
  refine (refused_any ⟨#[48, 49]⟩ w1 (by decide) (HT.out.keep hb) form2).mono ?_
  rintro e w2 ⟨rfl, hx⟩
  replace hb := hb.trans (hx.mono hb.size)
  clear hx
  go_wp2_with fail
  refine (refused_any ⟨#[34, 97]⟩ w2 (by decide) (HT.out.keep hb) form3).mono ?_
  rintro e w3 ⟨rfl, hx⟩
  replace hb := hb.trans (hx.mono hb.size)
  clear hx
  go_wp2_with fail
  refine (refused_any ⟨#[]⟩ w3 (by decide) (HT.out.keep hb) form4).mono ?_
  rintro e w4 ⟨rfl, hx⟩
  replace hb := hb.trans (hx.mono hb.size)
  clear hx
  go_wp2_with fail
  refine (refused_any ⟨#[84, 114, 117, 101]⟩ w4 (by decide) (HT.out.keep hb) form5).mono ?_
  rintro e w5 ⟨rfl, hx⟩
  replace hb := hb.trans (hx.mono hb.size)
  clear hx
  go_wp2_with fail
  refine (refused_any ⟨#[91, 49, 44, 32, 93]⟩ w5 (by decide) (HT.out.keep hb) form6).mono ?_
  rintro e w6 ⟨rfl, hx⟩
  replace hb := hb.trans (hx.mono hb.size)
  clear hx
  go_wp2_with fail
  refine (refused_any ⟨#[91, 32, 93]⟩ w6 (by decide) (HT.out.keep hb) form7).mono ?_
  rintro e w7 ⟨rfl, hx⟩
  replace hb := hb.trans (hx.mono hb.size)
  clear hx
  go_wp2_with fail
  refine (refused_any ⟨#[34, 92, 110, 34]⟩ w7 (by decide) (HT.out.keep hb) form8).mono ?_
  rintro e w8 ⟨rfl, hx⟩
  replace hb := hb.trans (hx.mono hb.size)
  clear hx
  go_wp2_with fail
  refine (refused_any ⟨#[34, 92, 34]⟩ w8 (by decide) (HT.out.keep hb) form9).mono ?_
  rintro e w9 ⟨rfl, hx⟩
  replace hb := hb.trans (hx.mono hb.size)
  clear hx
  go_wp2_with fail
  refine (refused_any ⟨#[32, 49]⟩ w9 (by decide) (HT.out.keep hb) form10).mono ?_
  rintro e w10 ⟨rfl, hx⟩
  replace hb := hb.trans (hx.mono hb.size)
  clear hx
  go_wp2_with fail
  refine (refused_any ⟨#[49, 32]⟩ w10 (by decide) (HT.out.keep hb) form11).mono ?_
  rintro e w11 ⟨rfl, hx⟩
  replace hb := hb.trans (hx.mono hb.size)
  clear hx
  go_wp2_with fail
  refine (refused_any ⟨#[91, 91, 91, 91, 91, 91, 91, 93, 93, 93, 93, 93, 93, 93]⟩ w11 (by decide) (HT.out.keep hb) form12).mono ?_
  rintro e w12 ⟨rfl, hx⟩
  replace hb := hb.trans (hx.mono hb.size)
  clear hx
  go_wp2_with fail
  refine (refused_any ⟨#[50, 47, 52]⟩ w12 (by decide) (HT.out.keep hb) form13).mono ?_
  rintro e w13 ⟨rfl, hx⟩
  replace hb := hb.trans (hx.mono hb.size)
  clear hx
  go_wp2_with fail
  refine (refused_any ⟨#[91, 49]⟩ w13 (by decide) (HT.out.keep hb) form14).mono ?_
  rintro e w14 ⟨rfl, hx⟩
  replace hb := hb.trans (hx.mono hb.size)
  clear hx
  go_wp2_with fail
  refine (refused_any ⟨#[110, 105, 108]⟩ w14 (by decide) (HT.out.keep hb) form15).mono ?_
  rintro e w15 ⟨rfl, hx⟩
  replace hb := hb.trans (hx.mono hb.size)
  clear hx
  go_wp2_with fail
  refine (llist_any none 0 0 w15).mono ?_
  rintro e w16 ⟨rfl, hx⟩
  replace hb := hb.trans (hx.mono hb.size)
  clear hx
  go_wp2_with fail
  refine (reads_any ⟨#[91, 93]⟩ (tList []) (listX none 0 0) w16 (by decide) tv1.fit ((fresh_leaf _ 0 0 ok_list).rd) (HT.out.keep hb) tx1.1 tx1.2).mono ?_
  rintro e w17 ⟨rfl, hx⟩
  replace hb := hb.trans (hx.mono hb.size)
  clear hx
  go_wp2_with fail
  refine (nested_any 6 (by decide) (by decide) w17).mono ?_
  rintro e w18 ⟨x6, rfl, hfr, hx⟩
  replace hb := hb.trans (hx.mono hb.size)
  clear hx
  have r6 := hfr.rd
  clear hfr
  go_wp2_with fail
  refine (reads_any ⟨#[91, 91, 91, 91, 91, 91, 93, 93, 93, 93, 93, 93]⟩ (nestT 5) x6 w18 (by decide) tv2.fit (r6) (HT.out.keep hb) tx2.1 tx2.2).mono ?_
  rintro e w19 ⟨rfl, hx⟩
  replace r6 := r6.below hx hx.size
  replace hb := hb.trans (hx.mono hb.size)
  clear hx
  clear r6
  go_wp2_with fail
  refine (lof_any (-7) 3 w19).mono ?_
  rintro e w20 ⟨rfl, hx⟩
  replace hb := hb.trans (hx.mono hb.size)
  clear hx
  go_wp2_with fail
  refine (reads_any ⟨#[45, 55, 47, 51]⟩ (tNum ⟨-7, 3⟩) (numX ⟨-7, 3⟩) w20 (by decide) tv3.fit (rd_num _ ⟨-7, 3⟩ (by decide +kernel)) (HT.out.keep hb) tx3.1 tx3.2).mono ?_
  rintro e w21 ⟨rfl, hx⟩
  replace hb := hb.trans (hx.mono hb.size)
  clear hx
  go_wp2_with fail
  refine (lstr_any ⟨#[]⟩ w21).mono ?_
  rintro e w22 ⟨rfl, hx⟩
  replace hb := hb.trans (hx.mono hb.size)
  clear hx
  go_wp2_with fail
  refine (reads_any ⟨#[34, 34]⟩ (tStr ⟨#[]⟩) (strX ⟨#[]⟩) w22 (by decide) tv4.fit (rd_str _ ⟨#[]⟩ (by decide)) (HT.out.keep hb) tx4.1 tx4.2).mono ?_
  rintro e w23 ⟨rfl, hx⟩
  replace hb := hb.trans (hx.mono hb.size)
  clear hx
  go_wp2_with fail
  refine (lstr_any ⟨#[92]⟩ w23).mono ?_
  rintro e w24 ⟨rfl, hx⟩
  replace hb := hb.trans (hx.mono hb.size)
  clear hx
  go_wp2_with fail
  refine (reads_any ⟨#[34, 92, 92, 34]⟩ (tStr ⟨#[92]⟩) (strX ⟨#[92]⟩) w24 (by decide) tv5.fit (rd_str _ ⟨#[92]⟩ (by decide)) (HT.out.keep hb) tx5.1 tx5.2).mono ?_
  rintro e w25 ⟨rfl, hx⟩
  replace hb := hb.trans (hx.mono hb.size)
  clear hx
  go_wp2_with fail
  refine (lis_any false w25).mono ?_
  rintro e w26 ⟨rfl, hx⟩
  replace hb := hb.trans (hx.mono hb.size)
  clear hx
  go_wp2_with fail
  refine (reads_any ⟨#[102, 97, 108, 115, 101]⟩ (tBool false) (boolX false) w26 (by decide) tv6.fit (rd_bool _ false) (HT.out.keep hb) tx6.1 tx6.2).mono ?_
  rintro e w27 ⟨rfl, hx⟩
  replace hb := hb.trans (hx.mono hb.size)
  clear hx
  obtain ⟨i0, hi0, hz0, hz1, hz2⟩ := info_parts Tryd.infoVal
  have HL := Lib.hid (show _ ∧ _ from ⟨hb, TwR.nil_ w27 w.heap.size 26 many99⟩)
  clear hb
  go_wp2_with fail
  go_loopw [3, 4] (fun sv iv wr => ∃ i : Nat, i ≤ 99 ∧ iv = .int .i64 i ∧ Below w.heap.size w wr ∧ TwR wr w.heap.size 26 many99 sv i) (fun _ iv _ => 99 - (intOf iv).toNat)
  case atStart => exact ⟨0, by decide, rfl, HL.out.1, HL.out.2⟩
  case round =>
    clear HL
    obtain ⟨i, hi, rfl, hb, htw⟩ := hrel
    by_cases hlt : i < 99
    · have hlt2 : (i : Int) < 99 := by omega
      go_wp2_with fail
      refine (lof_any 0 1 _).mono ?_
      rintro e w80 ⟨rfl, hx⟩
      replace htw := htw.below hx
      have hvlt := fun b' hb' => (htw.lt b' hb').2
      replace hb := hb.trans (hx.mono hb.size)
      clear hx
      have hbg := Blk.new w80 26 (Val.box (numX ⟨0, 1⟩))
      have hba := below_alloc w80 (.cells (Val.box (numX ⟨0, 1⟩)) 26)
      have hs81 : (w80.alloc (.cells (Val.box (numX ⟨0, 1⟩)) 26)).heap.size = w80.heap.size + 1 := by simp
      have hw80 := hb.size
      replace htw := htw.below hba
      replace hb := hb.trans (hba.mono hb.size)
      obtain ⟨ys', hyl, hown, hkids⟩ := id htw
      have hu' := fresh_leaf (w80.alloc (.cells (Val.box (numX ⟨0, 1⟩)) 26)) w80.heap.size 26 (ok_num (r := ⟨0, 1⟩) (by unfold Rat64; decide))
      clear hba
      have hyt : many99[i]? = some (.node 1 ⟨0, 1⟩ false ⟨#[]⟩ []) := by unfold many99; rw [List.getElem?_replicate, if_pos hlt]; rfl
      go_wp2_with (at_builtin; go_loud (refine wpList_append_lies _ rfl _ _ 24 rfl w.heap.size 26 i0 noneV.v 6 72 Tryd.underlying24 hi0 hz0 hz1 hz2 rfl (by decide) _ i (ys'.flatMap Val.cells) rfl hown ⟨w80.heap.size, 0, none⟩ 1 1 (Val.cells (numX ⟨0, 1⟩)) rfl rfl (cells_val hbg) (cells_val_one (numX ⟨0, 1⟩)) (by decide) (by unfold maxLen; omega) (by omega) (by rw [World.size_alloc]; omega) _ rfl ?_))
      intro g' cap' w7 hown' hgrow hg' hg7
      have htw7 := TwR.snoc hyl hkids hvlt hw80 hyt hu' hown' hgrow (hg'.elim (fun h => .inl (Eq.symm h)) (fun h => .inr (congrArg some (Eq.trans h hs81.symm))))
      have hb7 := hb.grown hgrow (by rw [hs81]; omega) (fun r hr => (hown.lt r hr).1)
      have HM := Lib.hid (show _ ∧ _ from ⟨hb7, htw7⟩)
      clear htw7 hb7 hown' hgrow hg' hg7 hown hkids hyl hvlt hu' hbg hyt htw hb
      go_wp2_with fail
      go_roundw
      case rel => exact ⟨i + 1, hlt, by go_num, HM.out.1, HM.out.2⟩
      case measure => simp [intOf]; omega
    · obtain rfl : i = 99 := by omega
      obtain ⟨Am, capm, rfl, htn⟩ := htw.done (by rfl) (ok_listX 0 99 (by decide))
      have rm : RdB wr wr.heap.size (tList many99) (listX Am 99 capm) := htn.fresh.rd
      clear htw htn
      have hlt2 : ¬ (99 : Int) < 99 := by decide
      have c9 := fun x y W h h' => addV_any (tList many99) (tList [tNum ⟨0, 1⟩]) x y W (by decide +kernel) (by decide +kernel) h h'
      rw [er1] at c9
      have c10 := fun x y W h h' => addV_any (tStr sixtyS) (tStr ⟨#[48]⟩) x y W (by decide +kernel) (by decide +kernel) h h'
      rw [er2] at c10
      have c11 := fun x y W h h' => addV_any (tBool true) (tBool true) x y W (by decide +kernel) (by decide +kernel) h h'
      rw [er3] at c11
      have c12 := fun x W h => at_any (tNum ⟨1, 1⟩) x (-1) W (by decide) (by decide) (by decide +kernel) h
      rw [er4] at c12
      have c13 := fun x W h => at_any (tList []) x 0 W (by decide) (by decide) (by decide +kernel) h
      rw [er5] at c13
      have c14 := fun x W h => at_any (tStr ⟨#[97, 98, 99]⟩) x 2 W (by decide) (by decide) (by decide +kernel) h
      rw [er6] at c14
      have c15 := fun x W h => len_any (tBool true) x W (by decide +kernel) h
      rw [er7] at c15
      have c16 := fun W => numberV_any 1 0 W (by decide) (by decide) (by decide) (by decide)
      rw [er8] at c16
      have d1 := fun x W h => chk_any (nestT 6) x W (by decide +kernel) h
      rw [ck1] at d1
      have d2 := fun x W h => chk_any (tList many99) x W (by decide +kernel) h
      rw [ck2] at d2
      have d3 := fun x W h => chk_any (tList [tList many99]) x W (by decide +kernel) h
      rw [ck3] at d3
      have d4 := fun x W h => chk_any (.none_) x W (by decide +kernel) h
      rw [ck4] at d4
      have d5 := fun x W h => chk_any (.node 2 ⟨0, 0⟩ false ⟨#[120]⟩ []) x W (by decide +kernel) h
      rw [ck5'] at d5
      have d6 := fun x W h => chk_any (tStr ⟨#[97, 10]⟩) x W (by decide +kernel) h
      rw [ck6] at d6
      have d7 := fun x W h => chk_any (tNum ⟨2, 4⟩) x W (by decide +kernel) h
      rw [ck7] at d7
      have d8 := fun x W h => chk_any (.node 5 ⟨0, 0⟩ false ⟨#[]⟩ []) x W (by decide +kernel) h
      rw [ck8] at d8
      have d9 := fun x W h => chk_any (tList [.none_]) x W (by decide +kernel) h
      rw [ck9] at d9
      have C9 := Lib.hid c9
      clear c9
      have C10 := Lib.hid c10
      clear c10
      have C11 := Lib.hid c11
      clear c11
      have C12 := Lib.hid c12
      clear c12
      have C13 := Lib.hid c13
      clear c13
      have C14 := Lib.hid c14
      clear c14
      have C15 := Lib.hid c15
      clear c15
      have C16 := Lib.hid c16
      clear c16
      have D1 := Lib.hid d1
      clear d1
      have D2 := Lib.hid d2
      clear d2
      have D3 := Lib.hid d3
      clear d3
      have D4 := Lib.hid d4
      clear d4
      have D5 := Lib.hid d5
      clear d5
      have D6 := Lib.hid d6
      clear d6
      have D7 := Lib.hid d7
      clear d7
      have D8 := Lib.hid d8
      clear d8
      have D9 := Lib.hid d9
      clear d9
      go_wp2_with fail
      refine (llist_any Am 99 capm wr).mono ?_
      rintro e w101 ⟨rfl, hx⟩
      replace rm := rm.below hx hx.size
      replace hb := hb.trans (hx.mono hb.size)
      clear hx
      go_wp2_with fail
      refine (lof_any 0 1 w101).mono ?_
      rintro e w102 ⟨rfl, hx⟩
      replace rm := rm.below hx hx.size
      replace hb := hb.trans (hx.mono hb.size)
      clear hx
      go_wp2_with fail
      have hx := below_alloc w102 (.cells (Val.box (numX ⟨0, 1⟩)) 26)
      have g9 := Blk.new w102 26 (Val.box (numX ⟨0, 1⟩))
      replace rm := rm.below hx hx.size
      replace hb := hb.trans (hx.mono hb.size)
      generalize w102.alloc _ = w103 at hb rm g9 ⊢
      clear hx
      refine (llist_any (some ⟨w102.heap.size, 0, none⟩) 1 1 w103).mono ?_
      rintro e w104 ⟨rfl, hx⟩
      replace rm := rm.below hx hx.size
      replace g9 := g9.keep hx
      replace hb := hb.trans (hx.mono hb.size)
      clear hx
      go_wp2_with fail
      refine (C9.out _ _ w104 rm (rd_list1 (x1 := (numX ⟨0, 1⟩)) g9 (rd_num _ ⟨0, 1⟩ (by decide +kernel)))).mono ?_
      rintro e w105 ⟨⟨k9, q9, t9, s9, A9, len9, cap9⟩, rfl, hfr, hx⟩
      replace rm := rm.below hx hx.size
      replace g9 := g9.keep hx
      replace hb := hb.trans (hx.mono hb.size)
      clear hx
      clear hfr
      go_wp2_with fail
      have hx := below_alloc w105 (.cells (Val.box ⟨k9, q9, t9, s9, A9, len9, cap9⟩) 26)
      replace rm := rm.below hx hx.size
      replace g9 := g9.keep hx
      replace hb := hb.trans (hx.mono hb.size)
      generalize w105.alloc _ = w106 at hb rm g9 ⊢
      clear hx
      refine (lstr_any sixtyS w106).mono ?_
      rintro e w107 ⟨rfl, hx⟩
      replace rm := rm.below hx hx.size
      replace g9 := g9.keep hx
      replace hb := hb.trans (hx.mono hb.size)
      clear hx
      go_wp2_with fail
      refine (lstr_any ⟨#[48]⟩ w107).mono ?_
      rintro e w108 ⟨rfl, hx⟩
      replace rm := rm.below hx hx.size
      replace g9 := g9.keep hx
      replace hb := hb.trans (hx.mono hb.size)
      clear hx
      go_wp2_with fail
      refine (C10.out _ _ w108 (rd_str _ sixtyS (by decide)) (rd_str _ ⟨#[48]⟩ (by decide))).mono ?_
      rintro e w109 ⟨⟨k10, q10, t10, s10, A10, len10, cap10⟩, rfl, hfr, hx⟩
      replace rm := rm.below hx hx.size
      replace g9 := g9.keep hx
      replace hb := hb.trans (hx.mono hb.size)
      clear hx
      clear hfr
      go_wp2_with fail
      have hx := below_alloc w109 (.cells (Val.box ⟨k10, q10, t10, s10, A10, len10, cap10⟩) 26)
      replace rm := rm.below hx hx.size
      replace g9 := g9.keep hx
      replace hb := hb.trans (hx.mono hb.size)
      generalize w109.alloc _ = w110 at hb rm g9 ⊢
      clear hx
      refine (lis_any true w110).mono ?_
      rintro e w111 ⟨rfl, hx⟩
      replace rm := rm.below hx hx.size
      replace g9 := g9.keep hx
      replace hb := hb.trans (hx.mono hb.size)
      clear hx
      go_wp2_with fail
      refine (lis_any true w111).mono ?_
      rintro e w112 ⟨rfl, hx⟩
      replace rm := rm.below hx hx.size
      replace g9 := g9.keep hx
      replace hb := hb.trans (hx.mono hb.size)
      clear hx
      go_wp2_with fail
      refine (C11.out _ _ w112 (rd_bool _ true) (rd_bool _ true)).mono ?_
      rintro e w113 ⟨⟨k11, q11, t11, s11, A11, len11, cap11⟩, rfl, hfr, hx⟩
      replace rm := rm.below hx hx.size
      replace g9 := g9.keep hx
      replace hb := hb.trans (hx.mono hb.size)
      clear hx
      clear hfr
      go_wp2_with fail
      have hx := below_alloc w113 (.cells (Val.box ⟨k11, q11, t11, s11, A11, len11, cap11⟩) 26)
      replace rm := rm.below hx hx.size
      replace g9 := g9.keep hx
      replace hb := hb.trans (hx.mono hb.size)
      generalize w113.alloc _ = w114 at hb rm g9 ⊢
      clear hx
      refine (lof_any 1 1 w114).mono ?_
      rintro e w115 ⟨rfl, hx⟩
      replace rm := rm.below hx hx.size
      replace g9 := g9.keep hx
      replace hb := hb.trans (hx.mono hb.size)
      clear hx
      go_wp2_with fail
      refine (C12.out _ w115 (rd_num _ ⟨1, 1⟩ (by decide +kernel))).mono ?_
      rintro e w116 ⟨⟨k12, q12, t12, s12, A12, len12, cap12⟩, rfl, hfr, hx⟩
      replace rm := rm.below hx hx.size
      replace g9 := g9.keep hx
      replace hb := hb.trans (hx.mono hb.size)
      clear hx
      clear hfr
      go_wp2_with fail
      have hx := below_alloc w116 (.cells (Val.box ⟨k12, q12, t12, s12, A12, len12, cap12⟩) 26)
      replace rm := rm.below hx hx.size
      replace g9 := g9.keep hx
      replace hb := hb.trans (hx.mono hb.size)
      generalize w116.alloc _ = w117 at hb rm g9 ⊢
      clear hx
      refine (llist_any none 0 0 w117).mono ?_
      rintro e w118 ⟨rfl, hx⟩
      replace rm := rm.below hx hx.size
      replace g9 := g9.keep hx
      replace hb := hb.trans (hx.mono hb.size)
      clear hx
      go_wp2_with fail
      refine (C13.out _ w118 ((fresh_leaf _ 0 0 ok_list).rd)).mono ?_
      rintro e w119 ⟨⟨k13, q13, t13, s13, A13, len13, cap13⟩, rfl, hfr, hx⟩
      replace rm := rm.below hx hx.size
      replace g9 := g9.keep hx
      replace hb := hb.trans (hx.mono hb.size)
      clear hx
      clear hfr
      go_wp2_with fail
      have hx := below_alloc w119 (.cells (Val.box ⟨k13, q13, t13, s13, A13, len13, cap13⟩) 26)
      replace rm := rm.below hx hx.size
      replace g9 := g9.keep hx
      replace hb := hb.trans (hx.mono hb.size)
      generalize w119.alloc _ = w120 at hb rm g9 ⊢
      clear hx
      refine (lstr_any ⟨#[97, 98, 99]⟩ w120).mono ?_
      rintro e w121 ⟨rfl, hx⟩
      replace rm := rm.below hx hx.size
      replace g9 := g9.keep hx
      replace hb := hb.trans (hx.mono hb.size)
      clear hx
      go_wp2_with fail
      refine (C14.out _ w121 (rd_str _ ⟨#[97, 98, 99]⟩ (by decide))).mono ?_
      rintro e w122 ⟨⟨k14, q14, t14, s14, A14, len14, cap14⟩, rfl, hfr, hx⟩
      replace rm := rm.below hx hx.size
      replace g9 := g9.keep hx
      replace hb := hb.trans (hx.mono hb.size)
      clear hx
      have hs14 : s14 = ⟨#[99]⟩ := by
        obtain ⟨kids, ys, he, -⟩ := Reads.inv hfr
        have := congrArg Tree.s he
        rw [er6'] at this
        exact this.symm
      subst hs14
      clear hfr
      go_wp2_with fail
      have hx := below_alloc w122 (.cells (Val.box ⟨k14, q14, t14, ⟨#[99]⟩, A14, len14, cap14⟩) 26)
      have b16 := Blk.new w122 26 (Val.box ⟨k14, q14, t14, ⟨#[99]⟩, A14, len14, cap14⟩)
      replace rm := rm.below hx hx.size
      replace g9 := g9.keep hx
      replace hb := hb.trans (hx.mono hb.size)
      generalize w122.alloc _ = w123 at hb rm g9 b16 ⊢
      clear hx
      refine (lis_any true w123).mono ?_
      rintro e w124 ⟨rfl, hx⟩
      replace rm := rm.below hx hx.size
      replace g9 := g9.keep hx
      replace b16 := b16.keep hx
      replace hb := hb.trans (hx.mono hb.size)
      clear hx
      go_wp2_with fail
      refine (C15.out _ w124 (rd_bool _ true)).mono ?_
      rintro e w125 ⟨rfl, hx⟩
      replace rm := rm.below hx hx.size
      replace g9 := g9.keep hx
      replace b16 := b16.keep hx
      replace hb := hb.trans (hx.mono hb.size)
      clear hx
      go_wp2_with fail
      refine (C16.out w125).mono ?_
      rintro e w126 ⟨rfl, hx⟩
      replace rm := rm.below hx hx.size
      replace g9 := g9.keep hx
      replace b16 := b16.keep hx
      replace hb := hb.trans (hx.mono hb.size)
      clear hx
      go_wp2_with fail
      have hx := below_alloc w126 (.cells (Val.box (nvV 1 0)) 26)
      replace rm := rm.below hx hx.size
      replace g9 := g9.keep hx
      replace b16 := b16.keep hx
      replace hb := hb.trans (hx.mono hb.size)
      generalize w126.alloc _ = w127 at hb rm g9 b16 ⊢
      clear hx
      refine (nested_any 7 (by decide) (by decide) w127).mono ?_
      rintro e w128 ⟨x7, rfl, hfr, hx⟩
      replace rm := rm.below hx hx.size
      replace g9 := g9.keep hx
      replace b16 := b16.keep hx
      replace hb := hb.trans (hx.mono hb.size)
      clear hx
      have r7 := hfr.rd
      clear hfr
      go_wp2_with fail
      refine (D1.out _ w128 r7).mono ?_
      rintro e w129 ⟨rfl, hx⟩
      replace rm := rm.below hx hx.size
      replace r7 := r7.below hx hx.size
      replace g9 := g9.keep hx
      replace b16 := b16.keep hx
      replace hb := hb.trans (hx.mono hb.size)
      clear hx
      clear r7
      go_wp2_with fail
      refine (llist_any Am 99 capm w129).mono ?_
      rintro e w130 ⟨rfl, hx⟩
      replace rm := rm.below hx hx.size
      replace g9 := g9.keep hx
      replace b16 := b16.keep hx
      replace hb := hb.trans (hx.mono hb.size)
      clear hx
      go_wp2_with fail
      refine (D2.out _ w130 rm).mono ?_
      rintro e w131 ⟨rfl, hx⟩
      replace rm := rm.below hx hx.size
      replace g9 := g9.keep hx
      replace b16 := b16.keep hx
      replace hb := hb.trans (hx.mono hb.size)
      clear hx
      go_wp2_with fail
      refine (llist_any Am 99 capm w131).mono ?_
      rintro e w132 ⟨rfl, hx⟩
      replace rm := rm.below hx hx.size
      replace g9 := g9.keep hx
      replace b16 := b16.keep hx
      replace hb := hb.trans (hx.mono hb.size)
      clear hx
      go_wp2_with fail
      have hx := below_alloc w132 (.cells (Val.box (listX Am 99 capm)) 26)
      have g17 := Blk.new w132 26 (Val.box (listX Am 99 capm))
      replace rm := rm.below hx hx.size
      replace g9 := g9.keep hx
      replace b16 := b16.keep hx
      replace hb := hb.trans (hx.mono hb.size)
      generalize w132.alloc _ = w133 at hb rm g9 b16 g17 ⊢
      clear hx
      refine (llist_any (some ⟨w132.heap.size, 0, none⟩) 1 1 w133).mono ?_
      rintro e w134 ⟨rfl, hx⟩
      replace rm := rm.below hx hx.size
      replace g9 := g9.keep hx
      replace b16 := b16.keep hx
      replace g17 := g17.keep hx
      replace hb := hb.trans (hx.mono hb.size)
      clear hx
      go_wp2_with fail
      refine (D3.out _ w134 (rd_list1 (x1 := listX Am 99 capm) g17 rm)).mono ?_
      rintro e w135 ⟨rfl, hx⟩
      replace rm := rm.below hx hx.size
      replace g9 := g9.keep hx
      replace b16 := b16.keep hx
      replace g17 := g17.keep hx
      replace hb := hb.trans (hx.mono hb.size)
      clear hx
      clear g17
      go_wp2_with fail
      refine (D4.out noneV w135 ((fresh_leaf _ 0 0 ok_none).rd)).mono ?_
      rintro e w136 ⟨rfl, hx⟩
      replace rm := rm.below hx hx.size
      replace g9 := g9.keep hx
      replace b16 := b16.keep hx
      replace hb := hb.trans (hx.mono hb.size)
      clear hx
      have ok5 : Val.Ok ⟨2, ⟨0, 0⟩, false, ⟨#[120]⟩, none, 0, 0⟩ := ⟨by simp, by simp, by simp, by simp, by simp, by simp, (show (1 : Nat) ≤ 9223372036854775807 by omega), by simp, by simp, fun _ => rfl⟩
      have ok8 : Val.Ok ⟨5, ⟨0, 0⟩, false, ⟨#[]⟩, none, 0, 0⟩ := ⟨by simp, by simp, by simp, by simp, by simp, by simp, (show (0 : Nat) ≤ 9223372036854775807 by omega), by simp, by simp, fun _ => rfl⟩
      go_wp2_with fail
      refine (D5.out ⟨2, ⟨0, 0⟩, false, ⟨#[120]⟩, none, 0, 0⟩ w136 ((fresh_leaf _ 0 0 ok5).rd)).mono ?_
      rintro e w137 ⟨rfl, hx⟩
      replace rm := rm.below hx hx.size
      replace g9 := g9.keep hx
      replace b16 := b16.keep hx
      replace hb := hb.trans (hx.mono hb.size)
      clear hx
      go_wp2_with fail
      refine (lstr_any ⟨#[97, 10]⟩ w137).mono ?_
      rintro e w138 ⟨rfl, hx⟩
      replace rm := rm.below hx hx.size
      replace g9 := g9.keep hx
      replace b16 := b16.keep hx
      replace hb := hb.trans (hx.mono hb.size)
      clear hx
      go_wp2_with fail
      refine (D6.out _ w138 (rd_str _ ⟨#[97, 10]⟩ (by decide))).mono ?_
      rintro e w139 ⟨rfl, hx⟩
      replace rm := rm.below hx hx.size
      replace g9 := g9.keep hx
      replace b16 := b16.keep hx
      replace hb := hb.trans (hx.mono hb.size)
      clear hx
      go_wp2_with fail
      refine (lof_any 2 4 w139).mono ?_
      rintro e w140 ⟨rfl, hx⟩
      replace rm := rm.below hx hx.size
      replace g9 := g9.keep hx
      replace b16 := b16.keep hx
      replace hb := hb.trans (hx.mono hb.size)
      clear hx
      go_wp2_with fail
      refine (D7.out _ w140 ((fresh_leaf _ 0 0 (ok_num (r := ⟨2, 4⟩) (by unfold Rat64; decide))).rd)).mono ?_
      rintro e w141 ⟨rfl, hx⟩
      replace rm := rm.below hx hx.size
      replace g9 := g9.keep hx
      replace b16 := b16.keep hx
      replace hb := hb.trans (hx.mono hb.size)
      clear hx
      go_wp2_with fail
      refine (D8.out ⟨5, ⟨0, 0⟩, false, ⟨#[]⟩, none, 0, 0⟩ w141 ((fresh_leaf _ 0 0 ok8).rd)).mono ?_
      rintro e w142 ⟨rfl, hx⟩
      replace rm := rm.below hx hx.size
      replace g9 := g9.keep hx
      replace b16 := b16.keep hx
      replace hb := hb.trans (hx.mono hb.size)
      clear hx
      go_wp2_with fail
      have hx := below_alloc w142 (.cells (Val.box noneV) 26)
      have g18 := Blk.new w142 26 (Val.box noneV)
      replace rm := rm.below hx hx.size
      replace g9 := g9.keep hx
      replace b16 := b16.keep hx
      replace hb := hb.trans (hx.mono hb.size)
      generalize w142.alloc _ = w143 at hb rm g9 b16 g18 ⊢
      clear hx
      refine (llist_any (some ⟨w142.heap.size, 0, none⟩) 1 1 w143).mono ?_
      rintro e w144 ⟨rfl, hx⟩
      replace rm := rm.below hx hx.size
      replace g9 := g9.keep hx
      replace b16 := b16.keep hx
      replace g18 := g18.keep hx
      replace hb := hb.trans (hx.mono hb.size)
      clear hx
      go_wp2_with fail
      refine (D9.out _ w144 (rd_list1 (x1 := noneV) g18 ((fresh_leaf _ 0 0 ok_none).rd))).mono ?_
      rintro e w145 ⟨rfl, hx⟩
      replace rm := rm.below hx hx.size
      replace g9 := g9.keep hx
      replace b16 := b16.keep hx
      replace g18 := g18.keep hx
      replace hb := hb.trans (hx.mono hb.size)
      clear hx
      clear g18
      obtain ⟨p0, p1, p2, p3, p4, p5⟩ := b16.val
      have hse : ((⟨#[99]⟩ : ByteArray).toList == [99]) = true := by rw [Lib.toList_data]; decide +kernel
      have hcm := cmp_both (valid_bool false) (valid_bool true) cmpft
      go_wp2_with fail
      refine (lis_any false w145).mono ?_
      rintro e w146 ⟨rfl, hx⟩
      replace rm := rm.below hx hx.size
      replace g9 := g9.keep hx
      replace b16 := b16.keep hx
      replace hb := hb.trans (hx.mono hb.size)
      clear hx
      go_wp2_with fail
      refine (lis_any true w146).mono ?_
      rintro e w147 ⟨rfl, hx⟩
      replace rm := rm.below hx hx.size
      replace g9 := g9.keep hx
      replace b16 := b16.keep hx
      replace hb := hb.trans (hx.mono hb.size)
      clear hx
      go_wp2_with fail
      refine (compares_any (tBool false) (tBool true) (boolX false) (boolX true) (-1) 0 w147 (valid_bool false).fit (valid_bool true).fit (rd_bool _ false) (rd_bool _ true) (by decide) hcm.1 hcm.2).mono ?_
      rintro e w148 ⟨rfl, hx⟩
      replace rm := rm.below hx hx.size
      replace g9 := g9.keep hx
      replace b16 := b16.keep hx
      replace hb := hb.trans (hx.mono hb.size)
      clear hx
      go_wp2_with fail
      refine (alive_any w148 (HT.out.keep hb)).mono ?_
      rintro e w149 ⟨rfl, hx⟩
      replace rm := rm.below hx hx.size
      replace g9 := g9.keep hx
      replace b16 := b16.keep hx
      replace hb := hb.trans (hx.mono hb.size)
      clear hx
      go_wp2_with fail
      go_ret
      exact ⟨rfl, hb⟩
open Go.ChangeShapes Go.WideShapes Go.ChangeAt Go.Joins
set_option maxRecDepth 100000 in
theorem vnames_lifted (os : Os) (started : os.Started) (H : Type) (enc : TypeId × Value → H) :
    ReturnsInHanded {} Tryd.checked os 8 .any (fun w args => (Rows.valueNamesSpec.pre enc Tryd.prog Tryd.f8 [] false w args ∧ laidMetH Tryd.prog Rows.valueNamesRow.laid w) ∧ sizedMet enc Tryd.prog Tryd.f8 (OpenSpec.ofChange Rows.valueNamesSpec) false w args)
      (Rows.valueNamesSpec.post enc Tryd.prog Tryd.f8 false true false false) := by
  refine returnsInHanded_of_change_and (C := Tryd.checked) (X := fun w _ => laidMetH Tryd.prog Rows.valueNamesRow.laid w) (fun _ _ _ hh h => h.of_heap hh) own started (by kernel_rfl) Tryd.func8
    (ChangeSpec.witness_at (enc := enc) (C := Tryd.checked) (os := os) (X := fun w _ => laidMetH Tryd.prog Rows.valueNamesRow.laid w) false (laidWorld os) #[] 8 rfl (by kernel_rfl) (by kernel_rfl) (by kernel_rfl) (by kernel_rfl) (by kernel_rfl) (laid_met os _)) ?_
  intro W base args ds gs before hval0 hW _ _ hLd _
  have hW' := hW
  obtain ⟨p, q, hA0, hV, rfl, hfz, hnd⟩ := hW
  have hA : DataW.TrodAll enc Tryd.prog W 0 (fun _ => true) true Tryd.f8.params.toList args.toList ds p := hA0
  rw [Tryd.params8] at hA
  obtain ⟨hargs, rfl, rfl⟩ := trodAll_nil hA
  obtain rfl : args = #[] := by cases args; simp_all
  obtain ⟨rfl, rfl⟩ := trodVars_none hV
  refine (vnames_walk W (tab_of_laid hLd)).mono fun e W' ⟨he, hb⟩ => ?_
  exact ⟨_, he, law_post laidOut hW' rfl (by kernel_rfl) rfl Tryd.underlying4 rfl rfl rfl hb⟩

theorem vnames_row : Rows.ValueNamesSaid :=
  OpenClaim.holds_of_wide 8 Tryd.f8 rfl rfl rfl rfl rfl rfl rfl ⟨rfl, rfl, rfl, rfl, rfl⟩ rfl rfl rfl rfl rfl (by kernel_rfl) Tryd.func8 (by kernel_rfl)
    (of_decide_eq_true (by kernel_rfl)) (by unfold Func.isWrapper; first | (rw [if_pos (by decide +kernel)]; kernel_rfl) | (rw [if_neg (by decide +kernel)]; exact ⟨rfl, rfl⟩))
    (fun os started H enc _ => vnames_lifted os started H enc)

theorem vnames_holds : Rows.ValueNamesCardSaid :=
  Claim7.holds_tied_plain_at .later [] [.data, .data, .data] true Rows.valueNamesCard.stood.harness false
    vnames_row (fun _ h => by cases h) (by kernel_rfl) (fun _ h => by cases h) valueNames_row_tie rfl ⟨rfl, rfl⟩ (by kernel_rfl) rfl
    (fun f fn hf hfn => by
      obtain rfl : f = 8 := Option.some.inj ((show Tryd.prog.funcNamed Rows.valueNamesRow.func = some 8 by kernel_rfl).symm.trans hf) |>.symm
      obtain rfl : fn = Tryd.f8 := (Option.some.inj (Tryd.func8.symm.trans hfn)).symm
      exact ⟨by kernel_rfl, fun j t ht => by
        rw [Tryd.params8] at ht
        simp at ht⟩)
    (by kernel_rfl)
#print axioms vnames_holds
end Go.Proofs.YtjgampkpfjbmdaaDoor
