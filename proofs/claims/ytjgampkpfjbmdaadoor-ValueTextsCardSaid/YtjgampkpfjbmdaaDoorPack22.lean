/- Texts put together: VAlive, ValRow, VCard. -/
import Derived.Test.YtjgampkpfjbmdaaDoorPack21
import Derived.Test.YtjgampkpfjbmdaaDoorPack02
import Derived.Test.YtjgampkpfjbmdaaDoorRows
import Derived.Test.YtjgampkpfjbmdaaDoorPack01
import Derived.Test.YtjgampkpfjbmdaaDoorCards
import Derived.Test.YtjgampkpfjbmdaaDoorTie
import Derived.ChangeSame
import Derived.ChangeVars
import Derived.JoinedOf
import Derived.LaidLaws
import Derived.LaidHandle
import Derived.Lib.LaidTab
import Derived.Stop.LaidErr
import Derived.Deep.DeepLaidRun
import Derived.SevenTiedAt
section
/- The law's alive(): the chapter's examples hold. -/
namespace Go.Proofs.YtjgampkpfjbmdaaDoor
open Go.RowKit Go.Rel
set_option maxRecDepth 100000
attribute [local irreducible] Go.Rel.Gives in
set_option maxHeartbeats 16000000 in
theorem alive_any (w : World) (ht : Tab w) : Calls Tryd.prog 10 #[] w (Ret w (.bool true)) := by
  have h1 := fun W => numberV_any 6 4 W (by decide) (by decide) (by decide) (by decide)
  rw [al_num.1, al_num.2] at h1
  have h2 := fun W => addV_any (tStr sab) (tStr sc) (strX sab) (strX sc) W (valid_str (s := sab) (by decide +kernel)).fit (valid_str (s := sc) (by decide +kernel)).fit (rd_str W sab (by decide)) (rd_str W sc (by decide))
  rw [al_add.1, al_add.2] at h2
  have h3 := fun W => addV_any (nT 1) (tStr one1) (numX ⟨1, 1⟩) (strX one1) W (nT_valid (by decide) (by decide)).fit vs1.fit (rd_num W ⟨1, 1⟩ (ok_small (by decide) (by decide))) (rd_str W one1 (by decide))
  rw [al_add2.1, al_add2.2] at h3
  have H1 := Lib.hid h1
  have H2 := Lib.hid h2
  have H3 := Lib.hid h3
  have HT := Lib.hid ht
  clear h1 h2 h3 ht
  have hb := Below.refl w.heap.size w
  go_enter Tryd.func10, Tryd.ntmps10
  go_wp2_with fail
  refine (H1.out w).mono ?_
  rintro e w1 ⟨rfl, hx⟩
  replace hb := hb.trans (hx.mono hb.size)
  clear hx
  go_wp2_with fail
  have hx := below_alloc w1 (.cells (Val.box (numX ⟨3, 2⟩)) 26)
  have bn := Blk.new w1 26 (Val.box (numX ⟨3, 2⟩))
  replace hb := hb.trans (hx.mono hb.size)
  generalize w1.alloc _ = w2 at hb bn ⊢
  clear hx
  refine (lstr_any sab w2).mono ?_
  rintro e w3 ⟨rfl, hx⟩
  replace bn := bn.keep hx
  replace hb := hb.trans (hx.mono hb.size)
  clear hx
  go_wp2_with fail
  refine (lstr_any sc w3).mono ?_
  rintro e w4 ⟨rfl, hx⟩
  replace bn := bn.keep hx
  replace hb := hb.trans (hx.mono hb.size)
  clear hx
  go_wp2_with fail
  refine (H2.out w4).mono ?_
  rintro e w5 ⟨⟨k, q, t, s, A, len, cap⟩, rfl, hfr, hx⟩
  replace bn := bn.keep hx
  replace hb := hb.trans (hx.mono hb.size)
  have hs : s = sabc := by
    obtain ⟨kids, ys, he, -⟩ := Reads.inv hfr
    unfold tStr at he
    injection he with _ _ _ he
    exact he.symm
  clear hx hfr
  subst hs
  go_wp2_with fail
  have hx := below_alloc w5 (.cells (Val.box ⟨k, q, t, sabc, A, len, cap⟩) 26)
  have bs := Blk.new w5 26 (Val.box ⟨k, q, t, sabc, A, len, cap⟩)
  replace bn := bn.keep hx
  replace hb := hb.trans (hx.mono hb.size)
  generalize w5.alloc _ = w6 at hb bn bs ⊢
  clear hx
  refine (lof_any 1 1 w6).mono ?_
  rintro e w7 ⟨rfl, hx⟩
  replace bn := bn.keep hx
  replace bs := bs.keep hx
  replace hb := hb.trans (hx.mono hb.size)
  clear hx
  go_wp2_with fail
  refine (lstr_any one1 w7).mono ?_
  rintro e w8 ⟨rfl, hx⟩
  replace bn := bn.keep hx
  replace bs := bs.keep hx
  replace hb := hb.trans (hx.mono hb.size)
  clear hx
  go_wp2_with fail
  refine (H3.out w8).mono ?_
  rintro e w9 ⟨⟨k2, q2, t2, s2, A2, len2, cap2⟩, rfl, hfr, hx⟩
  replace bn := bn.keep hx
  replace bs := bs.keep hx
  replace hb := hb.trans (hx.mono hb.size)
  clear hx hfr
  go_wp2_with fail
  have hx := below_alloc w9 (.cells (Val.box ⟨k2, q2, t2, s2, A2, len2, cap2⟩) 26)
  have b5 := Blk.new w9 26 (Val.box ⟨k2, q2, t2, s2, A2, len2, cap2⟩)
  replace bn := bn.keep hx
  replace bs := bs.keep hx
  replace hb := hb.trans (hx.mono hb.size)
  generalize w9.alloc _ = w10 at hb bn bs b5 ⊢
  clear hx b5
  refine (lof_any 1 1 w10).mono ?_
  rintro e w11 ⟨rfl, hx⟩
  replace bn := bn.keep hx
  replace bs := bs.keep hx
  replace hb := hb.trans (hx.mono hb.size)
  clear hx
  go_wp2_with fail
  have hx := below_alloc w11 (.cells (Val.box (numX ⟨1, 1⟩)) 26)
  have gA := Blk.new w11 26 (Val.box (numX ⟨1, 1⟩))
  replace bn := bn.keep hx
  replace bs := bs.keep hx
  replace hb := hb.trans (hx.mono hb.size)
  generalize w11.alloc _ = w12 at hb bn bs gA ⊢
  clear hx
  refine (llist_any (some ⟨w11.heap.size, 0, none⟩) 1 1 w12).mono ?_
  rintro e w13 ⟨rfl, hx⟩
  replace bn := bn.keep hx
  replace bs := bs.keep hx
  replace gA := gA.keep hx
  replace hb := hb.trans (hx.mono hb.size)
  clear hx
  go_wp2_with fail
  refine (lstr_any one1 w13).mono ?_
  rintro e w14 ⟨rfl, hx⟩
  replace bn := bn.keep hx
  replace bs := bs.keep hx
  replace gA := gA.keep hx
  replace hb := hb.trans (hx.mono hb.size)
  clear hx
  go_wp2_with fail
  have hx := below_alloc w14 (.cells (Val.box (strX one1)) 26)
  have gB := Blk.new w14 26 (Val.box (strX one1))
  replace bn := bn.keep hx
  replace bs := bs.keep hx
  replace gA := gA.keep hx
  replace hb := hb.trans (hx.mono hb.size)
  generalize w14.alloc _ = w15 at hb bn bs gA gB ⊢
  clear hx
  refine (llist_any (some ⟨w14.heap.size, 0, none⟩) 1 1 w15).mono ?_
  rintro e w16 ⟨rfl, hx⟩
  replace bn := bn.keep hx
  replace bs := bs.keep hx
  replace gA := gA.keep hx
  replace gB := gB.keep hx
  replace hb := hb.trans (hx.mono hb.size)
  clear hx
  go_wp2_with fail
  have hx := below_alloc w16 (.cells (Val.box (listX (some ⟨w11.heap.size, 0, none⟩) 1 1)) 26)
  have b7 := Blk.new w16 26 (Val.box (listX (some ⟨w11.heap.size, 0, none⟩) 1 1))
  replace bn := bn.keep hx
  replace bs := bs.keep hx
  replace gA := gA.keep hx
  replace gB := gB.keep hx
  replace hb := hb.trans (hx.mono hb.size)
  have hsz7 : (w16.alloc (.cells (Val.box (listX (some ⟨w11.heap.size, 0, none⟩) 1 1)) 26)).heap.size = w16.heap.size + 1 := by simp
  clear hx
  have hx := below_alloc (w16.alloc (.cells (Val.box (listX (some ⟨w11.heap.size, 0, none⟩) 1 1)) 26)) (.cells (Val.box (listX (some ⟨w14.heap.size, 0, none⟩) 1 1)) 26)
  have b8 := Blk.new (w16.alloc (.cells (Val.box (listX (some ⟨w11.heap.size, 0, none⟩) 1 1)) 26)) 26 (Val.box (listX (some ⟨w14.heap.size, 0, none⟩) 1 1))
  replace bn := bn.keep hx
  replace bs := bs.keep hx
  replace gA := gA.keep hx
  replace gB := gB.keep hx
  replace b7 := b7.keep hx
  replace hb := hb.trans (hx.mono hb.size)
  rw [hsz7] at b8
  generalize (w16.alloc _).alloc _ = w18 at hb bn bs gA gB b7 b8 ⊢
  clear hx hsz7
  apply wp_region_head 43 105 (hm := by kernel_rfl) (hN := rfl)
  case hB => kernel_rfl
  case h =>
    simp only [List.take_succ_cons, List.take_zero]
    (apply head_call (by kernel_rfl); (intro W; go_simp; exact ⟨rfl, rfl⟩); (intro W hW; exact lof_any 1 1 W))
    simp only [Act.put, List.setIfInBounds_toArray, List.set_cons_succ, List.set_cons_zero]
    (apply head_call (by kernel_rfl); (intro W; go_simp; exact ⟨rfl, rfl⟩); (intro W hW; exact lof_any 2 1 W))
    simp only [Act.put, List.setIfInBounds_toArray, List.set_cons_succ, List.set_cons_zero]
    apply head_mem [] (IsSl 26 w18.heap.size (box2 (numX ⟨1, 1⟩) (numX ⟨2, 1⟩)) 2) (by kernel_rfl) (fun _ _ _ h hb => h.mono hb)
    · intro W hW _
      have hnew := Blk.new W 26 (box2 (numX ⟨1, 1⟩) (numX ⟨2, 1⟩))
      have hbl := below_alloc W (.cells (box2 (numX ⟨1, 1⟩) (numX ⟨2, 1⟩)) 26)
      unfold Gives
      go_simp
      exact ⟨⟨W.heap.size, rfl, hW.size, hnew⟩, hbl⟩
    intro u2
    simp only [Act.put, List.setIfInBounds_toArray, List.set_cons_succ, List.set_cons_zero]
    apply head_mem [2] (IsLs 26 w18.heap.size (box2 (numX ⟨1, 1⟩) (numX ⟨2, 1⟩)) 2) (by kernel_rfl) (fun _ _ _ h hb => h.mono hb)
    · intro W hW hk
      obtain ⟨g, rfl, hg, hgc⟩ := hk.1 (by simp)
      unfold Gives
      go_simp
      exact (llist_any (some ⟨g, 0, none⟩) 2 2 W).mono fun e W' ⟨he, hbw⟩ => ⟨_, he, ⟨g, rfl, hg, hgc.keep hbw⟩, hbw⟩
    intro u3
    simp only [Act.put, List.setIfInBounds_toArray, List.set_cons_succ, List.set_cons_zero]
    (apply head_call (by kernel_rfl); (intro W; go_simp; exact ⟨rfl, rfl⟩); (intro W hW; exact lof_any 1 1 W))
    simp only [Act.put, List.setIfInBounds_toArray, List.set_cons_succ, List.set_cons_zero]
    (apply head_call (by kernel_rfl); (intro W; go_simp; exact ⟨rfl, rfl⟩); (intro W hW; exact lof_any 3 1 W))
    simp only [Act.put, List.setIfInBounds_toArray, List.set_cons_succ, List.set_cons_zero]
    apply head_mem [] (IsSl 26 w18.heap.size (box2 (numX ⟨1, 1⟩) (numX ⟨3, 1⟩)) 2) (by kernel_rfl) (fun _ _ _ h hb => h.mono hb)
    · intro W hW _
      have hnew := Blk.new W 26 (box2 (numX ⟨1, 1⟩) (numX ⟨3, 1⟩))
      have hbl := below_alloc W (.cells (box2 (numX ⟨1, 1⟩) (numX ⟨3, 1⟩)) 26)
      unfold Gives
      go_simp
      exact ⟨⟨W.heap.size, rfl, hW.size, hnew⟩, hbl⟩
    intro u6
    simp only [Act.put, List.setIfInBounds_toArray, List.set_cons_succ, List.set_cons_zero]
    apply head_mem [6] (IsLs 26 w18.heap.size (box2 (numX ⟨1, 1⟩) (numX ⟨3, 1⟩)) 2) (by kernel_rfl) (fun _ _ _ h hb => h.mono hb)
    · intro W hW hk
      obtain ⟨g, rfl, hg, hgc⟩ := hk.1 (by simp)
      unfold Gives
      go_simp
      exact (llist_any (some ⟨g, 0, none⟩) 2 2 W).mono fun e W' ⟨he, hbw⟩ => ⟨_, he, ⟨g, rfl, hg, hgc.keep hbw⟩, hbw⟩
    intro u7
    simp only [Act.put, List.setIfInBounds_toArray, List.set_cons_succ, List.set_cons_zero]
    apply head_known [3, 7] (.bool true) (by kernel_rfl)
    · intro W hW hk
      obtain ⟨g1, rfl, hg1, hgc1⟩ := hk.2.2.1 (by simp)
      obtain ⟨g2, rfl, hg2, hgc2⟩ := hk.1 (by simp)
      have hcmp := cmp_both v12 v13 al_a
      have hrd1 : RdB W W.heap.size (tList [nT 1, nT 2]) (listX (some ⟨g1, 0, none⟩) 2 2) := rd_list2 hgc1 (rd_num W ⟨1, 1⟩ (ok_small (by decide) (by decide))) (rd_num W ⟨2, 1⟩ (ok_small (by decide) (by decide)))
      have hrd2 : RdB W W.heap.size (tList [nT 1, nT 3]) (listX (some ⟨g2, 0, none⟩) 2 2) := rd_list2 hgc2 (rd_num W ⟨1, 1⟩ (ok_small (by decide) (by decide))) (rd_num W ⟨3, 1⟩ (ok_small (by decide) (by decide)))
      have hcall := compares_any _ _ _ _ (-1) 0 W v12.fit v13.fit hrd1 hrd2 (by decide) hcmp.1 hcmp.2
      clear hrd1 hrd2 hcmp
      unfold Gives
      go_simp
      exact hcall.mono fun e W' ⟨he, hbw⟩ => ⟨_, he, rfl, hbw⟩
    simp only [Act.put, List.setIfInBounds_toArray, List.set_cons_succ, List.set_cons_zero]
    (apply head_still (by kernel_rfl); (intro W hW; go_simp; (try rfl)))
    simp only [Act.put, List.setIfInBounds_toArray, List.set_cons_succ, List.set_cons_zero]
    (apply head_call (by kernel_rfl); (intro W; go_simp; exact ⟨rfl, rfl⟩); (intro W hW; exact lof_any 1 1 W))
    simp only [Act.put, List.setIfInBounds_toArray, List.set_cons_succ, List.set_cons_zero]
    (apply head_call (by kernel_rfl); (intro W; go_simp; exact ⟨rfl, rfl⟩); (intro W hW; exact lof_any 2 1 W))
    simp only [Act.put, List.setIfInBounds_toArray, List.set_cons_succ, List.set_cons_zero]
    apply head_mem [] (IsSl 26 w18.heap.size (box2 (numX ⟨1, 1⟩) (numX ⟨2, 1⟩)) 2) (by kernel_rfl) (fun _ _ _ h hb => h.mono hb)
    · intro W hW _
      have hnew := Blk.new W 26 (box2 (numX ⟨1, 1⟩) (numX ⟨2, 1⟩))
      have hbl := below_alloc W (.cells (box2 (numX ⟨1, 1⟩) (numX ⟨2, 1⟩)) 26)
      unfold Gives
      go_simp
      exact ⟨⟨W.heap.size, rfl, hW.size, hnew⟩, hbl⟩
    intro u12
    simp only [Act.put, List.setIfInBounds_toArray, List.set_cons_succ, List.set_cons_zero]
    apply head_mem [12] (IsLs 26 w18.heap.size (box2 (numX ⟨1, 1⟩) (numX ⟨2, 1⟩)) 2) (by kernel_rfl) (fun _ _ _ h hb => h.mono hb)
    · intro W hW hk
      obtain ⟨g, rfl, hg, hgc⟩ := hk.1 (by simp)
      unfold Gives
      go_simp
      exact (llist_any (some ⟨g, 0, none⟩) 2 2 W).mono fun e W' ⟨he, hbw⟩ => ⟨_, he, ⟨g, rfl, hg, hgc.keep hbw⟩, hbw⟩
    intro u13
    simp only [Act.put, List.setIfInBounds_toArray, List.set_cons_succ, List.set_cons_zero]
    (apply head_still (by kernel_rfl); (intro W hW; have hp := (b7.keep hW).val; obtain ⟨p0, p1, p2, p3, p4, p5⟩ := hp; go_simp; (try rfl)))
    simp only [Act.put, List.setIfInBounds_toArray, List.set_cons_succ, List.set_cons_zero]
    apply head_known [13] (.bool true) (by kernel_rfl)
    · intro W hW hk
      obtain ⟨g1, rfl, hg1, hgc1⟩ := hk.1 (by simp)
      have hcmp := cmp_both v12 v1 al_b
      have hrd1 : RdB W W.heap.size (tList [nT 1, nT 2]) (listX (some ⟨g1, 0, none⟩) 2 2) := rd_list2 hgc1 (rd_num W ⟨1, 1⟩ (ok_small (by decide) (by decide))) (rd_num W ⟨2, 1⟩ (ok_small (by decide) (by decide)))
      have hrd2 : RdB W W.heap.size (tList [nT 1]) (listX (some ⟨w11.heap.size, 0, none⟩) 1 1) := rd_list1 (gA.keep hW) (rd_num W ⟨1, 1⟩ (ok_small (by decide) (by decide)))
      have hcall := compares_any _ _ _ _ 1 0 W v12.fit v1.fit hrd1 hrd2 (by decide) hcmp.1 hcmp.2
      clear hrd1 hrd2 hcmp
      unfold Gives
      go_simp
      exact hcall.mono fun e W' ⟨he, hbw⟩ => ⟨_, he, rfl, hbw⟩
    simp only [Act.put, List.setIfInBounds_toArray, List.set_cons_succ, List.set_cons_zero]
    (apply head_still (by kernel_rfl); (intro W hW; go_simp; (try rfl)))
    simp only [Act.put, List.setIfInBounds_toArray, List.set_cons_succ, List.set_cons_zero]
    (apply head_still (by kernel_rfl); (intro W hW; go_simp; (try rfl)))
    simp only [Act.put, List.setIfInBounds_toArray, List.set_cons_succ, List.set_cons_zero]
    (apply head_still (by kernel_rfl); (intro W hW; have hp := (b7.keep hW).val; obtain ⟨p0, p1, p2, p3, p4, p5⟩ := hp; go_simp; (try rfl)))
    simp only [Act.put, List.setIfInBounds_toArray, List.set_cons_succ, List.set_cons_zero]
    (apply head_still (by kernel_rfl); (intro W hW; have hp := (b8.keep hW).val; obtain ⟨p0, p1, p2, p3, p4, p5⟩ := hp; go_simp; (try rfl)))
    simp only [Act.put, List.setIfInBounds_toArray, List.set_cons_succ, List.set_cons_zero]
    apply head_known [] (.bool true) (by kernel_rfl)
    · intro W hW hk
      have hcmp := cmp_both v1 vs al_c
      have hrd1 : RdB W W.heap.size (tList [nT 1]) (listX (some ⟨w11.heap.size, 0, none⟩) 1 1) := rd_list1 (gA.keep hW) (rd_num W ⟨1, 1⟩ (ok_small (by decide) (by decide)))
      have hrd2 : RdB W W.heap.size (tList [tStr one1]) (listX (some ⟨w14.heap.size, 0, none⟩) 1 1) := rd_list1 (gB.keep hW) (rd_str W one1 (by decide))
      have hcall := compares_any _ _ _ _ 0 20 W v1.fit vs.fit hrd1 hrd2 (by decide) hcmp.1 hcmp.2
      clear hrd1 hrd2 hcmp
      unfold Gives
      go_simp
      exact hcall.mono fun e W' ⟨he, hbw⟩ => ⟨_, he, rfl, hbw⟩
    simp only [Act.put, List.setIfInBounds_toArray, List.set_cons_succ, List.set_cons_zero]
    (apply head_still (by kernel_rfl); (intro W hW; go_simp; (try rfl)))
    simp only [Act.put, List.setIfInBounds_toArray, List.set_cons_succ, List.set_cons_zero]
    (apply head_still (by kernel_rfl); (intro W hW; go_simp; (try rfl)))
    simp only [Act.put, List.setIfInBounds_toArray, List.set_cons_succ, List.set_cons_zero]
    (apply head_still (by kernel_rfl); (intro W hW; have hp := (b7.keep hW).val; obtain ⟨p0, p1, p2, p3, p4, p5⟩ := hp; go_simp; (try rfl)))
    simp only [Act.put, List.setIfInBounds_toArray, List.set_cons_succ, List.set_cons_zero]
    apply head_mem [] (IsSl 26 w18.heap.size (box1 (listX (some ⟨w11.heap.size, 0, none⟩) 1 1)) 1) (by kernel_rfl) (fun _ _ _ h hb => h.mono hb)
    · intro W hW _
      have hnew := Blk.new W 26 (box1 (listX (some ⟨w11.heap.size, 0, none⟩) 1 1))
      have hbl := below_alloc W (.cells (box1 (listX (some ⟨w11.heap.size, 0, none⟩) 1 1)) 26)
      unfold Gives
      go_simp
      exact ⟨⟨W.heap.size, rfl, hW.size, hnew⟩, hbl⟩
    intro u24
    simp only [Act.put, List.setIfInBounds_toArray, List.set_cons_succ, List.set_cons_zero]
    apply head_mem [24] (IsLs 26 w18.heap.size (box1 (listX (some ⟨w11.heap.size, 0, none⟩) 1 1)) 1) (by kernel_rfl) (fun _ _ _ h hb => h.mono hb)
    · intro W hW hk
      obtain ⟨g, rfl, hg, hgc⟩ := hk.1 (by simp)
      unfold Gives
      go_simp
      exact (llist_any (some ⟨g, 0, none⟩) 1 1 W).mono fun e W' ⟨he, hbw⟩ => ⟨_, he, ⟨g, rfl, hg, hgc.keep hbw⟩, hbw⟩
    intro u25
    simp only [Act.put, List.setIfInBounds_toArray, List.set_cons_succ, List.set_cons_zero]
    (apply head_still (by kernel_rfl); (intro W hW; have hp := (b8.keep hW).val; obtain ⟨p0, p1, p2, p3, p4, p5⟩ := hp; go_simp; (try rfl)))
    simp only [Act.put, List.setIfInBounds_toArray, List.set_cons_succ, List.set_cons_zero]
    apply head_mem [] (IsSl 26 w18.heap.size (box1 (listX (some ⟨w14.heap.size, 0, none⟩) 1 1)) 1) (by kernel_rfl) (fun _ _ _ h hb => h.mono hb)
    · intro W hW _
      have hnew := Blk.new W 26 (box1 (listX (some ⟨w14.heap.size, 0, none⟩) 1 1))
      have hbl := below_alloc W (.cells (box1 (listX (some ⟨w14.heap.size, 0, none⟩) 1 1)) 26)
      unfold Gives
      go_simp
      exact ⟨⟨W.heap.size, rfl, hW.size, hnew⟩, hbl⟩
    intro u27
    simp only [Act.put, List.setIfInBounds_toArray, List.set_cons_succ, List.set_cons_zero]
    apply head_mem [27] (IsLs 26 w18.heap.size (box1 (listX (some ⟨w14.heap.size, 0, none⟩) 1 1)) 1) (by kernel_rfl) (fun _ _ _ h hb => h.mono hb)
    · intro W hW hk
      obtain ⟨g, rfl, hg, hgc⟩ := hk.1 (by simp)
      unfold Gives
      go_simp
      exact (llist_any (some ⟨g, 0, none⟩) 1 1 W).mono fun e W' ⟨he, hbw⟩ => ⟨_, he, ⟨g, rfl, hg, hgc.keep hbw⟩, hbw⟩
    intro u28
    simp only [Act.put, List.setIfInBounds_toArray, List.set_cons_succ, List.set_cons_zero]
    apply head_known [25, 28] (.bool true) (by kernel_rfl)
    · intro W hW hk
      obtain ⟨g1, rfl, hg1, hgc1⟩ := hk.2.2.1 (by simp)
      obtain ⟨g2, rfl, hg2, hgc2⟩ := hk.1 (by simp)
      have hcmp := cmp_both v11 vss al_d
      have hrd1 : RdB W W.heap.size (tList [tList [nT 1]]) (listX (some ⟨g1, 0, none⟩) 1 1) := rd_list1 hgc1 (rd_list1 (gA.keep hW) (rd_num W ⟨1, 1⟩ (ok_small (by decide) (by decide))))
      have hrd2 : RdB W W.heap.size (tList [tList [tStr one1]]) (listX (some ⟨g2, 0, none⟩) 1 1) := rd_list1 hgc2 (rd_list1 (gB.keep hW) (rd_str W one1 (by decide)))
      have hcall := compares_any _ _ _ _ 0 20 W v11.fit vss.fit hrd1 hrd2 (by decide) hcmp.1 hcmp.2
      clear hrd1 hrd2 hcmp
      unfold Gives
      go_simp
      exact hcall.mono fun e W' ⟨he, hbw⟩ => ⟨_, he, rfl, hbw⟩
    simp only [Act.put, List.setIfInBounds_toArray, List.set_cons_succ, List.set_cons_zero]
    (apply head_still (by kernel_rfl); (intro W hW; go_simp; (try rfl)))
    simp only [Act.put, List.setIfInBounds_toArray, List.set_cons_succ, List.set_cons_zero]
    (apply head_still (by kernel_rfl); (intro W hW; go_simp; (try rfl)))
    simp only [Act.put, List.setIfInBounds_toArray, List.set_cons_succ, List.set_cons_zero]
    (apply head_call (by kernel_rfl); (intro W; go_simp; exact ⟨rfl, rfl⟩); (intro W hW; exact lof_any 2 1 W))
    simp only [Act.put, List.setIfInBounds_toArray, List.set_cons_succ, List.set_cons_zero]
    (apply head_call (by kernel_rfl); (intro W; go_simp; exact ⟨rfl, rfl⟩); (intro W hW; exact lis_any true W))
    simp only [Act.put, List.setIfInBounds_toArray, List.set_cons_succ, List.set_cons_zero]
    apply head_mem [] (IsSl 26 w18.heap.size (box2 (numX ⟨2, 1⟩) (boolX true)) 2) (by kernel_rfl) (fun _ _ _ h hb => h.mono hb)
    · intro W hW _
      have hnew := Blk.new W 26 (box2 (numX ⟨2, 1⟩) (boolX true))
      have hbl := below_alloc W (.cells (box2 (numX ⟨2, 1⟩) (boolX true)) 26)
      unfold Gives
      go_simp
      exact ⟨⟨W.heap.size, rfl, hW.size, hnew⟩, hbl⟩
    intro u34
    simp only [Act.put, List.setIfInBounds_toArray, List.set_cons_succ, List.set_cons_zero]
    apply head_mem [34] (IsLs 26 w18.heap.size (box2 (numX ⟨2, 1⟩) (boolX true)) 2) (by kernel_rfl) (fun _ _ _ h hb => h.mono hb)
    · intro W hW hk
      obtain ⟨g, rfl, hg, hgc⟩ := hk.1 (by simp)
      unfold Gives
      go_simp
      exact (llist_any (some ⟨g, 0, none⟩) 2 2 W).mono fun e W' ⟨he, hbw⟩ => ⟨_, he, ⟨g, rfl, hg, hgc.keep hbw⟩, hbw⟩
    intro u35
    simp only [Act.put, List.setIfInBounds_toArray, List.set_cons_succ, List.set_cons_zero]
    (apply head_call (by kernel_rfl); (intro W; go_simp; exact ⟨rfl, rfl⟩); (intro W hW; exact lof_any 1 1 W))
    simp only [Act.put, List.setIfInBounds_toArray, List.set_cons_succ, List.set_cons_zero]
    (apply head_call (by kernel_rfl); (intro W; go_simp; exact ⟨rfl, rfl⟩); (intro W hW; exact lof_any 5 1 W))
    simp only [Act.put, List.setIfInBounds_toArray, List.set_cons_succ, List.set_cons_zero]
    apply head_mem [] (IsSl 26 w18.heap.size (box2 (numX ⟨1, 1⟩) (numX ⟨5, 1⟩)) 2) (by kernel_rfl) (fun _ _ _ h hb => h.mono hb)
    · intro W hW _
      have hnew := Blk.new W 26 (box2 (numX ⟨1, 1⟩) (numX ⟨5, 1⟩))
      have hbl := below_alloc W (.cells (box2 (numX ⟨1, 1⟩) (numX ⟨5, 1⟩)) 26)
      unfold Gives
      go_simp
      exact ⟨⟨W.heap.size, rfl, hW.size, hnew⟩, hbl⟩
    intro u38
    simp only [Act.put, List.setIfInBounds_toArray, List.set_cons_succ, List.set_cons_zero]
    apply head_mem [38] (IsLs 26 w18.heap.size (box2 (numX ⟨1, 1⟩) (numX ⟨5, 1⟩)) 2) (by kernel_rfl) (fun _ _ _ h hb => h.mono hb)
    · intro W hW hk
      obtain ⟨g, rfl, hg, hgc⟩ := hk.1 (by simp)
      unfold Gives
      go_simp
      exact (llist_any (some ⟨g, 0, none⟩) 2 2 W).mono fun e W' ⟨he, hbw⟩ => ⟨_, he, ⟨g, rfl, hg, hgc.keep hbw⟩, hbw⟩
    intro u39
    simp only [Act.put, List.setIfInBounds_toArray, List.set_cons_succ, List.set_cons_zero]
    apply head_known [35, 39] (.bool true) (by kernel_rfl)
    · intro W hW hk
      obtain ⟨g1, rfl, hg1, hgc1⟩ := hk.2.2.1 (by simp)
      obtain ⟨g2, rfl, hg2, hgc2⟩ := hk.1 (by simp)
      have hcmp := cmp_both v2t v15 al_e
      have hrd1 : RdB W W.heap.size (tList [nT 2, tBool true]) (listX (some ⟨g1, 0, none⟩) 2 2) := rd_list2 hgc1 (rd_num W ⟨2, 1⟩ (ok_small (by decide) (by decide))) (rd_bool W true)
      have hrd2 : RdB W W.heap.size (tList [nT 1, nT 5]) (listX (some ⟨g2, 0, none⟩) 2 2) := rd_list2 hgc2 (rd_num W ⟨1, 1⟩ (ok_small (by decide) (by decide))) (rd_num W ⟨5, 1⟩ (ok_small (by decide) (by decide)))
      have hcall := compares_any _ _ _ _ 1 0 W v2t.fit v15.fit hrd1 hrd2 (by decide) hcmp.1 hcmp.2
      clear hrd1 hrd2 hcmp
      unfold Gives
      go_simp
      exact hcall.mono fun e W' ⟨he, hbw⟩ => ⟨_, he, rfl, hbw⟩
    simp only [Act.put, List.setIfInBounds_toArray, List.set_cons_succ, List.set_cons_zero]
    (apply head_still (by kernel_rfl); (intro W hW; go_simp; (try rfl)))
    simp only [Act.put, List.setIfInBounds_toArray, List.set_cons_succ, List.set_cons_zero]
    (apply head_still (by kernel_rfl); (intro W hW; go_simp; (try rfl)))
    simp only [Act.put, List.setIfInBounds_toArray, List.set_cons_succ, List.set_cons_zero]
    refine head_nil ?_
    intro W hW hF
    have hsz := hb.size
    replace bn := bn.keep hW
    replace bs := bs.keep hW
    replace hb := hb.trans (hW.mono hb.size)
    clear hW hF gA gB b7 b8 hsz
    have hse : (sabc.toList == [97, 98, 99]) = true := by rw [Lib.toList_data]; decide +kernel
    have hsame : ∀ W', Calls Tryd.prog 24 #[(numX ⟨3, 2⟩).v, (numX ⟨3, 2⟩).v] W' (Ret W' (.bool true)) := fun W' => by
      have := refSame_any 10 (tNum ⟨3, 2⟩) (tNum ⟨3, 2⟩) (numX ⟨3, 2⟩) (numX ⟨3, 2⟩) W' (valid_num (q := ⟨3, 2⟩) (by decide +kernel)).fit (rd_num W' ⟨3, 2⟩ (by decide +kernel)) (rd_num W' ⟨3, 2⟩ (by decide +kernel))
      rwa [sameB_self] at this
    simp only [List.drop_succ_cons, List.drop_zero, List.drop_nil]
    go_wp2_with fail
    apply wp_region_head 32 105 (hm := by kernel_rfl) (hN := rfl)
    case hB => kernel_rfl
    case h =>
      simp only [List.take_succ_cons, List.take_zero]
      (apply head_still (by kernel_rfl); (intro W hW; go_simp; (try rfl)))
      simp only [Act.put, List.setIfInBounds_toArray, List.set_cons_succ, List.set_cons_zero]
      (apply head_still (by kernel_rfl); (intro W hW; go_simp; (try rfl)))
      simp only [Act.put, List.setIfInBounds_toArray, List.set_cons_succ, List.set_cons_zero]
      (apply head_still (by kernel_rfl); (intro W hW; go_simp; (try rfl)))
      simp only [Act.put, List.setIfInBounds_toArray, List.set_cons_succ, List.set_cons_zero]
      (apply head_still (by kernel_rfl); (intro W' hW; have hp := (bn.keep hW).val; obtain ⟨p0, p1, p2, p3, p4, p5⟩ := hp; go_simp; (try rfl)))
      simp only [Act.put, List.setIfInBounds_toArray, List.set_cons_succ, List.set_cons_zero]
      (apply head_call (by kernel_rfl); (intro W; go_simp; exact ⟨rfl, rfl⟩); (intro W hW; exact lof_any 3 2 W))
      simp only [Act.put, List.setIfInBounds_toArray, List.set_cons_succ, List.set_cons_zero]
      (apply head_call (by kernel_rfl); (intro W; go_simp; exact ⟨rfl, rfl⟩); (intro W hW; exact hsame W))
      simp only [Act.put, List.setIfInBounds_toArray, List.set_cons_succ, List.set_cons_zero]
      (apply head_still (by kernel_rfl); (intro W hW; go_simp; (try rfl)))
      simp only [Act.put, List.setIfInBounds_toArray, List.set_cons_succ, List.set_cons_zero]
      (apply head_still (by kernel_rfl); (intro W hW; go_simp; (try rfl)))
      simp only [Act.put, List.setIfInBounds_toArray, List.set_cons_succ, List.set_cons_zero]
      (apply head_call (by kernel_rfl); (intro W; go_simp; exact ⟨rfl, rfl⟩); (intro W hW; exact lof_any 1 2 W))
      simp only [Act.put, List.setIfInBounds_toArray, List.set_cons_succ, List.set_cons_zero]
      (apply head_call (by kernel_rfl); (intro W; go_simp; exact ⟨rfl, rfl⟩); (intro W hW; exact lis_any true W))
      simp only [Act.put, List.setIfInBounds_toArray, List.set_cons_succ, List.set_cons_zero]
      (apply head_call (by kernel_rfl); (intro W; go_simp; exact ⟨rfl, rfl⟩); (intro W hW; exact lstr_any saqb W))
      simp only [Act.put, List.setIfInBounds_toArray, List.set_cons_succ, List.set_cons_zero]
      apply head_mem [] (IsSl 26 W.heap.size (box3 (numX ⟨1, 2⟩) (boolX true) (strX saqb)) 3) (by kernel_rfl) (fun _ _ _ h hb => h.mono hb)
      · intro W hW _
        have hnew := Blk.new W 26 (box3 (numX ⟨1, 2⟩) (boolX true) (strX saqb))
        have hbl := below_alloc W (.cells (box3 (numX ⟨1, 2⟩) (boolX true) (strX saqb)) 26)
        unfold Gives
        go_simp
        exact ⟨⟨W.heap.size, rfl, hW.size, hnew⟩, hbl⟩
      intro u11
      simp only [Act.put, List.setIfInBounds_toArray, List.set_cons_succ, List.set_cons_zero]
      apply head_mem [11] (IsLs 26 W.heap.size (box3 (numX ⟨1, 2⟩) (boolX true) (strX saqb)) 3) (by kernel_rfl) (fun _ _ _ h hb => h.mono hb)
      · intro W hW hk
        obtain ⟨g, rfl, hg, hgc⟩ := hk.1 (by simp)
        unfold Gives
        go_simp
        exact (llist_any (some ⟨g, 0, none⟩) 3 3 W).mono fun e W' ⟨he, hbw⟩ => ⟨_, he, ⟨g, rfl, hg, hgc.keep hbw⟩, hbw⟩
      intro u12
      simp only [Act.put, List.setIfInBounds_toArray, List.set_cons_succ, List.set_cons_zero]
      apply head_known [12] (.bool true) (by kernel_rfl)
      · intro W' hW hk
        obtain ⟨g1, rfl, hg1, hgc1⟩ := hk.1 (by simp)
        have hcall := reads_any sread tread (listX (some ⟨g1, 0, none⟩) 3 3) W' (by decide) tread_valid.fit (rd_list3 hgc1 (rd_num W' ⟨1, 2⟩ (by decide +kernel)) (rd_bool W' true) (rd_str W' saqb (by decide))) (HT.out.keep (hb.trans (hW.mono hb.size))) al_read.1 al_read.2
        unfold Gives
        go_simp
        exact hcall.mono fun e W'' ⟨he, hbw⟩ => ⟨_, he, rfl, hbw⟩
      simp only [Act.put, List.setIfInBounds_toArray, List.set_cons_succ, List.set_cons_zero]
      (apply head_still (by kernel_rfl); (intro W hW; go_simp; (try rfl)))
      simp only [Act.put, List.setIfInBounds_toArray, List.set_cons_succ, List.set_cons_zero]
      (apply head_still (by kernel_rfl); (intro W hW; go_simp; (try rfl)))
      simp only [Act.put, List.setIfInBounds_toArray, List.set_cons_succ, List.set_cons_zero]
      (apply head_still (by kernel_rfl); (intro W hW; go_simp; (try rfl)))
      simp only [Act.put, List.setIfInBounds_toArray, List.set_cons_succ, List.set_cons_zero]
      (apply head_still (by kernel_rfl); (intro W hW; go_simp; (try rfl)))
      simp only [Act.put, List.setIfInBounds_toArray, List.set_cons_succ, List.set_cons_zero]
      (apply head_still (by kernel_rfl); (intro W hW; go_simp; (try rfl)))
      simp only [Act.put, List.setIfInBounds_toArray, List.set_cons_succ, List.set_cons_zero]
      (apply head_still (by kernel_rfl); (intro W hW; go_simp; (try rfl)))
      simp only [Act.put, List.setIfInBounds_toArray, List.set_cons_succ, List.set_cons_zero]
      (apply head_still (by kernel_rfl); (intro W hW; go_simp; (try rfl)))
      simp only [Act.put, List.setIfInBounds_toArray, List.set_cons_succ, List.set_cons_zero]
      (apply head_still (by kernel_rfl); (intro W' hW; have hp := (bs.keep hW).val; obtain ⟨p0, p1, p2, p3, p4, p5⟩ := hp; go_simp; (try rfl)))
      simp only [Act.put, List.setIfInBounds_toArray, List.set_cons_succ, List.set_cons_zero]
      (apply head_still (by kernel_rfl); (intro W hW; go_simp; (try rfl)))
      simp only [Act.put, List.setIfInBounds_toArray, List.set_cons_succ, List.set_cons_zero]
      (apply head_still (by kernel_rfl); (intro W hW; go_simp; (try rfl)))
      simp only [Act.put, List.setIfInBounds_toArray, List.set_cons_succ, List.set_cons_zero]
      (apply head_still (by kernel_rfl); (intro W hW; go_simp; (try rfl)))
      simp only [Act.put, List.setIfInBounds_toArray, List.set_cons_succ, List.set_cons_zero]
      (apply head_still (by kernel_rfl); (intro W hW; go_simp; (try rfl)))
      simp only [Act.put, List.setIfInBounds_toArray, List.set_cons_succ, List.set_cons_zero]
      (apply head_still (by kernel_rfl); (intro W hW; go_simp; (try rfl)))
      simp only [Act.put, List.setIfInBounds_toArray, List.set_cons_succ, List.set_cons_zero]
      (apply head_still (by kernel_rfl); (intro W hW; go_simp; (try rfl)))
      simp only [Act.put, List.setIfInBounds_toArray, List.set_cons_succ, List.set_cons_zero]
      (apply head_still (by kernel_rfl); (intro W hW; go_simp; (try rfl)))
      simp only [Act.put, List.setIfInBounds_toArray, List.set_cons_succ, List.set_cons_zero]
      (apply head_still (by kernel_rfl); (intro W hW; go_simp; (try rfl)))
      simp only [Act.put, List.setIfInBounds_toArray, List.set_cons_succ, List.set_cons_zero]
      (apply head_still (by kernel_rfl); (intro W hW; go_simp; (try rfl)))
      simp only [Act.put, List.setIfInBounds_toArray, List.set_cons_succ, List.set_cons_zero]
      (apply head_still (by kernel_rfl); (intro W hW; go_simp; (try rfl)))
      simp only [Act.put, List.setIfInBounds_toArray, List.set_cons_succ, List.set_cons_zero]
      refine head_nil ?_
      intro W' hW hF
      replace hb := hb.trans (hW.mono hb.size)
      clear hW hF bn bs
      simp only [List.drop_succ_cons, List.drop_zero, List.drop_nil]
      go_wp2_with fail
      go_ret
      exact ⟨rfl, hb⟩
    all_goals rfl
  all_goals rfl
end Go.Proofs.YtjgampkpfjbmdaaDoor
end
section
/- Values among a law's arguments, opened. -/
namespace Go.Rel
open Go.RowKit Go.ChangeShapes Go.WideShapes Go.Deep Go.Joins
section
variable {H : Type} {enc : TypeId × Value → H} {P : Program}
theorem list_of {n : Nat} {Q : Nat → Val → Tree → Prop} (h : ∀ i, i < n → ∃ y t, Q i y t) : ∃ (ys : List Val) (ts : List Tree), ys.length = n ∧ ts.length = n ∧ ∀ (i : Nat) (y : Val) (t : Tree), ys[i]? = some y → ts[i]? = some t → Q i y t := by
  induction n with
  | zero => exact ⟨[], [], rfl, rfl, fun i y t h => by simp at h⟩
  | succ n ih =>
    obtain ⟨ys, ts, h1, h2, h3⟩ := ih (fun i hi => h i (by omega))
    obtain ⟨y, t, hq⟩ := h n (by omega)
    refine ⟨ys ++ [y], ts ++ [t], by simp [h1], by simp [h2], fun i y' t' hy ht => ?_⟩
    rcases Nat.lt_or_ge i n with hlt | hge
    · rw [List.getElem?_append_left (by omega)] at hy ht
      exact h3 i y' t' hy ht
    · rw [List.getElem?_append_right (by omega)] at hy ht
      have : i = n := by
        rcases Nat.lt_or_ge (i - ys.length) 1 with h | h
        · omega
        · rw [List.getElem?_eq_none (by simpa using h)] at hy; cases hy
      subst this
      rw [h1, Nat.sub_self] at hy
      rw [h2, Nat.sub_self] at ht
      have e1 : y = y' := by simpa using hy
      have e2 : t = t' := by simpa using ht
      subst e1; subst e2
      exact hq
/-- A value's cells read as a tree. -/
theorem cells_val_read {W : World} {tv tl tr ti tk tb ts : TypeId} {f0 f1 f2 f3 f4 g0 g1 : Field} (hv : P.underlying tv = some (.struct #[f0, f1, f2, f3, f4])) (hl : P.underlying tl = some (.slice tv)) (hr : P.underlying tr = some (.struct #[g0, g1]))
    (hi : P.underlying ti = some (.int .i64)) (hk : P.underlying tk = some (.int .u8)) (hb : P.underlying tb = some .bool) (hs : P.underlying ts = some .string)
    (e0 : f0.type = tk ∧ f0.offset = 0) (e1 : f1.type = tr ∧ f1.offset = 1) (e2 : f2.type = tb ∧ f2.offset = 3) (e3 : f3.type = ts ∧ f3.offset = 4) (e4 : f4.type = tl ∧ f4.offset = 5) (d0 : g0.type = ti ∧ g0.offset = 0) (d1 : g1.type = ti ∧ g1.offset = 1)
    (cI : P.cellsOf ti = 1) (cK : P.cellsOf tk = 1) (cB : P.cellsOf tb = 1) (cS : P.cellsOf ts = 1) (cL : P.cellsOf tl = 1) (cR : P.cellsOf tr = 2) (cV : P.cellsOf tv = 6) :
    ∀ (n : Nat) (cs : List Value) (x : DataW H × List MemPlace), DataW.trod enc P W 0 (fun _ => true) true n tv cs = some x → ∃ (y : Val) (T : Tree), cs = y.cells ∧ RdB W W.heap.size T y := by
  intro n
  induction n using Nat.strongRecOn with
  | _ n ih =>
    intro cs x h
    obtain ⟨ys, m, hm, _, hcl, _, hf⟩ := DataW.trod_struct hv h
    rw [cV] at hcl
    match cs, hcl with
    | [a, b, c, d, e, f], _ =>
      have h0 := hf 0 f0 rfl
      have h1 := hf 1 f1 rfl
      have h2 := hf 2 f2 rfl
      have h3 := hf 3 f3 rfl
      have h4 := hf 4 f4 rfl
      rw [e0.1, e0.2, cK] at h0
      rw [e1.1, e1.2, cR] at h1
      rw [e2.1, e2.2, cB] at h2
      rw [e3.1, e3.2, cS] at h3
      rw [e4.1, e4.2, cL] at h4
      simp only [List.drop_zero, List.take_succ_cons, List.take_zero, List.drop_succ_cons] at h0 h1 h2 h3 h4
      have l5 : ys.length = 5 := by simp_all
      match ys, l5 with
      | [y0, y1, y2, y3, y4], _ =>
        obtain ⟨k, rfl, w0⟩ := cell_int hk h0
        obtain ⟨q1, q2, hq, w1, w2⟩ := cells_two hr hi d0 d1 cI h1 rfl
        simp only [List.cons.injEq, and_true] at hq
        obtain ⟨rfl, rfl⟩ := hq
        obtain ⟨t, rfl⟩ := cell_bool hb h2
        obtain ⟨s, hs1, -, hs2⟩ := DataW.trod_string hs h3
        simp only [List.cons.injEq, and_true] at hs1
        subst hs1
        have b0 := wf_u8 w0
        have b1 := wf_i64 w1
        have b2 := wf_i64 w2
        rcases DataW.trod_slice hl h4 with ⟨hcs, _⟩ | ⟨ad, len, cap, elems, rest, n', hn', hcs, _, hb0, hll, hm', hlen, hel, _, _⟩
        · simp only [List.cons.injEq, and_true] at hcs
          subst hcs
          exact ⟨⟨k, ⟨q1, q2⟩, t, s, none, 0, 0⟩, .node k ⟨q1, q2⟩ t s [], rfl, .mk ⟨k, ⟨q1, q2⟩, t, s, none, 0, 0⟩ [] [] ⟨b0.1, b0.2, b1.1, b1.2, b2.1, b2.2, by unfold maxLen at hs2; exact hs2, by simp, by simp, fun _ => rfl⟩ rfl rfl (fun h => by simp at h) (fun i t y h => by simp at h)⟩
        · simp only [List.cons.injEq, and_true] at hcs
          subst hcs
          have hel' : ∀ i, i < len → ∃ (y : Val) (T : Tree), W.cells? 0 (ad.add (i * 6)) 6 = some y.cells ∧ RdB W W.heap.size T y := fun i hi' => by
            have h5 := hel i hi'
            rw [cV] at h5
            rw [List.getElem?_eq_getElem (by omega)] at h5
            obtain ⟨cs', hc, hd⟩ := Option.bind_eq_some_iff.1 h5
            obtain ⟨y, T, rfl, hr'⟩ := ih n' (by omega) cs' _ hd
            exact ⟨y, T, hc, hr'⟩
          obtain ⟨vs, kids, hv1, hv2, hv3⟩ := list_of hel'
          refine ⟨⟨k, ⟨q1, q2⟩, t, s, some ad, len, cap⟩, .node k ⟨q1, q2⟩ t s kids, rfl, .mk ⟨k, ⟨q1, q2⟩, t, s, some ad, len, cap⟩ kids vs ⟨b0.1, b0.2, b1.1, b1.2, b2.1, b2.2, by unfold maxLen at hs2; exact hs2, hll, by unfold maxLen at hm'; exact hm', fun h => by cases h⟩ hv1 hv2 (fun hpos => ?_) (fun i t y ht hy => (hv3 i y t hy ht).2)⟩
          have hpt : 0 < kids.length := by omega
          have h00 : ∃ c, W.cell? ad = some c := by
            have := (World.cells?_some (hv3 0 vs[0] kids[0] (by simp [hpos]) (by simp [hpt])).1).2.2 0 (by omega)
            simp only [Nat.zero_mul] at this
            have e : (ad.add 0).add 0 = ad := by simp [Addr.add]
            rw [e] at this
            exact ⟨_, this⟩
          obtain ⟨c0, hc0⟩ := h00
          obtain ⟨ab, ao, asp⟩ := ad
          have hsp : asp = none := by
            cases asp with
            | none => rfl
            | some s => simp [World.cell?] at hc0; split at hc0 <;> simp_all
          subst hsp
          refine ⟨ab, ao, rfl, World.block_lt_of_cell? W _ hc0, fun i v hv' j u hj => ?_⟩
          have hiv : i < vs.length := (List.getElem?_eq_some_iff.1 hv').1
          have hik : i < kids.length := by omega
          obtain ⟨_, _, hat⟩ := World.cells?_some (hv3 i v kids[i] hv' (by simp [hik])).1
          have add_eq : ∀ i j : Nat, ((⟨ab, ao, none⟩ : Addr).add i).add j = ⟨ab, ao + i + j, none⟩ := fun i j => by
            unfold Addr.add; by_cases h1 : i = 0 <;> by_cases h2 : j = 0 <;> simp [h1, h2]
          have hj6 : j < 6 := (List.getElem?_eq_some_iff.1 hj).1
          have k0 := hat j hj6
          rw [add_eq] at k0
          rw [k0]
          exact hj
end
end Go.Rel
namespace Go.Proofs.YtjgampkpfjbmdaaDoor
open Go.RowKit Go.ChangeShapes Go.WideShapes Go.ChangeAt Go.Joins Go.Rel Go.Deep

theorem own : ownKnob Tryd.prog.godebug = none := by kernel_rfl
theorem laidOut : laidOutB Tryd.prog = true := by kernel_rfl
theorem Tryd.cInt : Tryd.prog.cellsOf 2 = 1 := by kernel_rfl
theorem Tryd.cU8 : Tryd.prog.cellsOf 5 = 1 := by kernel_rfl
theorem Tryd.cBool : Tryd.prog.cellsOf 4 = 1 := by kernel_rfl
theorem Tryd.cStr : Tryd.prog.cellsOf 9 = 1 := by kernel_rfl
theorem Tryd.cList : Tryd.prog.cellsOf 24 = 1 := by kernel_rfl
theorem Tryd.cRat : Tryd.prog.cellsOf 23 = 2 := by kernel_rfl
theorem Tryd.cVal : Tryd.prog.cellsOf 26 = 6 := by kernel_rfl

set_option maxRecDepth 100000 in
/-- A value among the arguments. -/
theorem open_val {H : Type} {enc : TypeId × Value → H} {W : World} {r : Reach} {b0 : Nat} {v : Value} {d : DataW H} {p : List MemPlace} (hv : Value.okWide Tryd.prog W r b0 26 v) (h : DataW.Trod enc Tryd.prog W 0 (fun _ => true) true 26 v d p) :
    ∃ (x : Val) (T : Tree), v = x.v ∧ RdB W W.heap.size T x := by
  obtain ⟨cs, rfl, -⟩ := okWide_struct Tryd.underlying26 hv
  obtain ⟨fuel, hf⟩ := h
  obtain ⟨y, T, hc, hr⟩ := cells_val_read Tryd.underlying26 Tryd.underlying24 Tryd.underlying23 Tryd.underlying2 Tryd.underlying5 Tryd.underlying4 Tryd.underlying9 ⟨rfl, rfl⟩ ⟨rfl, rfl⟩ ⟨rfl, rfl⟩ ⟨rfl, rfl⟩ ⟨rfl, rfl⟩ ⟨rfl, rfl⟩ ⟨rfl, rfl⟩
    Tryd.cInt Tryd.cU8 Tryd.cBool Tryd.cStr Tryd.cList Tryd.cRat Tryd.cVal fuel _ _ hf
  refine ⟨y, T, ?_, hr⟩
  have : cs = y.cells.toArray := by
    have := congrArg List.toArray hc
    simpa [Value.cells] using this
  rw [this]
  rfl
end Go.Proofs.YtjgampkpfjbmdaaDoor
end
section
/- The laid table: a world that holds it; what the condition of a row gives. -/
namespace Go.Proofs.YtjgampkpfjbmdaaDoor
open Go.ChangeShapes Go.WideShapes Go.RowKit Go.Rel Go.Joins

/-- What a variable's block holds where it reads as a row of numbers. -/
def laidCells : DataW Unit → Array Value
  | .agg l => (l.map fun x => match x with
    | .lit (.int k z) => Value.int k z
    | _ => undef).toArray
  | _ => #[]
/-- The settled world with the three tables laid. -/
noncomputable def laidWorld (os : Os) : World :=
  let w0 := World.holding Tryd.prog os ⟨#[], #[], []⟩
  let put (h : Array Obj) (g : Nat) (cs : Array Value) : Array Obj := h.modify g fun
    | .cells _ t frozen => .cells cs t frozen
    | o => o
  { w0 with heap := put (put (put w0.heap 1 (laidCells Rows.laid_internal_strconv_uint64pow10)) 2 (laidCells Rows.laid_math_bits_deBruijn32tab)) 3 (laidCells Rows.laid_math_bits_deBruijn64tab) }
theorem laid_met (os : Os) (args : Array Value) : laidMetH Tryd.prog Rows.valueOrderRow.laid ((laidWorld os).forCall (fun _ _ => 0) ⟨#[], args, []⟩).memory :=
  (laidMet_of_run3 10 (by kernel_rfl) (by kernel_rfl) (by kernel_rfl) : laidMet Tryd.prog Rows.valueOrderRow.laid _)
theorem pow_data : (Rows.laid_internal_strconv_uint64pow10 : DataW Unit) = Lib.tabData .u64 Lib.pow10Tab := by kernel_rfl
theorem powGlobal : Tryd.prog.globalNamed "internal/strconv.uint64pow10" = some 1 := by kernel_rfl
theorem powType : (Tryd.prog.globals[1]?).map (·.type) = some 140 := by kernel_rfl
theorem powUnder : Tryd.prog.underlying 140 = some (.array 20 100) := by kernel_rfl
theorem powElem : Tryd.prog.underlying 100 = some (.int .u64) := by kernel_rfl
theorem powCells : Tryd.prog.cellsOf 100 = 1 := by kernel_rfl
theorem powCells20 : Tryd.prog.cellsOf 140 = 20 := by kernel_rfl
theorem tab_of_laid {W : World} (h : laidMetH Tryd.prog Rows.valueOrderRow.laid W) : Tab W := by
  have h' : laidMet Tryd.prog Rows.valueOrderRow.laid W := h
  have h3 := laidMet.tail (laidMet.tail h')
  rw [pow_data] at h3
  exact Lib.tabIs_of_head powGlobal powType powUnder powElem powCells powCells20 h3
end Go.Proofs.YtjgampkpfjbmdaaDoor
end
