/- alive: the chapter's examples; fit. -/
import Derived.Test.YtkjgcippcbfmgaaLabN
namespace Go.Rel
open Go.RowKit
theorem recs_new (w : World) (l : List Bs) (t : TypeId) : Recs strC 1 (w.alloc (.cells (l.map (fun x => Value.string (str x))).toArray t)) (w.alloc (.cells (l.map (fun x => Value.string (str x))).toArray t)).heap.size (some ⟨w.heap.size, 0, none⟩) l := fun _ =>
  ⟨w.heap.size, 0, rfl, by simp, fun i v hi j u hj => by
    have hj0 : j = 0 := by
      have := (List.getElem?_eq_some_iff.1 hj).1
      simpa [strC] using this
    subst hj0
    have hu : u = .string (str v) := by simpa [strC] using hj.symm
    subst hu
    rw [show 0 + i * 1 + 0 = i by omega]
    refine cell_new w _ t ?_
    rw [List.getElem?_toArray, List.getElem?_map, hi]
    rfl⟩
end Go.Rel
namespace Go.Proofs.Ytkjgcippcbfmgaa
open Go.RowKit Go.Rel

theorem fit_any (s t : ByteArray) (w : World) (hs : s.size ≤ maxLen) (ht : t.size ≤ maxLen) :
    Calls Try.prog 31 #[.string s, .string t] w (Ret w (.bool (decide (bothE s.data.toList t.data.toList = 0)))) := by
  have R1 := Lib.hid (fun W => refBoth_any s t W hs ht)
  generalize bothE s.data.toList t.data.toList = E at *
  have hv : (E == 0) = decide (E = 0) := by rw [Bool.eq_iff_iff, beq_iff_eq, decide_eq_true_eq]
  have HV := Lib.hid hv
  clear hv
  go_enter Try.func31, Try.ntmps31
  go_wp2_with fail
  refine (R1.out _).mono ?_
  rintro e W ⟨rfl, hb⟩
  go_wp2_with fail
  go_ret
  exact ret_bool HV.out hb

theorem al_steps : stepsL [116, 111, 119, 101, 114, 47, 102, 108, 111, 111, 114, 91, 51, 93, 47, 119, 105, 110, 100, 111, 119] = [[116, 111, 119, 101, 114], [102, 108, 111, 111, 114, 91, 51, 93], [119, 105, 110, 100, 111, 119]] := by decide +kernel
theorem al_check : checkP [116, 111, 119, 101, 114, 47, 102, 108, 111, 111, 114, 91, 51, 93, 47, 119, 105, 110, 100, 111, 119] = 0 := by decide +kernel
theorem al_par : parentS [116, 111, 119, 101, 114, 47, 102, 108, 111, 111, 114, 91, 51, 93, 47, 119, 105, 110, 100, 111, 119] = [116, 111, 119, 101, 114, 47, 102, 108, 111, 111, 114, 91, 51, 93] ∧ parentE [116, 111, 119, 101, 114, 47, 102, 108, 111, 111, 114, 91, 51, 93, 47, 119, 105, 110, 100, 111, 119] = 0 := by decide +kernel
theorem al_last : lastR [116, 111, 119, 101, 114, 47, 102, 108, 111, 111, 114, 91, 51, 93] = ([102, 108, 111, 111, 114], 3) ∧ parentE [116, 111, 119, 101, 114, 47, 102, 108, 111, 111, 114, 91, 51, 93] = 0 := by decide +kernel
theorem al_un1 : bothE [116, 111, 119, 101, 114, 47, 102, 108, 111, 111, 114, 91, 51, 93] [116, 111, 119, 101, 114] = 0 ∧ underB [116, 111, 119, 101, 114, 47, 102, 108, 111, 111, 114, 91, 51, 93] [116, 111, 119, 101, 114] = true := by decide +kernel
theorem al_un2 : bothE [116, 111, 119, 101, 114, 47, 102, 108, 111, 111, 114, 91, 51, 93] [116, 111, 119] = 0 ∧ underB [116, 111, 119, 101, 114, 47, 102, 108, 111, 111, 114, 91, 51, 93] [116, 111, 119] = false := by decide +kernel
theorem al_com : commonS [97, 47, 98, 91, 49, 93, 47, 99] [97, 47, 98, 91, 49, 48, 93] = [97] ∧ bothE [97, 47, 98, 91, 49, 93, 47, 99] [97, 47, 98, 91, 49, 48, 93] = 0 := by decide +kernel
theorem al_cmp0 : cmpR [97, 47, 98] [97, 47, 98, 47, 99] = -1 ∧ bothE [97, 47, 98] [97, 47, 98, 47, 99] = 0 := by decide +kernel
theorem al_cmp1 : cmpR [97, 47, 98, 47, 99] [97, 47, 98, 91, 48, 93] = -1 ∧ bothE [97, 47, 98, 47, 99] [97, 47, 98, 91, 48, 93] = 0 := by decide +kernel
theorem al_cmp2 : cmpR [97, 47, 98, 91, 50, 93] [97, 47, 98, 91, 49, 48, 93] = -1 ∧ bothE [97, 47, 98, 91, 50, 93] [97, 47, 98, 91, 49, 48, 93] = 0 := by decide +kernel
theorem al_name : nameOk [97, 45, 49] = true := by decide +kernel

set_option maxRecDepth 100000 in
set_option maxHeartbeats 4000000 in
theorem alive_any (w : World) : Calls Try.prog 30 #[] w (Ret w (.bool true)) := by
  have r1 := fun W => steps_all [116, 111, 119, 101, 114, 47, 102, 108, 111, 111, 114, 91, 51, 93, 47, 119, 105, 110, 100, 111, 119] W (by decide)
  have r2 := fun W => parent_any (str [116, 111, 119, 101, 114, 47, 102, 108, 111, 111, 114, 91, 51, 93, 47, 119, 105, 110, 100, 111, 119]) W (by decide)
  rw [str_list, al_par.1, al_par.2] at r2
  have r3 := fun W => last_any (str [116, 111, 119, 101, 114, 47, 102, 108, 111, 111, 114, 91, 51, 93]) W (by decide)
  rw [str_list, al_last.1, al_last.2] at r3
  have r4 := fun W => opUnder_any (str [116, 111, 119, 101, 114, 47, 102, 108, 111, 111, 114, 91, 51, 93]) (str [116, 111, 119, 101, 114]) W (by decide) (by decide)
  rw [str_list, str_list, al_un1.1, al_un1.2] at r4
  have r5 := fun W => opUnder_any (str [116, 111, 119, 101, 114, 47, 102, 108, 111, 111, 114, 91, 51, 93]) (str [116, 111, 119]) W (by decide) (by decide)
  rw [str_list, str_list, al_un2.1, al_un2.2] at r5
  have r6 := fun W => common_any (str [97, 47, 98, 91, 49, 93, 47, 99]) (str [97, 47, 98, 91, 49, 48, 93]) W (by decide) (by decide)
  rw [str_list, str_list, al_com.1, al_com.2] at r6
  have r7 := fun W => compare_any [97, 47, 98] [97, 47, 98, 47, 99] W (by decide) (by decide)
  rw [al_cmp0.1, al_cmp0.2] at r7
  have r8 := fun W => compare_any [97, 47, 98, 47, 99] [97, 47, 98, 91, 48, 93] W (by decide) (by decide)
  rw [al_cmp1.1, al_cmp1.2] at r8
  have r9 := fun W => compare_any [97, 47, 98, 91, 50, 93] [97, 47, 98, 91, 49, 48, 93] W (by decide) (by decide)
  rw [al_cmp2.1, al_cmp2.2] at r9
  have r10 := fun W => name_any (str [97, 45, 49]) W (by decide)
  rw [str_list, al_name] at r10
  have R1 := Lib.hid r1
  have R2 := Lib.hid r2
  have R3 := Lib.hid r3
  have R4 := Lib.hid r4
  have R5 := Lib.hid r5
  have R6 := Lib.hid r6
  have R7 := Lib.hid r7
  have R8 := Lib.hid r8
  have R9 := Lib.hid r9
  have R10 := Lib.hid r10
  clear r1 r2 r3 r4 r5 r6 r7 r8 r9 r10
  go_enter Try.func30, Try.ntmps30
  go_wp2_with fail
  refine (R1.out _).mono ?_
  rintro e w1 ⟨v, rfl, hst, hb⟩
  rw [al_check]
  rw [al_steps] at hst
  obtain ⟨A, ca, rfl, -, -, hr⟩ := hst
  simp only [List.length_cons, List.length_nil]
  clear R1
  go_wp2_with fail
  refine (R2.out _).mono ?_
  rintro e w2 ⟨rfl, hx⟩
  replace hr := (hr.below hx).more hx.size
  replace hb := hb.trans (hx.mono hb.size)
  clear hx R2
  go_wp2_with fail
  refine (R3.out _).mono ?_
  rintro e w3 ⟨rfl, hx⟩
  replace hr := (hr.below hx).more hx.size
  replace hb := hb.trans (hx.mono hb.size)
  clear hx R3
  go_wp2_with fail
  refine (R4.out _).mono ?_
  rintro e w4 ⟨rfl, hx⟩
  replace hr := (hr.below hx).more hx.size
  replace hb := hb.trans (hx.mono hb.size)
  clear hx R4
  go_wp2_with fail
  refine (R5.out _).mono ?_
  rintro e w5 ⟨rfl, hx⟩
  replace hr := (hr.below hx).more hx.size
  replace hb := hb.trans (hx.mono hb.size)
  clear hx R5
  go_wp2_with fail
  refine (R6.out _).mono ?_
  rintro e w6 ⟨rfl, hx⟩
  replace hr := (hr.below hx).more hx.size
  replace hb := hb.trans (hx.mono hb.size)
  clear hx R6
  go_wp2_with fail
  refine (R7.out _).mono ?_
  rintro e w7 ⟨rfl, hx⟩
  replace hr := (hr.below hx).more hx.size
  replace hb := hb.trans (hx.mono hb.size)
  clear hx R7
  go_wp2_with fail
  refine (R8.out _).mono ?_
  rintro e w8 ⟨rfl, hx⟩
  replace hr := (hr.below hx).more hx.size
  replace hb := hb.trans (hx.mono hb.size)
  clear hx R8
  go_wp2_with fail
  refine (R9.out _).mono ?_
  rintro e w9 ⟨rfl, hx⟩
  replace hr := (hr.below hx).more hx.size
  replace hb := hb.trans (hx.mono hb.size)
  clear hx R9
  go_wp2_with fail
  have hq := recs_new w9 [[116, 111, 119, 101, 114], [102, 108, 111, 111, 114, 91, 51, 93], [119, 105, 110, 100, 111, 119]] 9
  have hx := below_alloc w9 (.cells ([[116, 111, 119, 101, 114], [102, 108, 111, 111, 114, 91, 51, 93], [119, 105, 110, 100, 111, 119]].map (fun x => Value.string (str x))).toArray 9)
  replace hr := (hr.below hx).more hx.size
  have hb2 := hb.trans (hx.mono hb.size)
  have r11 := same_any A (some ⟨w9.heap.size, 0, none⟩) 3 3 ca 3 [[116, 111, 119, 101, 114], [102, 108, 111, 111, 114, 91, 51, 93], [119, 105, 110, 100, 111, 119]] [[116, 111, 119, 101, 114], [102, 108, 111, 111, 114, 91, 51, 93], [119, 105, 110, 100, 111, 119]] _ rfl rfl (by decide) hr hq
  rw [decide_eq_true rfl] at r11
  clear hr hq hx hb
  refine r11.mono ?_
  rintro e w10 ⟨rfl, hx⟩
  replace hb := hb2.trans (hx.mono hb2.size)
  clear hx r11 hb2
  have t1 : (str [116, 111, 119, 101, 114, 47, 102, 108, 111, 111, 114, 91, 51, 93]).toList = [116, 111, 119, 101, 114, 47, 102, 108, 111, 111, 114, 91, 51, 93] := Lib.toList_data _
  have t2 : (str [102, 108, 111, 111, 114]).toList = [102, 108, 111, 111, 114] := Lib.toList_data _
  have t3 : (str [97]).toList = [97] := Lib.toList_data _
  go_wp2_with fail
  refine (R10.out _).mono ?_
  rintro e w11 ⟨rfl, hx⟩
  replace hb := hb.trans (hx.mono hb.size)
  clear hx R10
  go_wp2_with fail
  go_ret
  exact ret_bool rfl hb
end Go.Proofs.Ytkjgcippcbfmgaa
