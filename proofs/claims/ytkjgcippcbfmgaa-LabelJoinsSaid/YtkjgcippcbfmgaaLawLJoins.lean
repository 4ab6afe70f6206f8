/- The law 'LabelJoins': whatever two strings come in, it returns true. No condition. -/
import Derived.ChangeMaps5
import Derived.Test.YtkjgcippcbfmgaaRows
import Derived.Test.YtkjgcippcbfmgaaRow
import Derived.Test.YtkjgcippcbfmgaaLabO
import Derived.Test.YtkjgcippcbfmgaaLabR
namespace Go.Proofs.Ytkjgcippcbfmgaa
open Go.RowKit Go.Rel

set_option maxHeartbeats 2000000 in
theorem ljoins_early (s t : ByteArray) (w : World) (hs : s.size ≤ maxLen) (ht : t.size ≤ maxLen) (h : ¬ (checkP s.data.toList = 0 ∧ t.size ≤ 5000)) :
    Calls Try.prog 9 #[.string s, .string t] w (Ret w (.bool true)) := by
  have r1 := fun W => fit_any s (str []) W hs (by unfold maxLen; decide)
  rw [str_list] at r1
  unfold maxLen at ht
  by_cases h1 : bothE s.data.toList [] = 0
  · have q0 : decide ((5000 : Int) < (t.size : Int)) = true := by
      rw [decide_eq_true_eq]
      have h9 : ¬ t.size ≤ 5000 := fun e => h ⟨(both_iff.1 h1).1, e⟩
      omega
    rw [decide_eq_true h1] at r1
    have R1 := Lib.hid r1
    clear r1 h1 h hs
    go_enter Try.func9, Try.ntmps9
    go_wp2_with fail
    refine (alive_any _).mono ?_
    rintro e w1 ⟨rfl, hb⟩
    go_wp2_with fail
    refine (R1.out _).mono ?_
    rintro e w2 ⟨rfl, hx⟩
    replace hb := hb.trans (hx.mono hb.size)
    clear hx
    go_wp2_with fail
    go_ret
    exact ret_bool rfl hb
  · simp only [decide_eq_false h1] at r1
    have R1 := Lib.hid r1
    clear r1 h1 h hs
    go_enter Try.func9, Try.ntmps9
    go_wp2_with fail
    refine (alive_any _).mono ?_
    rintro e w1 ⟨rfl, hb⟩
    go_wp2_with fail
    refine (R1.out _).mono ?_
    rintro e w2 ⟨rfl, hx⟩
    replace hb := hb.trans (hx.mono hb.size)
    clear hx
    go_wp2_with fail
    go_ret
    exact ret_bool rfl hb

set_option maxRecDepth 100000 in
set_option maxHeartbeats 4000000 in
theorem ljoins_walk (s t : ByteArray) (w : World) (hs : s.size ≤ maxLen) (hcs : checkP s.data.toList = 0) (ht : t.size ≤ 5000) :
    Calls Try.prog 9 #[.string s, .string t] w (Ret w (.bool true)) := by
  have r1 := fun W => fit_any s (str []) W hs (by unfold maxLen; decide)
  rw [str_list] at r1
  have h2 : bothE s.data.toList [] = 0 := both_iff.2 ⟨hcs, check_nil⟩
  rw [decide_eq_true h2] at r1
  have ms : s.size ≤ 100000 := by rw [Lib.size_eq]; have := (check_all hcs).1; omega
  have q0 : decide ((5000 : Int) < (t.size : Int)) = false := by rw [decide_eq_false_iff_not]; omega
  have r3 := fun W => join_any s t W ms (by omega)
  have R1 := Lib.hid r1
  rcases joinE_ok (s := t.data.toList) hcs with ⟨h3, h4⟩ | ⟨h3, hst, hcj, h4⟩
  · generalize joinE s.data.toList t.data.toList = E at *
    have R3 := Lib.hid r3
    clear r1 r3 hs h2 hcs ms h3 ht
    rcases h4 with rfl | rfl
    all_goals
      go_enter Try.func9, Try.ntmps9
      go_wp2_with fail
      refine (alive_any _).mono ?_
      rintro e w1 ⟨rfl, hb⟩
      go_wp2_with fail
      refine (R1.out _).mono ?_
      rintro e w2 ⟨rfl, hx⟩
      replace hb := hb.trans (hx.mono hb.size)
      clear hx
      go_wp2_with fail
      refine (R3.out _).mono ?_
      rintro e w3 ⟨rfl, hx⟩
      replace hb := hb.trans (hx.mono hb.size)
      clear hx
      go_wp2_with fail
      go_ret
      exact ret_bool rfl hb
  · rw [h3, h4] at r3
    obtain ⟨j1, j2, j3, j4, j5⟩ := join_ok hcs hst
    have jc := join_steps hcs hst
    generalize joinO s.data.toList t.data.toList = J at *
    have mj : J.length ≤ 100000 := by have := (check_all hcj).1; omega
    have r4 := fun W => parent_any (str J) W (by rw [str_size]; exact mj)
    rw [str_list, (parent_ok hcj j1).1, (parent_ok hcj j1).2, j2, str_of] at r4
    have r5 := fun W => steps_all J W mj
    have r6 := fun W => steps_all s.data.toList W (by rw [← Lib.size_eq]; exact ms)
    rw [str_of] at r6
    have r7 := fun W => opUnder_any (str J) s W (by rw [str_size]; exact mj) ms
    rw [str_list] at r7
    simp only [both_iff.2 ⟨hcj, hcs⟩, j4, decide_true, Bool.true_and] at r7
    have r8 := fun W => compare_any s.data.toList J W (by rw [← Lib.size_eq]; exact ms) mj
    rw [str_of, cmpR_ok hcs hcj, both_iff.2 ⟨hcs, hcj⟩, j5] at r8
    have hss : (s.toList == s.toList) = true := beq_self_eq_true _
    have htt : (t.toList == t.toList) = true := beq_self_eq_true _
    have HJ := Lib.hid (show _ ∧ _ ∧ _ ∧ _ ∧ _ from ⟨hcj, hcs, steps_ok hcj, steps_ok hcs, jc⟩)
    have R3 := Lib.hid r3
    have R4 := Lib.hid r4
    have R5 := Lib.hid r5
    have R6 := Lib.hid r6
    have R7 := Lib.hid r7
    have R8 := Lib.hid r8
    obtain ⟨n, hn⟩ : ∃ n, (cutP s.data.toList).length = n := ⟨_, rfl⟩
    have hn40 : n ≤ 40 := by rw [← hn]; exact (check_all hcs).2.1
    have HN := Lib.hid hn
    clear r1 r3 r4 r5 r6 r7 r8 hs h2 hcs ms h3 h4 ht hst hcj j1 j2 j3 j4 j5 jc mj hn
    go_enter Try.func9, Try.ntmps9
    go_wp2_with fail
    refine (alive_any _).mono ?_
    rintro e w1 ⟨rfl, hb⟩
    go_wp2_with fail
    refine (R1.out _).mono ?_
    rintro e w2 ⟨rfl, hx⟩
    replace hb := hb.trans (hx.mono hb.size)
    clear hx
    go_wp2_with fail
    refine (R3.out _).mono ?_
    rintro e w3 ⟨rfl, hx⟩
    replace hb := hb.trans (hx.mono hb.size)
    clear hx
    go_wp2_with fail
    refine (R4.out _).mono ?_
    rintro e w4 ⟨rfl, hx⟩
    replace hb := hb.trans (hx.mono hb.size)
    clear hx
    go_wp2_with fail
    refine (R5.out _).mono ?_
    rintro e w5 ⟨v, rfl, hst, hx⟩
    replace hb := hb.trans (hx.mono hb.size)
    clear hx
    rw [HJ.out.1]
    rw [HJ.out.2.2.1, HJ.out.2.2.2.2] at hst
    obtain ⟨A, ca, rfl, hca, -, hr⟩ := hst
    rw [List.length_append, HN.out, List.length_singleton] at hca ⊢
    go_wp2_with fail
    refine (R6.out _).mono ?_
    rintro e w6 ⟨v, rfl, hst, hx⟩
    replace hr := (hr.below hx).more hx.size
    replace hb := hb.trans (hx.mono hb.size)
    clear hx
    rw [HJ.out.2.1]
    rw [HJ.out.2.2.2.1] at hst
    obtain ⟨B, cb, rfl, hcb, -, -⟩ := hst
    rw [HN.out] at hcb ⊢
    go_wp2_with fail
    refine (R7.out _).mono ?_
    rintro e w7 ⟨rfl, hx⟩
    replace hr := (hr.below hx).more hx.size
    replace hb := hb.trans (hx.mono hb.size)
    clear hx
    go_wp2_with fail
    refine (R8.out _).mono ?_
    rintro e w8 ⟨rfl, hx⟩
    replace hr := (hr.below hx).more hx.size
    replace hb := hb.trans (hx.mono hb.size)
    clear hx
    obtain ⟨b, off, rfl, hbB, c0⟩ := str_at hr (k := n) (by rw [List.length_append, HN.out, List.length_singleton]; omega)
    rw [List.getElem_append_right (by rw [HN.out]; exact Nat.le_refl _)] at c0
    simp only [HN.out, Nat.sub_self, List.getElem_cons_zero, str_of] at c0
    clear hr HJ HN R1 R3 R4 R5 R6 R7 R8
    go_wp2_with fail
    go_ret
    exact ret_bool rfl hb

theorem ljoins_all (s t : ByteArray) (w : World) (hs : s.size ≤ maxLen) (ht : t.size ≤ maxLen) :
    Calls Try.prog 9 #[.string s, .string t] w (Ret w (.bool true)) := by
  by_cases h : checkP s.data.toList = 0 ∧ t.size ≤ 5000
  · exact ljoins_walk s t w hs h.1 h.2
  · exact ljoins_early s t w hs ht h

open Go.ChangeShapes Go.WideShapes Go.ChangeAt Go.Joins Go.ChangeMaps
theorem ljoins_own : ownKnob Try.prog.godebug = none := by kernel_rfl
theorem ljoins_laid : laidOutB Try.prog = true := by kernel_rfl
set_option maxRecDepth 100000 in
theorem ljoins_lifted (os : Os) (started : os.Started) (H : Type) (enc : TypeId × Value → H) :
    ReturnsInHanded {} Try.checked os 9 .any (Rows.labelJoinsSpec.pre6 enc Try.prog Try.f9 Rows.labelJoinsRow.domain false) (Rows.labelJoinsSpec.post enc Try.prog Try.f9 false true false false) := by
  refine returnsInHanded_of_change (C := Try.checked) ljoins_own started (by kernel_rfl) Try.func9
    (ChangeSpec.witness6 (enc := enc) (C := Try.checked) false ⟨#[], #[.string ⟨#[]⟩, .string ⟨#[]⟩], []⟩ 8 (by kernel_rfl) (by kernel_rfl) (by kernel_rfl) (by kernel_rfl)) ?_
  intro W base args ds gs before hval0 hW hcnd _
  have hval : ∀ (j : Nat) t v, Try.f9.params[j]? = some t → args[j]? = some v → Value.okWide Try.prog W .any base t v := hval0
  have hW' := hW
  obtain ⟨p, q, hA0, hV, rfl, hfz, hnd⟩ := hW
  have hA : DataW.TrodAll enc Try.prog W 0 (fun _ => true) true Try.f9.params.toList args.toList ds p := hA0
  rw [Try.params9] at hA hval
  obtain ⟨v0, vs0, d0, ds0, p0, q0, hargs, rfl, rfl, h0, r0⟩ := trodAll_cons hA
  obtain ⟨v1, vs1, d1, ds1, p1, q1, rfl, rfl, rfl, h1, r1⟩ := trodAll_cons r0
  obtain ⟨rfl, rfl, rfl⟩ := trodAll_nil r1
  obtain rfl : args = #[v0, v1] := by cases args; simp_all
  obtain ⟨rfl, rfl⟩ := trodVars_none hV
  obtain ⟨s0, rfl, rfl, rfl, hs0⟩ := open_string Try.underlying9 (hval 0 9 v0 rfl rfl) h0
  obtain ⟨s1, rfl, rfl, rfl, hs1⟩ := open_string Try.underlying9 (hval 1 9 v1 rfl rfl) h1
  refine (ljoins_all s0 s1 W hs0 hs1).mono fun e W' ⟨he, hb⟩ => ?_
  exact ⟨_, he, law_post ljoins_laid hW' rfl (by kernel_rfl) rfl Try.underlying4 rfl rfl rfl hb⟩

theorem ljoins_holds : Rows.LabelJoinsSaid :=
  OpenClaim.holds_of_wide 9 Try.f9 rfl rfl rfl rfl rfl rfl rfl ⟨rfl, rfl, rfl, rfl, rfl⟩ rfl rfl rfl rfl rfl (by kernel_rfl) Try.func9 (by kernel_rfl)
    (of_decide_eq_true (by kernel_rfl)) (by unfold Func.isWrapper; first | (rw [if_pos (by decide +kernel)]; kernel_rfl) | (rw [if_neg (by decide +kernel)]; exact ⟨rfl, rfl⟩))
    (fun os started H enc _ => ljoins_lifted os started H enc)
#print axioms ljoins_holds
end Go.Proofs.Ytkjgcippcbfmgaa
