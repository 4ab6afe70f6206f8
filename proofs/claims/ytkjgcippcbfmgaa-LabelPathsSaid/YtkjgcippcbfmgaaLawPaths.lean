/- The law 'LabelPaths': whatever string comes in, it returns true. No condition. -/
import Derived.ChangeMaps5
import Derived.Test.YtkjgcippcbfmgaaRows
import Derived.Test.YtkjgcippcbfmgaaRow
import Derived.Test.YtkjgcippcbfmgaaLabI
namespace Go.Proofs.Ytkjgcippcbfmgaa
open Go.RowKit Go.Rel

set_option maxRecDepth 100000 in
set_option maxHeartbeats 4000000 in
theorem paths_walk (s : ByteArray) (w : World) (hs : s.size ≤ maxLen) :
    Calls Try.prog 3 #[.string s] w (Ret w (.bool true)) := by
  have hs' := hs
  unfold maxLen at hs'
  by_cases hbig : 5000 < s.size
  · have q0 : decide ((5000 : Int) < (s.size : Int)) = true := by rw [decide_eq_true_eq]; omega
    clear hbig
    go_enter Try.func3, Try.ntmps3
    go_wp2_with fail
    go_ret
    exact ret_bool rfl (Below.refl _ _)
  have q0 : decide ((5000 : Int) < (s.size : Int)) = false := by rw [decide_eq_false_iff_not]; omega
  have hle : s.size ≤ 100000 := by omega
  have hll : s.data.toList.length ≤ 100000 := by rw [← Lib.size_eq]; exact hle
  have hlm : s.data.toList.length ≤ maxLen := by rw [← Lib.size_eq]; exact hs
  have hcn : (stepsL s.data.toList).length ≤ 200000 := by
    unfold stepsL
    split
    · have := cutP_le (l := s.data.toList); omega
    · simp
  have R1 := Lib.hid (fun W => steps_all s.data.toList W hll)
  have R2 := Lib.hid (fun W => refSteps_any s W hle)
  have R3 := Lib.hid (fun W => parent_any s W hle)
  have R4 := Lib.hid (fun W => refParent_any s W hle)
  have R5 := Lib.hid (fun W => last_any s W hle)
  have R6 := Lib.hid (fun W => refLast_any s W hle)
  have R7 := Lib.hid (fun W => name_any s W hs)
  have R8 := Lib.hid (fun W => refName_any s W hs)
  have R9 := Lib.hid (fun W => check_any s.data.toList W hlm)
  have R10 := Lib.hid (fun W => refCheck_any s W hs)
  have HCN := Lib.hid hcn
  rw [str_of] at R1 R9
  clear hle hll hlm hcn hbig hs hs'
  go_enter Try.func3, Try.ntmps3
  go_wp2_with fail
  refine (R1.out _).mono ?_
  rintro e w1 ⟨v, rfl, ⟨A, ca, rfl, -, -, hr1⟩, hb⟩
  go_wp2_with fail
  refine (R2.out _).mono ?_
  rintro e w2 ⟨v, rfl, ⟨B, cb, rfl, -, -, hr2⟩, hx⟩
  replace hr1 := (hr1.below hx).more hx.size
  replace hb := hb.trans (hx.mono hb.size)
  clear hx R1 R2
  go_wp2_with fail
  refine (R3.out _).mono ?_
  rintro e w3 ⟨rfl, hx⟩
  replace hr1 := (hr1.below hx).more hx.size
  replace hr2 := (hr2.below hx).more hx.size
  replace hb := hb.trans (hx.mono hb.size)
  clear hx R3
  go_wp2_with fail
  refine (R4.out _).mono ?_
  rintro e w4 ⟨rfl, hx⟩
  replace hr1 := (hr1.below hx).more hx.size
  replace hr2 := (hr2.below hx).more hx.size
  replace hb := hb.trans (hx.mono hb.size)
  clear hx R4
  go_wp2_with fail
  refine (R5.out _).mono ?_
  rintro e w5 ⟨rfl, hx⟩
  replace hr1 := (hr1.below hx).more hx.size
  replace hr2 := (hr2.below hx).more hx.size
  replace hb := hb.trans (hx.mono hb.size)
  clear hx R5
  go_wp2_with fail
  refine (R6.out _).mono ?_
  rintro e w6 ⟨rfl, hx⟩
  replace hr1 := (hr1.below hx).more hx.size
  replace hr2 := (hr2.below hx).more hx.size
  replace hb := hb.trans (hx.mono hb.size)
  clear hx R6
  go_wp2_with fail
  refine (R7.out _).mono ?_
  rintro e w8 ⟨rfl, hx⟩
  replace hr1 := (hr1.below hx).more hx.size
  replace hr2 := (hr2.below hx).more hx.size
  replace hb := hb.trans (hx.mono hb.size)
  clear hx R7
  go_wp2_with fail
  refine (R8.out _).mono ?_
  rintro e w9 ⟨rfl, rfl⟩
  clear R8
  go_wp2_with fail
  refine (R9.out _).mono ?_
  rintro e w10 ⟨rfl, hx⟩
  replace hr1 := (hr1.below hx).more hx.size
  replace hr2 := (hr2.below hx).more hx.size
  replace hb := hb.trans (hx.mono hb.size)
  clear hx R9
  go_wp2_with fail
  refine (R10.out _).mono ?_
  rintro e w11 ⟨rfl, hx⟩
  replace hr1 := (hr1.below hx).more hx.size
  replace hr2 := (hr2.below hx).more hx.size
  replace hb := hb.trans (hx.mono hb.size)
  clear hx R10
  have R11 := Lib.hid (same_any A B _ _ ca cb (stepsL s.data.toList) (stepsL s.data.toList) w11 rfl rfl HCN.out hr1 hr2)
  rw [decide_eq_true rfl] at R11
  clear hr1 hr2 HCN
  go_wp2_with fail
  refine (R11.out).mono ?_
  rintro e W ⟨rfl, hx⟩
  replace hb := hb.trans (hx.mono hb.size)
  clear hx R11
  go_wp2_with fail
  go_ret
  exact ret_bool rfl hb

open Go.ChangeShapes Go.WideShapes Go.ChangeAt Go.Joins Go.ChangeMaps
theorem paths_own : ownKnob Try.prog.godebug = none := by kernel_rfl
theorem paths_laid : laidOutB Try.prog = true := by kernel_rfl
set_option maxRecDepth 100000 in
theorem paths_lifted (os : Os) (started : os.Started) (H : Type) (enc : TypeId × Value → H) :
    ReturnsInHanded {} Try.checked os 3 .any (Rows.labelPathsSpec.pre6 enc Try.prog Try.f3 Rows.labelPathsRow.domain false) (Rows.labelPathsSpec.post enc Try.prog Try.f3 false true false false) := by
  refine returnsInHanded_of_change (C := Try.checked) paths_own started (by kernel_rfl) Try.func3
    (ChangeSpec.witness6 (enc := enc) (C := Try.checked) false ⟨#[], #[.string ⟨#[]⟩], []⟩ 8 (by kernel_rfl) (by kernel_rfl) (by kernel_rfl) (by kernel_rfl)) ?_
  intro W base args ds gs before hval0 hW hcnd _
  have hval : ∀ (j : Nat) t v, Try.f3.params[j]? = some t → args[j]? = some v → Value.okWide Try.prog W .any base t v := hval0
  have hW' := hW
  obtain ⟨p, q, hA0, hV, rfl, hfz, hnd⟩ := hW
  have hA : DataW.TrodAll enc Try.prog W 0 (fun _ => true) true Try.f3.params.toList args.toList ds p := hA0
  rw [Try.params3] at hA hval
  obtain ⟨v0, vs0, d0, ds0, p0, q0, hargs, rfl, rfl, h0, r0⟩ := trodAll_cons hA
  obtain ⟨rfl, rfl, rfl⟩ := trodAll_nil r0
  obtain rfl : args = #[v0] := by cases args; simp_all
  obtain ⟨rfl, rfl⟩ := trodVars_none hV
  obtain ⟨s0, rfl, rfl, rfl, hs0⟩ := open_string Try.underlying9 (hval 0 9 v0 rfl rfl) h0
  refine (paths_walk s0 W hs0).mono fun e W' ⟨he, hb⟩ => ?_
  exact ⟨_, he, law_post paths_laid hW' rfl (by kernel_rfl) rfl Try.underlying4 rfl rfl rfl hb⟩

theorem paths_holds : Rows.LabelPathsSaid :=
  OpenClaim.holds_of_wide 3 Try.f3 rfl rfl rfl rfl rfl rfl rfl ⟨rfl, rfl, rfl, rfl, rfl⟩ rfl rfl rfl rfl rfl (by kernel_rfl) Try.func3 (by kernel_rfl)
    (of_decide_eq_true (by kernel_rfl)) (by unfold Func.isWrapper; first | (rw [if_pos (by decide +kernel)]; kernel_rfl) | (rw [if_neg (by decide +kernel)]; exact ⟨rfl, rfl⟩))
    (fun os started H enc _ => paths_lifted os started H enc)
#print axioms paths_holds
end Go.Proofs.Ytkjgcippcbfmgaa
