/- The law 'LabelPairs': whatever two strings come in, it returns true. No condition. -/
import Derived.ChangeMaps5
import Derived.Test.YtkjgcippcbfmgaaRows
import Derived.Test.YtkjgcippcbfmgaaRow
import Derived.Test.YtkjgcippcbfmgaaLabN
namespace Go.Proofs.Ytkjgcippcbfmgaa
open Go.RowKit Go.Rel

set_option maxRecDepth 100000 in
set_option maxHeartbeats 4000000 in
theorem pairs_walk (s t : ByteArray) (w : World) (hs : s.size ≤ maxLen) (ht : t.size ≤ maxLen) :
    Calls Try.prog 4 #[.string s, .string t] w (Ret w (.bool true)) := by
  unfold maxLen at hs ht
  by_cases hbig : 5000 < s.size
  · have q0 : decide ((5000 : Int) < (s.size : Int)) = true := by rw [decide_eq_true_eq]; omega
    clear hbig
    go_enter Try.func4, Try.ntmps4
    go_wp2_with fail
    go_ret
    exact ret_bool rfl (Below.refl _ _)
  have q0 : decide ((5000 : Int) < (s.size : Int)) = false := by rw [decide_eq_false_iff_not]; omega
  by_cases hbig2 : 5000 < t.size
  · have q1 : decide ((5000 : Int) < (t.size : Int)) = true := by rw [decide_eq_true_eq]; omega
    clear hbig hbig2
    go_enter Try.func4, Try.ntmps4
    go_wp2_with fail
    go_ret
    exact ret_bool rfl (Below.refl _ _)
  have q1 : decide ((5000 : Int) < (t.size : Int)) = false := by rw [decide_eq_false_iff_not]; omega
  have l1 : s.size ≤ 40000 := by omega
  have l2 : t.size ≤ 40000 := by omega
  have m1 : s.size ≤ 100000 := by omega
  have m2 : t.size ≤ 100000 := by omega
  have R1 := Lib.hid (fun W => join_any s t W m1 m2)
  have R2 := Lib.hid (fun W => refJoin_any s t W l1 l2)
  have R3 := Lib.hid (fun W => opUnder_any s t W m1 m2)
  have R4 := Lib.hid (fun W => refUnder_any s t W m1 m2)
  have R5 := Lib.hid (fun W => common_any s t W m1 m2)
  have R6 := Lib.hid (fun W => refCommon_any s t W m1 m2)
  have R7 := Lib.hid (fun W => compare_any s.data.toList t.data.toList W (by rw [← Lib.size_eq]; exact m1) (by rw [← Lib.size_eq]; exact m2))
  have R8 := Lib.hid (fun W => refCompare_any s t W m1 m2)
  rw [str_of, str_of] at R7
  clear hbig hbig2 l1 l2 m1 m2 hs ht
  go_enter Try.func4, Try.ntmps4
  go_wp2_with fail
  refine (R1.out _).mono ?_
  rintro e w1 ⟨rfl, hb⟩
  clear R1
  go_wp2_with fail
  refine (R2.out _).mono ?_
  rintro e w2 ⟨rfl, hx⟩
  replace hb := hb.trans (hx.mono hb.size)
  clear hx R2
  go_wp2_with fail
  refine (R3.out _).mono ?_
  rintro e w3 ⟨rfl, hx⟩
  replace hb := hb.trans (hx.mono hb.size)
  clear hx R3
  go_wp2_with fail
  refine (R4.out _).mono ?_
  rintro e w4 ⟨rfl, hx⟩
  replace hb := hb.trans (hx.mono hb.size)
  clear hx R4
  go_wp2_with fail
  refine (R5.out _).mono ?_
  rintro e w5 ⟨rfl, hx⟩
  replace hb := hb.trans (hx.mono hb.size)
  clear hx R5
  go_wp2_with fail
  refine (R6.out _).mono ?_
  rintro e w6 ⟨rfl, hx⟩
  replace hb := hb.trans (hx.mono hb.size)
  clear hx R6
  go_wp2_with fail
  refine (R7.out _).mono ?_
  rintro e w7 ⟨rfl, hx⟩
  replace hb := hb.trans (hx.mono hb.size)
  clear hx R7
  go_wp2_with fail
  refine (R8.out _).mono ?_
  rintro e w8 ⟨rfl, hx⟩
  replace hb := hb.trans (hx.mono hb.size)
  clear hx R8
  go_wp2_with fail
  go_ret
  exact ret_bool rfl hb

open Go.ChangeShapes Go.WideShapes Go.ChangeAt Go.Joins Go.ChangeMaps
theorem pairs_own : ownKnob Try.prog.godebug = none := by kernel_rfl
theorem pairs_laid : laidOutB Try.prog = true := by kernel_rfl
set_option maxRecDepth 100000 in
theorem pairs_lifted (os : Os) (started : os.Started) (H : Type) (enc : TypeId × Value → H) :
    ReturnsInHanded {} Try.checked os 4 .any (Rows.labelPairsSpec.pre6 enc Try.prog Try.f4 Rows.labelPairsRow.domain false) (Rows.labelPairsSpec.post enc Try.prog Try.f4 false true false false) := by
  refine returnsInHanded_of_change (C := Try.checked) pairs_own started (by kernel_rfl) Try.func4
    (ChangeSpec.witness6 (enc := enc) (C := Try.checked) false ⟨#[], #[.string ⟨#[]⟩, .string ⟨#[]⟩], []⟩ 8 (by kernel_rfl) (by kernel_rfl) (by kernel_rfl) (by kernel_rfl)) ?_
  intro W base args ds gs before hval0 hW hcnd _
  have hval : ∀ (j : Nat) t v, Try.f4.params[j]? = some t → args[j]? = some v → Value.okWide Try.prog W .any base t v := hval0
  have hW' := hW
  obtain ⟨p, q, hA0, hV, rfl, hfz, hnd⟩ := hW
  have hA : DataW.TrodAll enc Try.prog W 0 (fun _ => true) true Try.f4.params.toList args.toList ds p := hA0
  rw [Try.params4] at hA hval
  obtain ⟨v0, vs0, d0, ds0, p0, q0, hargs, rfl, rfl, h0, r0⟩ := trodAll_cons hA
  obtain ⟨v1, vs1, d1, ds1, p1, q1, rfl, rfl, rfl, h1, r1⟩ := trodAll_cons r0
  obtain ⟨rfl, rfl, rfl⟩ := trodAll_nil r1
  obtain rfl : args = #[v0, v1] := by cases args; simp_all
  obtain ⟨rfl, rfl⟩ := trodVars_none hV
  obtain ⟨s0, rfl, rfl, rfl, hs0⟩ := open_string Try.underlying9 (hval 0 9 v0 rfl rfl) h0
  obtain ⟨s1, rfl, rfl, rfl, hs1⟩ := open_string Try.underlying9 (hval 1 9 v1 rfl rfl) h1
  refine (pairs_walk s0 s1 W hs0 hs1).mono fun e W' ⟨he, hb⟩ => ?_
  exact ⟨_, he, law_post pairs_laid hW' rfl (by kernel_rfl) rfl Try.underlying4 rfl rfl rfl hb⟩

theorem pairs_holds : Rows.LabelPairsSaid :=
  OpenClaim.holds_of_wide 4 Try.f4 rfl rfl rfl rfl rfl rfl rfl ⟨rfl, rfl, rfl, rfl, rfl⟩ rfl rfl rfl rfl rfl (by kernel_rfl) Try.func4 (by kernel_rfl)
    (of_decide_eq_true (by kernel_rfl)) (by unfold Func.isWrapper; first | (rw [if_pos (by decide +kernel)]; kernel_rfl) | (rw [if_neg (by decide +kernel)]; exact ⟨rfl, rfl⟩))
    (fun os started H enc _ => pairs_lifted os started H enc)
#print axioms pairs_holds
end Go.Proofs.Ytkjgcippcbfmgaa
