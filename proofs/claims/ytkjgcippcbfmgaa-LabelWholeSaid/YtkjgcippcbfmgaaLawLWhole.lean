/- The law 'LabelWhole': whatever string comes in, it returns true. No condition. -/
import Derived.ChangeMaps5
import Derived.Test.YtkjgcippcbfmgaaRows
import Derived.Test.YtkjgcippcbfmgaaRow
import Derived.Test.YtkjgcippcbfmgaaLabO
import Derived.Test.YtkjgcippcbfmgaaLabR
namespace Go.Proofs.Ytkjgcippcbfmgaa
open Go.RowKit Go.Rel

set_option maxHeartbeats 2000000 in
theorem lwhole_early (s : ByteArray) (w : World) (hs : s.size ≤ maxLen) (h : ¬ checkP s.data.toList = 0) :
    Calls Try.prog 10 #[.string s] w (Ret w (.bool true)) := by
  have r1 := fun W => fit_any s (str []) W hs (by unfold maxLen; decide)
  rw [str_list] at r1
  have h1 : bothE s.data.toList [] ≠ 0 := fun e => h (both_iff.1 e).1
  simp only [decide_eq_false h1] at r1
  have R1 := Lib.hid r1
  clear r1 h1 h hs
  go_enter Try.func10, Try.ntmps10
  go_wp2_with fail
  refine (alive_any _).mono ?_
  rintro e w1 ⟨rfl, hb⟩
  go_wp2_with fail
  refine (R1.out _).mono ?_
  rintro e w2 ⟨rfl, hx⟩
  replace hb := hb.trans (hx.mono hb.size)
  clear hx
  go_wp2_with fail
  go_ret
  exact ret_bool rfl hb

set_option maxRecDepth 100000 in
set_option maxHeartbeats 4000000 in
theorem lwhole_walk (s : ByteArray) (w : World) (hs : s.size ≤ maxLen) (hcs : checkP s.data.toList = 0) :
    Calls Try.prog 10 #[.string s] w (Ret w (.bool true)) := by
  have r1 := fun W => fit_any s (str []) W hs (by unfold maxLen; decide)
  rw [str_list] at r1
  rw [decide_eq_true (both_iff.2 ⟨hcs, check_nil⟩)] at r1
  have ms : s.size ≤ 4000 := by rw [Lib.size_eq]; exact (check_all hcs).1
  have r2 := fun W => steps_all s.data.toList W (by rw [← Lib.size_eq]; omega)
  rw [str_of] at r2
  have hst := steps_ok hcs
  have hws := fun k hk => whole_step hcs (k := k) hk
  have hok := (check_all hcs).2.2
  have hpl := fun k hk => path_le (cutP s.data.toList) (k := k) hk
  rw [path_cut, ← Lib.size_eq] at hpl
  have hml : ∀ x ∈ cutP s.data.toList, x.length ≤ 4000 := fun x hx => Nat.le_trans (cutP_mem hx) (by rw [← Lib.size_eq]; exact ms)
  have hfull : pathP ((cutP s.data.toList).take (cutP s.data.toList).length) = s.data.toList := by rw [List.take_length, path_cut]
  obtain ⟨n, hn⟩ : ∃ n, (cutP s.data.toList).length = n := ⟨_, rfl⟩
  have hn40 : n ≤ 40 := by rw [← hn]; exact (check_all hcs).2.1
  have R1 := Lib.hid r1
  have R2 := Lib.hid r2
  have HS := Lib.hid (show _ ∧ _ ∧ _ from ⟨hcs, hst, hn⟩)
  have HW := Lib.hid hws
  have HO := Lib.hid (show _ ∧ _ ∧ _ from ⟨hok, hpl, hml⟩)
  have HF := Lib.hid hfull
  have hss : (s.toList == s.toList) = true := beq_self_eq_true _
  clear r1 r2 hs hst hws hok hpl hml hfull hn hcs
  go_enter Try.func10, Try.ntmps10
  go_wp2_with fail
  refine (alive_any _).mono ?_
  rintro e w1 ⟨rfl, hb⟩
  go_wp2_with fail
  refine (R1.out _).mono ?_
  rintro e w2 ⟨rfl, hx⟩
  replace hb := hb.trans (hx.mono hb.size)
  clear hx
  go_wp2_with fail
  refine (R2.out _).mono ?_
  rintro e w3 ⟨v, rfl, hst, hx⟩
  replace hb := hb.trans (hx.mono hb.size)
  clear hx R1 R2
  rw [HS.out.1]
  rw [HS.out.2.1] at hst
  obtain ⟨A, ca, rfl, hca, -, hr⟩ := hst
  rw [HS.out.2.2] at hca ⊢
  have q0 : ¬ (40 : Int) < (n : Int) := by omega
  go_wp2_with fail
  go_loopw [6, 7] (fun av iv wr => ∃ k : Nat, k ≤ n ∧ iv = .int .i64 k ∧ av = .string (str (pathP ((cutP s.data.toList).take k))) ∧ Below w3.heap.size w3 wr) (fun _ iv _ => n - (intOf iv).toNat)
  case atStart => exact ⟨0, Nat.zero_le _, rfl, rfl, Below.refl _ _⟩
  case round =>
    obtain ⟨k, hk, rfl, rfl, hb2⟩ := hrel
    by_cases hlt : k < n
    · have hkl : k < (cutP s.data.toList).length := by rw [HS.out.2.2]; exact hlt
      obtain ⟨b, off, rfl, hB, c0⟩ := str_at (hr.below hb2) hkl
      obtain ⟨g1, g2, g3, g4⟩ := HW.out k hkl
      have hxm := HO.out.2.2 _ (List.getElem_mem hkl)
      have hxo := HO.out.1 _ (List.getElem_mem hkl)
      have p1 := HO.out.2.1 k (Nat.le_of_lt hkl)
      have p2 := HO.out.2.1 (k + 1) hkl
      generalize (cutP s.data.toList)[k] = x at *
      have s1 := fun W => refStep_any (str x) W (by rw [str_size]; unfold maxLen; omega)
      simp only [str_list, stepV_ok hxo] at s1
      have s2 := fun W => join_any (str (pathP ((cutP s.data.toList).take k))) (str x) W (by rw [str_size]; omega) (by rw [str_size]; omega)
      rw [str_list, str_list, g1, g2] at s2
      have s3 := fun W => last_any (str (pathP ((cutP s.data.toList).take (k + 1)))) W (by rw [str_size]; omega)
      rw [str_list, g3, g4] at s3
      generalize readR x = X at *
      obtain ⟨X1, X2⟩ := X
      generalize pathP ((cutP s.data.toList).take k) = P0 at *
      have hP1 : ∃ P1, pathP ((cutP s.data.toList).take (k + 1)) = P1 := ⟨_, rfl⟩
      obtain ⟨P1, hP1⟩ := hP1
      rw [hP1] at s2 s3
      have S1 := Lib.hid s1
      have S2 := Lib.hid s2
      have S3 := Lib.hid s3
      have HP := Lib.hid hP1
      have hXX : ((str X1).toList == (str X1).toList) = true := beq_self_eq_true _
      clear s1 s2 s3 g1 g2 g3 g4 hxm hxo p1 p2 hP1 hb
      go_wp2_with fail
      refine (S1.out _).mono ?_
      rintro e w5 ⟨rfl, rfl⟩
      go_wp2_with fail
      refine (S2.out _).mono ?_
      rintro e w6 ⟨rfl, hx⟩
      replace hb2 := hb2.trans (hx.mono hb2.size)
      clear hx
      go_wp2_with fail
      refine (S3.out _).mono ?_
      rintro e w7 ⟨rfl, hx⟩
      replace hb2 := hb2.trans (hx.mono hb2.size)
      clear hx c0
      go_wp2_with fail
      go_roundw
      case rel => exact ⟨k + 1, by omega, by go_num, by rw [HP.out], hb2⟩
      case measure => simp [intOf] <;> omega
    · obtain rfl : k = n := by omega
      have hF : pathP ((cutP s.data.toList).take k) = s.data.toList := by rw [← HS.out.2.2]; exact HF.out
      rw [hF, str_of]
      clear hr hF
      go_wp2_with fail
      go_ret
      exact ret_bool rfl (hb.trans (hb2.mono hb.size))

theorem lwhole_all (s : ByteArray) (w : World) (hs : s.size ≤ maxLen) :
    Calls Try.prog 10 #[.string s] w (Ret w (.bool true)) := by
  by_cases h : checkP s.data.toList = 0
  · exact lwhole_walk s w hs h
  · exact lwhole_early s w hs h

open Go.ChangeShapes Go.WideShapes Go.ChangeAt Go.Joins Go.ChangeMaps
theorem lwhole_own : ownKnob Try.prog.godebug = none := by kernel_rfl
theorem lwhole_laid : laidOutB Try.prog = true := by kernel_rfl
set_option maxRecDepth 100000 in
theorem lwhole_lifted (os : Os) (started : os.Started) (H : Type) (enc : TypeId × Value → H) :
    ReturnsInHanded {} Try.checked os 10 .any (Rows.labelWholeSpec.pre6 enc Try.prog Try.f10 Rows.labelWholeRow.domain false) (Rows.labelWholeSpec.post enc Try.prog Try.f10 false true false false) := by
  refine returnsInHanded_of_change (C := Try.checked) lwhole_own started (by kernel_rfl) Try.func10
    (ChangeSpec.witness6 (enc := enc) (C := Try.checked) false ⟨#[], #[.string ⟨#[]⟩], []⟩ 8 (by kernel_rfl) (by kernel_rfl) (by kernel_rfl) (by kernel_rfl)) ?_
  intro W base args ds gs before hval0 hW hcnd _
  have hval : ∀ (j : Nat) t v, Try.f10.params[j]? = some t → args[j]? = some v → Value.okWide Try.prog W .any base t v := hval0
  have hW' := hW
  obtain ⟨p, q, hA0, hV, rfl, hfz, hnd⟩ := hW
  have hA : DataW.TrodAll enc Try.prog W 0 (fun _ => true) true Try.f10.params.toList args.toList ds p := hA0
  rw [Try.params10] at hA hval
  obtain ⟨v0, vs0, d0, ds0, p0, q0, hargs, rfl, rfl, h0, r0⟩ := trodAll_cons hA
  obtain ⟨rfl, rfl, rfl⟩ := trodAll_nil r0
  obtain rfl : args = #[v0] := by cases args; simp_all
  obtain ⟨rfl, rfl⟩ := trodVars_none hV
  obtain ⟨s0, rfl, rfl, rfl, hs0⟩ := open_string Try.underlying9 (hval 0 9 v0 rfl rfl) h0
  refine (lwhole_all s0 W hs0).mono fun e W' ⟨he, hb⟩ => ?_
  exact ⟨_, he, law_post lwhole_laid hW' rfl (by kernel_rfl) rfl Try.underlying4 rfl rfl rfl hb⟩

theorem lwhole_holds : Rows.LabelWholeSaid :=
  OpenClaim.holds_of_wide 10 Try.f10 rfl rfl rfl rfl rfl rfl rfl ⟨rfl, rfl, rfl, rfl, rfl⟩ rfl rfl rfl rfl rfl (by kernel_rfl) Try.func10 (by kernel_rfl)
    (of_decide_eq_true (by kernel_rfl)) (by unfold Func.isWrapper; first | (rw [if_pos (by decide +kernel)]; kernel_rfl) | (rw [if_neg (by decide +kernel)]; exact ⟨rfl, rfl⟩))
    (fun os started H enc _ => lwhole_lifted os started H enc)
#print axioms lwhole_holds
end Go.Proofs.Ytkjgcippcbfmgaa
