/- The law 'LabelNear': whatever three strings come in, it returns true. No condition. -/
import Derived.ChangeMaps5
import Derived.Test.YtkjgcippcbfmgaaRows
import Derived.Test.YtkjgcippcbfmgaaRow
import Derived.Test.YtkjgcippcbfmgaaLabO
import Derived.Test.YtkjgcippcbfmgaaLabR
namespace Go.Proofs.Ytkjgcippcbfmgaa
open Go.RowKit Go.Rel

set_option maxHeartbeats 2000000 in
theorem lnear_early (s t u : ByteArray) (w : World) (hs : s.size ≤ maxLen) (ht : t.size ≤ maxLen) (hu : u.size ≤ maxLen) (h : ¬ (bothE s.data.toList t.data.toList = 0 ∧ checkP u.data.toList = 0)) :
    Calls Try.prog 7 #[.string s, .string t, .string u] w (Ret w (.bool true)) := by
  have r1 := fun W => fit_any s t W hs ht
  have r2 := fun W => fit_any u (str []) W hu (by unfold maxLen; decide)
  by_cases h1 : bothE s.data.toList t.data.toList = 0
  · have h2 : bothE u.data.toList [] ≠ 0 := fun e => h ⟨h1, (both_iff.1 e).1⟩
    rw [decide_eq_true h1] at r1
    rw [str_list] at r2
    simp only [decide_eq_false h2] at r2
    have R1 := Lib.hid r1
    have R2 := Lib.hid r2
    clear r1 r2 h1 h2 h hs ht hu
    go_enter Try.func7, Try.ntmps7
    go_wp2_with fail
    refine (alive_any _).mono ?_
    rintro e w1 ⟨rfl, hb⟩
    go_wp2_with fail
    refine (R1.out _).mono ?_
    rintro e w2 ⟨rfl, hx⟩
    replace hb := hb.trans (hx.mono hb.size)
    clear hx
    go_wp2_with fail
    refine (R2.out _).mono ?_
    rintro e w3 ⟨rfl, hx⟩
    replace hb := hb.trans (hx.mono hb.size)
    clear hx
    go_wp2_with fail
    go_ret
    exact ret_bool rfl hb
  · simp only [decide_eq_false h1] at r1
    have R1 := Lib.hid r1
    clear r1 r2 h1 h hs ht hu
    go_enter Try.func7, Try.ntmps7
    go_wp2_with fail
    refine (alive_any _).mono ?_
    rintro e w1 ⟨rfl, hb⟩
    go_wp2_with fail
    refine (R1.out _).mono ?_
    rintro e w2 ⟨rfl, hx⟩
    replace hb := hb.trans (hx.mono hb.size)
    clear hx
    go_wp2_with fail
    go_ret
    exact ret_bool rfl hb

set_option maxRecDepth 100000 in
set_option maxHeartbeats 4000000 in
theorem lnear_walk (s t u : ByteArray) (w : World) (hs : s.size ≤ maxLen) (ht : t.size ≤ maxLen) (hu : u.size ≤ maxLen) (h : bothE s.data.toList t.data.toList = 0 ∧ checkP u.data.toList = 0) :
    Calls Try.prog 7 #[.string s, .string t, .string u] w (Ret w (.bool true)) := by
  obtain ⟨h1, hcu⟩ := h
  have r1 := fun W => fit_any s t W hs ht
  have r2 := fun W => fit_any u (str []) W hu (by unfold maxLen; decide)
  rw [str_list] at r2
  have h2 : bothE u.data.toList [] = 0 := both_iff.2 ⟨hcu, check_nil⟩
  rw [decide_eq_true h1] at r1
  rw [decide_eq_true h2] at r2
  obtain ⟨hcs, hct⟩ := both_iff.1 h1
  have ms : s.size ≤ 100000 := by rw [Lib.size_eq]; have := (check_all hcs).1; omega
  have mt : t.size ≤ 100000 := by rw [Lib.size_eq]; have := (check_all hct).1; omega
  have mu : u.size ≤ 100000 := by rw [Lib.size_eq]; have := (check_all hcu).1; omega
  have r3 := fun W => opUnder_any t s W mt ms
  simp only [both_iff.2 ⟨hct, hcs⟩, decide_true, Bool.true_and] at r3
  have r4 := fun W => opUnder_any u s W mu ms
  simp only [both_iff.2 ⟨hcu, hcs⟩, decide_true, Bool.true_and] at r4
  have r5 := fun W => compare_any s.data.toList t.data.toList W (by rw [← Lib.size_eq]; exact ms) (by rw [← Lib.size_eq]; exact mt)
  rw [str_of, str_of, cmpR_ok hcs hct, both_iff.2 ⟨hcs, hct⟩] at r5
  have r6 := fun W => compare_any s.data.toList u.data.toList W (by rw [← Lib.size_eq]; exact ms) (by rw [← Lib.size_eq]; exact mu)
  rw [str_of, str_of, cmpR_ok hcs hcu, both_iff.2 ⟨hcs, hcu⟩] at r6
  have r7 := fun W => compare_any t.data.toList u.data.toList W (by rw [← Lib.size_eq]; exact mt) (by rw [← Lib.size_eq]; exact mu)
  rw [str_of, str_of, cmpR_ok hct hcu, both_iff.2 ⟨hct, hcu⟩] at r7
  have n1 : underB t.data.toList s.data.toList = true → cmpV s.data.toList t.data.toList ≤ 0 := near_le
  have n2 : underB t.data.toList s.data.toList = true → underB u.data.toList s.data.toList = false → cmpV s.data.toList u.data.toList ≤ 0 → cmpV t.data.toList u.data.toList < 0 := near_lt hcs hcu
  generalize underB t.data.toList s.data.toList = x at *
  generalize underB u.data.toList s.data.toList = y at *
  generalize cmpV s.data.toList t.data.toList = a at *
  generalize cmpV s.data.toList u.data.toList = b at *
  generalize cmpV t.data.toList u.data.toList = c at *
  have R3 := Lib.hid r3
  have R4 := Lib.hid r4
  have R5 := Lib.hid r5
  have R6 := Lib.hid r6
  have R7 := Lib.hid r7
  have hor : x = false ∨ (x = true ∧ decide (0 < a) = false ∧ (y = true ∨ (y = false ∧ (decide (0 < b) = true ∨ (decide (0 < b) = false ∧ decide (c < 0) = true))))) := by
    cases x
    · exact .inl rfl
    · refine .inr ⟨rfl, decide_eq_false (by have := n1 rfl; omega), ?_⟩
      cases y
      · refine .inr ⟨rfl, ?_⟩
        by_cases hb : 0 < b
        · exact .inl (decide_eq_true hb)
        · exact .inr ⟨decide_eq_false hb, decide_eq_true (n2 rfl rfl (by omega))⟩
      · exact .inl rfl
  have HQ := Lib.hid hor
  clear r3 r4 r5 r6 r7 n1 n2 hor ms mt mu hcs hct hcu
  have R1 := Lib.hid r1
  have R2 := Lib.hid r2
  clear r1 r2 hs ht hu h1 h2
  go_enter Try.func7, Try.ntmps7
  go_wp2_with fail
  refine (alive_any _).mono ?_
  rintro e w1 ⟨rfl, hb⟩
  go_wp2_with fail
  refine (R1.out _).mono ?_
  rintro e w2 ⟨rfl, hx⟩
  replace hb := hb.trans (hx.mono hb.size)
  clear hx
  go_wp2_with fail
  refine (R2.out _).mono ?_
  rintro e w3 ⟨rfl, hx⟩
  replace hb := hb.trans (hx.mono hb.size)
  clear hx R1 R2
  go_wp2_with fail
  refine (R3.out _).mono ?_
  rintro e w4 ⟨rfl, hx⟩
  replace hb := hb.trans (hx.mono hb.size)
  clear hx R3
  go_wp2_with fail
  refine (R4.out _).mono ?_
  rintro e w5 ⟨rfl, hx⟩
  replace hb := hb.trans (hx.mono hb.size)
  clear hx R4
  go_wp2_with fail
  refine (R5.out _).mono ?_
  rintro e w6 ⟨rfl, hx⟩
  replace hb := hb.trans (hx.mono hb.size)
  clear hx R5
  go_wp2_with fail
  refine (R6.out _).mono ?_
  rintro e w7 ⟨rfl, hx⟩
  replace hb := hb.trans (hx.mono hb.size)
  clear hx R6
  go_wp2_with fail
  refine (R7.out _).mono ?_
  rintro e w8 ⟨rfl, hx⟩
  replace hb := hb.trans (hx.mono hb.size)
  clear hx R7
  rcases HQ.out with rfl | ⟨rfl, h1, rfl | ⟨rfl, h2 | ⟨h2, h3⟩⟩⟩
  all_goals
    clear HQ
    go_wp2_with fail
    all_goals
      go_ret
      exact ret_bool rfl hb

theorem lnear_all (s t u : ByteArray) (w : World) (hs : s.size ≤ maxLen) (ht : t.size ≤ maxLen) (hu : u.size ≤ maxLen) :
    Calls Try.prog 7 #[.string s, .string t, .string u] w (Ret w (.bool true)) := by
  by_cases h : bothE s.data.toList t.data.toList = 0 ∧ checkP u.data.toList = 0
  · exact lnear_walk s t u w hs ht hu h
  · exact lnear_early s t u w hs ht hu h

open Go.ChangeShapes Go.WideShapes Go.ChangeAt Go.Joins Go.ChangeMaps
theorem lnear_own : ownKnob Try.prog.godebug = none := by kernel_rfl
theorem lnear_laid : laidOutB Try.prog = true := by kernel_rfl
set_option maxRecDepth 100000 in
theorem lnear_lifted (os : Os) (started : os.Started) (H : Type) (enc : TypeId × Value → H) :
    ReturnsInHanded {} Try.checked os 7 .any (Rows.labelNearSpec.pre6 enc Try.prog Try.f7 Rows.labelNearRow.domain false) (Rows.labelNearSpec.post enc Try.prog Try.f7 false true false false) := by
  refine returnsInHanded_of_change (C := Try.checked) lnear_own started (by kernel_rfl) Try.func7
    (ChangeSpec.witness6 (enc := enc) (C := Try.checked) false ⟨#[], #[.string ⟨#[]⟩, .string ⟨#[]⟩, .string ⟨#[]⟩], []⟩ 8 (by kernel_rfl) (by kernel_rfl) (by kernel_rfl) (by kernel_rfl)) ?_
  intro W base args ds gs before hval0 hW hcnd _
  have hval : ∀ (j : Nat) t v, Try.f7.params[j]? = some t → args[j]? = some v → Value.okWide Try.prog W .any base t v := hval0
  have hW' := hW
  obtain ⟨p, q, hA0, hV, rfl, hfz, hnd⟩ := hW
  have hA : DataW.TrodAll enc Try.prog W 0 (fun _ => true) true Try.f7.params.toList args.toList ds p := hA0
  rw [Try.params7] at hA hval
  obtain ⟨v0, vs0, d0, ds0, p0, q0, hargs, rfl, rfl, h0, r0⟩ := trodAll_cons hA
  obtain ⟨v1, vs1, d1, ds1, p1, q1, rfl, rfl, rfl, h1, r1⟩ := trodAll_cons r0
  obtain ⟨v2, vs2, d2, ds2, p2, q2, rfl, rfl, rfl, h2, r2⟩ := trodAll_cons r1
  obtain ⟨rfl, rfl, rfl⟩ := trodAll_nil r2
  obtain rfl : args = #[v0, v1, v2] := by cases args; simp_all
  obtain ⟨rfl, rfl⟩ := trodVars_none hV
  obtain ⟨s0, rfl, rfl, rfl, hs0⟩ := open_string Try.underlying9 (hval 0 9 v0 rfl rfl) h0
  obtain ⟨s1, rfl, rfl, rfl, hs1⟩ := open_string Try.underlying9 (hval 1 9 v1 rfl rfl) h1
  obtain ⟨s2, rfl, rfl, rfl, hs2⟩ := open_string Try.underlying9 (hval 2 9 v2 rfl rfl) h2
  refine (lnear_all s0 s1 s2 W hs0 hs1 hs2).mono fun e W' ⟨he, hb⟩ => ?_
  exact ⟨_, he, law_post lnear_laid hW' rfl (by kernel_rfl) rfl Try.underlying4 rfl rfl rfl hb⟩

theorem lnear_holds : Rows.LabelNearSaid :=
  OpenClaim.holds_of_wide 7 Try.f7 rfl rfl rfl rfl rfl rfl rfl ⟨rfl, rfl, rfl, rfl, rfl⟩ rfl rfl rfl rfl rfl (by kernel_rfl) Try.func7 (by kernel_rfl)
    (of_decide_eq_true (by kernel_rfl)) (by unfold Func.isWrapper; first | (rw [if_pos (by decide +kernel)]; kernel_rfl) | (rw [if_neg (by decide +kernel)]; exact ⟨rfl, rfl⟩))
    (fun os started H enc _ => lnear_lifted os started H enc)
#print axioms lnear_holds
end Go.Proofs.Ytkjgcippcbfmgaa
