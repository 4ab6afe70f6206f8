/- Join of the reference. -/
import Derived.Test.YtkjgcippcbfmgaaLabK
namespace Go.Rel
open Go.RowKit
theorem ownsRow_empty (w : World) (e : TypeId) (size : Nat) : (w.alloc (.cells #[] e)).ownsRow w.heap.size e size (.slice (some ⟨w.heap.size, 0, none⟩) 0 0) 0 [] :=
  ⟨by simp, .inr ⟨w.heap.size, 0, #[], rfl, Nat.le_refl _, heap_alloc_new w _, Nat.le_refl _, Nat.zero_le _, by simp, by simp⟩⟩
theorem str_eta (s : ByteArray) : Value.string s = .string (str s.data.toList) := rfl
end Go.Rel
namespace Go.Proofs.Ytkjgcippcbfmgaa
open Go.RowKit Go.Rel

set_option maxRecDepth 100000 in
set_option maxHeartbeats 2000000 in
theorem refJoin_any (s t : ByteArray) (w : World) (hs : s.size ≤ 40000) (ht : t.size ≤ 40000) :
    Calls Try.prog 23 #[.string s, .string t] w (Ret w (.tuple #[.string (str (joinS s.data.toList t.data.toList)), .int .i64 (joinE s.data.toList t.data.toList)])) := by
  have r1 := fun W => refCheck_any s W (by unfold maxLen; omega)
  have r2 := fun W => refStep_any t W (by unfold maxLen; omega)
  have hsl := Lib.size_eq s
  have htl := Lib.size_eq t
  have hol : (joinO s.data.toList t.data.toList).length ≤ 100000 := by
    by_cases h : s.data.toList = []
    · rw [h, joinO_nil]; omega
    · rw [joinO_more _ h, List.length_append, List.length_cons]; omega
  have r3 := fun W => refCheck_any (str (joinO s.data.toList t.data.toList)) W (by rw [str_size]; unfold maxLen; omega)
  have r4 := fun W => refCut_any s W (by omega)
  have hcl : (cutP s.data.toList).length ≤ 40001 := by have := cutP_le (l := s.data.toList); omega
  have hjo : joinO s.data.toList t.data.toList = pathP (cutP s.data.toList ++ [t.data.toList]) := rfl
  have hte : (.string t : Value) = .string (str t.data.toList) := rfl
  unfold joinS joinE
  obtain ⟨sa, sb, hsv⟩ := stepV_parts t.data.toList
  rw [hsv] at r2
  rw [str_list] at r3
  obtain ⟨E, hEd⟩ : ∃ E, checkP s.data.toList = E := ⟨_, rfl⟩
  rw [hEd] at r1 ⊢
  by_cases hE : E = 0
  case neg =>
    have hE' : (E != 0) = true := by simpa using hE
    rw [if_pos hE, if_neg hE]
    have R1 := Lib.hid r1
    clear hE r1 r2 r3 r4 hsl htl hol hcl hjo hsv hte hEd
    go_enter Try.func23, Try.ntmps23
    go_wp2_with fail
    refine (R1.out _).mono ?_
    rintro e W ⟨rfl, hb⟩
    go_wp2_with fail
    refine (R1.out _).mono ?_
    rintro e W2 ⟨rfl, hx⟩
    replace hb := hb.trans (hx.mono hb.size)
    clear hx
    go_wp2_with fail
    go_ret2
    exact ⟨rfl, hb⟩
  subst hE
  rw [if_neg (show ¬ ((0 : Int) ≠ 0) by simp)]
  have R1 := Lib.hid r1
  cases hok : stepOk t.data.toList
  · rw [hok] at r2
    rw [if_pos rfl, if_neg (by decide)]
    have R2 := Lib.hid r2
    clear r1 r2 r3 r4 hok hsl htl hol hcl hjo hsv hte hEd
    go_enter Try.func23, Try.ntmps23
    go_wp2_with fail
    refine (R1.out _).mono ?_
    rintro e W ⟨rfl, hb⟩
    go_wp2_with fail
    refine (R2.out _).mono ?_
    rintro e W2 ⟨rfl, rfl⟩
    go_wp2_with fail
    go_ret2
    exact ⟨rfl, hb⟩
  rw [hok] at r2
  rw [if_neg (show ¬ (true = false) by simp)]
  have R2 := Lib.hid r2
  generalize joinO s.data.toList t.data.toList = O at *
  generalize checkP O = E2 at *
  generalize cutP s.data.toList = C at *
  obtain ⟨T, hT⟩ : ∃ T, t.data.toList = T := ⟨_, rfl⟩
  rw [hT] at hjo
  have htT : t = str T := by rw [← hT]; rfl
  obtain ⟨n, hn⟩ : ∃ n, C.length = n := ⟨_, rfl⟩
  rw [hn] at hcl
  have R3 := Lib.hid r3
  have R4 := Lib.hid r4
  have HJ := Lib.hid (show _ ∧ _ ∧ _ from ⟨hjo, hn, hol⟩)
  obtain ⟨i0, hi, hz0, hz1, hz2⟩ := info_parts Try.infoStr
  have HI := Lib.hid (show _ ∧ _ ∧ _ ∧ _ from ⟨hi, hz0, hz1, hz2⟩)
  have hE2 : (E2 = 0 ∧ (E2 != 0) = false) ∨ (E2 ≠ 0 ∧ (E2 != 0) = true) := by
    by_cases h : E2 = 0
    · exact .inl ⟨h, by simp [h]⟩
    · exact .inr ⟨h, by simpa using h⟩
  have HE2 := Lib.hid hE2
  obtain ⟨V, hV⟩ : ∃ V, (if E2 = 0 then O else []) = V := ⟨_, rfl⟩
  rw [hV]
  have HV := Lib.hid hV
  clear hV hT
  subst htT
  clear r1 r2 r3 r4 hok hsl htl hol hsv hjo hn hte hE2 hi hz0 hz1 hz2 hEd
  go_enter Try.func23, Try.ntmps23
  go_wp2_with fail
  refine (R1.out _).mono ?_
  rintro e W ⟨rfl, hb⟩
  go_wp2_with fail
  refine (R2.out _).mono ?_
  rintro e W2 ⟨rfl, rfl⟩
  clear R1 R2
  go_wp2_with fail
  refine (R4.out _).mono ?_
  rintro e W3 ⟨v, rfl, ⟨A, ca, rfl, -, hnA, hr⟩, hx⟩
  clear R4
  have hs0 := below_alloc W (.cells #[] 9)
  have hown0 := ownsRow_below (ownsRow_empty W 9 1) hx
  have hb3 : Below w.heap.size w W3 := (hb.trans (hs0.mono hb.size)).trans (hx.mono (Nat.le_trans hb.size hs0.size))
  have hsz2 : W.heap.size + 1 ≤ W3.heap.size := by have := hx.size; simpa using this
  have hbs := hb.size
  clear hx hs0 hb
  obtain ⟨hi, hz0, hz1, hz2⟩ := HI.out
  rw [HJ.out.2.1]
  go_wp2_with (at_builtin; refine wpList_append_recs rfl _ _ 22 rfl W.heap.size 9 i0 (.string ⟨#[]⟩) 1 16 Try.underlying22 hi hz0 hz1 hz2 rfl (by decide) _ 0 _ rfl hown0 strC_len strC_one rfl hnA HJ.out.2.1 hr (by unfold maxLen; omega) (by omega) (by omega) ?_)
  intro v1 w4 hown1 hgrow1
  have hb4 := hb3.grown hgrow1 (Nat.le_trans hbs (by omega)) (fun r hr => Nat.le_trans hbs (hown0.lt r hr).1)
  have hsz4 : W.heap.size + 1 ≤ w4.heap.size := by have := hgrow1.size; omega
  have hown1' := hown1.alloc (.cells #[.string (str T)] 9)
  clear hown0 hr hgrow1 hb3
  go_wp2_with (at_builtin; refine wpList_append_own _ rfl _ _ 22 rfl W.heap.size 9 i0 (.string ⟨#[]⟩) 1 16 Try.underlying22 hi hz0 hz1 hz2 rfl (by decide) _ _ _ rfl hown1' ⟨w4.heap.size, 0, none⟩ 1 1 (strC T) rfl rfl (cells_new_str w4 T 9) (strC_one T) ?c3 ?c4 ?c5 ?_)
  case c3 => unfold maxLen; omega
  case c4 => omega
  case c5 => simp; omega
  intro v2 w5 hown2 hgrow2 _
  have hb5 := (hb4.trans ((below_alloc w4 (.cells #[.string (str T)] 9)).mono hb4.size)).grown hgrow2 (by simp; omega) (fun r hr => Nat.le_trans hbs (hown1.lt r hr).1)
  rw [← flat_one] at hown2
  obtain ⟨A2, ca2, rfl, -, -, hr2⟩ := strs_of_own (by rw [List.length_append, HJ.out.2.1]; rfl) hown2
  rw [List.length_append, HJ.out.2.1, List.length_singleton]
  have r5 := refPath_any A2 (n + 1) ca2 (C ++ [T]) w5 (by rw [List.length_append, HJ.out.2.1]; rfl) hr2 (by rw [← HJ.out.1]; exact HJ.out.2.2) (by omega)
  rw [← HJ.out.1] at r5
  have R5 := Lib.hid r5
  clear r5 hr2 hown2 hown1 hown1' hgrow2 hb4 hi hz0 hz1 hz2 HJ
  go_wp2_with fail
  refine (R5.out).mono ?_
  rintro e w6 ⟨rfl, rfl⟩
  go_wp2_with fail
  refine (R3.out _).mono ?_
  rintro e w7 ⟨rfl, hx⟩
  replace hb5 := hb5.trans (hx.mono hb5.size)
  clear hx R5
  rcases HE2.out with ⟨rfl, h2⟩ | ⟨h1, h2⟩
  · have HO := Lib.hid (show V = O by rw [← HV.out]; rfl)
    clear HE2 HV
    go_wp2_with fail
    go_ret2
    exact ⟨by rw [HO.out]; rfl, hb5⟩
  · have HO := Lib.hid (show V = [] by rw [← HV.out, if_neg h1])
    clear HE2 HV h1
    go_wp2_with fail
    refine (R3.out _).mono ?_
    rintro e w8 ⟨rfl, hx⟩
    replace hb5 := hb5.trans (hx.mono hb5.size)
    clear hx
    go_wp2_with fail
    go_ret2
    exact ⟨by rw [HO.out]; rfl, hb5⟩
end Go.Proofs.Ytkjgcippcbfmgaa
