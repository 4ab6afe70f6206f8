/- both, under, Under, Join, Common of the program; Both, shared, Under, Common, Join of the reference. -/
import Derived.Test.YtkjgcippcbfmgaaLabP
namespace Go.Proofs.Ytkjgcippcbfmgaa
open Go.RowKit Go.Rel

theorem both_any (s t : ByteArray) (w : World) (hs : s.size ≤ maxLen) (ht : t.size ≤ maxLen) :
    Calls Try.prog 42 #[.string s, .string t] w (Ret w (.int .i64 (bothE s.data.toList t.data.toList))) := by
  have r1 := fun W => check_any s.data.toList W (by rw [← Lib.size_eq]; exact hs)
  have r2 := fun W => check_any t.data.toList W (by rw [← Lib.size_eq]; exact ht)
  rw [str_of] at r1 r2
  unfold bothE
  generalize checkP s.data.toList = E at *
  have R1 := Lib.hid r1
  have R2 := Lib.hid r2
  clear r1 r2
  by_cases hE : E = 0
  · subst hE
    rw [if_neg (by simp)]
    go_enter Try.func42, Try.ntmps42
    go_wp2_with fail
    refine (R1.out _).mono ?_
    rintro e W ⟨rfl, hb⟩
    go_wp2_with fail
    refine (R2.out _).mono ?_
    rintro e W2 ⟨rfl, hb2⟩
    replace hb := hb.trans (hb2.mono hb.size)
    clear hb2
    go_wp2_with fail
    go_ret
    exact ⟨rfl, hb⟩
  · rw [if_pos hE]
    have hE' : (E != 0) = true := by simpa using hE
    clear hE
    go_enter Try.func42, Try.ntmps42
    go_wp2_with fail
    refine (R1.out _).mono ?_
    rintro e W ⟨rfl, hb⟩
    go_wp2_with fail
    go_ret
    exact ⟨rfl, hb⟩

theorem refBoth_any (s t : ByteArray) (w : World) (hs : s.size ≤ maxLen) (ht : t.size ≤ maxLen) :
    Calls Try.prog 44 #[.string s, .string t] w (Ret w (.int .i64 (bothE s.data.toList t.data.toList))) := by
  have r1 := fun W => refCheck_any s W hs
  have r2 := fun W => refCheck_any t W ht
  unfold bothE
  generalize checkP s.data.toList = E at *
  have R1 := Lib.hid r1
  have R2 := Lib.hid r2
  clear r1 r2
  by_cases hE : E = 0
  · subst hE
    rw [if_neg (by simp)]
    go_enter Try.func44, Try.ntmps44
    go_wp2_with fail
    refine (R1.out _).mono ?_
    rintro e W ⟨rfl, hb⟩
    go_wp2_with fail
    refine (R2.out _).mono ?_
    rintro e W2 ⟨rfl, hb2⟩
    replace hb := hb.trans (hb2.mono hb.size)
    clear hb2
    go_wp2_with fail
    go_ret
    exact ⟨rfl, hb⟩
  · rw [if_pos hE]
    have hE' : (E != 0) = true := by simpa using hE
    clear hE
    go_enter Try.func44, Try.ntmps44
    go_wp2_with fail
    refine (R1.out _).mono ?_
    rintro e W ⟨rfl, hb⟩
    go_wp2_with fail
    refine (R1.out _).mono ?_
    rintro e W2 ⟨rfl, hb2⟩
    replace hb := hb.trans (hb2.mono hb.size)
    clear hb2
    go_wp2_with fail
    go_ret
    exact ⟨rfl, hb⟩

theorem eq_list (s t : ByteArray) : (s.toList == t.toList) = decide (s.data.toList = t.data.toList) := by
  rw [Lib.toList_data, Lib.toList_data, Bool.eq_iff_iff, beq_iff_eq, decide_eq_true_eq]

set_option maxHeartbeats 1000000 in
theorem under_any (s t : ByteArray) (w : World) (ht : t.size ≤ 1000000) :
    Calls Try.prog 43 #[.string s, .string t] w (Ret w (.bool (underB s.data.toList t.data.toList))) := by
  have hi := under_iff s.data.toList t.data.toList
  have r1 := fun W => Try.strings_HasPrefix s (t ++ str [47]) W
  rw [show (t ++ str [47]).data.toList = t.data.toList ++ [47] by rw [← str_of t, str_append]; rfl] at r1
  by_cases h0 : t.data.toList = []
  · have q0 : t.toList.isEmpty = true := by rw [Lib.toList_data, h0]; rfl
    rw [show underB s.data.toList t.data.toList = true from hi.1 (.inl h0)]
    clear hi r1 h0
    go_enter Try.func43, Try.ntmps43
    go_wp2_with fail
    go_ret
    exact ⟨rfl, Below.refl _ _⟩
  have q0 : t.toList.isEmpty = false := by rw [Lib.toList_data]; simpa using h0
  by_cases h1 : s.data.toList = t.data.toList
  · have q1 : (s.toList == t.toList) = true := by rw [eq_list]; exact decide_eq_true h1
    rw [show underB s.data.toList t.data.toList = true from hi.1 (.inr (.inl h1))]
    clear hi r1 h0 h1
    go_enter Try.func43, Try.ntmps43
    go_wp2_with fail
    go_ret
    exact ⟨rfl, Below.refl _ _⟩
  have q1 : (s.toList == t.toList) = false := by rw [eq_list]; exact decide_eq_false h1
  have hv : underB s.data.toList t.data.toList = Lib.hasPrefix s.data.toList (t.data.toList ++ [47]) := by
    rw [Bool.eq_iff_iff, ← hi]
    constructor
    · rintro (h | h | h)
      · exact absurd h h0
      · exact absurd h h1
      · exact h
    · exact fun h => .inr (.inr h)
  rw [hv]
  have R1 := Lib.hid r1
  clear hi r1 h0 h1 hv
  go_enter Try.func43, Try.ntmps43
  go_wp2_with fail
  refine (R1.out _).mono ?_
  rintro e W ⟨rfl, rfl⟩
  go_wp2_with fail
  go_ret
  exact ⟨rfl, Below.refl _ _⟩

/-- How many steps a string has. -/
def pathM (v : Value) : Nat := match v with | .string s => (cutP s.data.toList).length | _ => 0
theorem pathM_str (l : Bs) : pathM (.string (str l)) = (cutP l).length := rfl
theorem str_of_path (l : Bs) : (str l).data.toList = l := rfl

set_option maxHeartbeats 1000000 in
theorem opUnder_any (s t : ByteArray) (w : World) (hs : s.size ≤ 100000) (ht : t.size ≤ 100000) :
    Calls Try.prog 24 #[.string s, .string t] w (Ret w (.tuple #[.bool (decide (bothE s.data.toList t.data.toList = 0) && underB s.data.toList t.data.toList), .int .i64 (bothE s.data.toList t.data.toList)])) := by
  have R1 := Lib.hid (fun W => both_any s t W (by unfold maxLen; omega) (by unfold maxLen; omega))
  have R2 := Lib.hid (fun W => under_any s t W (by omega))
  generalize bothE s.data.toList t.data.toList = E at *
  by_cases hE : E = 0
  · subst hE
    rw [decide_eq_true rfl, Bool.true_and]
    go_enter Try.func24, Try.ntmps24
    go_wp2_with fail
    refine (R1.out _).mono ?_
    rintro e W ⟨rfl, hb⟩
    go_wp2_with fail
    refine (R2.out _).mono ?_
    rintro e W2 ⟨rfl, hb2⟩
    replace hb := hb.trans (hb2.mono hb.size)
    clear hb2
    go_wp2_with fail
    go_ret2
    exact ⟨rfl, hb⟩
  · have hE' : (E != 0) = true := by simpa using hE
    rw [decide_eq_false hE, Bool.false_and]
    clear hE
    go_enter Try.func24, Try.ntmps24
    go_wp2_with fail
    refine (R1.out _).mono ?_
    rintro e W ⟨rfl, hb⟩
    go_wp2_with fail
    go_ret2
    exact ⟨rfl, hb⟩

set_option maxHeartbeats 1000000 in
theorem common_any (s t : ByteArray) (w : World) (hs : s.size ≤ 100000) (ht : t.size ≤ 100000) :
    Calls Try.prog 26 #[.string s, .string t] w (Ret w (.tuple #[.string (str (commonS s.data.toList t.data.toList)), .int .i64 (bothE s.data.toList t.data.toList)])) := by
  have hlen : s.data.toList.length = s.size := by simp
  have R1 := Lib.hid (fun W => both_any s t W (by unfold maxLen; omega) (by unfold maxLen; omega))
  by_cases hE : bothE s.data.toList t.data.toList = 0
  case neg =>
    have hE' : (bothE s.data.toList t.data.toList != 0) = true := by simpa using hE
    have hc : commonS s.data.toList t.data.toList = [] := by unfold commonS; rw [if_neg hE]
    rw [hc]
    generalize bothE s.data.toList t.data.toList = E at *
    clear hE hc
    go_enter Try.func26, Try.ntmps26
    go_wp2_with fail
    refine (R1.out _).mono ?_
    rintro e W ⟨rfl, hb⟩
    go_wp2_with fail
    go_ret2
    exact ⟨rfl, hb⟩
  have hc : commonS s.data.toList t.data.toList = pathP ((cutP s.data.toList).take (sharedN (cutP s.data.toList) (cutP t.data.toList))) := by unfold commonS; rw [if_pos hE]
  have hp : checkP s.data.toList = 0 := by
    unfold bothE at hE
    by_cases h : checkP s.data.toList = 0
    · exact h
    · rw [if_pos h] at hE; exact absurd hE h
  rw [hc, hE]
  rw [hE] at R1
  have hsl := (sharedN_le (cutP s.data.toList) (cutP t.data.toList)).1
  have hab := fun k hk => above_iff (q := t.data.toList) hp (k := k) hk
  have hup := fun k hk => up_take hp (k := k) hk
  have hpl := fun k hk => path_le (cutP s.data.toList) (k := k) hk
  have hcl := fun k (hk : k ≤ (cutP s.data.toList).length) => (show (cutP (pathP ((cutP s.data.toList).take k))).length = k by rw [cut_take hp, List.length_take]; omega)
  rw [path_cut, hlen] at hpl
  have hfull : s = str (pathP ((cutP s.data.toList).take (cutP s.data.toList).length)) := by rw [List.take_length, path_cut]; rfl
  obtain ⟨m, hm⟩ : ∃ m, (cutP s.data.toList).length = m := ⟨_, rfl⟩
  obtain ⟨z, hz⟩ : ∃ z, sharedN (cutP s.data.toList) (cutP t.data.toList) = z := ⟨_, rfl⟩
  obtain ⟨P, hP⟩ : ∃ P : Nat → Bs, P = fun k => pathP ((cutP s.data.toList).take k) := ⟨_, rfl⟩
  have hPk : ∀ k, pathP ((cutP s.data.toList).take k) = P k := fun k => by rw [hP]
  simp only [hPk] at hab hup hpl hcl hfull ⊢
  rw [hm] at hfull hsl
  simp only [hm, hz] at hab hup hpl hcl
  rw [hz] at hsl ⊢
  have HA := Lib.hid (show _ ∧ _ ∧ _ from ⟨hab, hup, hpl⟩)
  have HCL := Lib.hid hcl
  have hn2 : m ≤ 100001 := by have := cutP_le (l := s.data.toList); omega
  have HF := Lib.hid hfull
  clear hab hup hpl hcl hP hPk hm hz hp hE hc hlen hfull
  go_enter Try.func26, Try.ntmps26
  go_wp2_with fail
  refine (R1.out _).mono ?_
  rintro e W ⟨rfl, hb⟩
  clear R1
  go_wp2_with fail
  rw [HF.out]
  go_loopw [0] (fun sv wr => ∃ k : Nat, z ≤ k ∧ k ≤ m ∧ sv = .string (str (P k)) ∧ Below w.heap.size w wr) (fun sv _ => pathM sv)
  case atStart => exact ⟨m, hsl, Nat.le_refl _, rfl, hb⟩
  case round =>
    obtain ⟨k, hzk, hk, rfl, hb1⟩ := hrel
    clear hb
    have hsk : (str (P k)).size ≤ s.size := by rw [str_size]; exact HA.out.2.2 k hk
    have r2 := fun W => under_any t (str (P k)) W (by omega)
    rw [str_list, HA.out.1 k hk] at r2
    by_cases hkz : k ≤ z
    · obtain rfl : k = z := by omega
      rw [decide_eq_true hkz] at r2
      have R2 := Lib.hid r2
      clear r2
      go_wp2_with fail
      refine (R2.out _).mono ?_
      rintro e W2 ⟨rfl, hb2⟩
      replace hb1 := hb1.trans (hb2.mono hb1.size)
      clear hb2
      go_wp2_with fail
      go_ret2
      exact ⟨rfl, hb1⟩
    · rw [decide_eq_false hkz] at r2
      obtain ⟨j, rfl⟩ : ∃ j, k = j + 1 := ⟨k - 1, by omega⟩
      have r3 := fun W => cut_any (str (P (j + 1))) W (by omega)
      rw [str_list, HA.out.2.1 j (by omega)] at r3
      have R2 := Lib.hid r2
      have R3 := Lib.hid r3
      have HM := Lib.hid (show pathM (.string (str (P j))) < pathM (.string (str (P (j + 1)))) by rw [pathM_str, pathM_str, HCL.out j (by omega), HCL.out (j + 1) hk]; omega)
      clear r2 r3
      go_wp2_with fail
      refine (R2.out _).mono ?_
      rintro e W2 ⟨rfl, hb2⟩
      replace hb1 := hb1.trans (hb2.mono hb1.size)
      clear hb2
      go_wp2_with fail
      refine (R3.out _).mono ?_
      rintro e W3 ⟨rfl, hb2⟩
      replace hb1 := hb1.trans (hb2.mono hb1.size)
      clear hb2
      go_wp2_with fail
      go_roundw
      case rel => exact ⟨j, by omega, by omega, rfl, hb1⟩
      case measure => exact HM.out

set_option maxRecDepth 100000 in
set_option maxHeartbeats 1000000 in
theorem join_any (s t : ByteArray) (w : World) (hs : s.size ≤ 100000) (ht : t.size ≤ 100000) :
    Calls Try.prog 22 #[.string s, .string t] w (Ret w (.tuple #[.string (str (joinS s.data.toList t.data.toList)), .int .i64 (joinE s.data.toList t.data.toList)])) := by
  have r1 := fun W => check_any s.data.toList W (by rw [← Lib.size_eq]; unfold maxLen; omega)
  rw [str_of] at r1
  have r2 := fun W => read_any t W (by unfold maxLen; omega)
  have hsl := Lib.size_eq s
  have htl := Lib.size_eq t
  have hol : (joinO s.data.toList t.data.toList).length ≤ maxLen := by
    by_cases h : s.data.toList = []
    · rw [h, joinO_nil]; unfold maxLen; omega
    · rw [joinO_more _ h, List.length_append, List.length_cons]; unfold maxLen; omega
  have r3 := fun W => check_any (joinO s.data.toList t.data.toList) W hol
  unfold joinS joinE
  obtain ⟨E, hEd⟩ : ∃ E, checkP s.data.toList = E := ⟨_, rfl⟩
  rw [hEd] at r1 ⊢
  by_cases hE : E = 0
  case neg =>
    have hE' : (E != 0) = true := by simpa using hE
    rw [if_pos hE, if_neg hE]
    have R1 := Lib.hid r1
    clear hE r1 r2 r3
    go_enter Try.func22, Try.ntmps22
    go_wp2_with fail
    refine (R1.out _).mono ?_
    rintro e W ⟨rfl, hb⟩
    go_wp2_with fail
    go_ret2
    exact ⟨rfl, hb⟩
  subst hE
  rw [if_neg (show ¬ ((0 : Int) ≠ 0) by simp)]
  have R1 := Lib.hid r1
  generalize readR t.data.toList = Y at *
  obtain ⟨y1, y2⟩ := Y
  cases hok : stepOk t.data.toList
  · rw [hok] at r2
    rw [if_pos rfl, if_neg (by decide)]
    have R2 := Lib.hid r2
    clear r1 r2 r3 hok
    go_enter Try.func22, Try.ntmps22
    go_wp2_with fail
    refine (R1.out _).mono ?_
    rintro e W ⟨rfl, hb⟩
    go_wp2_with fail
    refine (R2.out _).mono ?_
    rintro e W2 ⟨rfl, hb2⟩
    replace hb := hb.trans (hb2.mono hb.size)
    clear hb2
    go_wp2_with fail
    go_ret2
    exact ⟨rfl, hb.trans ((below_alloc W2 _).mono hb.size)⟩
  rw [hok] at r2
  rw [if_neg (show ¬ (true = false) by simp)]
  have R2 := Lib.hid r2
  have hO : (s.data.toList = [] ∧ str (joinO s.data.toList t.data.toList) = t) ∨ (s.data.toList ≠ [] ∧ s ++ str [47] ++ t = str (joinO s.data.toList t.data.toList)) := by
    by_cases h : s.data.toList = []
    · exact .inl ⟨h, by rw [h, joinO_nil]; rfl⟩
    · refine .inr ⟨h, ?_⟩
      rw [joinO_more _ h]
      conv => lhs; rw [← str_of s, ← str_of t, str_append, str_append]
      rw [List.append_assoc]; rfl
  generalize joinO s.data.toList t.data.toList = O at *
  generalize checkP O = E2 at *
  have hE2 : (E2 = 0 ∧ (E2 != 0) = false) ∨ (E2 ≠ 0 ∧ (E2 != 0) = true) := by
    by_cases h : E2 = 0
    · exact .inl ⟨h, by simp [h]⟩
    · exact .inr ⟨h, by simpa using h⟩
  rcases hO with ⟨h0, hO⟩ | ⟨h0, hO⟩
  · have q0 : s.toList.isEmpty = true := by rw [Lib.toList_data, h0]; rfl
    rw [hO] at r3
    have R3 := Lib.hid r3
    have HO := Lib.hid hO
    clear r1 r2 r3 hok h0 hO hEd hsl htl hol
    rcases hE2 with ⟨rfl, h2⟩ | ⟨h1, h2⟩
    · rw [if_pos rfl]
      go_enter Try.func22, Try.ntmps22
      go_wp2_with fail
      refine (R1.out _).mono ?_
      rintro e W ⟨rfl, hb⟩
      go_wp2_with fail
      refine (R2.out _).mono ?_
      rintro e W2 ⟨rfl, hb2⟩
      replace hb := hb.trans (hb2.mono hb.size)
      clear hb2
      go_wp2_with fail
      refine (R3.out _).mono ?_
      rintro e W3 ⟨rfl, hb2⟩
      replace hb := (hb.trans ((below_alloc W2 (.cells #[.string (str y1), .int .i64 y2] 63)).mono hb.size))
      replace hb := hb.trans (hb2.mono hb.size)
      clear hb2
      go_wp2_with fail
      go_ret2
      exact ⟨by rw [HO.out]; rfl, hb⟩
    · rw [if_neg h1]
      clear h1
      go_enter Try.func22, Try.ntmps22
      go_wp2_with fail
      refine (R1.out _).mono ?_
      rintro e W ⟨rfl, hb⟩
      go_wp2_with fail
      refine (R2.out _).mono ?_
      rintro e W2 ⟨rfl, hb2⟩
      replace hb := hb.trans (hb2.mono hb.size)
      clear hb2
      go_wp2_with fail
      refine (R3.out _).mono ?_
      rintro e W3 ⟨rfl, hb2⟩
      replace hb := (hb.trans ((below_alloc W2 (.cells #[.string (str y1), .int .i64 y2] 63)).mono hb.size))
      replace hb := hb.trans (hb2.mono hb.size)
      clear hb2
      go_wp2_with fail
      go_ret2
      exact ⟨rfl, hb⟩
  · have q0 : s.toList.isEmpty = false := by rw [Lib.toList_data]; simpa using h0
    have hO' : s ++ ⟨#[47]⟩ ++ t = str O := hO
    have R3 := Lib.hid r3
    have HO := Lib.hid hO'
    clear r1 r2 r3 hok h0 hO hO' hEd hsl htl hol
    rcases hE2 with ⟨rfl, h2⟩ | ⟨h1, h2⟩
    · rw [if_pos rfl]
      go_enter Try.func22, Try.ntmps22
      go_wp2_with fail
      refine (R1.out _).mono ?_
      rintro e W ⟨rfl, hb⟩
      go_wp2_with fail
      refine (R2.out _).mono ?_
      rintro e W2 ⟨rfl, hb2⟩
      replace hb := hb.trans (hb2.mono hb.size)
      clear hb2
      go_wp2_with fail
      rw [HO.out]
      refine (R3.out _).mono ?_
      rintro e W3 ⟨rfl, hb2⟩
      replace hb := (hb.trans ((below_alloc W2 (.cells #[.string (str y1), .int .i64 y2] 63)).mono hb.size))
      replace hb := hb.trans (hb2.mono hb.size)
      clear hb2
      go_wp2_with fail
      go_ret2
      exact ⟨rfl, hb⟩
    · rw [if_neg h1]
      clear h1
      go_enter Try.func22, Try.ntmps22
      go_wp2_with fail
      refine (R1.out _).mono ?_
      rintro e W ⟨rfl, hb⟩
      go_wp2_with fail
      refine (R2.out _).mono ?_
      rintro e W2 ⟨rfl, hb2⟩
      replace hb := hb.trans (hb2.mono hb.size)
      clear hb2
      go_wp2_with fail
      rw [HO.out]
      refine (R3.out _).mono ?_
      rintro e W3 ⟨rfl, hb2⟩
      replace hb := (hb.trans ((below_alloc W2 (.cells #[.string (str y1), .int .i64 y2] 63)).mono hb.size))
      replace hb := hb.trans (hb2.mono hb.size)
      clear hb2
      go_wp2_with fail
      go_ret2
      exact ⟨rfl, hb⟩
end Go.Proofs.Ytkjgcippcbfmgaa
