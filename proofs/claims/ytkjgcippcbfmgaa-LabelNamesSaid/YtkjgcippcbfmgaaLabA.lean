/- Name of both sides, letter and digit, and Cut at one byte. -/
import Derived.Laws.RangeAny
import Derived.Lib.OthersKept
import Derived.Deep.QuietTactic
import Derived.BigQuiet
import Derived.WalkSmall
import Derived.Test.YtkjgcippcbfmgaaBase
import Derived.Test.YtkjgcippcbfmgaaLabSpec
import Derived.Test.YtkjgcippcbfmgaaShelf
namespace Go.Rel
open Go.RowKit
theorem bool_ret {a b : Bool} (h : a = b) (w : World) : Same w (.bool b) (.returned (.bool a)) w := ⟨by rw [h], rfl⟩
/-- What may come at place k of a name. -/
theorem byte_cases (l : Bs) (k : Nat) (hk : k < l.length) :
    (isL l[k] = true ∧ namePre (l.take (k + 1)) = namePre (l.take k)) ∨
    (isL l[k] = false ∧ ((k = 0 ∧ nameOk l = false) ∨ (k ≠ 0 ∧ ((l[k].toNat = 45 ∧ namePre (l.take (k + 1)) = namePre (l.take k)) ∨ (l[k].toNat ≠ 45 ∧ ((isD l[k] = true ∧ namePre (l.take (k + 1)) = namePre (l.take k)) ∨ (isD l[k] = false ∧ nameOk l = false))))))) := by
  have hs := namePre_succ hk
  cases hL : isL l[k]
  · refine .inr ⟨rfl, ?_⟩
    by_cases h0 : k = 0
    · exact .inl ⟨h0, namePre_fail hk (by rw [if_pos h0, hL])⟩
    · rw [if_neg h0] at hs
      refine .inr ⟨h0, ?_⟩
      by_cases h45 : l[k].toNat = 45
      · exact .inl ⟨h45, by rw [hs]; simp [inN, h45]⟩
      · refine .inr ⟨h45, ?_⟩
        cases hD : isD l[k]
        · exact .inr ⟨rfl, namePre_fail hk (by rw [if_neg h0]; simp [inN, hL, hD, h45])⟩
        · exact .inl ⟨rfl, by rw [hs]; simp [inN, hD]⟩
  · refine .inl ⟨rfl, ?_⟩
    rw [hs]
    split
    · simp [hL]
    · simp [isL_in hL]
end Go.Rel
namespace Go.Proofs.Ytkjgcippcbfmgaa
open Go.RowKit Go.Rel

theorem letter_any (c : UInt8) (w : World) : Calls Try.prog 39 #[.int .u8 c.toNat] w (Same w (.bool (isL c))) := by
  unfold isL
  generalize c.toNat = n
  go_enter Try.func39, Try.ntmps39
  go_wp2
  all_goals
    go_ret
    refine bool_ret ?_ _
    rw [Bool.eq_iff_iff]
    simp
    omega

theorem digit_any (c : UInt8) (w : World) : Calls Try.prog 40 #[.int .u8 c.toNat] w (Same w (.bool (isD c))) := by
  unfold isD
  generalize c.toNat = n
  go_enter Try.func40, Try.ntmps40
  go_wp2
  all_goals
    go_ret
    refine bool_ret ?_ _
    rw [Bool.eq_iff_iff]
    simp
    omega

set_option maxHeartbeats 400000 in
theorem refName_any (s : ByteArray) (w : World) (hs : s.size ≤ maxLen) : Calls Try.prog 18 #[.string s] w (Same w (.bool (nameOk s.data.toList))) := by
  unfold maxLen at hs
  have hlen : s.data.toList.length = s.size := by simp
  have HL := Lib.hid hlen
  clear hlen
  go_enter Try.func18, Try.ntmps18
  go_wp2_with fail
  go_loop [3] (fun i => ∃ k : Nat, k ≤ s.size ∧ i = .int .i64 k ∧ Hid (namePre (s.data.toList.take k) = true)) (fun i => s.size - (intOf i).toNat)
  case atStart => exact ⟨0, Nat.zero_le _, rfl, rfl⟩
  case round =>
    obtain ⟨k, hk, rfl, HP⟩ := hrel
    by_cases hlt : k < s.size
    · have hcs := byte_cases s.data.toList k (by rw [HL.out]; exact hlt)
      have hget : s.data.toList[k]'(by rw [HL.out]; exact hlt) = s[k] := rfl
      rw [hget] at hcs
      have HC := Lib.hid hcs
      clear hcs hget
      rcases HC.out with ⟨h1, h2⟩ | ⟨h1, ⟨h0, h2⟩ | ⟨h0, ⟨h3, h2⟩ | ⟨h3, ⟨h4, h2⟩ | ⟨h4, h2⟩⟩⟩⟩
      case inl =>
        have HN := Lib.hid (h2.trans HP)
        clear HC HP h2
        go_wp2_with (first | (go_at_call 39; refine (letter_any _ _).mono ?_; rintro e w' ⟨rfl, rfl⟩) | (go_at_call 40; refine (digit_any _ _).mono ?_; rintro e w' ⟨rfl, rfl⟩))
        go_round
        case rel => exact ⟨k + 1, by omega, by go_num, HN⟩
        case measure => simp [intOf]; omega
      case inr.inl =>
        have HN := Lib.hid h2
        subst h0
        clear HC HP h2
        go_wp2_with (first | (go_at_call 39; refine (letter_any _ _).mono ?_; rintro e w' ⟨rfl, rfl⟩) | (go_at_call 40; refine (digit_any _ _).mono ?_; rintro e w' ⟨rfl, rfl⟩))
        go_ret
        exact bool_ret HN.out.symm _
      case inr.inr.inl =>
        have HN := Lib.hid (h2.trans HP)
        replace h0 : ((k : Int) == 0) = false := by simpa using h0
        replace h3 : (((s[k]).toNat : Int) != 45) = false := by simp; omega
        clear HC HP h2
        go_wp2_with (first | (go_at_call 39; refine (letter_any _ _).mono ?_; rintro e w' ⟨rfl, rfl⟩) | (go_at_call 40; refine (digit_any _ _).mono ?_; rintro e w' ⟨rfl, rfl⟩))
        go_round
        case rel => exact ⟨k + 1, by omega, by go_num, HN⟩
        case measure => simp [intOf]; omega
      case inr.inr.inr.inl =>
        have HN := Lib.hid (h2.trans HP)
        replace h0 : ((k : Int) == 0) = false := by simpa using h0
        replace h3 : (((s[k]).toNat : Int) != 45) = true := by simp; omega
        clear HC HP h2
        go_wp2_with (first | (go_at_call 39; refine (letter_any _ _).mono ?_; rintro e w' ⟨rfl, rfl⟩) | (go_at_call 40; refine (digit_any _ _).mono ?_; rintro e w' ⟨rfl, rfl⟩))
        go_round
        case rel => exact ⟨k + 1, by omega, by go_num, HN⟩
        case measure => simp [intOf]; omega
      case inr.inr.inr.inr =>
        have HN := Lib.hid h2
        replace h0 : ((k : Int) == 0) = false := by simpa using h0
        replace h3 : (((s[k]).toNat : Int) != 45) = true := by simp; omega
        clear HC HP h2
        go_wp2_with (first | (go_at_call 39; refine (letter_any _ _).mono ?_; rintro e w' ⟨rfl, rfl⟩) | (go_at_call 40; refine (digit_any _ _).mono ?_; rintro e w' ⟨rfl, rfl⟩))
        go_ret
        exact bool_ret HN.out.symm _
    · obtain rfl : k = s.size := by omega
      have hP : namePre s.data.toList = true := by
        have := HP
        unfold Hid at this
        rwa [List.take_of_length_le (by rw [HL.out]; exact Nat.le_refl _)] at this
      have hv : (decide ((1 : Int) ≤ s.size) && decide ((s.size : Int) ≤ 40)) = nameOk s.data.toList := by
        unfold nameOk
        rw [hP, HL.out, Bool.eq_iff_iff]
        simp
        omega
      have HV := Lib.hid hv
      clear hv hP HP
      go_wp2_with fail
      all_goals
        go_ret
        exact bool_ret (by rw [← HV.out, Bool.eq_iff_iff]; simp; omega) _

theorem below_iter (w : World) (s : ByteArray) (p : Nat) : Below w.heap.size w (w.iter s p) := below_alloc w _

set_option maxHeartbeats 1000000 in
theorem name_any (s : ByteArray) (w : World) (hs : s.size ≤ maxLen) : Calls Try.prog 17 #[.string s] w (Ret w (.bool (nameOk s.data.toList))) := by
  unfold maxLen at hs
  have hlen : s.data.toList.length = s.size := by simp
  have HL := Lib.hid hlen
  clear hlen
  by_cases hsz : 1 ≤ s.size ∧ s.size ≤ 40
  case neg =>
    have HV := Lib.hid (nameOk_len (l := s.data.toList) (by rw [HL.out]; exact hsz))
    have hz : s.size = 0 ∨ (s.size ≠ 0 ∧ 40 < s.size) := by omega
    rcases hz with hz | ⟨hz, hz2⟩
    · have h0 : ((s.size : Int) == 0) = true := by simp [hz]
      clear hsz hz
      go_enter Try.func17, Try.ntmps17
      go_wp2_with fail
      go_ret
      exact ret_bool HV.out.symm (Below.refl _ _)
    · have h0 : ((s.size : Int) == 0) = false := by simp [hz]
      clear hsz hz
      go_enter Try.func17, Try.ntmps17
      go_wp2_with fail
      go_ret
      exact ret_bool HV.out.symm (Below.refl _ _)
  have h0 : ((s.size : Int) == 0) = false := by rw [beq_eq_false_iff_ne]; omega
  have hz2 : ¬ (40 : Int) < s.size := by omega
  go_enter Try.func17, Try.ntmps17
  go_wp2_with fail
  clear h0 hz2
  go_loopw [] (fun wr => ∃ pos : Nat, pos ≤ s.size ∧ wr = w.iter s pos ∧ Hid (namePre (s.data.toList.take pos) = true)) (fun wr => s.size - wr.iterPos w.heap.size)
  case atStart => exact ⟨0, Nat.zero_le _, rfl, rfl⟩
  case round =>
    obtain ⟨k, hk, rfl, HP⟩ := hrel
    by_cases hlt : k < s.size
    · have hcs := byte_cases s.data.toList k (by rw [HL.out]; exact hlt)
      have hget : s.data.toList[k]'(by rw [HL.out]; exact hlt) = s[k] := rfl
      rw [hget] at hcs
      by_cases ha : (s[k]'hlt).toNat < 128
      · have hnx := fun ty => run_next_ascii (P := Try.prog) w s k ty hlt ha
        have hpos0 : (w.iter s k).iterPos w.heap.size = k := World.iterPos_iter w s k
        have hpos1 : (w.iter s (k + 1)).iterPos w.heap.size = k + 1 := World.iterPos_iter w s (k + 1)
        have HC := Lib.hid hcs
        clear hcs hget
        rcases HC.out with ⟨h1, h2⟩ | ⟨h1, ⟨h0, h2⟩ | ⟨h0, ⟨h3, h2⟩ | ⟨h3, ⟨h4, h2⟩ | ⟨h4, h2⟩⟩⟩⟩
        case inl =>
          have HN := Lib.hid (h2.trans HP)
          simp only [isL, decide_eq_true_eq] at h1
          obtain ⟨h3, h4⟩ := h1
          clear HC HP h2
          go_wp2_with fail
          all_goals
            go_roundw
            case rel => exact ⟨k + 1, by omega, rfl, HN⟩
            case measure => rw [hpos0, hpos1]; omega
        case inr.inl =>
          have HN := Lib.hid h2
          subst h0
          have h5 : (s[0]'hlt).toNat < 97 ∨ 122 < (s[0]'hlt).toNat := by simp only [isL, decide_eq_false_iff_not] at h1; omega
          have q1 : (decide ((97 : Int) ≤ (s[0]'hlt).toNat) && decide (((s[0]'hlt).toNat : Int) ≤ 122)) = false := by rw [Bool.and_eq_false_iff, decide_eq_false_iff_not, decide_eq_false_iff_not]; omega
          clear HC HP h2 h1
          rcases h5 with h5 | h5
          all_goals (go_wp2_with fail)
          all_goals first | (go_ret; exact ret_bool HN.out.symm (below_iter _ _ _)) | (exfalso; rename_i q; simp at q; omega)
        case inr.inr.inl =>
          have HN := Lib.hid (h2.trans HP)
          replace h0 : ((k : Int) == 0) = false := by simpa using h0
          have h5 : (((s[k]).toNat : Int) != 45) = false := by simp; omega
          clear HC HP h2 h1
          go_wp2_with fail
          go_roundw
          case rel => exact ⟨k + 1, by omega, rfl, HN⟩
          case measure => rw [hpos0, hpos1]; omega
        case inr.inr.inr.inl =>
          have HN := Lib.hid (h2.trans HP)
          simp only [isD, decide_eq_true_eq] at h4
          obtain ⟨h6, h7⟩ := h4
          replace h0 : ((k : Int) == 0) = false := by simpa using h0
          have h5 : (((s[k]).toNat : Int) != 45) = true := by simp; omega
          clear HC HP h2 h1 h3
          go_wp2_with fail
          go_roundw
          case rel => exact ⟨k + 1, by omega, rfl, HN⟩
          case measure => rw [hpos0, hpos1]; omega
        case inr.inr.inr.inr =>
          have HN := Lib.hid h2
          have h8 : (s[k]'hlt).toNat < 97 ∨ 122 < (s[k]'hlt).toNat := by simp only [isL, decide_eq_false_iff_not] at h1; omega
          have h9 : (s[k]'hlt).toNat < 48 ∨ 57 < (s[k]'hlt).toNat := by simp only [isD, decide_eq_false_iff_not] at h4; omega
          replace h0 : ((k : Int) == 0) = false := by simpa using h0
          have h5 : (((s[k]).toNat : Int) != 45) = true := by simp; omega
          have q1 : (decide ((97 : Int) ≤ (s[k]'hlt).toNat) && decide (((s[k]'hlt).toNat : Int) ≤ 122)) = false := by rw [Bool.and_eq_false_iff, decide_eq_false_iff_not, decide_eq_false_iff_not]; omega
          clear HC HP h2 h1 h3 h4
          rcases h8 with h8 | h8 <;> rcases h9 with h9 | h9
          all_goals (go_wp2_with fail)
          all_goals first | (go_ret; exact ret_bool HN.out.symm (below_iter _ _ _)) | (exfalso; rename_i q; simp at q; omega)
      · have hd := decode_high s k hlt (by omega)
        have hle := decode_le s k
        have hnx := fun ty => run_next_any (P := Try.prog) w s k ty hlt
        have hno : nameOk s.data.toList = false := by
          rcases hcs with ⟨h1, -⟩ | ⟨-, ⟨-, h2⟩ | ⟨-, ⟨h3, -⟩ | ⟨-, ⟨h4, -⟩ | ⟨-, h2⟩⟩⟩⟩
          · simp only [isL, decide_eq_true_eq] at h1; omega
          · exact h2
          · omega
          · simp only [isD, decide_eq_true_eq] at h4; omega
          · exact h2
        have HN := Lib.hid hno
        obtain ⟨⟨R, D⟩, hRD⟩ : ∃ x, Utf8.decode s k = x := ⟨_, rfl⟩
        rw [hRD] at hd hle hnx
        simp only at hd hle hnx
        have h5 : ((R : Int) != 45) = true := by simp; omega
        obtain ⟨hd1, hd2⟩ := hd
        have q1 : decide ((R : Int) ≤ 122) = false := by simp; omega
        have q2 : decide ((R : Int) < 48) = false := by simp; omega
        have q3 : decide ((57 : Int) < R) = true := by simp; omega
        clear hno hcs hget hRD HP
        by_cases hk0 : k = 0
        · subst hk0
          go_wp2_with fail
          go_ret
          exact ret_bool HN.out.symm (below_iter _ _ _)
        · replace hk0 : ((k : Int) == 0) = false := by simpa using hk0
          go_wp2_with fail
          go_ret
          exact ret_bool HN.out.symm (below_iter _ _ _)
    · obtain rfl : k = s.size := by omega
      have hnx := fun ty => run_next_end (P := Try.prog) w s s.size ty hlt
      have hv : nameOk s.data.toList = true := by
        have := HP
        unfold Hid at this
        rw [List.take_of_length_le (by rw [HL.out]; exact Nat.le_refl _)] at this
        exact nameOk_of this (by rw [HL.out]; exact hsz.1) (by rw [HL.out]; exact hsz.2)
      have HV := Lib.hid hv
      clear hv HP
      go_wp2_with fail
      go_ret
      exact ret_bool HV.out.symm (below_iter _ _ _)

/-- Cut at one byte. -/
theorem cut_one (s : ByteArray) (c : UInt8) (w : World) (hs : s.size ≤ maxLen) :
    Calls Try.prog 50 #[.string s, .string ⟨#[c]⟩] w (Ret w (.tuple #[.string (str (bef c s.data.toList)), .string (str (aft c s.data.toList)), .bool (decide (c ∈ s.data.toList))])) := by
  unfold maxLen at hs
  have hlen : s.data.toList.length = s.size := by simp
  by_cases hm : c ∈ s.data.toList
  · have hix := (index_mem c s.data.toList).1 hm
    have hsome := bef_some hm
    have e1 : s.extract 0 (bef c s.data.toList).length = str (bef c s.data.toList) := by
      rw [Lib.extract_eq]
      unfold str
      congr 2
      conv => lhs; arg 2; arg 2; rw [hsome]
      simp
    have e2 : s.extract ((bef c s.data.toList).length + 1) s.size = str (aft c s.data.toList) := by
      rw [Lib.extract_eq]
      unfold str
      congr 2
      conv => lhs; arg 2; arg 2; rw [hsome]
      rw [← hlen]
      have : (bef c s.data.toList).length + 1 + (aft c s.data.toList).length = s.data.toList.length := by
        conv => rhs; rw [hsome]
        simp; omega
      rw [show bef c s.data.toList ++ c :: aft c s.data.toList = (bef c s.data.toList ++ [c]) ++ aft c s.data.toList by simp, List.drop_append, List.drop_of_length_le (by simp), List.take_of_length_le (by simp; omega)]
      simp
    have hle : (bef c s.data.toList).length + 1 ≤ s.size := by
      have := congrArg List.length hsome
      simp at this
      omega
    rw [decide_eq_true hm]
    generalize bef c s.data.toList = B at *
    generalize aft c s.data.toList = A at *
    obtain ⟨n, hn⟩ : ∃ n, B.length = n := ⟨_, rfl⟩
    rw [hn] at hix e1 e2 hle
    have HE := Lib.hid (show _ ∧ _ from ⟨e1, e2⟩)
    clear hsome hm e1 e2 hn hlen
    go_enter Try.func50, Try.ntmps50
    go_wp2_with (first | (go_at_call 63; refine (Try.stringslite_Index_one _ _ _).mono ?_; rw [hix]; rintro e w' ⟨rfl, rfl⟩) | go_in)
    go_quiet (fail)
    go_wp2_with fail
    go_ret3
    go_wp2_with fail
    go_ret3
    refine ⟨?_, below_drewN (Below.refl _ _) _⟩
    show Ending.returned (.tuple #[.string (s.extract 0 n), .string (s.extract (n + 1) s.size), .bool true]) = _
    rw [HE.out.1, HE.out.2]
  · have hix := (index_mem c s.data.toList).2 hm
    obtain ⟨e1, e2⟩ := bef_none hm
    rw [e1, e2, decide_eq_false hm]
    have e3 : str s.data.toList = s := Lib.mk_data s
    rw [e3]
    clear e1 e2 e3 hm hlen
    go_enter Try.func50, Try.ntmps50
    go_wp2_with (first | (go_at_call 63; refine (Try.stringslite_Index_one _ _ _).mono ?_; rw [hix]; rintro e w' ⟨rfl, rfl⟩) | go_in)
    go_ret3
    go_wp2_with fail
    go_ret3
    exact ⟨rfl, Below.refl _ _⟩
end Go.Proofs.Ytkjgcippcbfmgaa
