/- The reference's Number, Text and Parse. -/
import Derived.Test.YtjgampkpfjbmdaaDoorPack14
namespace Go.Proofs.YtjgampkpfjbmdaaDoor
open Go.RowKit Go.Rel
set_option maxHeartbeats 1000000 in
theorem number_nil (s : ByteArray) (w : World) (h0 : s.size = 0) :
    Calls Tryd.prog 99 #[.string s] w fun e w' => e = .returned (.tuple #[.int .i64 0, .bool false]) ∧ Below w.heap.size w w' := by
  go_enter Tryd.func99, Tryd.ntmps99
  go_wp2_with fail
  go_loopw [5, 6] (fun nv iv wr => nv = .int .i64 0 ∧ iv = .int .i64 0 ∧ wr = w) (fun _ _ _ => 0)
  case atStart => exact ⟨rfl, rfl, rfl⟩
  case round =>
    obtain ⟨rfl, rfl, rfl⟩ := hrel
    go_wp2_with fail
    go_ret2
    exact ⟨rfl, Below.refl _ _⟩

set_option maxHeartbeats 2000000 in
theorem number_pos (s : ByteArray) (w : World) (hs : s.size ≤ 100000) (h0 : 0 < s.size) (hd : (((s[0].toNat : Nat) : Int) == 45) = false) (hf : frN s.data.toList = 0) :
    Calls Tryd.prog 99 #[.string s] w fun e w' => ∃ v : Int, e = .returned (.tuple #[.int .i64 v, .bool (numB s.data.toList)]) ∧ Below w.heap.size w w' ∧ (-9999999999 ≤ v ∧ v ≤ 9999999999 ∧ (numB s.data.toList = true → s.data.toList = Lib.itoa v)) := by
  have hl : s.data.toList.length = s.size := by simp
  have V1 := Lib.hid (num_not (l := s.data.toList))
  have V2 := Lib.hid (num_long (l := s.data.toList))
  have V3 := Lib.hid (num_none (l := s.data.toList))
  have V4 := Lib.hid (fun v => num_fin (l := s.data.toList) (v := v))
  rw [hf] at V1 V2 V3 V4
  have HL := Lib.hid hl
  clear hl hf
  go_enter Tryd.func99, Tryd.ntmps99
  go_wp2_with fail
  go_loopw [5, 6] (fun nv iv wr => ∃ (N k : Nat), 0 ≤ k ∧ k ≤ s.size ∧ k ≤ 10 ∧ nv = .int .i64 N ∧ iv = .int .i64 k ∧ wr = w ∧ Hid (N = numOf ((s.data.toList.drop 0).take (k - 0)) 0 ∧ ((s.data.toList.drop 0).take (k - 0)).all isD = true)) (fun _ iv _ => s.size - (intOf iv).toNat)
  case atStart => exact ⟨0, 0, Nat.le_refl _, by omega, by omega, rfl, rfl, rfl, by rw [Nat.sub_self]; exact Lib.hid ⟨rfl, rfl⟩⟩
  case round =>
    obtain ⟨N, k, hk1, hk, hk10, rfl, rfl, rfl, HP⟩ := hrel
    have hN0 : (N : Int) ≤ 9999999999 := by
      obtain ⟨h1, h2⟩ := HP.out
      have := numOf_lt h2 0
      have h3 : ((s.data.toList.drop 0).take (k - 0)).length ≤ 10 := by rw [List.length_take]; omega
      have h4 : 10 ^ ((s.data.toList.drop 0).take (k - 0)).length ≤ 10 ^ 10 := Nat.pow_le_pow_right (by omega) h3
      have h5 : (10 : Nat) ^ 10 = 10000000000 := by decide
      omega
    have hRL : (s.data.toList.drop 0).length = s.size - 0 := by rw [List.length_drop, HL.out]
    by_cases hlt : k < s.size
    · have hget : (s.data.toList.drop 0)[k - 0]'(by rw [hRL]; omega) = s[k] := by
        rw [List.getElem_drop]
        have e : 0 + (k - 0) = k := by omega
        simp only [e]
        rfl
      by_cases hd1 : isD s[k] = true
      · have hdd := isD_int.1 hd1
        by_cases h10 : k = 10
        · have HZ := Lib.hid (V2.out (by rw [hRL]; omega))
          subst h10
          obtain ⟨d1, d2⟩ := hdd
          clear HP hget hd1 hRL
          go_wp2_with fail
          go_ret2
          exact ⟨0, by rw [HZ.out]; rfl, Below.refl _ _, by decide, by decide, fun h => by rw [HZ.out] at h; cases h⟩
        · have HN2 := Lib.hid (show 10 * N + (s[k].toNat - 48) = numOf ((s.data.toList.drop 0).take (k - 0 + 1)) 0 ∧ ((s.data.toList.drop 0).take (k - 0 + 1)).all isD = true from by
            obtain ⟨h1, h2⟩ := HP.out
            rw [numOf_take (by rw [hRL]; omega), hget, ← h1]
            refine ⟨rfl, ?_⟩
            rw [List.take_succ_eq_append_getElem (by rw [hRL]; omega), List.all_append, h2, hget]
            simp [hd1])
          rw [show k - 0 + 1 = k + 1 - 0 by omega] at HN2
          obtain ⟨d1, d2⟩ := hdd
          have hj3 : ¬ (0 + 9 : Int) < k := by omega
          clear HP hget hRL hd1
          go_wp2_with fail
          go_roundw
          case rel => exact ⟨10 * N + (s[k].toNat - 48), k + 1, by omega, by omega, by omega, by rw [show (10 * (N : Int) + ((s[k].toNat : Int) - 48)) = ((10 * N + (s[k].toNat - 48) : Nat) : Int) by omega], by go_num, (by first | trivial | rfl), HN2⟩
          case measure => simp [intOf]; omega
      · have hno : (s.data.toList.drop 0).all isD = false := by
          cases hall : (s.data.toList.drop 0).all isD
          · rfl
          · rw [List.all_eq_true] at hall
            exact absurd (hall _ (List.getElem_mem _)) (hget ▸ hd1)
        have HZ := Lib.hid (V1.out hno)
        have hor : ((s[k].toNat : Nat) : Int) < 48 ∨ 57 < ((s[k].toNat : Nat) : Int) := by
          rw [isD_int] at hd1
          omega
        clear HP hno hget hd1 hRL
        rcases hor with hor | hor
        all_goals
          go_wp2_with fail
          go_ret2
          exact ⟨0, by rw [HZ.out]; rfl, Below.refl _ _, by decide, by decide, fun h => by rw [HZ.out] at h; cases h⟩
    · obtain rfl : k = s.size := by omega
      have hall : (s.data.toList.drop 0).all isD = true ∧ N = numOf (s.data.toList.drop 0) 0 := by
        obtain ⟨h1, h2⟩ := HP.out
        rw [List.take_of_length_le (by rw [hRL]; exact Nat.le_refl _)] at h1 h2
        exact ⟨h2, h1⟩
      have hv := V4.out ((N : Int)) hall.1 (by rw [hRL]; omega) (by rw [if_neg (by decide), hall.2])
      have HALL := Lib.hid hall
      have hv2 : numB s.data.toList = ((str (Lib.itoa ((N : Int)))).toList == s.toList) := by
        rw [hv, Lib.toList_data, Lib.toList_data, Bool.eq_iff_iff, decide_eq_true_iff, beq_iff_eq]
        exact Iff.rfl
      have hv3 : numB s.data.toList = true → s.data.toList = Lib.itoa ((N : Int)) := by
        rw [hv, decide_eq_true_iff]
        exact fun h => h.symm
      have HV := Lib.hid hv2
      have HV3 := Lib.hid hv3
      have HRL := Lib.hid hRL
      have hw : wrap64 (-(N : Int)) = -(N : Int) := by unfold wrap64; omega
      have hc := Lib.hid (fun W => decimal_any ((N : Int)) W (by omega) (by omega))
      clear hall HP hv hv2 hv3 hRL
      by_cases hz : s.size = 0
      · exact absurd hz (by omega)
      · have hz1 : (0 : Int) < s.size := by omega
        clear hz
        go_wp2_with fail
        refine (hc.out _).mono ?_
        rintro e w1 ⟨rfl, hb⟩
        clear hc
        go_wp2_with fail
        go_ret2
        exact ⟨_, by rw [HV.out]; rfl, hb, by omega, by omega, HV3.out⟩

set_option maxHeartbeats 2000000 in
theorem number_neg (s : ByteArray) (w : World) (hs : s.size ≤ 100000) (h0 : 0 < s.size) (hd : (((s[0].toNat : Nat) : Int) == 45) = true) (hf : frN s.data.toList = 1) :
    Calls Tryd.prog 99 #[.string s] w fun e w' => ∃ v : Int, e = .returned (.tuple #[.int .i64 v, .bool (numB s.data.toList)]) ∧ Below w.heap.size w w' ∧ (-9999999999 ≤ v ∧ v ≤ 9999999999 ∧ (numB s.data.toList = true → s.data.toList = Lib.itoa v)) := by
  have hl : s.data.toList.length = s.size := by simp
  have V1 := Lib.hid (num_not (l := s.data.toList))
  have V2 := Lib.hid (num_long (l := s.data.toList))
  have V3 := Lib.hid (num_none (l := s.data.toList))
  have V4 := Lib.hid (fun v => num_fin (l := s.data.toList) (v := v))
  rw [hf] at V1 V2 V3 V4
  have HL := Lib.hid hl
  clear hl hf
  go_enter Tryd.func99, Tryd.ntmps99
  go_wp2_with fail
  go_loopw [5, 6] (fun nv iv wr => ∃ (N k : Nat), 1 ≤ k ∧ k ≤ s.size ∧ k ≤ 11 ∧ nv = .int .i64 N ∧ iv = .int .i64 k ∧ wr = w ∧ Hid (N = numOf ((s.data.toList.drop 1).take (k - 1)) 0 ∧ ((s.data.toList.drop 1).take (k - 1)).all isD = true)) (fun _ iv _ => s.size - (intOf iv).toNat)
  case atStart => exact ⟨0, 1, Nat.le_refl _, by omega, by omega, rfl, rfl, rfl, by rw [Nat.sub_self]; exact Lib.hid ⟨rfl, rfl⟩⟩
  case round =>
    obtain ⟨N, k, hk1, hk, hk10, rfl, rfl, rfl, HP⟩ := hrel
    have hN0 : (N : Int) ≤ 9999999999 := by
      obtain ⟨h1, h2⟩ := HP.out
      have := numOf_lt h2 0
      have h3 : ((s.data.toList.drop 1).take (k - 1)).length ≤ 10 := by rw [List.length_take]; omega
      have h4 : 10 ^ ((s.data.toList.drop 1).take (k - 1)).length ≤ 10 ^ 10 := Nat.pow_le_pow_right (by omega) h3
      have h5 : (10 : Nat) ^ 10 = 10000000000 := by decide
      omega
    have hRL : (s.data.toList.drop 1).length = s.size - 1 := by rw [List.length_drop, HL.out]
    by_cases hlt : k < s.size
    · have hget : (s.data.toList.drop 1)[k - 1]'(by rw [hRL]; omega) = s[k] := by
        rw [List.getElem_drop]
        have e : 1 + (k - 1) = k := by omega
        simp only [e]
        rfl
      by_cases hd1 : isD s[k] = true
      · have hdd := isD_int.1 hd1
        by_cases h10 : k = 11
        · have HZ := Lib.hid (V2.out (by rw [hRL]; omega))
          subst h10
          obtain ⟨d1, d2⟩ := hdd
          clear HP hget hd1 hRL
          go_wp2_with fail
          go_ret2
          exact ⟨0, by rw [HZ.out]; rfl, Below.refl _ _, by decide, by decide, fun h => by rw [HZ.out] at h; cases h⟩
        · have HN2 := Lib.hid (show 10 * N + (s[k].toNat - 48) = numOf ((s.data.toList.drop 1).take (k - 1 + 1)) 0 ∧ ((s.data.toList.drop 1).take (k - 1 + 1)).all isD = true from by
            obtain ⟨h1, h2⟩ := HP.out
            rw [numOf_take (by rw [hRL]; omega), hget, ← h1]
            refine ⟨rfl, ?_⟩
            rw [List.take_succ_eq_append_getElem (by rw [hRL]; omega), List.all_append, h2, hget]
            simp [hd1])
          rw [show k - 1 + 1 = k + 1 - 1 by omega] at HN2
          obtain ⟨d1, d2⟩ := hdd
          have hj3 : ¬ (1 + 9 : Int) < k := by omega
          clear HP hget hRL hd1
          go_wp2_with fail
          go_roundw
          case rel => exact ⟨10 * N + (s[k].toNat - 48), k + 1, by omega, by omega, by omega, by rw [show (10 * (N : Int) + ((s[k].toNat : Int) - 48)) = ((10 * N + (s[k].toNat - 48) : Nat) : Int) by omega], by go_num, (by first | trivial | rfl), HN2⟩
          case measure => simp [intOf]; omega
      · have hno : (s.data.toList.drop 1).all isD = false := by
          cases hall : (s.data.toList.drop 1).all isD
          · rfl
          · rw [List.all_eq_true] at hall
            exact absurd (hall _ (List.getElem_mem _)) (hget ▸ hd1)
        have HZ := Lib.hid (V1.out hno)
        have hor : ((s[k].toNat : Nat) : Int) < 48 ∨ 57 < ((s[k].toNat : Nat) : Int) := by
          rw [isD_int] at hd1
          omega
        clear HP hno hget hd1 hRL
        rcases hor with hor | hor
        all_goals
          go_wp2_with fail
          go_ret2
          exact ⟨0, by rw [HZ.out]; rfl, Below.refl _ _, by decide, by decide, fun h => by rw [HZ.out] at h; cases h⟩
    · obtain rfl : k = s.size := by omega
      have hall : (s.data.toList.drop 1).all isD = true ∧ N = numOf (s.data.toList.drop 1) 0 := by
        obtain ⟨h1, h2⟩ := HP.out
        rw [List.take_of_length_le (by rw [hRL]; exact Nat.le_refl _)] at h1 h2
        exact ⟨h2, h1⟩
      have hv := V4.out (-(N : Int)) hall.1 (by rw [hRL]; omega) (by rw [if_pos trivial, hall.2])
      have HALL := Lib.hid hall
      have hv2 : numB s.data.toList = ((str (Lib.itoa (-(N : Int)))).toList == s.toList) := by
        rw [hv, Lib.toList_data, Lib.toList_data, Bool.eq_iff_iff, decide_eq_true_iff, beq_iff_eq]
        exact Iff.rfl
      have hv3 : numB s.data.toList = true → s.data.toList = Lib.itoa (-(N : Int)) := by
        rw [hv, decide_eq_true_iff]
        exact fun h => h.symm
      have HV := Lib.hid hv2
      have HV3 := Lib.hid hv3
      have HRL := Lib.hid hRL
      have hw : wrap64 (-(N : Int)) = -(N : Int) := by unfold wrap64; omega
      have hc := Lib.hid (fun W => decimal_any (-(N : Int)) W (by omega) (by omega))
      clear hall HP hv hv2 hv3 hRL
      by_cases hz : s.size = 1
      · have HZ := Lib.hid (V3.out (by rw [HRL.out]; omega))
        have hz1 : ¬ (1 : Int) < s.size := by omega
        clear hz
        go_wp2_with fail
        go_ret2
        exact ⟨_, by rw [HZ.out]; rfl, Below.refl _ _, by omega, by omega, fun h => by rw [HZ.out] at h; cases h⟩
      · have hz1 : (1 : Int) < s.size := by omega
        clear hz
        go_wp2_with fail
        refine (hc.out _).mono ?_
        rintro e w1 ⟨rfl, hb⟩
        clear hc
        go_wp2_with fail
        go_ret2
        exact ⟨_, by rw [HV.out]; rfl, hb, by omega, by omega, HV3.out⟩
end Go.Proofs.YtjgampkpfjbmdaaDoor
