/- Step: a step's name and index, as the reference reads them. -/
import Derived.Laws.DeepStrings4
import Derived.Test.YtkjgcippcbfmgaaLabB
namespace Go.Rel
open Go.RowKit
theorem bef_at {c : UInt8} {l : Bs} {k : Nat} (hk : k < (bef c l).length) (h : k < l.length) : l[k] ≠ c := by
  have hm : (bef c l)[k] ∈ bef c l := List.getElem_mem _
  have he : l[k] = (bef c l)[k] := by
    by_cases hc : c ∈ l
    · have := List.getElem?_append_left (l₂ := c :: aft c l) hk
      rw [← bef_some hc, List.getElem?_eq_getElem h, List.getElem?_eq_getElem hk] at this
      exact Option.some.inj this
    · have := (bef_none hc).1
      simp only [this]
  rw [he]
  intro e
  rw [e] at hm
  exact bef_no c l hm
theorem bef_end {c : UInt8} {l : Bs} (hc : c ∈ l) : l[(bef c l).length]? = some c := by
  conv => lhs; arg 1; rw [bef_some hc]
  simp
theorem bef_le (c : UInt8) (l : Bs) : (bef c l).length ≤ l.length := (List.takeWhile_sublist _).length_le
theorem bef_lt {c : UInt8} {l : Bs} : c ∈ l ↔ (bef c l).length < l.length := by
  constructor
  · intro h
    have := congrArg List.length (bef_some h)
    simp at this
    omega
  · intro h
    by_cases hc : c ∈ l
    · exact hc
    · rw [(bef_none hc).1] at h; omega
theorem bef_take (c : UInt8) (l : Bs) : bef c l = l.take (bef c l).length := by
  by_cases hc : c ∈ l
  · conv => rhs; arg 2; rw [bef_some hc]
    simp
  · rw [(bef_none hc).1]; simp
theorem aft_drop {c : UInt8} {l : Bs} (hc : c ∈ l) : aft c l = l.drop ((bef c l).length + 1) := by
  conv => rhs; arg 2; rw [bef_some hc]
  rw [show bef c l ++ c :: aft c l = (bef c l ++ [c]) ++ aft c l by simp, List.drop_append, List.drop_of_length_le (by simp)]
  simp
theorem bef_str (c : UInt8) (s : ByteArray) : s.extract 0 (bef c s.data.toList).length = str (bef c s.data.toList) := by
  rw [Lib.extract_eq]
  unfold str
  congr 2
  simp only [List.drop_zero, Nat.sub_zero]
  exact (bef_take c _).symm
/-- What the reference returns at a step. -/
def stepV (l : Bs) : Value := match stepOf l with | none => .tuple #[.string ⟨#[]⟩, .int .i64 0, .bool false] | some p => .tuple #[.string (str p.1), .int .i64 p.2, .bool true]
theorem stepV_name {l : Bs} (h : nameOk (bef 91 l) = false) : stepV l = .tuple #[.string ⟨#[]⟩, .int .i64 0, .bool false] := by
  unfold stepV stepOf; rw [if_pos h]
theorem stepV_bare {l : Bs} (h : nameOk (bef 91 l) = true) (h2 : 91 ∉ l) : stepV l = .tuple #[.string (str l), .int .i64 (-1), .bool true] := by
  unfold stepV stepOf; rw [if_neg (by simp [h]), if_pos h2]
theorem stepV_no {l : Bs} (h2 : 91 ∈ l) (h3 : (aft 91 l).getLast? = some 93 → digOk (aft 91 l).dropLast = false) : stepV l = .tuple #[.string ⟨#[]⟩, .int .i64 0, .bool false] := by
  by_cases h1 : nameOk (bef 91 l) = false
  · exact stepV_name h1
  · unfold stepV stepOf
    rw [if_neg h1, if_neg (by simpa using h2), if_neg (fun h4 => by rw [h3 h4.1] at h4; simp at h4)]
theorem stepV_yes {l : Bs} (h : nameOk (bef 91 l) = true) (h2 : 91 ∈ l) (h3 : (aft 91 l).getLast? = some 93) (h4 : digOk (aft 91 l).dropLast = true) : stepV l = .tuple #[.string (str (bef 91 l)), .int .i64 (numOf (aft 91 l).dropLast 0), .bool true] := by
  unfold stepV stepOf; rw [if_neg (by simp [h]), if_neg (by simpa using h2), if_pos ⟨h3, h4⟩]
theorem digOk_long {d : Bs} (h : 4 < d.length) : digOk d = false := by unfold digOk; rw [decide_eq_false (by omega)]; rfl
theorem digOk_not {d : Bs} (h : d.all isD = false) : digOk d = false := by unfold digOk; rw [h]; simp
theorem digOk_zero {d : Bs} (h : d.length = 0) : digOk d = false := by unfold digOk; rw [h]; rfl
theorem digOk_head {d : Bs} (h : 1 < d.length) (h2 : d[0] = 48) : digOk d = false := by
  have hh : d.head? = some 48 := by rw [List.head?_eq_getElem?, List.getElem?_eq_getElem (by omega), h2]
  unfold digOk; rw [hh, decide_eq_false (show ¬ d.length = 1 by omega)]; simp
theorem digOk_yes {d : Bs} (h0 : 0 < d.length) (h1 : d.length ≤ 4) (h2 : d.all isD = true) (h3 : d.length = 1 ∨ d[0] ≠ 48) : digOk d = true := by
  have hh : d.head? = some d[0] := by rw [List.head?_eq_getElem?, List.getElem?_eq_getElem (by omega)]
  unfold digOk; rw [hh, h2, decide_eq_true (show 1 ≤ d.length ∧ d.length ≤ 4 by omega)]
  rcases h3 with h3 | h3 <;> simp [h3]
theorem u8_eq (c : UInt8) (n : UInt8) : (c = n) ↔ (c.toNat : Int) = n.toNat := by rw [← UInt8.toNat_inj]; omega
end Go.Rel
namespace Go.Proofs.Ytkjgcippcbfmgaa
open Go.RowKit Go.Rel

set_option maxHeartbeats 2000000 in
theorem refStep_any (s : ByteArray) (w : World) (hs : s.size ≤ maxLen) :
    Calls Try.prog 33 #[.string s] w (Same w (stepV s.data.toList)) := by
  unfold maxLen at hs
  have hlen : s.data.toList.length = s.size := by simp
  have hbl := bef_le 91 s.data.toList
  have hbt := bef_lt (c := 91) (l := s.data.toList)
  have hat := fun k hk h => bef_at (c := 91) (l := s.data.toList) (k := k) hk h
  have hend := fun h => bef_end (c := 91) (l := s.data.toList) h
  have hstr := bef_str 91 s
  have r1 := fun W => refName_any (str (bef 91 s.data.toList)) W (by rw [str_size]; unfold maxLen; omega)
  rw [str_list] at r1
  obtain ⟨n, hn⟩ : ∃ n, (bef 91 s.data.toList).length = n := ⟨_, rfl⟩
  rw [hn] at hbl hbt hat hend hstr
  rw [hlen] at hbl hbt
  have hat' : ∀ k (h : k < s.size), k < n → (((s[k]'h).toNat : Int) != 91) = true := fun k h hk => by
    have h1 := hat k hk (by rw [hlen]; exact h)
    have h2 : s.data.toList[k]'(by rw [hlen]; exact h) = s[k] := rfl
    rw [h2, ne_eq, u8_eq] at h1
    simpa using h1
  have hend' : ∀ h : n < s.size, (((s[n]'h).toNat : Int) != 91) = false := fun h => by
    have h1 := hend (hbt.2 h)
    rw [List.getElem?_eq_getElem (by rw [hlen]; exact h)] at h1
    have h2 : s.data.toList[n]'(by rw [hlen]; exact h) = s[n] := rfl
    rw [h2, Option.some.injEq, u8_eq] at h1
    simpa using h1
  have R1 := Lib.hid r1
  have HA := Lib.hid (show _ ∧ _ from ⟨hat', hend'⟩)
  have HB := Lib.hid hbt
  have HS := Lib.hid hstr
  have HL := Lib.hid hlen
  have HN := Lib.hid hn
  clear r1 hat' hend' hbt hstr hlen hn hat hend
  go_enter Try.func33, Try.ntmps33
  go_wp2_with fail
  go_loop [5] (fun i => ∃ k : Nat, k ≤ n ∧ i = .int .i64 k) (fun i => n - (intOf i).toNat)
  case atStart => exact ⟨0, Nat.zero_le _, rfl⟩
  case round =>
    obtain ⟨k, hk, rfl⟩ := hrel
    by_cases hlt : k < n
    · have hks : k < s.size := by omega
      have h1 := HA.out.1 k hks hlt
      go_wp2_with fail
      go_round
      case rel => exact ⟨k + 1, by omega, by go_num⟩
      case measure => simp [intOf]; omega
    · obtain rfl : k = n := by omega
      by_cases hks : k < s.size
      · have h1 := HA.out.2 hks
        have h2 : 91 ∈ s.data.toList := HB.out.2 hks
        have hla : (aft 91 s.data.toList).length = s.size - (k + 1) := by rw [aft_drop h2, HN.out, List.length_drop, HL.out]
        have hgl : s.size ≠ k + 1 → (aft 91 s.data.toList).getLast? = some (s[s.size - 1]'(by omega)) := fun hne => by
          rw [aft_drop h2, HN.out, List.getLast?_drop, if_neg (by rw [HL.out]; omega), List.getLast?_eq_getElem?, HL.out, List.getElem?_eq_getElem (by rw [HL.out]; omega)]
          rfl
        have hidx : ((s.size : Int) - 1).toNat = s.size - 1 := by omega
        cases hname : nameOk (bef 91 s.data.toList)
        · have HV := Lib.hid (stepV_name hname)
          rw [hname] at R1
          clear hgl hla hname h2
          go_wp2_with fail
          rw [HS.out]
          refine (R1.out _).mono ?_
          rintro e W ⟨rfl, rfl⟩
          go_wp2_with fail
          go_ret3
          exact ⟨by rw [HV.out]; rfl, rfl⟩
        · rw [hname] at R1
          by_cases h93 : (((s[s.size - 1]'(by omega)).toNat : Int) != 93) = true
          · have HV := Lib.hid (stepV_no (l := s.data.toList) h2 (fun h => by
              have hne : s.size ≠ k + 1 := fun e => by
                have : (aft 91 s.data.toList) = [] := List.eq_nil_of_length_eq_zero (by omega)
                rw [this] at h; simp at h
              rw [hgl hne, Option.some.injEq, u8_eq] at h
              simp at h93
              exact absurd h h93))
            clear hgl hla hname h2
            go_wp2_with fail
            rw [HS.out]
            refine (R1.out _).mono ?_
            rintro e W ⟨rfl, rfl⟩
            go_wp2_with fail
            go_ret3
            exact ⟨by rw [HV.out]; rfl, rfl⟩
          · have hne : s.size ≠ k + 1 := fun e => by
              have e1 : s.size - 1 = k := by omega
              have e2 : (((s[k]'hks).toNat : Int) != 93) = false := by
                simp only [e1] at h93
                simpa using h93
              have e3 : ((s[k]'hks).toNat : Int) = 91 := by simpa using h1
              rw [e3] at e2
              simp at e2
            have hg93 : (aft 91 s.data.toList).getLast? = some 93 := by
              rw [hgl hne, Option.some.injEq, u8_eq]
              simpa using h93
            have hD : (s.extract (k + 1) (s.size - 1)).data.toList = (aft 91 s.data.toList).dropLast := by
              rw [Lib.extract_data, List.dropLast_eq_take, hla, aft_drop h2, HN.out]
              congr 1
              omega
            have hTs : (s.extract (k + 1) (s.size - 1)).size = s.size - 1 - (k + 1) := by
              have := congrArg List.length hD
              rw [List.length_dropLast, hla] at this
              rw [Lib.size_eq, this]
              omega
            have hno := stepV_no (l := s.data.toList) h2
            have hyes := stepV_yes hname h2 hg93
            have h94 : (((s[s.size - 1]'(by omega)).toNat : Int) != 93) = false := by simpa using h93
            obtain ⟨T, hT⟩ : ∃ T, s.extract (k + 1) (s.size - 1) = T := ⟨_, rfl⟩
            have hsl : ∀ W, (Instr.slice 9 (.string s) (some (.int .i64 ((k : Int) + 1))) (some (.int .i64 ((s.size : Int) - 1))) none).run Try.prog W = .ok (.string T) W := fun W => by
              have hkk : (k : Int) + 1 ≤ (s.size : Int) - 1 := by omega
              rw [run_slice_string_if W _ _ _ _ _ _ Try.underlying9, if_pos ⟨by omega, by omega⟩, if_pos ⟨by omega, hkk⟩, show ((k : Int) + 1).toNat = k + 1 by omega, hidx, hT]
            rw [hT] at hD hTs
            rw [← hD] at hno hyes
            have HV := Lib.hid (show _ ∧ _ from ⟨fun h => hno (fun _ => h), hyes⟩)
            have HTL := Lib.hid (show T.data.toList.length = T.size by simp)
            have HT := Lib.hid hT
            clear hgl hla hname h2 h93 hg93 hD hno hyes
            go_wp2_with fail
            rw [HS.out]
            refine (R1.out _).mono ?_
            rintro e W ⟨rfl, rfl⟩
            clear R1
            go_wp2_with fail
            have hTb : T.size ≤ 9223372036854775807 := by omega
            clear h94 h1 hsl hne hTs
            go_loop [7, 8] (fun nv iv => ∃ (N j : Nat), j ≤ T.size ∧ j ≤ 4 ∧ nv = .int .i64 N ∧ iv = .int .i64 j ∧ Hid (N = numOf (T.data.toList.take j) 0 ∧ (T.data.toList.take j).all isD = true)) (fun _ iv => T.size - (intOf iv).toNat)
            case atStart => exact ⟨0, 0, Nat.zero_le _, Nat.zero_le _, rfl, rfl, rfl, rfl⟩
            case round =>
              obtain ⟨N, j, hj, hj4, rfl, rfl, HP⟩ := hrel
              have hN0 : N < 10000 := by
                obtain ⟨h1, h2⟩ := HP.out
                have := numOf_lt h2 0
                have h3 : (T.data.toList.take j).length ≤ 4 := by rw [List.length_take]; omega
                have h4 : 10 ^ (T.data.toList.take j).length ≤ 10 ^ 4 := Nat.pow_le_pow_right (by omega) h3
                omega
              by_cases hlt : j < T.size
              · have hget : T.data.toList[j]'(by rw [HTL.out]; exact hlt) = T[j] := rfl
                by_cases hd : isD T[j] = true
                · by_cases h4 : j = 4
                  · have hz := HV.out.1 (digOk_long (by rw [HTL.out]; omega))
                    have HZ := Lib.hid hz
                    subst h4
                    clear HP hz hget
                    go_wp2_with (go_at_call 40; refine (digit_any _ _).mono ?_; rintro e w' ⟨rfl, rfl⟩)
                    go_ret3
                    exact ⟨by rw [HZ.out]; rfl, rfl⟩
                  · have hdd := isD_int.1 hd
                    have HN2 := Lib.hid (show 10 * N + (T[j].toNat - 48) = numOf (T.data.toList.take (j + 1)) 0 ∧ (T.data.toList.take (j + 1)).all isD = true from by
                      obtain ⟨h1, h2⟩ := HP.out
                      rw [numOf_take (by rw [HTL.out]; exact hlt), hget, ← h1]
                      refine ⟨rfl, ?_⟩
                      rw [List.take_succ_eq_append_getElem (by rw [HTL.out]; exact hlt), List.all_append, h2, hget]
                      simp [hd])
                    obtain ⟨d1, d2⟩ := hdd
                    have hj3 : ¬ (3 : Int) < j := by omega
                    clear HP hget
                    go_wp2_with (go_at_call 40; refine (digit_any _ _).mono ?_; rintro e w' ⟨rfl, rfl⟩)
                    go_round
                    case rel => exact ⟨10 * N + (T[j].toNat - 48), j + 1, by omega, by omega, by rw [show (10 * (N : Int) + ((T[j].toNat : Int) - 48)) = ((10 * N + (T[j].toNat - 48) : Nat) : Int) by omega], by go_num, HN2⟩
                    case measure => simp [intOf]; omega
                · have hno : T.data.toList.all isD = false := by
                    cases hall : T.data.toList.all isD
                    · rfl
                    · rw [List.all_eq_true] at hall
                      exact absurd (hall _ (List.getElem_mem _)) (hget ▸ hd)
                  have HZ := Lib.hid (HV.out.1 (digOk_not hno))
                  replace hd : isD T[j] = false := by simpa using hd
                  clear HP hno hget
                  go_wp2_with (go_at_call 40; refine (digit_any _ _).mono ?_; rintro e w' ⟨rfl, rfl⟩)
                  all_goals
                    go_ret3
                    exact ⟨by rw [HZ.out]; rfl, rfl⟩
              · obtain rfl : j = T.size := by omega
                have hall : T.data.toList.all isD = true ∧ N = numOf T.data.toList 0 := by
                  obtain ⟨h1, h2⟩ := HP.out
                  rw [List.take_of_length_le (by rw [HTL.out]; exact Nat.le_refl _)] at h1 h2
                  exact ⟨h2, h1⟩
                have HALL := Lib.hid hall
                clear hall HP
                by_cases h0 : T.size = 0
                · have HZ := Lib.hid (HV.out.1 (digOk_zero (by rw [HTL.out]; exact h0)))
                  have q0 : ((T.size : Int) == 0) = true := by rw [beq_iff_eq]; omega
                  clear h0
                  go_wp2_with fail
                  go_ret3
                  exact ⟨by rw [HZ.out]; rfl, rfl⟩
                · have q0 : ((T.size : Int) == 0) = false := by rw [beq_eq_false_iff_ne]; omega
                  have hg0 : T.data.toList[0]'(by rw [HTL.out]; omega) = T[0]'(by omega) := rfl
                  have hz0 : 0 < T.size := by omega
                  by_cases h48 : (((T[0]'hz0).toNat : Int) == 48) = true
                  · by_cases hm1 : 1 < T.size
                    · have HZ := Lib.hid (HV.out.1 (digOk_head (by rw [HTL.out]; exact hm1) (by rw [hg0, u8_eq]; simpa using h48)))
                      clear hg0 h0
                      go_wp2_with fail
                      go_ret3
                      exact ⟨by rw [HZ.out]; rfl, rfl⟩
                    · have HZ := Lib.hid (HV.out.2 (digOk_yes (by rw [HTL.out]; exact hz0) (by rw [HTL.out]; exact hj4) HALL.out.1 (.inl (by rw [HTL.out]; omega))))
                      clear hg0 h0
                      go_wp2_with fail
                      go_ret3
                      exact ⟨by rw [HZ.out, ← HALL.out.2, ← HS.out]; rfl, rfl⟩
                  · have HZ := Lib.hid (HV.out.2 (digOk_yes (by rw [HTL.out]; exact hz0) (by rw [HTL.out]; exact hj4) HALL.out.1 (.inr (by rw [hg0, ne_eq, u8_eq]; simpa using h48))))
                    replace h48 : (((T[0]'hz0).toNat : Int) == 48) = false := by simpa using h48
                    clear hg0 h0
                    go_wp2_with fail
                    all_goals
                      go_ret3
                      exact ⟨by rw [HZ.out, ← HALL.out.2, ← HS.out]; rfl, rfl⟩
      · have hnm : 91 ∉ s.data.toList := fun h => hks (HB.out.1 h)
        obtain rfl : k = s.size := by omega
        have hs0 : str (bef 91 s.data.toList) = s := by rw [(bef_none hnm).1]; rfl
        rw [hs0] at R1
        clear hs0
        cases hname : nameOk (bef 91 s.data.toList)
        · have HV := Lib.hid (stepV_name hname)
          rw [hname] at R1
          clear hname hnm
          go_wp2_with fail
          refine (R1.out _).mono ?_
          rintro e W ⟨rfl, rfl⟩
          go_wp2_with fail
          go_ret3
          exact ⟨by rw [HV.out]; rfl, rfl⟩
        · have HV := Lib.hid (stepV_bare hname hnm)
          rw [hname] at R1
          clear hname hnm
          go_wp2_with fail
          refine (R1.out _).mono ?_
          rintro e W ⟨rfl, rfl⟩
          go_wp2_with fail
          go_ret3
          exact ⟨by rw [HV.out]; rfl, rfl⟩
end Go.Proofs.Ytkjgcippcbfmgaa
