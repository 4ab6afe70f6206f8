/- digits: a number of at most ten digits; Cut at one byte. -/
import Derived.Laws.RangeAny
import Derived.Lib.OthersKept
import Derived.Deep.QuietTactic
import Derived.BigQuiet
import Derived.WalkSmall
import Derived.Test.YtpkcmjiokdpegaaDoorLabSpec
import Derived.Test.YtpkcmjiokdpegaaDoorBase
import Derived.Test.YtpkcmjiokdpegaaDoorRatT
namespace Go.Rel
open Go.RowKit
theorem isD_int {c : UInt8} : isD c = true ↔ (48 ≤ (c.toNat : Int) ∧ (c.toNat : Int) ≤ 57) := by
  unfold isD; rw [decide_eq_true_eq]; omega
theorem u8_eq (c : UInt8) (n : UInt8) : (c = n) ↔ (c.toNat : Int) = n.toNat := by rw [← UInt8.toNat_inj]; omega
/-- A number of at most ten digits without zeros in front. -/
def digOkT (d : Bs) : Bool := decide (1 ≤ d.length ∧ d.length ≤ 10) && (decide (d.length = 1) || decide (d.head? ≠ some 48)) && d.all isD
def numT (d : Bs) : Int := if digOkT d = true then (numOf d 0 : Nat) else 0
theorem digT_cases (T : ByteArray) : (T.size = 0 ∧ digOkT T.data.toList = false) ∨ (10 < T.size ∧ digOkT T.data.toList = false) ∨ (1 ≤ T.size ∧ T.size ≤ 10 ∧ ∃ h : 0 < T.size, ((((T[0]'h).toNat : Int) == 48) = true ∧ 1 < T.size ∧ digOkT T.data.toList = false) ∨ (((((T[0]'h).toNat : Int) == 48) = false ∨ (((((T[0]'h).toNat : Int) == 48) = true) ∧ T.size = 1)) ∧ digOkT T.data.toList = T.data.toList.all isD)) := by
  have hlT : T.data.toList.length = T.size := by simp
  by_cases z1 : T.size = 0
  · exact .inl ⟨z1, by unfold digOkT; rw [hlT, z1]; rfl⟩
  by_cases z2 : 10 < T.size
  · refine .inr (.inl ⟨z2, ?_⟩)
    unfold digOkT
    rw [hlT, decide_eq_false (by omega)]; rfl
  refine .inr (.inr ⟨by omega, by omega, by omega, ?_⟩)
  have hh : T.data.toList.head? = some (T[0]'(by omega)) := by
    rw [List.head?_eq_getElem?, List.getElem?_eq_getElem (by rw [hlT]; omega)]; rfl
  by_cases z3 : T[0]'(by omega) = 48
  · have z4 := (u8_eq _ _).1 z3
    by_cases z5 : T.size = 1
    · refine .inr ⟨.inr ⟨by simpa using z4, z5⟩, ?_⟩
      unfold digOkT; rw [hlT, z5]; simp
    · refine .inl ⟨by simpa using z4, by omega, ?_⟩
      unfold digOkT; rw [hlT, hh, z3, decide_eq_false z5]; simp
  · have z4 : ¬ (((T[0]'(by omega)).toNat : Int) = 48) := fun h => z3 ((u8_eq _ 48).2 h)
    refine .inr ⟨.inl (by simpa using z4), ?_⟩
    unfold digOkT; rw [hlT, hh, decide_eq_true (show 1 ≤ T.size ∧ T.size ≤ 10 by omega)]; simp [z3]
end Go.Rel
namespace Go.Proofs.YtpkcmjiokdpegaaDoor
open Go.RowKit Go.Rel
/-- Cut at one byte. -/
theorem cut_one (s : ByteArray) (c : UInt8) (w : World) (hs : s.size ≤ maxLen) :
    Calls Tryd.prog 44 #[.string s, .string ⟨#[c]⟩] w (Ret w (.tuple #[.string (str (bef c s.data.toList)), .string (str (aft c s.data.toList)), .bool (decide (c ∈ s.data.toList))])) := by
  unfold maxLen at hs
  have hlen : s.data.toList.length = s.size := by simp
  by_cases hm : c ∈ s.data.toList
  · have hix := (index_mem c s.data.toList).1 hm
    have hsome := bef_some hm
    have e1 : s.extract 0 (bef c s.data.toList).length = str (bef c s.data.toList) := by
      rw [Lib.extract_eq]
      unfold str
      congr 2
      conv => lhs; arg 2; arg 2; rw [hsome]
      simp
    have e2 : s.extract ((bef c s.data.toList).length + 1) s.size = str (aft c s.data.toList) := by
      rw [Lib.extract_eq]
      unfold str
      congr 2
      conv => lhs; arg 2; arg 2; rw [hsome]
      rw [← hlen]
      have : (bef c s.data.toList).length + 1 + (aft c s.data.toList).length = s.data.toList.length := by
        conv => rhs; rw [hsome]
        simp; omega
      rw [show bef c s.data.toList ++ c :: aft c s.data.toList = (bef c s.data.toList ++ [c]) ++ aft c s.data.toList by simp, List.drop_append, List.drop_of_length_le (by simp), List.take_of_length_le (by simp; omega)]
      simp
    have hle : (bef c s.data.toList).length + 1 ≤ s.size := by
      have := congrArg List.length hsome
      simp at this
      omega
    rw [decide_eq_true hm]
    generalize bef c s.data.toList = B at *
    generalize aft c s.data.toList = A at *
    obtain ⟨n, hn⟩ : ∃ n, B.length = n := ⟨_, rfl⟩
    rw [hn] at hix e1 e2 hle
    have HE := Lib.hid (show _ ∧ _ from ⟨e1, e2⟩)
    clear hsome hm e1 e2 hn hlen
    go_enter Tryd.func44, Tryd.ntmps44
    go_wp2_with (first | (go_at_call 59; refine (Tryd.stringslite_Index_one _ _ _).mono ?_; rw [hix]; rintro e w' ⟨rfl, rfl⟩) | go_in)
    go_quiet (fail)
    go_wp2_with fail
    go_ret3
    go_wp2_with fail
    go_ret3
    refine ⟨?_, below_drewN (Below.refl _ _) _⟩
    show Ending.returned (.tuple #[.string (s.extract 0 n), .string (s.extract (n + 1) s.size), .bool true]) = _
    rw [HE.out.1, HE.out.2]
  · have hix := (index_mem c s.data.toList).2 hm
    obtain ⟨e1, e2⟩ := bef_none hm
    rw [e1, e2, decide_eq_false hm]
    have e3 : str s.data.toList = s := Lib.mk_data s
    rw [e3]
    clear e1 e2 e3 hm hlen
    go_enter Tryd.func44, Tryd.ntmps44
    go_wp2_with (first | (go_at_call 59; refine (Tryd.stringslite_Index_one _ _ _).mono ?_; rw [hix]; rintro e w' ⟨rfl, rfl⟩) | go_in)
    go_ret3
    go_wp2_with fail
    go_ret3
    exact ⟨rfl, Below.refl _ _⟩

set_option maxHeartbeats 2000000 in
theorem digits_any (T : ByteArray) (w : World) (hs : T.size ≤ maxLen) :
    Calls Tryd.prog 45 #[.string T] w (Ret w (.tuple #[.int .i64 (numT T.data.toList), .bool (digOkT T.data.toList)])) := by
  unfold maxLen at hs
  rcases digT_cases T with ⟨z1, z2⟩ | ⟨z1, z2⟩ | ⟨z0, z1, hz, ⟨z3, z4, z2⟩ | ⟨z3, z2⟩⟩
  case inl =>
    have q1 : ((T.size : Int) == 0) = true := by rw [beq_iff_eq]; omega
    clear z1
    rw [show numT T.data.toList = 0 by unfold numT; rw [z2]; rfl, z2]
    clear z2
    go_enter Tryd.func45, Tryd.ntmps45
    go_wp2_with fail
    go_ret2
    exact ⟨rfl, Below.refl _ _⟩
  case inr.inl =>
    have q1 : ((T.size : Int) == 0) = false := by rw [beq_eq_false_iff_ne]; omega
    have q2 : decide ((10 : Int) < T.size) = true := by rw [decide_eq_true_eq]; omega
    clear z1
    rw [show numT T.data.toList = 0 by unfold numT; rw [z2]; rfl, z2]
    clear z2
    go_enter Tryd.func45, Tryd.ntmps45
    go_wp2_with fail
    go_ret2
    exact ⟨rfl, Below.refl _ _⟩
  case inr.inr.inl =>
    have q1 : ((T.size : Int) == 0) = false := by rw [beq_eq_false_iff_ne]; omega
    have q2 : decide ((10 : Int) < T.size) = false := by rw [decide_eq_false_iff_not]; omega
    have q3 : decide ((1 : Int) < T.size) = true := by rw [decide_eq_true_eq]; omega
    clear z0 z1 z4
    rw [show numT T.data.toList = 0 by unfold numT; rw [z2]; rfl, z2]
    clear z2
    go_enter Tryd.func45, Tryd.ntmps45
    go_wp2_with fail
    go_ret2
    exact ⟨rfl, Below.refl _ _⟩
  case inr.inr.inr =>
    have q1 : ((T.size : Int) == 0) = false := by rw [beq_eq_false_iff_ne]; omega
    have q2 : decide ((10 : Int) < T.size) = false := by rw [decide_eq_false_iff_not]; omega
    obtain ⟨V, hV⟩ : ∃ V, Value.tuple #[Value.int .i64 (numT T.data.toList), Value.bool (digOkT T.data.toList)] = V := ⟨_, rfl⟩
    rw [hV]
    have hV2 : Value.tuple #[Value.int .i64 (if T.data.toList.all isD = true then ((numOf T.data.toList 0 : Nat) : Int) else 0), Value.bool (T.data.toList.all isD)] = V := by
      rw [← hV]; unfold numT; rw [z2]
    have HV := Lib.hid hV2
    have hzz : ((((T[0]'hz).toNat : Int) == 48) = false) ∨ ((((T[0]'hz).toNat : Int) == 48) = true ∧ decide ((1 : Int) < T.size) = false) := by
      rcases z3 with z3 | ⟨z3, z6⟩
      · exact .inl z3
      · exact .inr ⟨z3, by rw [decide_eq_false_iff_not]; omega⟩
    have HL := Lib.hid (show T.data.toList.length = T.size by simp)
    clear hV hV2 z3 z2 z0
    rcases hzz with z3 | ⟨z3, q3⟩
    all_goals
      go_enter Tryd.func45, Tryd.ntmps45
      go_wp2_with fail
      clear q1 q2 z3
      (try clear q3)
      go_loopw [4] (fun nv wr => ∃ (N pos : Nat), pos ≤ T.size ∧ nv = .int .i64 N ∧ wr = w.iter T pos ∧ Hid (N = numOf (T.data.toList.take pos) 0 ∧ (T.data.toList.take pos).all isD = true)) (fun _ wr => T.size - wr.iterPos w.heap.size)
      case atStart => exact ⟨0, 0, Nat.zero_le _, rfl, rfl, rfl, rfl⟩
      case round =>
        obtain ⟨N, k, hk, rfl, rfl, HP⟩ := hrel
        have hN0 : N < 10000000000 := by
          obtain ⟨h1, h2⟩ := HP.out
          have := numOf_lt h2 0
          have h3 : (T.data.toList.take k).length ≤ 10 := by rw [List.length_take]; omega
          have h4 : 10 ^ (T.data.toList.take k).length ≤ 10 ^ 10 := Nat.pow_le_pow_right (by omega) h3
          omega
        by_cases hlt : k < T.size
        · have hpos0 : (w.iter T k).iterPos w.heap.size = k := World.iterPos_iter w T k
          have hpos1 : (w.iter T (k + 1)).iterPos w.heap.size = k + 1 := World.iterPos_iter w T (k + 1)
          have hget : T.data.toList[k]'(by rw [HL.out]; exact hlt) = T[k] := rfl
          by_cases hd : isD T[k] = true
          · have hdd := isD_int.1 hd
            have hnx := fun ty => run_next_ascii (P := Tryd.prog) w T k ty hlt (by omega)
            have HN := Lib.hid (show 10 * N + (T[k].toNat - 48) = numOf (T.data.toList.take (k + 1)) 0 ∧ (T.data.toList.take (k + 1)).all isD = true from by
              obtain ⟨h1, h2⟩ := HP.out
              rw [numOf_take (by rw [HL.out]; exact hlt), hget, ← h1]
              refine ⟨rfl, ?_⟩
              rw [List.take_succ_eq_append_getElem (by rw [HL.out]; exact hlt), List.all_append, h2, hget]
              simp [hd])
            obtain ⟨d1, d2⟩ := hdd
            clear HP hget hd
            go_wp2_with fail
            go_roundw
            case rel => exact ⟨_, k + 1, by omega, by rw [show (10 * (N : Int) + ((T[k].toNat : Int) - 48)) = ((10 * N + (T[k].toNat - 48) : Nat) : Int) by omega], rfl, HN⟩
            case measure => rw [hpos0, hpos1]; omega
          · have hno : T.data.toList.all isD = false := by
              cases hall : T.data.toList.all isD
              · rfl
              · rw [List.all_eq_true] at hall
                exact absurd (hall _ (List.getElem_mem _)) (hget ▸ hd)
            have HN := Lib.hid hno
            have hnd : (T[k].toNat : Int) < 48 ∨ 57 < (T[k].toNat : Int) := by
              have := mt isD_int.2 hd; omega
            clear HP hno
            by_cases ha : (T[k]'hlt).toNat < 128
            · have hnx := fun ty => run_next_ascii (P := Tryd.prog) w T k ty hlt ha
              clear hd hget
              rcases hnd with hnd | hnd
              all_goals
                go_wp2_with fail
                go_ret2
                exact ⟨by rw [← HV.out, HN.out]; rfl, below_alloc w _⟩
            · have hdh := decode_high T k hlt (by omega)
              have hle := decode_le T k
              have hnx := fun ty => run_next_any (P := Tryd.prog) w T k ty hlt
              obtain ⟨⟨R, DD⟩, hRD⟩ : ∃ x, Utf8.decode T k = x := ⟨_, rfl⟩
              rw [hRD] at hdh hle hnx
              simp only at hdh hle hnx
              obtain ⟨hd1, hd2⟩ := hdh
              clear hd hget hnd hRD
              go_wp2_with fail
              go_ret2
              exact ⟨by rw [← HV.out, HN.out]; rfl, below_alloc w _⟩
        · obtain rfl : k = T.size := by omega
          have hnx := fun ty => run_next_end (P := Tryd.prog) w T T.size ty hlt
          have hyes : T.data.toList.all isD = true ∧ N = numOf T.data.toList 0 := by
            obtain ⟨h1, h2⟩ := HP.out
            rw [List.take_of_length_le (by rw [HL.out]; exact Nat.le_refl _)] at h1 h2
            exact ⟨h2, h1⟩
          have HY := Lib.hid hyes
          clear HP hyes
          go_wp2_with fail
          go_ret2
          exact ⟨by rw [← HV.out, HY.out.1, ← HY.out.2]; rfl, below_alloc w _⟩
end Go.Proofs.YtpkcmjiokdpegaaDoor
