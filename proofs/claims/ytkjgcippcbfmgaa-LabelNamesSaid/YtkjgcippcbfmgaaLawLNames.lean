/- The law 'LabelNames': it returns true. No condition. -/
import Derived.ChangeMaps5
import Derived.Test.YtkjgcippcbfmgaaRows
import Derived.Test.YtkjgcippcbfmgaaRow
import Derived.Test.YtkjgcippcbfmgaaLabO
import Derived.Test.YtkjgcippcbfmgaaLabR
namespace Go.Rel
open Go.RowKit
/-- A string n times. -/
def repB (l : Bs) : Nat → Bs
  | 0 => []
  | n + 1 => repB l n ++ l
theorem repB_len (l : Bs) : ∀ n, (repB l n).length = n * l.length
  | 0 => by simp [repB]
  | n + 1 => by unfold repB; rw [List.length_append, repB_len l n, Nat.succ_mul]
theorem repB_one (c : UInt8) : ∀ n, repB [c] n = List.replicate n c
  | 0 => rfl
  | n + 1 => by unfold repB; rw [repB_one c n, List.replicate_succ']
theorem many_form {n : Nat} (h1 : 40 < n) (h2 : n ≤ 4000) : checkP (List.replicate n 97) = 12 := by
  have hno : (47 : UInt8) ∉ List.replicate n (97 : UInt8) := fun h => by have := List.eq_of_mem_replicate h; revert this; decide
  have hno2 : (91 : UInt8) ∉ List.replicate n (97 : UInt8) := fun h => by have := List.eq_of_mem_replicate h; revert this; decide
  have hne : List.replicate n (97 : UInt8) ≠ [] := by
    intro h
    have := congrArg List.length h
    rw [List.length_replicate, List.length_nil] at this
    omega
  have hc : cutP (List.replicate n (97 : UInt8)) = [List.replicate n 97] := by rw [cutP_segs hne, segs_one hno]
  have hs : stepOk (List.replicate n (97 : UInt8)) = false := by
    rw [stepOk_eq, (bef_none hno2).1, nameOk_len (by rw [List.length_replicate]; omega), Bool.false_and]
  unfold checkP
  rw [hc, List.length_replicate, if_neg (by simp; omega)]
  simp [hs]
theorem forms_ok (W : Bs) (hW : checkP (W ++ [97]) = 12) : ∀ x ∈ ([[47], [97, 47], [47, 97], [97, 47, 47, 98], [97, 91], [97, 91, 93], [97, 91, 48, 49, 93], [97, 91, 49, 48, 48, 48, 48, 93], [97, 91, 49, 93, 98], [97, 91, 45, 49, 93], [91, 49, 93], [97, 32, 98], W ++ [97]] : List Bs), checkP x = 12 := by
  intro x hx
  simp only [List.mem_cons, List.not_mem_nil, or_false] at hx
  rcases hx with rfl | rfl | rfl | rfl | rfl | rfl | rfl | rfl | rfl | rfl | rfl | rfl | rfl
  · decide +kernel
  · decide +kernel
  · decide +kernel
  · decide +kernel
  · decide +kernel
  · decide +kernel
  · decide +kernel
  · decide +kernel
  · decide +kernel
  · decide +kernel
  · decide +kernel
  · decide +kernel
  · exact hW
end Go.Rel
namespace Go.Proofs.Ytkjgcippcbfmgaa
open Go.RowKit Go.Rel

set_option maxHeartbeats 1000000 in
theorem long_any (l : Bs) (n : Nat) (w : World) (h : n * l.length ≤ 100000) (hn : n ≤ 100000) :
    Calls Try.prog 32 #[.string (str l), .int .i64 n] w (Same w (.string (str (repB l n)))) := by
  have HL := Lib.hid h
  have hl0 : n = 0 ∨ l.length ≤ 100000 := by
    rcases Nat.eq_zero_or_pos n with h0 | h0
    · exact .inl h0
    · exact .inr (Nat.le_trans (Nat.le_mul_of_pos_left _ h0) h)
  have HL0 := Lib.hid hl0
  clear h hl0
  go_enter Try.func32, Try.ntmps32
  go_wp2_with fail
  go_loop [5, 6] (fun sv iv => ∃ k : Nat, k ≤ n ∧ iv = .int .i64 k ∧ sv = .string (str (repB l k))) (fun _ iv => n - (intOf iv).toNat)
  case atStart => exact ⟨0, Nat.zero_le _, rfl, rfl⟩
  case round =>
    obtain ⟨k, hk, rfl, rfl⟩ := hrel
    by_cases hlt : k < n
    · have hx1 : (str l).size ≤ 100000 := by
        rw [str_size]
        rcases HL0.out with h | h
        · omega
        · exact h
      have hx2 : (str (repB l k)).size ≤ 100000 := by
        rw [str_size, repB_len]
        exact Nat.le_trans (Nat.mul_le_mul_right _ (Nat.le_of_lt hlt)) HL.out
      go_wp2_with fail
      go_round
      case rel => exact ⟨k + 1, by omega, by go_num, by rw [str_append]; rfl⟩
      case measure => simp [intOf] <;> omega
    · obtain rfl : k = n := by omega
      go_wp2_with fail
      go_ret
      exact ⟨rfl, rfl⟩

set_option maxRecDepth 100000 in
set_option maxHeartbeats 8000000 in
theorem lnames_walk (w : World) : Calls Try.prog 8 #[] w (Ret w (.bool true)) := by
  obtain ⟨A, hA⟩ : ∃ A, repB [97, 47] 39 = A := ⟨_, rfl⟩
  obtain ⟨W, hW⟩ : ∃ W, repB [97] 40 = W := ⟨_, rfl⟩
  obtain ⟨O, hO⟩ : ∃ O, repB [97] 4001 = O := ⟨_, rfl⟩
  have lA : A.length = 78 := by rw [← hA, repB_len]; rfl
  have lW : W.length = 40 := by rw [← hW, repB_len]; rfl
  have lO : O.length = 4001 := by rw [← hO, repB_len]; rfl
  have a1 := fun X => long_any [97, 47] 39 X (by decide) (by decide)
  have a2 := fun X => long_any [97] 40 X (by decide) (by decide)
  have a3 := fun X => long_any [97] 4001 X (by decide) (by decide)
  rw [hA] at a1
  rw [hW] at a2
  rw [hO] at a3
  have f1 : joinE (A ++ [97]) [97] = 4 := by rw [← hA]; decide +kernel
  have f2 : joinE [97] [66] = 12 := by decide +kernel
  have f3 : joinE [97] [98, 47, 99] = 12 := by decide +kernel
  have f4 : joinE [] (W ++ [91, 57, 57, 57, 57, 93]) = 0 ∧ joinS [] (W ++ [91, 57, 57, 57, 57, 93]) = W ++ [91, 57, 57, 57, 57, 93] := by rw [← hW]; decide +kernel
  have f5 : checkP (W ++ [97]) = 12 := by rw [← hW]; decide +kernel
  have f6 : checkP (A ++ [97]) = 0 := by rw [← hA]; decide +kernel
  have f7 : checkP (A ++ [97] ++ [47, 97]) = 4 := by rw [← hA]; decide +kernel
  have f8 : checkP O = 4 := checkP_long (.inl (by omega))
  have f9 : checkP (O.take 4000) = 12 := by
    rw [← hO, repB_one, List.take_replicate]
    exact many_form (by decide) (by decide)
  have f10 : nameOk W = true := by rw [← hW]; decide +kernel
  have f11 : nameOk (W ++ [97]) = false := by rw [← hW]; decide +kernel
  have c1 := fun X => join_any (str (A ++ [97])) (str [97]) X (by rw [str_size, List.length_append, lA]; decide) (by decide)
  rw [str_list, str_list, f1] at c1
  have c2 := fun X => parent_any (str []) X (by decide)
  rw [str_list, show parentE [] = 6 by decide] at c2
  have c3 := fun X => last_any (str []) X (by decide)
  rw [str_list, show parentE [] = 6 by decide] at c3
  have c4 := fun X => join_any (str [97]) (str [66]) X (by decide) (by decide)
  rw [str_list, str_list, f2] at c4
  have c5 := fun X => join_any (str [97]) (str [98, 47, 99]) X (by decide) (by decide)
  rw [str_list, str_list, f3] at c5
  have c6 := fun X => join_any (str []) (str (W ++ [91, 57, 57, 57, 57, 93])) X (by decide) (by rw [str_size, List.length_append, lW]; decide)
  rw [str_list, str_list, f4.1, f4.2] at c6
  have c7 := fun X => steps_all [] X (by decide)
  have c8 := fun X => check_any (A ++ [97]) X (by rw [List.length_append, lA]; unfold maxLen; decide)
  rw [f6] at c8
  have c9 := fun X => check_any (A ++ [97] ++ [47, 97]) X (by rw [List.length_append, List.length_append, lA]; unfold maxLen; decide)
  rw [f7] at c9
  have c10 := fun X => check_any O X (by rw [lO]; unfold maxLen; decide)
  rw [f8] at c10
  have c11 := fun X => check_any (O.take 4000) X (by rw [List.length_take, lO]; unfold maxLen; decide)
  rw [f9] at c11
  have c12 := fun X => name_any (str []) X (by unfold maxLen; decide)
  rw [str_list, show nameOk [] = false by decide] at c12
  have c13 := fun X => name_any (str [57, 97]) X (by unfold maxLen; decide)
  rw [str_list, show nameOk [57, 97] = false by decide] at c13
  have c14 := fun X => name_any (str W) X (by rw [str_size, lW]; unfold maxLen; decide)
  rw [str_list, f10] at c14
  have c15 := fun X => name_any (str (W ++ [97])) X (by rw [str_size, List.length_append, lW]; unfold maxLen; decide)
  rw [str_list, f11] at c15
  have hfo := forms_ok W f5
  have hfl : ∀ x ∈ ([[47], [97, 47], [47, 97], [97, 47, 47, 98], [97, 91], [97, 91, 93], [97, 91, 48, 49, 93], [97, 91, 49, 48, 48, 48, 48, 93], [97, 91, 49, 93, 98], [97, 91, 45, 49, 93], [91, 49, 93], [97, 32, 98], W ++ [97]] : List Bs), x.length ≤ maxLen := by
    intro x hx
    simp only [List.mem_cons, List.not_mem_nil, or_false] at hx
    rcases hx with rfl | rfl | rfl | rfl | rfl | rfl | rfl | rfl | rfl | rfl | rfl | rfl | rfl <;> first | (rw [List.length_append, lW]; unfold maxLen; decide) | (unfold maxLen; decide)
  have e1 : str A ++ ⟨#[97]⟩ = str (A ++ [97]) := str_append A [97]
  have e2 : str W ++ ⟨#[91, 57, 57, 57, 57, 93]⟩ = str (W ++ [91, 57, 57, 57, 57, 93]) := str_append W [91, 57, 57, 57, 57, 93]
  have e3 : str W ++ ⟨#[97]⟩ = str (W ++ [97]) := str_append W [97]
  have e4 : str (A ++ [97]) ++ ⟨#[47, 97]⟩ = str (A ++ [97] ++ [47, 97]) := str_append (A ++ [97]) [47, 97]
  have e5 : (str O).extract 0 4000 = str (O.take 4000) := by rw [Lib.extract_eq, str_list]; rfl
  have sA : (str A).size ≤ 1000 := by rw [str_size, lA]; decide
  have sW : (str W).size ≤ 1000 := by rw [str_size, lW]; decide
  have sA1 : (str (A ++ [97])).size ≤ 1000 := by rw [str_size, List.length_append, lA]; decide
  have sO : (str O).size = 4001 := by rw [str_size, lO]
  have A1 := Lib.hid a1
  have A2 := Lib.hid a2
  have A3 := Lib.hid a3
  have C1 := Lib.hid c1
  have C2 := Lib.hid c2
  have C3 := Lib.hid c3
  have C4 := Lib.hid c4
  have C5 := Lib.hid c5
  have C6 := Lib.hid c6
  have C7 := Lib.hid c7
  have C8 := Lib.hid c8
  have C9 := Lib.hid c9
  have C10 := Lib.hid c10
  have C11 := Lib.hid c11
  have C12 := Lib.hid c12
  have C13 := Lib.hid c13
  have C14 := Lib.hid c14
  have C15 := Lib.hid c15
  have E1 := Lib.hid e1
  have E2 := Lib.hid e2
  have E3 := Lib.hid e3
  have E4 := Lib.hid e4
  have E5 := Lib.hid e5
  have HFO := Lib.hid hfo
  have HFL := Lib.hid hfl
  have hWW : ((str (W ++ [91, 57, 57, 57, 57, 93])).toList == (str (W ++ [91, 57, 57, 57, 57, 93])).toList) = true := beq_self_eq_true _
  clear hA hW hO lA lW lO a1 a2 a3 f1 f2 f3 f4 f5 f6 f7 f8 f9 f10 f11 c1 c2 c3 c4 c5 c6 c7 c8 c9 c10 c11 c12 c13 c14 c15 hfo hfl e1 e2 e3 e4 e5
  obtain ⟨Fs, hFS⟩ : ∃ Fs : List Bs, Fs = [[47], [97, 47], [47, 97], [97, 47, 47, 98], [97, 91], [97, 91, 93], [97, 91, 48, 49, 93], [97, 91, 49, 48, 48, 48, 48, 93], [97, 91, 49, 93, 98], [97, 91, 45, 49, 93], [91, 49, 93], [97, 32, 98], W ++ [97]] := ⟨_, rfl⟩
  rw [← hFS] at HFO HFL
  have HFS := Lib.hid hFS
  clear hFS
  go_enter Try.func8, Try.ntmps8
  go_wp2_with fail
  refine (A1.out _).mono ?_
  rintro e w1 ⟨rfl, rfl⟩
  go_wp2_with fail
  rw [E1.out]
  refine (C1.out _).mono ?_
  rintro e w1 ⟨rfl, hb⟩
  go_wp2_with fail
  refine (C2.out _).mono ?_
  rintro e w2 ⟨rfl, hx⟩
  replace hb := hb.trans (hx.mono hb.size)
  clear hx
  go_wp2_with fail
  refine (C3.out _).mono ?_
  rintro e w3 ⟨rfl, hx⟩
  replace hb := hb.trans (hx.mono hb.size)
  clear hx
  go_wp2_with fail
  refine (C4.out _).mono ?_
  rintro e w4 ⟨rfl, hx⟩
  replace hb := hb.trans (hx.mono hb.size)
  clear hx
  go_wp2_with fail
  refine (C5.out _).mono ?_
  rintro e w5 ⟨rfl, hx⟩
  replace hb := hb.trans (hx.mono hb.size)
  clear hx
  go_wp2_with fail
  refine (A2.out _).mono ?_
  rintro e w6 ⟨rfl, rfl⟩
  go_wp2_with fail
  rw [E2.out]
  refine (C6.out _).mono ?_
  rintro e w6 ⟨rfl, hx⟩
  replace hb := hb.trans (hx.mono hb.size)
  clear hx
  go_wp2_with fail
  refine (C7.out _).mono ?_
  rintro e w7 ⟨v, rfl, ⟨B7, ca, rfl, -, -, -⟩, hx⟩
  replace hb := hb.trans (hx.mono hb.size)
  clear hx
  rw [show checkP [] = 0 from check_nil]
  go_wp2_with fail
  rw [E3.out]
  have hq : Recs strC 1 (w7.alloc (.cells #[.string ⟨#[47]⟩, .string ⟨#[97, 47]⟩, .string ⟨#[47, 97]⟩, .string ⟨#[97, 47, 47, 98]⟩, .string ⟨#[97, 91]⟩, .string ⟨#[97, 91, 93]⟩, .string ⟨#[97, 91, 48, 49, 93]⟩, .string ⟨#[97, 91, 49, 48, 48, 48, 48, 93]⟩, .string ⟨#[97, 91, 49, 93, 98]⟩, .string ⟨#[97, 91, 45, 49, 93]⟩, .string ⟨#[91, 49, 93]⟩, .string ⟨#[97, 32, 98]⟩, .string (str (W ++ [97]))] 9)) (w7.alloc (.cells #[.string ⟨#[47]⟩, .string ⟨#[97, 47]⟩, .string ⟨#[47, 97]⟩, .string ⟨#[97, 47, 47, 98]⟩, .string ⟨#[97, 91]⟩, .string ⟨#[97, 91, 93]⟩, .string ⟨#[97, 91, 48, 49, 93]⟩, .string ⟨#[97, 91, 49, 48, 48, 48, 48, 93]⟩, .string ⟨#[97, 91, 49, 93, 98]⟩, .string ⟨#[97, 91, 45, 49, 93]⟩, .string ⟨#[91, 49, 93]⟩, .string ⟨#[97, 32, 98]⟩, .string (str (W ++ [97]))] 9)).heap.size (some ⟨w7.heap.size, 0, none⟩) [[47], [97, 47], [47, 97], [97, 47, 47, 98], [97, 91], [97, 91, 93], [97, 91, 48, 49, 93], [97, 91, 49, 48, 48, 48, 48, 93], [97, 91, 49, 93, 98], [97, 91, 45, 49, 93], [91, 49, 93], [97, 32, 98], W ++ [97]] := recs_new w7 [[47], [97, 47], [47, 97], [97, 47, 47, 98], [97, 91], [97, 91, 93], [97, 91, 48, 49, 93], [97, 91, 49, 48, 48, 48, 48, 93], [97, 91, 49, 93, 98], [97, 91, 45, 49, 93], [91, 49, 93], [97, 32, 98], W ++ [97]] 9
  rw [← HFS.out] at hq
  have hFn : Fs.length = 13 := by rw [HFS.out]; rfl
  have HFN := Lib.hid hFn
  clear HFS hFn
  have hx := below_alloc w7 (.cells #[.string ⟨#[47]⟩, .string ⟨#[97, 47]⟩, .string ⟨#[47, 97]⟩, .string ⟨#[97, 47, 47, 98]⟩, .string ⟨#[97, 91]⟩, .string ⟨#[97, 91, 93]⟩, .string ⟨#[97, 91, 48, 49, 93]⟩, .string ⟨#[97, 91, 49, 48, 48, 48, 48, 93]⟩, .string ⟨#[97, 91, 49, 93, 98]⟩, .string ⟨#[97, 91, 45, 49, 93]⟩, .string ⟨#[91, 49, 93]⟩, .string ⟨#[97, 32, 98]⟩, .string (str (W ++ [97]))] 9)
  replace hb := hb.trans (hx.mono hb.size)
  clear hx
  generalize w7.heap.size = g7 at hq ⊢
  generalize World.alloc w7 _ = w8 at hq hb ⊢
  go_loopw [19] (fun iv wr => ∃ k : Nat, k ≤ 13 ∧ iv = .int .i64 k ∧ Below w8.heap.size w8 wr) (fun iv _ => 13 - (intOf iv).toNat)
  case atStart => exact ⟨0, Nat.zero_le _, rfl, Below.refl _ _⟩
  case round =>
    obtain ⟨k, hk, rfl, hb2⟩ := hrel
    by_cases hlt : k < 13
    · have hkl : k < Fs.length := by rw [HFN.out]; exact hlt
      obtain ⟨b, off, e, hB, c0⟩ := str_at (hq.below hb2) hkl
      obtain ⟨rfl, rfl⟩ : g7 = b ∧ 0 = off := by simpa using e
      rw [Nat.zero_add] at c0
      have s1 := fun X => check_any Fs[k] X (HFL.out _ (List.getElem_mem hkl))
      rw [HFO.out _ (List.getElem_mem hkl)] at s1
      generalize Fs[k] = x at *
      have S1 := Lib.hid s1
      clear s1 e hb
      go_wp2_with fail
      refine (S1.out _).mono ?_
      rintro e w9 ⟨rfl, hx⟩
      replace hb2 := hb2.trans (hx.mono hb2.size)
      clear hx c0
      go_wp2_with fail
      go_roundw
      case rel => exact ⟨k + 1, by omega, by go_num, hb2⟩
      case measure => simp [intOf] <;> omega
    · obtain rfl : k = 13 := by omega
      replace hb := hb.trans (hb2.mono hb.size)
      clear hq hb2
      go_wp2_with fail
      refine (A3.out _).mono ?_
      rintro e w9 ⟨rfl, rfl⟩
      go_wp2_with fail
      refine (alive_any _).mono ?_
      rintro e w9 ⟨rfl, hx⟩
      replace hb := hb.trans (hx.mono hb.size)
      clear hx
      go_wp2_with fail
      refine (C8.out _).mono ?_
      rintro e w10 ⟨rfl, hx⟩
      replace hb := hb.trans (hx.mono hb.size)
      clear hx
      go_wp2_with fail
      rw [E4.out]
      refine (C9.out _).mono ?_
      rintro e w11 ⟨rfl, hx⟩
      replace hb := hb.trans (hx.mono hb.size)
      clear hx
      go_wp2_with fail
      refine (C10.out _).mono ?_
      rintro e w12 ⟨rfl, hx⟩
      replace hb := hb.trans (hx.mono hb.size)
      clear hx
      go_wp2_with fail
      rw [E5.out]
      refine (C11.out _).mono ?_
      rintro e w13 ⟨rfl, hx⟩
      replace hb := hb.trans (hx.mono hb.size)
      clear hx
      go_wp2_with fail
      refine (C12.out _).mono ?_
      rintro e w14 ⟨rfl, hx⟩
      replace hb := hb.trans (hx.mono hb.size)
      clear hx
      go_wp2_with fail
      refine (C13.out _).mono ?_
      rintro e w15 ⟨rfl, hx⟩
      replace hb := hb.trans (hx.mono hb.size)
      clear hx
      go_wp2_with fail
      refine (C14.out _).mono ?_
      rintro e w16 ⟨rfl, hx⟩
      replace hb := hb.trans (hx.mono hb.size)
      clear hx
      go_wp2_with fail
      rw [E3.out]
      refine (C15.out _).mono ?_
      rintro e w17 ⟨rfl, hx⟩
      replace hb := hb.trans (hx.mono hb.size)
      clear hx
      go_wp2_with fail
      go_ret
      exact ret_bool rfl hb

open Go.ChangeShapes Go.WideShapes Go.ChangeAt Go.Joins Go.ChangeMaps
theorem lnames_own : ownKnob Try.prog.godebug = none := by kernel_rfl
theorem lnames_laid : laidOutB Try.prog = true := by kernel_rfl
set_option maxRecDepth 100000 in
theorem lnames_lifted (os : Os) (started : os.Started) (H : Type) (enc : TypeId × Value → H) :
    ReturnsInHanded {} Try.checked os 8 .any (Rows.labelNamesSpec.pre6 enc Try.prog Try.f8 Rows.labelNamesRow.domain false) (Rows.labelNamesSpec.post enc Try.prog Try.f8 false true false false) := by
  refine returnsInHanded_of_change (C := Try.checked) lnames_own started (by kernel_rfl) Try.func8
    (ChangeSpec.witness6 (enc := enc) (C := Try.checked) false ⟨#[], #[], []⟩ 8 (by kernel_rfl) (by kernel_rfl) (by kernel_rfl) (by kernel_rfl)) ?_
  intro W base args ds gs before hval0 hW hcnd _
  have hW' := hW
  obtain ⟨p, q, hA0, hV, rfl, hfz, hnd⟩ := hW
  have hA : DataW.TrodAll enc Try.prog W 0 (fun _ => true) true Try.f8.params.toList args.toList ds p := hA0
  rw [Try.params8] at hA
  obtain ⟨hargs, rfl, rfl⟩ := trodAll_nil hA
  obtain rfl : args = #[] := by cases args; simp_all
  obtain ⟨rfl, rfl⟩ := trodVars_none hV
  refine (lnames_walk W).mono fun e W' ⟨he, hb⟩ => ?_
  exact ⟨_, he, law_post lnames_laid hW' rfl (by kernel_rfl) rfl Try.underlying4 rfl rfl rfl hb⟩

theorem lnames_holds : Rows.LabelNamesSaid :=
  OpenClaim.holds_of_wide 8 Try.f8 rfl rfl rfl rfl rfl rfl rfl ⟨rfl, rfl, rfl, rfl, rfl⟩ rfl rfl rfl rfl rfl (by kernel_rfl) Try.func8 (by kernel_rfl)
    (of_decide_eq_true (by kernel_rfl)) (by unfold Func.isWrapper; first | (rw [if_pos (by decide +kernel)]; kernel_rfl) | (rw [if_neg (by decide +kernel)]; exact ⟨rfl, rfl⟩))
    (fun os started H enc _ => lnames_lifted os started H enc)
#print axioms lnames_holds
end Go.Proofs.Ytkjgcippcbfmgaa
