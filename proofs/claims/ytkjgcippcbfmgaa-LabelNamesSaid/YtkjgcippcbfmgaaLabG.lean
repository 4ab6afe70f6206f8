/- Steps, cut, Parent, Last of the program. -/
import Derived.Lib.LastIndexByte
import Derived.Test.YtkjgcippcbfmgaaLabF
namespace Go.Rel
open Go.RowKit
theorem segs_last {b : Bs} (h : 47 ∉ b) : ∀ a : Bs, segs (a ++ 47 :: b) = segs a ++ [b]
  | [] => by rw [List.nil_append, show (47 :: b : Bs) = [] ++ 47 :: b from rfl, segs_more (by simp), segs_one h]; rfl
  | c :: a => by
    have ih := segs_last h a
    by_cases hc : c = 47
    · subst hc
      rw [List.cons_append, show (47 :: (a ++ 47 :: b) : Bs) = [] ++ 47 :: (a ++ 47 :: b) from rfl, segs_more (by simp), ih, show (47 :: a : Bs) = [] ++ 47 :: a from rfl, segs_more (by simp)]
      rfl
    · rw [List.cons_append]
      cases hs : segs a with
      | nil => exact absurd hs (segs_ne a)
      | cons x t =>
        rw [segs_char hc hs]
        rw [hs] at ih
        rw [segs_char hc (show segs (a ++ 47 :: b) = x :: (t ++ [b]) by rw [ih]; rfl)]
        rfl
/-- A path without its last step, and this one. -/
def upS (l : Bs) : Bs := pathP (segs l).dropLast
def lastS (l : Bs) : Bs := (segs l).getLast (segs_ne l)
theorem up_none {l : Bs} (h : 47 ∉ l) : upS l = [] ∧ lastS l = l := by
  unfold upS lastS
  simp only [segs_one h]
  exact ⟨rfl, rfl⟩
theorem up_some {a b : Bs} (h : 47 ∉ b) : upS (a ++ 47 :: b) = a ∧ lastS (a ++ 47 :: b) = b := by
  unfold upS lastS
  simp only [segs_last h]
  rw [List.dropLast_concat, path_segs]
  exact ⟨rfl, by simp⟩
/-- Where the last slash stands. -/
theorem last_slash (s : ByteArray) :
    (Lib.lastIndexByte s 47 = -1 ∧ upS s.data.toList = [] ∧ lastS s.data.toList = s.data.toList) ∨
    (∃ j : Nat, Lib.lastIndexByte s 47 = j ∧ j < s.size ∧ str (upS s.data.toList) = s.extract 0 j ∧ str (lastS s.data.toList) = s.extract (j + 1) s.size) := by
  have hget : ∀ j (h : j < s.size), s.data[j]! = s.data.toList[j]'(by simpa using h) := fun j h => by
    have h' : j < s.data.size := h
    rw [getElem!_pos s.data j h']
    simp
  have h47 : ∀ c : UInt8, ((c.toNat : Int) = 47) ↔ c = 47 := fun c => (u8_eq c 47).symm
  have hl : s.data.toList.length = s.size := by simp
  rcases Lib.lastIndexByte_spec s 47 with ⟨e, hn⟩ | ⟨i, hi, e, hc, hn⟩
  · have hno : 47 ∉ s.data.toList := by
      intro hm
      obtain ⟨j, hj, h⟩ := List.mem_iff_getElem.1 hm
      have hj' : j < s.size := by omega
      have := hn j hj'
      rw [hget j hj', h] at this
      exact this rfl
    exact .inl ⟨e, up_none hno⟩
  · refine .inr ⟨i, e, hi, ?_⟩
    have hsp : s.data.toList = s.data.toList.take i ++ 47 :: s.data.toList.drop (i + 1) := by
      conv => lhs; rw [← List.take_append_drop i s.data.toList]
      rw [List.drop_eq_getElem_cons (by omega)]
      rw [hget i hi, h47] at hc
      rw [hc]
    have hno : 47 ∉ s.data.toList.drop (i + 1) := by
      intro hm
      obtain ⟨j, hj, h⟩ := List.mem_iff_getElem.1 hm
      rw [List.length_drop] at hj
      rw [List.getElem_drop] at h
      have hj' : i + 1 + j < s.size := by omega
      have := hn (i + 1 + j) (by omega) hj'
      rw [hget _ hj', h] at this
      exact this rfl
    have hu := up_some (a := s.data.toList.take i) hno
    rw [← hsp] at hu
    rw [hu.1, hu.2, Lib.extract_eq, Lib.extract_eq]
    unfold str
    refine ⟨by simp, ?_⟩
    congr 2
    rw [List.take_of_length_le (by rw [List.length_drop]; omega)]
def parentS (l : Bs) : Bs := if checkP l = 0 then upS l else []
def parentE (l : Bs) : Int := if checkP l ≠ 0 then checkP l else if l = [] then 6 else 0
def lastR (l : Bs) : Bs × Int := if checkP l ≠ 0 ∨ l = [] then ([], 0) else readR (lastS l)
def stepsL (l : Bs) : List Bs := if checkP l = 0 then cutP l else []
theorem lastS_mem (l : Bs) (h : l ≠ []) : lastS l ∈ cutP l := by unfold cutP lastS; rw [if_neg h]; exact List.getLast_mem _
theorem upS_nil : upS [] = [] := rfl
end Go.Rel
namespace Go.Proofs.Ytkjgcippcbfmgaa
open Go.RowKit Go.Rel

set_option maxHeartbeats 1000000 in
theorem cut_any (s : ByteArray) (w : World) (hs : s.size < 4611686018427387904) :
    Calls Try.prog 36 #[.string s] w (Ret w (.tuple #[.string (str (upS s.data.toList)), .string (str (lastS s.data.toList))])) := by
  have r1 := fun W => Try.strings_LastIndexByte s 47 hs W
  rcases last_slash s with ⟨e, e1, e2⟩ | ⟨j, e, hj, e1, e2⟩
  · rw [e] at r1
    rw [e1, e2, str_of]
    have R1 := Lib.hid r1
    clear r1 e e1 e2
    go_enter Try.func36, Try.ntmps36
    go_wp2_with fail
    refine (R1.out _).mono ?_
    rintro e W ⟨rfl, rfl⟩
    go_wp2_with fail
    go_quiet (fail)
    go_wp2_with fail
    go_ret2
    have e0 : s.extract 0 (max (-1 : Int) 0).toNat = str [] := by rw [Lib.extract_eq]; rfl
    refine ⟨?_, below_drewN (Below.refl _ _) _⟩
    show Ending.returned (.tuple #[.string (s.extract 0 (max (-1 : Int) 0).toNat), .string s]) = _
    rw [e0]
  · rw [e] at r1
    rw [e1, e2]
    have R1 := Lib.hid r1
    clear r1 e e1 e2
    go_enter Try.func36, Try.ntmps36
    go_wp2_with fail
    refine (R1.out _).mono ?_
    rintro e W ⟨rfl, rfl⟩
    go_wp2_with fail
    go_quiet (fail)
    go_wp2_with fail
    go_ret2
    exact ⟨rfl, below_drewN (Below.refl _ _) _⟩

set_option maxHeartbeats 1000000 in
theorem parent_any (s : ByteArray) (w : World) (hs : s.size ≤ 100000) :
    Calls Try.prog 13 #[.string s] w (Ret w (.tuple #[.string (str (parentS s.data.toList)), .int .i64 (parentE s.data.toList)])) := by
  have r1 := fun W => check_any s.data.toList W (by rw [← Lib.size_eq]; unfold maxLen; omega)
  rw [str_of] at r1
  have r2 := fun W => cut_any s W (by omega)
  unfold parentS parentE
  generalize checkP s.data.toList = E at *
  by_cases hE : E = 0
  · subst hE
    rw [if_pos rfl, if_neg (by simp)]
    have R1 := Lib.hid r1
    have R2 := Lib.hid r2
    clear r1 r2
    by_cases h0 : s.data.toList = []
    · have hz : s.toList.isEmpty = true := by rw [Lib.toList_data, h0]; rfl
      rw [h0, if_pos rfl, upS_nil]
      clear h0 R2
      go_enter Try.func13, Try.ntmps13
      go_wp2_with fail
      refine (R1.out _).mono ?_
      rintro e W ⟨rfl, hb⟩
      go_wp2_with fail
      go_ret2
      exact ⟨rfl, hb⟩
    · have hz : s.toList.isEmpty = false := by rw [Lib.toList_data]; simpa using h0
      rw [if_neg h0]
      clear h0
      go_enter Try.func13, Try.ntmps13
      go_wp2_with fail
      refine (R1.out _).mono ?_
      rintro e W ⟨rfl, hb⟩
      go_wp2_with fail
      refine (R2.out _).mono ?_
      rintro e W2 ⟨rfl, hb2⟩
      replace hb := hb.trans (hb2.mono hb.size)
      clear hb2
      go_wp2_with fail
      go_ret2
      exact ⟨rfl, hb⟩
  · rw [if_neg hE, if_pos hE]
    have hE' : (E != 0) = true := by simpa using hE
    have R1 := Lib.hid r1
    clear r1 r2 hE
    go_enter Try.func13, Try.ntmps13
    go_wp2_with fail
    refine (R1.out _).mono ?_
    rintro e W ⟨rfl, hb⟩
    go_wp2_with fail
    go_ret2
    exact ⟨rfl, hb⟩

set_option maxHeartbeats 1000000 in
theorem last_any (s : ByteArray) (w : World) (hs : s.size ≤ 100000) :
    Calls Try.prog 15 #[.string s] w (Ret w (.tuple #[.string (str (lastR s.data.toList).1), .int .i64 (lastR s.data.toList).2, .int .i64 (parentE s.data.toList)])) := by
  have r1 := fun W => check_any s.data.toList W (by rw [← Lib.size_eq]; unfold maxLen; omega)
  rw [str_of] at r1
  have r2 := fun W => cut_any s W (by omega)
  unfold lastR parentE
  generalize checkP s.data.toList = E at *
  by_cases hE : E = 0
  · subst hE
    rw [if_neg (show ¬ ((0 : Int) ≠ 0) by simp)]
    have R1 := Lib.hid r1
    have R2 := Lib.hid r2
    clear r1 r2
    by_cases h0 : s.data.toList = []
    · have hz : s.toList.isEmpty = true := by rw [Lib.toList_data, h0]; rfl
      rw [if_pos h0, if_pos (.inr h0)]
      clear h0 R2
      go_enter Try.func15, Try.ntmps15
      go_wp2_with fail
      refine (R1.out _).mono ?_
      rintro e W ⟨rfl, hb⟩
      go_wp2_with fail
      go_ret3
      exact ⟨rfl, hb⟩
    · have hz : s.toList.isEmpty = false := by rw [Lib.toList_data]; simpa using h0
      have hls : (str (lastS s.data.toList)).size ≤ maxLen := by
        rw [str_size]
        have := cutP_mem (lastS_mem _ h0)
        have h2 := Lib.size_eq s
        unfold maxLen
        omega
      have r3 := fun W => read_any (str (lastS s.data.toList)) W hls
      rw [str_list] at r3
      rw [if_neg h0, if_neg (by simp [h0])]
      generalize lastS s.data.toList = X at *
      generalize readR X = Y at *
      obtain ⟨y1, y2⟩ := Y
      have R3 := Lib.hid r3
      clear h0 r3 hls
      go_enter Try.func15, Try.ntmps15
      go_wp2_with fail
      refine (R1.out _).mono ?_
      rintro e W ⟨rfl, hb⟩
      go_wp2_with fail
      refine (R2.out _).mono ?_
      rintro e W2 ⟨rfl, hb2⟩
      replace hb := hb.trans (hb2.mono hb.size)
      clear hb2
      go_wp2_with fail
      refine (R3.out _).mono ?_
      rintro e W3 ⟨rfl, hb2⟩
      replace hb := hb.trans (hb2.mono hb.size)
      clear hb2
      have kbx := Blk.new W3 63 #[.string (str y1), .int .i64 y2]
      have hb2 := below_alloc W3 (.cells #[.string (str y1), .int .i64 y2] 63)
      replace hb := hb.trans (hb2.mono hb.size)
      clear hb2
      go_wp2_with fail
      generalize W3.heap.size = g at *
      generalize World.alloc W3 _ = W4 at *
      have c0 := kbx.cell (i := 0) rfl
      have c1 := kbx.cell (i := 1) rfl
      clear kbx
      go_quiet (fail)
      go_wp2_with fail
      go_ret3
      exact ⟨rfl, below_drewN hb _⟩
  · rw [if_pos hE, if_pos (.inl hE)]
    have hE' : (E != 0) = true := by simpa using hE
    have R1 := Lib.hid r1
    clear r1 r2 hE
    go_enter Try.func15, Try.ntmps15
    go_wp2_with fail
    refine (R1.out _).mono ?_
    rintro e W ⟨rfl, hb⟩
    go_wp2_with fail
    go_ret3
    exact ⟨rfl, hb⟩
end Go.Proofs.Ytkjgcippcbfmgaa
