/- shared, Under, Common, Join of the reference. -/
import Derived.Test.YtkjgcippcbfmgaaLabJ
namespace Go.Rel
open Go.RowKit
theorem sharedN_step {a b : List Bs} {k : Nat} (h : a.take k = b.take k) (ha : k ≤ a.length) (hb : k ≤ b.length) :
    (k < a.length → k < b.length → ∀ (h1 : k < a.length) (h2 : k < b.length), (a[k] = b[k] → a.take (k + 1) = b.take (k + 1)) ∧ (a[k] ≠ b[k] → sharedN a b = k)) ∧ ((k = a.length ∨ k = b.length) → sharedN a b = k) := by
  have hm := sharedN_max ha hb h
  have hle := sharedN_le a b
  refine ⟨fun _ _ h1 h2 => ⟨fun e => by rw [List.take_succ_eq_append_getElem h1, List.take_succ_eq_append_getElem h2, h, e], fun e => ?_⟩, fun e => by omega⟩
  by_cases hlt : k < sharedN a b
  · have ht := sharedN_take a b
    have g1 := List.getElem?_take_of_lt (l := a) hlt
    have g2 := List.getElem?_take_of_lt (l := b) hlt
    rw [ht, g2, List.getElem?_eq_getElem h1, List.getElem?_eq_getElem h2] at g1
    exact absurd (Option.some.inj g1).symm e
  · omega
theorem eq_strs (x y : Bs) : ((str x).toList == (str y).toList) = decide (x = y) := by
  rw [Lib.toList_data, Lib.toList_data, Bool.eq_iff_iff, beq_iff_eq, decide_eq_true_eq]; rfl
end Go.Rel
namespace Go.Proofs.Ytkjgcippcbfmgaa
open Go.RowKit Go.Rel

set_option maxHeartbeats 1000000 in
theorem shared_any (A B : Option Addr) (n m ca cb : Nat) (l q : List Bs) (w : World) (hn : l.length = n) (hm : q.length = m) (hn2 : n ≤ 200000) (_ : m ≤ 200000) (hl : Recs strC 1 w w.heap.size A l) (hq : Recs strC 1 w w.heap.size B q) :
    Calls Try.prog 45 #[.slice A n ca, .slice B m cb] w (Ret w (.int .i64 (sharedN l q))) := by
  have HN := Lib.hid (show _ ∧ _ from ⟨hn, hm⟩)
  clear hn hm
  go_enter Try.func45, Try.ntmps45
  go_wp2_with fail
  go_loopw [5] (fun iv wr => ∃ k : Nat, k ≤ n ∧ k ≤ m ∧ iv = .int .i64 k ∧ Below w.heap.size w wr ∧ Hid (l.take k = q.take k)) (fun iv _ => n - (intOf iv).toNat)
  case atStart => exact ⟨0, Nat.zero_le _, Nat.zero_le _, rfl, Below.refl _ _, rfl⟩
  case round =>
    obtain ⟨k, hk, hk', rfl, hb, HP⟩ := hrel
    have hst := sharedN_step HP.out (by rw [HN.out.1]; exact hk) (by rw [HN.out.2]; exact hk')
    by_cases h1 : k < n
    · by_cases h2 : k < m
      · have hkl : k < l.length := by rw [HN.out.1]; exact h1
        have hkq : k < q.length := by rw [HN.out.2]; exact h2
        obtain ⟨b, off, rfl, hB, c0⟩ := str_at (hl.below hb) hkl
        obtain ⟨b', off', rfl, hB', d0⟩ := str_at (hq.below hb) hkq
        have hsz := hb.size
        obtain ⟨e1, e2⟩ := hst.1 hkl hkq hkl hkq
        have hv := eq_strs l[k] q[k]
        generalize l[k] = x at *
        generalize q[k] = y at *
        by_cases hxy : x = y
        · rw [decide_eq_true hxy] at hv
          have HX := Lib.hid (e1 hxy)
          clear e1 e2 hxy HP hl hq hst
          go_wp2_with fail
          go_quiet (fail)
          go_wp2_with fail
          go_roundw
          case rel => exact ⟨k + 1, by omega, by omega, by go_num, below_drewN hb _, HX⟩
          case measure => simp [intOf] <;> omega
        · rw [decide_eq_false hxy] at hv
          have HX := Lib.hid (e2 hxy)
          clear e1 e2 hxy HP hl hq hst
          go_wp2_with fail
          go_quiet (fail)
          go_wp2_with fail
          go_ret
          exact ret_int (by rw [HX.out]) (below_drewN hb _)
      · have HX := Lib.hid (hst.2 (.inr (by rw [HN.out.2]; omega)))
        have q2 : decide (k < m) = false := decide_eq_false h2
        clear hl hq hst HP
        go_wp2_with fail
        go_quiet (fail)
        go_wp2_with fail
        go_ret
        exact ret_int (by rw [HX.out]) (below_drewN hb _)
    · have HX := Lib.hid (hst.2 (.inl (by rw [HN.out.1]; omega)))
      have q1 : decide (k < n) = false := decide_eq_false h1
      clear hl hq hst HP
      go_wp2_with fail
      go_quiet (fail)
      go_wp2_with fail
      go_ret
      exact ret_int (by rw [HX.out]) (below_drewN hb _)

theorem cutP_200 {s : ByteArray} (hs : s.size ≤ 100000) : (cutP s.data.toList).length ≤ 200000 := by
  have := cutP_le (l := s.data.toList)
  have := Lib.size_eq s
  omega

set_option maxHeartbeats 1000000 in
theorem refUnder_any (s t : ByteArray) (w : World) (hs : s.size ≤ 100000) (ht : t.size ≤ 100000) :
    Calls Try.prog 25 #[.string s, .string t] w (Ret w (.tuple #[.bool (decide (bothE s.data.toList t.data.toList = 0) && underB s.data.toList t.data.toList), .int .i64 (bothE s.data.toList t.data.toList)])) := by
  have R1 := Lib.hid (fun W => refBoth_any s t W (by unfold maxLen; omega) (by unfold maxLen; omega))
  have R2 := Lib.hid (fun W => refCut_any s W hs)
  have R3 := Lib.hid (fun W => refCut_any t W ht)
  have c1 := cutP_200 hs
  have c2 := cutP_200 ht
  rw [under_shared]
  generalize bothE s.data.toList t.data.toList = E at *
  generalize cutP s.data.toList = S at *
  generalize cutP t.data.toList = T at *
  by_cases hE : E = 0
  · subst hE
    rw [decide_eq_true rfl, Bool.true_and]
    have HC := Lib.hid (show _ ∧ _ from ⟨c1, c2⟩)
    have hle := (sharedN_le S T).2
    have HV := Lib.hid (show (((sharedN S T : Nat) : Int) == (T.length : Int)) = decide (sharedN S T = T.length) by rw [Bool.eq_iff_iff, beq_iff_eq, decide_eq_true_eq]; omega)
    clear c1 c2 hle hs ht
    go_enter Try.func25, Try.ntmps25
    go_wp2_with fail
    refine (R1.out _).mono ?_
    rintro e W ⟨rfl, hb⟩
    go_wp2_with fail
    refine (R2.out _).mono ?_
    rintro e W2 ⟨v, rfl, ⟨A, ca, rfl, -, -, hr1⟩, hx⟩
    replace hb := hb.trans (hx.mono hb.size)
    clear hx
    go_wp2_with fail
    refine (R3.out _).mono ?_
    rintro e W3 ⟨v, rfl, ⟨B, cb, rfl, -, -, hr2⟩, hx⟩
    replace hr1 := (hr1.below hx).more hx.size
    replace hb := hb.trans (hx.mono hb.size)
    clear hx
    have R4 := Lib.hid (shared_any A B _ _ ca cb S T W3 rfl rfl HC.out.1 HC.out.2 hr1 hr2)
    clear hr1 hr2
    go_wp2_with fail
    refine (R4.out).mono ?_
    rintro e W4 ⟨rfl, hx⟩
    replace hb := hb.trans (hx.mono hb.size)
    clear hx R4
    go_wp2_with fail
    refine (R3.out _).mono ?_
    rintro e W5 ⟨v, rfl, ⟨B', cb', rfl, -, -, -⟩, hx⟩
    replace hb := hb.trans (hx.mono hb.size)
    clear hx
    go_wp2_with fail
    go_ret2
    exact ⟨by rw [← HV.out]; rfl, hb⟩
  · have hE' : (E != 0) = true := by simpa using hE
    rw [decide_eq_false hE, Bool.false_and]
    clear hE R2 R3 c1 c2
    go_enter Try.func25, Try.ntmps25
    go_wp2_with fail
    refine (R1.out _).mono ?_
    rintro e W ⟨rfl, hb⟩
    go_wp2_with fail
    refine (R1.out _).mono ?_
    rintro e W2 ⟨rfl, hx⟩
    replace hb := hb.trans (hx.mono hb.size)
    clear hx
    go_wp2_with fail
    go_ret2
    exact ⟨rfl, hb⟩

set_option maxHeartbeats 1000000 in
theorem refCommon_any (s t : ByteArray) (w : World) (hs : s.size ≤ 100000) (ht : t.size ≤ 100000) :
    Calls Try.prog 27 #[.string s, .string t] w (Ret w (.tuple #[.string (str (commonS s.data.toList t.data.toList)), .int .i64 (bothE s.data.toList t.data.toList)])) := by
  have R1 := Lib.hid (fun W => refBoth_any s t W (by unfold maxLen; omega) (by unfold maxLen; omega))
  have R2 := Lib.hid (fun W => refCut_any s W hs)
  have R3 := Lib.hid (fun W => refCut_any t W ht)
  have c1 := cutP_200 hs
  have c2 := cutP_200 ht
  have hlen : s.data.toList.length = s.size := by simp
  have hpl := fun k hk => path_le (cutP s.data.toList) (k := k) hk
  rw [path_cut, hlen] at hpl
  unfold commonS
  generalize bothE s.data.toList t.data.toList = E at *
  generalize cutP s.data.toList = S at *
  generalize cutP t.data.toList = T at *
  by_cases hE : E = 0
  · subst hE
    rw [if_pos rfl]
    have HC := Lib.hid (show _ ∧ _ from ⟨c1, c2⟩)
    have hle := (sharedN_le S T).1
    have hpk := hpl _ hle
    obtain ⟨z, hz⟩ : ∃ z, sharedN S T = z := ⟨_, rfl⟩
    rw [hz] at hle hpk ⊢
    have HZ := Lib.hid (show _ ∧ _ ∧ _ ∧ _ from ⟨hz, hle, hpk, hs⟩)
    obtain ⟨n, hn⟩ : ∃ n, S.length = n := ⟨_, rfl⟩
    have HN := Lib.hid hn
    rw [hn] at hle c1
    clear c2 hs ht hz hpk hpl hlen hn
    go_enter Try.func27, Try.ntmps27
    go_wp2_with fail
    refine (R1.out _).mono ?_
    rintro e W ⟨rfl, hb⟩
    go_wp2_with fail
    refine (R2.out _).mono ?_
    rintro e W2 ⟨v, rfl, ⟨A, ca, rfl, hca, hnA, hr1⟩, hx⟩
    replace hb := hb.trans (hx.mono hb.size)
    clear hx
    rw [HN.out] at hca ⊢
    go_wp2_with fail
    refine (R2.out _).mono ?_
    rintro e W3 ⟨v, rfl, ⟨B, cb, rfl, -, -, hr2⟩, hx⟩
    replace hr1 := (hr1.below hx).more hx.size
    replace hb := hb.trans (hx.mono hb.size)
    clear hx
    go_wp2_with fail
    refine (R3.out _).mono ?_
    rintro e W4 ⟨v, rfl, ⟨C, cc, rfl, -, -, hr3⟩, hx⟩
    replace hr1 := (hr1.below hx).more hx.size
    replace hr2 := (hr2.below hx).more hx.size
    replace hb := hb.trans (hx.mono hb.size)
    clear hx
    have R4 := Lib.hid (shared_any B C _ _ cb cc S T W4 rfl rfl HC.out.1 HC.out.2 hr2 hr3)
    clear hr2 hr3
    go_wp2_with fail
    refine (R4.out).mono ?_
    rintro e W5 ⟨rfl, hx⟩
    replace hr1 := (hr1.below hx).more hx.size
    replace hb := hb.trans (hx.mono hb.size)
    clear hx R4
    rw [HZ.out.1]
    have R5 := Lib.hid (fun cap => refPath_any A z cap (S.take z) W5 (by rw [List.length_take]; have := HZ.out.2.1; omega) (StrsRet.take hr1 z) (by have := HZ.out.2.2; omega) (by omega))
    clear hr1
    go_wp2_with fail
    refine (R5.out _).mono ?_
    rintro e W6 ⟨rfl, rfl⟩
    go_wp2_with fail
    go_ret2
    exact ⟨rfl, hb⟩
  · have hE' : (E != 0) = true := by simpa using hE
    rw [if_neg hE]
    clear hE R2 R3 c1 c2 hpl hlen
    go_enter Try.func27, Try.ntmps27
    go_wp2_with fail
    refine (R1.out _).mono ?_
    rintro e W ⟨rfl, hb⟩
    go_wp2_with fail
    refine (R1.out _).mono ?_
    rintro e W2 ⟨rfl, hx⟩
    replace hb := hb.trans (hx.mono hb.size)
    clear hx
    go_wp2_with fail
    go_ret2
    exact ⟨rfl, hb⟩
end Go.Proofs.Ytkjgcippcbfmgaa
