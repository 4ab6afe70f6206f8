/- Path, Steps, Parent, Last, Same of the reference. -/
import Derived.Test.YtkjgcippcbfmgaaLabH
namespace Go.Rel
open Go.RowKit
theorem str_append (a b : Bs) : str a ++ str b = str (a ++ b) := by
  have : (str a ++ str b).data = (str (a ++ b)).data := by
    rw [ByteArray.data_append]
    simp [str]
  cases h : str a ++ str b
  rw [h] at this
  simp [str] at this ⊢
  exact this
theorem path_snoc : ∀ {t : List Bs} (x : Bs), t ≠ [] → pathP (t ++ [x]) = pathP t ++ 47 :: x
  | [], _, h => absurd rfl h
  | [a], x, _ => rfl
  | a :: b :: t, x, _ => by
    rw [List.cons_append, pathP_cons a (by simp), path_snoc x (by simp), pathP_cons a (by simp)]
    simp
theorem path_take {l : List Bs} {k : Nat} (hk : k < l.length) : pathP (l.take (k + 1)) = if k = 0 then l[k] else pathP (l.take k) ++ 47 :: l[k] := by
  rw [List.take_succ_eq_append_getElem hk]
  by_cases h : k = 0
  · subst h; rw [if_pos rfl]; rfl
  · rw [if_neg h, path_snoc]
    intro e
    have h2 := congrArg List.length e
    rw [List.length_take, List.length_nil] at h2
    omega
theorem path_le (l : List Bs) : ∀ {k : Nat}, k ≤ l.length → (pathP (l.take k)).length ≤ (pathP l).length := by
  intro k hk
  obtain ⟨m, hm⟩ : ∃ m, l.length = k + m := ⟨l.length - k, by omega⟩
  clear hk
  induction m generalizing k with
  | zero => rw [List.take_of_length_le (by omega)]; exact Nat.le_refl _
  | succ m ih =>
    refine Nat.le_trans ?_ (ih (k := k + 1) (by omega))
    rw [path_take (by omega)]
    split
    · rename_i h; subst h; simp [pathP]
    · rw [List.length_append]; omega
theorem StrsRet.take {l : List Bs} {A : Option Addr} {B : Nat} {w : World} (h : Recs strC 1 w B A l) (k : Nat) : Recs strC 1 w B A (l.take k) := fun hl => by
  obtain ⟨b, off, e, hb, hat⟩ := h (by rw [List.length_take] at hl; omega)
  refine ⟨b, off, e, hb, fun i v hi => hat i v ?_⟩
  rw [List.getElem?_take] at hi
  split at hi
  · exact hi
  · cases hi
end Go.Rel
namespace Go.Proofs.Ytkjgcippcbfmgaa
open Go.RowKit Go.Rel

set_option maxHeartbeats 1000000 in
theorem refPath_any (A : Option Addr) (n cap : Nat) (l : List Bs) (w : World) (hn : l.length = n) (hv : Recs strC 1 w w.heap.size A l) (hp : (pathP l).length ≤ 100000) (hn2 : n ≤ 200000) :
    Calls Try.prog 37 #[.slice A n cap] w (Same w (.string (str (pathP l)))) := by
  have HN := Lib.hid hn
  have HP := Lib.hid hp
  clear hn hp
  go_enter Try.func37, Try.ntmps37
  go_wp2_with fail
  go_loop [3, 4] (fun sv iv => ∃ k : Nat, k ≤ n ∧ iv = .int .i64 k ∧ sv = .string (str (pathP (l.take k)))) (fun _ iv => n - (intOf iv).toNat)
  case atStart => exact ⟨0, Nat.zero_le _, rfl, rfl⟩
  case round =>
    obtain ⟨k, hk, rfl, rfl⟩ := hrel
    by_cases hlt : k < n
    · have hkl : k < l.length := by rw [HN.out]; exact hlt
      obtain ⟨b, off, rfl, hB, c0⟩ := str_at hv hkl
      have h1 := path_take hkl
      have h2 := path_le l (k := k + 1) hkl
      have h3 := HP.out
      generalize l[k] = x at *
      by_cases h0 : k = 0
      · subst h0
        rw [if_pos rfl] at h1
        have hx : (str x).size ≤ 100000 := by rw [str_size, ← h1]; omega
        have HX := Lib.hid h1
        have hx0 : (str (pathP [])).size ≤ 100000 := by rw [str_size]; simp [pathP]
        simp only [Nat.add_zero] at c0
        clear h1 h2 h3
        go_wp2_with fail
        refine ⟨⟨1, by omega, rfl, ?_⟩, by simp [intOf]; omega⟩
        rw [show pathP (l.take 1) = x from HX.out, str_append]
        rfl
      · rw [if_neg h0] at h1
        have hx : (str x).size ≤ 100000 ∧ (str (pathP (l.take k))).size ≤ 100000 := by
          rw [h1, List.length_append, List.length_cons] at h2
          rw [str_size, str_size]; omega
        obtain ⟨hx1, hx2⟩ := hx
        have HX := Lib.hid h1
        clear h1 h2 h3
        go_wp2_with fail
        go_round
        case rel => exact ⟨k + 1, by omega, by go_num, by rw [HX.out, show (⟨#[47]⟩ : ByteArray) = str [47] from rfl, str_append, str_append, List.append_assoc]; rfl⟩
        case measure => simp [intOf] <;> omega
    · obtain rfl : k = n := by omega
      have hfull : l.take k = l := List.take_of_length_le (by rw [HN.out]; exact Nat.le_refl _)
      rw [hfull]
      clear hfull
      go_wp2_with fail
      go_ret
      exact ⟨rfl, rfl⟩

set_option maxHeartbeats 1000000 in
theorem refSteps_any (s : ByteArray) (w : World) (hs : s.size ≤ 100000) :
    Calls Try.prog 12 #[.string s] w (StepsRet w s.data.toList) := by
  have r1 := fun W => refCheck_any s W (by unfold maxLen; omega)
  have r2 := fun W => refCut_any s W hs
  have HS := Lib.hid (show stepsL s.data.toList = if checkP s.data.toList = 0 then cutP s.data.toList else [] from rfl)
  have HW := Lib.hid (show ∀ v e w', e = .returned (.tuple #[v, .int .i64 (checkP s.data.toList)]) → StrsRet (stepsL s.data.toList) v w' → Below w.heap.size w w' → StepsRet w s.data.toList e w' from fun v e w' h1 h2 h3 => ⟨v, h1, h2, h3⟩)
  generalize checkP s.data.toList = E at *
  by_cases hE : E = 0
  · subst hE
    have HL := Lib.hid (show stepsL s.data.toList = cutP s.data.toList by rw [HS.out, if_pos rfl])
    have R1 := Lib.hid r1
    have R2 := Lib.hid r2
    clear r1 r2 HS
    go_enter Try.func12, Try.ntmps12
    go_wp2_with fail
    refine (R1.out _).mono ?_
    rintro e W ⟨rfl, hb⟩
    go_wp2_with fail
    refine (R2.out _).mono ?_
    rintro e W2 ⟨v, rfl, hv, hb2⟩
    have HB := Lib.hid (show _ ∧ _ from ⟨hv, hb.trans (hb2.mono hb.size)⟩)
    clear hb2 hb hv
    go_wp2_with fail
    go_ret2
    exact HW.out _ _ _ rfl (by rw [HL.out]; exact HB.out.1) HB.out.2
  · have hE' : (E != 0) = true := by simpa using hE
    have HL := Lib.hid (show stepsL s.data.toList = [] by rw [HS.out, if_neg hE])
    have R1 := Lib.hid r1
    clear r1 r2 HS hE
    go_enter Try.func12, Try.ntmps12
    go_wp2_with fail
    refine (R1.out _).mono ?_
    rintro e W ⟨rfl, hb⟩
    go_wp2_with fail
    refine (R1.out _).mono ?_
    rintro e W2 ⟨rfl, hb2⟩
    replace hb := hb.trans (hb2.mono hb.size)
    clear hb2
    go_wp2_with fail
    go_ret2
    exact HW.out _ _ _ rfl (by rw [HL.out]; exact strs_nil _) hb

theorem upS_cut {l : Bs} (h : l ≠ []) : pathP ((cutP l).take ((cutP l).length - 1)) = upS l := by
  unfold cutP upS
  rw [if_neg h, List.dropLast_eq_take]
theorem cutP_pos {l : Bs} (h : l ≠ []) : 0 < (cutP l).length := List.length_pos_iff.2 (fun e => h (cutP_nil.1 e))
theorem cutP_le {l : Bs} : (cutP l).length ≤ l.length + 1 := by
  unfold cutP
  split
  · simp
  · exact segs_le l

set_option maxHeartbeats 1000000 in
theorem refParent_any (s : ByteArray) (w : World) (hs : s.size ≤ 100000) :
    Calls Try.prog 14 #[.string s] w (Ret w (.tuple #[.string (str (parentS s.data.toList)), .int .i64 (parentE s.data.toList)])) := by
  have hlen : s.data.toList.length = s.size := by simp
  have r1 := fun W => refCheck_any s W (by unfold maxLen; omega)
  have r2 := fun W => refCut_any s W hs
  unfold parentS parentE
  generalize checkP s.data.toList = E at *
  by_cases hE : E = 0
  · subst hE
    rw [if_pos rfl, if_neg (by simp)]
    by_cases h0 : s.data.toList = []
    · have hc : cutP s.data.toList = [] := cutP_nil.2 h0
      rw [hc] at r2
      rw [h0, if_pos rfl, upS_nil]
      have R1 := Lib.hid r1
      have R2 := Lib.hid r2
      clear h0 r1 r2 hc hlen
      go_enter Try.func14, Try.ntmps14
      go_wp2_with fail
      refine (R1.out _).mono ?_
      rintro e W ⟨rfl, hb⟩
      go_wp2_with fail
      refine (R2.out _).mono ?_
      rintro e W2 ⟨v, rfl, ⟨A, cap, rfl, -, -, -⟩, hb2⟩
      replace hb := hb.trans (hb2.mono hb.size)
      clear hb2
      go_wp2_with fail
      go_ret2
      exact ⟨rfl, hb⟩
    · rw [if_neg h0, ← upS_cut h0]
      have hpos := cutP_pos h0
      have hle := cutP_le (l := s.data.toList)
      have hpl := path_le (cutP s.data.toList) (k := (cutP s.data.toList).length - 1) (by omega)
      rw [path_cut, hlen] at hpl
      have R1 := Lib.hid r1
      have R2 := Lib.hid r2
      generalize cutP s.data.toList = C at *
      obtain ⟨n, hn⟩ : ∃ n, C.length = n + 1 := ⟨C.length - 1, by omega⟩
      rw [hn, show n + 1 - 1 = n by omega] at hpl
      rw [hn, show n + 1 - 1 = n by omega]
      have HC := Lib.hid (show _ ∧ _ ∧ _ from ⟨hn, hpl, hs⟩)
      have hn2 : n ≤ 100000 := by omega
      clear h0 r1 r2 hlen hpos hle hpl hs
      go_enter Try.func14, Try.ntmps14
      go_wp2_with fail
      refine (R1.out _).mono ?_
      rintro e W ⟨rfl, hb⟩
      go_wp2_with fail
      refine (R2.out _).mono ?_
      rintro e W2 ⟨v, rfl, ⟨A, cap, rfl, hcap, hnil, hrec⟩, hb2⟩
      replace hb := hb.trans (hb2.mono hb.size)
      clear hb2
      rw [HC.out.1] at hcap ⊢
      have r3 := fun A cap hv => refPath_any A n cap (C.take n) W2 (by rw [List.length_take, HC.out.1]; omega) hv (by have := HC.out.2; omega) (by omega)
      have R3 := Lib.hid r3
      have HR := Lib.hid (StrsRet.take hrec n)
      have q0 : (((n + 1 : Nat) : Int) == 0) = false := by rw [beq_eq_false_iff_ne]; omega
      clear r3 hrec
      go_wp2_with fail
      refine (R3.out _ _ HR.out).mono ?_
      rintro e W3 ⟨rfl, rfl⟩
      go_wp2_with fail
      go_ret2
      exact ⟨rfl, hb⟩
  · rw [if_neg hE, if_pos hE]
    have hE' : (E != 0) = true := by simpa using hE
    have R1 := Lib.hid r1
    clear r1 r2 hE
    go_enter Try.func14, Try.ntmps14
    go_wp2_with fail
    refine (R1.out _).mono ?_
    rintro e W ⟨rfl, hb⟩
    go_wp2_with fail
    refine (R1.out _).mono ?_
    rintro e W2 ⟨rfl, hb2⟩
    replace hb := hb.trans (hb2.mono hb.size)
    clear hb2
    go_wp2_with fail
    go_ret2
    exact ⟨rfl, hb⟩

theorem lastS_cut {l : Bs} (h : l ≠ []) {n : Nat} (hn : (cutP l).length = n + 1) : ∃ hk : n < (cutP l).length, (cutP l)[n] = lastS l := by
  refine ⟨by omega, ?_⟩
  have hc : cutP l = segs l := by unfold cutP; rw [if_neg h]
  unfold lastS
  rw [List.getLast_eq_getElem]
  simp only [hc] at hn ⊢
  simp only [hn, Nat.add_sub_cancel]
/-- A path's last step is one. -/
theorem last_ok {l : Bs} (h : checkP l = 0) (h0 : l ≠ []) : ∃ p, stepOf (lastS l) = some p ∧ lastR l = p := by
  have hall : stepOk (lastS l) = true := by
    unfold checkP at h
    split at h
    · cases h
    · split at h
      · rename_i h2
        rw [List.all_eq_true] at h2
        exact h2 _ (lastS_mem l h0)
      · cases h
  unfold stepOk at hall
  obtain ⟨p, hp⟩ := Option.isSome_iff_exists.1 hall
  refine ⟨p, hp, ?_⟩
  unfold lastR
  rw [if_neg (by simp [h, h0])]
  exact readR_some hp

set_option maxHeartbeats 1000000 in
theorem refLast_any (s : ByteArray) (w : World) (hs : s.size ≤ 100000) :
    Calls Try.prog 16 #[.string s] w (Ret w (.tuple #[.string (str (lastR s.data.toList).1), .int .i64 (lastR s.data.toList).2, .int .i64 (parentE s.data.toList)])) := by
  have hlen : s.data.toList.length = s.size := by simp
  have r1 := fun W => refCheck_any s W (by unfold maxLen; omega)
  have r2 := fun W => refCut_any s W hs
  by_cases hE : checkP s.data.toList = 0
  · by_cases h0 : s.data.toList = []
    · have hc : cutP s.data.toList = [] := cutP_nil.2 h0
      have hl1 : lastR s.data.toList = ([], 0) := by unfold lastR; rw [if_pos (.inr h0)]
      have hl2 : parentE s.data.toList = 6 := by unfold parentE; rw [if_neg (by simp [hE]), if_pos h0]
      rw [hc] at r2
      rw [hE] at r1
      rw [hl1, hl2]
      have R1 := Lib.hid r1
      have R2 := Lib.hid r2
      clear h0 r1 r2 hc hlen hl1 hl2 hE
      go_enter Try.func16, Try.ntmps16
      go_wp2_with fail
      refine (R1.out _).mono ?_
      rintro e W ⟨rfl, hb⟩
      go_wp2_with fail
      refine (R2.out _).mono ?_
      rintro e W2 ⟨v, rfl, ⟨A, cap, rfl, -, -, -⟩, hb2⟩
      replace hb := hb.trans (hb2.mono hb.size)
      clear hb2
      go_wp2_with fail
      go_ret3
      exact ⟨rfl, hb⟩
    · have hl2 : parentE s.data.toList = 0 := by unfold parentE; rw [if_neg (by simp [hE]), if_neg h0]
      obtain ⟨⟨p1, p2⟩, hp, hl1⟩ := last_ok hE h0
      rw [hl1, hl2]
      rw [hE] at r1
      have hpos := cutP_pos h0
      have hle := cutP_le (l := s.data.toList)
      obtain ⟨n, hn⟩ : ∃ n, (cutP s.data.toList).length = n + 1 := ⟨(cutP s.data.toList).length - 1, by omega⟩
      obtain ⟨hk, hlast⟩ := lastS_cut h0 hn
      have hsz : (str (lastS s.data.toList)).size ≤ maxLen := by
        rw [str_size]
        have := cutP_mem (lastS_mem _ h0)
        unfold maxLen
        omega
      have r3 := fun W => refStep_any (str (lastS s.data.toList)) W hsz
      rw [str_list, show stepV (lastS s.data.toList) = .tuple #[.string (str p1), .int .i64 p2, .bool true] by unfold stepV; rw [hp]] at r3
      have R1 := Lib.hid r1
      have R2 := Lib.hid r2
      have R3 := Lib.hid r3
      have hn2 : n ≤ 100000 := by omega
      have HK := Lib.hid (show (cutP s.data.toList).length = n + 1 ∧ ∃ h : n < (cutP s.data.toList).length, (cutP s.data.toList)[n] = lastS s.data.toList from ⟨hn, hk, hlast⟩)
      clear h0 r1 r2 r3 hlen hpos hle hs hE hp hl1 hl2 hn hk hlast hsz
      generalize cutP s.data.toList = C at *
      generalize lastS s.data.toList = X at *
      go_enter Try.func16, Try.ntmps16
      go_wp2_with fail
      refine (R1.out _).mono ?_
      rintro e W ⟨rfl, hb⟩
      go_wp2_with fail
      refine (R2.out _).mono ?_
      rintro e W2 ⟨v, rfl, ⟨A, cap, rfl, hcap, hnil, hrec⟩, hb2⟩
      replace hb := hb.trans (hb2.mono hb.size)
      clear hb2
      obtain ⟨hn, hk, hx⟩ := HK.out
      rw [hn] at hcap ⊢
      obtain ⟨b, off, rfl, hB, c0⟩ := str_at hrec hk
      rw [hx] at c0
      have q0 : (((n + 1 : Nat) : Int) == 0) = false := by rw [beq_eq_false_iff_ne]; omega
      clear hrec hn hk hx HK
      go_wp2_with fail
      refine (R3.out _).mono ?_
      rintro e W3 ⟨rfl, rfl⟩
      go_wp2_with fail
      go_ret3
      exact ⟨rfl, hb⟩
  · have hE' : (checkP s.data.toList != 0) = true := by simpa using hE
    have hl1 : lastR s.data.toList = ([], 0) := by unfold lastR; rw [if_pos (.inl hE)]
    have hl2 : parentE s.data.toList = checkP s.data.toList := by unfold parentE; rw [if_pos hE]
    rw [hl1, hl2]
    generalize checkP s.data.toList = E at *
    have R1 := Lib.hid r1
    clear r1 r2 hE hl1 hl2
    go_enter Try.func16, Try.ntmps16
    go_wp2_with fail
    refine (R1.out _).mono ?_
    rintro e W ⟨rfl, hb⟩
    go_wp2_with fail
    refine (R1.out _).mono ?_
    rintro e W2 ⟨rfl, hb2⟩
    replace hb := hb.trans (hb2.mono hb.size)
    clear hb2
    go_wp2_with fail
    go_ret3
    exact ⟨rfl, hb⟩

set_option maxHeartbeats 1000000 in
theorem same_any (A B : Option Addr) (n m ca cb : Nat) (l q : List Bs) (w : World) (hn : l.length = n) (hm : q.length = m) (hn2 : n ≤ 200000) (hl : Recs strC 1 w w.heap.size A l) (hq : Recs strC 1 w w.heap.size B q) :
    Calls Try.prog 21 #[.slice A n ca, .slice B m cb] w (Ret w (.bool (decide (l = q)))) := by
  by_cases hnm : n = m
  case neg =>
    have hv : decide (l = q) = false := decide_eq_false (fun e => hnm (by rw [← hn, ← hm, e]))
    have q1 : ((n : Int) != (m : Int)) = true := by simp; omega
    rw [hv]
    clear hnm hn hm hl hq hv
    go_enter Try.func21, Try.ntmps21
    go_wp2_with fail
    go_ret
    exact ⟨rfl, Below.refl _ _⟩
  subst hnm
  obtain ⟨V, hV⟩ : ∃ V, decide (l = q) = V := ⟨_, rfl⟩
  rw [hV]
  have HV := Lib.hid hV
  have HN := Lib.hid (show _ ∧ _ from ⟨hn, hm⟩)
  clear hV hn hm
  go_enter Try.func21, Try.ntmps21
  go_wp2_with fail
  go_loopw [5] (fun iv wr => ∃ k : Nat, k ≤ n ∧ iv = .int .i64 k ∧ Below w.heap.size w wr ∧ Hid (l.take k = q.take k)) (fun iv _ => n - (intOf iv).toNat)
  case atStart => exact ⟨0, Nat.zero_le _, rfl, Below.refl _ _, rfl⟩
  case round =>
    obtain ⟨k, hk, rfl, hb, HP⟩ := hrel
    by_cases hlt : k < n
    · have hkl : k < l.length := by rw [HN.out.1]; exact hlt
      have hkq : k < q.length := by rw [HN.out.2]; exact hlt
      obtain ⟨b, off, rfl, hB, c0⟩ := str_at (hl.below hb) hkl
      obtain ⟨b', off', rfl, hB', d0⟩ := str_at (hq.below hb) hkq
      have hsz := hb.size
      have e1 := List.take_succ_eq_append_getElem hkl
      have e2 := List.take_succ_eq_append_getElem hkq
      have hne : l[k] ≠ q[k] → decide (l = q) = false := fun h => decide_eq_false (fun e => h (by subst e; rfl))
      generalize l[k] = x at *
      generalize q[k] = y at *
      by_cases hxy : x = y
      · have hv : ((str x).toList == (str y).toList) = true := by simp [hxy]
        have HX := Lib.hid (show l.take (k + 1) = q.take (k + 1) by rw [e1, e2, HP.out, hxy])
        clear e1 e2 hne hxy HP hl hq
        go_wp2_with fail
        go_quiet (fail)
        go_wp2_with fail
        go_roundw
        case rel => exact ⟨k + 1, by omega, by go_num, below_drewN hb _, HX⟩
        case measure => simp [intOf] <;> omega
      · have hv : ((str x).toList == (str y).toList) = false := by
          rw [Lib.toList_data, Lib.toList_data, str_list, str_list, beq_eq_false_iff_ne]
          exact hxy
        have HX := Lib.hid (hne hxy)
        clear e1 e2 hne hxy HP hl hq
        go_wp2_with fail
        go_quiet (fail)
        go_wp2_with fail
        go_ret
        exact ret_bool (HX.out.symm.trans HV.out) (below_drewN hb _)
    · obtain rfl : k = n := by omega
      have hv : V = true := by
        rw [← HV.out]
        have := HP.out
        rw [List.take_of_length_le (by rw [HN.out.1]; exact Nat.le_refl _), List.take_of_length_le (by rw [HN.out.2]; exact Nat.le_refl _)] at this
        exact decide_eq_true this
      clear hl hq HP
      go_wp2_with fail
      go_ret
      exact ret_bool hv.symm hb
end Go.Proofs.Ytkjgcippcbfmgaa
