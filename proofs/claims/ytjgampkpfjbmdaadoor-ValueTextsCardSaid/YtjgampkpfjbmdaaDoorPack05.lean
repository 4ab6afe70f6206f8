/- Texts put together: ValD, ValE, ValF. -/
import Derived.Test.YtjgampkpfjbmdaaDoorPack04
import Derived.Test.YtjgampkpfjbmdaaDoorPack02
import Derived.Deep.AppendLies
section
/- measure, fine and Check of the program; Check of the reference. -/
namespace Go.Rel
open Go.RowKit
theorem imaxV_deep' (a b : Nat) : imaxV (a : Int) ((b : Int) + 1) = ((max a (1 + b) : Nat) : Int) := by rw [← imaxV_deep, Int.add_comm]
theorem chk_many {T : Tree} (h : 100 < w64 (partsT T) ∨ 6 < deepT T) : chkT T = 4 := if_pos h
theorem chk_bad {T : Tree} (h1 : ¬ 100 < w64 (partsT T)) (h2 : ¬ 6 < deepT T) (h : fineT T = false) : chkT T = 8 := by unfold chkT; rw [if_neg (by omega), h]; rfl
theorem chk_ok {T : Tree} (h1 : ¬ 100 < w64 (partsT T)) (h2 : ¬ 6 < deepT T) (h : fineT T = true) : chkT T = 0 := by unfold chkT; rw [if_neg (by omega), h]; rfl
end Go.Rel
namespace Go.Proofs.YtjgampkpfjbmdaaDoor
open Go.RowKit Go.Rel

set_option maxHeartbeats 2000000 in
theorem measureW_any : ∀ (d : Nat) (T : Tree) (x : Val) (w : World), d ≤ 10 → wideT T d = true → RdB w w.heap.size T x →
    Calls Tryd.prog 36 #[x.v] w (Ret w (.tuple #[.int .i64 (w64 (partsT T)), .int .i64 (deepT T)])) := by
  intro d
  induction d with
  | zero => intro T x w _ h; rw [wideT_zero] at h; cases h
  | succ d ih =>
    intro T x w hd hf hr
    obtain ⟨kids, ys, rfl, ok, hy, hl, hrec, hk⟩ := hr.open_
    obtain ⟨e, he, -, h150, hkf⟩ := wideT_parts hf
    obtain rfl : d = e := by omega
    obtain ⟨k, q, t, s, A, len, cap⟩ := x
    obtain ⟨hk0, hk1, -, -, -, -, -, -, hc, -⟩ := ok
    dsimp only at hk0 hk1 hy hl hrec hc h150
    rw [hl] at h150
    have HL := Lib.hid (show _ ∧ _ ∧ _ from ⟨hy, hl, hkf⟩)
    have HK := Lib.hid (show _ ∧ _ from ⟨hrec, hk⟩)
    have HB := Lib.hid (box_val w 26 ⟨k, q, t, s, A, len, cap⟩)
    clear hy hl hkf hrec hk hf hr he
    have hmax := @run_imaxV Tryd.prog
    by_cases h4 : k = 4
    · subst h4
      go_enter Tryd.func36, Tryd.ntmps36
      obtain ⟨c0, c1, c2, c3, c4, c5⟩ := HB.out.2.val
      go_wp2_with fail
      clear c0 c1 c2 c3 c4 c5
      obtain ⟨hb0, hblk0⟩ := HB.out
      generalize World.alloc _ _ = w0 at hb0 hblk0 ⊢
      clear HB
      go_loopw [2, 3, 14] (fun nv dv iv wr => ∃ (i D : Nat), i ≤ len ∧ iv = .int .i64 i ∧ nv = .int .i64 (w64 (1 + partsL (kids.take i))) ∧ dv = .int .i64 D ∧ Hid (D = deepL (kids.take i)) ∧ Below w.heap.size w wr) (fun _ _ iv _ => len - (intOf iv).toNat)
      case atStart => exact ⟨0, 1, Nat.zero_le _, rfl, rfl, rfl, rfl, hb0⟩
      case round =>
        clear hb0 hblk0
        obtain ⟨i, D, hi, rfl, rfl, rfl, HD, hb⟩ := hrel
        by_cases hlt : i < len
        · obtain ⟨b, off, u, y, rfl, hB, g1, g2, hru, e0, e1, e2, e3, e4, e5⟩ := val_at HL.out.1 HL.out.2.1 HK.out.1 HK.out.2 hlt
          rw [← hb.cell (p := ⟨b, _, none⟩) hB] at e0 e1 e2 e3 e4 e5
          have hb1 := hb.trans ((below_alloc wr (.cells u.box 26)).mono hb.size)
          have HR := Lib.hid (ih y u (wr.alloc (.cells u.box 26)) (by omega) (HL.out.2.2 _ (List.mem_of_getElem? g1)) (hru.in_ hb1 hb1.size))
          obtain ⟨hik, hy⟩ := kid_at g1
          have hp := partsL_take hik
          have hq := deepL_take hik
          have hyd := wide_deep _ _ (HL.out.2.2 _ (List.mem_of_getElem? g1))
          rw [← hy] at hp hq
          rw [← HD.out] at hq
          have hs := w64_add (1 + partsL (kids.take i)) (partsT y)
          rw [show 1 + partsL (kids.take i) + partsT y = 1 + partsL (kids.take (i + 1)) by rw [hp]; omega] at hs
          obtain ⟨Y, hY⟩ : ∃ Y, deepT y = Y := ⟨_, rfl⟩
          rw [hY] at hq hyd HR
          have HS := Lib.hid (show _ ∧ _ from ⟨hs, show imaxV (D : Int) ((Y : Int) + 1) = (deepL (kids.take (i + 1)) : Int) by rw [imaxV_deep', hq]⟩)
          have HB1 := Lib.hid hb1
          clear hs hp hq hy hY g1 g2 hru hb1
          go_wp2_with fail
          refine (HR.out).mono ?_
          rintro e w2 ⟨rfl, hb2⟩
          have HM := Lib.hid (HB1.out.trans (hb2.mono HB1.out.size))
          clear hb hb2 e0 e1 e2 e3 e4 e5 HB1 HR
          go_wp2_with fail
          go_roundw
          case rel => exact ⟨i + 1, _, by omega, by go_num, by rw [HS.out.1], by rw [HS.out.2], rfl, HM.out⟩
          case measure => simp [intOf]; omega
        · obtain rfl : i = len := by omega
          have HS := Lib.hid (show w64 (1 + partsL (kids.take i)) = w64 (partsT (.node 4 q t s kids)) ∧ (D : Int) = (deepT (.node 4 q t s kids) : Int) by rw [HD.out, ← HL.out.2.1, List.take_length]; exact ⟨rfl, rfl⟩)
          go_wp2_with fail
          go_ret2
          exact ⟨by rw [HS.out.1, HS.out.2]; rfl, hb⟩
    · obtain ⟨hb0, hblk0⟩ := HB.out
      obtain ⟨c0, c1, c2, c3, c4, c5⟩ := hblk0.val
      have q1 : ((k : Int) == 4) = false := by simpa using h4
      have HS := Lib.hid (show w64 1 = w64 (partsT (.node k q t s kids)) ∧ (1 : Int) = (deepT (.node k q t s kids) : Int) by unfold partsT deepT; rw [if_neg h4, if_neg h4]; exact ⟨rfl, rfl⟩)
      clear h4
      go_enter Tryd.func36, Tryd.ntmps36
      go_wp2_with fail
      go_ret2
      exact ⟨by rw [← HS.out.1, ← HS.out.2]; rfl, hb0⟩
theorem measure_any : ∀ (d : Nat) (T : Tree) (x : Val) (w : World), d ≤ 10 → fitT T d = true → RdB w w.heap.size T x →
    Calls Tryd.prog 36 #[x.v] w (Ret w (.tuple #[.int .i64 (w64 (partsT T)), .int .i64 (deepT T)])) :=
  fun d T x w h1 h2 h3 => measureW_any d T x w h1 (fit_wide h2) h3

set_option maxHeartbeats 2000000 in
theorem refChkW_any (T : Tree) (x : Val) (w : World) (hf : wideT T 10 = true) (hr : RdB w w.heap.size T x) :
    Calls Tryd.prog 33 #[x.v] w (Ret w (.int .i64 (chkT T))) := by
  have HR := Lib.hid (show _ ∧ _ from ⟨hf, hr⟩)
  obtain ⟨k, q, t, s, A, len, cap⟩ := x
  have HB := Lib.hid (box_val w 26 ⟨k, q, t, s, A, len, cap⟩)
  have C1 := Lib.hid (@chk_many T)
  have C2 := Lib.hid (@chk_bad T)
  have C3 := Lib.hid (@chk_ok T)
  have hdd := wide_deep _ _ hf
  have R1 := Lib.hid (fun W h => refPartsW_any 10 T ⟨k, q, t, s, A, len, cap⟩ W hf h)
  have R2 := Lib.hid (fun W h => refDeepW_any 10 T ⟨k, q, t, s, A, len, cap⟩ W (Nat.le_refl _) hf h)
  have R3 := Lib.hid (fun W h => refFineW_any 10 T ⟨k, q, t, s, A, len, cap⟩ W hf h)
  generalize chkT T = V at *
  generalize w64 (partsT T) = N at *
  generalize deepT T = D at *
  generalize fineT T = F at *
  clear hf hr
  go_enter Tryd.func33, Tryd.ntmps33
  obtain ⟨hb0, hblk0⟩ := HB.out
  obtain ⟨c0, c1, c2, c3, c4, c5⟩ := hblk0.val
  go_wp2_with fail
  refine (R1.out _ (HR.out.2.in_ hb0 hb0.size)).mono ?_
  rintro e w2 ⟨rfl, hb2⟩
  have hb3 := hb0.trans (hb2.mono hb0.size)
  have hblk2 := hblk0.keep hb2
  clear hb0 hb2 hblk0 c0 c1 c2 c3 c4 c5 HB
  by_cases h1 : 100 < N
  · have HV := Lib.hid (C1.out (.inl h1))
    go_wp2_with fail
    go_ret
    exact ret_int HV.out.symm hb3
  have q1 : decide (100 < N) = false := by simpa using h1
  obtain ⟨c0, c1, c2, c3, c4, c5⟩ := hblk2.val
  go_wp2_with fail
  refine (R2.out _ (HR.out.2.in_ hb3 hb3.size)).mono ?_
  rintro e w3 ⟨rfl, hb4⟩
  have hb5 := hb3.trans (hb4.mono hb3.size)
  have hblk3 := hblk2.keep hb4
  clear hb3 hb4 hblk2 c0 c1 c2 c3 c4 c5
  by_cases h2 : 6 < D
  · have HV := Lib.hid (C1.out (.inr h2))
    have q2 : decide ((6 : Int) < (D : Int)) = true := by simp; omega
    go_wp2_with fail
    go_ret
    exact ret_int HV.out.symm hb5
  have q2 : decide ((6 : Int) < (D : Int)) = false := by simp; omega
  obtain ⟨c0, c1, c2, c3, c4, c5⟩ := hblk3.val
  have HC := Lib.hid (show _ ∧ _ from ⟨C2.out (by omega) (by omega), C3.out (by omega) (by omega)⟩)
  clear C1 C2 C3 h1 h2
  go_wp2_with fail
  refine (R3.out _ (HR.out.2.in_ hb5 hb5.size)).mono ?_
  rintro e w4 ⟨rfl, hb6⟩
  have HM := Lib.hid (hb5.trans (hb6.mono hb5.size))
  clear hb5 hb6 hblk3 c0 c1 c2 c3 c4 c5
  cases F
  · have HV := Lib.hid (HC.out.1 rfl)
    go_wp2_with fail
    go_ret
    exact ret_int HV.out.symm HM.out
  · have HV := Lib.hid (HC.out.2 rfl)
    go_wp2_with fail
    go_ret
    exact ret_int HV.out.symm HM.out
theorem refChk_any (T : Tree) (x : Val) (w : World) (hf : fitT T 10 = true) (hr : RdB w w.heap.size T x) :
    Calls Tryd.prog 33 #[x.v] w (Ret w (.int .i64 (chkT T))) :=
  refChkW_any T x w (fit_wide hf) hr

end Go.Proofs.YtjgampkpfjbmdaaDoor
end
section
/- fine and Check of the program. -/
namespace Go.Proofs.YtjgampkpfjbmdaaDoor
open Go.RowKit Go.Rel

theorem str_nil' (s : ByteArray) : (s = ByteArray.empty) ↔ s.toList = [] := by
  rw [Lib.toList_data]
  constructor
  · intro h; rw [h]; rfl
  · intro h
    cases s with
    | mk a => rw [show a = #[] from Array.ext' h]; rfl
set_option maxHeartbeats 4000000 in
theorem fineW_any : ∀ (d : Nat) (T : Tree) (x : Val) (w : World), wideT T d = true → RdB w w.heap.size T x →
    Calls Tryd.prog 38 #[x.v] w (Ret w (.bool (fineT T))) := by
  intro d
  induction d with
  | zero => intro T x w h; rw [wideT_zero] at h; cases h
  | succ d ih =>
    intro T x w hf hr
    obtain ⟨kids, ys, rfl, ok, hy, hl, hrec, hk⟩ := hr.open_
    obtain ⟨e, he, hs2, h150, hkf⟩ := wideT_parts hf
    obtain rfl : d = e := by omega
    obtain ⟨k, q, t, s, A, len, cap⟩ := x
    obtain ⟨hk0, hk1, n0, n1, d0, d1, -, -, hc, -⟩ := ok
    dsimp only at hk0 hk1 hy hl hrec hc h150 hs2 n0 n1 d0 d1
    rw [hl] at h150
    have HL := Lib.hid (show _ ∧ _ ∧ _ from ⟨hy, hl, hkf⟩)
    have HK := Lib.hid (show _ ∧ _ from ⟨hrec, hk⟩)
    have neq := ratNeq
    have eql := ratEql
    clear hy hl hkf hrec hk hf hr he
    dsimp only
    by_cases h1 : k = 1
    · subst h1
      have HV := Lib.hid (fine1 q t s kids)
      rw [HL.out.2.1] at HV
      generalize fineT (.node 1 q t s kids) = V at *
      have HB := Lib.hid (two_vars w 26 26 ⟨1, q, t, s, A, len, cap⟩ (Val.box ⟨1, ⟨0, 0⟩, t, s, A, len, cap⟩))
      obtain ⟨hb0, hblk0, hrest⟩ := HB.out
      obtain ⟨c0, c1, c2, c3, c4, c5⟩ := hblk0.val
      clear ih HL HK
      go_enter Tryd.func38, Tryd.ntmps38
      go_wp2_with fail
      refine (ratCheck_any q _ n0 n1 d0 d1).mono ?_
      rintro e w2 ⟨rfl, hb2⟩
      have HM := Lib.hid (hb0.trans (hb2.mono hb0.size))
      obtain ⟨e0, e1, e2, e3, e4, e5⟩ := (hrest.keep hb2).val
      clear hb0 hb2 hblk0 hrest c0 c1 c2 c3 c4 c5 HB
      by_cases hr : ratE q = 0
      · have HW := Lib.hid (show V = (!t && (decide (s.size = 0) && decide (len = 0))) by rw [HV.out, hr]; rfl)
        rw [hr]
        clear hr HV
        go_wp2_with fail
        all_goals (go_ret; exact ret_bool (by rw [HW.out]; simp [*, len_beq, str_nil']) HM.out)
      · have HW := Lib.hid (show V = false by rw [HV.out, decide_eq_false hr]; rfl)
        have q9 : (ratE q != 0) = true := by simpa using hr
        clear hr HV
        go_wp2_with fail
        go_ret
        exact ret_bool HW.out.symm HM.out
    by_cases h2 : k = 2
    · subst h2
      have HV := Lib.hid (fine2 q t s kids)
      rw [HL.out.2.1] at HV
      generalize fineT (.node 2 q t s kids) = V at *
      have HB := Lib.hid (two_vars w 26 26 ⟨2, q, t, s, A, len, cap⟩ (Val.box ⟨2, q, false, s, A, len, cap⟩))
      obtain ⟨hb0, hblk0, hrest⟩ := HB.out
      obtain ⟨c0, c1, c2, c3, c4, c5⟩ := hblk0.val
      obtain ⟨e0, e1, e2, e3, e4, e5⟩ := hrest.val
      clear ih HL HK
      go_enter Tryd.func38, Tryd.ntmps38
      go_wp2_with fail
      all_goals (go_ret; exact ret_bool (by rw [HV.out]; simp [*, len_beq, str_nil']) ((below_alloc _ _).alloc (by simp) _))
    by_cases h3 : k = 3
    · subst h3
      have HV := Lib.hid (fine3 q t s kids)
      rw [HL.out.2.1] at HV
      generalize fineT (.node 3 q t s kids) = V at *
      have HB := Lib.hid (two_vars w 26 26 ⟨3, q, t, s, A, len, cap⟩ (Val.box ⟨3, q, t, ⟨#[]⟩, A, len, cap⟩))
      obtain ⟨hb0, hblk0, hrest⟩ := HB.out
      obtain ⟨c0, c1, c2, c3, c4, c5⟩ := hblk0.val
      by_cases hs6 : 60 < s.size
      · have HF := Lib.hid (show V = false by rw [HV.out]; simp only [okStr, decide_eq_false (show ¬ s.size ≤ 60 by omega), Bool.false_and])
        have q6 : decide ((60 : Int) < (s.size : Int)) = true := by simp; omega
        clear ih HL HK HV hs6
        go_enter Tryd.func38, Tryd.ntmps38
        go_wp2_with fail
        go_ret
        exact ret_bool HF.out.symm ((below_alloc _ _).alloc (by simp) _)
      have q6 : decide ((60 : Int) < (s.size : Int)) = false := by simp; omega
      have HW := Lib.hid (show V = (s.data.toList.all okByte && (ratB q.n q.d 0 0 && (!t && decide (len = 0)))) by rw [HV.out]; simp only [okStr, decide_eq_true (show s.size ≤ 60 by omega), Bool.true_and])
      clear ih HL HK HV hb0 hblk0 hrest
      go_enter Tryd.func38, Tryd.ntmps38
      go_wp2_with fail
      clear c0 c1 c2 c3 c4 c5 q6
      generalize World.alloc _ _ = w0 at HB ⊢
      obtain ⟨hb0, hblk0, hrest⟩ := HB.out
      obtain ⟨c0, c1, c2, c3, c4, c5⟩ := hblk0.val
      go_loop [4] (fun iv => ∃ i : Nat, i ≤ s.size ∧ iv = .int .i64 i ∧ Hid ((s.data.toList.take i).all okByte = true)) (fun iv => s.size - (intOf iv).toNat)
      case atStart => exact ⟨0, Nat.zero_le _, rfl, rfl⟩
      case round =>
        obtain ⟨i, hi, rfl, HA⟩ := hrel
        by_cases hlt : i < s.size
        · have hgi : s.data.toList[i]? = some (s[i]'hlt) := by rw [List.getElem?_eq_getElem (by simpa using hlt)]; rfl
          have hall := all_step hgi HA.out
          have hstop := all_stop (p := okByte) hgi
          have hok := okByte_iff (s[i]'hlt)
          have HS := Lib.hid (show _ ∧ _ ∧ _ from ⟨hok, hall, hstop⟩)
          have HBB := Lib.hid hb0
          clear hok hall hstop hgi hb0
          go_wp2_with fail
          all_goals first
            | (go_ret; exact ret_bool (by rw [HW.out, HS.out.2.2 (HS.out.1.2 (by omega))]; rfl) HBB.out)
            | (go_round
               case rel => exact ⟨i + 1, by omega, by go_num, HS.out.2.1 (HS.out.1.1 (by omega))⟩
               case measure => simp [intOf]; omega)
        · obtain rfl : i = s.size := by omega
          have HT := Lib.hid (show V = (ratB q.n q.d 0 0 && (!t && decide (len = 0))) by rw [HW.out]; have := HA.out; rw [List.take_of_length_le (by simp)] at this; rw [this]; rfl)
          obtain ⟨e0, e1, e2, e3, e4, e5⟩ := hrest.val
          have HBB := Lib.hid hb0
          clear hb0 HW HA
          go_wp2_with fail
          all_goals (go_ret; exact ret_bool (by rw [HT.out]; simp [*, len_beq]) HBB.out)
    by_cases h4 : k = 4
    · subst h4
      have HV := Lib.hid (fine4 q t s kids)
      skip
      generalize fineT (.node 4 q t s kids) = V at *
      have HB := Lib.hid (two_vars w 26 26 ⟨4, q, t, s, A, len, cap⟩ (Val.box ⟨4, q, t, s, none, 0, 0⟩))
      obtain ⟨hb0, hblk0, hrest⟩ := HB.out
      obtain ⟨c0, c1, c2, c3, c4, c5⟩ := hblk0.val
      clear hb0 hblk0 hrest
      go_enter Tryd.func38, Tryd.ntmps38
      go_wp2_with fail
      clear c0 c1 c2 c3 c4 c5
      generalize World.alloc _ _ = w0 at HB ⊢
      obtain ⟨hb0, hblk0, hrest⟩ := HB.out
      clear HB
      go_loopw [53] (fun iv wr => ∃ i : Nat, i ≤ len ∧ iv = .int .i64 i ∧ Hid (fineL (kids.take i) = true) ∧ Below w.heap.size w wr ∧ Blk wr (w.heap.size + 1) 26 (Val.box ⟨4, q, t, s, none, 0, 0⟩)) (fun iv _ => len - (intOf iv).toNat)
      case atStart => exact ⟨0, Nat.zero_le _, rfl, rfl, hb0, hrest⟩
      case round =>
        clear hb0 hblk0 hrest
        obtain ⟨i, hi, rfl, HF, hb, hblk⟩ := hrel
        by_cases hlt : i < len
        · obtain ⟨b, off, u, y, rfl, hB, g1, g2, hru, e0, e1, e2, e3, e4, e5⟩ := val_at HL.out.1 HL.out.2.1 HK.out.1 HK.out.2 hlt
          rw [← hb.cell (p := ⟨b, _, none⟩) hB] at e0 e1 e2 e3 e4 e5
          have hb1 := hb.trans ((below_alloc wr (.cells u.box 26)).mono hb.size)
          have hblk1 := hblk.keep (below_alloc wr (.cells u.box 26))
          obtain ⟨hik, hy⟩ := kid_at g1
          have hstep := fineL_take hik
          have hno := fineL_false hik
          rw [← hy, HF.out] at hstep
          rw [← hy] at hno
          have HR := Lib.hid (ih y u (wr.alloc (.cells u.box 26)) (HL.out.2.2 _ (List.mem_of_getElem? g1)) (hru.in_ hb1 hb1.size))
          have HB1 := Lib.hid (show _ ∧ _ from ⟨hb1, hblk1⟩)
          clear g1 g2 hru hy hb1 hblk1 hblk
          cases hfy : fineT y
          · rw [hfy] at HR
            have HF2 := Lib.hid (show V = false by rw [HV.out, hno hfy]; rfl)
            clear hstep hno hfy HV
            go_wp2_with fail
            refine (HR.out).mono ?_
            rintro e w2 ⟨rfl, hb2⟩
            have HM := Lib.hid (HB1.out.1.trans (hb2.mono HB1.out.1.size))
            clear hb hb2 e0 e1 e2 e3 e4 e5 HB1
            go_wp2_with fail
            go_ret
            exact ret_bool HF2.out.symm HM.out
          · rw [hfy] at HR hstep
            have HS := Lib.hid hstep
            clear hstep hno hfy
            go_wp2_with fail
            refine (HR.out).mono ?_
            rintro e w2 ⟨rfl, hb2⟩
            have HM := Lib.hid (show _ ∧ _ from ⟨HB1.out.1.trans (hb2.mono HB1.out.1.size), HB1.out.2.keep hb2⟩)
            clear hb hb2 e0 e1 e2 e3 e4 e5 HB1
            go_wp2_with fail
            go_roundw
            case rel => exact ⟨i + 1, by omega, by go_num, HS, HM.out⟩
            case measure => simp [intOf]; omega
        · obtain rfl : i = len := by omega
          have HT := Lib.hid (show V = (ratB q.n q.d 0 0 && (!t && decide (s.size = 0))) by rw [HV.out]; have := HF.out; rw [List.take_of_length_le (by rw [HL.out.2.1]; exact Nat.le_refl _)] at this; rw [this]; rfl)
          obtain ⟨e0, e1, e2, e3, e4, e5⟩ := hblk.val
          have HBB := Lib.hid hb
          clear hb HV HF
          go_wp2_with fail
          all_goals (go_ret; exact ret_bool (by rw [HT.out]; simp [*, str_nil']) HBB.out)
    have HV := Lib.hid (fine_else h1 h2 h3 h4 q t s kids)
    have q1 : (k == 1) = false := by simpa using h1
    have q2 : (k == 2) = false := by simpa using h2
    have q3 : (k == 3) = false := by simpa using h3
    have q4 : (k == 4) = false := by simpa using h4
    obtain ⟨hb0, hblk0⟩ := box_val w 26 ⟨k, q, t, s, A, len, cap⟩
    obtain ⟨c0, c1, c2, c3, c4, c5⟩ := hblk0.val
    clear ih HL HK h1 h2 h3 h4
    go_enter Tryd.func38, Tryd.ntmps38
    go_wp2_with fail
    go_ret
    exact ret_bool HV.out.symm ((below_alloc _ _).alloc (by simp) _)
theorem fine_any : ∀ (d : Nat) (T : Tree) (x : Val) (w : World), fitT T d = true → RdB w w.heap.size T x →
    Calls Tryd.prog 38 #[x.v] w (Ret w (.bool (fineT T))) :=
  fun d T x w h2 h3 => fineW_any d T x w (fit_wide h2) h3

set_option maxHeartbeats 2000000 in
theorem chkW_any (T : Tree) (x : Val) (w : World) (hf : wideT T 10 = true) (hr : RdB w w.heap.size T x) :
    Calls Tryd.prog 13 #[x.v] w (Ret w (.int .i64 (chkT T))) := by
  have HR := Lib.hid (show _ ∧ _ from ⟨hf, hr⟩)
  obtain ⟨k, q, t, s, A, len, cap⟩ := x
  have HB := Lib.hid (box_val w 26 ⟨k, q, t, s, A, len, cap⟩)
  have C1 := Lib.hid (@chk_many T)
  have C2 := Lib.hid (@chk_bad T)
  have C3 := Lib.hid (@chk_ok T)
  have hdd := wide_deep _ _ hf
  have R1 := Lib.hid (fun W h => measureW_any 10 T ⟨k, q, t, s, A, len, cap⟩ W (Nat.le_refl _) hf h)
  have R3 := Lib.hid (fun W h => fineW_any 10 T ⟨k, q, t, s, A, len, cap⟩ W hf h)
  generalize chkT T = V at *
  generalize w64 (partsT T) = N at *
  generalize deepT T = D at *
  generalize fineT T = F at *
  clear hf hr
  go_enter Tryd.func13, Tryd.ntmps13
  obtain ⟨hb0, hblk0⟩ := HB.out
  obtain ⟨c0, c1, c2, c3, c4, c5⟩ := hblk0.val
  go_wp2_with fail
  refine (R1.out _ (HR.out.2.in_ hb0 hb0.size)).mono ?_
  rintro e w2 ⟨rfl, hb2⟩
  have hb3 := hb0.trans (hb2.mono hb0.size)
  have hblk2 := hblk0.keep hb2
  clear hb0 hb2 hblk0 c0 c1 c2 c3 c4 c5 HB
  by_cases h1 : 100 < N
  · have HV := Lib.hid (C1.out (.inl h1))
    have q1 : decide (100 < N) = true := by simpa using h1
    go_wp2_with fail
    go_ret
    exact ret_int HV.out.symm hb3
  have q1 : decide (100 < N) = false := by simpa using h1
  by_cases h2 : 6 < D
  · have HV := Lib.hid (C1.out (.inr h2))
    have q2 : decide ((6 : Int) < (D : Int)) = true := by simp; omega
    go_wp2_with fail
    go_ret
    exact ret_int HV.out.symm hb3
  have q2 : decide ((6 : Int) < (D : Int)) = false := by simp; omega
  obtain ⟨c0, c1, c2, c3, c4, c5⟩ := hblk2.val
  have HC := Lib.hid (show _ ∧ _ from ⟨C2.out (by omega) (by omega), C3.out (by omega) (by omega)⟩)
  clear C1 C2 C3 h1 h2
  go_wp2_with fail
  refine (R3.out _ (HR.out.2.in_ hb3 hb3.size)).mono ?_
  rintro e w4 ⟨rfl, hb6⟩
  have HM := Lib.hid (hb3.trans (hb6.mono hb3.size))
  clear hb3 hb6 hblk2 c0 c1 c2 c3 c4 c5
  cases F
  · have HV := Lib.hid (HC.out.1 rfl)
    go_wp2_with fail
    go_ret
    exact ret_int HV.out.symm HM.out
  · have HV := Lib.hid (HC.out.2 rfl)
    go_wp2_with fail
    go_ret
    exact ret_int HV.out.symm HM.out
theorem chk_any (T : Tree) (x : Val) (w : World) (hf : fitT T 10 = true) (hr : RdB w w.heap.size T x) :
    Calls Tryd.prog 13 #[x.v] w (Ret w (.int .i64 (chkT T))) :=
  chkW_any T x w (fit_wide hf) hr

end Go.Proofs.YtjgampkpfjbmdaaDoor
end
section
/- Copies of values: what a call has made itself, and how it may be written over. -/
namespace Go.Rel
open Go.RowKit

/-- A block of values from number base on, seen from its head. -/
def OwnB (w : World) (base : Nat) (e : TypeId) (b off : Nat) : Prop := base ≤ b ∧ off = 0 ∧ ∃ cs, w.heap[b]? = some (.cells cs e (0, 0))
theorem OwnB.lt {w : World} {base : Nat} {e : TypeId} {b off : Nat} (h : OwnB w base e b off) : b < w.heap.size := by
  obtain ⟨-, -, cs, h⟩ := h
  exact (Array.getElem?_eq_some_iff.1 h).1
theorem OwnB.keep {w w' : World} {base base' : Nat} {e : TypeId} {b off : Nat} (h : OwnB w base e b off) (hb : base' ≤ base) (hw : w'.heap[b]? = w.heap[b]?) : OwnB w' base' e b off := by
  obtain ⟨h1, h2, cs, h3⟩ := h
  exact ⟨by omega, h2, cs, hw.trans h3⟩
/-- A value that reads as T, all of it in blocks of its own. -/
def Fresh (w : World) (base : Nat) (e : TypeId) (T : Tree) (x : Val) : Prop := Reads w (OwnB w base e) T x
theorem Fresh.keep {w w' : World} {base base' : Nat} {e : TypeId} {T : Tree} {x : Val} (h : Fresh w base e T x) (hb : base' ≤ base) (hw : ∀ b, base ≤ b → b < w.heap.size → w'.heap[b]? = w.heap[b]?) : Fresh w' base' e T x :=
  Reads.mono (fun b _ hp => hp.keep hb (hw b hp.1 hp.lt)) (fun b _ hp => hw b hp.1 hp.lt) h
theorem Fresh.below {w w' : World} {base : Nat} {e : TypeId} {T : Tree} {x : Val} (h : Fresh w base e T x) (hb : Below w.heap.size w w') : Fresh w' base e T x := h.keep (Nat.le_refl _) (fun b _ hlt => hb.block b hlt)
theorem Fresh.rd {w : World} {base : Nat} {e : TypeId} {T : Tree} {x : Val} (h : Fresh w base e T x) : RdB w w.heap.size T x := Reads.mono (fun _ _ hp => hp.lt) (fun _ _ _ => rfl) h

/-- The first n elements of a list that a call has made: none of them lies in the list's own block. -/
def Kids (w : World) (base : Nat) (e : TypeId) (g : Option Nat) (kids : List Tree) (ys : List Val) : Prop :=
  ∀ (i : Nat) (t : Tree) (y : Val), kids[i]? = some t → ys[i]? = some y → Reads w (fun b off => OwnB w base e b off ∧ g ≠ some b) t y
/-- A list of the call's own, of which the first n elements have been made. -/
def TwR (w : World) (base : Nat) (e : TypeId) (kids : List Tree) (v : Value) (n : Nat) : Prop :=
  ∃ ys : List Val, ys.length = n ∧ w.ownsRow base e 6 v n (ys.flatMap Val.cells) ∧ Kids w base e v.ownBlock kids ys
theorem TwR.nil_ (w : World) (base : Nat) (e : TypeId) (kids : List Tree) : TwR w base e kids (.slice none 0 0) 0 := ⟨[], rfl, World.ownsRow_nil _ _ _ _, fun i t y _ h => by simp at h⟩
theorem ownsRow_apart {w w' : World} {base base' : Nat} {e : TypeId} {z : Nat} {v : Value} {n : Nat} {xs : List Value} (h : w.ownsRow base e z v n xs) (hb : base' ≤ base) (hw : ∀ b, base ≤ b → b < w.heap.size → w'.heap[b]? = w.heap[b]?) : w'.ownsRow base' e z v n xs := by
  refine ⟨h.1, ?_⟩
  rcases h.2 with h | ⟨g, cap, cur, h1, h2, h3, h4⟩
  · exact .inl h
  · exact .inr ⟨g, cap, cur, h1, by omega, (hw g h2 (Array.getElem?_eq_some_iff.1 h3).1).trans h3, h4⟩
theorem TwR.keep {w w' : World} {base base' : Nat} {e : TypeId} {kids : List Tree} {v : Value} {n : Nat} (h : TwR w base e kids v n) (hb : base' ≤ base) (hw : ∀ b, base ≤ b → b < w.heap.size → w'.heap[b]? = w.heap[b]?) : TwR w' base' e kids v n := by
  obtain ⟨ys, h1, h2, h3⟩ := h
  exact ⟨ys, h1, ownsRow_apart h2 hb hw, fun i t y hi hy => Reads.mono (fun b _ hp => ⟨hp.1.keep hb (hw b hp.1.1 hp.1.lt), hp.2⟩) (fun b _ hp => hw b hp.1.1 hp.1.lt) (h3 i t y hi hy)⟩
theorem TwR.below {w w' : World} {base : Nat} {e : TypeId} {kids : List Tree} {v : Value} {n : Nat} (h : TwR w base e kids v n) (hb : Below w.heap.size w w') : TwR w' base e kids v n := h.keep (Nat.le_refl _) (fun b _ hlt => hb.block b hlt)
theorem TwR.lt {w : World} {base : Nat} {e : TypeId} {kids : List Tree} {v : Value} {n : Nat} (h : TwR w base e kids v n) : ∀ b, v.ownBlock = some b → base ≤ b ∧ b < w.heap.size := by
  obtain ⟨ys, h1, h2, h3⟩ := h
  exact h2.lt
/-- One more. -/
theorem TwR.snoc {w w' : World} {base c : Nat} {e : TypeId} {kids : List Tree} {v v' : Value} {n : Nat} {ys : List Val} {t : Tree} {u : Val} (hl : ys.length = n) (hk : Kids w base e v.ownBlock kids ys) (hv : ∀ b, v.ownBlock = some b → b < c) (hc : base ≤ c)
    (ht : kids[n]? = some t) (hu : Fresh w c e t u) (ho : w'.ownsRow base e 6 v' (n + 1) (ys.flatMap Val.cells ++ u.cells)) (hg : w.grownBy w' v.ownBlock) (hv' : v'.ownBlock = v.ownBlock ∨ v'.ownBlock = some w.heap.size) : TwR w' base e kids v' (n + 1) := by
  refine ⟨ys ++ [u], by simp [hl], by rw [flat_one]; exact ho, fun i t' y hi hy => ?_⟩
  have key : ∀ b off, OwnB w base e b off → v.ownBlock ≠ some b → w'.heap[b]? = w.heap[b]? ∧ OwnB w' base e b off ∧ v'.ownBlock ≠ some b := fun b off ho hne => by
    have h1 := hg.block b ho.lt (Ne.symm hne)
    refine ⟨h1, ho.keep (Nat.le_refl _) h1, fun h => ?_⟩
    rcases hv' with h2 | h2
    · rw [h2] at h; exact hne h
    · rw [h2] at h
      have := ho.lt
      injection h with h
      omega
  rcases Nat.lt_or_ge i ys.length with hlt | hge
  · rw [List.getElem?_append_left hlt] at hy
    exact Reads.mono (fun b off hp => (key b off hp.1 hp.2).2) (fun b off hp => (key b off hp.1 hp.2).1) (hk i t' y hi hy)
  · rw [List.getElem?_append_right hge] at hy
    have : i = n := by
      rcases Nat.lt_or_ge (i - ys.length) 1 with h | h
      · omega
      · rw [List.getElem?_eq_none (by simpa using h)] at hy; cases hy
    subst this
    rw [hl, Nat.sub_self] at hy
    have : u = y := by simpa using hy
    subst this
    rw [ht] at hi
    have : t = t' := by injection hi
    subst this
    have hne : ∀ b off, OwnB w c e b off → OwnB w base e b off ∧ v.ownBlock ≠ some b := fun b off ho => ⟨ho.keep hc rfl, fun h => by have := hv b h; have := ho.1; omega⟩
    exact Reads.mono (fun b off hp => (key b off (hne b off hp).1 (hne b off hp).2).2) (fun b off hp => (key b off (hne b off hp).1 (hne b off hp).2).1) hu

/-- A copy: the list lies in a block of its own. -/
def Twn (w : World) (base : Nat) (e : TypeId) (T : Tree) (x : Val) : Prop :=
  ∃ kids, T = .node x.k x.q x.t x.s kids ∧ x.Ok ∧ kids.length = x.len ∧ TwR w base e kids (.slice x.A x.len x.cap) x.len
theorem Twn.keep {w w' : World} {base base' : Nat} {e : TypeId} {T : Tree} {x : Val} (h : Twn w base e T x) (hb : base' ≤ base) (hw : ∀ b, base ≤ b → b < w.heap.size → w'.heap[b]? = w.heap[b]?) : Twn w' base' e T x := by
  obtain ⟨kids, h1, h2, h3, h4⟩ := h
  exact ⟨kids, h1, h2, h3, h4.keep hb hw⟩
theorem Twn.below {w w' : World} {base : Nat} {e : TypeId} {T : Tree} {x : Val} (h : Twn w base e T x) (hb : Below w.heap.size w w') : Twn w' base e T x := h.keep (Nat.le_refl _) (fun b _ hlt => hb.block b hlt)
/-- What the call has appended, cell by cell. -/
theorem TwR.recs {w : World} {base : Nat} {e : TypeId} {kids : List Tree} {A : Option Addr} {n cap : Nat} (h : TwR w base e kids (.slice A n cap) n) :
    ∃ ys : List Val, ys.length = n ∧ RecsP Val.cells 6 w (OwnB w base e) A ys ∧ ∀ (i : Nat) (t : Tree) (y : Val), kids[i]? = some t → ys[i]? = some y → Reads w (OwnB w base e) t y := by
  obtain ⟨ys, h1, h2, h3⟩ := h
  refine ⟨ys, h1, fun hpos => ?_, fun i t y hi hy => Reads.mono (fun b _ hp => hp.1) (fun _ _ _ => rfl) (h3 i t y hi hy)⟩
  obtain ⟨A', cap', e1, -, hr⟩ := Recs.of_own Val.cells_len h1 h2
  simp only [Value.slice.injEq, true_and] at e1
  obtain ⟨rfl, rfl⟩ := e1
  obtain ⟨b, off, e2, hb, hat⟩ := hr hpos
  rcases h2.2 with ⟨h4, h5⟩ | ⟨g, cap', cur, h4, h5, h6, -⟩
  · omega
  · simp only [Value.slice.injEq, true_and] at h4
    obtain ⟨h7, -⟩ := h4
    rw [e2] at h7
    simp only [Option.some.injEq, Addr.mk.injEq, and_true] at h7
    obtain ⟨rfl, rfl⟩ := h7
    exact ⟨b, 0, e2, ⟨h5, rfl, cur, h6⟩, hat⟩
theorem Twn.fresh {w : World} {base : Nat} {e : TypeId} {T : Tree} {x : Val} (h : Twn w base e T x) : Fresh w base e T x := by
  obtain ⟨kids, rfl, h2, h3, h4⟩ := h
  obtain ⟨ys, h5, h6, h7⟩ := h4.recs
  exact .mk x kids ys h2 h5 h3 h6 h7
/-- The value behind the last element. -/
theorem TwR.done {w : World} {base : Nat} {e : TypeId} {kids : List Tree} {v : Value} {n : Nat} (h : TwR w base e kids v n) (hn : kids.length = n) {k : Int} {q : Rat2} {t : Bool} {s : ByteArray} {A : Option Addr} {cap : Nat} (ok : Val.Ok ⟨k, q, t, s, A, n, cap⟩) :
    ∃ A' cap', v = .slice A' n cap' ∧ Twn w base e (.node k q t s kids) ⟨k, q, t, s, A', n, cap'⟩ := by
  obtain ⟨ys, h1, h2, h3⟩ := h
  obtain ⟨k0, k1, n0, n1, d0, d1, s1, -, -, -⟩ := ok
  rcases h2.2 with ⟨rfl, h5⟩ | ⟨g, cap', cur, rfl, h5, h6, h7, h8, h9⟩
  · subst h5
    exact ⟨none, 0, rfl, kids, rfl, ⟨k0, k1, n0, n1, d0, d1, s1, by simp, by simp, fun _ => rfl⟩, hn, ys, h1, h2, h3⟩
  · exact ⟨_, cap', rfl, kids, rfl, ⟨k0, k1, n0, n1, d0, d1, s1, h7, by unfold maxLen at h8; exact h8, fun h => by cases h⟩, hn, ys, h1, h2, h3⟩

/-! ### Writing over -/
/-- A list that may be written over, element by element, d deep. -/
def OwnQ (w : World) (Q : Nat → Prop) (e : TypeId) (b off : Nat) : Prop := Q b ∧ off = 0 ∧ ∃ cs, w.heap[b]? = some (.cells cs e (0, 0))
theorem OwnQ.lt {w : World} {Q : Nat → Prop} {e : TypeId} {b off : Nat} (h : OwnQ w Q e b off) : b < w.heap.size := by
  obtain ⟨-, -, cs, h⟩ := h
  exact (Array.getElem?_eq_some_iff.1 h).1
def SpL (w : World) (Q : Nat → Prop) (e : TypeId) : Nat → Option Addr → Nat → Prop
  | 0, _, n => n = 0
  | d + 1, A, n => ∃ ys : List Val, (ys.length = n ∧ n ≤ 9223372036854775807) ∧ RecsP Val.cells 6 w (OwnQ w Q e) A ys ∧ ∀ y ∈ ys, SpL w Q e d y.A y.len
theorem SpL.zero (w : World) (Q : Nat → Prop) (e : TypeId) (A : Option Addr) : ∀ d, SpL w Q e d A 0
  | 0 => rfl
  | _ + 1 => ⟨[], ⟨rfl, by simp⟩, fun h => by simp at h, fun y h => by simp at h⟩
theorem SpL.keep {w w' : World} {Q Q' : Nat → Prop} {e : TypeId} (hb : ∀ b, Q b → b < w.heap.size → Q' b) (hw : ∀ b, Q b → b < w.heap.size → w'.heap[b]? = w.heap[b]?) : ∀ (d : Nat) (A : Option Addr) (n : Nat), SpL w Q e d A n → SpL w' Q' e d A n
  | 0, _, _, h => h
  | d + 1, A, n, ⟨ys, h1, h2, h3⟩ => by
    refine ⟨ys, h1, fun hpos => ?_, fun y hy => SpL.keep hb hw d y.A y.len (h3 y hy)⟩
    obtain ⟨b, off, e1, hp, hat⟩ := h2 hpos
    refine ⟨b, off, e1, ⟨hb b hp.1 hp.lt, hp.2.1, hp.2.2.imp fun cs h => (hw b hp.1 hp.lt).trans h⟩, fun i v hi j u hj => ?_⟩
    have := hat i v hi j u hj
    simp only [World.cell?] at this ⊢
    rw [hw b hp.1 hp.lt]
    exact this
theorem Fresh.sp {w : World} {base : Nat} {e : TypeId} {Q : Nat → Prop} (hQ : ∀ b, base ≤ b → b < w.heap.size → Q b) : ∀ (d : Nat) {T : Tree} {x : Val}, Fresh w base e T x → fitT T d = true → SpL w Q e d x.A x.len
  | 0, T, x, _, hf => by rw [fitT_zero] at hf; cases hf
  | d + 1, T, x, h, hf => by
    obtain ⟨kids, ys, rfl, ok, hx, hl, hr, hk⟩ := Reads.inv h
    obtain ⟨c, hc, -, -, hkf⟩ := fitT_parts hf
    obtain rfl : d = c := by omega
    refine ⟨ys, ⟨hx, Nat.le_trans ok.l1 ok.c1⟩, fun hpos => ?_, fun y hy => ?_⟩
    · obtain ⟨b, off, e1, hp, hat⟩ := hr hpos
      exact ⟨b, off, e1, ⟨hQ b hp.1 hp.lt, hp.2.1, hp.2.2⟩, hat⟩
    · obtain ⟨i, hi, rfl⟩ := List.mem_iff_getElem.1 hy
      have hik : i < kids.length := by omega
      exact Fresh.sp hQ d (hk i kids[i] ys[i] (by simp [hik]) (by simp [hi])) (hkf _ (List.getElem_mem hik))
/-- The value that spoils an element. -/
def spoilV : Val := ⟨77, ⟨0, 0⟩, false, ⟨#[]⟩, none, 0, 0⟩
/-- An element written over. -/
def put6 (w : World) (g i : Nat) : World := (((((w.setCell ⟨g, i * 6, none⟩ (.int .u8 77)).setCell ⟨g, i * 6 + 1, none⟩ (.int .i64 0)).setCell ⟨g, i * 6 + 2, none⟩ (.int .i64 0)).setCell ⟨g, i * 6 + 3, none⟩ (.bool false)).setCell ⟨g, i * 6 + 4, none⟩ (.string ⟨#[]⟩)).setCell ⟨g, i * 6 + 5, none⟩ (.slice none 0 0)
theorem setCell_blk {w : World} {g : Nat} {cs : Array Value} {e : TypeId} (h : w.heap[g]? = some (.cells cs e (0, 0))) (j : Nat) (v : Value) : (w.setCell ⟨g, j, none⟩ v).heap[g]? = some (.cells (cs.setIfInBounds j v) e (0, 0)) := (show Blk w g e cs from h).set_ j v
def set6 (cs : Array Value) (o : Nat) : Array Value := (((((cs.setIfInBounds o (.int .u8 77)).setIfInBounds (o + 1) (.int .i64 0)).setIfInBounds (o + 2) (.int .i64 0)).setIfInBounds (o + 3) (.bool false)).setIfInBounds (o + 4) (.string ⟨#[]⟩)).setIfInBounds (o + 5) (.slice none 0 0)
theorem spoil_0 : spoilV.cells[0]? = some (.int .u8 77) := rfl
theorem spoil_1 : spoilV.cells[1]? = some (.int .i64 0) := rfl
theorem spoil_2 : spoilV.cells[2]? = some (.int .i64 0) := rfl
theorem spoil_3 : spoilV.cells[3]? = some (.bool false) := rfl
theorem spoil_4 : spoilV.cells[4]? = some (.string ⟨#[]⟩) := rfl
theorem spoil_5 : spoilV.cells[5]? = some (.slice none 0 0) := rfl
theorem set6_0 {cs : Array Value} {o : Nat} (h : o + 5 < cs.size) : (set6 cs o)[o]? = some (.int .u8 77) := by
  unfold set6
  rw [Array.getElem?_setIfInBounds_ne (by omega), Array.getElem?_setIfInBounds_ne (by omega), Array.getElem?_setIfInBounds_ne (by omega), Array.getElem?_setIfInBounds_ne (by omega), Array.getElem?_setIfInBounds_ne (by omega), Array.getElem?_setIfInBounds_self_of_lt (by (try simp only [Array.size_setIfInBounds]); omega)]
theorem set6_1 {cs : Array Value} {o : Nat} (h : o + 5 < cs.size) : (set6 cs o)[o + 1]? = some (.int .i64 0) := by
  unfold set6
  rw [Array.getElem?_setIfInBounds_ne (by omega), Array.getElem?_setIfInBounds_ne (by omega), Array.getElem?_setIfInBounds_ne (by omega), Array.getElem?_setIfInBounds_ne (by omega), Array.getElem?_setIfInBounds_self_of_lt (by (try simp only [Array.size_setIfInBounds]); omega)]
theorem set6_2 {cs : Array Value} {o : Nat} (h : o + 5 < cs.size) : (set6 cs o)[o + 2]? = some (.int .i64 0) := by
  unfold set6
  rw [Array.getElem?_setIfInBounds_ne (by omega), Array.getElem?_setIfInBounds_ne (by omega), Array.getElem?_setIfInBounds_ne (by omega), Array.getElem?_setIfInBounds_self_of_lt (by (try simp only [Array.size_setIfInBounds]); omega)]
theorem set6_3 {cs : Array Value} {o : Nat} (h : o + 5 < cs.size) : (set6 cs o)[o + 3]? = some (.bool false) := by
  unfold set6
  rw [Array.getElem?_setIfInBounds_ne (by omega), Array.getElem?_setIfInBounds_ne (by omega), Array.getElem?_setIfInBounds_self_of_lt (by (try simp only [Array.size_setIfInBounds]); omega)]
theorem set6_4 {cs : Array Value} {o : Nat} (h : o + 5 < cs.size) : (set6 cs o)[o + 4]? = some (.string ⟨#[]⟩) := by
  unfold set6
  rw [Array.getElem?_setIfInBounds_ne (by omega), Array.getElem?_setIfInBounds_self_of_lt (by (try simp only [Array.size_setIfInBounds]); omega)]
theorem set6_5 {cs : Array Value} {o : Nat} (h : o + 5 < cs.size) : (set6 cs o)[o + 5]? = some (.slice none 0 0) := by
  unfold set6
  rw [Array.getElem?_setIfInBounds_self_of_lt (by (try simp only [Array.size_setIfInBounds]); omega)]
theorem set6_in {cs : Array Value} {o : Nat} (h : o + 5 < cs.size) (m : Nat) (u : Value) (hm : spoilV.cells[m]? = some u) : (set6 cs o)[o + m]? = some u := by
  have hm6 : m < 6 := (List.getElem?_eq_some_iff.1 hm).1
  have : m = 0 ∨ m = 1 ∨ m = 2 ∨ m = 3 ∨ m = 4 ∨ m = 5 := by omega
  rcases this with rfl | rfl | rfl | rfl | rfl | rfl
  · rw [spoil_0] at hm; rw [← hm]; exact set6_0 h
  · rw [spoil_1] at hm; rw [← hm]; exact set6_1 h
  · rw [spoil_2] at hm; rw [← hm]; exact set6_2 h
  · rw [spoil_3] at hm; rw [← hm]; exact set6_3 h
  · rw [spoil_4] at hm; rw [← hm]; exact set6_4 h
  · rw [spoil_5] at hm; rw [← hm]; exact set6_5 h
theorem set6_out {cs : Array Value} {o j : Nat} (h : j < o ∨ o + 5 < j) : (set6 cs o)[j]? = cs[j]? := by
  unfold set6
  rw [Array.getElem?_setIfInBounds_ne (by omega), Array.getElem?_setIfInBounds_ne (by omega), Array.getElem?_setIfInBounds_ne (by omega), Array.getElem?_setIfInBounds_ne (by omega), Array.getElem?_setIfInBounds_ne (by omega), Array.getElem?_setIfInBounds_ne (by omega)]
theorem put6_heap {w : World} {g : Nat} {cs : Array Value} {e : TypeId} (i : Nat) (h : w.heap[g]? = some (.cells cs e (0, 0))) : (put6 w g i).heap[g]? = some (.cells (set6 cs (i * 6)) e (0, 0)) := by
  have h0 := setCell_blk h (i * 6) (.int .u8 77)
  have h1 := setCell_blk h0 (i * 6 + 1) (.int .i64 0)
  have h2 := setCell_blk h1 (i * 6 + 2) (.int .i64 0)
  have h3 := setCell_blk h2 (i * 6 + 3) (.bool false)
  have h4 := setCell_blk h3 (i * 6 + 4) (.string ⟨#[]⟩)
  exact setCell_blk h4 (i * 6 + 5) (.slice none 0 0)
theorem put6_far {w : World} {g b : Nat} (i : Nat) (h : b ≠ g) : (put6 w g i).heap[b]? = w.heap[b]? := by
  unfold put6
  repeat rw [Below.heap_setCell _ _ _ _ (by exact h)]
theorem put6_size (w : World) (g i : Nat) : (put6 w g i).heap.size = w.heap.size := by simp [put6]
theorem put6_sp {w : World} {Q : Nat → Prop} {g i : Nat} {e : TypeId} {cs : Array Value} (hg : w.heap[g]? = some (.cells cs e (0, 0))) (hi : i * 6 + 5 < cs.size) : ∀ (d : Nat) (A : Option Addr) (n : Nat), SpL w Q e d A n → SpL (put6 w g i) Q e d A n
  | 0, _, _, h => by unfold SpL at h ⊢; exact h
  | d + 1, A, n, ⟨ys, h1, h2, h3⟩ => by
    have own : ∀ b off, OwnQ w Q e b off → OwnQ (put6 w g i) Q e b off := fun b off ⟨p1, p2, c, p3⟩ => by
      by_cases hbg : b = g
      · subst hbg; exact ⟨p1, p2, _, put6_heap i hg⟩
      · exact ⟨p1, p2, c, (put6_far i hbg).trans p3⟩
    by_cases hcase : ∃ b, A = some ⟨b, 0, none⟩ ∧ b = g ∧ i < ys.length
    · obtain ⟨b, rfl, rfl, hiy⟩ := hcase
      refine ⟨ys.set i spoilV, ⟨by simp [h1.1], h1.2⟩, fun hpos => ?_, fun y hy => ?_⟩
      · obtain ⟨b', off, e1, hp, hat⟩ := h2 (by rw [List.length_set] at hpos; exact hpos)
        simp only [Option.some.injEq, Addr.mk.injEq, and_true] at e1
        obtain ⟨rfl, rfl⟩ := e1
        refine ⟨b, 0, rfl, own _ _ hp, fun j v hj m u hm => ?_⟩
        have hm6 : m < 6 := (List.getElem?_eq_some_iff.1 hm).1
        simp only [World.cell?, put6_heap i hg, Nat.zero_add]
        by_cases hji : j = i
        · subst hji
          rw [List.getElem?_set_self hiy] at hj
          have hj' := Option.some.inj hj
          subst hj'
          rw [set6_in hi m u hm]; rfl
        · rw [List.getElem?_set_ne (Ne.symm hji)] at hj
          have := hat j v hj m u hm
          simp only [World.cell?, hg, Nat.zero_add] at this
          rw [set6_out (by omega)]
          exact this
      · rcases List.mem_or_eq_of_mem_set hy with hy | rfl
        · exact put6_sp hg hi d _ _ (h3 y hy)
        · exact SpL.zero _ _ _ _ _
    · refine ⟨ys, h1, fun hpos => ?_, fun y hy => put6_sp hg hi d _ _ (h3 y hy)⟩
      obtain ⟨b, off, rfl, hp, hat⟩ := h2 hpos
      obtain ⟨p1, rfl, c, p3⟩ := hp
      refine ⟨b, 0, rfl, own _ _ ⟨p1, rfl, c, p3⟩, fun j v hj m u hm => ?_⟩
      have hold := hat j v hj m u hm
      have hm6 : m < 6 := (List.getElem?_eq_some_iff.1 hm).1
      have hjl : j < ys.length := (List.getElem?_eq_some_iff.1 hj).1
      by_cases hbg : b = g
      · subst hbg
        have hge : ¬ i < ys.length := fun h => hcase ⟨b, rfl, rfl, h⟩
        simp only [World.cell?, put6_heap i hg, Nat.zero_add]
        simp only [World.cell?, hg, Nat.zero_add] at hold
        rw [set6_out (by omega)]
        exact hold
      · simp only [World.cell?, put6_far i hbg]
        simpa only [World.cell?] using hold
end Go.Rel
end
