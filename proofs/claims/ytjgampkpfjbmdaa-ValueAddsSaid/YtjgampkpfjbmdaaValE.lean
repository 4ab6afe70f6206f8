/- fine and Check of the program. -/
import Derived.Test.YtjgampkpfjbmdaaValD
namespace Go.Proofs.Ytjgampkpfjbmdaa
open Go.RowKit Go.Rel

theorem str_nil' (s : ByteArray) : (s = ByteArray.empty) ↔ s.toList = [] := by
  rw [Lib.toList_data]
  constructor
  · intro h; rw [h]; rfl
  · intro h
    cases s with
    | mk a => rw [show a = #[] from Array.ext' h]; rfl
set_option maxHeartbeats 4000000 in
theorem fine_any : ∀ (d : Nat) (T : Tree) (x : Val) (w : World), fitT T d = true → RdB w w.heap.size T x →
    Calls Try.prog 26 #[x.v] w (Ret w (.bool (fineT T))) := by
  intro d
  induction d with
  | zero => intro T x w h; rw [fitT_zero] at h; cases h
  | succ d ih =>
    intro T x w hf hr
    obtain ⟨kids, ys, rfl, ok, hy, hl, hrec, hk⟩ := hr.open_
    obtain ⟨e, he, hs2, h150, hkf⟩ := fitT_parts hf
    obtain rfl : d = e := by omega
    obtain ⟨k, q, t, s, A, len, cap⟩ := x
    obtain ⟨hk0, hk1, n0, n1, d0, d1, -, -, hc, -⟩ := ok
    dsimp only at hk0 hk1 hy hl hrec hc h150 hs2 n0 n1 d0 d1
    rw [hl] at h150
    have HL := Lib.hid (show _ ∧ _ ∧ _ from ⟨hy, hl, hkf⟩)
    have HK := Lib.hid (show _ ∧ _ from ⟨hrec, hk⟩)
    have neq := ratNeq
    have eql := ratEql
    clear hy hl hkf hrec hk hf hr he
    dsimp only
    by_cases h1 : k = 1
    · subst h1
      have HV := Lib.hid (fine1 q t s kids)
      rw [HL.out.2.1] at HV
      generalize fineT (.node 1 q t s kids) = V at *
      have HB := Lib.hid (two_vars w 26 26 ⟨1, q, t, s, A, len, cap⟩ (Val.box ⟨1, ⟨0, 0⟩, t, s, A, len, cap⟩))
      obtain ⟨hb0, hblk0, hrest⟩ := HB.out
      obtain ⟨c0, c1, c2, c3, c4, c5⟩ := hblk0.val
      clear ih HL HK
      go_enter Try.func26, Try.ntmps26
      go_wp2_with fail
      refine (ratCheck_any q _ n0 n1 d0 d1).mono ?_
      rintro e w2 ⟨rfl, hb2⟩
      have HM := Lib.hid (hb0.trans (hb2.mono hb0.size))
      obtain ⟨e0, e1, e2, e3, e4, e5⟩ := (hrest.keep hb2).val
      clear hb0 hb2 hblk0 hrest c0 c1 c2 c3 c4 c5 HB
      by_cases hr : ratE q = 0
      · have HW := Lib.hid (show V = (!t && (decide (s.size = 0) && decide (len = 0))) by rw [HV.out, hr]; rfl)
        rw [hr]
        clear hr HV
        go_wp2_with fail
        all_goals (go_ret; exact ret_bool (by rw [HW.out]; simp [*, len_beq, str_nil']) HM.out)
      · have HW := Lib.hid (show V = false by rw [HV.out, decide_eq_false hr]; rfl)
        have q9 : (ratE q != 0) = true := by simpa using hr
        clear hr HV
        go_wp2_with fail
        go_ret
        exact ret_bool HW.out.symm HM.out
    by_cases h2 : k = 2
    · subst h2
      have HV := Lib.hid (fine2 q t s kids)
      rw [HL.out.2.1] at HV
      generalize fineT (.node 2 q t s kids) = V at *
      have HB := Lib.hid (two_vars w 26 26 ⟨2, q, t, s, A, len, cap⟩ (Val.box ⟨2, q, false, s, A, len, cap⟩))
      obtain ⟨hb0, hblk0, hrest⟩ := HB.out
      obtain ⟨c0, c1, c2, c3, c4, c5⟩ := hblk0.val
      obtain ⟨e0, e1, e2, e3, e4, e5⟩ := hrest.val
      clear ih HL HK
      go_enter Try.func26, Try.ntmps26
      go_wp2_with fail
      all_goals (go_ret; exact ret_bool (by rw [HV.out]; simp [*, len_beq, str_nil']) ((below_alloc _ _).alloc (by simp) _))
    by_cases h3 : k = 3
    · subst h3
      have HV := Lib.hid (fine3 q t s kids)
      rw [HL.out.2.1] at HV
      generalize fineT (.node 3 q t s kids) = V at *
      have HB := Lib.hid (two_vars w 26 26 ⟨3, q, t, s, A, len, cap⟩ (Val.box ⟨3, q, t, ⟨#[]⟩, A, len, cap⟩))
      obtain ⟨hb0, hblk0, hrest⟩ := HB.out
      obtain ⟨c0, c1, c2, c3, c4, c5⟩ := hblk0.val
      by_cases hs6 : 60 < s.size
      · have HF := Lib.hid (show V = false by rw [HV.out]; simp only [okStr, decide_eq_false (show ¬ s.size ≤ 60 by omega), Bool.false_and])
        have q6 : decide ((60 : Int) < (s.size : Int)) = true := by simp; omega
        clear ih HL HK HV hs6
        go_enter Try.func26, Try.ntmps26
        go_wp2_with fail
        go_ret
        exact ret_bool HF.out.symm ((below_alloc _ _).alloc (by simp) _)
      have q6 : decide ((60 : Int) < (s.size : Int)) = false := by simp; omega
      have HW := Lib.hid (show V = (s.data.toList.all okByte && (ratB q.n q.d 0 0 && (!t && decide (len = 0)))) by rw [HV.out]; simp only [okStr, decide_eq_true (show s.size ≤ 60 by omega), Bool.true_and])
      clear ih HL HK HV hb0 hblk0 hrest
      go_enter Try.func26, Try.ntmps26
      go_wp2_with fail
      clear c0 c1 c2 c3 c4 c5 q6
      generalize World.alloc _ _ = w0 at HB ⊢
      obtain ⟨hb0, hblk0, hrest⟩ := HB.out
      obtain ⟨c0, c1, c2, c3, c4, c5⟩ := hblk0.val
      go_loop [4] (fun iv => ∃ i : Nat, i ≤ s.size ∧ iv = .int .i64 i ∧ Hid ((s.data.toList.take i).all okByte = true)) (fun iv => s.size - (intOf iv).toNat)
      case atStart => exact ⟨0, Nat.zero_le _, rfl, rfl⟩
      case round =>
        obtain ⟨i, hi, rfl, HA⟩ := hrel
        by_cases hlt : i < s.size
        · have hgi : s.data.toList[i]? = some (s[i]'hlt) := by rw [List.getElem?_eq_getElem (by simpa using hlt)]; rfl
          have hall := all_step hgi HA.out
          have hstop := all_stop (p := okByte) hgi
          have hok := okByte_iff (s[i]'hlt)
          have HS := Lib.hid (show _ ∧ _ ∧ _ from ⟨hok, hall, hstop⟩)
          have HBB := Lib.hid hb0
          clear hok hall hstop hgi hb0
          go_wp2_with fail
          all_goals first
            | (go_ret; exact ret_bool (by rw [HW.out, HS.out.2.2 (HS.out.1.2 (by omega))]; rfl) HBB.out)
            | (go_round
               case rel => exact ⟨i + 1, by omega, by go_num, HS.out.2.1 (HS.out.1.1 (by omega))⟩
               case measure => simp [intOf]; omega)
        · obtain rfl : i = s.size := by omega
          have HT := Lib.hid (show V = (ratB q.n q.d 0 0 && (!t && decide (len = 0))) by rw [HW.out]; have := HA.out; rw [List.take_of_length_le (by simp)] at this; rw [this]; rfl)
          obtain ⟨e0, e1, e2, e3, e4, e5⟩ := hrest.val
          have HBB := Lib.hid hb0
          clear hb0 HW HA
          go_wp2_with fail
          all_goals (go_ret; exact ret_bool (by rw [HT.out]; simp [*, len_beq]) HBB.out)
    by_cases h4 : k = 4
    · subst h4
      have HV := Lib.hid (fine4 q t s kids)
      skip
      generalize fineT (.node 4 q t s kids) = V at *
      have HB := Lib.hid (two_vars w 26 26 ⟨4, q, t, s, A, len, cap⟩ (Val.box ⟨4, q, t, s, none, 0, 0⟩))
      obtain ⟨hb0, hblk0, hrest⟩ := HB.out
      obtain ⟨c0, c1, c2, c3, c4, c5⟩ := hblk0.val
      clear hb0 hblk0 hrest
      go_enter Try.func26, Try.ntmps26
      go_wp2_with fail
      clear c0 c1 c2 c3 c4 c5
      generalize World.alloc _ _ = w0 at HB ⊢
      obtain ⟨hb0, hblk0, hrest⟩ := HB.out
      clear HB
      go_loopw [53] (fun iv wr => ∃ i : Nat, i ≤ len ∧ iv = .int .i64 i ∧ Hid (fineL (kids.take i) = true) ∧ Below w.heap.size w wr ∧ Blk wr (w.heap.size + 1) 26 (Val.box ⟨4, q, t, s, none, 0, 0⟩)) (fun iv _ => len - (intOf iv).toNat)
      case atStart => exact ⟨0, Nat.zero_le _, rfl, rfl, hb0, hrest⟩
      case round =>
        clear hb0 hblk0 hrest
        obtain ⟨i, hi, rfl, HF, hb, hblk⟩ := hrel
        by_cases hlt : i < len
        · obtain ⟨b, off, u, y, rfl, hB, g1, g2, hru, e0, e1, e2, e3, e4, e5⟩ := val_at HL.out.1 HL.out.2.1 HK.out.1 HK.out.2 hlt
          rw [← hb.cell (p := ⟨b, _, none⟩) hB] at e0 e1 e2 e3 e4 e5
          have hb1 := hb.trans ((below_alloc wr (.cells u.box 26)).mono hb.size)
          have hblk1 := hblk.keep (below_alloc wr (.cells u.box 26))
          obtain ⟨hik, hy⟩ := kid_at g1
          have hstep := fineL_take hik
          have hno := fineL_false hik
          rw [← hy, HF.out] at hstep
          rw [← hy] at hno
          have HR := Lib.hid (ih y u (wr.alloc (.cells u.box 26)) (HL.out.2.2 _ (List.mem_of_getElem? g1)) (hru.in_ hb1 hb1.size))
          have HB1 := Lib.hid (show _ ∧ _ from ⟨hb1, hblk1⟩)
          clear g1 g2 hru hy hb1 hblk1 hblk
          cases hfy : fineT y
          · rw [hfy] at HR
            have HF2 := Lib.hid (show V = false by rw [HV.out, hno hfy]; rfl)
            clear hstep hno hfy HV
            go_wp2_with fail
            refine (HR.out).mono ?_
            rintro e w2 ⟨rfl, hb2⟩
            have HM := Lib.hid (HB1.out.1.trans (hb2.mono HB1.out.1.size))
            clear hb hb2 e0 e1 e2 e3 e4 e5 HB1
            go_wp2_with fail
            go_ret
            exact ret_bool HF2.out.symm HM.out
          · rw [hfy] at HR hstep
            have HS := Lib.hid hstep
            clear hstep hno hfy
            go_wp2_with fail
            refine (HR.out).mono ?_
            rintro e w2 ⟨rfl, hb2⟩
            have HM := Lib.hid (show _ ∧ _ from ⟨HB1.out.1.trans (hb2.mono HB1.out.1.size), HB1.out.2.keep hb2⟩)
            clear hb hb2 e0 e1 e2 e3 e4 e5 HB1
            go_wp2_with fail
            go_roundw
            case rel => exact ⟨i + 1, by omega, by go_num, HS, HM.out⟩
            case measure => simp [intOf]; omega
        · obtain rfl : i = len := by omega
          have HT := Lib.hid (show V = (ratB q.n q.d 0 0 && (!t && decide (s.size = 0))) by rw [HV.out]; have := HF.out; rw [List.take_of_length_le (by rw [HL.out.2.1]; exact Nat.le_refl _)] at this; rw [this]; rfl)
          obtain ⟨e0, e1, e2, e3, e4, e5⟩ := hblk.val
          have HBB := Lib.hid hb
          clear hb HV HF
          go_wp2_with fail
          all_goals (go_ret; exact ret_bool (by rw [HT.out]; simp [*, str_nil']) HBB.out)
    have HV := Lib.hid (fine_else h1 h2 h3 h4 q t s kids)
    have q1 : (k == 1) = false := by simpa using h1
    have q2 : (k == 2) = false := by simpa using h2
    have q3 : (k == 3) = false := by simpa using h3
    have q4 : (k == 4) = false := by simpa using h4
    obtain ⟨hb0, hblk0⟩ := box_val w 26 ⟨k, q, t, s, A, len, cap⟩
    obtain ⟨c0, c1, c2, c3, c4, c5⟩ := hblk0.val
    clear ih HL HK h1 h2 h3 h4
    go_enter Try.func26, Try.ntmps26
    go_wp2_with fail
    go_ret
    exact ret_bool HV.out.symm ((below_alloc _ _).alloc (by simp) _)

set_option maxHeartbeats 2000000 in
theorem chk_any (T : Tree) (x : Val) (w : World) (hf : fitT T 10 = true) (hr : RdB w w.heap.size T x) :
    Calls Try.prog 12 #[x.v] w (Ret w (.int .i64 (chkT T))) := by
  have HR := Lib.hid (show _ ∧ _ from ⟨hf, hr⟩)
  obtain ⟨k, q, t, s, A, len, cap⟩ := x
  have HB := Lib.hid (box_val w 26 ⟨k, q, t, s, A, len, cap⟩)
  have C1 := Lib.hid (@chk_many T)
  have C2 := Lib.hid (@chk_bad T)
  have C3 := Lib.hid (@chk_ok T)
  have hdd := fit_deep _ _ hf
  have R1 := Lib.hid (fun W h => measure_any 10 T ⟨k, q, t, s, A, len, cap⟩ W (Nat.le_refl _) hf h)
  have R3 := Lib.hid (fun W h => fine_any 10 T ⟨k, q, t, s, A, len, cap⟩ W hf h)
  generalize chkT T = V at *
  generalize w64 (partsT T) = N at *
  generalize deepT T = D at *
  generalize fineT T = F at *
  clear hf hr
  go_enter Try.func12, Try.ntmps12
  obtain ⟨hb0, hblk0⟩ := HB.out
  obtain ⟨c0, c1, c2, c3, c4, c5⟩ := hblk0.val
  go_wp2_with fail
  refine (R1.out _ (HR.out.2.in_ hb0 hb0.size)).mono ?_
  rintro e w2 ⟨rfl, hb2⟩
  have hb3 := hb0.trans (hb2.mono hb0.size)
  have hblk2 := hblk0.keep hb2
  clear hb0 hb2 hblk0 c0 c1 c2 c3 c4 c5 HB
  by_cases h1 : 100 < N
  · have HV := Lib.hid (C1.out (.inl h1))
    have q1 : decide (100 < N) = true := by simpa using h1
    go_wp2_with fail
    go_ret
    exact ret_int HV.out.symm hb3
  have q1 : decide (100 < N) = false := by simpa using h1
  by_cases h2 : 6 < D
  · have HV := Lib.hid (C1.out (.inr h2))
    have q2 : decide ((6 : Int) < (D : Int)) = true := by simp; omega
    go_wp2_with fail
    go_ret
    exact ret_int HV.out.symm hb3
  have q2 : decide ((6 : Int) < (D : Int)) = false := by simp; omega
  obtain ⟨c0, c1, c2, c3, c4, c5⟩ := hblk2.val
  have HC := Lib.hid (show _ ∧ _ from ⟨C2.out (by omega) (by omega), C3.out (by omega) (by omega)⟩)
  clear C1 C2 C3 h1 h2
  go_wp2_with fail
  refine (R3.out _ (HR.out.2.in_ hb3 hb3.size)).mono ?_
  rintro e w4 ⟨rfl, hb6⟩
  have HM := Lib.hid (hb3.trans (hb6.mono hb3.size))
  clear hb3 hb6 hblk2 c0 c1 c2 c3 c4 c5
  cases F
  · have HV := Lib.hid (HC.out.1 rfl)
    go_wp2_with fail
    go_ret
    exact ret_int HV.out.symm HM.out
  · have HV := Lib.hid (HC.out.2 rfl)
    go_wp2_with fail
    go_ret
    exact ret_int HV.out.symm HM.out
end Go.Proofs.Ytjgampkpfjbmdaa
