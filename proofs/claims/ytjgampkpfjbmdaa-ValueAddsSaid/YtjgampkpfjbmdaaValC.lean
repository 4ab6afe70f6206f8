import Derived.Test.YtjgampkpfjbmdaaValB
namespace Go.Proofs.Ytjgampkpfjbmdaa
open Go.RowKit Go.Rel
theorem fine1 (q : Rat2) (t : Bool) (s : ByteArray) (kids : List Tree) : fineT (.node 1 q t s kids) = (decide (ratE q = 0) && (!t && (decide (s.size = 0) && decide (kids.length = 0)))) := by
  have : decide (RatOk q) = decide (ratE q = 0) := by unfold ratE; split <;> simp [*]
  unfold fineT; rw [if_pos rfl, this]
theorem fine2 (q : Rat2) (t : Bool) (s : ByteArray) (kids : List Tree) : fineT (.node 2 q t s kids) = (ratB q.n q.d 0 0 && (decide (s.size = 0) && decide (kids.length = 0))) := by
  have := ratB_iff q ⟨0, 0⟩
  unfold fineT; rw [if_neg (by omega), if_pos rfl, ← this]
theorem fine3 (q : Rat2) (t : Bool) (s : ByteArray) (kids : List Tree) : fineT (.node 3 q t s kids) = (okStr s && (ratB q.n q.d 0 0 && (!t && decide (kids.length = 0)))) := by
  have := ratB_iff q ⟨0, 0⟩
  unfold fineT; rw [if_neg (by omega), if_neg (by omega), if_pos rfl, ← this]
theorem fine4 (q : Rat2) (t : Bool) (s : ByteArray) (kids : List Tree) : fineT (.node 4 q t s kids) = (fineL kids && (ratB q.n q.d 0 0 && (!t && decide (s.size = 0)))) := by
  have := ratB_iff q ⟨0, 0⟩
  unfold fineT; rw [if_neg (by omega), if_neg (by omega), if_neg (by omega), if_pos rfl, ← this]
theorem fine_else {k : Int} (h1 : k ≠ 1) (h2 : k ≠ 2) (h3 : k ≠ 3) (h4 : k ≠ 4) (q : Rat2) (t : Bool) (s : ByteArray) (kids : List Tree) : fineT (.node k q t s kids) = false := by
  unfold fineT; rw [if_neg h1, if_neg h2, if_neg h3, if_neg h4]
theorem okByte_iff (c : UInt8) : ((32 ≤ (c.toNat : Int) ∧ (c.toNat : Int) ≤ 126) → okByte c = true) ∧ (((c.toNat : Int) < 32 ∨ 126 < (c.toNat : Int)) → okByte c = false) := by
  unfold okByte
  exact ⟨fun h => decide_eq_true (by omega), fun h => decide_eq_false (by omega)⟩
theorem all_step {α : Type} {l : List α} {p : α → Bool} {i : Nat} {c : α} (h : l[i]? = some c) (ha : (l.take i).all p = true) (hc : p c = true) : (l.take (i + 1)).all p = true := by
  obtain ⟨hi, rfl⟩ := List.getElem?_eq_some_iff.1 h
  rw [take_next hi, List.all_append, ha]; simp [hc]
theorem all_stop {α : Type} {l : List α} {p : α → Bool} {i : Nat} {c : α} (h : l[i]? = some c) (hc : p c = false) : l.all p = false := by
  obtain ⟨hi, rfl⟩ := List.getElem?_eq_some_iff.1 h
  cases ha : l.all p with
  | false => rfl
  | true => rw [List.all_eq_true.1 ha _ (List.getElem_mem hi)] at hc; cases hc
theorem len_beq (n : Nat) : (((n : Int) == 0) : Bool) = decide (n = 0) := by
  by_cases h : n = 0 <;> simp [h]
theorem two_vars (w : World) (e e' : TypeId) (x : Val) (c : Array Value) : Below w.heap.size w ((w.alloc (.cells x.box e)).alloc (.cells c e')) ∧ Blk ((w.alloc (.cells x.box e)).alloc (.cells c e')) w.heap.size e x.box ∧ Blk ((w.alloc (.cells x.box e)).alloc (.cells c e')) (w.heap.size + 1) e' c := by
  obtain ⟨h1, -, h2, h3⟩ := boxes2 w x.box c e e'
  exact ⟨h1, h2, h3⟩
set_option maxHeartbeats 2000000 in
theorem refFine_any : ∀ (d : Nat) (T : Tree) (x : Val) (w : World), fitT T d = true → RdB w w.heap.size T x →
    Calls Try.prog 28 #[x.v] w (Ret w (.bool (fineT T))) := by
  intro d
  induction d with
  | zero => intro T x w h; rw [fitT_zero] at h; cases h
  | succ d ih =>
    intro T x w hf hr
    obtain ⟨kids, ys, rfl, ok, hy, hl, hrec, hk⟩ := hr.open_
    obtain ⟨e, he, hs2, h150, hkf⟩ := fitT_parts hf
    obtain rfl : d = e := by omega
    obtain ⟨k, q, t, s, A, len, cap⟩ := x
    obtain ⟨hk0, hk1, n0, n1, d0, d1, -, -, hc, -⟩ := ok
    dsimp only at hk0 hk1 hy hl hrec hc h150 hs2 n0 n1 d0 d1
    rw [hl] at h150
    have HL := Lib.hid (show _ ∧ _ ∧ _ from ⟨hy, hl, hkf⟩)
    have HK := Lib.hid (show _ ∧ _ from ⟨hrec, hk⟩)
    have HB := Lib.hid (two_vars w 26 23 ⟨k, q, t, s, A, len, cap⟩ #[.int .i64 0, .int .i64 0])
    have neq := ratNeq
    have eql := ratEql
    clear hy hl hkf hrec hk hf hr he
    dsimp only
    by_cases h1 : k = 1
    · subst h1
      have HV := Lib.hid (fine1 q t s kids)
      rw [HL.out.2.1] at HV
      generalize fineT (.node 1 q t s kids) = V at *
      obtain ⟨hb0, hblk0, hnone⟩ := HB.out
      obtain ⟨c0, c1, c2, c3, c4, c5⟩ := hblk0.val
      have z0 := hnone.cell (i := 0) rfl
      have z1 := hnone.cell (i := 1) rfl
      clear ih HL HK
      go_enter Try.func28, Try.ntmps28
      go_wp2_with fail
      refine (refRatCheck_any q _ n0 n1 d0 d1).mono ?_
      rintro e w2 ⟨rfl, hb2⟩
      have HM := Lib.hid (hb0.trans (hb2.mono hb0.size))
      obtain ⟨e0, e1, e2, e3, e4, e5⟩ := (hblk0.keep hb2).val
      clear hb0 hb2 hblk0 c0 c1 c2 c3 c4 c5
      go_wp2_with fail
      all_goals (go_ret; exact ret_bool (by rw [HV.out]; simp [*, len_beq]) HM.out)
    by_cases h2 : k = 2
    · subst h2
      have HV := Lib.hid (fine2 q t s kids)
      rw [HL.out.2.1] at HV
      generalize fineT (.node 2 q t s kids) = V at *
      obtain ⟨hb0, hblk0, hnone⟩ := HB.out
      obtain ⟨c0, c1, c2, c3, c4, c5⟩ := hblk0.val
      have z0 := hnone.cell (i := 0) rfl
      have z1 := hnone.cell (i := 1) rfl
      clear ih HL HK
      go_enter Try.func28, Try.ntmps28
      go_wp2_with fail
      all_goals (go_ret; exact ret_bool (by rw [HV.out]; simp [*, len_beq]) ((below_alloc _ _).alloc (by simp) _))
    by_cases h3 : k = 3
    · subst h3
      have HV := Lib.hid (fine3 q t s kids)
      rw [HL.out.2.1] at HV
      generalize fineT (.node 3 q t s kids) = V at *
      by_cases hc : ratB q.n q.d 0 0 = true ∧ t = false ∧ len = 0 ∧ s.size ≤ 60
      case neg =>
        have HC := Lib.hid hc
        have hV : V = false := by
          rw [HV.out]
          cases hv : (okStr s && (ratB q.n q.d 0 0 && (!t && decide (len = 0))))
          · rfl
          · exfalso; apply hc
            simp only [okStr, Bool.and_eq_true, decide_eq_true_eq, Bool.not_eq_true'] at hv
            exact ⟨hv.2.1, hv.2.2.1, hv.2.2.2, hv.1.1⟩
        have HF := Lib.hid hV
        obtain ⟨hb0, hblk0, hnone⟩ := HB.out
        obtain ⟨c0, c1, c2, c3, c4, c5⟩ := hblk0.val
        have z0 := hnone.cell (i := 0) rfl
        have z1 := hnone.cell (i := 1) rfl
        clear ih HL HK HV hV hc
        go_enter Try.func28, Try.ntmps28
        go_wp2_with fail
        all_goals first
          | (go_ret; exact ret_bool (by rw [HF.out]) ((below_alloc _ _).alloc (by simp) _))
          | (exfalso; apply HC.out; simp_all; try omega)
      obtain ⟨q1, rfl, rfl, hs6⟩ := hc
      have HW := Lib.hid (show V = s.data.toList.all okByte by rw [HV.out, q1]; simp [okStr, hs6])
      clear HV
      obtain ⟨hb0, hblk0, hnone⟩ := HB.out
      obtain ⟨c0, c1, c2, c3, c4, c5⟩ := hblk0.val
      have z0 := hnone.cell (i := 0) rfl
      have z1 := hnone.cell (i := 1) rfl
      clear ih HL HK
      go_enter Try.func28, Try.ntmps28
      go_wp2_with fail
      clear c0 c1 c2 c3 c5 z0 z1 hnone
      generalize World.alloc _ _ = w0 at hb0 hblk0 c4 ⊢
      go_loop [4] (fun iv => ∃ i : Nat, i ≤ s.size ∧ iv = .int .i64 i ∧ Hid ((s.data.toList.take i).all okByte = true)) (fun iv => s.size - (intOf iv).toNat)
      case atStart => exact ⟨0, Nat.zero_le _, rfl, rfl⟩
      case round =>
        obtain ⟨i, hi, rfl, HA⟩ := hrel
        by_cases hlt : i < s.size
        · have hgi : s.data.toList[i]? = some (s[i]'hlt) := by rw [List.getElem?_eq_getElem (by simpa using hlt)]; rfl
          have hall := all_step hgi HA.out
          have hstop := all_stop (p := okByte) hgi
          have hok := okByte_iff (s[i]'hlt)
          have HS := Lib.hid (show _ ∧ _ ∧ _ from ⟨hok, hall, hstop⟩)
          clear hok hall hstop hgi
          go_wp2_with fail
          all_goals first
            | (go_ret; exact ret_bool (by rw [HW.out]; symm; exact HS.out.2.2 (HS.out.1.2 (by omega))) hb0)
            | (go_round
               case rel => exact ⟨i + 1, by omega, by go_num, HS.out.2.1 (HS.out.1.1 (by omega))⟩
               case measure => simp [intOf]; omega)
        · obtain rfl : i = s.size := by omega
          have HT := Lib.hid (show V = true by rw [HW.out]; have := HA.out; rwa [List.take_of_length_le (by simp)] at this)
          go_wp2_with fail
          go_ret
          exact ret_bool HT.out.symm hb0
    by_cases h4 : k = 4
    · subst h4
      have HV := Lib.hid (fine4 q t s kids)
      generalize fineT (.node 4 q t s kids) = V at *
      by_cases hc : ratB q.n q.d 0 0 = true ∧ t = false ∧ s.size = 0
      case neg =>
        have HC := Lib.hid hc
        have hV : V = false := by
          rw [HV.out]
          cases hv : (fineL kids && (ratB q.n q.d 0 0 && (!t && decide (s.size = 0))))
          · rfl
          · exfalso; apply hc
            simp only [Bool.and_eq_true, decide_eq_true_eq, Bool.not_eq_true'] at hv
            exact ⟨hv.2.1, hv.2.2.1, hv.2.2.2⟩
        have HF := Lib.hid hV
        obtain ⟨hb0, hblk0, hnone⟩ := HB.out
        obtain ⟨c0, c1, c2, c3, c4, c5⟩ := hblk0.val
        have z0 := hnone.cell (i := 0) rfl
        have z1 := hnone.cell (i := 1) rfl
        clear ih HL HK HV hV hc
        go_enter Try.func28, Try.ntmps28
        go_wp2_with fail
        all_goals first
          | (go_ret; exact ret_bool (by rw [HF.out]) ((below_alloc _ _).alloc (by simp) _))
          | (exfalso; apply HC.out; simp_all; try omega)
      obtain ⟨q1, rfl, hs0⟩ := hc
      have HW := Lib.hid (show V = fineL kids by rw [HV.out, q1, hs0]; simp)
      have q2 : decide (0 < s.size) = false := by rw [hs0]; rfl
      clear HV
      obtain ⟨hb0, hblk0, hnone⟩ := HB.out
      obtain ⟨c0, c1, c2, c3, c4, c5⟩ := hblk0.val
      have z0 := hnone.cell (i := 0) rfl
      have z1 := hnone.cell (i := 1) rfl
      have HS0 := Lib.hid hs0
      clear hs0
      go_enter Try.func28, Try.ntmps28
      go_wp2_with fail
      clear c0 c1 c2 c3 c4 c5 z0 z1 hnone q2 hblk0 hb0
      have hw0 := two_vars w 26 23 ⟨4, q, false, s, A, len, cap⟩ #[.int .i64 0, .int .i64 0]
      generalize World.alloc _ _ = w0 at hw0 ⊢
      obtain ⟨hb0, hblk0, -⟩ := hw0
      go_loopw [5] (fun iv wr => ∃ i : Nat, i ≤ len ∧ iv = .int .i64 i ∧ Hid (fineL (kids.take i) = true) ∧ Below w.heap.size w wr ∧ Blk wr w.heap.size 26 (Val.box ⟨4, q, false, s, A, len, cap⟩)) (fun iv _ => len - (intOf iv).toNat)
      case atStart => exact ⟨0, Nat.zero_le _, rfl, rfl, hb0, hblk0⟩
      case round =>
        clear hb0 hblk0 HB
        obtain ⟨i, hi, rfl, HF, hb, hblk⟩ := hrel
        obtain ⟨c0, c1, c2, c3, c4, c5⟩ := hblk.val
        by_cases hlt : i < len
        · obtain ⟨b, off, u, y, rfl, hB, g1, g2, hru, e0, e1, e2, e3, e4, e5⟩ := val_at HL.out.1 HL.out.2.1 HK.out.1 HK.out.2 hlt
          rw [← hb.cell (p := ⟨b, _, none⟩) hB] at e0 e1 e2 e3 e4 e5
          obtain ⟨hik, hy⟩ := kid_at g1
          have hstep := fineL_take hik
          have hno := fineL_false hik
          rw [← hy, HF.out] at hstep
          rw [← hy] at hno
          have HR := Lib.hid (ih y u wr (HL.out.2.2 _ (List.mem_of_getElem? g1)) (hru.in_ hb hb.size))
          clear g1 g2 hru hy
          cases hfy : fineT y
          · rw [hfy] at HR
            have HV := Lib.hid (show V = false by rw [HW.out]; exact hno hfy)
            clear hstep hno hfy
            go_wp2_with fail
            refine (HR.out).mono ?_
            rintro e w2 ⟨rfl, hb2⟩
            have HM := Lib.hid (hb.trans (hb2.mono hb.size))
            clear hb hb2 c0 c1 c2 c3 c4 c5 e0 e1 e2 e3 e4 e5
            go_wp2_with fail
            go_ret
            exact ret_bool HV.out.symm HM.out
          · rw [hfy] at HR hstep
            have HS := Lib.hid hstep
            clear hstep hno hfy
            go_wp2_with fail
            refine (HR.out).mono ?_
            rintro e w2 ⟨rfl, hb2⟩
            have HM := Lib.hid (show _ ∧ _ from ⟨hb.trans (hb2.mono hb.size), hblk.keep hb2⟩)
            clear hb hb2 c0 c1 c2 c3 c4 c5 e0 e1 e2 e3 e4 e5 hblk
            go_wp2_with fail
            go_roundw
            case rel => exact ⟨i + 1, by omega, by go_num, HS, HM.out⟩
            case measure => simp [intOf]; omega
        · obtain rfl : i = len := by omega
          have HT := Lib.hid (show V = true by rw [HW.out]; have := HF.out; rwa [List.take_of_length_le (by rw [HL.out.2.1]; exact Nat.le_refl _)] at this)
          go_wp2_with fail
          go_ret
          exact ret_bool HT.out.symm hb
    have HV := Lib.hid (fine_else h1 h2 h3 h4 q t s kids)
    have q1 : (k == 1) = false := by simpa using h1
    have q2 : (k == 2) = false := by simpa using h2
    have q3 : (k == 3) = false := by simpa using h3
    have q4 : (k == 4) = false := by simpa using h4
    obtain ⟨hb0, hblk0, hnone⟩ := HB.out
    obtain ⟨c0, c1, c2, c3, c4, c5⟩ := hblk0.val
    clear ih HL HK h1 h2 h3 h4
    go_enter Try.func28, Try.ntmps28
    go_wp2_with fail
    go_ret
    exact ret_bool HV.out.symm hb0
end Go.Proofs.Ytjgampkpfjbmdaa
