/- measure, fine and Check of the program; Check of the reference. -/
import Derived.Test.YtjgampkpfjbmdaaValC
namespace Go.Rel
open Go.RowKit
theorem imaxV_deep' (a b : Nat) : imaxV (a : Int) ((b : Int) + 1) = ((max a (1 + b) : Nat) : Int) := by rw [← imaxV_deep, Int.add_comm]
theorem chk_many {T : Tree} (h : 100 < w64 (partsT T) ∨ 6 < deepT T) : chkT T = 4 := if_pos h
theorem chk_bad {T : Tree} (h1 : ¬ 100 < w64 (partsT T)) (h2 : ¬ 6 < deepT T) (h : fineT T = false) : chkT T = 8 := by unfold chkT; rw [if_neg (by omega), h]; rfl
theorem chk_ok {T : Tree} (h1 : ¬ 100 < w64 (partsT T)) (h2 : ¬ 6 < deepT T) (h : fineT T = true) : chkT T = 0 := by unfold chkT; rw [if_neg (by omega), h]; rfl
end Go.Rel
namespace Go.Proofs.Ytjgampkpfjbmdaa
open Go.RowKit Go.Rel

set_option maxHeartbeats 2000000 in
theorem measure_any : ∀ (d : Nat) (T : Tree) (x : Val) (w : World), d ≤ 10 → fitT T d = true → RdB w w.heap.size T x →
    Calls Try.prog 25 #[x.v] w (Ret w (.tuple #[.int .i64 (w64 (partsT T)), .int .i64 (deepT T)])) := by
  intro d
  induction d with
  | zero => intro T x w _ h; rw [fitT_zero] at h; cases h
  | succ d ih =>
    intro T x w hd hf hr
    obtain ⟨kids, ys, rfl, ok, hy, hl, hrec, hk⟩ := hr.open_
    obtain ⟨e, he, -, h150, hkf⟩ := fitT_parts hf
    obtain rfl : d = e := by omega
    obtain ⟨k, q, t, s, A, len, cap⟩ := x
    obtain ⟨hk0, hk1, -, -, -, -, -, -, hc, -⟩ := ok
    dsimp only at hk0 hk1 hy hl hrec hc h150
    rw [hl] at h150
    have HL := Lib.hid (show _ ∧ _ ∧ _ from ⟨hy, hl, hkf⟩)
    have HK := Lib.hid (show _ ∧ _ from ⟨hrec, hk⟩)
    have HB := Lib.hid (box_val w 26 ⟨k, q, t, s, A, len, cap⟩)
    clear hy hl hkf hrec hk hf hr he
    have hmax := @run_imaxV Try.prog
    by_cases h4 : k = 4
    · subst h4
      go_enter Try.func25, Try.ntmps25
      obtain ⟨c0, c1, c2, c3, c4, c5⟩ := HB.out.2.val
      go_wp2_with fail
      clear c0 c1 c2 c3 c4 c5
      obtain ⟨hb0, hblk0⟩ := HB.out
      generalize World.alloc _ _ = w0 at hb0 hblk0 ⊢
      clear HB
      go_loopw [2, 3, 14] (fun nv dv iv wr => ∃ (i D : Nat), i ≤ len ∧ iv = .int .i64 i ∧ nv = .int .i64 (w64 (1 + partsL (kids.take i))) ∧ dv = .int .i64 D ∧ Hid (D = deepL (kids.take i)) ∧ Below w.heap.size w wr) (fun _ _ iv _ => len - (intOf iv).toNat)
      case atStart => exact ⟨0, 1, Nat.zero_le _, rfl, rfl, rfl, rfl, hb0⟩
      case round =>
        clear hb0 hblk0
        obtain ⟨i, D, hi, rfl, rfl, rfl, HD, hb⟩ := hrel
        by_cases hlt : i < len
        · obtain ⟨b, off, u, y, rfl, hB, g1, g2, hru, e0, e1, e2, e3, e4, e5⟩ := val_at HL.out.1 HL.out.2.1 HK.out.1 HK.out.2 hlt
          rw [← hb.cell (p := ⟨b, _, none⟩) hB] at e0 e1 e2 e3 e4 e5
          have hb1 := hb.trans ((below_alloc wr (.cells u.box 26)).mono hb.size)
          have HR := Lib.hid (ih y u (wr.alloc (.cells u.box 26)) (by omega) (HL.out.2.2 _ (List.mem_of_getElem? g1)) (hru.in_ hb1 hb1.size))
          obtain ⟨hik, hy⟩ := kid_at g1
          have hp := partsL_take hik
          have hq := deepL_take hik
          have hyd := fit_deep _ _ (HL.out.2.2 _ (List.mem_of_getElem? g1))
          rw [← hy] at hp hq
          rw [← HD.out] at hq
          have hs := w64_add (1 + partsL (kids.take i)) (partsT y)
          rw [show 1 + partsL (kids.take i) + partsT y = 1 + partsL (kids.take (i + 1)) by rw [hp]; omega] at hs
          obtain ⟨Y, hY⟩ : ∃ Y, deepT y = Y := ⟨_, rfl⟩
          rw [hY] at hq hyd HR
          have HS := Lib.hid (show _ ∧ _ from ⟨hs, show imaxV (D : Int) ((Y : Int) + 1) = (deepL (kids.take (i + 1)) : Int) by rw [imaxV_deep', hq]⟩)
          have HB1 := Lib.hid hb1
          clear hs hp hq hy hY g1 g2 hru hb1
          go_wp2_with fail
          refine (HR.out).mono ?_
          rintro e w2 ⟨rfl, hb2⟩
          have HM := Lib.hid (HB1.out.trans (hb2.mono HB1.out.size))
          clear hb hb2 e0 e1 e2 e3 e4 e5 HB1 HR
          go_wp2_with fail
          go_roundw
          case rel => exact ⟨i + 1, _, by omega, by go_num, by rw [HS.out.1], by rw [HS.out.2], rfl, HM.out⟩
          case measure => simp [intOf]; omega
        · obtain rfl : i = len := by omega
          have HS := Lib.hid (show w64 (1 + partsL (kids.take i)) = w64 (partsT (.node 4 q t s kids)) ∧ (D : Int) = (deepT (.node 4 q t s kids) : Int) by rw [HD.out, ← HL.out.2.1, List.take_length]; exact ⟨rfl, rfl⟩)
          go_wp2_with fail
          go_ret2
          exact ⟨by rw [HS.out.1, HS.out.2]; rfl, hb⟩
    · obtain ⟨hb0, hblk0⟩ := HB.out
      obtain ⟨c0, c1, c2, c3, c4, c5⟩ := hblk0.val
      have q1 : ((k : Int) == 4) = false := by simpa using h4
      have HS := Lib.hid (show w64 1 = w64 (partsT (.node k q t s kids)) ∧ (1 : Int) = (deepT (.node k q t s kids) : Int) by unfold partsT deepT; rw [if_neg h4, if_neg h4]; exact ⟨rfl, rfl⟩)
      clear h4
      go_enter Try.func25, Try.ntmps25
      go_wp2_with fail
      go_ret2
      exact ⟨by rw [← HS.out.1, ← HS.out.2]; rfl, hb0⟩

set_option maxHeartbeats 2000000 in
theorem refChk_any (T : Tree) (x : Val) (w : World) (hf : fitT T 10 = true) (hr : RdB w w.heap.size T x) :
    Calls Try.prog 13 #[x.v] w (Ret w (.int .i64 (chkT T))) := by
  have HR := Lib.hid (show _ ∧ _ from ⟨hf, hr⟩)
  obtain ⟨k, q, t, s, A, len, cap⟩ := x
  have HB := Lib.hid (box_val w 26 ⟨k, q, t, s, A, len, cap⟩)
  have C1 := Lib.hid (@chk_many T)
  have C2 := Lib.hid (@chk_bad T)
  have C3 := Lib.hid (@chk_ok T)
  have hdd := fit_deep _ _ hf
  have R1 := Lib.hid (fun W h => refParts_any 10 T ⟨k, q, t, s, A, len, cap⟩ W hf h)
  have R2 := Lib.hid (fun W h => refDeep_any 10 T ⟨k, q, t, s, A, len, cap⟩ W (Nat.le_refl _) hf h)
  have R3 := Lib.hid (fun W h => refFine_any 10 T ⟨k, q, t, s, A, len, cap⟩ W hf h)
  generalize chkT T = V at *
  generalize w64 (partsT T) = N at *
  generalize deepT T = D at *
  generalize fineT T = F at *
  clear hf hr
  go_enter Try.func13, Try.ntmps13
  obtain ⟨hb0, hblk0⟩ := HB.out
  obtain ⟨c0, c1, c2, c3, c4, c5⟩ := hblk0.val
  go_wp2_with fail
  refine (R1.out _ (HR.out.2.in_ hb0 hb0.size)).mono ?_
  rintro e w2 ⟨rfl, hb2⟩
  have hb3 := hb0.trans (hb2.mono hb0.size)
  have hblk2 := hblk0.keep hb2
  clear hb0 hb2 hblk0 c0 c1 c2 c3 c4 c5 HB
  by_cases h1 : 100 < N
  · have HV := Lib.hid (C1.out (.inl h1))
    go_wp2_with fail
    go_ret
    exact ret_int HV.out.symm hb3
  have q1 : decide (100 < N) = false := by simpa using h1
  obtain ⟨c0, c1, c2, c3, c4, c5⟩ := hblk2.val
  go_wp2_with fail
  refine (R2.out _ (HR.out.2.in_ hb3 hb3.size)).mono ?_
  rintro e w3 ⟨rfl, hb4⟩
  have hb5 := hb3.trans (hb4.mono hb3.size)
  have hblk3 := hblk2.keep hb4
  clear hb3 hb4 hblk2 c0 c1 c2 c3 c4 c5
  by_cases h2 : 6 < D
  · have HV := Lib.hid (C1.out (.inr h2))
    have q2 : decide ((6 : Int) < (D : Int)) = true := by simp; omega
    go_wp2_with fail
    go_ret
    exact ret_int HV.out.symm hb5
  have q2 : decide ((6 : Int) < (D : Int)) = false := by simp; omega
  obtain ⟨c0, c1, c2, c3, c4, c5⟩ := hblk3.val
  have HC := Lib.hid (show _ ∧ _ from ⟨C2.out h1 h2, C3.out h1 h2⟩)
  clear C1 C2 C3 h1 h2
  go_wp2_with fail
  refine (R3.out _ (HR.out.2.in_ hb5 hb5.size)).mono ?_
  rintro e w4 ⟨rfl, hb6⟩
  have HM := Lib.hid (hb5.trans (hb6.mono hb5.size))
  clear hb5 hb6 hblk3 c0 c1 c2 c3 c4 c5
  cases F
  · have HV := Lib.hid (HC.out.1 rfl)
    go_wp2_with fail
    go_ret
    exact ret_int HV.out.symm HM.out
  · have HV := Lib.hid (HC.out.2 rfl)
    go_wp2_with fail
    go_ret
    exact ret_int HV.out.symm HM.out
end Go.Proofs.Ytjgampkpfjbmdaa
