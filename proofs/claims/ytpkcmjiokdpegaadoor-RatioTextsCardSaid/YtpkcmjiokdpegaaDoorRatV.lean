/- Parse of the program. Condition: the library's table of the powers of ten is laid. -/
import Derived.Test.YtpkcmjiokdpegaaDoorRatU
namespace Go.Rel
open Go.RowKit
/-- Without a minus sign in front. -/
def restL (s : Bs) : Bs := Lib.trimPrefix s [45]
def minusB (s : Bs) : Bool := Lib.hasPrefix s [45]
def numL (s : Bs) : Bs := bef 47 (restL s)
def denL (s : Bs) : Bs := if 47 ∈ restL s then aft 47 (restL s) else [49]
def outP (s : Bs) : Rat2 := ⟨if minusB s = true then -numT (numL s) else numT (numL s), numT (denL s)⟩
def parseOk (s : Bs) : Prop := digOkT (numL s) = true ∧ digOkT (denL s) = true ∧ RatOk (outP s) ∧ textL (outP s) = s
instance (s : Bs) : Decidable (parseOk s) := by unfold parseOk; infer_instance
def parseR (s : Bs) : Rat2 := if parseOk s then outP s else ⟨0, 0⟩
def parseE (s : Bs) : Int := if parseOk s then 0 else 12
theorem numT_rng (d : Bs) : 0 ≤ numT d ∧ numT d ≤ 9999999999 := by
  unfold numT
  by_cases h : digOkT d = true
  · rw [if_pos h]
    unfold digOkT at h
    rw [Bool.and_eq_true, Bool.and_eq_true, decide_eq_true_eq] at h
    have h1 := numOf_lt h.2 0
    have h2 : 10 ^ d.length ≤ 10 ^ 10 := Nat.pow_le_pow_right (by omega) h.1.1.2
    omega
  · rw [if_neg h]; omega
theorem parse_val (s : Bs) : (parseOk s ∧ parseR s = outP s ∧ parseE s = 0) ∨ (¬ parseOk s ∧ parseR s = ⟨0, 0⟩ ∧ parseE s = 12) := by
  unfold parseR parseE
  by_cases h : parseOk s
  · exact .inl ⟨h, if_pos h, if_pos h⟩
  · exact .inr ⟨h, if_neg h, if_neg h⟩
end Go.Rel
namespace Go.Proofs.YtpkcmjiokdpegaaDoor
open Go.RowKit Go.Rel

set_option maxRecDepth 100000 in
set_option maxHeartbeats 8000000 in
theorem parse_any (s : ByteArray) (w : World) (hs : s.size ≤ 100000) (ht : Tab w) :
    Calls Tryd.prog 24 #[.string s] w (Ret w (.tuple #[(parseR s.data.toList).v, .int .i64 (parseE s.data.toList)])) := by
  have hrl : (restL s.data.toList).length ≤ 100000 := Nat.le_trans (Lib.trimPrefix_le _ _) (by rw [← Lib.size_eq]; exact hs)
  have r1 := fun W => Tryd.strings_CutPrefix s (str [45]) W
  rw [str_list] at r1
  have r2 := fun W => cut_one (str (restL s.data.toList)) 47 W (by rw [str_size]; unfold maxLen; omega)
  rw [str_list] at r2
  have hnl : (numL s.data.toList).length ≤ 100000 := Nat.le_trans (show (bef 47 (restL s.data.toList)).length ≤ _ from (List.takeWhile_sublist _).length_le) hrl
  have hdl : (denL s.data.toList).length ≤ 100000 := by
    unfold denL
    split
    · exact Nat.le_trans (show (aft 47 (restL s.data.toList)).length ≤ _ from ((List.drop_sublist _ _).trans (List.dropWhile_sublist _)).length_le) hrl
    · decide
  have r3 := fun W => digits_any (str (numL s.data.toList)) W (by rw [str_size]; unfold maxLen; omega)
  have r4 := fun W => digits_any (str (denL s.data.toList)) W (by rw [str_size]; unfold maxLen; omega)
  rw [str_list] at r3 r4
  have n1 := numT_rng (numL s.data.toList)
  have n2 := numT_rng (denL s.data.toList)
  have hden : (47 ∈ restL s.data.toList ∧ denL s.data.toList = aft 47 (restL s.data.toList)) ∨ (47 ∉ restL s.data.toList ∧ denL s.data.toList = [49]) := by
    unfold denL
    by_cases h : 47 ∈ restL s.data.toList
    · exact .inl ⟨h, if_pos h⟩
    · exact .inr ⟨h, if_neg h⟩
  have hpv := parse_val s.data.toList
  unfold parseOk outP at hpv
  change ∀ W, Calls _ _ _ W fun e w' => e = .returned (.tuple #[.string (str (restL s.data.toList)), .bool (minusB s.data.toList)]) ∧ w' = W at r1
  change ∀ W, Calls _ _ _ W (Ret W (.tuple #[.string (str (numL s.data.toList)), .string (str (aft 47 (restL s.data.toList))), .bool (decide (47 ∈ restL s.data.toList))])) at r2
  generalize parseR s.data.toList = PR at *
  generalize parseE s.data.toList = PE at *
  generalize restL s.data.toList = RL at *
  generalize minusB s.data.toList = M at *
  generalize numL s.data.toList = NL at *
  generalize denL s.data.toList = DL at *
  generalize numT NL = N at *
  generalize numT DL = D at *
  generalize digOkT NL = B1 at *
  generalize digOkT DL = B2 at *
  obtain ⟨p1, p2⟩ := PR
  obtain ⟨O, hO⟩ : ∃ O : Int, (if M = true then -N else N) = O := ⟨_, rfl⟩
  rw [hO] at hpv
  have hOM : (M = true ∧ O = -N) ∨ (M = false ∧ O = N) := by cases M <;> simp at hO <;> simp [hO]
  have h64 : Rat64 ⟨O, D⟩ := by unfold Rat64; simp only; omega
  have r5 := fun W => ratCheck_any ⟨O, D⟩ W h64.1 h64.2.1 h64.2.2.1 h64.2.2.2
  have r6 := fun W ht => text_any ⟨O, D⟩ W h64 ht
  have hbx := Blk.new w 23 #[.int .i64 0, .int .i64 0]
  have hba := below_alloc w (.cells #[.int .i64 0, .int .i64 0] 23)
  have R1 := Lib.hid r1
  have R2 := Lib.hid r2
  have R3 := Lib.hid r3
  have R4 := Lib.hid r4
  have R5 := Lib.hid r5
  have R6 := Lib.hid r6
  have HP := Lib.hid hpv
  have HD := Lib.hid hden
  have HT := Lib.hid (ht.keep hba)
  have HM := Lib.hid hOM
  have hz := check_split ⟨O, D⟩
  have HZ := Lib.hid hz
  have hself : ∀ x : Bs, (str x).toList = x := fun x => Lib.toList_data _
  have hse : s.toList = s.data.toList := Lib.toList_data _
  have HSE := Lib.hid (show _ ∧ _ from ⟨hself, hse⟩)
  clear r1 r2 r3 r4 r5 r6 hpv hden ht hOM hz h64 hrl hnl hdl hO hs hself hse
  obtain ⟨n11, n12⟩ := n1
  obtain ⟨n21, n22⟩ := n2
  rcases HD.out with ⟨h47, hDL⟩ | ⟨h47, hDL⟩
  all_goals
    (first | rw [decide_eq_true h47] at R2 | rw [decide_eq_false h47] at R2)
    have HDL := Lib.hid hDL
    clear h47 hDL
    rcases HM.out with ⟨hM, hOe⟩ | ⟨hM, hOe⟩
    all_goals
      subst hM
      subst hOe
      clear HM
    all_goals skip
    · go_enter Tryd.func24, Tryd.ntmps24
      go_wp2_with fail
      have q := hbx
      have hb := hba
      have ht := HT.out
      clear hbx hba HT
      generalize World.alloc w _ = w0 at q hb ht ⊢
      refine (R1.out _).mono ?_
      rintro e W ⟨rfl, rfl⟩
      go_wp2_with fail
      refine (R2.out _).mono ?_
      rintro e W ⟨rfl, hx⟩
      replace q := q.keep hx
      replace ht := ht.keep hx
      replace hb := hb.trans (hx.mono hb.size)
      clear hx
      go_wp2_with fail
      refine (R3.out _).mono ?_
      rintro e W ⟨rfl, hx⟩
      replace q := q.keep hx
      replace ht := ht.keep hx
      replace hb := hb.trans (hx.mono hb.size)
      clear hx
      go_wp2_with fail
      (try rw [← HDL.out])
      (try rw [show (⟨#[49]⟩ : ByteArray) = str DL by rw [HDL.out]; rfl])
      refine (R4.out _).mono ?_
      rintro e W ⟨rfl, hx⟩
      replace q := q.keep hx
      replace ht := ht.keep hx
      replace hb := hb.trans (hx.mono hb.size)
      clear hx
      cases B1
      case false =>
        have hv : p1 = 0 ∧ p2 = 0 ∧ PE = 12 := by
          rcases HP.out with ⟨⟨k1, k2, k3, k4⟩, -, -⟩ | ⟨-, e1, e2⟩
          · exact absurd k1 (by decide)
          · simp only [Rat2.mk.injEq] at e1
            exact ⟨e1.1, e1.2, e2⟩
        clear HP
        have c0 := q.cell (i := 0) rfl
        have c1 := q.cell (i := 1) rfl
        have cf := q.frozen
        have clt := q.lt
        go_wp2_with fail
        exact bodyPost_ret (v := .tuple #[.agg #[.int .i64 0, .int .i64 0], .int .i64 12]) (by simp [results, Tryd.results24, go_sem, c0, c1, clt]) rfl ⟨by rw [hv.1, hv.2.1, hv.2.2], ((hb.setCell (p := ⟨w.heap.size, 0, none⟩) (Nat.le_refl _) _).setCell (p := ⟨w.heap.size, 1, none⟩) (Nat.le_refl _) _).alloc (by have := hb.size; simpa using this) _⟩
      cases B2
      case false =>
        have hv : p1 = 0 ∧ p2 = 0 ∧ PE = 12 := by
          rcases HP.out with ⟨⟨k1, k2, k3, k4⟩, -, -⟩ | ⟨-, e1, e2⟩
          · exact absurd k2 (by decide)
          · simp only [Rat2.mk.injEq] at e1
            exact ⟨e1.1, e1.2, e2⟩
        clear HP
        have c0 := q.cell (i := 0) rfl
        have c1 := q.cell (i := 1) rfl
        have cf := q.frozen
        have clt := q.lt
        go_wp2_with fail
        exact bodyPost_ret (v := .tuple #[.agg #[.int .i64 0, .int .i64 0], .int .i64 12]) (by simp [results, Tryd.results24, go_sem, c0, c1, clt]) rfl ⟨by rw [hv.1, hv.2.1, hv.2.2], ((hb.setCell (p := ⟨w.heap.size, 0, none⟩) (Nat.le_refl _) _).setCell (p := ⟨w.heap.size, 1, none⟩) (Nat.le_refl _) _).alloc (by have := hb.size; simpa using this) _⟩
      go_wp2_with fail
      have q := q.keep (below_alloc W (.cells #[.int .i64 (-N), .int .i64 D] 23))
      have ht := ht.keep (below_alloc W (.cells #[.int .i64 (-N), .int .i64 D] 23))
      have k13 := Blk.new W 23 #[.int .i64 (-N), .int .i64 D]
      have hb := hb.trans ((below_alloc W (.cells #[.int .i64 (-N), .int .i64 D] 23)).mono hb.size)
      generalize W.heap.size = g13 at k13 ⊢
      generalize World.alloc W _ = W4 at q ht hb k13 ⊢
      rcases HZ.out with ⟨hrk, hre⟩ | ⟨hrk, hre⟩
      case inr =>
        rw [hre] at R5
        have hv : p1 = 0 ∧ p2 = 0 ∧ PE = 12 := by
          rcases HP.out with ⟨⟨k1, k2, k3, k4⟩, -, -⟩ | ⟨-, e1, e2⟩
          · exact absurd k3 hrk
          · simp only [Rat2.mk.injEq] at e1
            exact ⟨e1.1, e1.2, e2⟩
        clear HP
        refine (R5.out _).mono ?_
        rintro e W ⟨rfl, hx⟩
        replace q := q.keep hx
        replace ht := ht.keep hx
        replace hb := hb.trans (hx.mono hb.size)
        clear hx
        have c0 := q.cell (i := 0) rfl
        have c1 := q.cell (i := 1) rfl
        have cf := q.frozen
        have clt := q.lt
        go_wp2_with fail
        exact bodyPost_ret (v := .tuple #[.agg #[.int .i64 0, .int .i64 0], .int .i64 12]) (by simp [results, Tryd.results24, go_sem, c0, c1]) rfl ⟨by rw [hv.1, hv.2.1, hv.2.2], (hb.setCell (p := ⟨w.heap.size, 0, none⟩) (Nat.le_refl _) _).setCell (p := ⟨w.heap.size, 1, none⟩) (Nat.le_refl _) _⟩
      rw [hre] at R5
      refine (R5.out _).mono ?_
      rintro e W ⟨rfl, hx⟩
      replace q := q.keep hx
      replace k13 := k13.keep hx
      replace ht := ht.keep hx
      replace hb := hb.trans (hx.mono hb.size)
      clear hx
      have d0 := k13.cell (i := 0) rfl
      have d1 := k13.cell (i := 1) rfl
      go_wp2_with fail
      have hts : textS ⟨(-N), D⟩ = str (textL ⟨(-N), D⟩) := if_pos hrk
      rw [hts, hre] at R6
      refine (R6.out _ ht).mono ?_
      rintro e W ⟨rfl, hx⟩
      replace q := q.keep hx
      replace k13 := k13.keep hx
      replace hb := hb.trans (hx.mono hb.size)
      clear hx d0 d1
      by_cases htx : textL ⟨(-N), D⟩ = s.data.toList
      · have hq : ((str (textL ⟨(-N), D⟩)).toList == s.toList) = true := by rw [HSE.out.1, HSE.out.2]; simpa using htx
        have hv : p1 = (-N) ∧ p2 = D ∧ PE = 0 := by
          rcases HP.out with ⟨-, e1, e2⟩ | ⟨k, -, -⟩
          · simp only [Rat2.mk.injEq] at e1
            exact ⟨e1.1, e1.2, e2⟩
          · exact absurd ⟨trivial, trivial, hrk, htx⟩ k
        clear HP
        generalize textL ⟨(-N), D⟩ = TX at *
        have d0 := k13.cell (i := 0) rfl
        have d1 := k13.cell (i := 1) rfl
        have c0 := q.cell (i := 0) rfl
        have c1 := q.cell (i := 1) rfl
        have cf := q.frozen
        have clt := q.lt
        clear htx hts hrk
        go_wp2_with fail
        exact bodyPost_ret (v := .tuple #[.agg #[.int .i64 (-N), .int .i64 D], .int .i64 0]) (by simp [results, Tryd.results24, go_sem, c0, c1]) rfl ⟨by rw [hv.1, hv.2.1, hv.2.2], (hb.setCell (p := ⟨w.heap.size, 0, none⟩) (Nat.le_refl _) _).setCell (p := ⟨w.heap.size, 1, none⟩) (Nat.le_refl _) _⟩
      · have hq : ((str (textL ⟨(-N), D⟩)).toList == s.toList) = false := by rw [HSE.out.1, HSE.out.2]; simpa using htx
        have hv : p1 = 0 ∧ p2 = 0 ∧ PE = 12 := by
          rcases HP.out with ⟨⟨k1, k2, k3, k4⟩, -, -⟩ | ⟨-, e1, e2⟩
          · exact absurd k4 htx
          · simp only [Rat2.mk.injEq] at e1
            exact ⟨e1.1, e1.2, e2⟩
        clear HP
        generalize textL ⟨(-N), D⟩ = TX at *
        clear htx hts hrk
        have c0 := q.cell (i := 0) rfl
        have c1 := q.cell (i := 1) rfl
        have cf := q.frozen
        have clt := q.lt
        go_wp2_with fail
        exact bodyPost_ret (v := .tuple #[.agg #[.int .i64 0, .int .i64 0], .int .i64 12]) (by simp [results, Tryd.results24, go_sem, c0, c1]) rfl ⟨by rw [hv.1, hv.2.1, hv.2.2], (hb.setCell (p := ⟨w.heap.size, 0, none⟩) (Nat.le_refl _) _).setCell (p := ⟨w.heap.size, 1, none⟩) (Nat.le_refl _) _⟩
    · go_enter Tryd.func24, Tryd.ntmps24
      go_wp2_with fail
      have q := hbx
      have hb := hba
      have ht := HT.out
      clear hbx hba HT
      generalize World.alloc w _ = w0 at q hb ht ⊢
      refine (R1.out _).mono ?_
      rintro e W ⟨rfl, rfl⟩
      go_wp2_with fail
      refine (R2.out _).mono ?_
      rintro e W ⟨rfl, hx⟩
      replace q := q.keep hx
      replace ht := ht.keep hx
      replace hb := hb.trans (hx.mono hb.size)
      clear hx
      go_wp2_with fail
      refine (R3.out _).mono ?_
      rintro e W ⟨rfl, hx⟩
      replace q := q.keep hx
      replace ht := ht.keep hx
      replace hb := hb.trans (hx.mono hb.size)
      clear hx
      go_wp2_with fail
      (try rw [← HDL.out])
      (try rw [show (⟨#[49]⟩ : ByteArray) = str DL by rw [HDL.out]; rfl])
      refine (R4.out _).mono ?_
      rintro e W ⟨rfl, hx⟩
      replace q := q.keep hx
      replace ht := ht.keep hx
      replace hb := hb.trans (hx.mono hb.size)
      clear hx
      cases B1
      case false =>
        have hv : p1 = 0 ∧ p2 = 0 ∧ PE = 12 := by
          rcases HP.out with ⟨⟨k1, k2, k3, k4⟩, -, -⟩ | ⟨-, e1, e2⟩
          · exact absurd k1 (by decide)
          · simp only [Rat2.mk.injEq] at e1
            exact ⟨e1.1, e1.2, e2⟩
        clear HP
        have c0 := q.cell (i := 0) rfl
        have c1 := q.cell (i := 1) rfl
        have cf := q.frozen
        have clt := q.lt
        go_wp2_with fail
        exact bodyPost_ret (v := .tuple #[.agg #[.int .i64 0, .int .i64 0], .int .i64 12]) (by simp [results, Tryd.results24, go_sem, c0, c1, clt]) rfl ⟨by rw [hv.1, hv.2.1, hv.2.2], ((hb.setCell (p := ⟨w.heap.size, 0, none⟩) (Nat.le_refl _) _).setCell (p := ⟨w.heap.size, 1, none⟩) (Nat.le_refl _) _).alloc (by have := hb.size; simpa using this) _⟩
      cases B2
      case false =>
        have hv : p1 = 0 ∧ p2 = 0 ∧ PE = 12 := by
          rcases HP.out with ⟨⟨k1, k2, k3, k4⟩, -, -⟩ | ⟨-, e1, e2⟩
          · exact absurd k2 (by decide)
          · simp only [Rat2.mk.injEq] at e1
            exact ⟨e1.1, e1.2, e2⟩
        clear HP
        have c0 := q.cell (i := 0) rfl
        have c1 := q.cell (i := 1) rfl
        have cf := q.frozen
        have clt := q.lt
        go_wp2_with fail
        exact bodyPost_ret (v := .tuple #[.agg #[.int .i64 0, .int .i64 0], .int .i64 12]) (by simp [results, Tryd.results24, go_sem, c0, c1, clt]) rfl ⟨by rw [hv.1, hv.2.1, hv.2.2], ((hb.setCell (p := ⟨w.heap.size, 0, none⟩) (Nat.le_refl _) _).setCell (p := ⟨w.heap.size, 1, none⟩) (Nat.le_refl _) _).alloc (by have := hb.size; simpa using this) _⟩
      go_wp2_with fail
      have q := q.keep (below_alloc W (.cells #[.int .i64 O, .int .i64 D] 23))
      have ht := ht.keep (below_alloc W (.cells #[.int .i64 O, .int .i64 D] 23))
      have k13 := Blk.new W 23 #[.int .i64 O, .int .i64 D]
      have hb := hb.trans ((below_alloc W (.cells #[.int .i64 O, .int .i64 D] 23)).mono hb.size)
      generalize W.heap.size = g13 at k13 ⊢
      generalize World.alloc W _ = W4 at q ht hb k13 ⊢
      rcases HZ.out with ⟨hrk, hre⟩ | ⟨hrk, hre⟩
      case inr =>
        rw [hre] at R5
        have hv : p1 = 0 ∧ p2 = 0 ∧ PE = 12 := by
          rcases HP.out with ⟨⟨k1, k2, k3, k4⟩, -, -⟩ | ⟨-, e1, e2⟩
          · exact absurd k3 hrk
          · simp only [Rat2.mk.injEq] at e1
            exact ⟨e1.1, e1.2, e2⟩
        clear HP
        refine (R5.out _).mono ?_
        rintro e W ⟨rfl, hx⟩
        replace q := q.keep hx
        replace ht := ht.keep hx
        replace hb := hb.trans (hx.mono hb.size)
        clear hx
        have c0 := q.cell (i := 0) rfl
        have c1 := q.cell (i := 1) rfl
        have cf := q.frozen
        have clt := q.lt
        go_wp2_with fail
        exact bodyPost_ret (v := .tuple #[.agg #[.int .i64 0, .int .i64 0], .int .i64 12]) (by simp [results, Tryd.results24, go_sem, c0, c1]) rfl ⟨by rw [hv.1, hv.2.1, hv.2.2], (hb.setCell (p := ⟨w.heap.size, 0, none⟩) (Nat.le_refl _) _).setCell (p := ⟨w.heap.size, 1, none⟩) (Nat.le_refl _) _⟩
      rw [hre] at R5
      refine (R5.out _).mono ?_
      rintro e W ⟨rfl, hx⟩
      replace q := q.keep hx
      replace k13 := k13.keep hx
      replace ht := ht.keep hx
      replace hb := hb.trans (hx.mono hb.size)
      clear hx
      have d0 := k13.cell (i := 0) rfl
      have d1 := k13.cell (i := 1) rfl
      go_wp2_with fail
      have hts : textS ⟨O, D⟩ = str (textL ⟨O, D⟩) := if_pos hrk
      rw [hts, hre] at R6
      refine (R6.out _ ht).mono ?_
      rintro e W ⟨rfl, hx⟩
      replace q := q.keep hx
      replace k13 := k13.keep hx
      replace hb := hb.trans (hx.mono hb.size)
      clear hx d0 d1
      by_cases htx : textL ⟨O, D⟩ = s.data.toList
      · have hq : ((str (textL ⟨O, D⟩)).toList == s.toList) = true := by rw [HSE.out.1, HSE.out.2]; simpa using htx
        have hv : p1 = O ∧ p2 = D ∧ PE = 0 := by
          rcases HP.out with ⟨-, e1, e2⟩ | ⟨k, -, -⟩
          · simp only [Rat2.mk.injEq] at e1
            exact ⟨e1.1, e1.2, e2⟩
          · exact absurd ⟨trivial, trivial, hrk, htx⟩ k
        clear HP
        generalize textL ⟨O, D⟩ = TX at *
        have d0 := k13.cell (i := 0) rfl
        have d1 := k13.cell (i := 1) rfl
        have c0 := q.cell (i := 0) rfl
        have c1 := q.cell (i := 1) rfl
        have cf := q.frozen
        have clt := q.lt
        clear htx hts hrk
        go_wp2_with fail
        exact bodyPost_ret (v := .tuple #[.agg #[.int .i64 O, .int .i64 D], .int .i64 0]) (by simp [results, Tryd.results24, go_sem, c0, c1]) rfl ⟨by rw [hv.1, hv.2.1, hv.2.2], (hb.setCell (p := ⟨w.heap.size, 0, none⟩) (Nat.le_refl _) _).setCell (p := ⟨w.heap.size, 1, none⟩) (Nat.le_refl _) _⟩
      · have hq : ((str (textL ⟨O, D⟩)).toList == s.toList) = false := by rw [HSE.out.1, HSE.out.2]; simpa using htx
        have hv : p1 = 0 ∧ p2 = 0 ∧ PE = 12 := by
          rcases HP.out with ⟨⟨k1, k2, k3, k4⟩, -, -⟩ | ⟨-, e1, e2⟩
          · exact absurd k4 htx
          · simp only [Rat2.mk.injEq] at e1
            exact ⟨e1.1, e1.2, e2⟩
        clear HP
        generalize textL ⟨O, D⟩ = TX at *
        clear htx hts hrk
        have c0 := q.cell (i := 0) rfl
        have c1 := q.cell (i := 1) rfl
        have cf := q.frozen
        have clt := q.lt
        go_wp2_with fail
        exact bodyPost_ret (v := .tuple #[.agg #[.int .i64 0, .int .i64 0], .int .i64 12]) (by simp [results, Tryd.results24, go_sem, c0, c1]) rfl ⟨by rw [hv.1, hv.2.1, hv.2.2], (hb.setCell (p := ⟨w.heap.size, 0, none⟩) (Nat.le_refl _) _).setCell (p := ⟨w.heap.size, 1, none⟩) (Nat.le_refl _) _⟩
end Go.Proofs.YtpkcmjiokdpegaaDoor
