/- Texts put together: RatV, RatH, RegionB. -/
import Derived.Test.YtjgampkpfjbmdaaDoorPack11
import Derived.Test.YtjgampkpfjbmdaaDoorPack09
import Derived.Test.YtjgampkpfjbmdaaDoorPack02
section
/- Parse of the program. Condition: the library's table of the powers of ten is laid. -/
namespace Go.Rel
open Go.RowKit
/-- Without a minus sign in front. -/
def restL (s : Bs) : Bs := Lib.trimPrefix s [45]
def minusB (s : Bs) : Bool := Lib.hasPrefix s [45]
def numL (s : Bs) : Bs := bef 47 (restL s)
def denL (s : Bs) : Bs := if 47 ∈ restL s then aft 47 (restL s) else [49]
def outP (s : Bs) : Rat2 := ⟨if minusB s = true then -numT (numL s) else numT (numL s), numT (denL s)⟩
def parseOk (s : Bs) : Prop := digOkT (numL s) = true ∧ digOkT (denL s) = true ∧ RatOk (outP s) ∧ textL (outP s) = s
instance (s : Bs) : Decidable (parseOk s) := by unfold parseOk; infer_instance
def parseR (s : Bs) : Rat2 := if parseOk s then outP s else ⟨0, 0⟩
def parseE (s : Bs) : Int := if parseOk s then 0 else 12
theorem numT_rng (d : Bs) : 0 ≤ numT d ∧ numT d ≤ 9999999999 := by
  unfold numT
  by_cases h : digOkT d = true
  · rw [if_pos h]
    unfold digOkT at h
    rw [Bool.and_eq_true, Bool.and_eq_true, decide_eq_true_eq] at h
    have h1 := numOf_lt h.2 0
    have h2 : 10 ^ d.length ≤ 10 ^ 10 := Nat.pow_le_pow_right (by omega) h.1.1.2
    omega
  · rw [if_neg h]; omega
theorem parse_val (s : Bs) : (parseOk s ∧ parseR s = outP s ∧ parseE s = 0) ∨ (¬ parseOk s ∧ parseR s = ⟨0, 0⟩ ∧ parseE s = 12) := by
  unfold parseR parseE
  by_cases h : parseOk s
  · exact .inl ⟨h, if_pos h, if_pos h⟩
  · exact .inr ⟨h, if_neg h, if_neg h⟩
end Go.Rel
namespace Go.Proofs.YtjgampkpfjbmdaaDoor
open Go.RowKit Go.Rel

set_option maxRecDepth 100000 in
set_option maxHeartbeats 8000000 in
theorem parse_any (s : ByteArray) (w : World) (hs : s.size ≤ 100000) (ht : Tab w) :
    Calls Tryd.prog 66 #[.string s] w (Ret w (.tuple #[(parseR s.data.toList).v, .int .i64 (parseE s.data.toList)])) := by
  have hrl : (restL s.data.toList).length ≤ 100000 := Nat.le_trans (Lib.trimPrefix_le _ _) (by rw [← Lib.size_eq]; exact hs)
  have r1 := fun W => Tryd.strings_CutPrefix s (str [45]) W
  rw [str_list] at r1
  have r2 := fun W => cut_one (str (restL s.data.toList)) 47 W (by rw [str_size]; unfold maxLen; omega)
  rw [str_list] at r2
  have hnl : (numL s.data.toList).length ≤ 100000 := Nat.le_trans (show (bef 47 (restL s.data.toList)).length ≤ _ from (List.takeWhile_sublist _).length_le) hrl
  have hdl : (denL s.data.toList).length ≤ 100000 := by
    unfold denL
    split
    · exact Nat.le_trans (show (aft 47 (restL s.data.toList)).length ≤ _ from ((List.drop_sublist _ _).trans (List.dropWhile_sublist _)).length_le) hrl
    · decide
  have r3 := fun W => digits_any (str (numL s.data.toList)) W (by rw [str_size]; unfold maxLen; omega)
  have r4 := fun W => digits_any (str (denL s.data.toList)) W (by rw [str_size]; unfold maxLen; omega)
  rw [str_list] at r3 r4
  have n1 := numT_rng (numL s.data.toList)
  have n2 := numT_rng (denL s.data.toList)
  have hden : (47 ∈ restL s.data.toList ∧ denL s.data.toList = aft 47 (restL s.data.toList)) ∨ (47 ∉ restL s.data.toList ∧ denL s.data.toList = [49]) := by
    unfold denL
    by_cases h : 47 ∈ restL s.data.toList
    · exact .inl ⟨h, if_pos h⟩
    · exact .inr ⟨h, if_neg h⟩
  have hpv := parse_val s.data.toList
  unfold parseOk outP at hpv
  change ∀ W, Calls _ _ _ W fun e w' => e = .returned (.tuple #[.string (str (restL s.data.toList)), .bool (minusB s.data.toList)]) ∧ w' = W at r1
  change ∀ W, Calls _ _ _ W (Ret W (.tuple #[.string (str (numL s.data.toList)), .string (str (aft 47 (restL s.data.toList))), .bool (decide (47 ∈ restL s.data.toList))])) at r2
  generalize parseR s.data.toList = PR at *
  generalize parseE s.data.toList = PE at *
  generalize restL s.data.toList = RL at *
  generalize minusB s.data.toList = M at *
  generalize numL s.data.toList = NL at *
  generalize denL s.data.toList = DL at *
  generalize numT NL = N at *
  generalize numT DL = D at *
  generalize digOkT NL = B1 at *
  generalize digOkT DL = B2 at *
  obtain ⟨p1, p2⟩ := PR
  obtain ⟨O, hO⟩ : ∃ O : Int, (if M = true then -N else N) = O := ⟨_, rfl⟩
  rw [hO] at hpv
  have hOM : (M = true ∧ O = -N) ∨ (M = false ∧ O = N) := by cases M <;> simp at hO <;> simp [hO]
  have h64 : Rat64 ⟨O, D⟩ := by unfold Rat64; simp only; omega
  have r5 := fun W => ratCheck_any ⟨O, D⟩ W h64.1 h64.2.1 h64.2.2.1 h64.2.2.2
  have r6 := fun W ht => text_any ⟨O, D⟩ W h64 ht
  have hbx := Blk.new w 23 #[.int .i64 0, .int .i64 0]
  have hba := below_alloc w (.cells #[.int .i64 0, .int .i64 0] 23)
  have R1 := Lib.hid r1
  have R2 := Lib.hid r2
  have R3 := Lib.hid r3
  have R4 := Lib.hid r4
  have R5 := Lib.hid r5
  have R6 := Lib.hid r6
  have HP := Lib.hid hpv
  have HD := Lib.hid hden
  have HT := Lib.hid (ht.keep hba)
  have HM := Lib.hid hOM
  have hz := check_split ⟨O, D⟩
  have HZ := Lib.hid hz
  have hself : ∀ x : Bs, (str x).toList = x := fun x => Lib.toList_data _
  have hse : s.toList = s.data.toList := Lib.toList_data _
  have HSE := Lib.hid (show _ ∧ _ from ⟨hself, hse⟩)
  clear r1 r2 r3 r4 r5 r6 hpv hden ht hOM hz h64 hrl hnl hdl hO hs hself hse
  obtain ⟨n11, n12⟩ := n1
  obtain ⟨n21, n22⟩ := n2
  rcases HD.out with ⟨h47, hDL⟩ | ⟨h47, hDL⟩
  all_goals
    (first | rw [decide_eq_true h47] at R2 | rw [decide_eq_false h47] at R2)
    have HDL := Lib.hid hDL
    clear h47 hDL
    rcases HM.out with ⟨hM, hOe⟩ | ⟨hM, hOe⟩
    all_goals
      subst hM
      subst hOe
      clear HM
    all_goals skip
    · go_enter Tryd.func66, Tryd.ntmps66
      go_wp2_with fail
      have q := hbx
      have hb := hba
      have ht := HT.out
      clear hbx hba HT
      generalize World.alloc w _ = w0 at q hb ht ⊢
      refine (R1.out _).mono ?_
      rintro e W ⟨rfl, rfl⟩
      go_wp2_with fail
      refine (R2.out _).mono ?_
      rintro e W ⟨rfl, hx⟩
      replace q := q.keep hx
      replace ht := ht.keep hx
      replace hb := hb.trans (hx.mono hb.size)
      clear hx
      go_wp2_with fail
      refine (R3.out _).mono ?_
      rintro e W ⟨rfl, hx⟩
      replace q := q.keep hx
      replace ht := ht.keep hx
      replace hb := hb.trans (hx.mono hb.size)
      clear hx
      go_wp2_with fail
      (try rw [← HDL.out])
      (try rw [show (⟨#[49]⟩ : ByteArray) = str DL by rw [HDL.out]; rfl])
      refine (R4.out _).mono ?_
      rintro e W ⟨rfl, hx⟩
      replace q := q.keep hx
      replace ht := ht.keep hx
      replace hb := hb.trans (hx.mono hb.size)
      clear hx
      cases B1
      case false =>
        have hv : p1 = 0 ∧ p2 = 0 ∧ PE = 12 := by
          rcases HP.out with ⟨⟨k1, k2, k3, k4⟩, -, -⟩ | ⟨-, e1, e2⟩
          · exact absurd k1 (by decide)
          · simp only [Rat2.mk.injEq] at e1
            exact ⟨e1.1, e1.2, e2⟩
        clear HP
        have c0 := q.cell (i := 0) rfl
        have c1 := q.cell (i := 1) rfl
        have cf := q.frozen
        have clt := q.lt
        go_wp2_with fail
        exact bodyPost_ret (v := .tuple #[.agg #[.int .i64 0, .int .i64 0], .int .i64 12]) (by simp [results, Tryd.results66, go_sem, c0, c1, clt]) rfl ⟨by rw [hv.1, hv.2.1, hv.2.2], ((hb.setCell (p := ⟨w.heap.size, 0, none⟩) (Nat.le_refl _) _).setCell (p := ⟨w.heap.size, 1, none⟩) (Nat.le_refl _) _).alloc (by have := hb.size; simpa using this) _⟩
      cases B2
      case false =>
        have hv : p1 = 0 ∧ p2 = 0 ∧ PE = 12 := by
          rcases HP.out with ⟨⟨k1, k2, k3, k4⟩, -, -⟩ | ⟨-, e1, e2⟩
          · exact absurd k2 (by decide)
          · simp only [Rat2.mk.injEq] at e1
            exact ⟨e1.1, e1.2, e2⟩
        clear HP
        have c0 := q.cell (i := 0) rfl
        have c1 := q.cell (i := 1) rfl
        have cf := q.frozen
        have clt := q.lt
        go_wp2_with fail
        exact bodyPost_ret (v := .tuple #[.agg #[.int .i64 0, .int .i64 0], .int .i64 12]) (by simp [results, Tryd.results66, go_sem, c0, c1, clt]) rfl ⟨by rw [hv.1, hv.2.1, hv.2.2], ((hb.setCell (p := ⟨w.heap.size, 0, none⟩) (Nat.le_refl _) _).setCell (p := ⟨w.heap.size, 1, none⟩) (Nat.le_refl _) _).alloc (by have := hb.size; simpa using this) _⟩
      go_wp2_with fail
      have q := q.keep (below_alloc W (.cells #[.int .i64 (-N), .int .i64 D] 23))
      have ht := ht.keep (below_alloc W (.cells #[.int .i64 (-N), .int .i64 D] 23))
      have k13 := Blk.new W 23 #[.int .i64 (-N), .int .i64 D]
      have hb := hb.trans ((below_alloc W (.cells #[.int .i64 (-N), .int .i64 D] 23)).mono hb.size)
      generalize W.heap.size = g13 at k13 ⊢
      generalize World.alloc W _ = W4 at q ht hb k13 ⊢
      rcases HZ.out with ⟨hrk, hre⟩ | ⟨hrk, hre⟩
      case inr =>
        rw [hre] at R5
        have hv : p1 = 0 ∧ p2 = 0 ∧ PE = 12 := by
          rcases HP.out with ⟨⟨k1, k2, k3, k4⟩, -, -⟩ | ⟨-, e1, e2⟩
          · exact absurd k3 hrk
          · simp only [Rat2.mk.injEq] at e1
            exact ⟨e1.1, e1.2, e2⟩
        clear HP
        refine (R5.out _).mono ?_
        rintro e W ⟨rfl, hx⟩
        replace q := q.keep hx
        replace ht := ht.keep hx
        replace hb := hb.trans (hx.mono hb.size)
        clear hx
        have c0 := q.cell (i := 0) rfl
        have c1 := q.cell (i := 1) rfl
        have cf := q.frozen
        have clt := q.lt
        go_wp2_with fail
        exact bodyPost_ret (v := .tuple #[.agg #[.int .i64 0, .int .i64 0], .int .i64 12]) (by simp [results, Tryd.results66, go_sem, c0, c1]) rfl ⟨by rw [hv.1, hv.2.1, hv.2.2], (hb.setCell (p := ⟨w.heap.size, 0, none⟩) (Nat.le_refl _) _).setCell (p := ⟨w.heap.size, 1, none⟩) (Nat.le_refl _) _⟩
      rw [hre] at R5
      refine (R5.out _).mono ?_
      rintro e W ⟨rfl, hx⟩
      replace q := q.keep hx
      replace k13 := k13.keep hx
      replace ht := ht.keep hx
      replace hb := hb.trans (hx.mono hb.size)
      clear hx
      have d0 := k13.cell (i := 0) rfl
      have d1 := k13.cell (i := 1) rfl
      go_wp2_with fail
      have hts : textS ⟨(-N), D⟩ = str (textL ⟨(-N), D⟩) := if_pos hrk
      rw [hts, hre] at R6
      refine (R6.out _ ht).mono ?_
      rintro e W ⟨rfl, hx⟩
      replace q := q.keep hx
      replace k13 := k13.keep hx
      replace hb := hb.trans (hx.mono hb.size)
      clear hx d0 d1
      by_cases htx : textL ⟨(-N), D⟩ = s.data.toList
      · have hq : ((str (textL ⟨(-N), D⟩)).toList == s.toList) = true := by rw [HSE.out.1, HSE.out.2]; simpa using htx
        have hv : p1 = (-N) ∧ p2 = D ∧ PE = 0 := by
          rcases HP.out with ⟨-, e1, e2⟩ | ⟨k, -, -⟩
          · simp only [Rat2.mk.injEq] at e1
            exact ⟨e1.1, e1.2, e2⟩
          · exact absurd ⟨trivial, trivial, hrk, htx⟩ k
        clear HP
        generalize textL ⟨(-N), D⟩ = TX at *
        have d0 := k13.cell (i := 0) rfl
        have d1 := k13.cell (i := 1) rfl
        have c0 := q.cell (i := 0) rfl
        have c1 := q.cell (i := 1) rfl
        have cf := q.frozen
        have clt := q.lt
        clear htx hts hrk
        go_wp2_with fail
        exact bodyPost_ret (v := .tuple #[.agg #[.int .i64 (-N), .int .i64 D], .int .i64 0]) (by simp [results, Tryd.results66, go_sem, c0, c1]) rfl ⟨by rw [hv.1, hv.2.1, hv.2.2], (hb.setCell (p := ⟨w.heap.size, 0, none⟩) (Nat.le_refl _) _).setCell (p := ⟨w.heap.size, 1, none⟩) (Nat.le_refl _) _⟩
      · have hq : ((str (textL ⟨(-N), D⟩)).toList == s.toList) = false := by rw [HSE.out.1, HSE.out.2]; simpa using htx
        have hv : p1 = 0 ∧ p2 = 0 ∧ PE = 12 := by
          rcases HP.out with ⟨⟨k1, k2, k3, k4⟩, -, -⟩ | ⟨-, e1, e2⟩
          · exact absurd k4 htx
          · simp only [Rat2.mk.injEq] at e1
            exact ⟨e1.1, e1.2, e2⟩
        clear HP
        generalize textL ⟨(-N), D⟩ = TX at *
        clear htx hts hrk
        have c0 := q.cell (i := 0) rfl
        have c1 := q.cell (i := 1) rfl
        have cf := q.frozen
        have clt := q.lt
        go_wp2_with fail
        exact bodyPost_ret (v := .tuple #[.agg #[.int .i64 0, .int .i64 0], .int .i64 12]) (by simp [results, Tryd.results66, go_sem, c0, c1]) rfl ⟨by rw [hv.1, hv.2.1, hv.2.2], (hb.setCell (p := ⟨w.heap.size, 0, none⟩) (Nat.le_refl _) _).setCell (p := ⟨w.heap.size, 1, none⟩) (Nat.le_refl _) _⟩
    · go_enter Tryd.func66, Tryd.ntmps66
      go_wp2_with fail
      have q := hbx
      have hb := hba
      have ht := HT.out
      clear hbx hba HT
      generalize World.alloc w _ = w0 at q hb ht ⊢
      refine (R1.out _).mono ?_
      rintro e W ⟨rfl, rfl⟩
      go_wp2_with fail
      refine (R2.out _).mono ?_
      rintro e W ⟨rfl, hx⟩
      replace q := q.keep hx
      replace ht := ht.keep hx
      replace hb := hb.trans (hx.mono hb.size)
      clear hx
      go_wp2_with fail
      refine (R3.out _).mono ?_
      rintro e W ⟨rfl, hx⟩
      replace q := q.keep hx
      replace ht := ht.keep hx
      replace hb := hb.trans (hx.mono hb.size)
      clear hx
      go_wp2_with fail
      (try rw [← HDL.out])
      (try rw [show (⟨#[49]⟩ : ByteArray) = str DL by rw [HDL.out]; rfl])
      refine (R4.out _).mono ?_
      rintro e W ⟨rfl, hx⟩
      replace q := q.keep hx
      replace ht := ht.keep hx
      replace hb := hb.trans (hx.mono hb.size)
      clear hx
      cases B1
      case false =>
        have hv : p1 = 0 ∧ p2 = 0 ∧ PE = 12 := by
          rcases HP.out with ⟨⟨k1, k2, k3, k4⟩, -, -⟩ | ⟨-, e1, e2⟩
          · exact absurd k1 (by decide)
          · simp only [Rat2.mk.injEq] at e1
            exact ⟨e1.1, e1.2, e2⟩
        clear HP
        have c0 := q.cell (i := 0) rfl
        have c1 := q.cell (i := 1) rfl
        have cf := q.frozen
        have clt := q.lt
        go_wp2_with fail
        exact bodyPost_ret (v := .tuple #[.agg #[.int .i64 0, .int .i64 0], .int .i64 12]) (by simp [results, Tryd.results66, go_sem, c0, c1, clt]) rfl ⟨by rw [hv.1, hv.2.1, hv.2.2], ((hb.setCell (p := ⟨w.heap.size, 0, none⟩) (Nat.le_refl _) _).setCell (p := ⟨w.heap.size, 1, none⟩) (Nat.le_refl _) _).alloc (by have := hb.size; simpa using this) _⟩
      cases B2
      case false =>
        have hv : p1 = 0 ∧ p2 = 0 ∧ PE = 12 := by
          rcases HP.out with ⟨⟨k1, k2, k3, k4⟩, -, -⟩ | ⟨-, e1, e2⟩
          · exact absurd k2 (by decide)
          · simp only [Rat2.mk.injEq] at e1
            exact ⟨e1.1, e1.2, e2⟩
        clear HP
        have c0 := q.cell (i := 0) rfl
        have c1 := q.cell (i := 1) rfl
        have cf := q.frozen
        have clt := q.lt
        go_wp2_with fail
        exact bodyPost_ret (v := .tuple #[.agg #[.int .i64 0, .int .i64 0], .int .i64 12]) (by simp [results, Tryd.results66, go_sem, c0, c1, clt]) rfl ⟨by rw [hv.1, hv.2.1, hv.2.2], ((hb.setCell (p := ⟨w.heap.size, 0, none⟩) (Nat.le_refl _) _).setCell (p := ⟨w.heap.size, 1, none⟩) (Nat.le_refl _) _).alloc (by have := hb.size; simpa using this) _⟩
      go_wp2_with fail
      have q := q.keep (below_alloc W (.cells #[.int .i64 O, .int .i64 D] 23))
      have ht := ht.keep (below_alloc W (.cells #[.int .i64 O, .int .i64 D] 23))
      have k13 := Blk.new W 23 #[.int .i64 O, .int .i64 D]
      have hb := hb.trans ((below_alloc W (.cells #[.int .i64 O, .int .i64 D] 23)).mono hb.size)
      generalize W.heap.size = g13 at k13 ⊢
      generalize World.alloc W _ = W4 at q ht hb k13 ⊢
      rcases HZ.out with ⟨hrk, hre⟩ | ⟨hrk, hre⟩
      case inr =>
        rw [hre] at R5
        have hv : p1 = 0 ∧ p2 = 0 ∧ PE = 12 := by
          rcases HP.out with ⟨⟨k1, k2, k3, k4⟩, -, -⟩ | ⟨-, e1, e2⟩
          · exact absurd k3 hrk
          · simp only [Rat2.mk.injEq] at e1
            exact ⟨e1.1, e1.2, e2⟩
        clear HP
        refine (R5.out _).mono ?_
        rintro e W ⟨rfl, hx⟩
        replace q := q.keep hx
        replace ht := ht.keep hx
        replace hb := hb.trans (hx.mono hb.size)
        clear hx
        have c0 := q.cell (i := 0) rfl
        have c1 := q.cell (i := 1) rfl
        have cf := q.frozen
        have clt := q.lt
        go_wp2_with fail
        exact bodyPost_ret (v := .tuple #[.agg #[.int .i64 0, .int .i64 0], .int .i64 12]) (by simp [results, Tryd.results66, go_sem, c0, c1]) rfl ⟨by rw [hv.1, hv.2.1, hv.2.2], (hb.setCell (p := ⟨w.heap.size, 0, none⟩) (Nat.le_refl _) _).setCell (p := ⟨w.heap.size, 1, none⟩) (Nat.le_refl _) _⟩
      rw [hre] at R5
      refine (R5.out _).mono ?_
      rintro e W ⟨rfl, hx⟩
      replace q := q.keep hx
      replace k13 := k13.keep hx
      replace ht := ht.keep hx
      replace hb := hb.trans (hx.mono hb.size)
      clear hx
      have d0 := k13.cell (i := 0) rfl
      have d1 := k13.cell (i := 1) rfl
      go_wp2_with fail
      have hts : textS ⟨O, D⟩ = str (textL ⟨O, D⟩) := if_pos hrk
      rw [hts, hre] at R6
      refine (R6.out _ ht).mono ?_
      rintro e W ⟨rfl, hx⟩
      replace q := q.keep hx
      replace k13 := k13.keep hx
      replace hb := hb.trans (hx.mono hb.size)
      clear hx d0 d1
      by_cases htx : textL ⟨O, D⟩ = s.data.toList
      · have hq : ((str (textL ⟨O, D⟩)).toList == s.toList) = true := by rw [HSE.out.1, HSE.out.2]; simpa using htx
        have hv : p1 = O ∧ p2 = D ∧ PE = 0 := by
          rcases HP.out with ⟨-, e1, e2⟩ | ⟨k, -, -⟩
          · simp only [Rat2.mk.injEq] at e1
            exact ⟨e1.1, e1.2, e2⟩
          · exact absurd ⟨trivial, trivial, hrk, htx⟩ k
        clear HP
        generalize textL ⟨O, D⟩ = TX at *
        have d0 := k13.cell (i := 0) rfl
        have d1 := k13.cell (i := 1) rfl
        have c0 := q.cell (i := 0) rfl
        have c1 := q.cell (i := 1) rfl
        have cf := q.frozen
        have clt := q.lt
        clear htx hts hrk
        go_wp2_with fail
        exact bodyPost_ret (v := .tuple #[.agg #[.int .i64 O, .int .i64 D], .int .i64 0]) (by simp [results, Tryd.results66, go_sem, c0, c1]) rfl ⟨by rw [hv.1, hv.2.1, hv.2.2], (hb.setCell (p := ⟨w.heap.size, 0, none⟩) (Nat.le_refl _) _).setCell (p := ⟨w.heap.size, 1, none⟩) (Nat.le_refl _) _⟩
      · have hq : ((str (textL ⟨O, D⟩)).toList == s.toList) = false := by rw [HSE.out.1, HSE.out.2]; simpa using htx
        have hv : p1 = 0 ∧ p2 = 0 ∧ PE = 12 := by
          rcases HP.out with ⟨⟨k1, k2, k3, k4⟩, -, -⟩ | ⟨-, e1, e2⟩
          · exact absurd k4 htx
          · simp only [Rat2.mk.injEq] at e1
            exact ⟨e1.1, e1.2, e2⟩
        clear HP
        generalize textL ⟨O, D⟩ = TX at *
        clear htx hts hrk
        have c0 := q.cell (i := 0) rfl
        have c1 := q.cell (i := 1) rfl
        have cf := q.frozen
        have clt := q.lt
        go_wp2_with fail
        exact bodyPost_ret (v := .tuple #[.agg #[.int .i64 0, .int .i64 0], .int .i64 12]) (by simp [results, Tryd.results66, go_sem, c0, c1]) rfl ⟨by rw [hv.1, hv.2.1, hv.2.2], (hb.setCell (p := ⟨w.heap.size, 0, none⟩) (Nat.le_refl _) _).setCell (p := ⟨w.heap.size, 1, none⟩) (Nat.le_refl _) _⟩
end Go.Proofs.YtjgampkpfjbmdaaDoor
end
section
/- Sum on both sides. For every list of ratios of 64 bits. -/
namespace Go.Rel
open Go.RowKit
/-- A slice of ratios at the address A reads as l; it lies below block B. -/
def Rats (w : World) (B : Nat) (A : Option Addr) (l : List Rat2) : Prop :=
  0 < l.length → ∃ b off : Nat, A = some ⟨b, off, none⟩ ∧ b < B ∧ ∀ (i : Nat) (v : Rat2), l[i]? = some v →
    w.cell? ⟨b, off + i * 2, none⟩ = some (.int .i64 v.n) ∧ w.cell? ⟨b, off + i * 2 + 1, none⟩ = some (.int .i64 v.d)
section
variable {w w' : World} {B B' : Nat} {A : Option Addr} {l : List Rat2}
theorem Rats.at_ (h : Rats w B A l) {k : Nat} (hk : k < l.length) :
    ∃ b off : Nat, A = some ⟨b, off, none⟩ ∧ b < B ∧ w.cell? ⟨b, off + k * 2, none⟩ = some (.int .i64 l[k].n) ∧ w.cell? ⟨b, off + k * 2 + 1, none⟩ = some (.int .i64 l[k].d) := by
  obtain ⟨b, off, e, hb, hc⟩ := h (by omega)
  exact ⟨b, off, e, hb, hc k l[k] (by simp [hk])⟩
theorem Rats.below (h : Rats w B A l) (hb : Below B w w') : Rats w' B A l := by
  intro hl
  obtain ⟨b, off, e, hB, hc⟩ := h hl
  refine ⟨b, off, e, hB, fun i v hi => ?_⟩
  obtain ⟨h1, h2⟩ := hc i v hi
  exact ⟨(hb.cell hB).trans h1, (hb.cell hB).trans h2⟩
theorem Rats.more (h : Rats w B A l) (hB : B ≤ B') : Rats w B' A l := by
  intro hl
  obtain ⟨b, off, e, hb, hc⟩ := h hl
  exact ⟨b, off, e, by omega, hc⟩
end
end Go.Rel
namespace Go.Proofs.YtjgampkpfjbmdaaDoor
open Go.RowKit Go.Rel

/-- The sum of a list behind s: the sum, and the error. -/
def sumP : List Rat2 → Rat2 → Rat2 × Int
  | [], s => (s, 0)
  | a :: r, s => if opAddE s a = 0 then sumP r (opAddR s a) else (⟨0, 0⟩, opAddE s a)
def sumR (l : List Rat2) : Rat2 := if l.length > 200 then ⟨0, 0⟩ else (sumP l ⟨0, 1⟩).1
def sumE (l : List Rat2) : Int := if l.length > 200 then 4 else (sumP l ⟨0, 1⟩).2

theorem makeR_64 (n d : Int) : Rat64 (makeR n d) := by
  unfold makeR
  split
  · simp [Rat64]
  · split
    · rename_i h
      obtain ⟨h1, h2, h3, h4⟩ := ratOk_bounds h
      exact ⟨by omega, by omega, by omega, by omega⟩
    · simp [Rat64]
theorem runV_64 (a b : Rat2) (p q : Int) : Rat64 (runV a b p q) := by
  unfold runV
  split
  · exact makeR_64 p q
  · simp [Rat64]
theorem sumP_step {l : List Rat2} {k : Nat} (hk : k < l.length) (s : Rat2) : sumP (l.drop k) s = if opAddE s l[k] = 0 then sumP (l.drop (k + 1)) (opAddR s l[k]) else (⟨0, 0⟩, opAddE s l[k]) := by
  rw [List.drop_eq_getElem_cons hk]; rfl

end Go.Proofs.YtjgampkpfjbmdaaDoor
end
section
/- Regions that draw their order, make one new variable and store into it: 'x, e := f(..)' where the order is open. -/
namespace Go.Rel
open Go.RowKit

/-- All blocks below B stay; of the others each stays, or was o0 and becomes o1. -/
structure KpNew (B : Nat) (o0 o1 : Obj) (W W' : World) : Prop where
  below : Below B W W'
  rest : ∀ g, B ≤ g → g < W.heap.size → W'.heap[g]? = W.heap[g]? ∨ (W.heap[g]? = some o0 ∧ W'.heap[g]? = some o1)

theorem kpNew_keeps (B : Nat) (o0 o1 : Obj) : Keeps (KpNew B o0 o1) :=
  ⟨fun _ => ⟨Below.refl _ _, fun _ _ _ => .inl rfl⟩,
   fun {a b c} h k => ⟨h.below.trans k.below, fun g h1 h2 => by
     have hs : g < b.heap.size := Nat.lt_of_lt_of_le h2 h.below.size
     rcases k.rest g h1 hs with e | ⟨e, e'⟩
     · rcases h.rest g h1 h2 with f | ⟨f, f'⟩
       · exact .inl (e.trans f)
       · exact .inr ⟨f, e.trans f'⟩
     · rcases h.rest g h1 h2 with f | ⟨f, f'⟩
       · exact .inr ⟨f ▸ e, e'⟩
       · exact .inr ⟨f, e'⟩⟩,
   fun _ => ⟨(Below.refl _ _).drew, fun _ _ _ => .inl rfl⟩⟩

theorem KpNew.of_below {B : Nat} {o0 o1 : Obj} {W W' : World} (h : Below W.heap.size W W') (hB : B ≤ W.heap.size) : KpNew B o0 o1 W W' :=
  ⟨h.mono hB, fun g _ h2 => .inl (h.block g h2)⟩
theorem KpNew.final {B g : Nat} {o0 o1 : Obj} {W W' : World} (h : KpNew B o0 o1 W W') (hg : B ≤ g) (ho : W.heap[g]? = some o1) : W'.heap[g]? = some o1 := by
  rcases h.rest g hg (Array.getElem?_eq_some_iff.1 ho).1 with e | ⟨_, e⟩
  · exact e.trans ho
  · exact e
theorem KpNew.either {B g : Nat} {o0 o1 : Obj} {W W' : World} (h : KpNew B o0 o1 W W') (hg : B ≤ g) (ho : W.heap[g]? = some o0 ∨ W.heap[g]? = some o1) : W'.heap[g]? = some o0 ∨ W'.heap[g]? = some o1 := by
  rcases ho with ho | ho
  · rcases h.rest g hg (Array.getElem?_eq_some_iff.1 ho).1 with e | ⟨_, e⟩
    · exact .inl (e.trans ho)
    · exact .inr e
  · exact .inr (h.final hg ho)

/-- The new variable: still o0, or o1 already. -/
def IsEither (B : Nat) (o0 o1 : Obj) (v : Value) (W : World) : Prop := ∃ g, v = .pointer (some ⟨g, 0, none⟩) ∧ B ≤ g ∧ (W.heap[g]? = some o0 ∨ W.heap[g]? = some o1)
def IsFinal (B : Nat) (o1 : Obj) (v : Value) (W : World) : Prop := ∃ g, v = .pointer (some ⟨g, 0, none⟩) ∧ B ≤ g ∧ W.heap[g]? = some o1

section
variable {P : Program} {ops : Array Oper} {w0 : World} {Fin : Act → List (Nat × (World → Prop)) → Prop} {k : Nat} {e : Nat → Value} {us : List Know} {o : Oper} {rest : List Oper} {a : Act} {fs : List (Nat × (World → Prop))} {R : World → World → Prop} {o1 : Obj}

theorem headN_still {B : Nat} {o0 o1 : Obj} {c : Value} (hw : (Region.wanted o (yielded ops a.tmps) && o.dst.isSome) = true) (h : ∀ W, Below B w0 W → (execOp a.eval o).run P W = .ok (.value c) W)
    (hn : Head P ops (KpNew B o0 o1) w0 Fin (k + 1) (upd e k c) us rest (a.put o.dst c) fs) : Head P ops (KpNew B o0 o1) w0 Fin k e (⟨[], .inl c⟩ :: us) (o :: rest) a fs :=
  head_stillR (kpNew_keeps _ _ _) hw (fun W hW => h W hW.below) hn

theorem headN_call {B : Nat} {o0 o1 : Obj} {c : Value} {f : FuncId} {args : Array Value} (hB : B ≤ w0.heap.size) (hw : (Region.wanted o (yielded ops a.tmps) && o.dst.isSome) = true) (hr : ∀ W, (execOp a.eval o).run P W = .ok (.enter f args) W)
    (h : ∀ W, Below B w0 W → Calls P f args W fun e W' => e = .returned c ∧ Below W.heap.size W W')
    (hn : Head P ops (KpNew B o0 o1) w0 Fin (k + 1) (upd e k c) us rest (a.put o.dst c) fs) : Head P ops (KpNew B o0 o1) w0 Fin k e (⟨[], .inl c⟩ :: us) (o :: rest) a fs :=
  head_callR hw hr (fun W hW => (h W hW.below).mono fun _ _ ⟨he, hb⟩ => ⟨he, .of_below hb (Nat.le_trans hB hW.below.size)⟩) hn

/-- The new variable is made. -/
theorem headN_alloc {B : Nat} {cs : Array Value} {t : TypeId} (hB : B ≤ w0.heap.size) (hw : (Region.wanted o (yielded ops a.tmps) && o.dst.isSome) = true)
    (h : ∀ W, (execOp a.eval o).run P W = .ok (.value (.pointer (some ⟨W.heap.size, 0, none⟩))) (W.alloc (.cells cs t)))
    (hn : ∀ v, Head P ops (KpNew B (.cells cs t (0, 0)) o1) w0 Fin (k + 1) (upd e k v) us rest (a.put o.dst v) ((k, IsEither B (.cells cs t (0, 0)) o1 v) :: fs)) :
    Head P ops (KpNew B (.cells cs t (0, 0)) o1) w0 Fin k e (⟨[], .inr fun _ => IsEither B (.cells cs t (0, 0)) o1⟩ :: us) (o :: rest) a fs :=
  head_memR [] _ hw (fun v W W' ⟨g, hv, hg, ho⟩ hk => ⟨g, hv, hg, hk.either hg ho⟩) (fun W hW _ => by
    unfold Gives
    rw [h W]
    have hs := Nat.le_trans hB hW.below.size
    exact ⟨⟨_, rfl, hs, .inl (by rw [World.alloc]; simp)⟩, .of_below ((Below.refl _ _).alloc (Nat.le_refl _) _) hs⟩) hn

/-- The store of two cells into the new variable (operation j has made it, v points to it). -/
theorem headN_store2 {B j : Nat} {x y c d : Value} {t : TypeId} {v : Value} (hw : (Region.wanted o (yielded ops a.tmps) && o.dst.isNone) = true) (hv : pick [j] e j = v)
    (hkn : ∀ W, known fs [j] W → IsEither B (.cells #[x, y] t (0, 0)) (.cells #[c, d] t (0, 0)) v W)
    (h : ∀ W g x' y', v = .pointer (some ⟨g, 0, none⟩) → W.cell? ⟨g, 0, none⟩ = some x' → W.cell? ⟨g, 1, none⟩ = some y' → (∀ i, W.frozen? ⟨g, i, none⟩ = false) → Gives P o a W (fun _ W' => W' = (W.setCell ⟨g, 0, none⟩ c).setCell ⟨g, 1, none⟩ d))
    (hn : ∀ u, Head P ops (KpNew B (.cells #[x, y] t (0, 0)) (.cells #[c, d] t (0, 0))) w0 Fin (k + 1) (upd e k u) us rest a ((k, IsFinal B (.cells #[c, d] t (0, 0)) v) :: fs)) :
    Head P ops (KpNew B (.cells #[x, y] t (0, 0)) (.cells #[c, d] t (0, 0))) w0 Fin k e (⟨[j], .inr fun e _ => IsFinal B (.cells #[c, d] t (0, 0)) (e j)⟩ :: us) (o :: rest) a fs := by
  have hd : o.dst = none := by have := and_r hw; cases hx : o.dst <;> simp_all
  refine .inl ⟨and_l hw, fun W hW hk => ?_, fun _ _ _ _ ⟨g, hv, hg, ho⟩ hk => ⟨g, hv, hg, hk.final hg ho⟩, fun u => ?_⟩
  · obtain ⟨g, hg0, hg, ho⟩ := hkn W hk
    have hx : ∃ x' y', W.heap[g]? = some (.cells #[x', y'] t (0, 0)) := by
      rcases ho with h | h
      · exact ⟨_, _, h⟩
      · exact ⟨_, _, h⟩
    refine Exists.elim hx fun x' hx => Exists.elim hx fun y' hx => ?_
    refine (h W g x' y' hg0 (by simp [World.cell?, hx]) (by simp [World.cell?, hx]) (fun i => by simp [World.frozen?, hx])).mono fun u W' e' => ?_
    subst e'
    have hfin : ((W.setCell ⟨g, 0, none⟩ c).setCell ⟨g, 1, none⟩ d).heap[g]? = some (.cells #[c, d] t (0, 0)) := by simp [World.setCell, Array.getElem?_modify, hx]
    refine ⟨⟨g, hv.trans hg0, hg, hfin⟩, (((Below.refl _ _).setCell (p := ⟨g, 0, none⟩) hg c).setCell (p := ⟨g, 1, none⟩) hg d), fun i h1 h2 => ?_⟩
    by_cases hi : i = g
    · subst hi
      rcases ho with h | h
      · exact .inr ⟨h, hfin⟩
      · exact .inl (hfin.trans h.symm)
    · exact .inl (by rw [Below.heap_setCell _ _ _ _ hi, Below.heap_setCell _ _ _ _ hi])
  · rw [hd]
    rw [← hv] at hn
    exact hn u
end
end Go.Rel
end
