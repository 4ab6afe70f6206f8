/- read: a step's name and index, as the program reads them. -/
import Derived.Test.YtkjgcippcbfmgaaLabA
namespace Go.Rel
open Go.RowKit
theorem dropLast_len {l : Bs} {c : UInt8} (h : l.getLast? = some c) : l.length = l.dropLast.length + 1 := by
  rw [List.length_dropLast]
  cases l with
  | nil => simp at h
  | cons a t => simp
theorem isD_int {c : UInt8} : isD c = true ↔ (48 ≤ (c.toNat : Int) ∧ (c.toNat : Int) ≤ 57) := by
  unfold isD; rw [decide_eq_true_eq]; omega
end Go.Rel
namespace Go.Proofs.Ytkjgcippcbfmgaa
open Go.RowKit Go.Rel

set_option maxHeartbeats 2000000 in
theorem read_any (s : ByteArray) (w : World) (hs : s.size ≤ maxLen) :
    Calls Try.prog 38 #[.string s] w (Ret w (.tuple #[.agg #[.string (str (readR s.data.toList).1), .int .i64 (readR s.data.toList).2], .bool (stepOk s.data.toList)])) := by
  have hlen : s.data.toList.length = s.size := by simp
  have r1 := fun W => cut_one s 91 W hs
  have r2 := fun W => name_any (str (bef 91 s.data.toList)) W (by
    rw [str_size]
    refine Nat.le_trans ?_ (hlen ▸ hs : s.data.toList.length ≤ maxLen)
    unfold bef
    exact (List.takeWhile_sublist _).length_le)
  rw [str_list] at r2
  have haft : (aft 91 s.data.toList).length ≤ s.size := by
    rw [← hlen]
    unfold aft
    exact ((List.drop_sublist _ _).trans (List.dropWhile_sublist _)).length_le
  have hbx := Blk.new w 63 #[.string (str []), .int .i64 0]
  have hb := below_alloc w (.cells #[.string ⟨#[]⟩, .int .i64 0] 63)
  have r3 := fun W => Try.strings_CutSuffix (str (aft 91 s.data.toList)) (str [93]) W (by rw [str_size]; unfold maxLen at hs; omega)
  rw [str_list, str_list, suffix_one] at r3
  rw [stepOk_eq]
  have hR : readR s.data.toList = if nameOk (bef 91 s.data.toList) = false ∨ 91 ∉ s.data.toList then (bef 91 s.data.toList, (-1 : Int)) else if (aft 91 s.data.toList).getLast? = some 93 ∧ digOk (aft 91 s.data.toList).dropLast = true then (bef 91 s.data.toList, ((numOf (aft 91 s.data.toList).dropLast 0 : Nat) : Int)) else ([], 0) := rfl
  rw [hR]
  have hl93 := trim_one (aft 91 s.data.toList) 93
  have hdl := fun h => dropLast_len (l := aft 91 s.data.toList) (c := 93) h
  generalize bef 91 s.data.toList = B at *
  generalize aft 91 s.data.toList = A at *
  have R1 := Lib.hid r1
  have R2 := Lib.hid r2
  have R3 := Lib.hid r3
  clear r1 r2 r3 hR
  by_cases h1 : 91 ∈ s.data.toList
  case neg =>
    rw [decide_eq_false h1] at R1
    rw [if_pos (.inr h1), decide_eq_true h1]
    simp only [Bool.true_or, Bool.and_true]
    cases hN : nameOk B
    all_goals
      rw [hN] at R2
      go_enter Try.func38, Try.ntmps38
      go_wp2_with fail
      refine (R1.out _).mono ?_
      rintro e W ⟨rfl, hx⟩
      replace hbx := hbx.keep hx
      replace hb := hb.trans (hx.mono hb.size)
      clear hx
      go_wp2_with fail
      refine (R2.out _).mono ?_
      rintro e W ⟨rfl, hx⟩
      replace hbx := hbx.keep hx
      replace hb := hb.trans (hx.mono hb.size)
      clear hx
      go_wp2_with fail
      refine (R2.out _).mono ?_
      rintro e W ⟨rfl, hx⟩
      replace hbx := hbx.keep hx
      replace hb := hb.trans (hx.mono hb.size)
      clear hx
      have c0 := hbx.cell (i := 0) rfl
      have c1 := hbx.cell (i := 1) rfl
      have cf := hbx.frozen
      have clt := hbx.lt
      go_wp2_with fail
      exact bodyPost_ret (v := .tuple #[.agg #[.string (str B), .int .i64 (-1)], .bool _]) (by simp [results, Try.results38, go_sem, c0, c1]) rfl ⟨rfl, (hb.setCell (p := ⟨w.heap.size, 0, none⟩) (Nat.le_refl _) _).setCell (p := ⟨w.heap.size, 1, none⟩) (Nat.le_refl _) _⟩
  rw [decide_eq_true h1] at R1
  have h1' : ¬ (91 ∉ s.data.toList) := by simpa using h1
  rw [decide_eq_false h1', Bool.false_or]
  cases hN : nameOk B
  · rw [hN] at R2
    rw [if_pos (.inl rfl), Bool.false_and]
    go_enter Try.func38, Try.ntmps38
    go_wp2_with fail
    refine (R1.out _).mono ?_
    rintro e W ⟨rfl, hx⟩
    replace hbx := hbx.keep hx
    replace hb := hb.trans (hx.mono hb.size)
    clear hx
    go_wp2_with fail
    refine (R2.out _).mono ?_
    rintro e W ⟨rfl, hx⟩
    replace hbx := hbx.keep hx
    replace hb := hb.trans (hx.mono hb.size)
    clear hx
    have c0 := hbx.cell (i := 0) rfl
    have c1 := hbx.cell (i := 1) rfl
    have cf := hbx.frozen
    have clt := hbx.lt
    go_wp2_with fail
    exact bodyPost_ret (v := .tuple #[.agg #[.string (str B), .int .i64 (-1)], .bool false]) (by simp [results, Try.results38, go_sem, c0, c1]) rfl ⟨rfl, (hb.setCell (p := ⟨w.heap.size, 0, none⟩) (Nat.le_refl _) _).setCell (p := ⟨w.heap.size, 1, none⟩) (Nat.le_refl _) _⟩
  rw [hN] at R2
  rw [if_neg (by simp [h1]), Bool.true_and]
  by_cases h93 : A.getLast? = some 93
  case neg =>
    rw [decide_eq_false h93] at R3
    rw [decide_eq_false h93, if_neg (fun h => h93 h.1), Bool.false_and]
    go_enter Try.func38, Try.ntmps38
    go_wp2_with fail
    refine (R1.out _).mono ?_
    rintro e W ⟨rfl, hx⟩
    replace hbx := hbx.keep hx
    replace hb := hb.trans (hx.mono hb.size)
    clear hx
    go_wp2_with fail
    refine (R2.out _).mono ?_
    rintro e W ⟨rfl, hx⟩
    replace hbx := hbx.keep hx
    replace hb := hb.trans (hx.mono hb.size)
    clear hx
    go_wp2_with fail
    refine (R3.out _).mono ?_
    rintro e W ⟨rfl, rfl⟩
    have c0 := hbx.cell (i := 0) rfl
    have c1 := hbx.cell (i := 1) rfl
    have cf := hbx.frozen
    have clt := hbx.lt
    go_wp2_with fail
    exact bodyPost_ret (v := .tuple #[.agg #[.string ⟨#[]⟩, .int .i64 0], .bool false]) (by simp [results, Try.results38, go_sem, c0, c1]) rfl ⟨rfl, (hb.setCell (p := ⟨w.heap.size, 0, none⟩) (Nat.le_refl _) _).setCell (p := ⟨w.heap.size, 1, none⟩) (Nat.le_refl _) _⟩
  rw [decide_eq_true h93, hl93 h93] at R3
  have hm := hdl h93
  rw [decide_eq_true h93, Bool.true_and]
  generalize A.dropLast = D at *
  obtain ⟨T, hT⟩ : ∃ T, str D = T := ⟨_, rfl⟩
  have hT' : (⟨D.toArray⟩ : ByteArray) = T := hT
  rw [hT'] at R3
  have hTD : T.data.toList = D := by rw [← hT]; rfl
  have hTs : T.size = D.length := by rw [← hT]; rfl
  have hbig : T.size ≤ 9223372036854775807 := by unfold maxLen at hs; omega
  have hcase : (T.size = 0 ∧ digOk D = false) ∨ (4 < T.size ∧ digOk D = false) ∨ (1 ≤ T.size ∧ T.size ≤ 4 ∧ ∃ h : 0 < T.size, ((((T[0]'h).toNat : Int) == 48) = true ∧ 1 < T.size ∧ digOk D = false) ∨ (((((T[0]'h).toNat : Int) == 48) = false ∨ (((((T[0]'h).toNat : Int) == 48) = true) ∧ T.size = 1)) ∧ digOk D = D.all isD)) := by
    rw [← hTD] at *
    have hlT : T.data.toList.length = T.size := by simp
    by_cases z1 : T.size = 0
    · exact .inl ⟨z1, by unfold digOk; rw [hlT, z1]; rfl⟩
    by_cases z2 : 4 < T.size
    · refine .inr (.inl ⟨z2, ?_⟩)
      unfold digOk
      rw [hlT, decide_eq_false (by omega)]; rfl
    refine .inr (.inr ⟨by omega, by omega, by omega, ?_⟩)
    have hh : T.data.toList.head? = some (T[0]'(by omega)) := by
      rw [List.head?_eq_getElem?, List.getElem?_eq_getElem (by rw [hlT]; omega)]; rfl
    have hq : ∀ c : UInt8, (c = 48) ↔ (c.toNat : Int) = 48 := fun c => by
      rw [← UInt8.toNat_inj]; simp; omega
    by_cases z3 : T[0]'(by omega) = 48
    · have z4 := (hq _).1 z3
      by_cases z5 : T.size = 1
      · refine .inr ⟨.inr ⟨by simpa using z4, z5⟩, ?_⟩
        unfold digOk; rw [hlT, z5]; simp
      · refine .inl ⟨by simpa using z4, by omega, ?_⟩
        unfold digOk; rw [hlT, hh, z3, decide_eq_false z5]; simp
    · have z4 : ¬ (((T[0]'(by omega)).toNat : Int) = 48) := fun h => z3 ((hq _).2 h)
      refine .inr ⟨.inl (by simpa using z4), ?_⟩
      unfold digOk; rw [hlT, hh, decide_eq_true (show 1 ≤ T.size ∧ T.size ≤ 4 by omega)]; simp [z3]
  have HC := Lib.hid hcase
  simp only [h93, true_and]
  clear hcase hT hT' hdl hl93 hm haft h93 hTs
  rcases HC.out with ⟨z1, z2⟩ | ⟨z1, z2⟩ | ⟨z0, z1, hz, ⟨z3, z4, z2⟩ | ⟨z3, z2⟩⟩
  case inl =>
    rw [z2, if_neg (by simp)]
    have z3 : ((T.size : Int) == 0) = true := by rw [beq_iff_eq]; omega
    clear HC z1
    go_enter Try.func38, Try.ntmps38
    go_wp2_with fail
    refine (R1.out _).mono ?_
    rintro e W ⟨rfl, hx⟩
    replace hbx := hbx.keep hx
    replace hb := hb.trans (hx.mono hb.size)
    clear hx
    go_wp2_with fail
    refine (R2.out _).mono ?_
    rintro e W ⟨rfl, hx⟩
    replace hbx := hbx.keep hx
    replace hb := hb.trans (hx.mono hb.size)
    clear hx
    go_wp2_with fail
    refine (R3.out _).mono ?_
    rintro e W ⟨rfl, rfl⟩
    have c0 := hbx.cell (i := 0) rfl
    have c1 := hbx.cell (i := 1) rfl
    have cf := hbx.frozen
    have clt := hbx.lt
    go_wp2_with fail
    exact bodyPost_ret (v := .tuple #[.agg #[.string ⟨#[]⟩, .int .i64 0], .bool false]) (by simp [results, Try.results38, go_sem, c0, c1]) rfl ⟨rfl, (hb.setCell (p := ⟨w.heap.size, 0, none⟩) (Nat.le_refl _) _).setCell (p := ⟨w.heap.size, 1, none⟩) (Nat.le_refl _) _⟩
  case inr.inl =>
    rw [z2, if_neg (by simp)]
    have z3 : ((T.size : Int) == 0) = false := by rw [beq_eq_false_iff_ne]; omega
    have q2 : decide ((4 : Int) < T.size) = true := by rw [decide_eq_true_eq]; omega
    clear HC z1
    go_enter Try.func38, Try.ntmps38
    go_wp2_with fail
    refine (R1.out _).mono ?_
    rintro e W ⟨rfl, hx⟩
    replace hbx := hbx.keep hx
    replace hb := hb.trans (hx.mono hb.size)
    clear hx
    go_wp2_with fail
    refine (R2.out _).mono ?_
    rintro e W ⟨rfl, hx⟩
    replace hbx := hbx.keep hx
    replace hb := hb.trans (hx.mono hb.size)
    clear hx
    go_wp2_with fail
    refine (R3.out _).mono ?_
    rintro e W ⟨rfl, rfl⟩
    have c0 := hbx.cell (i := 0) rfl
    have c1 := hbx.cell (i := 1) rfl
    have cf := hbx.frozen
    have clt := hbx.lt
    go_wp2_with fail
    exact bodyPost_ret (v := .tuple #[.agg #[.string ⟨#[]⟩, .int .i64 0], .bool false]) (by simp [results, Try.results38, go_sem, c0, c1]) rfl ⟨rfl, (hb.setCell (p := ⟨w.heap.size, 0, none⟩) (Nat.le_refl _) _).setCell (p := ⟨w.heap.size, 1, none⟩) (Nat.le_refl _) _⟩
  case inr.inr.inl =>
    rw [z2, if_neg (by simp)]
    have z5 : ((T.size : Int) == 0) = false := by rw [beq_eq_false_iff_ne]; omega
    have q2 : decide ((4 : Int) < T.size) = false := by rw [decide_eq_false_iff_not]; omega
    have q3 : decide ((1 : Int) < T.size) = true := by rw [decide_eq_true_eq]; omega
    clear HC z0 z1 z4
    go_enter Try.func38, Try.ntmps38
    go_wp2_with fail
    refine (R1.out _).mono ?_
    rintro e W ⟨rfl, hx⟩
    replace hbx := hbx.keep hx
    replace hb := hb.trans (hx.mono hb.size)
    clear hx
    go_wp2_with fail
    refine (R2.out _).mono ?_
    rintro e W ⟨rfl, hx⟩
    replace hbx := hbx.keep hx
    replace hb := hb.trans (hx.mono hb.size)
    clear hx
    go_wp2_with fail
    refine (R3.out _).mono ?_
    rintro e W ⟨rfl, rfl⟩
    have c0 := hbx.cell (i := 0) rfl
    have c1 := hbx.cell (i := 1) rfl
    have cf := hbx.frozen
    have clt := hbx.lt
    go_wp2_with fail
    exact bodyPost_ret (v := .tuple #[.agg #[.string ⟨#[]⟩, .int .i64 0], .bool false]) (by simp [results, Try.results38, go_sem, c0, c1]) rfl ⟨rfl, (hb.setCell (p := ⟨w.heap.size, 0, none⟩) (Nat.le_refl _) _).setCell (p := ⟨w.heap.size, 1, none⟩) (Nat.le_refl _) _⟩
  case inr.inr.inr =>
    rw [z2]
    obtain ⟨V, hV⟩ : ∃ V, Value.tuple #[Value.agg #[Value.string (str (if D.all isD = true then (B, ((numOf D 0 : Nat) : Int)) else ([], 0)).1), Value.int .i64 (if D.all isD = true then (B, ((numOf D 0 : Nat) : Int)) else ([], 0)).2], Value.bool (D.all isD)] = V := ⟨_, rfl⟩
    rw [hV]
    have HV := Lib.hid hV
    have HTD := Lib.hid hTD
    have HZ := Lib.hid z3
    clear hV hTD z2 z3
    have q2 : decide ((4 : Int) < T.size) = false := by rw [decide_eq_false_iff_not]; omega
    have z5 : ((T.size : Int) == 0) = false := by rw [beq_eq_false_iff_ne]; omega
    clear HC z0
    go_enter Try.func38, Try.ntmps38
    go_wp2_with fail
    refine (R1.out _).mono ?_
    rintro e W ⟨rfl, hx⟩
    replace hbx := hbx.keep hx
    replace hb := hb.trans (hx.mono hb.size)
    clear hx
    go_wp2_with fail
    refine (R2.out _).mono ?_
    rintro e W ⟨rfl, hx⟩
    replace hbx := hbx.keep hx
    replace hb := hb.trans (hx.mono hb.size)
    clear hx
    go_wp2_with fail
    refine (R3.out _).mono ?_
    rintro e W ⟨rfl, rfl⟩
    have c0 := hbx.cell (i := 0) rfl
    have c1 := hbx.cell (i := 1) rfl
    have cf := hbx.frozen
    have clt := hbx.lt
    have hzz : ((((T[0]'hz).toNat : Int) == 48) = false) ∨ ((((T[0]'hz).toNat : Int) == 48) = true ∧ decide ((1 : Int) < T.size) = false) := by
      rcases HZ.out with z3 | ⟨z3, z6⟩
      · exact .inl z3
      · exact .inr ⟨z3, by rw [decide_eq_false_iff_not]; omega⟩
    clear HZ
    rcases hzz with z3 | ⟨z3, q3⟩
    all_goals
      have hbi : ∀ p, Blk (W.iter T p) w.heap.size _ _ := fun p => hbx.alloc (.stringIter T p)
      have hbb : ∀ p, Below w.heap.size w (W.iter T p) := fun p => hb.alloc hb.size _
      go_wp2_with fail
      clear c0 c1 cf clt hbx hb q2 z3 z5
      (try clear q3)
      have hlT : T.data.toList.length = T.size := by simp
      have HL := Lib.hid hlT
      clear hlT
      go_loopw [9] (fun nv wr => ∃ (N pos : Nat), pos ≤ T.size ∧ nv = .int .i64 N ∧ wr = W.iter T pos ∧ Hid (N = numOf (T.data.toList.take pos) 0 ∧ (T.data.toList.take pos).all isD = true)) (fun _ wr => T.size - wr.iterPos W.heap.size)
      case atStart => exact ⟨0, 0, Nat.zero_le _, rfl, rfl, rfl, rfl⟩
      case round =>
        obtain ⟨N, k, hk, rfl, rfl, HP⟩ := hrel
        have hN0 : N < 10000 := by
          obtain ⟨h1, h2⟩ := HP.out
          have := numOf_lt h2 0
          have h3 : (T.data.toList.take k).length ≤ 4 := by rw [List.length_take]; omega
          have h4 : 10 ^ (T.data.toList.take k).length ≤ 10 ^ 4 := Nat.pow_le_pow_right (by omega) h3
          omega
        by_cases hlt : k < T.size
        · have hpos0 : (W.iter T k).iterPos W.heap.size = k := World.iterPos_iter W T k
          have hpos1 : (W.iter T (k + 1)).iterPos W.heap.size = k + 1 := World.iterPos_iter W T (k + 1)
          have hget : T.data.toList[k]'(by rw [HL.out]; exact hlt) = T[k] := rfl
          by_cases hd : isD T[k] = true
          · have hdd := isD_int.1 hd
            have hnx := fun ty => run_next_ascii (P := Try.prog) W T k ty hlt (by omega)
            have HN := Lib.hid (show 10 * N + (T[k].toNat - 48) = numOf (T.data.toList.take (k + 1)) 0 ∧ (T.data.toList.take (k + 1)).all isD = true from by
              obtain ⟨h1, h2⟩ := HP.out
              rw [numOf_take (by rw [HL.out]; exact hlt), hget, ← h1]
              refine ⟨rfl, ?_⟩
              rw [List.take_succ_eq_append_getElem (by rw [HL.out]; exact hlt), List.all_append, h2, hget]
              simp [hd])
            obtain ⟨d1, d2⟩ := hdd
            clear HP hget hd
            go_wp2_with fail
            go_roundw
            case rel => exact ⟨_, k + 1, by omega, by rw [show (10 * (N : Int) + ((T[k].toNat : Int) - 48)) = ((10 * N + (T[k].toNat - 48) : Nat) : Int) by omega], rfl, HN⟩
            case measure => rw [hpos0, hpos1]; omega
          · have hno : D.all isD = false := by
              rw [← HTD.out]
              cases hall : T.data.toList.all isD
              · rfl
              · rw [List.all_eq_true] at hall
                exact absurd (hall _ (List.getElem_mem _)) (hget ▸ hd)
            have HN := Lib.hid hno
            have hnd : (T[k].toNat : Int) < 48 ∨ 57 < (T[k].toNat : Int) := by
              have := mt isD_int.2 hd; omega
            clear HP hno
            by_cases ha : (T[k]'hlt).toNat < 128
            · have hnx := fun ty => run_next_ascii (P := Try.prog) W T k ty hlt ha
              clear hd hget
              rcases hnd with hnd | hnd
              all_goals
                have c0 := (hbi (k + 1)).cell (i := 0) rfl
                have c1 := (hbi (k + 1)).cell (i := 1) rfl
                have cf := (hbi (k + 1)).frozen
                have clt := (hbi (k + 1)).lt
                go_wp2_with fail
                exact bodyPost_ret (v := .tuple #[.agg #[.string ⟨#[]⟩, .int .i64 0], .bool false]) (by simp [results, Try.results38, go_sem, c0, c1]) rfl ⟨by rw [← HV.out, HN.out]; rfl, ((hbb (k + 1)).setCell (p := ⟨w.heap.size, 0, none⟩) (Nat.le_refl _) _).setCell (p := ⟨w.heap.size, 1, none⟩) (Nat.le_refl _) _⟩
            · have hdh := decode_high T k hlt (by omega)
              have hle := decode_le T k
              have hnx := fun ty => run_next_any (P := Try.prog) W T k ty hlt
              obtain ⟨⟨R, DD⟩, hRD⟩ : ∃ x, Utf8.decode T k = x := ⟨_, rfl⟩
              rw [hRD] at hdh hle hnx
              simp only at hdh hle hnx
              obtain ⟨hd1, hd2⟩ := hdh
              clear hd hget hnd hRD
              have c0 := (hbi (k + DD)).cell (i := 0) rfl
              have c1 := (hbi (k + DD)).cell (i := 1) rfl
              have cf := (hbi (k + DD)).frozen
              have clt := (hbi (k + DD)).lt
              go_wp2_with fail
              exact bodyPost_ret (v := .tuple #[.agg #[.string ⟨#[]⟩, .int .i64 0], .bool false]) (by simp [results, Try.results38, go_sem, c0, c1]) rfl ⟨by rw [← HV.out, HN.out]; rfl, ((hbb (k + DD)).setCell (p := ⟨w.heap.size, 0, none⟩) (Nat.le_refl _) _).setCell (p := ⟨w.heap.size, 1, none⟩) (Nat.le_refl _) _⟩
        · obtain rfl : k = T.size := by omega
          have hnx := fun ty => run_next_end (P := Try.prog) W T T.size ty hlt
          have hyes : D.all isD = true ∧ N = numOf D 0 := by
            obtain ⟨h1, h2⟩ := HP.out
            rw [List.take_of_length_le (by rw [HL.out]; exact Nat.le_refl _), HTD.out] at h1 h2
            exact ⟨h2, h1⟩
          have HY := Lib.hid hyes
          clear HP hyes
          have c0 := (hbi T.size).cell (i := 0) rfl
          have c1 := (hbi T.size).cell (i := 1) rfl
          have cf := (hbi T.size).frozen
          have clt := (hbi T.size).lt
          go_wp2_with fail
          exact bodyPost_ret (v := .tuple #[.agg #[.string (str B), .int .i64 N], .bool true]) (by simp [results, Try.results38, go_sem, c0, c1]) rfl ⟨by rw [← HV.out, HY.out.1, ← HY.out.2]; rfl, ((hbb T.size).setCell (p := ⟨w.heap.size, 0, none⟩) (Nat.le_refl _) _).setCell (p := ⟨w.heap.size, 1, none⟩) (Nat.le_refl _) _⟩
end Go.Proofs.Ytkjgcippcbfmgaa
