/- The reference's Parse. -/
import Derived.Laws.Strings3
import Derived.Test.YtjgampkpfjbmdaaDoorRatN
namespace Go.Proofs.YtjgampkpfjbmdaaDoor
open Go.RowKit Go.Rel
theorem set20 {w : World} {g : Nat} {t : TypeId} {x y : Value} (h : Blk w g t #[x, y]) (a : Value) : Blk (w.setCell ⟨g, 0, none⟩ a) g t #[a, y] := by simpa using h.set_ 0 a
theorem set21 {w : World} {g : Nat} {t : TypeId} {x y : Value} (h : Blk w g t #[x, y]) (a : Value) : Blk (w.setCell ⟨g, 1, none⟩ a) g t #[x, a] := by simpa using h.set_ 1 a
set_option maxHeartbeats 8000000 in
theorem refParse_any (s : ByteArray) (w : World) (hs : s.size ≤ 100000) :
    Calls Tryd.prog 88 #[.string s] w (Ret w (.tuple #[(parseR s.data.toList).v, .int .i64 (parseE s.data.toList)])) := by
  have hlen : s.data.toList.length = s.size := by simp
  have hbl := bef_le 47 s.data.toList
  have hbt := bef_lt (c := 47) (l := s.data.toList)
  have hat := fun k hk h => bef_at (c := 47) (l := s.data.toList) (k := k) hk h
  have hend := fun h => bef_end (c := 47) (l := s.data.toList) h
  have hstr := bef_str 47 s
  have had := fun h => aft_drop (c := 47) (l := s.data.toList) h
  have hno : 47 ∉ s.data.toList → bef 47 s.data.toList = s.data.toList := fun h => (bef_none h).1
  have r1 := fun W => number_any (str (bef 47 s.data.toList)) W (by rw [str_size]; omega)
  rw [str_list] at r1
  have hal : (aft 47 s.data.toList).length ≤ s.size := by
    rw [← hlen]; exact ((List.drop_sublist _ _).trans (List.dropWhile_sublist _)).length_le
  have r2 := fun W => number_any (str (aft 47 s.data.toList)) W (by rw [str_size]; omega)
  rw [str_list] at r2
  have P1 := Lib.hid (parse_no1 (s := s.data.toList))
  have P2 := Lib.hid (parse_no2 (s := s.data.toList))
  have P3 := Lib.hid (fun n => parse_one (s := s.data.toList) (n := n))
  have P4 := Lib.hid (fun n d => parse_two (s := s.data.toList) (n := n) (d := d))
  have PY := Lib.hid (fun r => parse_yes (s := s.data.toList) (r := r))
  have PN := Lib.hid (parse_nil (s := s.data.toList))
  obtain ⟨n, hn⟩ : ∃ n, (bef 47 s.data.toList).length = n := ⟨_, rfl⟩
  rw [hn] at hbl hbt hat hend hstr had
  rw [hlen] at hbl hbt
  have hat' : ∀ k (h : k < s.size), k < n → (((s[k]'h).toNat : Int) != 47) = true := fun k h hk => by
    have h1 := hat k hk (by rw [hlen]; exact h)
    have h2 : s.data.toList[k]'(by rw [hlen]; exact h) = s[k] := rfl
    rw [h2, ne_eq, u8_eq] at h1
    simpa using h1
  have hend' : ∀ h : n < s.size, (((s[n]'h).toNat : Int) != 47) = false := fun h => by
    have h1 := hend (hbt.2 h)
    rw [List.getElem?_eq_getElem (by rw [hlen]; exact h)] at h1
    have h2 : s.data.toList[n]'(by rw [hlen]; exact h) = s[n] := rfl
    rw [h2, Option.some.injEq, u8_eq] at h1
    simpa using h1
  have hsl : ∀ W, (Instr.slice 9 (.string s) none (some (.int .i64 n)) none).run Tryd.prog W = .ok (.string (str (bef 47 s.data.toList))) W := fun W => by
    rw [run_slice_string_to_if (P := Tryd.prog) (w := W) _ _ _ _ Tryd.underlying9, if_pos ⟨by omega, by omega⟩]
    rw [← hstr]
    rfl
  have hsl2 : n < s.size → ∀ W, (Instr.slice 9 (.string s) (some (.int .i64 ((n : Int) + 1))) none none).run Tryd.prog W = .ok (.string (str (aft 47 s.data.toList))) W := fun h W => by
    rw [run_slice_string_from_if (P := Tryd.prog) (w := W) _ _ _ _ Tryd.underlying9, if_pos ⟨by omega, by omega⟩, had (hbt.2 h), Lib.extract_eq, show ((n : Int) + 1).toNat = n + 1 by omega, List.take_of_length_le (by rw [List.length_drop, hlen]; omega)]
    rfl
  have R1 := Lib.hid r1
  have R2 := Lib.hid r2
  have HA := Lib.hid (show _ ∧ _ from ⟨hat', hend'⟩)
  have HB := Lib.hid hbt
  have S1 := Lib.hid hsl
  have S2 := Lib.hid hsl2
  clear r1 r2 hat' hend' hbt hstr hlen hn hat hend had hno hal hsl hsl2
  have q := Blk.new w 23 #[.int .i64 0, .int .i64 0]
  have hb := below_alloc w (.cells #[.int .i64 0, .int .i64 0] 23)
  generalize parseR s.data.toList = PR at *
  generalize parseE s.data.toList = PE at *
  obtain ⟨p1, p2⟩ := PR
  generalize str (bef 47 s.data.toList) = TB at *
  generalize str (aft 47 s.data.toList) = TA at *
  go_enter Tryd.func88, Tryd.ntmps88
  go_wp2_with fail
  generalize World.alloc w _ = w0 at q hb ⊢
  go_loop [4] (fun i => ∃ k : Nat, k ≤ n ∧ i = .int .i64 k) (fun i => n - (intOf i).toNat)
  case atStart => exact ⟨0, Nat.zero_le _, rfl⟩
  case round =>
    obtain ⟨k, hk, rfl⟩ := hrel
    by_cases hlt : k < n
    · have hks : k < s.size := by omega
      have h1 := HA.out.1 k hks hlt
      go_wp2_with fail
      go_round
      case rel => exact ⟨k + 1, by omega, by go_num⟩
      case measure => simp [intOf]; omega
    · obtain rfl : k = n := by omega
      have k5 := Blk.new w0 23 #[.int .i64 0, .int .i64 1]
      have hq5 : ¬ w.heap.size = w0.heap.size := by have := q.lt; omega
      have hqb : w.heap.size ≤ w0.heap.size := Nat.le_of_lt q.lt
      have hx := below_alloc w0 (.cells #[.int .i64 0, .int .i64 1] 23)
      replace q := q.keep hx
      replace hb := hb.trans (hx.mono hb.size)
      clear hx
      have s1 := S1.out
      by_cases hks : k < s.size
      · have h1 := HA.out.2 hks
        have hm : 47 ∈ s.data.toList := HB.out.2 hks
        have s2 := S2.out hks
        have P2' := Lib.hid (P2.out hm)
        have P4' := Lib.hid (fun n d => P4.out n d hm)
        have h1' := h1
        clear hm P3
        go_wp2_with fail
        generalize World.alloc w0 _ = w1 at q hb k5 ⊢
        generalize w0.heap.size = g5 at k5 hq5 hqb ⊢
        refine (R1.out _).mono ?_
        rintro e W ⟨v, rfl, hx, v1, v2, v3⟩
        replace q := q.keep hx
        replace k5 := k5.keep hx
        replace hb := hb.trans (hx.mono hb.size)
        clear hx
        obtain ⟨B, hB⟩ : ∃ B, numB (bef 47 s.data.toList) = B := ⟨_, rfl⟩
        rw [hB]
        rw [hB] at v3
        have P1' := P1.out
        rw [hB] at P1'
        have V := Lib.hid (show _ ∧ _ from ⟨P1', v3⟩)
        clear hB P1' v3
        have c0 := q.cell (i := 0) rfl
        have c1 := q.cell (i := 1) rfl
        have cf := q.frozen
        have clt := q.lt
        have d0 := k5.cell (i := 0) rfl
        have d1 := k5.cell (i := 1) rfl
        have df := k5.frozen
        have dlt := k5.lt
        have k6 := set20 k5 (.int .i64 v)
        have q6 := q.far (p := ⟨g5, 0, none⟩) hq5 (.int .i64 v)
        have hb6 := hb.setCell (p := ⟨g5, 0, none⟩) hqb (.int .i64 v)
        cases B
        case false =>
          have hv : p1 = 0 ∧ p2 = 0 ∧ PE = 12 := by
            have h := PN.out (V.out.1 rfl)
            simp only [Rat2.mk.injEq] at h
            exact ⟨h.1.1, h.1.2, h.2⟩
          have q7 := q6.set2 (.int .i64 0) (.int .i64 0)
          have hb7 := below_set2 hb6 (Nat.le_refl _) (.int .i64 0) (.int .i64 0)
          go_wp2_with fail
          clear c0 c1 cf clt d0 d1 df dlt
          generalize World.setCell (World.setCell _ _ _) _ _ = w7 at q7 hb7 ⊢
          have z0 := q7.cell (i := 0) rfl
          have z1 := q7.cell (i := 1) rfl
          exact bodyPost_ret (v := .tuple #[.agg #[.int .i64 0, .int .i64 0], .int .i64 12]) (by simp [results, Tryd.results88, go_sem, z0, z1]) rfl ⟨by rw [hv.1, hv.2.1, hv.2.2], hb7⟩
        have EV := Lib.hid (V.out.2 rfl)
        go_wp2_with fail
        clear k5 q hb c0 c1 cf clt d0 d1 df dlt
        have k5 := k6
        have q := q6
        have hb := hb6
        clear k6 q6 hb6
        generalize World.setCell W _ _ = W2 at k5 q hb ⊢
        rename_i v_1
        obtain ⟨n1, hn1⟩ : ∃ n1, v = n1 := ⟨_, rfl⟩
        rw [hn1] at k5 v1 v2 EV ⊢
        clear V
        have EV1 := EV
        clear EV
        refine (R2.out _).mono ?_
        rintro e W ⟨v, rfl, hx, v1, v2, v3⟩
        replace q := q.keep hx
        replace k5 := k5.keep hx
        replace hb := hb.trans (hx.mono hb.size)
        clear hx
        obtain ⟨B, hB⟩ : ∃ B, numB (aft 47 s.data.toList) = B := ⟨_, rfl⟩
        rw [hB]
        rw [hB] at v3
        have P1' := P2'.out
        rw [hB] at P1'
        have V := Lib.hid (show _ ∧ _ from ⟨P1', v3⟩)
        clear hB P1' v3
        have c0 := q.cell (i := 0) rfl
        have c1 := q.cell (i := 1) rfl
        have cf := q.frozen
        have clt := q.lt
        have d0 := k5.cell (i := 0) rfl
        have d1 := k5.cell (i := 1) rfl
        have df := k5.frozen
        have dlt := k5.lt
        have k6 := set21 k5 (.int .i64 v)
        have q6 := q.far (p := ⟨g5, 1, none⟩) hq5 (.int .i64 v)
        have hb6 := hb.setCell (p := ⟨g5, 1, none⟩) hqb (.int .i64 v)
        cases B
        case false =>
          have hv : p1 = 0 ∧ p2 = 0 ∧ PE = 12 := by
            have h := PN.out (V.out.1 rfl)
            simp only [Rat2.mk.injEq] at h
            exact ⟨h.1.1, h.1.2, h.2⟩
          have q7 := q6.set2 (.int .i64 0) (.int .i64 0)
          have hb7 := below_set2 hb6 (Nat.le_refl _) (.int .i64 0) (.int .i64 0)
          go_wp2_with fail
          clear c0 c1 cf clt d0 d1 df dlt
          generalize World.setCell (World.setCell _ _ _) _ _ = w7 at q7 hb7 ⊢
          have z0 := q7.cell (i := 0) rfl
          have z1 := q7.cell (i := 1) rfl
          exact bodyPost_ret (v := .tuple #[.agg #[.int .i64 0, .int .i64 0], .int .i64 12]) (by simp [results, Tryd.results88, go_sem, z0, z1]) rfl ⟨by rw [hv.1, hv.2.1, hv.2.2], hb7⟩
        have EV := Lib.hid (V.out.2 rfl)
        by_cases hd1 : v = 1
        · subst hd1
          have hv : p1 = 0 ∧ p2 = 0 ∧ PE = 12 := by
            have h := PN.out ((P4'.out n1 1 EV1.out EV.out).1 rfl)
            simp only [Rat2.mk.injEq] at h
            exact ⟨h.1.1, h.1.2, h.2⟩
          have q7 := q6.set2 (.int .i64 0) (.int .i64 0)
          have hb7 := below_set2 hb6 (Nat.le_refl _) (.int .i64 0) (.int .i64 0)
          go_wp2_with fail
          clear c0 c1 cf clt d0 d1 df dlt
          generalize World.setCell (World.setCell _ _ _) _ _ = w7 at q7 hb7 ⊢
          have z0 := q7.cell (i := 0) rfl
          have z1 := q7.cell (i := 1) rfl
          exact bodyPost_ret (v := .tuple #[.agg #[.int .i64 0, .int .i64 0], .int .i64 12]) (by simp [results, Tryd.results88, go_sem, z0, z1]) rfl ⟨by rw [hv.1, hv.2.1, hv.2.2], hb7⟩
        · have hdd : (v == 1) = false := by simpa using hd1
          go_wp2_with fail
          clear k5 q hb c0 c1 cf clt d0 d1 df dlt
          have k5 := k6
          have q := q6
          have hb := hb6
          clear k6 q6 hb6
          generalize World.setCell W _ _ = W4 at k5 q hb ⊢
          rcases check_split ⟨n1, v⟩ with ⟨hok, he⟩ | ⟨hok, he⟩
          case inr =>
            have HE := Lib.hid ((P4'.out n1 v EV1.out EV.out).2.2 hok)
            refine (refRatCheck_any ⟨n1, v⟩ _ (by simp only; omega) (by simp only; omega) (by simp only; omega) (by simp only; omega)).mono ?_
            rw [he]
            rintro e W3 ⟨rfl, hx⟩
            replace q := q.keep hx
            replace k5 := k5.keep hx
            replace hb := hb.trans (hx.mono hb.size)
            clear hx he hok
            have c0 := q.cell (i := 0) rfl
            have c1 := q.cell (i := 1) rfl
            have cf := q.frozen
            have clt := q.lt
            have d0 := k5.cell (i := 0) rfl
            have d1 := k5.cell (i := 1) rfl
            have df := k5.frozen
            have dlt := k5.lt
            have hv : p1 = 0 ∧ p2 = 0 ∧ PE = 12 := by
              have h := PN.out HE.out
              simp only [Rat2.mk.injEq] at h
              exact ⟨h.1.1, h.1.2, h.2⟩
            have q7 := q.set2 (.int .i64 0) (.int .i64 0)
            have hb7 := below_set2 hb (Nat.le_refl _) (.int .i64 0) (.int .i64 0)
            go_wp2_with fail
            clear c0 c1 cf clt d0 d1 df dlt
            generalize World.setCell (World.setCell _ _ _) _ _ = w7 at q7 hb7 ⊢
            have z0 := q7.cell (i := 0) rfl
            have z1 := q7.cell (i := 1) rfl
            exact bodyPost_ret (v := .tuple #[.agg #[.int .i64 0, .int .i64 0], .int .i64 12]) (by simp [results, Tryd.results88, go_sem, z0, z1]) rfl ⟨by rw [hv.1, hv.2.1, hv.2.2], hb7⟩
          have HE := Lib.hid ((P4'.out n1 v EV1.out EV.out).2.1 hd1 hok)
          refine (refRatCheck_any ⟨n1, v⟩ _ (by simp only; omega) (by simp only; omega) (by simp only; omega) (by simp only; omega)).mono ?_
          rw [he]
          rintro e W3 ⟨rfl, hx⟩
          replace q := q.keep hx
          replace k5 := k5.keep hx
          replace hb := hb.trans (hx.mono hb.size)
          clear hx he hok
          have c0 := q.cell (i := 0) rfl
          have c1 := q.cell (i := 1) rfl
          have cf := q.frozen
          have clt := q.lt
          have d0 := k5.cell (i := 0) rfl
          have d1 := k5.cell (i := 1) rfl
          have df := k5.frozen
          have dlt := k5.lt
          have hv : p1 = n1 ∧ p2 = v ∧ PE = 0 := by
            have h := PY.out _ HE.out
            simp only [Rat2.mk.injEq] at h
            exact ⟨h.1.1, h.1.2, h.2⟩
          have q7 := q.set2 (.int .i64 n1) (.int .i64 v)
          have hb7 := below_set2 hb (Nat.le_refl _) (.int .i64 n1) (.int .i64 v)
          go_wp2_with fail
          clear c0 c1 cf clt d0 d1 df dlt
          generalize World.setCell (World.setCell _ _ _) _ _ = w7 at q7 hb7 ⊢
          have z0 := q7.cell (i := 0) rfl
          have z1 := q7.cell (i := 1) rfl
          exact bodyPost_ret (v := .tuple #[.agg #[.int .i64 n1, .int .i64 v], .int .i64 0]) (by simp [results, Tryd.results88, go_sem, z0, z1]) rfl ⟨by rw [hv.1, hv.2.1, hv.2.2], hb7⟩
      · have hm : 47 ∉ s.data.toList := fun h => hks (HB.out.1 h)
        obtain rfl : k = s.size := by omega
        have P3' := Lib.hid (fun n => P3.out n hm)
        clear hm P4 P2
        go_wp2_with fail
        generalize World.alloc w0 _ = w1 at q hb k5 ⊢
        generalize w0.heap.size = g5 at k5 hq5 hqb ⊢
        refine (R1.out _).mono ?_
        rintro e W ⟨v, rfl, hx, v1, v2, v3⟩
        replace q := q.keep hx
        replace k5 := k5.keep hx
        replace hb := hb.trans (hx.mono hb.size)
        clear hx
        obtain ⟨B, hB⟩ : ∃ B, numB (bef 47 s.data.toList) = B := ⟨_, rfl⟩
        rw [hB]
        rw [hB] at v3
        have P1' := P1.out
        rw [hB] at P1'
        have V := Lib.hid (show _ ∧ _ from ⟨P1', v3⟩)
        clear hB P1' v3
        have c0 := q.cell (i := 0) rfl
        have c1 := q.cell (i := 1) rfl
        have cf := q.frozen
        have clt := q.lt
        have d0 := k5.cell (i := 0) rfl
        have d1 := k5.cell (i := 1) rfl
        have df := k5.frozen
        have dlt := k5.lt
        have k6 := set20 k5 (.int .i64 v)
        have q6 := q.far (p := ⟨g5, 0, none⟩) hq5 (.int .i64 v)
        have hb6 := hb.setCell (p := ⟨g5, 0, none⟩) hqb (.int .i64 v)
        cases B
        case false =>
          have hv : p1 = 0 ∧ p2 = 0 ∧ PE = 12 := by
            have h := PN.out (V.out.1 rfl)
            simp only [Rat2.mk.injEq] at h
            exact ⟨h.1.1, h.1.2, h.2⟩
          have q7 := q6.set2 (.int .i64 0) (.int .i64 0)
          have hb7 := below_set2 hb6 (Nat.le_refl _) (.int .i64 0) (.int .i64 0)
          go_wp2_with fail
          clear c0 c1 cf clt d0 d1 df dlt
          generalize World.setCell (World.setCell _ _ _) _ _ = w7 at q7 hb7 ⊢
          have z0 := q7.cell (i := 0) rfl
          have z1 := q7.cell (i := 1) rfl
          exact bodyPost_ret (v := .tuple #[.agg #[.int .i64 0, .int .i64 0], .int .i64 12]) (by simp [results, Tryd.results88, go_sem, z0, z1]) rfl ⟨by rw [hv.1, hv.2.1, hv.2.2], hb7⟩
        have EV := Lib.hid (V.out.2 rfl)
        go_wp2_with fail
        clear k5 q hb c0 c1 cf clt d0 d1 df dlt
        have k5 := k6
        have q := q6
        have hb := hb6
        clear k6 q6 hb6
        generalize World.setCell W _ _ = W2 at k5 q hb ⊢
        rcases check_split ⟨v, 1⟩ with ⟨hok, he⟩ | ⟨hok, he⟩
        case inr =>
          have HE := Lib.hid ((P3'.out v EV.out).2 hok)
          refine (refRatCheck_any ⟨v, 1⟩ _ (by simp only; omega) (by simp only; omega) (by simp only; omega) (by simp only; omega)).mono ?_
          rw [he]
          rintro e W3 ⟨rfl, hx⟩
          replace q := q.keep hx
          replace k5 := k5.keep hx
          replace hb := hb.trans (hx.mono hb.size)
          clear hx he hok
          have c0 := q.cell (i := 0) rfl
          have c1 := q.cell (i := 1) rfl
          have cf := q.frozen
          have clt := q.lt
          have d0 := k5.cell (i := 0) rfl
          have d1 := k5.cell (i := 1) rfl
          have df := k5.frozen
          have dlt := k5.lt
          have hv : p1 = 0 ∧ p2 = 0 ∧ PE = 12 := by
            have h := PN.out HE.out
            simp only [Rat2.mk.injEq] at h
            exact ⟨h.1.1, h.1.2, h.2⟩
          have q7 := q.set2 (.int .i64 0) (.int .i64 0)
          have hb7 := below_set2 hb (Nat.le_refl _) (.int .i64 0) (.int .i64 0)
          go_wp2_with fail
          clear c0 c1 cf clt d0 d1 df dlt
          generalize World.setCell (World.setCell _ _ _) _ _ = w7 at q7 hb7 ⊢
          have z0 := q7.cell (i := 0) rfl
          have z1 := q7.cell (i := 1) rfl
          exact bodyPost_ret (v := .tuple #[.agg #[.int .i64 0, .int .i64 0], .int .i64 12]) (by simp [results, Tryd.results88, go_sem, z0, z1]) rfl ⟨by rw [hv.1, hv.2.1, hv.2.2], hb7⟩
        have HE := Lib.hid ((P3'.out v EV.out).1 hok)
        refine (refRatCheck_any ⟨v, 1⟩ _ (by simp only; omega) (by simp only; omega) (by simp only; omega) (by simp only; omega)).mono ?_
        rw [he]
        rintro e W3 ⟨rfl, hx⟩
        replace q := q.keep hx
        replace k5 := k5.keep hx
        replace hb := hb.trans (hx.mono hb.size)
        clear hx he hok
        have c0 := q.cell (i := 0) rfl
        have c1 := q.cell (i := 1) rfl
        have cf := q.frozen
        have clt := q.lt
        have d0 := k5.cell (i := 0) rfl
        have d1 := k5.cell (i := 1) rfl
        have df := k5.frozen
        have dlt := k5.lt
        have hv : p1 = v ∧ p2 = 1 ∧ PE = 0 := by
          have h := PY.out _ HE.out
          simp only [Rat2.mk.injEq] at h
          exact ⟨h.1.1, h.1.2, h.2⟩
        have q7 := q.set2 (.int .i64 v) (.int .i64 1)
        have hb7 := below_set2 hb (Nat.le_refl _) (.int .i64 v) (.int .i64 1)
        go_wp2_with fail
        clear c0 c1 cf clt d0 d1 df dlt
        generalize World.setCell (World.setCell _ _ _) _ _ = w7 at q7 hb7 ⊢
        have z0 := q7.cell (i := 0) rfl
        have z1 := q7.cell (i := 1) rfl
        exact bodyPost_ret (v := .tuple #[.agg #[.int .i64 v, .int .i64 1], .int .i64 0]) (by simp [results, Tryd.results88, go_sem, z0, z1]) rfl ⟨by rw [hv.1, hv.2.1, hv.2.2], hb7⟩
end Go.Proofs.YtjgampkpfjbmdaaDoor
