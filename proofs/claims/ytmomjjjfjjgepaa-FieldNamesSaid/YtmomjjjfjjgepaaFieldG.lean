/- axis and Trace of the program, for every field, point, head and number. -/
import Derived.Test.YtmomjjjfjjgepaaFieldF
namespace Go.Proofs.Ytmomjjjfjjgepaa
open Go.RowKit Go.Rel

theorem axis_any (A : Option Addr) (n cap : Nat) (l : List Pull) (p : Pt) (w : World) (hn : l.length = n) (hv : Recs Pull.cells 5 w w.heap.size A l) (hf : Fine l) (hp : inB p.x p.y = true) :
    Calls Try.prog 29 #[.slice A n cap, p.v] w (Ret w (.int .u8 (axisP (valueP l p)))) := by
  have x1 := below_alloc w (.cells #[.int .i64 p.x, .int .i64 p.y] 24)
  have hx := Lib.hid x1
  have HN := Lib.hid hn
  have HP := Lib.hid hp
  clear hn hp x1
  obtain ⟨v, hv'⟩ : ∃ v, valueP l p = v := ⟨_, rfl⟩
  rw [hv']
  have HV := Lib.hid hv'
  clear hv'
  have hcase : (0 < v ∧ axisP v = 0) ∨ (v = 0 ∧ axisP v = 2) ∨ (v < 0 ∧ axisP v = 1) := by
    unfold axisP
    rcases Int.lt_trichotomy v 0 with h | h | h
    · exact .inr (.inr ⟨h, by rw [if_neg (by omega), if_pos h]⟩)
    · exact .inr (.inl ⟨h, by rw [h]; rfl⟩)
    · exact .inl ⟨h, if_pos h⟩
  have HC := Lib.hid hcase
  clear hcase
  go_enter Try.func29, Try.ntmps29
  go_wp2_with fail
  have x1 := hx.out
  generalize World.alloc _ _ = w0 at x1 ⊢
  refine (sum_any A n cap l p _ HN.out ((hv.below x1).more x1.size) hf HP.out).mono ?_
  rintro e w1 ⟨rfl, hb1⟩
  replace x1 := x1.trans (hb1.mono x1.size)
  rw [HV.out]
  have hc := HC.out
  clear HV HC hb1
  rcases hc with ⟨h, h2⟩ | ⟨h, h2⟩ | ⟨h, h2⟩
  · have H2 := Lib.hid h2
    clear h2
    go_wp2_with fail
    go_ret
    exact ret_int H2.out.symm x1
  · have H2 := Lib.hid h2
    subst h
    clear h2
    go_wp2_with fail
    go_ret
    exact ret_int H2.out.symm x1
  · have H2 := Lib.hid h2
    have h' : ¬ 0 < v := by omega
    clear h2
    go_wp2_with fail
    go_ret
    exact ret_int H2.out.symm x1

set_option maxRecDepth 100000 in
set_option maxHeartbeats 16000000 in
theorem trace_ok (A : Option Addr) (n cap : Nat) (l : List Pull) (p : Pt) (h s : Int) (w : World) (hn : l.length = n) (hv : Recs Pull.cells 5 w w.heap.size A l) (h64 : ∀ u ∈ l, u.In64) (hf : Fine l) (ha : TraceArg p h s) (h0 : 0 ≤ h) :
    Calls Try.prog 10 #[.slice A n cap, p.v, .int .u8 h, .int .i64 s] w (RetM w (TraceRet l p h s)) := by
  obtain ⟨a1, a2, a3, a4⟩ := ha
  have HA := Lib.hid (show TraceArg p h s from ⟨a1, a2, a3, a4⟩)
  have HE := Lib.hid (fieldE_ok hf)
  have HF := Lib.hid hf
  have HN := Lib.hid hn
  obtain ⟨S, rfl⟩ := Int.eq_ofNat_of_zero_le a3
  obtain ⟨px1, px2, px3, px4⟩ := inB_iff.1 a1
  have HP := Lib.hid a1
  have hl : n ≤ 60 := by have := hf.1; omega
  have hS : S ≤ 500 := by omega
  have x1 := below_alloc w (.cells #[.int .i64 p.x, .int .i64 p.y] 24)
  have x3 := Blk.new w 24 #[.int .i64 p.x, .int .i64 p.y]
  have hx := Lib.hid (show _ ∧ _ from ⟨x1, x3⟩)
  have hin := inside_any p
  obtain ⟨i0, hi, hz0, hz1, hz2⟩ := info_parts Try.infoPt
  have HI := Lib.hid (show _ ∧ _ ∧ _ ∧ _ from ⟨hi, hz0, hz1, hz2⟩)
  clear hn a1 x1 x3 hf hi hz0 hz1 hz2
  go_enter Try.func10, Try.ntmps10
  go_wp2_with fail
  obtain ⟨x1, x3⟩ := hx.out
  generalize World.alloc _ _ = w0 at x1 x3 ⊢
  refine (check_any A n cap l _ HN.out (by omega) ((hv.below x1).more x1.size) h64).mono ?_
  rintro e w1 ⟨rfl, hb1⟩
  rw [HE.out]
  replace x1 := x1.trans (hb1.mono x1.size)
  replace x3 := x3.keep hb1
  have y0 := x3.cell (i := 0) rfl
  have y1 := x3.cell (i := 1) rfl
  clear hb1 hx
  go_wp2_with fail
  refine (hin _ (inB_64 HP.out)).mono ?_
  rintro e w2 ⟨rfl, hb1⟩
  simp only [HP.out]
  replace x1 := x1.trans (hb1.mono x1.size)
  replace x3 := x3.keep hb1
  clear y0 y1 hb1 hin
  have y0 := x3.cell (i := 0) rfl
  have y1 := x3.cell (i := 1) rfl
  have hsz := x3.lt
  go_wp2_with fail
  obtain ⟨wb, hwb⟩ : ∃ wb, w2.heap.size = wb := ⟨_, rfl⟩
  have hwb0 : w.heap.size < wb := by omega
  have o1 : ((w2.alloc (.cells #[.int .i64 1, .int .i64 0, .int .i64 0, .int .i64 1, .int .i64 (-1), .int .i64 0, .int .i64 0, .int .i64 (-1)] 59)).alloc (.cells #[.int .i64 p.x, .int .i64 p.y] 24)).ownsRow (wb + 1) 24 2 (.slice (some ⟨wb + 1, 0, none⟩) 1 1) 1 ((ptsP l p h 0).flatMap Pt.cells) := by
    have := World.ownsRow_lit (base := wb + 1) (e := 24) (size := 2) (w2.alloc (.cells #[.int .i64 1, .int .i64 0, .int .i64 0, .int .i64 1, .int .i64 (-1), .int .i64 0, .int .i64 0, .int .i64 (-1)] 59)) #[.int .i64 p.x, .int .i64 p.y] 1 (by simp; omega) (by unfold maxLen; omega) rfl
    rw [World.size_alloc, hwb] at this
    exact this
  have wy : Blk ((w2.alloc (.cells #[.int .i64 1, .int .i64 0, .int .i64 0, .int .i64 1, .int .i64 (-1), .int .i64 0, .int .i64 0, .int .i64 (-1)] 59)).alloc (.cells #[.int .i64 p.x, .int .i64 p.y] 24)) wb 59 #[.int .i64 1, .int .i64 0, .int .i64 0, .int .i64 1, .int .i64 (-1), .int .i64 0, .int .i64 0, .int .i64 (-1)] := by
    rw [← hwb]; exact (Blk.new w2 _ _).alloc _
  replace x3 := (x3.alloc (.cells #[.int .i64 1, .int .i64 0, .int .i64 0, .int .i64 1, .int .i64 (-1), .int .i64 0, .int .i64 0, .int .i64 (-1)] 59)).alloc (.cells #[.int .i64 p.x, .int .i64 p.y] 24)
  replace x1 := x1.trans ((((Below.refl w2.heap.size w2).alloc (Nat.le_refl _) (.cells #[.int .i64 1, .int .i64 0, .int .i64 0, .int .i64 1, .int .i64 (-1), .int .i64 0, .int .i64 0, .int .i64 (-1)] 59)).alloc (by simp) (.cells #[.int .i64 p.x, .int .i64 p.y] 24)).mono x1.size)
  rw [hwb]
  have HX := Lib.hid (show _ ∧ _ ∧ _ ∧ _ from ⟨o1, x3, x1, wy⟩)
  clear o1 x3 x1 y0 y1 hsz wy hwb
  generalize (World.alloc (World.alloc w2 _) _) = w3 at HX ⊢
  have ht0 : traceIn l p h 0 = true := by simp [traceIn, ptsP_zero, ptIn, HP.out]
  have HT0 := Lib.hid ht0
  clear ht0
  go_loopw [2, 12, 42] (fun d v i wr => ∃ k : Nat, k ≤ S ∧ i = .int .i64 k ∧ d = .int .u8 (walkP l p h k).2 ∧ wr.ownsRow (wb + 1) 24 2 v (k + 1) ((ptsP l p h k).flatMap Pt.cells) ∧ traceIn l p h k = true ∧
    Blk wr w.heap.size 24 #[.int .i64 (walkP l p h k).1.x, .int .i64 (walkP l p h k).1.y] ∧ Below w.heap.size w wr ∧ Blk wr wb 59 #[.int .i64 1, .int .i64 0, .int .i64 0, .int .i64 1, .int .i64 (-1), .int .i64 0, .int .i64 0, .int .i64 (-1)]) (fun _ _ i _ => S - (intOf i).toNat)
  case atStart => exact ⟨0, Nat.zero_le _, rfl, rfl, HX.out.1, HT0.out, HX.out.2.1, HX.out.2.2⟩
  case round =>
    obtain ⟨k, hk, rfl, rfl, hown, ht, hblk, hb, hwy⟩ := hrel
    clear HX HT0
    have HT := Lib.hid ht
    obtain ⟨d1, d2⟩ := walkP_head l p h0 a2 k
    by_cases hlt : k < S
    · have hq := traceIn_last ht
      have hwalk : walkP l p h (k + 1) = (stepP (walkP l p h k).1 (headP (axisP (valueP l (walkP l p h k).1)) (walkP l p h k).2), headP (axisP (valueP l (walkP l p h k).1)) (walkP l p h k).2) := rfl
      have hpts := ptsP_succ l p h k
      have htr := traceIn_succ l p h k
      obtain ⟨q, hqd⟩ : ∃ q, (walkP l p h k).1 = q := ⟨_, rfl⟩
      obtain ⟨d, hdd⟩ : ∃ d, (walkP l p h k).2 = d := ⟨_, rfl⟩
      rw [hqd, hdd] at hwalk
      rw [hqd] at hq hblk
      rw [hdd] at d1 d2 ⊢
      have hax := fun w hv => axis_any A n cap l q w HN.out hv HF.out hq
      obtain ⟨a1', a2'⟩ := axisP_bound (valueP l q)
      obtain ⟨a, hav⟩ : ∃ a, axisP (valueP l q) = a := ⟨_, rfl⟩
      rw [hav] at hwalk hax a1' a2'
      have hcase : (a = 0 ∨ a = 1 ∨ a = 2) ∧ (d = 0 ∨ d = 1 ∨ d = 2 ∨ d = 3) := by omega
      obtain ⟨hqx1, hqx2, hqy1, hqy2⟩ := inB_iff.1 hq
      obtain ⟨d', hd'⟩ : ∃ d', headP a d = d' := ⟨_, rfl⟩
      rw [hd'] at hwalk
      have h64' := stepP_64 hq d'
      obtain ⟨q', hq'⟩ : ∃ q', stepP q d' = q' := ⟨_, rfl⟩
      rw [hq'] at hwalk h64'
      rw [hwalk] at hpts htr
      simp only at hpts htr
      have hin := fun w => inside_any q' w h64'
      have HW := Lib.hid hwalk
      have HPT := Lib.hid hpts
      have HTR := Lib.hid htr
      have HD := Lib.hid hd'
      have HQ := Lib.hid hq'
      have z0 := hblk.cell (i := 0) rfl
      have z1 := hblk.cell (i := 1) rfl
      have hsz := hblk.lt
      clear ht hwalk hpts htr hqd hdd hd' hq' hq HP a2 h64 h64' hav a1' a2' d1 d2
      obtain ⟨ha, hd⟩ := hcase
      rcases ha with rfl | rfl | rfl <;> rcases hd with rfl | rfl | rfl | rfl
      · obtain rfl : d' = 0 := by rw [← HD.out]; decide
        have hqx : q'.x = q.x + 1 := by rw [← HQ.out]; rfl
        have hqy : q'.y = q.y := by rw [← HQ.out]; rfl
        have HQX := Lib.hid hqx
        have HQY := Lib.hid hqy
        clear hqx hqy
        go_wp2_with fail
        refine (hax _ ((hv.below hb).more hb.size)).mono ?_
        rintro e w3 ⟨rfl, hb1⟩
        replace hb := hb.trans (hb1.mono hb.size)
        replace hblk := hblk.keep hb1
        replace hwy := hwy.keep hb1
        replace hown := ownsRow_below hown hb1
        clear z0 z1 hb1 hax hsz
        go_wp2_with fail
        have c0 : ∀ W, Below w3.heap.size w3 W → W.cell? ⟨w.heap.size, 0, none⟩ = some (.int .i64 q.x) := fun W hW => (hblk.keep hW).cell rfl
        have c1 : ∀ W, Below w3.heap.size w3 W → W.cell? ⟨w.heap.size, 1, none⟩ = some (.int .i64 q.y) := fun W hW => (hblk.keep hW).cell rfl
        have v0 : ∀ W, Below w3.heap.size w3 W → W.cell? ⟨wb, 0, none⟩ = some (.int .i64 (1)) := fun W hW => (hwy.keep hW).cell rfl
        have v1 : ∀ W, Below w3.heap.size w3 W → W.cell? ⟨wb, 1, none⟩ = some (.int .i64 (0)) := fun W hW => (hwy.keep hW).cell rfl
        have e1 : IntKind.i64.wrap (q.x + (1)) = q'.x := by rw [HQX.out, IntKind.wrap_i64]; omega
        have e2 : IntKind.i64.wrap (q.y + (0)) = q'.y := by rw [HQY.out, IntKind.wrap_i64]; omega
        have e3 : IntKind.i64.wrap (q.x + 1) = q'.x := by rw [HQX.out, IntKind.wrap_i64]; omega
        have e4 : IntKind.i64.wrap (q.y) = q'.y := by rw [HQY.out, IntKind.wrap_i64]; omega
        apply wp_region_head 15 82 (hm := by kernel_rfl) (hN := rfl)
        case h =>
          simp only [List.take_succ_cons, List.take_zero]
          iterate 15 (apply head_still rfl; (intro W hW; go_simp; (try rfl)))
          refine head_nil ?_
          intro W hW hFF
          replace hb := hb.trans (hW.mono hb.size)
          replace hblk := hblk.keep hW
          replace hwy := hwy.keep hW
          replace hown := ownsRow_below hown hW
          clear c0 c1 v0 v1 e1 e2 e3 e4 hW hFF
          have n1 := Lib.hid (hblk.setPt (.int .i64 q'.x) (.int .i64 q'.y))
          have n2 := Lib.hid (below_setPt hb (Nat.le_refl _) (.int .i64 q'.x) (.int .i64 q'.y))
          have n3 := Lib.hid (ownsRow_setCell_below (ownsRow_setCell_below hown (a := ⟨w.heap.size, 0, none⟩) (by simp only; omega) (.int .i64 q'.x)) (a := ⟨w.heap.size, 1, none⟩) (by simp only; omega) (.int .i64 q'.y))
          have n4 := Lib.hid ((hwy.far (p := ⟨w.heap.size, 0, none⟩) (by simp only; omega) (.int .i64 q'.x)).far (p := ⟨w.heap.size, 1, none⟩) (by simp only; omega) (.int .i64 q'.y))
          have z0 := hblk.cell (i := 0) rfl
          have z1 := hblk.cell (i := 1) rfl
          have zf := hblk.frozen
          have zl := hblk.lt
          go_wp2_with fail
          clear z0 z1 zf zl
          replace hblk := n1.out
          replace hb := n2.out
          replace hown := n3.out
          replace hwy := n4.out
          clear n1 n2 n3 n4
          generalize World.setCell _ _ _ = w5 at hblk hb hown hwy ⊢
          refine (hin _).mono ?_
          rintro e w6 ⟨rfl, hb1⟩
          replace hb := hb.trans (hb1.mono hb.size)
          replace hblk := hblk.keep hb1
          replace hwy := hwy.keep hb1
          replace hown := ownsRow_below hown hb1
          clear hb1 hin
          have z0 := hblk.cell (i := 0) rfl
          have z1 := hblk.cell (i := 1) rfl
          have zl := hblk.lt
          cases hi : inB q'.x q'.y with
          | false =>
            have HO := Lib.hid (traceE_out HE.out HA.out (traceIn_no (l := l) (p := p) (h := h) (k := k + 1) (by rw [HW.out]; exact hi) (by simp; omega)))
            clear hi
            go_wp2_with fail
            go_ret2
            exact trace_none HO.out.1 HO.out.2 hb
          | true =>
            have HTI := Lib.hid (show traceIn l p h (k + 1) = true by rw [HTR.out, HT.out]; simpa [ptIn] using hi)
            clear hi
            obtain ⟨hi, hz0, hz1, hz2⟩ := HI.out
            have hb5 := hb.size
            have hwl := hwy.lt
            go_wp2_with (at_builtin; refine wpList_append_own _ rfl _ _ 25 rfl (wb + 1) 24 i0 (.agg #[.int .i64 0, .int .i64 0]) 2 16 Try.underlying25 hi hz0 hz1 hz2 rfl (by decide) _ _ _ rfl (hown.alloc _) ⟨w6.heap.size, 0, none⟩ 1 1 (Pt.cells q') rfl rfl ?c1 ?c2 ?c3 ?c4 ?c5 ?_)
            case c1 => exact cells_new_pt w6 q' _
            case c2 => exact cells_one_pt q'
            case c3 => unfold maxLen; omega
            case c4 => omega
            case c5 => simp; omega
            intro v' w7 hown3 hgrow _
            rw [← flat_one, ← HPT.out] at hown3
            have hb6 := (hb.trans ((below_alloc w6 _).mono hb.size)).grown hgrow (by simp; omega) (fun r hr => by have := (hown.lt r hr).1; omega)
            have hblk7 := (hblk.alloc (.cells #[.int .i64 q'.x, .int .i64 q'.y] 24)).grown hgrow (fun e => by have := (hown.lt _ e.symm).1; omega)
            have hwy7 := (hwy.alloc (.cells #[.int .i64 q'.x, .int .i64 q'.y] 24)).grown hgrow (fun e => by have := (hown.lt _ e.symm).1; omega)
            have HO := Lib.hid (show _ ∧ _ ∧ _ ∧ _ from ⟨hown3, hb6, hblk7, hwy7⟩)
            clear hown3 hgrow hown hb hb6 hblk hblk7 hwy hwy7 z0 z1 zl hi hz0 hz1 hz2
            go_wp2
            go_roundw
            case rel => exact ⟨k + 1, by omega, by go_num, by rw [HW.out], HO.out.1, HTI.out, by rw [HW.out]; exact HO.out.2.2.1, HO.out.2.1, HO.out.2.2.2⟩
            case measure => simp [intOf]; omega
        case hB => kernel_rfl
        all_goals rfl
      · obtain rfl : d' = 2 := by rw [← HD.out]; decide
        have hqx : q'.x = q.x - 1 := by rw [← HQ.out]; rfl
        have hqy : q'.y = q.y := by rw [← HQ.out]; rfl
        have HQX := Lib.hid hqx
        have HQY := Lib.hid hqy
        clear hqx hqy
        go_wp2_with fail
        refine (hax _ ((hv.below hb).more hb.size)).mono ?_
        rintro e w3 ⟨rfl, hb1⟩
        replace hb := hb.trans (hb1.mono hb.size)
        replace hblk := hblk.keep hb1
        replace hwy := hwy.keep hb1
        replace hown := ownsRow_below hown hb1
        clear z0 z1 hb1 hax hsz
        go_wp2_with fail
        have c0 : ∀ W, Below w3.heap.size w3 W → W.cell? ⟨w.heap.size, 0, none⟩ = some (.int .i64 q.x) := fun W hW => (hblk.keep hW).cell rfl
        have c1 : ∀ W, Below w3.heap.size w3 W → W.cell? ⟨w.heap.size, 1, none⟩ = some (.int .i64 q.y) := fun W hW => (hblk.keep hW).cell rfl
        have v0 : ∀ W, Below w3.heap.size w3 W → W.cell? ⟨wb, 4, none⟩ = some (.int .i64 (-1)) := fun W hW => (hwy.keep hW).cell rfl
        have v1 : ∀ W, Below w3.heap.size w3 W → W.cell? ⟨wb, 5, none⟩ = some (.int .i64 (0)) := fun W hW => (hwy.keep hW).cell rfl
        have e1 : IntKind.i64.wrap (q.x + (-1)) = q'.x := by rw [HQX.out, IntKind.wrap_i64]; omega
        have e2 : IntKind.i64.wrap (q.y + (0)) = q'.y := by rw [HQY.out, IntKind.wrap_i64]; omega
        have e3 : IntKind.i64.wrap (q.x - 1) = q'.x := by rw [HQX.out, IntKind.wrap_i64]; omega
        have e4 : IntKind.i64.wrap (q.y) = q'.y := by rw [HQY.out, IntKind.wrap_i64]; omega
        apply wp_region_head 15 82 (hm := by kernel_rfl) (hN := rfl)
        case h =>
          simp only [List.take_succ_cons, List.take_zero]
          iterate 15 (apply head_still rfl; (intro W hW; go_simp; (try rfl)))
          refine head_nil ?_
          intro W hW hFF
          replace hb := hb.trans (hW.mono hb.size)
          replace hblk := hblk.keep hW
          replace hwy := hwy.keep hW
          replace hown := ownsRow_below hown hW
          clear c0 c1 v0 v1 e1 e2 e3 e4 hW hFF
          have n1 := Lib.hid (hblk.setPt (.int .i64 q'.x) (.int .i64 q'.y))
          have n2 := Lib.hid (below_setPt hb (Nat.le_refl _) (.int .i64 q'.x) (.int .i64 q'.y))
          have n3 := Lib.hid (ownsRow_setCell_below (ownsRow_setCell_below hown (a := ⟨w.heap.size, 0, none⟩) (by simp only; omega) (.int .i64 q'.x)) (a := ⟨w.heap.size, 1, none⟩) (by simp only; omega) (.int .i64 q'.y))
          have n4 := Lib.hid ((hwy.far (p := ⟨w.heap.size, 0, none⟩) (by simp only; omega) (.int .i64 q'.x)).far (p := ⟨w.heap.size, 1, none⟩) (by simp only; omega) (.int .i64 q'.y))
          have z0 := hblk.cell (i := 0) rfl
          have z1 := hblk.cell (i := 1) rfl
          have zf := hblk.frozen
          have zl := hblk.lt
          go_wp2_with fail
          clear z0 z1 zf zl
          replace hblk := n1.out
          replace hb := n2.out
          replace hown := n3.out
          replace hwy := n4.out
          clear n1 n2 n3 n4
          generalize World.setCell _ _ _ = w5 at hblk hb hown hwy ⊢
          refine (hin _).mono ?_
          rintro e w6 ⟨rfl, hb1⟩
          replace hb := hb.trans (hb1.mono hb.size)
          replace hblk := hblk.keep hb1
          replace hwy := hwy.keep hb1
          replace hown := ownsRow_below hown hb1
          clear hb1 hin
          have z0 := hblk.cell (i := 0) rfl
          have z1 := hblk.cell (i := 1) rfl
          have zl := hblk.lt
          cases hi : inB q'.x q'.y with
          | false =>
            have HO := Lib.hid (traceE_out HE.out HA.out (traceIn_no (l := l) (p := p) (h := h) (k := k + 1) (by rw [HW.out]; exact hi) (by simp; omega)))
            clear hi
            go_wp2_with fail
            go_ret2
            exact trace_none HO.out.1 HO.out.2 hb
          | true =>
            have HTI := Lib.hid (show traceIn l p h (k + 1) = true by rw [HTR.out, HT.out]; simpa [ptIn] using hi)
            clear hi
            obtain ⟨hi, hz0, hz1, hz2⟩ := HI.out
            have hb5 := hb.size
            have hwl := hwy.lt
            go_wp2_with (at_builtin; refine wpList_append_own _ rfl _ _ 25 rfl (wb + 1) 24 i0 (.agg #[.int .i64 0, .int .i64 0]) 2 16 Try.underlying25 hi hz0 hz1 hz2 rfl (by decide) _ _ _ rfl (hown.alloc _) ⟨w6.heap.size, 0, none⟩ 1 1 (Pt.cells q') rfl rfl ?c1 ?c2 ?c3 ?c4 ?c5 ?_)
            case c1 => exact cells_new_pt w6 q' _
            case c2 => exact cells_one_pt q'
            case c3 => unfold maxLen; omega
            case c4 => omega
            case c5 => simp; omega
            intro v' w7 hown3 hgrow _
            rw [← flat_one, ← HPT.out] at hown3
            have hb6 := (hb.trans ((below_alloc w6 _).mono hb.size)).grown hgrow (by simp; omega) (fun r hr => by have := (hown.lt r hr).1; omega)
            have hblk7 := (hblk.alloc (.cells #[.int .i64 q'.x, .int .i64 q'.y] 24)).grown hgrow (fun e => by have := (hown.lt _ e.symm).1; omega)
            have hwy7 := (hwy.alloc (.cells #[.int .i64 q'.x, .int .i64 q'.y] 24)).grown hgrow (fun e => by have := (hown.lt _ e.symm).1; omega)
            have HO := Lib.hid (show _ ∧ _ ∧ _ ∧ _ from ⟨hown3, hb6, hblk7, hwy7⟩)
            clear hown3 hgrow hown hb hb6 hblk hblk7 hwy hwy7 z0 z1 zl hi hz0 hz1 hz2
            go_wp2
            go_roundw
            case rel => exact ⟨k + 1, by omega, by go_num, by rw [HW.out], HO.out.1, HTI.out, by rw [HW.out]; exact HO.out.2.2.1, HO.out.2.1, HO.out.2.2.2⟩
            case measure => simp [intOf]; omega
        case hB => kernel_rfl
        all_goals rfl
      · obtain rfl : d' = 2 := by rw [← HD.out]; decide
        have hqx : q'.x = q.x - 1 := by rw [← HQ.out]; rfl
        have hqy : q'.y = q.y := by rw [← HQ.out]; rfl
        have HQX := Lib.hid hqx
        have HQY := Lib.hid hqy
        clear hqx hqy
        go_wp2_with fail
        refine (hax _ ((hv.below hb).more hb.size)).mono ?_
        rintro e w3 ⟨rfl, hb1⟩
        replace hb := hb.trans (hb1.mono hb.size)
        replace hblk := hblk.keep hb1
        replace hwy := hwy.keep hb1
        replace hown := ownsRow_below hown hb1
        clear z0 z1 hb1 hax hsz
        go_wp2_with fail
        have c0 : ∀ W, Below w3.heap.size w3 W → W.cell? ⟨w.heap.size, 0, none⟩ = some (.int .i64 q.x) := fun W hW => (hblk.keep hW).cell rfl
        have c1 : ∀ W, Below w3.heap.size w3 W → W.cell? ⟨w.heap.size, 1, none⟩ = some (.int .i64 q.y) := fun W hW => (hblk.keep hW).cell rfl
        have v0 : ∀ W, Below w3.heap.size w3 W → W.cell? ⟨wb, 4, none⟩ = some (.int .i64 (-1)) := fun W hW => (hwy.keep hW).cell rfl
        have v1 : ∀ W, Below w3.heap.size w3 W → W.cell? ⟨wb, 5, none⟩ = some (.int .i64 (0)) := fun W hW => (hwy.keep hW).cell rfl
        have e1 : IntKind.i64.wrap (q.x + (-1)) = q'.x := by rw [HQX.out, IntKind.wrap_i64]; omega
        have e2 : IntKind.i64.wrap (q.y + (0)) = q'.y := by rw [HQY.out, IntKind.wrap_i64]; omega
        have e3 : IntKind.i64.wrap (q.x - 1) = q'.x := by rw [HQX.out, IntKind.wrap_i64]; omega
        have e4 : IntKind.i64.wrap (q.y) = q'.y := by rw [HQY.out, IntKind.wrap_i64]; omega
        apply wp_region_head 15 82 (hm := by kernel_rfl) (hN := rfl)
        case h =>
          simp only [List.take_succ_cons, List.take_zero]
          iterate 15 (apply head_still rfl; (intro W hW; go_simp; (try rfl)))
          refine head_nil ?_
          intro W hW hFF
          replace hb := hb.trans (hW.mono hb.size)
          replace hblk := hblk.keep hW
          replace hwy := hwy.keep hW
          replace hown := ownsRow_below hown hW
          clear c0 c1 v0 v1 e1 e2 e3 e4 hW hFF
          have n1 := Lib.hid (hblk.setPt (.int .i64 q'.x) (.int .i64 q'.y))
          have n2 := Lib.hid (below_setPt hb (Nat.le_refl _) (.int .i64 q'.x) (.int .i64 q'.y))
          have n3 := Lib.hid (ownsRow_setCell_below (ownsRow_setCell_below hown (a := ⟨w.heap.size, 0, none⟩) (by simp only; omega) (.int .i64 q'.x)) (a := ⟨w.heap.size, 1, none⟩) (by simp only; omega) (.int .i64 q'.y))
          have n4 := Lib.hid ((hwy.far (p := ⟨w.heap.size, 0, none⟩) (by simp only; omega) (.int .i64 q'.x)).far (p := ⟨w.heap.size, 1, none⟩) (by simp only; omega) (.int .i64 q'.y))
          have z0 := hblk.cell (i := 0) rfl
          have z1 := hblk.cell (i := 1) rfl
          have zf := hblk.frozen
          have zl := hblk.lt
          go_wp2_with fail
          clear z0 z1 zf zl
          replace hblk := n1.out
          replace hb := n2.out
          replace hown := n3.out
          replace hwy := n4.out
          clear n1 n2 n3 n4
          generalize World.setCell _ _ _ = w5 at hblk hb hown hwy ⊢
          refine (hin _).mono ?_
          rintro e w6 ⟨rfl, hb1⟩
          replace hb := hb.trans (hb1.mono hb.size)
          replace hblk := hblk.keep hb1
          replace hwy := hwy.keep hb1
          replace hown := ownsRow_below hown hb1
          clear hb1 hin
          have z0 := hblk.cell (i := 0) rfl
          have z1 := hblk.cell (i := 1) rfl
          have zl := hblk.lt
          cases hi : inB q'.x q'.y with
          | false =>
            have HO := Lib.hid (traceE_out HE.out HA.out (traceIn_no (l := l) (p := p) (h := h) (k := k + 1) (by rw [HW.out]; exact hi) (by simp; omega)))
            clear hi
            go_wp2_with fail
            go_ret2
            exact trace_none HO.out.1 HO.out.2 hb
          | true =>
            have HTI := Lib.hid (show traceIn l p h (k + 1) = true by rw [HTR.out, HT.out]; simpa [ptIn] using hi)
            clear hi
            obtain ⟨hi, hz0, hz1, hz2⟩ := HI.out
            have hb5 := hb.size
            have hwl := hwy.lt
            go_wp2_with (at_builtin; refine wpList_append_own _ rfl _ _ 25 rfl (wb + 1) 24 i0 (.agg #[.int .i64 0, .int .i64 0]) 2 16 Try.underlying25 hi hz0 hz1 hz2 rfl (by decide) _ _ _ rfl (hown.alloc _) ⟨w6.heap.size, 0, none⟩ 1 1 (Pt.cells q') rfl rfl ?c1 ?c2 ?c3 ?c4 ?c5 ?_)
            case c1 => exact cells_new_pt w6 q' _
            case c2 => exact cells_one_pt q'
            case c3 => unfold maxLen; omega
            case c4 => omega
            case c5 => simp; omega
            intro v' w7 hown3 hgrow _
            rw [← flat_one, ← HPT.out] at hown3
            have hb6 := (hb.trans ((below_alloc w6 _).mono hb.size)).grown hgrow (by simp; omega) (fun r hr => by have := (hown.lt r hr).1; omega)
            have hblk7 := (hblk.alloc (.cells #[.int .i64 q'.x, .int .i64 q'.y] 24)).grown hgrow (fun e => by have := (hown.lt _ e.symm).1; omega)
            have hwy7 := (hwy.alloc (.cells #[.int .i64 q'.x, .int .i64 q'.y] 24)).grown hgrow (fun e => by have := (hown.lt _ e.symm).1; omega)
            have HO := Lib.hid (show _ ∧ _ ∧ _ ∧ _ from ⟨hown3, hb6, hblk7, hwy7⟩)
            clear hown3 hgrow hown hb hb6 hblk hblk7 hwy hwy7 z0 z1 zl hi hz0 hz1 hz2
            go_wp2
            go_roundw
            case rel => exact ⟨k + 1, by omega, by go_num, by rw [HW.out], HO.out.1, HTI.out, by rw [HW.out]; exact HO.out.2.2.1, HO.out.2.1, HO.out.2.2.2⟩
            case measure => simp [intOf]; omega
        case hB => kernel_rfl
        all_goals rfl
      · obtain rfl : d' = 0 := by rw [← HD.out]; decide
        have hqx : q'.x = q.x + 1 := by rw [← HQ.out]; rfl
        have hqy : q'.y = q.y := by rw [← HQ.out]; rfl
        have HQX := Lib.hid hqx
        have HQY := Lib.hid hqy
        clear hqx hqy
        go_wp2_with fail
        refine (hax _ ((hv.below hb).more hb.size)).mono ?_
        rintro e w3 ⟨rfl, hb1⟩
        replace hb := hb.trans (hb1.mono hb.size)
        replace hblk := hblk.keep hb1
        replace hwy := hwy.keep hb1
        replace hown := ownsRow_below hown hb1
        clear z0 z1 hb1 hax hsz
        go_wp2_with fail
        have c0 : ∀ W, Below w3.heap.size w3 W → W.cell? ⟨w.heap.size, 0, none⟩ = some (.int .i64 q.x) := fun W hW => (hblk.keep hW).cell rfl
        have c1 : ∀ W, Below w3.heap.size w3 W → W.cell? ⟨w.heap.size, 1, none⟩ = some (.int .i64 q.y) := fun W hW => (hblk.keep hW).cell rfl
        have v0 : ∀ W, Below w3.heap.size w3 W → W.cell? ⟨wb, 0, none⟩ = some (.int .i64 (1)) := fun W hW => (hwy.keep hW).cell rfl
        have v1 : ∀ W, Below w3.heap.size w3 W → W.cell? ⟨wb, 1, none⟩ = some (.int .i64 (0)) := fun W hW => (hwy.keep hW).cell rfl
        have e1 : IntKind.i64.wrap (q.x + (1)) = q'.x := by rw [HQX.out, IntKind.wrap_i64]; omega
        have e2 : IntKind.i64.wrap (q.y + (0)) = q'.y := by rw [HQY.out, IntKind.wrap_i64]; omega
        have e3 : IntKind.i64.wrap (q.x + 1) = q'.x := by rw [HQX.out, IntKind.wrap_i64]; omega
        have e4 : IntKind.i64.wrap (q.y) = q'.y := by rw [HQY.out, IntKind.wrap_i64]; omega
        apply wp_region_head 15 82 (hm := by kernel_rfl) (hN := rfl)
        case h =>
          simp only [List.take_succ_cons, List.take_zero]
          iterate 15 (apply head_still rfl; (intro W hW; go_simp; (try rfl)))
          refine head_nil ?_
          intro W hW hFF
          replace hb := hb.trans (hW.mono hb.size)
          replace hblk := hblk.keep hW
          replace hwy := hwy.keep hW
          replace hown := ownsRow_below hown hW
          clear c0 c1 v0 v1 e1 e2 e3 e4 hW hFF
          have n1 := Lib.hid (hblk.setPt (.int .i64 q'.x) (.int .i64 q'.y))
          have n2 := Lib.hid (below_setPt hb (Nat.le_refl _) (.int .i64 q'.x) (.int .i64 q'.y))
          have n3 := Lib.hid (ownsRow_setCell_below (ownsRow_setCell_below hown (a := ⟨w.heap.size, 0, none⟩) (by simp only; omega) (.int .i64 q'.x)) (a := ⟨w.heap.size, 1, none⟩) (by simp only; omega) (.int .i64 q'.y))
          have n4 := Lib.hid ((hwy.far (p := ⟨w.heap.size, 0, none⟩) (by simp only; omega) (.int .i64 q'.x)).far (p := ⟨w.heap.size, 1, none⟩) (by simp only; omega) (.int .i64 q'.y))
          have z0 := hblk.cell (i := 0) rfl
          have z1 := hblk.cell (i := 1) rfl
          have zf := hblk.frozen
          have zl := hblk.lt
          go_wp2_with fail
          clear z0 z1 zf zl
          replace hblk := n1.out
          replace hb := n2.out
          replace hown := n3.out
          replace hwy := n4.out
          clear n1 n2 n3 n4
          generalize World.setCell _ _ _ = w5 at hblk hb hown hwy ⊢
          refine (hin _).mono ?_
          rintro e w6 ⟨rfl, hb1⟩
          replace hb := hb.trans (hb1.mono hb.size)
          replace hblk := hblk.keep hb1
          replace hwy := hwy.keep hb1
          replace hown := ownsRow_below hown hb1
          clear hb1 hin
          have z0 := hblk.cell (i := 0) rfl
          have z1 := hblk.cell (i := 1) rfl
          have zl := hblk.lt
          cases hi : inB q'.x q'.y with
          | false =>
            have HO := Lib.hid (traceE_out HE.out HA.out (traceIn_no (l := l) (p := p) (h := h) (k := k + 1) (by rw [HW.out]; exact hi) (by simp; omega)))
            clear hi
            go_wp2_with fail
            go_ret2
            exact trace_none HO.out.1 HO.out.2 hb
          | true =>
            have HTI := Lib.hid (show traceIn l p h (k + 1) = true by rw [HTR.out, HT.out]; simpa [ptIn] using hi)
            clear hi
            obtain ⟨hi, hz0, hz1, hz2⟩ := HI.out
            have hb5 := hb.size
            have hwl := hwy.lt
            go_wp2_with (at_builtin; refine wpList_append_own _ rfl _ _ 25 rfl (wb + 1) 24 i0 (.agg #[.int .i64 0, .int .i64 0]) 2 16 Try.underlying25 hi hz0 hz1 hz2 rfl (by decide) _ _ _ rfl (hown.alloc _) ⟨w6.heap.size, 0, none⟩ 1 1 (Pt.cells q') rfl rfl ?c1 ?c2 ?c3 ?c4 ?c5 ?_)
            case c1 => exact cells_new_pt w6 q' _
            case c2 => exact cells_one_pt q'
            case c3 => unfold maxLen; omega
            case c4 => omega
            case c5 => simp; omega
            intro v' w7 hown3 hgrow _
            rw [← flat_one, ← HPT.out] at hown3
            have hb6 := (hb.trans ((below_alloc w6 _).mono hb.size)).grown hgrow (by simp; omega) (fun r hr => by have := (hown.lt r hr).1; omega)
            have hblk7 := (hblk.alloc (.cells #[.int .i64 q'.x, .int .i64 q'.y] 24)).grown hgrow (fun e => by have := (hown.lt _ e.symm).1; omega)
            have hwy7 := (hwy.alloc (.cells #[.int .i64 q'.x, .int .i64 q'.y] 24)).grown hgrow (fun e => by have := (hown.lt _ e.symm).1; omega)
            have HO := Lib.hid (show _ ∧ _ ∧ _ ∧ _ from ⟨hown3, hb6, hblk7, hwy7⟩)
            clear hown3 hgrow hown hb hb6 hblk hblk7 hwy hwy7 z0 z1 zl hi hz0 hz1 hz2
            go_wp2
            go_roundw
            case rel => exact ⟨k + 1, by omega, by go_num, by rw [HW.out], HO.out.1, HTI.out, by rw [HW.out]; exact HO.out.2.2.1, HO.out.2.1, HO.out.2.2.2⟩
            case measure => simp [intOf]; omega
        case hB => kernel_rfl
        all_goals rfl
      · obtain rfl : d' = 1 := by rw [← HD.out]; decide
        have hqx : q'.x = q.x := by rw [← HQ.out]; rfl
        have hqy : q'.y = q.y + 1 := by rw [← HQ.out]; rfl
        have HQX := Lib.hid hqx
        have HQY := Lib.hid hqy
        clear hqx hqy
        go_wp2_with fail
        refine (hax _ ((hv.below hb).more hb.size)).mono ?_
        rintro e w3 ⟨rfl, hb1⟩
        replace hb := hb.trans (hb1.mono hb.size)
        replace hblk := hblk.keep hb1
        replace hwy := hwy.keep hb1
        replace hown := ownsRow_below hown hb1
        clear z0 z1 hb1 hax hsz
        go_wp2_with fail
        have c0 : ∀ W, Below w3.heap.size w3 W → W.cell? ⟨w.heap.size, 0, none⟩ = some (.int .i64 q.x) := fun W hW => (hblk.keep hW).cell rfl
        have c1 : ∀ W, Below w3.heap.size w3 W → W.cell? ⟨w.heap.size, 1, none⟩ = some (.int .i64 q.y) := fun W hW => (hblk.keep hW).cell rfl
        have v0 : ∀ W, Below w3.heap.size w3 W → W.cell? ⟨wb, 2, none⟩ = some (.int .i64 (0)) := fun W hW => (hwy.keep hW).cell rfl
        have v1 : ∀ W, Below w3.heap.size w3 W → W.cell? ⟨wb, 3, none⟩ = some (.int .i64 (1)) := fun W hW => (hwy.keep hW).cell rfl
        have e1 : IntKind.i64.wrap (q.x + (0)) = q'.x := by rw [HQX.out, IntKind.wrap_i64]; omega
        have e2 : IntKind.i64.wrap (q.y + (1)) = q'.y := by rw [HQY.out, IntKind.wrap_i64]; omega
        have e3 : IntKind.i64.wrap (q.x) = q'.x := by rw [HQX.out, IntKind.wrap_i64]; omega
        have e4 : IntKind.i64.wrap (q.y + 1) = q'.y := by rw [HQY.out, IntKind.wrap_i64]; omega
        apply wp_region_head 15 82 (hm := by kernel_rfl) (hN := rfl)
        case h =>
          simp only [List.take_succ_cons, List.take_zero]
          iterate 15 (apply head_still rfl; (intro W hW; go_simp; (try rfl)))
          refine head_nil ?_
          intro W hW hFF
          replace hb := hb.trans (hW.mono hb.size)
          replace hblk := hblk.keep hW
          replace hwy := hwy.keep hW
          replace hown := ownsRow_below hown hW
          clear c0 c1 v0 v1 e1 e2 e3 e4 hW hFF
          have n1 := Lib.hid (hblk.setPt (.int .i64 q'.x) (.int .i64 q'.y))
          have n2 := Lib.hid (below_setPt hb (Nat.le_refl _) (.int .i64 q'.x) (.int .i64 q'.y))
          have n3 := Lib.hid (ownsRow_setCell_below (ownsRow_setCell_below hown (a := ⟨w.heap.size, 0, none⟩) (by simp only; omega) (.int .i64 q'.x)) (a := ⟨w.heap.size, 1, none⟩) (by simp only; omega) (.int .i64 q'.y))
          have n4 := Lib.hid ((hwy.far (p := ⟨w.heap.size, 0, none⟩) (by simp only; omega) (.int .i64 q'.x)).far (p := ⟨w.heap.size, 1, none⟩) (by simp only; omega) (.int .i64 q'.y))
          have z0 := hblk.cell (i := 0) rfl
          have z1 := hblk.cell (i := 1) rfl
          have zf := hblk.frozen
          have zl := hblk.lt
          go_wp2_with fail
          clear z0 z1 zf zl
          replace hblk := n1.out
          replace hb := n2.out
          replace hown := n3.out
          replace hwy := n4.out
          clear n1 n2 n3 n4
          generalize World.setCell _ _ _ = w5 at hblk hb hown hwy ⊢
          refine (hin _).mono ?_
          rintro e w6 ⟨rfl, hb1⟩
          replace hb := hb.trans (hb1.mono hb.size)
          replace hblk := hblk.keep hb1
          replace hwy := hwy.keep hb1
          replace hown := ownsRow_below hown hb1
          clear hb1 hin
          have z0 := hblk.cell (i := 0) rfl
          have z1 := hblk.cell (i := 1) rfl
          have zl := hblk.lt
          cases hi : inB q'.x q'.y with
          | false =>
            have HO := Lib.hid (traceE_out HE.out HA.out (traceIn_no (l := l) (p := p) (h := h) (k := k + 1) (by rw [HW.out]; exact hi) (by simp; omega)))
            clear hi
            go_wp2_with fail
            go_ret2
            exact trace_none HO.out.1 HO.out.2 hb
          | true =>
            have HTI := Lib.hid (show traceIn l p h (k + 1) = true by rw [HTR.out, HT.out]; simpa [ptIn] using hi)
            clear hi
            obtain ⟨hi, hz0, hz1, hz2⟩ := HI.out
            have hb5 := hb.size
            have hwl := hwy.lt
            go_wp2_with (at_builtin; refine wpList_append_own _ rfl _ _ 25 rfl (wb + 1) 24 i0 (.agg #[.int .i64 0, .int .i64 0]) 2 16 Try.underlying25 hi hz0 hz1 hz2 rfl (by decide) _ _ _ rfl (hown.alloc _) ⟨w6.heap.size, 0, none⟩ 1 1 (Pt.cells q') rfl rfl ?c1 ?c2 ?c3 ?c4 ?c5 ?_)
            case c1 => exact cells_new_pt w6 q' _
            case c2 => exact cells_one_pt q'
            case c3 => unfold maxLen; omega
            case c4 => omega
            case c5 => simp; omega
            intro v' w7 hown3 hgrow _
            rw [← flat_one, ← HPT.out] at hown3
            have hb6 := (hb.trans ((below_alloc w6 _).mono hb.size)).grown hgrow (by simp; omega) (fun r hr => by have := (hown.lt r hr).1; omega)
            have hblk7 := (hblk.alloc (.cells #[.int .i64 q'.x, .int .i64 q'.y] 24)).grown hgrow (fun e => by have := (hown.lt _ e.symm).1; omega)
            have hwy7 := (hwy.alloc (.cells #[.int .i64 q'.x, .int .i64 q'.y] 24)).grown hgrow (fun e => by have := (hown.lt _ e.symm).1; omega)
            have HO := Lib.hid (show _ ∧ _ ∧ _ ∧ _ from ⟨hown3, hb6, hblk7, hwy7⟩)
            clear hown3 hgrow hown hb hb6 hblk hblk7 hwy hwy7 z0 z1 zl hi hz0 hz1 hz2
            go_wp2
            go_roundw
            case rel => exact ⟨k + 1, by omega, by go_num, by rw [HW.out], HO.out.1, HTI.out, by rw [HW.out]; exact HO.out.2.2.1, HO.out.2.1, HO.out.2.2.2⟩
            case measure => simp [intOf]; omega
        case hB => kernel_rfl
        all_goals rfl
      · obtain rfl : d' = 1 := by rw [← HD.out]; decide
        have hqx : q'.x = q.x := by rw [← HQ.out]; rfl
        have hqy : q'.y = q.y + 1 := by rw [← HQ.out]; rfl
        have HQX := Lib.hid hqx
        have HQY := Lib.hid hqy
        clear hqx hqy
        go_wp2_with fail
        refine (hax _ ((hv.below hb).more hb.size)).mono ?_
        rintro e w3 ⟨rfl, hb1⟩
        replace hb := hb.trans (hb1.mono hb.size)
        replace hblk := hblk.keep hb1
        replace hwy := hwy.keep hb1
        replace hown := ownsRow_below hown hb1
        clear z0 z1 hb1 hax hsz
        go_wp2_with fail
        have c0 : ∀ W, Below w3.heap.size w3 W → W.cell? ⟨w.heap.size, 0, none⟩ = some (.int .i64 q.x) := fun W hW => (hblk.keep hW).cell rfl
        have c1 : ∀ W, Below w3.heap.size w3 W → W.cell? ⟨w.heap.size, 1, none⟩ = some (.int .i64 q.y) := fun W hW => (hblk.keep hW).cell rfl
        have v0 : ∀ W, Below w3.heap.size w3 W → W.cell? ⟨wb, 2, none⟩ = some (.int .i64 (0)) := fun W hW => (hwy.keep hW).cell rfl
        have v1 : ∀ W, Below w3.heap.size w3 W → W.cell? ⟨wb, 3, none⟩ = some (.int .i64 (1)) := fun W hW => (hwy.keep hW).cell rfl
        have e1 : IntKind.i64.wrap (q.x + (0)) = q'.x := by rw [HQX.out, IntKind.wrap_i64]; omega
        have e2 : IntKind.i64.wrap (q.y + (1)) = q'.y := by rw [HQY.out, IntKind.wrap_i64]; omega
        have e3 : IntKind.i64.wrap (q.x) = q'.x := by rw [HQX.out, IntKind.wrap_i64]; omega
        have e4 : IntKind.i64.wrap (q.y + 1) = q'.y := by rw [HQY.out, IntKind.wrap_i64]; omega
        apply wp_region_head 15 82 (hm := by kernel_rfl) (hN := rfl)
        case h =>
          simp only [List.take_succ_cons, List.take_zero]
          iterate 15 (apply head_still rfl; (intro W hW; go_simp; (try rfl)))
          refine head_nil ?_
          intro W hW hFF
          replace hb := hb.trans (hW.mono hb.size)
          replace hblk := hblk.keep hW
          replace hwy := hwy.keep hW
          replace hown := ownsRow_below hown hW
          clear c0 c1 v0 v1 e1 e2 e3 e4 hW hFF
          have n1 := Lib.hid (hblk.setPt (.int .i64 q'.x) (.int .i64 q'.y))
          have n2 := Lib.hid (below_setPt hb (Nat.le_refl _) (.int .i64 q'.x) (.int .i64 q'.y))
          have n3 := Lib.hid (ownsRow_setCell_below (ownsRow_setCell_below hown (a := ⟨w.heap.size, 0, none⟩) (by simp only; omega) (.int .i64 q'.x)) (a := ⟨w.heap.size, 1, none⟩) (by simp only; omega) (.int .i64 q'.y))
          have n4 := Lib.hid ((hwy.far (p := ⟨w.heap.size, 0, none⟩) (by simp only; omega) (.int .i64 q'.x)).far (p := ⟨w.heap.size, 1, none⟩) (by simp only; omega) (.int .i64 q'.y))
          have z0 := hblk.cell (i := 0) rfl
          have z1 := hblk.cell (i := 1) rfl
          have zf := hblk.frozen
          have zl := hblk.lt
          go_wp2_with fail
          clear z0 z1 zf zl
          replace hblk := n1.out
          replace hb := n2.out
          replace hown := n3.out
          replace hwy := n4.out
          clear n1 n2 n3 n4
          generalize World.setCell _ _ _ = w5 at hblk hb hown hwy ⊢
          refine (hin _).mono ?_
          rintro e w6 ⟨rfl, hb1⟩
          replace hb := hb.trans (hb1.mono hb.size)
          replace hblk := hblk.keep hb1
          replace hwy := hwy.keep hb1
          replace hown := ownsRow_below hown hb1
          clear hb1 hin
          have z0 := hblk.cell (i := 0) rfl
          have z1 := hblk.cell (i := 1) rfl
          have zl := hblk.lt
          cases hi : inB q'.x q'.y with
          | false =>
            have HO := Lib.hid (traceE_out HE.out HA.out (traceIn_no (l := l) (p := p) (h := h) (k := k + 1) (by rw [HW.out]; exact hi) (by simp; omega)))
            clear hi
            go_wp2_with fail
            go_ret2
            exact trace_none HO.out.1 HO.out.2 hb
          | true =>
            have HTI := Lib.hid (show traceIn l p h (k + 1) = true by rw [HTR.out, HT.out]; simpa [ptIn] using hi)
            clear hi
            obtain ⟨hi, hz0, hz1, hz2⟩ := HI.out
            have hb5 := hb.size
            have hwl := hwy.lt
            go_wp2_with (at_builtin; refine wpList_append_own _ rfl _ _ 25 rfl (wb + 1) 24 i0 (.agg #[.int .i64 0, .int .i64 0]) 2 16 Try.underlying25 hi hz0 hz1 hz2 rfl (by decide) _ _ _ rfl (hown.alloc _) ⟨w6.heap.size, 0, none⟩ 1 1 (Pt.cells q') rfl rfl ?c1 ?c2 ?c3 ?c4 ?c5 ?_)
            case c1 => exact cells_new_pt w6 q' _
            case c2 => exact cells_one_pt q'
            case c3 => unfold maxLen; omega
            case c4 => omega
            case c5 => simp; omega
            intro v' w7 hown3 hgrow _
            rw [← flat_one, ← HPT.out] at hown3
            have hb6 := (hb.trans ((below_alloc w6 _).mono hb.size)).grown hgrow (by simp; omega) (fun r hr => by have := (hown.lt r hr).1; omega)
            have hblk7 := (hblk.alloc (.cells #[.int .i64 q'.x, .int .i64 q'.y] 24)).grown hgrow (fun e => by have := (hown.lt _ e.symm).1; omega)
            have hwy7 := (hwy.alloc (.cells #[.int .i64 q'.x, .int .i64 q'.y] 24)).grown hgrow (fun e => by have := (hown.lt _ e.symm).1; omega)
            have HO := Lib.hid (show _ ∧ _ ∧ _ ∧ _ from ⟨hown3, hb6, hblk7, hwy7⟩)
            clear hown3 hgrow hown hb hb6 hblk hblk7 hwy hwy7 z0 z1 zl hi hz0 hz1 hz2
            go_wp2
            go_roundw
            case rel => exact ⟨k + 1, by omega, by go_num, by rw [HW.out], HO.out.1, HTI.out, by rw [HW.out]; exact HO.out.2.2.1, HO.out.2.1, HO.out.2.2.2⟩
            case measure => simp [intOf]; omega
        case hB => kernel_rfl
        all_goals rfl
      · obtain rfl : d' = 3 := by rw [← HD.out]; decide
        have hqx : q'.x = q.x := by rw [← HQ.out]; rfl
        have hqy : q'.y = q.y - 1 := by rw [← HQ.out]; rfl
        have HQX := Lib.hid hqx
        have HQY := Lib.hid hqy
        clear hqx hqy
        go_wp2_with fail
        refine (hax _ ((hv.below hb).more hb.size)).mono ?_
        rintro e w3 ⟨rfl, hb1⟩
        replace hb := hb.trans (hb1.mono hb.size)
        replace hblk := hblk.keep hb1
        replace hwy := hwy.keep hb1
        replace hown := ownsRow_below hown hb1
        clear z0 z1 hb1 hax hsz
        go_wp2_with fail
        have c0 : ∀ W, Below w3.heap.size w3 W → W.cell? ⟨w.heap.size, 0, none⟩ = some (.int .i64 q.x) := fun W hW => (hblk.keep hW).cell rfl
        have c1 : ∀ W, Below w3.heap.size w3 W → W.cell? ⟨w.heap.size, 1, none⟩ = some (.int .i64 q.y) := fun W hW => (hblk.keep hW).cell rfl
        have v0 : ∀ W, Below w3.heap.size w3 W → W.cell? ⟨wb, 6, none⟩ = some (.int .i64 (0)) := fun W hW => (hwy.keep hW).cell rfl
        have v1 : ∀ W, Below w3.heap.size w3 W → W.cell? ⟨wb, 7, none⟩ = some (.int .i64 (-1)) := fun W hW => (hwy.keep hW).cell rfl
        have e1 : IntKind.i64.wrap (q.x + (0)) = q'.x := by rw [HQX.out, IntKind.wrap_i64]; omega
        have e2 : IntKind.i64.wrap (q.y + (-1)) = q'.y := by rw [HQY.out, IntKind.wrap_i64]; omega
        have e3 : IntKind.i64.wrap (q.x) = q'.x := by rw [HQX.out, IntKind.wrap_i64]; omega
        have e4 : IntKind.i64.wrap (q.y - 1) = q'.y := by rw [HQY.out, IntKind.wrap_i64]; omega
        apply wp_region_head 15 82 (hm := by kernel_rfl) (hN := rfl)
        case h =>
          simp only [List.take_succ_cons, List.take_zero]
          iterate 15 (apply head_still rfl; (intro W hW; go_simp; (try rfl)))
          refine head_nil ?_
          intro W hW hFF
          replace hb := hb.trans (hW.mono hb.size)
          replace hblk := hblk.keep hW
          replace hwy := hwy.keep hW
          replace hown := ownsRow_below hown hW
          clear c0 c1 v0 v1 e1 e2 e3 e4 hW hFF
          have n1 := Lib.hid (hblk.setPt (.int .i64 q'.x) (.int .i64 q'.y))
          have n2 := Lib.hid (below_setPt hb (Nat.le_refl _) (.int .i64 q'.x) (.int .i64 q'.y))
          have n3 := Lib.hid (ownsRow_setCell_below (ownsRow_setCell_below hown (a := ⟨w.heap.size, 0, none⟩) (by simp only; omega) (.int .i64 q'.x)) (a := ⟨w.heap.size, 1, none⟩) (by simp only; omega) (.int .i64 q'.y))
          have n4 := Lib.hid ((hwy.far (p := ⟨w.heap.size, 0, none⟩) (by simp only; omega) (.int .i64 q'.x)).far (p := ⟨w.heap.size, 1, none⟩) (by simp only; omega) (.int .i64 q'.y))
          have z0 := hblk.cell (i := 0) rfl
          have z1 := hblk.cell (i := 1) rfl
          have zf := hblk.frozen
          have zl := hblk.lt
          go_wp2_with fail
          clear z0 z1 zf zl
          replace hblk := n1.out
          replace hb := n2.out
          replace hown := n3.out
          replace hwy := n4.out
          clear n1 n2 n3 n4
          generalize World.setCell _ _ _ = w5 at hblk hb hown hwy ⊢
          refine (hin _).mono ?_
          rintro e w6 ⟨rfl, hb1⟩
          replace hb := hb.trans (hb1.mono hb.size)
          replace hblk := hblk.keep hb1
          replace hwy := hwy.keep hb1
          replace hown := ownsRow_below hown hb1
          clear hb1 hin
          have z0 := hblk.cell (i := 0) rfl
          have z1 := hblk.cell (i := 1) rfl
          have zl := hblk.lt
          cases hi : inB q'.x q'.y with
          | false =>
            have HO := Lib.hid (traceE_out HE.out HA.out (traceIn_no (l := l) (p := p) (h := h) (k := k + 1) (by rw [HW.out]; exact hi) (by simp; omega)))
            clear hi
            go_wp2_with fail
            go_ret2
            exact trace_none HO.out.1 HO.out.2 hb
          | true =>
            have HTI := Lib.hid (show traceIn l p h (k + 1) = true by rw [HTR.out, HT.out]; simpa [ptIn] using hi)
            clear hi
            obtain ⟨hi, hz0, hz1, hz2⟩ := HI.out
            have hb5 := hb.size
            have hwl := hwy.lt
            go_wp2_with (at_builtin; refine wpList_append_own _ rfl _ _ 25 rfl (wb + 1) 24 i0 (.agg #[.int .i64 0, .int .i64 0]) 2 16 Try.underlying25 hi hz0 hz1 hz2 rfl (by decide) _ _ _ rfl (hown.alloc _) ⟨w6.heap.size, 0, none⟩ 1 1 (Pt.cells q') rfl rfl ?c1 ?c2 ?c3 ?c4 ?c5 ?_)
            case c1 => exact cells_new_pt w6 q' _
            case c2 => exact cells_one_pt q'
            case c3 => unfold maxLen; omega
            case c4 => omega
            case c5 => simp; omega
            intro v' w7 hown3 hgrow _
            rw [← flat_one, ← HPT.out] at hown3
            have hb6 := (hb.trans ((below_alloc w6 _).mono hb.size)).grown hgrow (by simp; omega) (fun r hr => by have := (hown.lt r hr).1; omega)
            have hblk7 := (hblk.alloc (.cells #[.int .i64 q'.x, .int .i64 q'.y] 24)).grown hgrow (fun e => by have := (hown.lt _ e.symm).1; omega)
            have hwy7 := (hwy.alloc (.cells #[.int .i64 q'.x, .int .i64 q'.y] 24)).grown hgrow (fun e => by have := (hown.lt _ e.symm).1; omega)
            have HO := Lib.hid (show _ ∧ _ ∧ _ ∧ _ from ⟨hown3, hb6, hblk7, hwy7⟩)
            clear hown3 hgrow hown hb hb6 hblk hblk7 hwy hwy7 z0 z1 zl hi hz0 hz1 hz2
            go_wp2
            go_roundw
            case rel => exact ⟨k + 1, by omega, by go_num, by rw [HW.out], HO.out.1, HTI.out, by rw [HW.out]; exact HO.out.2.2.1, HO.out.2.1, HO.out.2.2.2⟩
            case measure => simp [intOf]; omega
        case hB => kernel_rfl
        all_goals rfl
      · obtain rfl : d' = 3 := by rw [← HD.out]; decide
        have hqx : q'.x = q.x := by rw [← HQ.out]; rfl
        have hqy : q'.y = q.y - 1 := by rw [← HQ.out]; rfl
        have HQX := Lib.hid hqx
        have HQY := Lib.hid hqy
        clear hqx hqy
        go_wp2_with fail
        refine (hax _ ((hv.below hb).more hb.size)).mono ?_
        rintro e w3 ⟨rfl, hb1⟩
        replace hb := hb.trans (hb1.mono hb.size)
        replace hblk := hblk.keep hb1
        replace hwy := hwy.keep hb1
        replace hown := ownsRow_below hown hb1
        clear z0 z1 hb1 hax hsz
        go_wp2_with fail
        have c0 : ∀ W, Below w3.heap.size w3 W → W.cell? ⟨w.heap.size, 0, none⟩ = some (.int .i64 q.x) := fun W hW => (hblk.keep hW).cell rfl
        have c1 : ∀ W, Below w3.heap.size w3 W → W.cell? ⟨w.heap.size, 1, none⟩ = some (.int .i64 q.y) := fun W hW => (hblk.keep hW).cell rfl
        have v0 : ∀ W, Below w3.heap.size w3 W → W.cell? ⟨wb, 6, none⟩ = some (.int .i64 (0)) := fun W hW => (hwy.keep hW).cell rfl
        have v1 : ∀ W, Below w3.heap.size w3 W → W.cell? ⟨wb, 7, none⟩ = some (.int .i64 (-1)) := fun W hW => (hwy.keep hW).cell rfl
        have e1 : IntKind.i64.wrap (q.x + (0)) = q'.x := by rw [HQX.out, IntKind.wrap_i64]; omega
        have e2 : IntKind.i64.wrap (q.y + (-1)) = q'.y := by rw [HQY.out, IntKind.wrap_i64]; omega
        have e3 : IntKind.i64.wrap (q.x) = q'.x := by rw [HQX.out, IntKind.wrap_i64]; omega
        have e4 : IntKind.i64.wrap (q.y - 1) = q'.y := by rw [HQY.out, IntKind.wrap_i64]; omega
        apply wp_region_head 15 82 (hm := by kernel_rfl) (hN := rfl)
        case h =>
          simp only [List.take_succ_cons, List.take_zero]
          iterate 15 (apply head_still rfl; (intro W hW; go_simp; (try rfl)))
          refine head_nil ?_
          intro W hW hFF
          replace hb := hb.trans (hW.mono hb.size)
          replace hblk := hblk.keep hW
          replace hwy := hwy.keep hW
          replace hown := ownsRow_below hown hW
          clear c0 c1 v0 v1 e1 e2 e3 e4 hW hFF
          have n1 := Lib.hid (hblk.setPt (.int .i64 q'.x) (.int .i64 q'.y))
          have n2 := Lib.hid (below_setPt hb (Nat.le_refl _) (.int .i64 q'.x) (.int .i64 q'.y))
          have n3 := Lib.hid (ownsRow_setCell_below (ownsRow_setCell_below hown (a := ⟨w.heap.size, 0, none⟩) (by simp only; omega) (.int .i64 q'.x)) (a := ⟨w.heap.size, 1, none⟩) (by simp only; omega) (.int .i64 q'.y))
          have n4 := Lib.hid ((hwy.far (p := ⟨w.heap.size, 0, none⟩) (by simp only; omega) (.int .i64 q'.x)).far (p := ⟨w.heap.size, 1, none⟩) (by simp only; omega) (.int .i64 q'.y))
          have z0 := hblk.cell (i := 0) rfl
          have z1 := hblk.cell (i := 1) rfl
          have zf := hblk.frozen
          have zl := hblk.lt
          go_wp2_with fail
          clear z0 z1 zf zl
          replace hblk := n1.out
          replace hb := n2.out
          replace hown := n3.out
          replace hwy := n4.out
          clear n1 n2 n3 n4
          generalize World.setCell _ _ _ = w5 at hblk hb hown hwy ⊢
          refine (hin _).mono ?_
          rintro e w6 ⟨rfl, hb1⟩
          replace hb := hb.trans (hb1.mono hb.size)
          replace hblk := hblk.keep hb1
          replace hwy := hwy.keep hb1
          replace hown := ownsRow_below hown hb1
          clear hb1 hin
          have z0 := hblk.cell (i := 0) rfl
          have z1 := hblk.cell (i := 1) rfl
          have zl := hblk.lt
          cases hi : inB q'.x q'.y with
          | false =>
            have HO := Lib.hid (traceE_out HE.out HA.out (traceIn_no (l := l) (p := p) (h := h) (k := k + 1) (by rw [HW.out]; exact hi) (by simp; omega)))
            clear hi
            go_wp2_with fail
            go_ret2
            exact trace_none HO.out.1 HO.out.2 hb
          | true =>
            have HTI := Lib.hid (show traceIn l p h (k + 1) = true by rw [HTR.out, HT.out]; simpa [ptIn] using hi)
            clear hi
            obtain ⟨hi, hz0, hz1, hz2⟩ := HI.out
            have hb5 := hb.size
            have hwl := hwy.lt
            go_wp2_with (at_builtin; refine wpList_append_own _ rfl _ _ 25 rfl (wb + 1) 24 i0 (.agg #[.int .i64 0, .int .i64 0]) 2 16 Try.underlying25 hi hz0 hz1 hz2 rfl (by decide) _ _ _ rfl (hown.alloc _) ⟨w6.heap.size, 0, none⟩ 1 1 (Pt.cells q') rfl rfl ?c1 ?c2 ?c3 ?c4 ?c5 ?_)
            case c1 => exact cells_new_pt w6 q' _
            case c2 => exact cells_one_pt q'
            case c3 => unfold maxLen; omega
            case c4 => omega
            case c5 => simp; omega
            intro v' w7 hown3 hgrow _
            rw [← flat_one, ← HPT.out] at hown3
            have hb6 := (hb.trans ((below_alloc w6 _).mono hb.size)).grown hgrow (by simp; omega) (fun r hr => by have := (hown.lt r hr).1; omega)
            have hblk7 := (hblk.alloc (.cells #[.int .i64 q'.x, .int .i64 q'.y] 24)).grown hgrow (fun e => by have := (hown.lt _ e.symm).1; omega)
            have hwy7 := (hwy.alloc (.cells #[.int .i64 q'.x, .int .i64 q'.y] 24)).grown hgrow (fun e => by have := (hown.lt _ e.symm).1; omega)
            have HO := Lib.hid (show _ ∧ _ ∧ _ ∧ _ from ⟨hown3, hb6, hblk7, hwy7⟩)
            clear hown3 hgrow hown hb hb6 hblk hblk7 hwy hwy7 z0 z1 zl hi hz0 hz1 hz2
            go_wp2
            go_roundw
            case rel => exact ⟨k + 1, by omega, by go_num, by rw [HW.out], HO.out.1, HTI.out, by rw [HW.out]; exact HO.out.2.2.1, HO.out.2.1, HO.out.2.2.2⟩
            case measure => simp [intOf]; omega
        case hB => kernel_rfl
        all_goals rfl
      · obtain rfl : d' = 0 := by rw [← HD.out]; decide
        have hqx : q'.x = q.x + 1 := by rw [← HQ.out]; rfl
        have hqy : q'.y = q.y := by rw [← HQ.out]; rfl
        have HQX := Lib.hid hqx
        have HQY := Lib.hid hqy
        clear hqx hqy
        go_wp2_with fail
        refine (hax _ ((hv.below hb).more hb.size)).mono ?_
        rintro e w3 ⟨rfl, hb1⟩
        replace hb := hb.trans (hb1.mono hb.size)
        replace hblk := hblk.keep hb1
        replace hwy := hwy.keep hb1
        replace hown := ownsRow_below hown hb1
        clear z0 z1 hb1 hax hsz
        go_wp2_with fail
        have c0 : ∀ W, Below w3.heap.size w3 W → W.cell? ⟨w.heap.size, 0, none⟩ = some (.int .i64 q.x) := fun W hW => (hblk.keep hW).cell rfl
        have c1 : ∀ W, Below w3.heap.size w3 W → W.cell? ⟨w.heap.size, 1, none⟩ = some (.int .i64 q.y) := fun W hW => (hblk.keep hW).cell rfl
        have v0 : ∀ W, Below w3.heap.size w3 W → W.cell? ⟨wb, 0, none⟩ = some (.int .i64 (1)) := fun W hW => (hwy.keep hW).cell rfl
        have v1 : ∀ W, Below w3.heap.size w3 W → W.cell? ⟨wb, 1, none⟩ = some (.int .i64 (0)) := fun W hW => (hwy.keep hW).cell rfl
        have e1 : IntKind.i64.wrap (q.x + (1)) = q'.x := by rw [HQX.out, IntKind.wrap_i64]; omega
        have e2 : IntKind.i64.wrap (q.y + (0)) = q'.y := by rw [HQY.out, IntKind.wrap_i64]; omega
        have e3 : IntKind.i64.wrap (q.x + 1) = q'.x := by rw [HQX.out, IntKind.wrap_i64]; omega
        have e4 : IntKind.i64.wrap (q.y) = q'.y := by rw [HQY.out, IntKind.wrap_i64]; omega
        apply wp_region_head 15 82 (hm := by kernel_rfl) (hN := rfl)
        case h =>
          simp only [List.take_succ_cons, List.take_zero]
          iterate 15 (apply head_still rfl; (intro W hW; go_simp; (try rfl)))
          refine head_nil ?_
          intro W hW hFF
          replace hb := hb.trans (hW.mono hb.size)
          replace hblk := hblk.keep hW
          replace hwy := hwy.keep hW
          replace hown := ownsRow_below hown hW
          clear c0 c1 v0 v1 e1 e2 e3 e4 hW hFF
          have n1 := Lib.hid (hblk.setPt (.int .i64 q'.x) (.int .i64 q'.y))
          have n2 := Lib.hid (below_setPt hb (Nat.le_refl _) (.int .i64 q'.x) (.int .i64 q'.y))
          have n3 := Lib.hid (ownsRow_setCell_below (ownsRow_setCell_below hown (a := ⟨w.heap.size, 0, none⟩) (by simp only; omega) (.int .i64 q'.x)) (a := ⟨w.heap.size, 1, none⟩) (by simp only; omega) (.int .i64 q'.y))
          have n4 := Lib.hid ((hwy.far (p := ⟨w.heap.size, 0, none⟩) (by simp only; omega) (.int .i64 q'.x)).far (p := ⟨w.heap.size, 1, none⟩) (by simp only; omega) (.int .i64 q'.y))
          have z0 := hblk.cell (i := 0) rfl
          have z1 := hblk.cell (i := 1) rfl
          have zf := hblk.frozen
          have zl := hblk.lt
          go_wp2_with fail
          clear z0 z1 zf zl
          replace hblk := n1.out
          replace hb := n2.out
          replace hown := n3.out
          replace hwy := n4.out
          clear n1 n2 n3 n4
          generalize World.setCell _ _ _ = w5 at hblk hb hown hwy ⊢
          refine (hin _).mono ?_
          rintro e w6 ⟨rfl, hb1⟩
          replace hb := hb.trans (hb1.mono hb.size)
          replace hblk := hblk.keep hb1
          replace hwy := hwy.keep hb1
          replace hown := ownsRow_below hown hb1
          clear hb1 hin
          have z0 := hblk.cell (i := 0) rfl
          have z1 := hblk.cell (i := 1) rfl
          have zl := hblk.lt
          cases hi : inB q'.x q'.y with
          | false =>
            have HO := Lib.hid (traceE_out HE.out HA.out (traceIn_no (l := l) (p := p) (h := h) (k := k + 1) (by rw [HW.out]; exact hi) (by simp; omega)))
            clear hi
            go_wp2_with fail
            go_ret2
            exact trace_none HO.out.1 HO.out.2 hb
          | true =>
            have HTI := Lib.hid (show traceIn l p h (k + 1) = true by rw [HTR.out, HT.out]; simpa [ptIn] using hi)
            clear hi
            obtain ⟨hi, hz0, hz1, hz2⟩ := HI.out
            have hb5 := hb.size
            have hwl := hwy.lt
            go_wp2_with (at_builtin; refine wpList_append_own _ rfl _ _ 25 rfl (wb + 1) 24 i0 (.agg #[.int .i64 0, .int .i64 0]) 2 16 Try.underlying25 hi hz0 hz1 hz2 rfl (by decide) _ _ _ rfl (hown.alloc _) ⟨w6.heap.size, 0, none⟩ 1 1 (Pt.cells q') rfl rfl ?c1 ?c2 ?c3 ?c4 ?c5 ?_)
            case c1 => exact cells_new_pt w6 q' _
            case c2 => exact cells_one_pt q'
            case c3 => unfold maxLen; omega
            case c4 => omega
            case c5 => simp; omega
            intro v' w7 hown3 hgrow _
            rw [← flat_one, ← HPT.out] at hown3
            have hb6 := (hb.trans ((below_alloc w6 _).mono hb.size)).grown hgrow (by simp; omega) (fun r hr => by have := (hown.lt r hr).1; omega)
            have hblk7 := (hblk.alloc (.cells #[.int .i64 q'.x, .int .i64 q'.y] 24)).grown hgrow (fun e => by have := (hown.lt _ e.symm).1; omega)
            have hwy7 := (hwy.alloc (.cells #[.int .i64 q'.x, .int .i64 q'.y] 24)).grown hgrow (fun e => by have := (hown.lt _ e.symm).1; omega)
            have HO := Lib.hid (show _ ∧ _ ∧ _ ∧ _ from ⟨hown3, hb6, hblk7, hwy7⟩)
            clear hown3 hgrow hown hb hb6 hblk hblk7 hwy hwy7 z0 z1 zl hi hz0 hz1 hz2
            go_wp2
            go_roundw
            case rel => exact ⟨k + 1, by omega, by go_num, by rw [HW.out], HO.out.1, HTI.out, by rw [HW.out]; exact HO.out.2.2.1, HO.out.2.1, HO.out.2.2.2⟩
            case measure => simp [intOf]; omega
        case hB => kernel_rfl
        all_goals rfl
      · obtain rfl : d' = 1 := by rw [← HD.out]; decide
        have hqx : q'.x = q.x := by rw [← HQ.out]; rfl
        have hqy : q'.y = q.y + 1 := by rw [← HQ.out]; rfl
        have HQX := Lib.hid hqx
        have HQY := Lib.hid hqy
        clear hqx hqy
        go_wp2_with fail
        refine (hax _ ((hv.below hb).more hb.size)).mono ?_
        rintro e w3 ⟨rfl, hb1⟩
        replace hb := hb.trans (hb1.mono hb.size)
        replace hblk := hblk.keep hb1
        replace hwy := hwy.keep hb1
        replace hown := ownsRow_below hown hb1
        clear z0 z1 hb1 hax hsz
        go_wp2_with fail
        have c0 : ∀ W, Below w3.heap.size w3 W → W.cell? ⟨w.heap.size, 0, none⟩ = some (.int .i64 q.x) := fun W hW => (hblk.keep hW).cell rfl
        have c1 : ∀ W, Below w3.heap.size w3 W → W.cell? ⟨w.heap.size, 1, none⟩ = some (.int .i64 q.y) := fun W hW => (hblk.keep hW).cell rfl
        have v0 : ∀ W, Below w3.heap.size w3 W → W.cell? ⟨wb, 2, none⟩ = some (.int .i64 (0)) := fun W hW => (hwy.keep hW).cell rfl
        have v1 : ∀ W, Below w3.heap.size w3 W → W.cell? ⟨wb, 3, none⟩ = some (.int .i64 (1)) := fun W hW => (hwy.keep hW).cell rfl
        have e1 : IntKind.i64.wrap (q.x + (0)) = q'.x := by rw [HQX.out, IntKind.wrap_i64]; omega
        have e2 : IntKind.i64.wrap (q.y + (1)) = q'.y := by rw [HQY.out, IntKind.wrap_i64]; omega
        have e3 : IntKind.i64.wrap (q.x) = q'.x := by rw [HQX.out, IntKind.wrap_i64]; omega
        have e4 : IntKind.i64.wrap (q.y + 1) = q'.y := by rw [HQY.out, IntKind.wrap_i64]; omega
        apply wp_region_head 15 82 (hm := by kernel_rfl) (hN := rfl)
        case h =>
          simp only [List.take_succ_cons, List.take_zero]
          iterate 15 (apply head_still rfl; (intro W hW; go_simp; (try rfl)))
          refine head_nil ?_
          intro W hW hFF
          replace hb := hb.trans (hW.mono hb.size)
          replace hblk := hblk.keep hW
          replace hwy := hwy.keep hW
          replace hown := ownsRow_below hown hW
          clear c0 c1 v0 v1 e1 e2 e3 e4 hW hFF
          have n1 := Lib.hid (hblk.setPt (.int .i64 q'.x) (.int .i64 q'.y))
          have n2 := Lib.hid (below_setPt hb (Nat.le_refl _) (.int .i64 q'.x) (.int .i64 q'.y))
          have n3 := Lib.hid (ownsRow_setCell_below (ownsRow_setCell_below hown (a := ⟨w.heap.size, 0, none⟩) (by simp only; omega) (.int .i64 q'.x)) (a := ⟨w.heap.size, 1, none⟩) (by simp only; omega) (.int .i64 q'.y))
          have n4 := Lib.hid ((hwy.far (p := ⟨w.heap.size, 0, none⟩) (by simp only; omega) (.int .i64 q'.x)).far (p := ⟨w.heap.size, 1, none⟩) (by simp only; omega) (.int .i64 q'.y))
          have z0 := hblk.cell (i := 0) rfl
          have z1 := hblk.cell (i := 1) rfl
          have zf := hblk.frozen
          have zl := hblk.lt
          go_wp2_with fail
          clear z0 z1 zf zl
          replace hblk := n1.out
          replace hb := n2.out
          replace hown := n3.out
          replace hwy := n4.out
          clear n1 n2 n3 n4
          generalize World.setCell _ _ _ = w5 at hblk hb hown hwy ⊢
          refine (hin _).mono ?_
          rintro e w6 ⟨rfl, hb1⟩
          replace hb := hb.trans (hb1.mono hb.size)
          replace hblk := hblk.keep hb1
          replace hwy := hwy.keep hb1
          replace hown := ownsRow_below hown hb1
          clear hb1 hin
          have z0 := hblk.cell (i := 0) rfl
          have z1 := hblk.cell (i := 1) rfl
          have zl := hblk.lt
          cases hi : inB q'.x q'.y with
          | false =>
            have HO := Lib.hid (traceE_out HE.out HA.out (traceIn_no (l := l) (p := p) (h := h) (k := k + 1) (by rw [HW.out]; exact hi) (by simp; omega)))
            clear hi
            go_wp2_with fail
            go_ret2
            exact trace_none HO.out.1 HO.out.2 hb
          | true =>
            have HTI := Lib.hid (show traceIn l p h (k + 1) = true by rw [HTR.out, HT.out]; simpa [ptIn] using hi)
            clear hi
            obtain ⟨hi, hz0, hz1, hz2⟩ := HI.out
            have hb5 := hb.size
            have hwl := hwy.lt
            go_wp2_with (at_builtin; refine wpList_append_own _ rfl _ _ 25 rfl (wb + 1) 24 i0 (.agg #[.int .i64 0, .int .i64 0]) 2 16 Try.underlying25 hi hz0 hz1 hz2 rfl (by decide) _ _ _ rfl (hown.alloc _) ⟨w6.heap.size, 0, none⟩ 1 1 (Pt.cells q') rfl rfl ?c1 ?c2 ?c3 ?c4 ?c5 ?_)
            case c1 => exact cells_new_pt w6 q' _
            case c2 => exact cells_one_pt q'
            case c3 => unfold maxLen; omega
            case c4 => omega
            case c5 => simp; omega
            intro v' w7 hown3 hgrow _
            rw [← flat_one, ← HPT.out] at hown3
            have hb6 := (hb.trans ((below_alloc w6 _).mono hb.size)).grown hgrow (by simp; omega) (fun r hr => by have := (hown.lt r hr).1; omega)
            have hblk7 := (hblk.alloc (.cells #[.int .i64 q'.x, .int .i64 q'.y] 24)).grown hgrow (fun e => by have := (hown.lt _ e.symm).1; omega)
            have hwy7 := (hwy.alloc (.cells #[.int .i64 q'.x, .int .i64 q'.y] 24)).grown hgrow (fun e => by have := (hown.lt _ e.symm).1; omega)
            have HO := Lib.hid (show _ ∧ _ ∧ _ ∧ _ from ⟨hown3, hb6, hblk7, hwy7⟩)
            clear hown3 hgrow hown hb hb6 hblk hblk7 hwy hwy7 z0 z1 zl hi hz0 hz1 hz2
            go_wp2
            go_roundw
            case rel => exact ⟨k + 1, by omega, by go_num, by rw [HW.out], HO.out.1, HTI.out, by rw [HW.out]; exact HO.out.2.2.1, HO.out.2.1, HO.out.2.2.2⟩
            case measure => simp [intOf]; omega
        case hB => kernel_rfl
        all_goals rfl
      · obtain rfl : d' = 2 := by rw [← HD.out]; decide
        have hqx : q'.x = q.x - 1 := by rw [← HQ.out]; rfl
        have hqy : q'.y = q.y := by rw [← HQ.out]; rfl
        have HQX := Lib.hid hqx
        have HQY := Lib.hid hqy
        clear hqx hqy
        go_wp2_with fail
        refine (hax _ ((hv.below hb).more hb.size)).mono ?_
        rintro e w3 ⟨rfl, hb1⟩
        replace hb := hb.trans (hb1.mono hb.size)
        replace hblk := hblk.keep hb1
        replace hwy := hwy.keep hb1
        replace hown := ownsRow_below hown hb1
        clear z0 z1 hb1 hax hsz
        go_wp2_with fail
        have c0 : ∀ W, Below w3.heap.size w3 W → W.cell? ⟨w.heap.size, 0, none⟩ = some (.int .i64 q.x) := fun W hW => (hblk.keep hW).cell rfl
        have c1 : ∀ W, Below w3.heap.size w3 W → W.cell? ⟨w.heap.size, 1, none⟩ = some (.int .i64 q.y) := fun W hW => (hblk.keep hW).cell rfl
        have v0 : ∀ W, Below w3.heap.size w3 W → W.cell? ⟨wb, 4, none⟩ = some (.int .i64 (-1)) := fun W hW => (hwy.keep hW).cell rfl
        have v1 : ∀ W, Below w3.heap.size w3 W → W.cell? ⟨wb, 5, none⟩ = some (.int .i64 (0)) := fun W hW => (hwy.keep hW).cell rfl
        have e1 : IntKind.i64.wrap (q.x + (-1)) = q'.x := by rw [HQX.out, IntKind.wrap_i64]; omega
        have e2 : IntKind.i64.wrap (q.y + (0)) = q'.y := by rw [HQY.out, IntKind.wrap_i64]; omega
        have e3 : IntKind.i64.wrap (q.x - 1) = q'.x := by rw [HQX.out, IntKind.wrap_i64]; omega
        have e4 : IntKind.i64.wrap (q.y) = q'.y := by rw [HQY.out, IntKind.wrap_i64]; omega
        apply wp_region_head 15 82 (hm := by kernel_rfl) (hN := rfl)
        case h =>
          simp only [List.take_succ_cons, List.take_zero]
          iterate 15 (apply head_still rfl; (intro W hW; go_simp; (try rfl)))
          refine head_nil ?_
          intro W hW hFF
          replace hb := hb.trans (hW.mono hb.size)
          replace hblk := hblk.keep hW
          replace hwy := hwy.keep hW
          replace hown := ownsRow_below hown hW
          clear c0 c1 v0 v1 e1 e2 e3 e4 hW hFF
          have n1 := Lib.hid (hblk.setPt (.int .i64 q'.x) (.int .i64 q'.y))
          have n2 := Lib.hid (below_setPt hb (Nat.le_refl _) (.int .i64 q'.x) (.int .i64 q'.y))
          have n3 := Lib.hid (ownsRow_setCell_below (ownsRow_setCell_below hown (a := ⟨w.heap.size, 0, none⟩) (by simp only; omega) (.int .i64 q'.x)) (a := ⟨w.heap.size, 1, none⟩) (by simp only; omega) (.int .i64 q'.y))
          have n4 := Lib.hid ((hwy.far (p := ⟨w.heap.size, 0, none⟩) (by simp only; omega) (.int .i64 q'.x)).far (p := ⟨w.heap.size, 1, none⟩) (by simp only; omega) (.int .i64 q'.y))
          have z0 := hblk.cell (i := 0) rfl
          have z1 := hblk.cell (i := 1) rfl
          have zf := hblk.frozen
          have zl := hblk.lt
          go_wp2_with fail
          clear z0 z1 zf zl
          replace hblk := n1.out
          replace hb := n2.out
          replace hown := n3.out
          replace hwy := n4.out
          clear n1 n2 n3 n4
          generalize World.setCell _ _ _ = w5 at hblk hb hown hwy ⊢
          refine (hin _).mono ?_
          rintro e w6 ⟨rfl, hb1⟩
          replace hb := hb.trans (hb1.mono hb.size)
          replace hblk := hblk.keep hb1
          replace hwy := hwy.keep hb1
          replace hown := ownsRow_below hown hb1
          clear hb1 hin
          have z0 := hblk.cell (i := 0) rfl
          have z1 := hblk.cell (i := 1) rfl
          have zl := hblk.lt
          cases hi : inB q'.x q'.y with
          | false =>
            have HO := Lib.hid (traceE_out HE.out HA.out (traceIn_no (l := l) (p := p) (h := h) (k := k + 1) (by rw [HW.out]; exact hi) (by simp; omega)))
            clear hi
            go_wp2_with fail
            go_ret2
            exact trace_none HO.out.1 HO.out.2 hb
          | true =>
            have HTI := Lib.hid (show traceIn l p h (k + 1) = true by rw [HTR.out, HT.out]; simpa [ptIn] using hi)
            clear hi
            obtain ⟨hi, hz0, hz1, hz2⟩ := HI.out
            have hb5 := hb.size
            have hwl := hwy.lt
            go_wp2_with (at_builtin; refine wpList_append_own _ rfl _ _ 25 rfl (wb + 1) 24 i0 (.agg #[.int .i64 0, .int .i64 0]) 2 16 Try.underlying25 hi hz0 hz1 hz2 rfl (by decide) _ _ _ rfl (hown.alloc _) ⟨w6.heap.size, 0, none⟩ 1 1 (Pt.cells q') rfl rfl ?c1 ?c2 ?c3 ?c4 ?c5 ?_)
            case c1 => exact cells_new_pt w6 q' _
            case c2 => exact cells_one_pt q'
            case c3 => unfold maxLen; omega
            case c4 => omega
            case c5 => simp; omega
            intro v' w7 hown3 hgrow _
            rw [← flat_one, ← HPT.out] at hown3
            have hb6 := (hb.trans ((below_alloc w6 _).mono hb.size)).grown hgrow (by simp; omega) (fun r hr => by have := (hown.lt r hr).1; omega)
            have hblk7 := (hblk.alloc (.cells #[.int .i64 q'.x, .int .i64 q'.y] 24)).grown hgrow (fun e => by have := (hown.lt _ e.symm).1; omega)
            have hwy7 := (hwy.alloc (.cells #[.int .i64 q'.x, .int .i64 q'.y] 24)).grown hgrow (fun e => by have := (hown.lt _ e.symm).1; omega)
            have HO := Lib.hid (show _ ∧ _ ∧ _ ∧ _ from ⟨hown3, hb6, hblk7, hwy7⟩)
            clear hown3 hgrow hown hb hb6 hblk hblk7 hwy hwy7 z0 z1 zl hi hz0 hz1 hz2
            go_wp2
            go_roundw
            case rel => exact ⟨k + 1, by omega, by go_num, by rw [HW.out], HO.out.1, HTI.out, by rw [HW.out]; exact HO.out.2.2.1, HO.out.2.1, HO.out.2.2.2⟩
            case measure => simp [intOf]; omega
        case hB => kernel_rfl
        all_goals rfl
      · obtain rfl : d' = 3 := by rw [← HD.out]; decide
        have hqx : q'.x = q.x := by rw [← HQ.out]; rfl
        have hqy : q'.y = q.y - 1 := by rw [← HQ.out]; rfl
        have HQX := Lib.hid hqx
        have HQY := Lib.hid hqy
        clear hqx hqy
        go_wp2_with fail
        refine (hax _ ((hv.below hb).more hb.size)).mono ?_
        rintro e w3 ⟨rfl, hb1⟩
        replace hb := hb.trans (hb1.mono hb.size)
        replace hblk := hblk.keep hb1
        replace hwy := hwy.keep hb1
        replace hown := ownsRow_below hown hb1
        clear z0 z1 hb1 hax hsz
        go_wp2_with fail
        have c0 : ∀ W, Below w3.heap.size w3 W → W.cell? ⟨w.heap.size, 0, none⟩ = some (.int .i64 q.x) := fun W hW => (hblk.keep hW).cell rfl
        have c1 : ∀ W, Below w3.heap.size w3 W → W.cell? ⟨w.heap.size, 1, none⟩ = some (.int .i64 q.y) := fun W hW => (hblk.keep hW).cell rfl
        have v0 : ∀ W, Below w3.heap.size w3 W → W.cell? ⟨wb, 6, none⟩ = some (.int .i64 (0)) := fun W hW => (hwy.keep hW).cell rfl
        have v1 : ∀ W, Below w3.heap.size w3 W → W.cell? ⟨wb, 7, none⟩ = some (.int .i64 (-1)) := fun W hW => (hwy.keep hW).cell rfl
        have e1 : IntKind.i64.wrap (q.x + (0)) = q'.x := by rw [HQX.out, IntKind.wrap_i64]; omega
        have e2 : IntKind.i64.wrap (q.y + (-1)) = q'.y := by rw [HQY.out, IntKind.wrap_i64]; omega
        have e3 : IntKind.i64.wrap (q.x) = q'.x := by rw [HQX.out, IntKind.wrap_i64]; omega
        have e4 : IntKind.i64.wrap (q.y - 1) = q'.y := by rw [HQY.out, IntKind.wrap_i64]; omega
        apply wp_region_head 15 82 (hm := by kernel_rfl) (hN := rfl)
        case h =>
          simp only [List.take_succ_cons, List.take_zero]
          iterate 15 (apply head_still rfl; (intro W hW; go_simp; (try rfl)))
          refine head_nil ?_
          intro W hW hFF
          replace hb := hb.trans (hW.mono hb.size)
          replace hblk := hblk.keep hW
          replace hwy := hwy.keep hW
          replace hown := ownsRow_below hown hW
          clear c0 c1 v0 v1 e1 e2 e3 e4 hW hFF
          have n1 := Lib.hid (hblk.setPt (.int .i64 q'.x) (.int .i64 q'.y))
          have n2 := Lib.hid (below_setPt hb (Nat.le_refl _) (.int .i64 q'.x) (.int .i64 q'.y))
          have n3 := Lib.hid (ownsRow_setCell_below (ownsRow_setCell_below hown (a := ⟨w.heap.size, 0, none⟩) (by simp only; omega) (.int .i64 q'.x)) (a := ⟨w.heap.size, 1, none⟩) (by simp only; omega) (.int .i64 q'.y))
          have n4 := Lib.hid ((hwy.far (p := ⟨w.heap.size, 0, none⟩) (by simp only; omega) (.int .i64 q'.x)).far (p := ⟨w.heap.size, 1, none⟩) (by simp only; omega) (.int .i64 q'.y))
          have z0 := hblk.cell (i := 0) rfl
          have z1 := hblk.cell (i := 1) rfl
          have zf := hblk.frozen
          have zl := hblk.lt
          go_wp2_with fail
          clear z0 z1 zf zl
          replace hblk := n1.out
          replace hb := n2.out
          replace hown := n3.out
          replace hwy := n4.out
          clear n1 n2 n3 n4
          generalize World.setCell _ _ _ = w5 at hblk hb hown hwy ⊢
          refine (hin _).mono ?_
          rintro e w6 ⟨rfl, hb1⟩
          replace hb := hb.trans (hb1.mono hb.size)
          replace hblk := hblk.keep hb1
          replace hwy := hwy.keep hb1
          replace hown := ownsRow_below hown hb1
          clear hb1 hin
          have z0 := hblk.cell (i := 0) rfl
          have z1 := hblk.cell (i := 1) rfl
          have zl := hblk.lt
          cases hi : inB q'.x q'.y with
          | false =>
            have HO := Lib.hid (traceE_out HE.out HA.out (traceIn_no (l := l) (p := p) (h := h) (k := k + 1) (by rw [HW.out]; exact hi) (by simp; omega)))
            clear hi
            go_wp2_with fail
            go_ret2
            exact trace_none HO.out.1 HO.out.2 hb
          | true =>
            have HTI := Lib.hid (show traceIn l p h (k + 1) = true by rw [HTR.out, HT.out]; simpa [ptIn] using hi)
            clear hi
            obtain ⟨hi, hz0, hz1, hz2⟩ := HI.out
            have hb5 := hb.size
            have hwl := hwy.lt
            go_wp2_with (at_builtin; refine wpList_append_own _ rfl _ _ 25 rfl (wb + 1) 24 i0 (.agg #[.int .i64 0, .int .i64 0]) 2 16 Try.underlying25 hi hz0 hz1 hz2 rfl (by decide) _ _ _ rfl (hown.alloc _) ⟨w6.heap.size, 0, none⟩ 1 1 (Pt.cells q') rfl rfl ?c1 ?c2 ?c3 ?c4 ?c5 ?_)
            case c1 => exact cells_new_pt w6 q' _
            case c2 => exact cells_one_pt q'
            case c3 => unfold maxLen; omega
            case c4 => omega
            case c5 => simp; omega
            intro v' w7 hown3 hgrow _
            rw [← flat_one, ← HPT.out] at hown3
            have hb6 := (hb.trans ((below_alloc w6 _).mono hb.size)).grown hgrow (by simp; omega) (fun r hr => by have := (hown.lt r hr).1; omega)
            have hblk7 := (hblk.alloc (.cells #[.int .i64 q'.x, .int .i64 q'.y] 24)).grown hgrow (fun e => by have := (hown.lt _ e.symm).1; omega)
            have hwy7 := (hwy.alloc (.cells #[.int .i64 q'.x, .int .i64 q'.y] 24)).grown hgrow (fun e => by have := (hown.lt _ e.symm).1; omega)
            have HO := Lib.hid (show _ ∧ _ ∧ _ ∧ _ from ⟨hown3, hb6, hblk7, hwy7⟩)
            clear hown3 hgrow hown hb hb6 hblk hblk7 hwy hwy7 z0 z1 zl hi hz0 hz1 hz2
            go_wp2
            go_roundw
            case rel => exact ⟨k + 1, by omega, by go_num, by rw [HW.out], HO.out.1, HTI.out, by rw [HW.out]; exact HO.out.2.2.1, HO.out.2.1, HO.out.2.2.2⟩
            case measure => simp [intOf]; omega
        case hB => kernel_rfl
        all_goals rfl
    · obtain rfl : k = S := by omega
      have HO := Lib.hid (traceE_ok (l := l) (p := p) (h := h) (s := (k : Int)) HE.out HA.out (by simpa using HT.out))
      obtain ⟨A', cap', rfl, hcap, hvs⟩ := Recs.of_own Pt.cells_len (ptsP_length l p h k) hown
      have HVS := Lib.hid (show _ ∧ _ from ⟨hcap, hvs⟩)
      clear hown hvs hv hcap ht
      go_wp2_with fail
      go_ret2
      refine retM ?_ hb
      unfold TraceRet
      rw [HO.out.1, HO.out.2, Int.toNat_natCast, ptsP_length]
      exact ⟨A', cap', rfl, HVS.out.1, HVS.out.2⟩

set_option maxRecDepth 100000 in
set_option maxHeartbeats 2000000 in
theorem trace_field (A : Option Addr) (n cap : Nat) (l : List Pull) (p : Pt) (h s : Int) (w : World) (hn : l.length = n) (hl : n ≤ 4611686018427387904) (hv : Recs Pull.cells 5 w w.heap.size A l) (h64 : ∀ u ∈ l, u.In64) (hf : fieldE l = 4 ∨ fieldE l = 8) :
    Calls Try.prog 10 #[.slice A n cap, p.v, .int .u8 h, .int .i64 s] w (RetM w (TraceRet l p h s)) := by
  have HN := Lib.hid hn
  have x1 := Lib.hid (below_alloc w (.cells #[.int .i64 p.x, .int .i64 p.y] 24))
  have HO := Lib.hid (traceE_field (l := l) (p := p) (h := h) (s := s) (by omega))
  have c1 := fun w hv => check_any A n cap l w hn hl hv h64
  clear hn
  rcases hf with hf | hf
  all_goals
    have HF := Lib.hid hf
    rw [hf] at c1
    clear hf
    go_enter Try.func10, Try.ntmps10
    go_wp2_with fail
    replace x1 := x1.out
    generalize World.alloc _ _ = w0 at x1 ⊢
    refine (c1 _ ((hv.below x1).more x1.size)).mono ?_
    rintro e w1 ⟨rfl, hb1⟩
    replace x1 := x1.trans (hb1.mono x1.size)
    clear hb1
    go_wp2_with fail
    go_ret2
    exact trace_none (HO.out.1.trans HF.out) HO.out.2 x1

set_option maxRecDepth 100000 in
set_option maxHeartbeats 2000000 in
theorem trace_arg (A : Option Addr) (n cap : Nat) (l : List Pull) (p : Pt) (h s : Int) (w : World) (hn : l.length = n) (hv : Recs Pull.cells 5 w w.heap.size A l) (h64 : ∀ u ∈ l, u.In64) (hf : Fine l) (hp : p.In64) (ha : ¬ TraceArg p h s) :
    Calls Try.prog 10 #[.slice A n cap, p.v, .int .u8 h, .int .i64 s] w (RetM w (TraceRet l p h s)) := by
  have HO := Lib.hid (traceE_arg (fieldE_ok hf) ha)
  have c1 := fun w hv => check_any A n cap l w hn (by have := hf.1; omega) hv h64
  rw [fieldE_ok hf] at c1
  have c2 := fun w => inside_any p w hp
  have x1 := below_alloc w (.cells #[.int .i64 p.x, .int .i64 p.y] 24)
  have x3 := Blk.new w 24 #[.int .i64 p.x, .int .i64 p.y]
  have hx := Lib.hid (show _ ∧ _ from ⟨x1, x3⟩)
  have hbad := arg_bad ha
  clear hn hf ha x1 x3 hp
  rcases hbad with h1 | ⟨h1, h2⟩ | ⟨h1, h2, h3⟩ | ⟨h1, h2, h3, h4⟩
  all_goals
    rw [h1] at c2
    clear h1
    go_enter Try.func10, Try.ntmps10
    go_wp2_with fail
    obtain ⟨x1, x3⟩ := hx.out
    generalize World.alloc _ _ = w0 at x1 x3 ⊢
    refine (c1 _ ((hv.below x1).more x1.size)).mono ?_
    rintro e w1 ⟨rfl, hb1⟩
    replace x1 := x1.trans (hb1.mono x1.size)
    replace x3 := x3.keep hb1
    have y0 := x3.cell (i := 0) rfl
    have y1 := x3.cell (i := 1) rfl
    clear hb1 hx
    go_wp2_with fail
    refine (c2 _).mono ?_
    rintro e w2 ⟨rfl, hb1⟩
    replace x1 := x1.trans (hb1.mono x1.size)
    clear hb1 hv c1 c2 y0 y1 x3
    go_wp2_with fail
    go_ret2
    exact trace_none HO.out.1 HO.out.2 x1

theorem trace_any (A : Option Addr) (n cap : Nat) (l : List Pull) (p : Pt) (h s : Int) (w : World) (hn : l.length = n) (hl : n ≤ 4611686018427387904) (hv : Recs Pull.cells 5 w w.heap.size A l) (h64 : ∀ u ∈ l, u.In64) (hp : p.In64) (h0 : 0 ≤ h) :
    Calls Try.prog 10 #[.slice A n cap, p.v, .int .u8 h, .int .i64 s] w (RetM w (TraceRet l p h s)) := by
  rcases fieldE_cases l with ⟨hf, -⟩ | ⟨-, hf⟩
  · by_cases ha : TraceArg p h s
    · exact trace_ok A n cap l p h s w hn hv h64 hf ha h0
    · exact trace_arg A n cap l p h s w hn hv h64 hf hp ha
  · exact trace_field A n cap l p h s w hn hl hv h64 hf
end Go.Proofs.Ytmomjjjfjjgepaa
