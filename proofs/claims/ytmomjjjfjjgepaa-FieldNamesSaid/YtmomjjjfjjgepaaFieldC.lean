/- The reference's values, axes and heads. -/
import Derived.Test.YtmomjjjfjjgepaaFieldB
namespace Go.Proofs.Ytmomjjjfjjgepaa
open Go.RowKit Go.Rel

theorem adx_bound {u : Pull} {p : Pt} (hu : inB u.x u.y = true) (hp : inB p.x p.y = true) : (-2000000 ≤ p.x - u.x ∧ p.x - u.x ≤ 2000000 ∧ 0 ≤ adx u p ∧ adx u p ≤ 2000000) ∧ (-2000000 ≤ p.y - u.y ∧ p.y - u.y ≤ 2000000 ∧ 0 ≤ ady u p ∧ ady u p ≤ 2000000) := by
  have h1 := inB_iff.1 hu
  have h2 := inB_iff.1 hp
  unfold adx ady
  omega

set_option maxHeartbeats 4000000 in
theorem one_any (u : Pull) (p : Pt) (w : World) (hu : pullB u = true) (hp : inB p.x p.y = true) :
    Calls Try.prog 37 #[u.v, p.v] w (Ret w (.int .i64 (oneP u p))) := by
  obtain ⟨⟨u1, u2⟩, u3, u4, u5, u6, u7⟩ := pullB_iff.1 hu
  obtain ⟨⟨q1, q2, q3, q4⟩, q5, q6, q7, q8⟩ := adx_bound u3 hp
  obtain ⟨ux1, ux2, ux3, ux4⟩ := inB_iff.1 u3
  obtain ⟨px1, px2, px3, px4⟩ := inB_iff.1 hp
  have hO : oneP u p = if u.reach < far u p then 0 else signP u.kind (adx u p) (ady u p) * (u.weight * (u.reach + 1 - far u p)) := rfl
  have hF : far u p = imax (adx u p) (ady u p) := rfl
  have eX : ((p.x - u.x).natAbs : Int) = adx u p := rfl
  have eY : ((p.y - u.y).natAbs : Int) = ady u p := rfl
  rw [hF] at hO
  obtain ⟨X, hX⟩ : ∃ X, adx u p = X := ⟨_, rfl⟩
  obtain ⟨Y, hY⟩ : ∃ Y, ady u p = Y := ⟨_, rfl⟩
  rw [hX] at hO eX q3 q4
  rw [hY] at hO eY q7 q8
  rw [hX, hY] at hF
  obtain ⟨F, hFF⟩ : ∃ F, imax X Y = F := ⟨_, rfl⟩
  have hF0 : 0 ≤ F ∧ F ≤ 2000000 := by rw [← hFF]; unfold imax; split <;> omega
  obtain ⟨f1, f2⟩ := hF0
  rw [hFF] at hO
  have HO := Lib.hid hO
  have EX := Lib.hid eX
  have EY := Lib.hid eY
  have hmax := @run_imax Try.prog
  have sz1 := fun w => size_any (p.x - u.x) w (by omega) (by omega)
  have sz2 := fun w => size_any (p.y - u.y) w (by omega) (by omega)
  rw [eX] at sz1
  rw [eY] at sz2
  obtain ⟨x1, x2, x3, x4⟩ := boxes2 w #[.int .i64 u.x, .int .i64 u.y, .int .u8 u.kind, .int .i64 u.weight, .int .i64 u.reach] #[.int .i64 p.x, .int .i64 p.y] 52 24
  have hx := Lib.hid (show _ ∧ _ ∧ _ ∧ _ from ⟨x1, x2, x3, x4⟩)
  clear x1 x2 x3 x4 hO eX eY hF hX hY hu hp u3
  by_cases hfar : u.reach < F
  · go_enter Try.func37, Try.ntmps37
    go_wp2_with fail
    obtain ⟨x1, x2, x3, x4⟩ := hx.out
    generalize World.alloc _ _ = w0 at x1 x2 x3 x4 ⊢
    replace x3 : Blk w0 _ _ _ := x3
    replace x4 : Blk w0 _ _ _ := x4
    have y0 : ∀ W, Below w0.heap.size w0 W → W.cell? ⟨w.heap.size, 0, none⟩ = some (.int .i64 u.x) := fun W hW => (x3.keep hW).cell rfl
    have y1 : ∀ W, Below w0.heap.size w0 W → W.cell? ⟨w.heap.size, 1, none⟩ = some (.int .i64 u.y) := fun W hW => (x3.keep hW).cell rfl
    have z0 : ∀ W, Below w0.heap.size w0 W → W.cell? ⟨w.heap.size + 1, 0, none⟩ = some (.int .i64 p.x) := fun W hW => (x4.keep hW).cell rfl
    have z1 : ∀ W, Below w0.heap.size w0 W → W.cell? ⟨w.heap.size + 1, 1, none⟩ = some (.int .i64 p.y) := fun W hW => (x4.keep hW).cell rfl
    clear x2
    have wr1 : IntKind.i64.wrap (p.x - u.x) = p.x - u.x := by rw [IntKind.wrap_i64]; omega
    have wr2 : IntKind.i64.wrap (p.y - u.y) = p.y - u.y := by rw [IntKind.wrap_i64]; omega
    apply wp_region_head 14 63 (hm := by kernel_rfl) (hN := rfl)
    case h =>
      simp only [List.take_succ_cons, List.take_zero]
      iterate 6 (apply head_still rfl; (intro W hW; go_simp; (try rfl)))
      (apply head_call rfl; (intro W; go_simp; exact ⟨rfl, rfl⟩); (intro W hW; exact (sz1 W).mono fun e W' h => h.ret))
      iterate 6 (apply head_still rfl; (intro W hW; go_simp; (try rfl)))
      (apply head_call rfl; (intro W; go_simp; exact ⟨rfl, rfl⟩); (intro W hW; exact (sz2 W).mono fun e W' h => h.ret))
      refine head_nil ?_
      intro W hW hF
      replace x1 := x1.trans (hW.mono x1.size)
      replace x3 := x3.keep hW
      clear y0 y1 z0 z1 hW hF x4 sz1 sz2 wr1 wr2
      have y2 := x3.cell (i := 2) rfl
      have y3 := x3.cell (i := 3) rfl
      have y4 := x3.cell (i := 4) rfl
      go_wp2_with fail
      go_ret
      exact ret_int (by rw [HO.out, if_pos hfar]) x1
    case hB => kernel_rfl
    all_goals rfl
  · have hfar' : F ≤ u.reach := by omega
    obtain ⟨m1, m2⟩ := mul_le_all (a := u.weight) (b := u.reach + 1 - F) (A := 1000000) (B := 1000001) (by omega) u5 (by omega) (by omega)
    have hcase : (u.kind = 1 ∨ u.kind = 2 ∨ u.kind = 3 ∨ u.kind = 4) ∧ (X < Y ∨ X = Y ∨ Y < X) := by omega
    have HC := Lib.hid hcase
    clear hcase
    go_enter Try.func37, Try.ntmps37
    go_wp2_with fail
    obtain ⟨x1, x2, x3, x4⟩ := hx.out
    generalize World.alloc _ _ = w0 at x1 x2 x3 x4 ⊢
    replace x3 : Blk w0 _ _ _ := x3
    replace x4 : Blk w0 _ _ _ := x4
    have y0 : ∀ W, Below w0.heap.size w0 W → W.cell? ⟨w.heap.size, 0, none⟩ = some (.int .i64 u.x) := fun W hW => (x3.keep hW).cell rfl
    have y1 : ∀ W, Below w0.heap.size w0 W → W.cell? ⟨w.heap.size, 1, none⟩ = some (.int .i64 u.y) := fun W hW => (x3.keep hW).cell rfl
    have z0 : ∀ W, Below w0.heap.size w0 W → W.cell? ⟨w.heap.size + 1, 0, none⟩ = some (.int .i64 p.x) := fun W hW => (x4.keep hW).cell rfl
    have z1 : ∀ W, Below w0.heap.size w0 W → W.cell? ⟨w.heap.size + 1, 1, none⟩ = some (.int .i64 p.y) := fun W hW => (x4.keep hW).cell rfl
    clear x2
    have wr1 : IntKind.i64.wrap (p.x - u.x) = p.x - u.x := by rw [IntKind.wrap_i64]; omega
    have wr2 : IntKind.i64.wrap (p.y - u.y) = p.y - u.y := by rw [IntKind.wrap_i64]; omega
    apply wp_region_head 14 63 (hm := by kernel_rfl) (hN := rfl)
    case h =>
      simp only [List.take_succ_cons, List.take_zero]
      iterate 6 (apply head_still rfl; (intro W hW; go_simp; (try rfl)))
      (apply head_call rfl; (intro W; go_simp; exact ⟨rfl, rfl⟩); (intro W hW; exact (sz1 W).mono fun e W' h => h.ret))
      iterate 6 (apply head_still rfl; (intro W hW; go_simp; (try rfl)))
      (apply head_call rfl; (intro W; go_simp; exact ⟨rfl, rfl⟩); (intro W hW; exact (sz2 W).mono fun e W' h => h.ret))
      refine head_nil ?_
      intro W hW hF
      replace x1 := x1.trans (hW.mono x1.size)
      replace x3 := x3.keep hW
      clear y0 y1 z0 z1 hW hF x4 sz1 sz2 wr1 wr2
      have y2 := x3.cell (i := 2) rfl
      have y3 := x3.cell (i := 3) rfl
      have y4 := x3.cell (i := 4) rfl
      have hN : ∃ N, u.weight * (u.reach + 1 - F) = N := ⟨_, rfl⟩
      obtain ⟨N, hN⟩ := hN
      rw [hN] at m1 m2
      have HN := Lib.hid hN
      obtain ⟨hk, hxy⟩ := HC.out
      rcases hk with hk | hk | hk | hk <;> rcases hxy with hxy | hxy | hxy
      all_goals
        have HK := Lib.hid hk
        have HXY := Lib.hid hxy
        rw [hk] at y2
        clear hk
        (try (subst hxy))
        (try (have hle : ¬ X < Y := by omega))
        go_wp2_with fail
        go_ret
        refine ret_int ?_ x1
        rw [HO.out, if_neg (by omega), HN.out, HK.out]
        have hxy := HXY.out
        unfold signP
        (repeat' split) <;> omega
    case hB => kernel_rfl
    all_goals rfl

set_option maxHeartbeats 1000000 in
theorem refSum_any (A : Option Addr) (n cap : Nat) (l : List Pull) (p : Pt) (w : World) (hn : l.length = n) (hv : Recs Pull.cells 5 w w.heap.size A l) (hf : Fine l) (hp : inB p.x p.y = true) :
    Calls Try.prog 34 #[.slice A n cap, p.v] w (Ret w (.int .i64 (valueP l p))) := by
  have hl : n ≤ 60 := by have := hf.1; omega
  have HN := Lib.hid hn
  have HP := Lib.hid hp
  have x3 := Blk.new w 24 #[.int .i64 p.x, .int .i64 p.y]
  have x1 := below_alloc w (.cells #[.int .i64 p.x, .int .i64 p.y] 24)
  have hx := Lib.hid (show _ ∧ _ from ⟨x1, x3⟩)
  clear hn hp x1 x3
  go_enter Try.func34, Try.ntmps34
  go_wp2_with fail
  obtain ⟨x1, x3⟩ := hx.out
  generalize World.alloc _ _ = w0 at x1 x3 ⊢
  go_loopw [5, 6] (fun s i wr => ∃ k : Nat, k ≤ n ∧ i = .int .i64 k ∧ s = .int .i64 (valueP (l.take k) p) ∧ Below w.heap.size w wr ∧ Blk wr w.heap.size 24 #[.int .i64 p.x, .int .i64 p.y]) (fun _ i _ => n - (intOf i).toNat)
  case atStart => exact ⟨0, Nat.zero_le _, rfl, rfl, x1, x3⟩
  case round =>
    obtain ⟨k, hk, rfl, rfl, hb, hblk⟩ := hrel
    clear x1 x3 hx
    by_cases hlt : k < n
    · have hlt' : k < l.length := by rw [HN.out]; exact hlt
      obtain ⟨b, off, rfl, hB, c0, c1, c2, c3, c4⟩ := pull_at (hv.below hb) hlt'
      have hs := hb.size
      have hu := hf.at_ hlt'
      obtain ⟨s1, s2⟩ := valueP_take_bound hf k p
      obtain ⟨t1, t2⟩ := valueP_take_bound hf (k + 1) p
      have hstep := valueP_take_succ l hlt' p
      rw [hstep] at t1 t2
      obtain ⟨u, hud⟩ : ∃ u, l[k] = u := ⟨_, rfl⟩
      rw [hud] at c0 c1 c2 c3 c4 hu hstep t1 t2
      have HS := Lib.hid hstep
      have HU := Lib.hid hu
      have wsum : IntKind.i64.wrap (valueP (l.take k) p + oneP u p) = valueP (l.take k) p + oneP u p := by rw [IntKind.wrap_i64]; omega
      have g0 : ∀ W, Below wr.heap.size wr W → W.cell? ⟨b, off + k * 5, none⟩ = some (.int .i64 u.x) := fun W hW => (hW.cell (p := ⟨b, off + k * 5, none⟩) (by simp only; omega)).trans c0
      have g1 : ∀ W, Below wr.heap.size wr W → W.cell? ⟨b, off + k * 5 + 1, none⟩ = some (.int .i64 u.y) := fun W hW => (hW.cell (p := ⟨b, off + k * 5 + 1, none⟩) (by simp only; omega)).trans c1
      have g2 : ∀ W, Below wr.heap.size wr W → W.cell? ⟨b, off + k * 5 + 2, none⟩ = some (.int .u8 u.kind) := fun W hW => (hW.cell (p := ⟨b, off + k * 5 + 2, none⟩) (by simp only; omega)).trans c2
      have g3 : ∀ W, Below wr.heap.size wr W → W.cell? ⟨b, off + k * 5 + 3, none⟩ = some (.int .i64 u.weight) := fun W hW => (hW.cell (p := ⟨b, off + k * 5 + 3, none⟩) (by simp only; omega)).trans c3
      have g4 : ∀ W, Below wr.heap.size wr W → W.cell? ⟨b, off + k * 5 + 4, none⟩ = some (.int .i64 u.reach) := fun W hW => (hW.cell (p := ⟨b, off + k * 5 + 4, none⟩) (by simp only; omega)).trans c4
      have y0 : ∀ W, Below wr.heap.size wr W → W.cell? ⟨w.heap.size, 0, none⟩ = some (.int .i64 p.x) := fun W hW => (hblk.keep hW).cell rfl
      have y1 : ∀ W, Below wr.heap.size wr W → W.cell? ⟨w.heap.size, 1, none⟩ = some (.int .i64 p.y) := fun W hW => (hblk.keep hW).cell rfl
      have hlt2 : (k : Int) < n := by omega
      clear hv hstep hu c0 c1 c2 c3 c4 hud
      go_wp2_with fail
      apply wp_region_head 8 22 (hm := by kernel_rfl) (hN := rfl)
      case h =>
        simp only [List.take_succ_cons, List.take_zero]
        iterate 6 (apply head_still rfl; (intro W hW; go_simp; (try rfl)))
        (apply head_call rfl; (intro W; go_simp; exact ⟨rfl, rfl⟩); (intro W hW; exact one_any u p W HU.out HP.out))
        iterate 1 (apply head_still rfl; (intro W hW; go_simp; (try rfl)))
        refine head_nil ?_
        intro W hW hF
        replace hb := hb.trans (hW.mono hb.size)
        replace hblk := hblk.keep hW
        clear hW hF g0 g1 g2 g3 g4 y0 y1
        go_wp2_with fail
        go_roundw
        case rel => exact ⟨k + 1, by omega, by go_num, by rw [HS.out], hb, hblk⟩
        case measure => simp [intOf]; omega
      case hB => kernel_rfl
      all_goals rfl
    · obtain rfl : k = n := by omega
      have HT := Lib.hid (show l.take k = l by rw [← HN.out, List.take_length])
      clear hv
      go_wp2_with fail
      go_ret
      exact ret_int (by rw [HT.out]) hb

theorem along_any (A : Option Addr) (n cap : Nat) (l : List Pull) (p : Pt) (w : World) (hn : l.length = n) (hv : Recs Pull.cells 5 w w.heap.size A l) (hf : Fine l) (hp : inB p.x p.y = true) :
    Calls Try.prog 35 #[.slice A n cap, p.v] w (Ret w (.int .u8 (axisP (valueP l p)))) := by
  have x1 := below_alloc w (.cells #[.int .i64 p.x, .int .i64 p.y] 24)
  have hx := Lib.hid x1
  have HN := Lib.hid hn
  have HP := Lib.hid hp
  clear hn hp x1
  obtain ⟨v, hv'⟩ : ∃ v, valueP l p = v := ⟨_, rfl⟩
  rw [hv']
  have HV := Lib.hid hv'
  clear hv'
  have hcase : (0 < v ∧ axisP v = 0) ∨ (v = 0 ∧ axisP v = 2) ∨ (v < 0 ∧ axisP v = 1) := by
    unfold axisP
    rcases Int.lt_trichotomy v 0 with h | h | h
    · exact .inr (.inr ⟨h, by rw [if_neg (by omega), if_pos h]⟩)
    · exact .inr (.inl ⟨h, by rw [h]; rfl⟩)
    · exact .inl ⟨h, if_pos h⟩
  have HC := Lib.hid hcase
  clear hcase
  go_enter Try.func35, Try.ntmps35
  go_wp2_with fail
  have x1 := hx.out
  generalize World.alloc _ _ = w0 at x1 ⊢
  refine (refSum_any A n cap l p _ HN.out ((hv.below x1).more x1.size) hf HP.out).mono ?_
  rintro e w1 ⟨rfl, hb1⟩
  replace x1 := x1.trans (hb1.mono x1.size)
  rw [HV.out]
  have hc := HC.out
  clear HV HC hb1
  rcases hc with ⟨h, h2⟩ | ⟨h, h2⟩ | ⟨h, h2⟩
  · have H2 := Lib.hid h2
    clear h2
    go_wp2_with fail
    go_ret
    exact ret_int H2.out.symm x1
  · have H2 := Lib.hid h2
    subst h
    clear h2
    go_wp2_with fail
    go_ret
    exact ret_int H2.out.symm x1
  · have H2 := Lib.hid h2
    have h' : ¬ 0 < v := by omega
    clear h2
    go_wp2_with fail
    go_ret
    exact ret_int H2.out.symm x1

theorem headed_any (A : Option Addr) (n cap : Nat) (l : List Pull) (p : Pt) (h : Int) (w : World) (hn : l.length = n) (hv : Recs Pull.cells 5 w w.heap.size A l) (hf : Fine l) (hp : inB p.x p.y = true) (h1 : 0 ≤ h) (h2 : h ≤ 3) :
    Calls Try.prog 31 #[.slice A n cap, p.v, .int .u8 h] w (Ret w (.int .u8 (headP (axisP (valueP l p)) h))) := by
  have x1 := below_alloc w (.cells #[.int .i64 p.x, .int .i64 p.y] 24)
  have hx := Lib.hid x1
  have HN := Lib.hid hn
  have HP := Lib.hid hp
  clear hn hp x1
  obtain ⟨a1, a2⟩ := axisP_bound (valueP l p)
  obtain ⟨a, ha⟩ : ∃ a, axisP (valueP l p) = a := ⟨_, rfl⟩
  rw [ha] at a1 a2 ⊢
  have HA := Lib.hid ha
  clear ha
  have hc : (a = 0 ∨ a = 1 ∨ a = 2) ∧ (h = 0 ∨ h = 1 ∨ h = 2 ∨ h = 3) := by omega
  clear a1 a2 h1 h2
  obtain ⟨ha, hh⟩ := hc
  rcases ha with rfl | rfl | rfl <;> rcases hh with rfl | rfl | rfl | rfl
  all_goals
   go_enter Try.func31, Try.ntmps31
   go_wp2_with fail
   have x1 := hx.out
   generalize World.alloc _ _ = w0 at x1 ⊢
   refine (along_any A n cap l p _ HN.out ((hv.below x1).more x1.size) hf HP.out).mono ?_
   rintro e w1 ⟨rfl, hb1⟩
   replace x1 := x1.trans (hb1.mono x1.size)
   rw [HA.out]
   go_wp2_with fail
   go_ret
   exact ret_int (by decide) x1

set_option maxHeartbeats 1000000 in
theorem ahead_any (p : Pt) (h : Int) (w : World) (hp : inB p.x p.y = true) (h1 : 0 ≤ h) (h2 : h ≤ 3) :
    Calls Try.prog 32 #[p.v, .int .u8 h] w (Ret w (stepP p h).v) := by
  obtain ⟨x, y⟩ := p
  obtain ⟨px1, px2, px3, px4⟩ := inB_iff.1 hp
  simp only at px1 px2 px3 px4
  clear hp
  have hc : h = 0 ∨ h = 1 ∨ h = 2 ∨ h = 3 := by omega
  rcases hc with rfl | rfl | rfl | rfl
  all_goals
    go_enter Try.func32, Try.ntmps32
    go_wp2_with fail
    refine bodyPost_ret (v := (stepP ⟨x, y⟩ _).v) (by simp [results, Try.results32, go_sem, stepP]) rfl ⟨rfl, ?_⟩
    exact ((Below.refl _ _).alloc (Nat.le_refl _) _).alloc (by simp) _
end Go.Proofs.Ytmomjjjfjjgepaa
