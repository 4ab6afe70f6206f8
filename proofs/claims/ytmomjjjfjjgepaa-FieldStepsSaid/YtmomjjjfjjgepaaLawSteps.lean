/- The law 'FieldSteps': a trace has one point more than steps, each one beside the one before, along the axis at that one; with fewer steps it is its beginning. For every field, point, head and number. -/
import Derived.Test.YtmomjjjfjjgepaaFieldL
import Derived.Test.YtmomjjjfjjgepaaFieldM
import Derived.Test.YtmomjjjfjjgepaaFieldRow
namespace Go.Rel
open Go.RowKit
theorem Recs.take {α : Type} {cells : α → List Value} {z : Nat} {w : World} {B : Nat} {A : Option Addr} {l : List α} (h : Recs cells z w B A l) (m : Nat) : Recs cells z w B A (l.take m) := fun hl => by
  obtain ⟨b, off, e, hb, hc⟩ := h (by rw [List.length_take] at hl; omega)
  refine ⟨b, off, e, hb, fun i v hi j u hj => hc i v ?_ j u hj⟩
  rw [List.getElem?_take] at hi
  split at hi
  · exact hi
  · cases hi
end Go.Rel
namespace Go.Proofs.Ytmomjjjfjjgepaa
open Go.RowKit Go.Rel

set_option maxRecDepth 100000 in
set_option maxHeartbeats 4000000 in
theorem steps_bad (A : Option Addr) (n cap : Nat) (l : List Pull) (p : Pt) (h s : Int) (w : World) (hn : l.length = n) (hl : n ≤ 9223372036854775807) (hv : Recs Pull.cells 5 w w.heap.size A l) (h64 : ∀ u ∈ l, u.In64) (hp : p.In64)
    (hbad : ¬ (Fine l ∧ inB p.x p.y = true) ∨ ((Fine l ∧ inB p.x p.y = true) ∧ 3 < h) ∨ ((Fine l ∧ inB p.x p.y = true) ∧ h ≤ 3 ∧ s < 0) ∨ ((Fine l ∧ inB p.x p.y = true) ∧ h ≤ 3 ∧ 0 ≤ s ∧ 500 < s)) :
    Calls Try.prog 6 #[.slice A n cap, p.v, .int .u8 h, .int .i64 s] w (Ret w (.bool true)) := by
  have c1 := fun w hv => valid_all A n cap l p w hn hl hv h64 hp
  have x1 := below_alloc w (.cells #[.int .i64 p.x, .int .i64 p.y] 24)
  have x3 := Blk.new w 24 #[.int .i64 p.x, .int .i64 p.y]
  have hx := Lib.hid (show _ ∧ _ from ⟨x1, x3⟩)
  clear hn x1 x3 h64 hp
  rcases hbad with hb | ⟨hb, h2⟩ | ⟨hb, h2, h3⟩ | ⟨hb, h2, h3, h4⟩
  all_goals
    first | rw [decide_eq_false hb] at c1 | rw [decide_eq_true hb] at c1
    clear hb
    go_enter Try.func6, Try.ntmps6
    go_wp2_with fail
    obtain ⟨x1, x3⟩ := hx.out
    generalize World.alloc _ _ = w0 at x1 x3 ⊢
    refine (c1 _ ((hv.below x1).more x1.size)).mono ?_
    rintro e w1 ⟨rfl, hb1⟩
    replace x1 := x1.trans (hb1.mono x1.size)
    clear hb1 hx c1 hv x3
    go_wp2_with fail
    refine (alive_any _).mono ?_
    rintro e w2 ⟨rfl, hb1⟩
    replace x1 := x1.trans (hb1.mono x1.size)
    clear hb1
    go_wp2_with fail
    go_ret
    exact ret_bool rfl x1

set_option maxRecDepth 100000 in
set_option maxHeartbeats 4000000 in
theorem steps_out (A : Option Addr) (n cap : Nat) (l : List Pull) (p : Pt) (h s : Int) (w : World) (hn : l.length = n) (hl : n ≤ 4611686018427387904) (hv : Recs Pull.cells 5 w w.heap.size A l) (h64 : ∀ u ∈ l, u.In64) (hp : p.In64) (h0 : 0 ≤ h)
    (hf : Fine l) (ha : TraceArg p h s) (h1 : traceE l p h s = 16) (h2 : traceL l p h s = []) (h3 : 0 < s) :
    Calls Try.prog 6 #[.slice A n cap, p.v, .int .u8 h, .int .i64 s] w (Ret w (.bool true)) := by
  have c1 := fun w hv => valid_any A n cap l p w hn hl hv h64 hp
  have c2 := fun w hv => trace_any A n cap l p h s w hn hl hv h64 hp h0
  rw [decide_eq_true ⟨hf, ha.1⟩] at c1
  obtain ⟨-, a2, a3, a4⟩ := ha
  have x1 := below_alloc w (.cells #[.int .i64 p.x, .int .i64 p.y] 24)
  have x3 := Blk.new w 24 #[.int .i64 p.x, .int .i64 p.y]
  have hx := Lib.hid (show _ ∧ _ from ⟨x1, x3⟩)
  have H1 := Lib.hid h1
  have H2 := Lib.hid h2
  clear hn x1 x3 h64 hp hf h1 h2
  go_enter Try.func6, Try.ntmps6
  go_wp2_with fail
  obtain ⟨x1, x3⟩ := hx.out
  generalize World.alloc _ _ = w0 at x1 x3 ⊢
  refine (c1 _ ((hv.below x1).more x1.size)).mono ?_
  rintro e w1 ⟨rfl, hb1⟩
  replace x1 := x1.trans (hb1.mono x1.size)
  replace x3 := x3.keep hb1
  have y0 := x3.cell (i := 0) rfl
  have y1 := x3.cell (i := 1) rfl
  clear hb1 hx c1
  go_wp2_with fail
  refine (c2 _ ((hv.below x1).more x1.size)).mono ?_
  rintro e w2 ⟨v, rfl, ⟨A1, cap1, rfl, -, -⟩, hb1⟩
  rw [H1.out, H2.out]
  replace x1 := x1.trans (hb1.mono x1.size)
  clear hb1 hv c2 y0 y1 x3
  go_wp2_with fail
  refine (alive_any _).mono ?_
  rintro e w3 ⟨rfl, hb1⟩
  replace x1 := x1.trans (hb1.mono x1.size)
  clear hb1
  go_wp2_with fail
  go_ret
  exact ret_bool rfl x1

set_option maxRecDepth 100000 in
set_option maxHeartbeats 8000000 in
theorem steps_ok (A : Option Addr) (n cap : Nat) (l : List Pull) (p : Pt) (h : Int) (S : Nat) (w : World) (hn : l.length = n) (hl : n ≤ 4611686018427387904) (hv : Recs Pull.cells 5 w w.heap.size A l) (h64 : ∀ u ∈ l, u.In64) (hp : p.In64) (h0 : 0 ≤ h)
    (hf : Fine l) (ha : TraceArg p h S) (hti : traceIn l p h S = true) :
    Calls Try.prog 6 #[.slice A n cap, p.v, .int .u8 h, .int .i64 S] w (Ret w (.bool true)) := by
  obtain ⟨H, hH⟩ : ∃ H : Nat, (S : Int) / 2 = H := ⟨S / 2, by omega⟩
  have hHS : H ≤ S := by omega
  have c1 := fun w hv => valid_any A n cap l p w hn hl hv h64 hp
  have c2 := fun w hv => trace_any A n cap l p h S w hn hl hv h64 hp h0
  have c3 := fun w hv => trace_any A n cap l p h H w hn hl hv h64 hp h0
  have c4 := fun q w hv hq => axisF_any A n cap l q w hn hl hv h64 hq
  rw [decide_eq_true ⟨hf, ha.1⟩] at c1
  have h1 := traceE_ok (s := (S : Int)) (fieldE_ok hf) ha hti
  have h2 := traceE_ok (s := (H : Int)) (fieldE_ok hf) ⟨ha.1, ha.2.1, by omega, by have := ha.2.2.2; omega⟩ (traceIn_le hti hHS)
  obtain ⟨-, a2, a3, a4⟩ := ha
  have hS : S ≤ 500 := by omega
  have x1 := below_alloc w (.cells #[.int .i64 p.x, .int .i64 p.y] 24)
  have x3 := Blk.new w 24 #[.int .i64 p.x, .int .i64 p.y]
  have hx := Lib.hid (show _ ∧ _ from ⟨x1, x3⟩)
  have H1 := Lib.hid h1
  have H2 := Lib.hid h2
  have HFI := Lib.hid hf
  have HTI := Lib.hid hti
  have hm31 := Try.eqGuardPt
  have hself := ptB_self
  have hvn := ptNeq
  clear hn x1 x3 h64 hp hf h1 h2 hti
  go_enter Try.func6, Try.ntmps6
  go_wp2_with fail
  obtain ⟨x1, x3⟩ := hx.out
  generalize World.alloc _ _ = w0 at x1 x3 ⊢
  refine (c1 _ ((hv.below x1).more x1.size)).mono ?_
  rintro e w1 ⟨rfl, hb1⟩
  replace x1 := x1.trans (hb1.mono x1.size)
  replace x3 := x3.keep hb1
  have y0 := x3.cell (i := 0) rfl
  have y1 := x3.cell (i := 1) rfl
  clear hb1 hx c1
  go_wp2_with fail
  refine (c2 _ ((hv.below x1).more x1.size)).mono ?_
  rintro e w2 ⟨v, rfl, ⟨A1, cap1, rfl, hcap1, hv1⟩, hb1⟩
  rw [H1.out.1, H1.out.2, Int.toNat_natCast, ptsP_length]
  rw [H1.out.2, Int.toNat_natCast] at hcap1 hv1
  rw [ptsP_length] at hcap1
  replace x1 := x1.trans (hb1.mono x1.size)
  replace x3 := x3.keep hb1
  clear hb1 c2 y0 y1
  have y0 := x3.cell (i := 0) rfl
  have y1 := x3.cell (i := 1) rfl
  go_wp2_with fail
  refine (c3 _ ((hv.below x1).more x1.size)).mono ?_
  rintro e w3 ⟨v, rfl, ⟨A2, cap2, rfl, hcap2, hv2⟩, hb1⟩
  rw [H2.out.1, H2.out.2, Int.toNat_natCast, ptsP_length]
  rw [H2.out.2, Int.toNat_natCast] at hcap2 hv2
  rw [ptsP_length] at hcap2
  replace x1 := x1.trans (hb1.mono x1.size)
  replace x3 := x3.keep hb1
  replace hv1 := (hv1.below hb1).more hb1.size
  clear hb1 c3 y0 y1
  have hs0 := x3.lt
  obtain ⟨b, off, rfl, hB, c0, d0⟩ := pt_at (k := 0) hv1 (by rw [ptsP_length]; omega)
  have hp0 : (ptsP l p h S)[0]'(by rw [ptsP_length]; omega) = p := by
    have := ptsP_get l p h (show 0 ≤ S by omega)
    rw [List.getElem?_eq_getElem (by rw [ptsP_length]; omega)] at this
    simpa [walkP] using this
  rw [hp0] at c0 d0
  simp only [Nat.zero_mul, Nat.add_zero] at c0 d0
  go_wp2_with fail
  have g0 : ∀ W, Below w3.heap.size w3 W → W.cell? ⟨b, off, none⟩ = some (.int .i64 p.x) := fun W hW => (hW.cell (p := ⟨b, off, none⟩) hB).trans c0
  have g1 : ∀ W, Below w3.heap.size w3 W → W.cell? ⟨b, off + 1, none⟩ = some (.int .i64 p.y) := fun W hW => (hW.cell (p := ⟨b, off + 1, none⟩) hB).trans d0
  have e0 : ∀ W, Below w3.heap.size w3 W → W.cell? ⟨w.heap.size, 0, none⟩ = some (.int .i64 p.x) := fun W hW => (x3.keep hW).cell rfl
  have e1 : ∀ W, Below w3.heap.size w3 W → W.cell? ⟨w.heap.size, 1, none⟩ = some (.int .i64 p.y) := fun W hW => (x3.keep hW).cell rfl
  have c5 : ∀ W, Below w3.heap.size w3 W → Calls Try.prog 12 #[.slice A2 (H + 1) cap2, .slice (some ⟨b, off, none⟩) (H + 1) cap1] W (Ret W (.bool true)) := fun W hW => by
    have := samePts_any A2 (some ⟨b, off, none⟩) (H + 1) (H + 1) cap2 cap1 (ptsP l p h H) ((ptsP l p h S).take (H + 1)) W (ptsP_length _ _ _ _) (by rw [List.length_take, ptsP_length]; omega) (by omega) (by omega) ((hv2.below hW).more hW.size) (((hv1.below hW).more hW.size).take _)
    rw [ptsP_take l p h hHS] at this
    simpa using this
  clear c0 d0 hp0 hs0
  have wS : IntKind.i64.wrap ((S : Int) + 1) = (S : Int) + 1 := by rw [IntKind.wrap_i64]; omega
  have wH : IntKind.i64.wrap ((H : Int) + 1) = (H : Int) + 1 := by rw [IntKind.wrap_i64]; omega
  have hq2 : IntKind.i64.wrap ((S : Int).tdiv 2) = H := by rw [Int.tdiv_eq_ediv_of_nonneg (by omega), hH, IntKind.wrap_i64]; omega
  have wHH : IntKind.i64.wrap (H : Int) = H := by rw [IntKind.wrap_i64]; omega
  have hcapH : H + 1 ≤ cap1 := by omega
  have hcapH' : (H : Int) + 1 ≤ cap1 := by omega
  have hH0 : (0 : Int) ≤ (H : Int) + 1 := by omega
  have hHn : ((H : Int) + 1).toNat = H + 1 := by omega
  apply wp_region_head 34 166 (hm := by kernel_rfl) (hN := rfl)
  case h =>
    simp only [List.take_succ_cons, List.take_zero]
    iterate 31 (apply head_still (by kernel_rfl); (intro W hW; go_simp; (try rfl)))
    (apply head_call (by kernel_rfl); (intro W; go_simp; exact ⟨rfl, rfl⟩); (intro W hW; exact c5 W hW))
    iterate 2 (apply head_still (by kernel_rfl); (intro W hW; go_simp; (try rfl)))
    refine head_nil ?_
    intro w4 hW hFF
    replace x1 := x1.trans (hW.mono x1.size)
    replace hv1 := (hv1.below hW).more hW.size
    clear g0 g1 e0 e1 c5 wS wH hq2 hcapH hcapH' hH0 hHn wHH hW hFF hv2 x3 hB hcap2 hvn hself hm31
    go_wp2_with fail
    go_loopw [13] (fun i wr => ∃ j : Nat, j ≤ S ∧ i = .int .i64 ((j : Int) + 1) ∧ Below w4.heap.size w4 wr) (fun i _ => S + 1 - (intOf i).toNat)
    case atStart => exact ⟨0, Nat.zero_le _, rfl, Below.refl _ _⟩
    case round =>
      obtain ⟨j, hj, rfl, hb⟩ := hrel
      have hbw := x1.trans (hb.mono x1.size)
      have hjn : ((j : Int) + 1).toNat = j + 1 := by omega
      have hj0 : (0 : Int) ≤ (j : Int) + 1 := by omega
      by_cases hlt : j < S
      · obtain ⟨b1, off1, he1, hB1, k0, k1⟩ := pt_at (k := j) (hv1.below hb) (by rw [ptsP_length]; omega)
        obtain ⟨b2, off2, he2, hB2, k2, k3⟩ := pt_at (k := j + 1) (hv1.below hb) (by rw [ptsP_length]; omega)
        obtain ⟨rfl, rfl⟩ : b = b1 ∧ off = off1 := by simpa using he1
        obtain ⟨rfl, rfl⟩ : b = b2 ∧ off = off2 := by simpa using he2
        have hq : (ptsP l p h S)[j]'(by rw [ptsP_length]; omega) = (walkP l p h j).1 := by
          have := ptsP_get l p h (show j ≤ S by omega)
          rwa [List.getElem?_eq_getElem (by rw [ptsP_length]; omega), Option.some_inj] at this
        have hq' : (ptsP l p h S)[j + 1]'(by rw [ptsP_length]; omega) = (walkP l p h (j + 1)).1 := by
          have := ptsP_get l p h (show j + 1 ≤ S by omega)
          rwa [List.getElem?_eq_getElem (by rw [ptsP_length]; omega), Option.some_inj] at this
        rw [hq] at k0 k1
        rw [hq'] at k2 k3
        obtain ⟨a, hav, hcs⟩ := walk_cases l p h0 a2 j
        have hqin := traceIn_last (traceIn_le HTI.out (show j ≤ S by omega))
        obtain ⟨q, hqd⟩ : ∃ q, (walkP l p h j).1 = q := ⟨_, rfl⟩
        rw [hqd] at k0 k1 hav hcs hqin
        obtain ⟨q', hqd'⟩ : ∃ q', (walkP l p h (j + 1)).1 = q' := ⟨_, rfl⟩
        rw [hqd'] at k2 k3 hcs
        obtain ⟨qx1, qx2, qy1, qy2⟩ := inB_iff.1 hqin
        have hax : axisV l q = a ∧ valueE l q = 0 := by
          have he : valueE l q = 0 := by unfold valueE; rw [if_pos (fieldE_ok HFI.out), if_pos hqin]
          exact ⟨by unfold axisV; rw [if_pos he, hav], he⟩
        have c6 := c4 q wr ((hv.below hbw).more hbw.size) (inB_64 hqin)
        rw [hax.1, hax.2] at c6
        have hB' : b < wr.heap.size := by have := hb.size; omega
        have hcase : ∃ DX DY : Int, q'.x - q.x = DX ∧ q'.y - q.y = DY ∧ (((a = 0 ∨ a = 2) ∧ ((DX = 1 ∧ DY = 0) ∨ (DX = -1 ∧ DY = 0))) ∨ ((a = 1 ∨ a = 2) ∧ ((DX = 0 ∧ DY = 1) ∨ (DX = 0 ∧ DY = -1)))) := by
          refine ⟨_, _, rfl, rfl, ?_⟩
          rcases hcs with ⟨h1, h2⟩ | ⟨h1, h2⟩ | ⟨h1, h2⟩ | ⟨h1, h2⟩ <;> rw [h2] <;> simp only <;> omega
        obtain ⟨DX, DY, hdx, hdy, hcase⟩ := hcase
        have hax' : ∀ z : Int, -1000000 ≤ z → z ≤ 1000000 → True := fun _ _ _ => trivial
        have hwx : IntKind.i64.wrap (q'.x - q.x) = DX := by rw [hdx, IntKind.wrap_i64]; omega
        have hwy : IntKind.i64.wrap (q'.y - q.y) = DY := by rw [hdy, IntKind.wrap_i64]; omega
        have HXY := Lib.hid (show _ ∧ _ from ⟨hwx, hwy⟩)
        have HC := Lib.hid hcase
        clear hv1 hcs hav hqd hqd' hqin hax c4 hv hdx hdy hcase hwx hwy hq hq' hax' he1 he2 hB1 hB2
        go_wp2_with fail
        refine c6.mono ?_
        rintro e w5 ⟨rfl, hb1⟩
        have hB5 : b < w5.heap.size := by have := hb1.size; omega
        have m0 := (hb1.cell (p := ⟨b, off + j * 2, none⟩) hB').trans k0
        have m1 := (hb1.cell (p := ⟨b, off + j * 2 + 1, none⟩) hB').trans k1
        have m2 := (hb1.cell (p := ⟨b, off + (j + 1) * 2, none⟩) hB').trans k2
        have m3 := (hb1.cell (p := ⟨b, off + (j + 1) * 2 + 1, none⟩) hB').trans k3
        replace hb := hb.trans (hb1.mono hb.size)
        clear k0 k1 k2 k3 hb1 hbw c6
        go_wp2_with fail
        have n0 : ∀ W, Below w5.heap.size w5 W → W.cell? ⟨b, off + j * 2, none⟩ = some (.int .i64 q.x) := fun W hW => (hW.cell (p := ⟨b, off + j * 2, none⟩) hB5).trans m0
        have n1 : ∀ W, Below w5.heap.size w5 W → W.cell? ⟨b, off + j * 2 + 1, none⟩ = some (.int .i64 q.y) := fun W hW => (hW.cell (p := ⟨b, off + j * 2 + 1, none⟩) hB5).trans m1
        have n2 : ∀ W, Below w5.heap.size w5 W → W.cell? ⟨b, off + (j + 1) * 2, none⟩ = some (.int .i64 q'.x) := fun W hW => (hW.cell (p := ⟨b, off + (j + 1) * 2, none⟩) hB5).trans m2
        have n3 : ∀ W, Below w5.heap.size w5 W → W.cell? ⟨b, off + (j + 1) * 2 + 1, none⟩ = some (.int .i64 q'.y) := fun W hW => (hW.cell (p := ⟨b, off + (j + 1) * 2 + 1, none⟩) hB5).trans m3
        obtain ⟨hwx, hwy⟩ := HXY.out
        have hwj : IntKind.i64.wrap ((j : Int) + 1 - 1) = j := by rw [IntKind.wrap_i64]; omega
        have hwj' : IntKind.i64.wrap (j : Int) = j := by rw [IntKind.wrap_i64]; omega
        have hlt1 : (j : Int) < (S : Int) + 1 := by omega
        have hlt2 : (j : Int) + 1 < (S : Int) + 1 := by omega
        clear m0 m1 m2 m3 HXY qx1 qx2 qy1 qy2
        apply wp_region_head 26 166 (hm := by kernel_rfl) (hN := rfl)
        case h =>
          simp only [List.take_succ_cons, List.take_zero]
          iterate 26 (apply head_still rfl; (intro W hW; go_simp; (try rfl)))
          refine head_nil ?_
          intro w6 hW hFF
          replace hb := hb.trans (hW.mono hb.size)
          clear n0 n1 n2 n3 hwx hwy hwj hwj' hW hFF
          rcases HC.out with ⟨h1 | h1, ⟨h2, h3⟩ | ⟨h2, h3⟩⟩ | ⟨h1 | h1, ⟨h2, h3⟩ | ⟨h2, h3⟩⟩
          all_goals
            subst h1
            subst h2
            subst h3
            go_wp2_with fail
            go_roundw
            case rel => exact ⟨j + 1, by omega, by go_num, hb⟩
            case measure => simp [intOf]; omega
        case hB => kernel_rfl
        all_goals rfl
      · obtain rfl : j = S := by omega
        clear hv1 hv c4
        go_wp2_with fail
        refine (alive_any _).mono ?_
        rintro e w5 ⟨rfl, hb1⟩
        replace hbw := hbw.trans (hb1.mono hbw.size)
        go_wp2_with fail
        go_ret
        exact ret_bool rfl hbw
  case hB => kernel_rfl
  all_goals rfl

theorem steps_walk (A : Option Addr) (n cap : Nat) (l : List Pull) (p : Pt) (h s : Int) (w : World) (hn : l.length = n) (hl0 : n ≤ 9223372036854775807) (hv : Recs Pull.cells 5 w w.heap.size A l) (h64 : ∀ u ∈ l, u.In64) (hp : p.In64) (h0 : 0 ≤ h) :
    Calls Try.prog 6 #[.slice A n cap, p.v, .int .u8 h, .int .i64 s] w (Ret w (.bool true)) := by
  by_cases hl : n ≤ 4611686018427387904
  · by_cases hv1 : Fine l ∧ inB p.x p.y = true
    · by_cases ha : h ≤ 3 ∧ 0 ≤ s ∧ s ≤ 500
      · obtain ⟨S, rfl⟩ := Int.eq_ofNat_of_zero_le ha.2.1
        have hT : TraceArg p h S := ⟨hv1.2, ha⟩
        rcases traceE_fine hv1.1 hT with ⟨h1, -, -⟩ | ⟨h1, h2, h3⟩
        · exact steps_ok A n cap l p h S w hn hl hv h64 hp h0 hv1.1 hT (by simpa using h1)
        · exact steps_out A n cap l p h S w hn hl hv h64 hp h0 hv1.1 hT h1 h2 h3
      · refine steps_bad A n cap l p h s w hn hl0 hv h64 hp ?_
        by_cases h1 : 3 < h
        · exact .inr (.inl ⟨hv1, h1⟩)
        · by_cases h2 : s < 0
          · exact .inr (.inr (.inl ⟨hv1, by omega, h2⟩))
          · exact .inr (.inr (.inr ⟨hv1, by omega, by omega, by omega⟩))
    · exact steps_bad A n cap l p h s w hn hl0 hv h64 hp (.inl hv1)
  · exact steps_bad A n cap l p h s w hn hl0 hv h64 hp (.inl fun hf => by have := hf.1.1; omega)

open Go.ChangeShapes Go.WideShapes Go.ChangeAt Go.Joins

set_option maxRecDepth 100000 in
theorem steps_lifted (os : Os) (started : os.Started) (H : Type) (enc : TypeId × Value → H) :
    ReturnsInHanded {} Try.checked os 6 .any (Rows.fieldStepsSpec.pre6 enc Try.prog Try.f6 Rows.fieldStepsRow.domain false) (Rows.fieldStepsSpec.post enc Try.prog Try.f6 false true false false) := by
  refine returnsInHanded_of_change (C := Try.checked) own started (by kernel_rfl) Try.func6
    (ChangeSpec.witness6 (enc := enc) (C := Try.checked) false ⟨#[], #[.slice none 0 0, .agg #[.int .i64 0, .int .i64 0], .int .u8 0, .int .i64 0], []⟩ 8 (by kernel_rfl) (by kernel_rfl) (by kernel_rfl) (by kernel_rfl)) ?_
  intro W base args ds gs before hval0 hW hcnd _
  have hval : ∀ (j : Nat) t v, Try.f6.params[j]? = some t → args[j]? = some v → Value.okWide Try.prog W .any base t v := hval0
  have hW' := hW
  obtain ⟨p, q, hA0, hV, rfl, hfz, hnd⟩ := hW
  have hA : DataW.TrodAll enc Try.prog W 0 (fun _ => true) true Try.f6.params.toList args.toList ds p := hA0
  rw [Try.params6] at hA hval
  obtain ⟨v0, vs0, d0, ds0, p0, q0, hargs, rfl, rfl, h0, r0⟩ := trodAll_cons hA
  obtain ⟨v1, vs1, d1, ds1, p1, q1, rfl, rfl, rfl, h1, r1⟩ := trodAll_cons r0
  obtain ⟨v2, vs2, d2, ds2, p2, q2, rfl, rfl, rfl, h2, r2⟩ := trodAll_cons r1
  obtain ⟨v3, vs3, d3, ds3, p3, q3, rfl, rfl, rfl, h3, r3⟩ := trodAll_cons r2
  obtain ⟨rfl, rfl, rfl⟩ := trodAll_nil r3
  obtain rfl : args = #[v0, v1, v2, v3] := by cases args; simp_all
  obtain ⟨rfl, rfl⟩ := trodVars_none hV
  obtain ⟨A, n, cap, l, rfl, hn, hl0, -, -, hvs, h64⟩ := open_field h0 (okWide_slice Try.underlying22 (hval 0 22 v0 rfl rfl))
  obtain ⟨a, rfl, ha⟩ := open_point (hval 1 24 v1 rfl rfl) h1
  obtain ⟨x, rfl⟩ := okWide_int Try.underlying5 (hval 2 5 v2 rfl rfl)
  obtain ⟨y, rfl⟩ := okWide_int Try.underlying3 (hval 3 3 v3 rfl rfl)
  obtain ⟨f2, h2⟩ := h2
  obtain ⟨f3, h3⟩ := h3
  obtain ⟨x', hx', w2⟩ := cell_int Try.underlying5 h2
  obtain rfl : x = x' := by simpa using hx'
  refine (steps_walk A n cap l a x y W hn hl0 hvs h64 ha (wf_u8 w2).1).mono fun e W' ⟨he, hb⟩ => ?_
  exact ⟨_, he, law_post laidOut hW' rfl (by kernel_rfl) rfl Try.underlying4 rfl rfl rfl hb⟩

theorem steps_holds : Rows.FieldStepsSaid :=
  OpenClaim.holds_of_wide 6 Try.f6 rfl rfl rfl rfl rfl rfl rfl ⟨rfl, rfl, rfl, rfl, rfl⟩ rfl rfl rfl rfl rfl (by kernel_rfl) Try.func6 (by kernel_rfl)
    (of_decide_eq_true (by kernel_rfl)) (by unfold Func.isWrapper; first | (rw [if_pos (by decide +kernel)]; kernel_rfl) | (rw [if_neg (by decide +kernel)]; exact ⟨rfl, rfl⟩))
    (fun os started H enc _ => steps_lifted os started H enc)
#print axioms steps_holds
end Go.Proofs.Ytmomjjjfjjgepaa
