/- The law 'FieldTurns': the value of a turned field at a turned point is the opposite, a trace of a turned field has the turned points, and turning four times changes nothing. For every field, point, head and number. -/
import Derived.Test.YtmomjjjfjjgepaaFieldL
import Derived.Test.YtmomjjjfjjgepaaFieldM
import Derived.Test.YtmomjjjfjjgepaaFieldK
import Derived.Test.YtmomjjjfjjgepaaFieldRow
namespace Go.Rel
open Go.RowKit
/-- Turned k times. -/
def turnIt : Nat → List Pull → List Pull
  | 0, l => l
  | k + 1, l => (turnIt k l).map turnU
theorem turnIt_len (l : List Pull) : ∀ k, (turnIt k l).length = l.length
  | 0 => rfl
  | k + 1 => by rw [turnIt, List.length_map, turnIt_len l k]
theorem turnIt_fine {l : List Pull} (h : Fine l) : ∀ k, Fine (turnIt k l)
  | 0 => h
  | k + 1 => turn_fine (turnIt_fine h k)
theorem turnIt_four {l : List Pull} (h : Fine l) : turnIt 4 l = l := turn_four h.2
theorem fine_64 {l : List Pull} (h : Fine l) : ∀ u ∈ l, u.In64 := fun u hu => by
  have hp := pullB_iff.1 (List.all_eq_true.1 h.2 u hu)
  have hi := inB_iff.1 hp.2.1
  unfold Pull.In64
  omega
theorem traceL_in {l : List Pull} {p : Pt} {h s : Int} (hf : Fine l) (ha : TraceArg p h s) : ∀ q ∈ traceL l p h s, inB q.x q.y = true := fun q hm => by
  cases ht : traceIn l p h s.toNat with
  | true =>
    rw [(traceE_ok (fieldE_ok hf) ha ht).2] at hm
    exact List.all_eq_true.1 ht _ hm
  | false =>
    rw [(traceE_out (fieldE_ok hf) ha ht).2] at hm
    cases hm
theorem traceL_small {l : List Pull} {p : Pt} {h s : Int} (ha : TraceArg p h s) : (traceL l p h s).length ≤ 501 := by
  unfold traceL
  split
  · rw [ptsP_length]; have := ha.2.2; omega
  · simp
end Go.Rel
namespace Go.Proofs.Ytmomjjjfjjgepaa
open Go.RowKit Go.Rel

set_option maxRecDepth 100000 in
set_option maxHeartbeats 4000000 in
theorem turns_bad (A : Option Addr) (n cap : Nat) (l : List Pull) (p : Pt) (h s : Int) (w : World) (hn : l.length = n) (hl : n ≤ 9223372036854775807) (hv : Recs Pull.cells 5 w w.heap.size A l) (h64 : ∀ u ∈ l, u.In64) (hp : p.In64)
    (hbad : ¬ (Fine l ∧ inB p.x p.y = true) ∨ ((Fine l ∧ inB p.x p.y = true) ∧ 3 < h) ∨ ((Fine l ∧ inB p.x p.y = true) ∧ h ≤ 3 ∧ s < 0) ∨ ((Fine l ∧ inB p.x p.y = true) ∧ h ≤ 3 ∧ 0 ≤ s ∧ 500 < s)) :
    Calls Try.prog 9 #[.slice A n cap, p.v, .int .u8 h, .int .i64 s] w (Ret w (.bool true)) := by
  have c1 := fun w hv => valid_all A n cap l p w hn hl hv h64 hp
  have x1 := below_alloc w (.cells #[.int .i64 p.x, .int .i64 p.y] 24)
  have x3 := Blk.new w 24 #[.int .i64 p.x, .int .i64 p.y]
  have hx := Lib.hid (show _ ∧ _ from ⟨x1, x3⟩)
  clear hn x1 x3 h64 hp
  rcases hbad with hb | ⟨hb, h2⟩ | ⟨hb, h2, h3⟩ | ⟨hb, h2, h3, h4⟩
  all_goals
    first | rw [decide_eq_false hb] at c1 | rw [decide_eq_true hb] at c1
    clear hb
    go_enter Try.func9, Try.ntmps9
    go_wp2_with fail
    obtain ⟨x1, x3⟩ := hx.out
    generalize World.alloc _ _ = w0 at x1 x3 ⊢
    refine (c1 _ ((hv.below x1).more x1.size)).mono ?_
    rintro e w1 ⟨rfl, hb1⟩
    replace x1 := x1.trans (hb1.mono x1.size)
    clear hb1 hx c1 hv x3
    go_wp2_with fail
    refine (alive_any _).mono ?_
    rintro e w2 ⟨rfl, hb1⟩
    replace x1 := x1.trans (hb1.mono x1.size)
    clear hb1
    go_wp2_with fail
    go_ret
    exact ret_bool rfl x1

set_option maxRecDepth 100000 in
set_option maxHeartbeats 8000000 in
theorem turns_ok (A : Option Addr) (n cap : Nat) (l : List Pull) (p : Pt) (h s : Int) (w : World) (hn : l.length = n) (hl : n ≤ 4611686018427387904) (hv : Recs Pull.cells 5 w w.heap.size A l) (h64 : ∀ u ∈ l, u.In64) (hp : p.In64) (h0 : 0 ≤ h)
    (hf : Fine l) (ha : TraceArg p h s) :
    Calls Try.prog 9 #[.slice A n cap, p.v, .int .u8 h, .int .i64 s] w (Ret w (.bool true)) := by
  have hpt : (turnPt p).In64 := inB_64 ((turn_in p).trans ha.1)
  have hf1 := turn_fine hf
  have hlen1 : (l.map turnU).length = n := by rw [List.length_map, hn]
  have c1 := fun w hv => valid_any A n cap l p w hn hl hv h64 hp
  have c2 := fun w hv => turn_any A n cap l w hn hl hv h64
  have c3 := fun w hv => value_any A n cap l p w hn hl hv h64 hp
  have c4 := fun w => turned_any p w ha.1
  have c5 := fun A' cap' w hv => value_any A' n cap' (l.map turnU) (turnPt p) w hlen1 hl hv (fine_64 hf1) hpt
  have c6 := fun w hv => trace_any A n cap l p h s w hn hl hv h64 hp h0
  have c7 := fun A' cap' w hv => trace_any A' n cap' (l.map turnU) (turnPt p) ((h + 1) % 4) s w hlen1 hl hv (fine_64 hf1) hpt (by omega)
  have c8 := fun A' cap' k w hv => turn_any A' n cap' (turnIt k l) w (by rw [turnIt_len, hn]) hl hv (fine_64 (turnIt_fine hf k))
  have c9 := fun A' cap' w hv hv' => same_any A' A n n cap' cap (turnIt 4 l) l w (by rw [turnIt_len, hn]) hn hl hl hv hv'
  rw [turnIt_four hf] at c9
  have HT4 := Lib.hid (turnIt_four hf)
  rw [decide_eq_true ⟨hf, ha.1⟩] at c1
  have hE := fieldE_ok hf
  have hE1 := fieldE_ok hf1
  have v1 : valueE l p = 0 ∧ valueV l p = valueP l p := ⟨(valueE_ok hE ha.1).1, (valueE_ok hE ha.1).2.1⟩
  have v2 : valueE (l.map turnU) (turnPt p) = 0 ∧ valueV (l.map turnU) (turnPt p) = -valueP l p := by
    have hi : inB (turnPt p).x (turnPt p).y = true := by rw [turn_in]; exact ha.1
    exact ⟨(valueE_ok hE1 hi).1, by rw [(valueE_ok hE1 hi).2.1, turn_value l hf.2]⟩
  rw [v1.1, v1.2] at c3
  rw [v2.1, v2.2] at c5
  have htr := turn_trace hf h0 ha
  obtain ⟨b1, b2⟩ := valueP_fine hf p
  obtain ⟨V, hV⟩ : ∃ V, valueP l p = V := ⟨_, rfl⟩
  rw [hV] at c3 c5 b1 b2
  have hsm := traceL_small (l := l) ha
  have hin := traceL_in hf ha
  obtain ⟨T, hT⟩ : ∃ T, traceL l p h s = T := ⟨_, rfl⟩
  obtain ⟨E, hEE⟩ : ∃ E, traceE l p h s = E := ⟨_, rfl⟩
  rw [hT] at hsm hin
  rw [hT, hEE] at htr
  have HTR := Lib.hid htr
  have HT := Lib.hid hT
  have HE := Lib.hid hEE
  have HT1 := Lib.hid (show fieldE l = 0 ∧ turnL l = l.map turnU ∧ (l.map turnU).length = n from ⟨hE, turnL_ok hE, hlen1⟩)
  have HTK := Lib.hid (show ∀ k, fieldE (turnIt k l) = 0 ∧ turnL (turnIt k l) = turnIt (k + 1) l ∧ (turnIt (k + 1) l).length = n from fun k => ⟨fieldE_ok (turnIt_fine hf k), turnL_ok (fieldE_ok (turnIt_fine hf k)), by rw [turnIt_len, hn]⟩)
  obtain ⟨-, a2, a3, a4⟩ := ha
  have x1 := below_alloc w (.cells #[.int .i64 p.x, .int .i64 p.y] 24)
  have x3 := Blk.new w 24 #[.int .i64 p.x, .int .i64 p.y]
  have hx := Lib.hid (show _ ∧ _ from ⟨x1, x3⟩)
  have hm31 := Try.eqGuardPt
  have hself := ptB_self
  have hvn := ptNeq
  have HIN := Lib.hid hin
  clear hn x1 x3 h64 hp hf hf1 hlen1 hE hE1 v1 v2 htr hV hT hEE hin hpt
  go_enter Try.func9, Try.ntmps9
  go_wp2_with fail
  obtain ⟨x1, x3⟩ := hx.out
  generalize World.alloc _ _ = w0 at x1 x3 ⊢
  refine (c1 _ ((hv.below x1).more x1.size)).mono ?_
  rintro e w1 ⟨rfl, hb1⟩
  replace x1 := x1.trans (hb1.mono x1.size)
  replace x3 := x3.keep hb1
  clear hb1 hx c1
  have y0 := x3.cell (i := 0) rfl
  have y1 := x3.cell (i := 1) rfl
  go_wp2_with fail
  refine (c2 _ ((hv.below x1).more x1.size)).mono ?_
  rintro e w2 ⟨v, rfl, ⟨A1, cap1, rfl, hcap1, hv1⟩, hb1⟩
  rw [HT1.out.1, HT1.out.2.1, HT1.out.2.2]
  rw [HT1.out.2.1] at hv1
  replace x1 := x1.trans (hb1.mono x1.size)
  replace x3 := x3.keep hb1
  clear hb1 c2 y0 y1 hcap1
  have y0 := x3.cell (i := 0) rfl
  have y1 := x3.cell (i := 1) rfl
  go_wp2_with fail
  refine (c3 _ ((hv.below x1).more x1.size)).mono ?_
  rintro e w3 ⟨rfl, hb1⟩
  replace x1 := x1.trans (hb1.mono x1.size)
  replace x3 := x3.keep hb1
  replace hv1 := (hv1.below hb1).more hb1.size
  clear hb1 c3 y0 y1
  have y0 := x3.cell (i := 0) rfl
  have y1 := x3.cell (i := 1) rfl
  go_wp2_with fail
  refine (c4 _).mono ?_
  rintro e w4 ⟨rfl, hb1⟩
  replace x1 := x1.trans (hb1.mono x1.size)
  replace x3 := x3.keep hb1
  replace hv1 := (hv1.below hb1).more hb1.size
  clear hb1 y0 y1
  have y0 := x3.cell (i := 0) rfl
  have y1 := x3.cell (i := 1) rfl
  go_wp2_with fail
  refine (c5 _ _ _ hv1).mono ?_
  rintro e w5 ⟨rfl, hb1⟩
  replace x1 := x1.trans (hb1.mono x1.size)
  replace x3 := x3.keep hb1
  replace hv1 := (hv1.below hb1).more hb1.size
  clear hb1 c5 y0 y1
  have y0 := x3.cell (i := 0) rfl
  have y1 := x3.cell (i := 1) rfl
  go_wp2_with fail
  refine (c6 _ ((hv.below x1).more x1.size)).mono ?_
  rintro e w6 ⟨v, rfl, ⟨A2, cap2, rfl, hcap2, hv2⟩, hb1⟩
  rw [HT.out, HE.out]
  rw [HT.out] at hv2
  replace x1 := x1.trans (hb1.mono x1.size)
  replace x3 := x3.keep hb1
  replace hv1 := (hv1.below hb1).more hb1.size
  clear hb1 c6 y0 y1 hcap2
  have y0 := x3.cell (i := 0) rfl
  have y1 := x3.cell (i := 1) rfl
  go_wp2_with fail
  refine (c4 _).mono ?_
  rintro e w7 ⟨rfl, hb1⟩
  replace x1 := x1.trans (hb1.mono x1.size)
  replace hv1 := (hv1.below hb1).more hb1.size
  replace hv2 := (hv2.below hb1).more hb1.size
  clear hb1 y0 y1 c4 x3
  go_wp2_with fail
  refine (c7 _ _ _ hv1).mono ?_
  rintro e w8 ⟨v, rfl, ⟨A3, cap3, rfl, hcap3, hv3⟩, hb1⟩
  rw [HTR.out.1, HTR.out.2, List.length_map]
  rw [HTR.out.2] at hv3
  replace x1 := x1.trans (hb1.mono x1.size)
  replace hv1 := (hv1.below hb1).more hb1.size
  replace hv2 := (hv2.below hb1).more hb1.size
  clear hb1 c7 hcap3
  obtain ⟨m, hm⟩ : ∃ m, T.length = m := ⟨_, rfl⟩
  have HM := Lib.hid hm
  rw [hm] at hsm ⊢
  clear hm
  go_wp2_with fail
  go_loopw [19] (fun i wr => ∃ k : Nat, k ≤ m ∧ i = .int .i64 k ∧ Below w8.heap.size w8 wr) (fun i _ => m - (intOf i).toNat)
  case atStart => exact ⟨0, Nat.zero_le _, rfl, Below.refl _ _⟩
  case round =>
    obtain ⟨k, hk, rfl, hb⟩ := hrel
    by_cases hlt : k < m
    · have hk2 : k < T.length := by rw [HM.out]; exact hlt
      obtain ⟨b, off, rfl, hB, k0, k1⟩ := pt_at (k := k) (hv2.below hb) hk2
      obtain ⟨b', off', rfl, hB', k2, k3⟩ := pt_at (k := k) (hv3.below hb) (by rw [List.length_map]; exact hk2)
      have hq : (T.map turnPt)[k]'(by rw [List.length_map]; exact hk2) = turnPt T[k] := by rw [List.getElem_map]
      rw [hq] at k2 k3
      have hqin := HIN.out T[k] (List.getElem_mem hk2)
      obtain ⟨q, hqd⟩ : ∃ q, T[k] = q := ⟨_, rfl⟩
      rw [hqd] at k0 k1 k2 k3 hqin
      simp only [turnPt] at k2 k3
      have hs := hb.size
      have c10 := fun w => turned_any q w hqin
      obtain ⟨qx1, qx2, qy1, qy2⟩ := inB_iff.1 hqin
      have g0 : ∀ W, Below wr.heap.size wr W → W.cell? ⟨b, off + k * 2, none⟩ = some (.int .i64 q.x) := fun W hW => (hW.cell (p := ⟨b, off + k * 2, none⟩) (by simp only; omega)).trans k0
      have g1 : ∀ W, Below wr.heap.size wr W → W.cell? ⟨b, off + k * 2 + 1, none⟩ = some (.int .i64 q.y) := fun W hW => (hW.cell (p := ⟨b, off + k * 2 + 1, none⟩) (by simp only; omega)).trans k1
      have g2 : ∀ W, Below wr.heap.size wr W → W.cell? ⟨b', off' + k * 2, none⟩ = some (.int .i64 (-q.y)) := fun W hW => (hW.cell (p := ⟨b', off' + k * 2, none⟩) (by simp only; omega)).trans k2
      have g3 : ∀ W, Below wr.heap.size wr W → W.cell? ⟨b', off' + k * 2 + 1, none⟩ = some (.int .i64 q.x) := fun W hW => (hW.cell (p := ⟨b', off' + k * 2 + 1, none⟩) (by simp only; omega)).trans k3
      have hlt2 : (k : Int) < m := by omega
      clear k0 k1 k2 k3 hqin hqd hq hv1 hv2 hv3 hv c8 c9
      go_wp2_with fail
      apply wp_region_head 10 140 (hm := by kernel_rfl) (hN := rfl)
      case h =>
        simp only [List.take_succ_cons, List.take_zero]
        iterate 4 (apply head_still rfl; (intro W hW; go_simp; (try rfl)))
        (apply head_call rfl; (intro W; go_simp; exact ⟨rfl, rfl⟩); (intro W hW; exact c10 W))
        iterate 5 (apply head_still rfl; (intro W hW; go_simp; (try rfl)))
        refine head_nil ?_
        intro w9 hW hFF
        replace hb := hb.trans (hW.mono hs)
        clear g0 g1 g2 g3 hW hFF c10
        go_wp2_with fail
        go_roundw
        case rel => exact ⟨k + 1, by omega, by go_num, hb⟩
        case measure => simp [intOf]; omega
      case hB => kernel_rfl
      all_goals rfl
    · obtain rfl : k = m := by omega
      replace x1 := x1.trans (hb.mono x1.size)
      replace hv1 := (hv1.below hb).more hb.size
      clear hv2 hv3 hb HIN HM hlt
      go_wp2_with fail
      go_loopw [9, 10, 20] (fun t e j wr' => ∃ i : Nat, i ≤ 3 ∧ j = .int .i64 i ∧ e = .int .i64 0 ∧ Below w.heap.size w wr' ∧ ∃ A' cap', t = .slice A' n cap' ∧ Recs Pull.cells 5 wr' wr'.heap.size A' (turnIt (i + 1) l)) (fun _ _ j _ => 3 - (intOf j).toNat)
      case atStart => exact ⟨0, by omega, rfl, rfl, x1, A1, cap1, rfl, hv1⟩
      case round =>
        obtain ⟨i, hi, rfl, rfl, hb, A', cap', rfl, hvi⟩ := hrel
        clear x1 hv1
        by_cases hlt : i < 3
        · have hlt2 : (i : Int) < 3 := by omega
          go_wp2_with fail
          refine (c8 _ _ (i + 1) _ hvi).mono ?_
          rintro e w10 ⟨v, rfl, ⟨A4, cap4, rfl, hcap4, hv4⟩, hb1⟩
          rw [(HTK.out (i + 1)).1, (HTK.out (i + 1)).2.1, (HTK.out (i + 1)).2.2]
          rw [(HTK.out (i + 1)).2.1] at hv4
          replace hb := hb.trans (hb1.mono hb.size)
          clear hb1 hvi hcap4 c8 c9 hv
          have HV4 := Lib.hid hv4
          clear hv4
          go_wp2_with fail
          go_roundw
          case rel => exact ⟨i + 1, by omega, by go_num, rfl, hb, _, _, rfl, HV4.out⟩
          case measure => simp [intOf]; omega
        · obtain rfl : i = 3 := by omega
          have hvs := (hv.below hb).more hb.size
          rw [show turnIt (3 + 1) l = turnIt 4 l from rfl, HT4.out] at hvi
          clear c8 hv
          go_wp2_with fail
          refine (c9 _ _ _ hvi hvs).mono ?_
          rintro e w11 ⟨rfl, hb1⟩
          replace hb := hb.trans (hb1.mono hb.size)
          clear hb1 hvi hvs c9
          go_wp2_with fail
          refine (alive_any _).mono ?_
          rintro e w12 ⟨rfl, hb1⟩
          replace hb := hb.trans (hb1.mono hb.size)
          go_wp2_with fail
          go_ret
          exact ret_bool rfl hb

theorem turns_walk (A : Option Addr) (n cap : Nat) (l : List Pull) (p : Pt) (h s : Int) (w : World) (hn : l.length = n) (hl0 : n ≤ 9223372036854775807) (hv : Recs Pull.cells 5 w w.heap.size A l) (h64 : ∀ u ∈ l, u.In64) (hp : p.In64) (h0 : 0 ≤ h) :
    Calls Try.prog 9 #[.slice A n cap, p.v, .int .u8 h, .int .i64 s] w (Ret w (.bool true)) := by
  by_cases hv1 : Fine l ∧ inB p.x p.y = true
  · by_cases ha : h ≤ 3 ∧ 0 ≤ s ∧ s ≤ 500
    · exact turns_ok A n cap l p h s w hn (by have := hv1.1.1; omega) hv h64 hp h0 hv1.1 ⟨hv1.2, ha⟩
    · refine turns_bad A n cap l p h s w hn hl0 hv h64 hp ?_
      by_cases h1 : 3 < h
      · exact .inr (.inl ⟨hv1, h1⟩)
      · by_cases h2 : s < 0
        · exact .inr (.inr (.inl ⟨hv1, by omega, h2⟩))
        · exact .inr (.inr (.inr ⟨hv1, by omega, by omega, by omega⟩))
  · exact turns_bad A n cap l p h s w hn hl0 hv h64 hp (.inl hv1)

open Go.ChangeShapes Go.WideShapes Go.ChangeAt Go.Joins

set_option maxRecDepth 100000 in
theorem turns_lifted (os : Os) (started : os.Started) (H : Type) (enc : TypeId × Value → H) :
    ReturnsInHanded {} Try.checked os 9 .any (Rows.fieldTurnsSpec.pre6 enc Try.prog Try.f9 Rows.fieldTurnsRow.domain false) (Rows.fieldTurnsSpec.post enc Try.prog Try.f9 false true false false) := by
  refine returnsInHanded_of_change (C := Try.checked) own started (by kernel_rfl) Try.func9
    (ChangeSpec.witness6 (enc := enc) (C := Try.checked) false ⟨#[], #[.slice none 0 0, .agg #[.int .i64 0, .int .i64 0], .int .u8 0, .int .i64 0], []⟩ 8 (by kernel_rfl) (by kernel_rfl) (by kernel_rfl) (by kernel_rfl)) ?_
  intro W base args ds gs before hval0 hW hcnd _
  have hval : ∀ (j : Nat) t v, Try.f9.params[j]? = some t → args[j]? = some v → Value.okWide Try.prog W .any base t v := hval0
  have hW' := hW
  obtain ⟨p, q, hA0, hV, rfl, hfz, hnd⟩ := hW
  have hA : DataW.TrodAll enc Try.prog W 0 (fun _ => true) true Try.f9.params.toList args.toList ds p := hA0
  rw [Try.params9] at hA hval
  obtain ⟨v0, vs0, d0, ds0, p0, q0, hargs, rfl, rfl, h0, r0⟩ := trodAll_cons hA
  obtain ⟨v1, vs1, d1, ds1, p1, q1, rfl, rfl, rfl, h1, r1⟩ := trodAll_cons r0
  obtain ⟨v2, vs2, d2, ds2, p2, q2, rfl, rfl, rfl, h2, r2⟩ := trodAll_cons r1
  obtain ⟨v3, vs3, d3, ds3, p3, q3, rfl, rfl, rfl, h3, r3⟩ := trodAll_cons r2
  obtain ⟨rfl, rfl, rfl⟩ := trodAll_nil r3
  obtain rfl : args = #[v0, v1, v2, v3] := by cases args; simp_all
  obtain ⟨rfl, rfl⟩ := trodVars_none hV
  obtain ⟨A, n, cap, l, rfl, hn, hl0, -, -, hvs, h64⟩ := open_field h0 (okWide_slice Try.underlying22 (hval 0 22 v0 rfl rfl))
  obtain ⟨a, rfl, ha⟩ := open_point (hval 1 24 v1 rfl rfl) h1
  obtain ⟨x, rfl⟩ := okWide_int Try.underlying5 (hval 2 5 v2 rfl rfl)
  obtain ⟨y, rfl⟩ := okWide_int Try.underlying3 (hval 3 3 v3 rfl rfl)
  obtain ⟨f2, h2⟩ := h2
  obtain ⟨f3, h3⟩ := h3
  obtain ⟨x', hx', w2⟩ := cell_int Try.underlying5 h2
  obtain rfl : x = x' := by simpa using hx'
  refine (turns_walk A n cap l a x y W hn hl0 hvs h64 ha (wf_u8 w2).1).mono fun e W' ⟨he, hb⟩ => ?_
  exact ⟨_, he, law_post laidOut hW' rfl (by kernel_rfl) rfl Try.underlying4 rfl rfl rfl hb⟩

theorem turns_holds : Rows.FieldTurnsSaid :=
  OpenClaim.holds_of_wide 9 Try.f9 rfl rfl rfl rfl rfl rfl rfl ⟨rfl, rfl, rfl, rfl, rfl⟩ rfl rfl rfl rfl rfl (by kernel_rfl) Try.func9 (by kernel_rfl)
    (of_decide_eq_true (by kernel_rfl)) (by unfold Func.isWrapper; first | (rw [if_pos (by decide +kernel)]; kernel_rfl) | (rw [if_neg (by decide +kernel)]; exact ⟨rfl, rfl⟩))
    (fun os started H enc _ => turns_lifted os started H enc)
#print axioms turns_holds
end Go.Proofs.Ytmomjjjfjjgepaa
