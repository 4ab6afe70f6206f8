/- The law 'FieldTraces': Trace returns what the reference returns, for every field, point, head and number. -/
import Derived.Test.YtmomjjjfjjgepaaFieldG
import Derived.Test.YtmomjjjfjjgepaaFieldH
import Derived.Test.YtmomjjjfjjgepaaFieldRow
namespace Go.Proofs.Ytmomjjjfjjgepaa
open Go.RowKit Go.Rel

theorem ptsP_small (l : List Pull) (p : Pt) (h s : Int) : (traceL l p h s).length ≤ 501 := by
  unfold traceL
  split
  · rename_i he
    rw [ptsP_length]
    have : TraceArg p h s := by
      unfold traceE at he
      split at he
      · split at he
        · assumption
        · cases he
      · rename_i h1; exact absurd he h1
    have := this.2.2
    omega
  · simp

set_option maxHeartbeats 1000000 in
theorem traces_walk (A : Option Addr) (n cap : Nat) (l : List Pull) (p : Pt) (h s : Int) (w : World) (hn : l.length = n) (hv : Recs Pull.cells 5 w w.heap.size A l) (h64 : ∀ u ∈ l, u.In64) (hp : p.In64) (h0 : 0 ≤ h) :
    Calls Try.prog 3 #[.slice A n cap, p.v, .int .u8 h, .int .i64 s] w (Ret w (.bool true)) := by
  by_cases hbig : 80 < n
  · have hb0 := Lib.hid (below_alloc w (.cells #[.int .i64 p.x, .int .i64 p.y] 24))
    clear hv hn h64
    go_enter Try.func3, Try.ntmps3
    go_wp2_with fail
    go_ret
    exact ret_bool rfl hb0.out
  have hl : n ≤ 4611686018427387904 := by omega
  have c1 := fun w hv => trace_any A n cap l p h s w hn hl hv h64 hp h0
  have c2 := fun w hv => refTrace_any A n cap l p h s w hn hl hv h64 hp h0
  have hsm := ptsP_small l p h s
  have x1 := below_alloc w (.cells #[.int .i64 p.x, .int .i64 p.y] 24)
  have x3 := Blk.new w 24 #[.int .i64 p.x, .int .i64 p.y]
  have hx := Lib.hid (show _ ∧ _ from ⟨x1, x3⟩)
  clear hn x1 x3 h64
  go_enter Try.func3, Try.ntmps3
  go_wp2_with fail
  obtain ⟨x1, x3⟩ := hx.out
  generalize World.alloc _ _ = w0 at x1 x3 ⊢
  refine (c1 _ ((hv.below x1).more x1.size)).mono ?_
  rintro e w1 ⟨v, rfl, ⟨A1, cap1, rfl, hcap1, hv1⟩, hb1⟩
  replace x1 := x1.trans (hb1.mono x1.size)
  replace x3 := x3.keep hb1
  have y0 := x3.cell (i := 0) rfl
  have y1 := x3.cell (i := 1) rfl
  clear hb1 hx hcap1
  go_wp2_with fail
  refine (c2 _ ((hv.below x1).more x1.size)).mono ?_
  rintro e w2 ⟨v, rfl, ⟨A2, cap2, rfl, hcap2, hv2⟩, hb2⟩
  replace x1 := x1.trans (hb2.mono x1.size)
  replace hv1 := (hv1.below hb2).more hb2.size
  clear hb2 hcap2 hv c1 c2 y0 y1 x3
  go_wp2_with fail
  refine (samePts_any A1 A2 _ _ cap1 cap2 (traceL l p h s) (traceL l p h s) _ rfl rfl (by omega) (by omega) hv1 hv2).mono ?_
  rintro e w3 ⟨rfl, hb3⟩
  replace x1 := x1.trans (hb3.mono x1.size)
  clear hb3 hv1 hv2
  go_wp2_with fail
  go_ret
  exact ret_bool rfl x1

open Go.ChangeShapes Go.WideShapes Go.ChangeAt Go.Joins

set_option maxRecDepth 100000 in
theorem traces_lifted (os : Os) (started : os.Started) (H : Type) (enc : TypeId × Value → H) :
    ReturnsInHanded {} Try.checked os 3 .any (Rows.fieldTracesSpec.pre6 enc Try.prog Try.f3 Rows.fieldTracesRow.domain false) (Rows.fieldTracesSpec.post enc Try.prog Try.f3 false true false false) := by
  refine returnsInHanded_of_change (C := Try.checked) own started (by kernel_rfl) Try.func3
    (ChangeSpec.witness6 (enc := enc) (C := Try.checked) false ⟨#[], #[.slice none 0 0, .agg #[.int .i64 0, .int .i64 0], .int .u8 0, .int .i64 0], []⟩ 8 (by kernel_rfl) (by kernel_rfl) (by kernel_rfl) (by kernel_rfl)) ?_
  intro W base args ds gs before hval0 hW hcnd _
  have hval : ∀ (j : Nat) t v, Try.f3.params[j]? = some t → args[j]? = some v → Value.okWide Try.prog W .any base t v := hval0
  have hW' := hW
  obtain ⟨p, q, hA0, hV, rfl, hfz, hnd⟩ := hW
  have hA : DataW.TrodAll enc Try.prog W 0 (fun _ => true) true Try.f3.params.toList args.toList ds p := hA0
  rw [Try.params3] at hA hval
  obtain ⟨v0, vs0, d0, ds0, p0, q0, hargs, rfl, rfl, h0, r0⟩ := trodAll_cons hA
  obtain ⟨v1, vs1, d1, ds1, p1, q1, rfl, rfl, rfl, h1, r1⟩ := trodAll_cons r0
  obtain ⟨v2, vs2, d2, ds2, p2, q2, rfl, rfl, rfl, h2, r2⟩ := trodAll_cons r1
  obtain ⟨v3, vs3, d3, ds3, p3, q3, rfl, rfl, rfl, h3, r3⟩ := trodAll_cons r2
  obtain ⟨rfl, rfl, rfl⟩ := trodAll_nil r3
  obtain rfl : args = #[v0, v1, v2, v3] := by cases args; simp_all
  obtain ⟨rfl, rfl⟩ := trodVars_none hV
  obtain ⟨A, n, cap, l, rfl, hn, hl, -, hvs, h64⟩ := open_field h0 (okWide_slice Try.underlying22 (hval 0 22 v0 rfl rfl))
  obtain ⟨a, rfl, ha⟩ := open_point (hval 1 24 v1 rfl rfl) h1
  obtain ⟨x, rfl⟩ := okWide_int Try.underlying5 (hval 2 5 v2 rfl rfl)
  obtain ⟨y, rfl⟩ := okWide_int Try.underlying3 (hval 3 3 v3 rfl rfl)
  obtain ⟨f2, h2⟩ := h2
  obtain ⟨f3, h3⟩ := h3
  obtain ⟨x', hx', w2⟩ := cell_int Try.underlying5 h2
  obtain rfl : x = x' := by simpa using hx'
  refine (traces_walk A n cap l a x y W hn hvs h64 ha (wf_u8 w2).1).mono fun e W' ⟨he, hb⟩ => ?_
  exact ⟨_, he, law_post laidOut hW' rfl (by kernel_rfl) rfl Try.underlying4 rfl rfl rfl hb⟩

theorem traces_holds : Rows.FieldTracesSaid :=
  OpenClaim.holds_of_wide 3 Try.f3 rfl rfl rfl rfl rfl rfl rfl ⟨rfl, rfl, rfl, rfl, rfl⟩ rfl rfl rfl rfl rfl (by kernel_rfl) Try.func3 (by kernel_rfl)
    (of_decide_eq_true (by kernel_rfl)) (by unfold Func.isWrapper; first | (rw [if_pos (by decide +kernel)]; kernel_rfl) | (rw [if_neg (by decide +kernel)]; exact ⟨rfl, rfl⟩))
    (fun os started H enc _ => traces_lifted os started H enc)
#print axioms traces_holds
end Go.Proofs.Ytmomjjjfjjgepaa
