/- The law 'FieldValues': Check, Value, Axis and Turn return what the reference returns, for every field and point, and leave the field as it is. -/
import Derived.Test.YtmomjjjfjjgepaaFieldI
import Derived.Test.YtmomjjjfjjgepaaFieldJ
import Derived.Test.YtmomjjjfjjgepaaFieldK
import Derived.Test.YtmomjjjfjjgepaaFieldRow
namespace Go.Proofs.Ytmomjjjfjjgepaa
open Go.RowKit Go.Rel

theorem turnL_small {l : List Pull} {n : Nat} (h : l.length = n) : (turnL l).length ≤ n := by
  unfold turnL
  split
  · rw [List.length_map]; omega
  · simp

set_option maxRecDepth 100000 in
set_option maxHeartbeats 4000000 in
theorem values_walk (A : Option Addr) (n cap : Nat) (l : List Pull) (p : Pt) (w : World) (hn : l.length = n) (hA : A = none → cap = 0) (hv : Recs Pull.cells 5 w w.heap.size A l) (h64 : ∀ u ∈ l, u.In64) (hp : p.In64) :
    Calls Try.prog 4 #[.slice A n cap, p.v] w (Ret w (.bool true)) := by
  by_cases hbig : 80 < n
  · have hb0 := Lib.hid (below_alloc w (.cells #[.int .i64 p.x, .int .i64 p.y] 24))
    clear hv hn h64
    go_enter Try.func4, Try.ntmps4
    go_wp2_with fail
    go_ret
    exact ret_bool rfl hb0.out
  have hl : n ≤ 4611686018427387904 := by omega
  have c1 := fun w hv => value_any A n cap l p w hn hl hv h64 hp
  have c2 := fun w hv => refValue_any A n cap l p w hn hl hv h64 hp
  have c3 := fun w hv => axisF_any A n cap l p w hn hl hv h64 hp
  have c4 := fun w hv => refAxis_any A n cap l p w hn hl hv h64 hp
  have c5 := fun w hv => turn_any A n cap l w hn hl hv h64
  have c6 := fun w hv => refTurn_any A n cap l w hn hl hv h64
  have c7 := fun w hv => check_any A n cap l w hn hl hv h64
  have c8 := fun w hv => refCheck_any A n cap l w hn hl hv h64
  have hts := turnL_small hn
  have HN := Lib.hid hn
  obtain ⟨i0, hi, hz0, hz1, hz2⟩ := info_parts Try.infoPull
  obtain ⟨x1, x2, x3, x4⟩ := boxes2 w #[.int .i64 p.x, .int .i64 p.y] #[] 24 52
  have x5 : ((w.alloc (.cells #[.int .i64 p.x, .int .i64 p.y] 24)).alloc (.cells #[] 52)).ownsRow (w.heap.size + 1) 52 5 (.slice (some ⟨w.heap.size + 1, 0, none⟩) 0 0) 0 [] := by
    have := World.ownsRow_lit (base := w.heap.size + 1) (e := 52) (size := 5) (w.alloc (.cells #[.int .i64 p.x, .int .i64 p.y] 24)) #[] 0 (by simp) (by unfold maxLen; omega) rfl
    rw [World.size_alloc] at this
    exact this
  have hx := Lib.hid (show _ ∧ _ ∧ _ ∧ _ from ⟨x1, x2, x3, x5⟩)
  clear hn x1 x2 x3 x4 x5 h64
  go_enter Try.func4, Try.ntmps4
  go_wp2_with (at_builtin; refine wpList_append_recs rfl _ _ 22 rfl (w.heap.size + 1) 52 i0 (.agg #[.int .i64 0, .int .i64 0, .int .u8 0, .int .i64 0, .int .i64 0]) 5 40 Try.underlying22 hi hz0 hz1 hz2 rfl (by decide) _ _ _ rfl hx.out.2.2.2 Pull.cells_len cells_one_pull rfl hA HN.out (hv.below hx.out.1) ?c1 ?c2 ?c3 ?_)
  case c1 => unfold maxLen; omega
  case c2 => omega
  case c3 => simp
  intro v' w1 hown hgrow
  obtain ⟨x1, x2, x3, x5⟩ := hx.out
  have hb := x1.grown hgrow (by omega) (fun r hr => by have := (x5.lt r hr).1; omega)
  have k3 : Blk w1 w.heap.size 24 #[.int .i64 p.x, .int .i64 p.y] := Blk.grown x3 hgrow (fun e => by have := (x5.lt _ e.symm).1; omega)
  obtain ⟨A0, cap0, rfl, -, hwas⟩ := Recs.of_own Pull.cells_len HN.out hown
  clear hown hgrow x1 x2 x3 x5 hx hi hz0 hz1 hz2
  have y0 := k3.cell (i := 0) rfl
  have y1 := k3.cell (i := 1) rfl
  have yl := k3.lt
  go_wp2_with fail
  refine (c1 _ ((hv.below hb).more hb.size)).mono ?_
  rintro e w2 ⟨rfl, hb1⟩
  replace hb := hb.trans (hb1.mono hb.size)
  replace k3 := k3.keep hb1
  replace hwas := (hwas.below hb1).more hb1.size
  clear hb1 c1 y0 y1 yl
  have y0 := k3.cell (i := 0) rfl
  have y1 := k3.cell (i := 1) rfl
  have yl := k3.lt
  go_wp2_with fail
  refine (c2 _ ((hv.below hb).more hb.size)).mono ?_
  rintro e w3 ⟨rfl, hb1⟩
  replace hb := hb.trans (hb1.mono hb.size)
  replace k3 := k3.keep hb1
  replace hwas := (hwas.below hb1).more hb1.size
  clear hb1 c2 y0 y1 yl
  have y0 := k3.cell (i := 0) rfl
  have y1 := k3.cell (i := 1) rfl
  have yl := k3.lt
  go_wp2_with fail
  refine (c3 _ ((hv.below hb).more hb.size)).mono ?_
  rintro e w4 ⟨rfl, hb1⟩
  replace hb := hb.trans (hb1.mono hb.size)
  replace k3 := k3.keep hb1
  replace hwas := (hwas.below hb1).more hb1.size
  clear hb1 c3 y0 y1 yl
  have y0 := k3.cell (i := 0) rfl
  have y1 := k3.cell (i := 1) rfl
  have yl := k3.lt
  go_wp2_with fail
  refine (c4 _ ((hv.below hb).more hb.size)).mono ?_
  rintro e w5 ⟨rfl, hb1⟩
  replace hb := hb.trans (hb1.mono hb.size)
  replace k3 := k3.keep hb1
  replace hwas := (hwas.below hb1).more hb1.size
  clear hb1 c4 y0 y1 yl
  clear k3
  go_wp2_with fail
  refine (c5 _ ((hv.below hb).more hb.size)).mono ?_
  rintro e w6 ⟨v, rfl, ⟨A1, cap1, rfl, hcap1, hv1⟩, hb1⟩
  replace hb := hb.trans (hb1.mono hb.size)
  replace hwas := (hwas.below hb1).more hb1.size
  clear hb1 c5 hcap1
  go_wp2_with fail
  refine (c6 _ ((hv.below hb).more hb.size)).mono ?_
  rintro e w7 ⟨v, rfl, ⟨A2, cap2, rfl, hcap2, hv2⟩, hb1⟩
  replace hb := hb.trans (hb1.mono hb.size)
  replace hwas := (hwas.below hb1).more hb1.size
  replace hv1 := (hv1.below hb1).more hb1.size
  clear hb1 c6 hcap2
  go_wp2_with fail
  refine (c7 _ ((hv.below hb).more hb.size)).mono ?_
  rintro e w8 ⟨rfl, hb1⟩
  replace hb := hb.trans (hb1.mono hb.size)
  replace hwas := (hwas.below hb1).more hb1.size
  replace hv1 := (hv1.below hb1).more hb1.size
  replace hv2 := (hv2.below hb1).more hb1.size
  clear hb1 c7
  go_wp2_with fail
  refine (c8 _ ((hv.below hb).more hb.size)).mono ?_
  rintro e w9 ⟨rfl, hb1⟩
  replace hb := hb.trans (hb1.mono hb.size)
  replace hwas := (hwas.below hb1).more hb1.size
  replace hv1 := (hv1.below hb1).more hb1.size
  replace hv2 := (hv2.below hb1).more hb1.size
  clear hb1 c8
  go_wp2_with fail
  refine (same_any A1 A2 _ _ cap1 cap2 (turnL l) (turnL l) _ rfl rfl (by omega) (by omega) hv1 hv2).mono ?_
  rintro e w10 ⟨rfl, hb1⟩
  replace hb := hb.trans (hb1.mono hb.size)
  replace hwas := (hwas.below hb1).more hb1.size
  clear hb1 hv1 hv2
  go_wp2_with fail
  refine (same_any A A0 _ _ cap cap0 l l _ HN.out HN.out hl hl ((hv.below hb).more hb.size) hwas).mono ?_
  rintro e w11 ⟨rfl, hb1⟩
  replace hb := hb.trans (hb1.mono hb.size)
  clear hb1 hv hwas
  go_wp2_with fail
  go_ret
  exact ret_bool rfl hb

open Go.ChangeShapes Go.WideShapes Go.ChangeAt Go.Joins

set_option maxRecDepth 100000 in
theorem values_lifted (os : Os) (started : os.Started) (H : Type) (enc : TypeId × Value → H) :
    ReturnsInHanded {} Try.checked os 4 .any (Rows.fieldValuesSpec.pre6 enc Try.prog Try.f4 Rows.fieldValuesRow.domain false) (Rows.fieldValuesSpec.post enc Try.prog Try.f4 false true false false) := by
  refine returnsInHanded_of_change (C := Try.checked) own started (by kernel_rfl) Try.func4
    (ChangeSpec.witness6 (enc := enc) (C := Try.checked) false ⟨#[], #[.slice none 0 0, .agg #[.int .i64 0, .int .i64 0]], []⟩ 8 (by kernel_rfl) (by kernel_rfl) (by kernel_rfl) (by kernel_rfl)) ?_
  intro W base args ds gs before hval0 hW hcnd _
  have hval : ∀ (j : Nat) t v, Try.f4.params[j]? = some t → args[j]? = some v → Value.okWide Try.prog W .any base t v := hval0
  have hW' := hW
  obtain ⟨p, q, hA0, hV, rfl, hfz, hnd⟩ := hW
  have hA : DataW.TrodAll enc Try.prog W 0 (fun _ => true) true Try.f4.params.toList args.toList ds p := hA0
  rw [Try.params4] at hA hval
  obtain ⟨v0, vs0, d0, ds0, p0, q0, hargs, rfl, rfl, h0, r0⟩ := trodAll_cons hA
  obtain ⟨v1, vs1, d1, ds1, p1, q1, rfl, rfl, rfl, h1, r1⟩ := trodAll_cons r0
  obtain ⟨rfl, rfl, rfl⟩ := trodAll_nil r1
  obtain rfl : args = #[v0, v1] := by cases args; simp_all
  obtain ⟨rfl, rfl⟩ := trodVars_none hV
  obtain ⟨A, n, cap, l, rfl, hn, hl, -, hAn, hvs, h64⟩ := open_field h0 (okWide_slice Try.underlying22 (hval 0 22 v0 rfl rfl))
  obtain ⟨a, rfl, ha⟩ := open_point (hval 1 24 v1 rfl rfl) h1
  refine (values_walk A n cap l a W hn hAn hvs h64 ha).mono fun e W' ⟨he, hb⟩ => ?_
  exact ⟨_, he, law_post laidOut hW' rfl (by kernel_rfl) rfl Try.underlying4 rfl rfl rfl hb⟩

theorem values_holds : Rows.FieldValuesSaid :=
  OpenClaim.holds_of_wide 4 Try.f4 rfl rfl rfl rfl rfl rfl rfl ⟨rfl, rfl, rfl, rfl, rfl⟩ rfl rfl rfl rfl rfl (by kernel_rfl) Try.func4 (by kernel_rfl)
    (of_decide_eq_true (by kernel_rfl)) (by unfold Func.isWrapper; first | (rw [if_pos (by decide +kernel)]; kernel_rfl) | (rw [if_neg (by decide +kernel)]; exact ⟨rfl, rfl⟩))
    (fun os started H enc _ => values_lifted os started H enc)
#print axioms values_holds
end Go.Proofs.Ytmomjjjfjjgepaa
