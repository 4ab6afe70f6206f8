/- The law 'SubdivRounds': Round and Hull return what the reference returns, for every curve. -/
import Derived.Test.YtfdjhiomdimfcaaCurveC
import Derived.Test.YtfdjhiomdimfcaaCurveD
import Derived.Test.YtfdjhiomdimfcaaCurveE
import Derived.Test.YtfdjhiomdimfcaaCurveF
import Derived.Test.YtfdjhiomdimfcaaCurveG
import Derived.Test.YtfdjhiomdimfcaaCurveRow
namespace Go.Proofs.Ytfdjhiomdimfcaa
open Go.RowKit Go.Rel

set_option maxHeartbeats 1000000 in
theorem rounds_walk (A : Option Addr) (n cap : Nat) (l : List Vec) (down : Int) (closed : Bool) (w : World) (hn : l.length = n) (hl0 : n ≤ 9223372036854775807) (hv : Vecs w w.heap.size A l) :
    Calls Try.prog 3 #[.agg #[.slice A n cap, .int .i64 down, .bool closed]] w (Ret w (.bool true)) := by
  by_cases hbig : 1100 < n
  · clear hv hn
    go_enter Try.func3, Try.ntmps3
    go_wp2_with fail
    go_ret
    exact ret_bool rfl (below_alloc w _)
  have hl : n ≤ 4611686018427387904 := by omega
  have HN := Lib.hid hn
  have hrl : (roundL l down).length ≤ 4611686018427387904 := by
    unfold roundL; split
    · split <;> simp <;> omega
    · simp
  have hself := sameB_self
  have hm31 := Try.eqGuard31
  have hve := vecEql
  clear hn
  go_enter Try.func3, Try.ntmps3
  go_wp2_with fail
  have q0 := Blk.new w 24 #[.slice A n cap, .int .i64 down, .bool closed]
  have hb0 := below_alloc w (.cells #[.slice A n cap, .int .i64 down, .bool closed] 24)
  have hs0 := q0.lt
  refine (round_any A n cap l down closed _ HN.out hl ((hv.below hb0).more (by omega))).mono ?_
  rintro e w1 ⟨v, rfl, ⟨A1, cap1, rfl, hv1⟩, hb1⟩
  replace q0 := q0.keep hb1
  replace hb0 := hb0.trans (hb1.mono (by omega))
  have hs1 := hb1.size
  have p0 := q0.cell (i := 0) rfl
  have p1 := q0.cell (i := 1) rfl
  have p2 := q0.cell (i := 2) rfl
  go_wp2_with fail
  refine (refRound_any A n cap l down closed _ HN.out hl ((hv.below hb0).more (by omega))).mono ?_
  rintro e w2 ⟨v, rfl, ⟨A2, cap2, rfl, hv2⟩, hb2⟩
  replace hv1 := hv1.below hb2
  replace q0 := q0.keep hb2
  replace hb0 := hb0.trans (hb2.mono (by omega))
  have hs2 := hb2.size
  replace p0 := q0.cell (i := 0) rfl
  replace p1 := q0.cell (i := 1) rfl
  replace p2 := q0.cell (i := 2) rfl
  clear hb1 hb2
  go_wp2_with fail
  refine (hull_any A n cap l down closed _ HN.out hl ((hv.below hb0).more (by omega))).mono ?_
  rintro e w3 ⟨rfl, hb3⟩
  replace hv1 := hv1.below (hb3.mono (by omega))
  replace hv2 := hv2.below hb3
  replace q0 := q0.keep hb3
  replace hb0 := hb0.trans (hb3.mono (by omega))
  have hs3 := hb3.size
  replace p0 := q0.cell (i := 0) rfl
  replace p1 := q0.cell (i := 1) rfl
  replace p2 := q0.cell (i := 2) rfl
  clear hb3
  have hl3 := q0.lt
  have hl3' : w.heap.size < w3.heap.size + 1 := by omega
  obtain ⟨b1, b2, b3, b4⟩ := boxes2 w3 #[.int .i64 (hullLo l down).x, .int .i64 (hullLo l down).y, .int .i64 (hullLo l down).z] #[.int .i64 (hullHi l down).x, .int .i64 (hullHi l down).y, .int .i64 (hullHi l down).z] 31 31
  have HB := Lib.hid (show _ ∧ _ ∧ _ ∧ _ from ⟨b1, b2, b3, b4⟩)
  clear b1 b2 b3 b4
  go_wp2_with fail
  obtain ⟨b1, b2, b3, b4⟩ := HB.out
  have c1 : Blk _ w3.heap.size 31 _ := b3
  have c2 : Blk _ (w3.heap.size + 1) 31 _ := b4
  replace hb0 := hb0.trans (b1.mono (by omega))
  replace hv1 := hv1.below (b1.mono (by omega))
  replace hv2 := hv2.below (b1.mono (by omega))
  replace q0 := q0.keep b1
  have hs4 := b2
  generalize World.alloc _ _ = w4 at b1 b2 c1 c2 hb0 hv1 hv2 q0 hs4 ⊢
  clear HB p0 p1 p2
  refine (refHull_any A n cap l down closed _ HN.out hl ((hv.below hb0).more (by omega))).mono ?_
  rintro e w5 ⟨rfl, hb5⟩
  replace hv1 := hv1.below (hb5.mono (by omega))
  replace hv2 := hv2.below (hb5.mono (by omega))
  replace hb0 := hb0.trans (hb5.mono (by omega))
  replace c1 := c1.keep hb5
  replace c2 := c2.keep hb5
  have hs5 := hb5.size
  clear hb5 b1 b2 q0 hl3 hl3'
  obtain ⟨b1, b2, b3, b4⟩ := boxes2 w5 #[.int .i64 (hullLo l down).x, .int .i64 (hullLo l down).y, .int .i64 (hullLo l down).z] #[.int .i64 (hullHi l down).x, .int .i64 (hullHi l down).y, .int .i64 (hullHi l down).z] 31 31
  have HB := Lib.hid (show _ ∧ _ ∧ _ ∧ _ from ⟨b1, b2, b3, b4⟩)
  clear b1 b2 b3 b4
  go_wp2_with fail
  obtain ⟨b1, b2, b3, b4⟩ := HB.out
  have d1 : Blk _ w5.heap.size 31 _ := b3
  have d2 : Blk _ (w5.heap.size + 1) 31 _ := b4
  replace hb0 := hb0.trans (b1.mono (by omega))
  replace hv1 := hv1.below (b1.mono (by omega))
  replace hv2 := hv2.below (b1.mono (by omega))
  replace c1 := c1.keep b1
  replace c2 := c2.keep b1
  have hs6 := b2
  clear HB b3 b4
  generalize World.alloc _ _ = w6 at b1 b2 c1 c2 d1 d2 hb0 hv1 hv2 hs6 ⊢
  refine (sameVecs_any A1 A2 _ _ cap1 cap2 (roundL l down) (roundL l down) _ rfl rfl hrl hrl (hv1.more (by omega)) (hv2.more (by omega))).mono ?_
  rintro e w7 ⟨rfl, hb7⟩
  replace c1 := c1.keep hb7
  replace c2 := c2.keep hb7
  replace d1 := d1.keep hb7
  replace d2 := d2.keep hb7
  have hfin := hb0.trans (hb7.mono (by omega))
  have HFIN := Lib.hid hfin
  have c10 := c1.cell (i := 0) rfl
  have c11 := c1.cell (i := 1) rfl
  have c12 := c1.cell (i := 2) rfl
  have c20 := c2.cell (i := 0) rfl
  have c21 := c2.cell (i := 1) rfl
  have c22 := c2.cell (i := 2) rfl
  have d10 := d1.cell (i := 0) rfl
  have d11 := d1.cell (i := 1) rfl
  have d12 := d1.cell (i := 2) rfl
  have d20 := d2.cell (i := 0) rfl
  have d21 := d2.cell (i := 1) rfl
  have d22 := d2.cell (i := 2) rfl
  clear b1 b2 hb7 hfin hv1 hv2 hb0 hv hs0 hs1 hs2 hs3 hs4 hs5 hs6
  go_wp2_with fail
  go_ret
  exact ret_bool rfl HFIN.out

open Go.ChangeShapes Go.WideShapes Go.ChangeAt

set_option maxRecDepth 100000 in
theorem rounds_lifted (os : Os) (started : os.Started) (H : Type) (enc : TypeId × Value → H) :
    ReturnsInHanded {} Try.checked os 3 .any (Rows.subdivRoundsSpec.pre6 enc Try.prog Try.f3 Rows.subdivRoundsRow.domain false) (Rows.subdivRoundsSpec.post enc Try.prog Try.f3 false true false false) := by
  refine returnsInHanded_of_change (C := Try.checked) own started (by kernel_rfl) Try.func3
    (ChangeSpec.witness6 (enc := enc) (C := Try.checked) false ⟨#[], #[.agg #[.slice none 0 0, .int .i64 0, .bool false]], []⟩ 8 (by kernel_rfl) (by kernel_rfl) (by kernel_rfl) (by kernel_rfl)) ?_
  intro W base args ds gs before hval0 hW hcnd _
  have hval : ∀ (j : Nat) t v, Try.f3.params[j]? = some t → args[j]? = some v → Value.okWide Try.prog W .any base t v := hval0
  have hW' := hW
  obtain ⟨p, q, hA0, hV, rfl, hfz, hnd⟩ := hW
  have hA : DataW.TrodAll enc Try.prog W 0 (fun _ => true) true Try.f3.params.toList args.toList ds p := hA0
  rw [Try.params3] at hA hval
  obtain ⟨v0, vs0, d0, ds0, p0, q0, hargs, rfl, rfl, h0, r0⟩ := trodAll_cons hA
  obtain ⟨rfl, rfl, rfl⟩ := trodAll_nil r0
  obtain rfl : args = #[v0] := by cases args; simp_all
  obtain ⟨rfl, rfl⟩ := trodVars_none hV
  obtain ⟨A, n, cap, l, down, closed, rfl, hn, hl, hvs, -⟩ := open_curve (hval 0 24 v0 rfl rfl) h0
  refine (rounds_walk A n cap l down closed W hn hl hvs).mono fun e W' ⟨he, hb⟩ => ?_
  exact ⟨_, he, law_post laidOut hW' rfl (by kernel_rfl) rfl Try.underlying4 rfl rfl rfl hb⟩

theorem rounds_holds : Rows.SubdivRoundsSaid :=
  OpenClaim.holds_of_wide 3 Try.f3 rfl rfl rfl rfl rfl rfl rfl ⟨rfl, rfl, rfl, rfl, rfl⟩ rfl rfl rfl rfl rfl (by kernel_rfl) Try.func3 (by kernel_rfl)
    (of_decide_eq_true (by kernel_rfl)) (by unfold Func.isWrapper; first | (rw [if_pos (by decide +kernel)]; kernel_rfl) | (rw [if_neg (by decide +kernel)]; exact ⟨rfl, rfl⟩))
    (fun os started H enc _ => rounds_lifted os started H enc)
#print axioms rounds_holds
end Go.Proofs.Ytfdjhiomdimfcaa
