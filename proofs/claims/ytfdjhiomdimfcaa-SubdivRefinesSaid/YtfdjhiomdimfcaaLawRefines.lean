/- The law 'SubdivRefines': Check, Refine and Limits return what the reference returns, and leave the curve as it is, for every curve and degree. -/
import Derived.Test.YtfdjhiomdimfcaaSubK
namespace Go.Rel
theorem refL_le (l : List Vec) (down d : Int) (closed : Bool) : (refL l down closed d).length ≤ 1000 := by
  unfold refL
  split
  · rename_i h
    unfold refE at h
    split at h
    · split at h
      · split at h
        · omega
        · split at h
          · omega
          · split at h
            · rename_i hV
              exact hV.2.1
            · omega
      · omega
    · omega
  · simp
end Go.Rel
namespace Go.Proofs.Ytfdjhiomdimfcaa
open Go.RowKit Go.Rel

set_option maxHeartbeats 2000000 in
theorem refines_walk (A : Option Addr) (n cap : Nat) (l : List Vec) (down d : Int) (closed : Bool) (w : World) (hn : l.length = n) (hl0 : n ≤ 9223372036854775807) (hv : Vecs w w.heap.size A l) (hA : A = none → cap = 0) (hd : -9223372036854775808 ≤ d ∧ d ≤ 9223372036854775807) :
    Calls Try.prog 4 #[.agg #[.slice A n cap, .int .i64 down, .bool closed], .int .i64 d] w (Ret w (.bool true)) := by
  by_cases hbig : 1100 < n
  · clear hv hn hd
    go_enter Try.func4, Try.ntmps4
    go_wp2_with fail
    go_ret
    exact ret_bool rfl (below_alloc w _)
  have hl : n ≤ 4611686018427387904 := by omega
  have HN := Lib.hid hn
  have hrl : (refL l down closed d).length ≤ 4611686018427387904 := by have := refL_le l down d closed; omega
  have hll : (limL l down closed d).length ≤ 4611686018427387904 := by
    unfold limL; split
    · rw [limPts_len]; unfold limLen; split <;> omega
    · simp
  have HRL := Lib.hid hrl
  have HLL := Lib.hid hll
  clear hn hrl hll
  have hb0 := below_alloc w (.cells #[.slice A n cap, .int .i64 down, .bool closed] 24)
  have q0 := Blk.new w 24 #[.slice A n cap, .int .i64 down, .bool closed]
  go_enter Try.func4, Try.ntmps4
  go_wp2_with fail
  generalize World.alloc _ _ = w0 at hb0 q0 ⊢
  have hs0 := q0.lt
  refine (twin_any A n cap l down closed _ HN.out (by omega) ((hv.below hb0).more (by omega)) hA).mono ?_
  rintro e w1 ⟨v, rfl, ⟨S, rfl, hrow⟩, hb1⟩
  obtain ⟨A1, cap1, rfl, -, hv1⟩ := Vecs.of_own_n HN.out hrow
  replace q0 := q0.keep hb1
  replace hb0 := hb0.trans (hb1.mono (by omega))
  have c0 := q0.cell (i := 0) rfl
  have c1 := q0.cell (i := 1) rfl
  have c2 := q0.cell (i := 2) rfl
  have hs1 := q0.lt
  clear hrow hb1
  go_wp2_with fail
  have q1 := Blk.new w1 24 #[.slice A1 n cap1, .int .i64 down, .bool closed]
  have hb := below_alloc w1 (.cells #[.slice A1 n cap1, .int .i64 down, .bool closed] 24)
  replace hv1 := hv1.below hb
  replace q0 := q0.keep hb
  replace hb0 := hb0.trans (hb.mono hb0.size)
  generalize hwx : World.alloc _ _ = w2 at q1 hb hv1 q0 hb0 ⊢
  clear hwx
  have hs2 := hb.size
  refine (refine_any A1 n cap1 l down d closed w2 HN.out hl (hv1.more hs2) hd).mono ?_
  rintro e w3 ⟨v, rfl, ⟨S3, rfl, hrow3⟩, hb3⟩
  obtain ⟨A3, cap3, rfl, -, hv3⟩ := Vecs.of_own hrow3
  replace q0 := q0.keep hb3
  replace q1 := q1.keep hb3
  replace hv1 := hv1.below (hb3.mono hs2)
  replace hb0 := hb0.trans (hb3.mono hb0.size)
  replace c0 := q0.cell (i := 0) rfl
  replace c1 := q0.cell (i := 1) rfl
  replace c2 := q0.cell (i := 2) rfl
  have e0 := q1.cell (i := 0) rfl
  have e1 := q1.cell (i := 1) rfl
  have e2 := q1.cell (i := 2) rfl
  have hs3 := q0.lt
  have hs3' := q1.lt
  clear hrow3 hb3 hb
  go_wp2_with fail
  have q2 := Blk.new w3 24 #[.slice A3 (refL l down closed d).length cap3, .int .i64 (refDown l down closed d), .bool (refClosed l down closed d)]
  have hb := below_alloc w3 (.cells #[.slice A3 (refL l down closed d).length cap3, .int .i64 (refDown l down closed d), .bool (refClosed l down closed d)] 24)
  replace hv1 := hv1.below (hb.mono (by omega))
  replace hv3 := hv3.below hb
  replace q0 := q0.keep hb
  replace q1 := q1.keep hb
  replace hb0 := hb0.trans (hb.mono hb0.size)
  generalize hwx : World.alloc _ _ = w4 at q2 hb hv1 hv3 q0 q1 hb0 ⊢
  clear hwx
  have hs4 := hb.size
  refine (refRefine_any A n cap l down d closed w4 HN.out hl ((hv.below hb0).more hb0.size) hd).mono ?_
  rintro e w5 ⟨v, rfl, ⟨S5, rfl, hrow5⟩, hb5⟩
  obtain ⟨A5, cap5, rfl, -, hv5⟩ := Vecs.of_own hrow5
  replace q0 := q0.keep hb5
  replace q1 := q1.keep hb5
  replace q2 := q2.keep hb5
  replace hv1 := hv1.below (hb5.mono (by omega))
  replace hv3 := hv3.below (hb5.mono hs4)
  replace hb0 := hb0.trans (hb5.mono hb0.size)
  replace c0 := q0.cell (i := 0) rfl
  replace c1 := q0.cell (i := 1) rfl
  replace c2 := q0.cell (i := 2) rfl
  replace e0 := q1.cell (i := 0) rfl
  replace e1 := q1.cell (i := 1) rfl
  replace e2 := q1.cell (i := 2) rfl
  replace hs3 := q0.lt
  replace hs3' := q1.lt
  have hs5 := q2.lt
  clear hrow5 hb5 hb
  go_wp2_with fail
  have q3 := Blk.new w5 24 #[.slice A5 (refL l down closed d).length cap5, .int .i64 (refDown l down closed d), .bool (refClosed l down closed d)]
  have hb := below_alloc w5 (.cells #[.slice A5 (refL l down closed d).length cap5, .int .i64 (refDown l down closed d), .bool (refClosed l down closed d)] 24)
  replace hv1 := hv1.below (hb.mono (by omega))
  replace hv3 := hv3.below (hb.mono (by omega))
  replace hv5 := hv5.below hb
  replace q0 := q0.keep hb
  replace q1 := q1.keep hb
  replace q2 := q2.keep hb
  replace hb0 := hb0.trans (hb.mono hb0.size)
  generalize hwx : World.alloc _ _ = w6 at q3 hb hv1 hv3 hv5 q0 q1 q2 hb0 ⊢
  clear hwx
  have hs6 := hb.size
  refine (limits_any A1 n cap1 l down d closed w6 HN.out hl (hv1.more (by omega)) hd).mono ?_
  rintro e w7 ⟨v, rfl, ⟨S7, rfl, hrow7⟩, hb7⟩
  obtain ⟨A7, cap7, rfl, -, hv7⟩ := Vecs.of_own hrow7
  replace q0 := q0.keep hb7
  replace q1 := q1.keep hb7
  replace q2 := q2.keep hb7
  replace q3 := q3.keep hb7
  replace hv1 := hv1.below (hb7.mono (by omega))
  replace hv3 := hv3.below (hb7.mono (by omega))
  replace hv5 := hv5.below (hb7.mono (by omega))
  replace hb0 := hb0.trans (hb7.mono hb0.size)
  replace c0 := q0.cell (i := 0) rfl
  replace c1 := q0.cell (i := 1) rfl
  replace c2 := q0.cell (i := 2) rfl
  clear hrow7 hb e0 e1 e2
  have hs7 := hb7.size
  clear hb7
  go_wp2_with fail
  refine (refLimits_any A n cap l down d closed w7 HN.out hl ((hv.below hb0).more hb0.size) hd).mono ?_
  rintro e w8 ⟨v, rfl, ⟨S8, rfl, hrow8⟩, hb8⟩
  obtain ⟨A8, cap8, rfl, -, hv8⟩ := Vecs.of_own hrow8
  replace q0 := q0.keep hb8
  replace q1 := q1.keep hb8
  replace q2 := q2.keep hb8
  replace q3 := q3.keep hb8
  replace hv1 := hv1.below (hb8.mono (by omega))
  replace hv3 := hv3.below (hb8.mono (by omega))
  replace hv5 := hv5.below (hb8.mono (by omega))
  replace hv7 := hv7.below (hb8.mono (by omega))
  replace hb0 := hb0.trans (hb8.mono hb0.size)
  clear hrow8 c0 c1 c2
  have hs8 := hb8.size
  clear hb8
  have hvc := hv.below hb0
  go_wp2_with fail
  have f0 := fun W (hW : Below w8.heap.size w8 W) => (q0.keep hW).cell (i := 0) rfl
  have f1 := fun W (hW : Below w8.heap.size w8 W) => (q0.keep hW).cell (i := 1) rfl
  have f2 := fun W (hW : Below w8.heap.size w8 W) => (q0.keep hW).cell (i := 2) rfl
  have g0 := fun W (hW : Below w8.heap.size w8 W) => (q1.keep hW).cell (i := 0) rfl
  have g1 := fun W (hW : Below w8.heap.size w8 W) => (q1.keep hW).cell (i := 1) rfl
  have g2 := fun W (hW : Below w8.heap.size w8 W) => (q1.keep hW).cell (i := 2) rfl
  have h0 := fun W (hW : Below w8.heap.size w8 W) => (q2.keep hW).cell (i := 0) rfl
  have h1 := fun W (hW : Below w8.heap.size w8 W) => (q2.keep hW).cell (i := 1) rfl
  have h2 := fun W (hW : Below w8.heap.size w8 W) => (q2.keep hW).cell (i := 2) rfl
  have k0 := fun W (hW : Below w8.heap.size w8 W) => (q3.keep hW).cell (i := 0) rfl
  have k1 := fun W (hW : Below w8.heap.size w8 W) => (q3.keep hW).cell (i := 1) rfl
  have k2 := fun W (hW : Below w8.heap.size w8 W) => (q3.keep hW).cell (i := 2) rfl
  obtain ⟨E, hE⟩ : ∃ E, checkE l down = E := ⟨_, rfl⟩
  have C1 : ∀ W, Below w8.heap.size w8 W → Calls Try.prog 21 #[.agg #[.slice A1 n cap1, .int .i64 down, .bool closed]] W (Ret W (.int .i64 E)) := fun W hW => by
    rw [← hE]; exact check_n A1 n cap1 l down closed W HN.out hl ((hv1.below (hW.mono (by omega))).more (by have := hW.size; omega))
  have C2 : ∀ W, Below w8.heap.size w8 W → Calls Try.prog 22 #[.agg #[.slice A n cap, .int .i64 down, .bool closed]] W (Ret W (.int .i64 E)) := fun W hW => by
    rw [← hE]; exact refCheck_any A n cap l down closed W HN.out hl ((hvc.below (hW.mono (by have := hb0.size; omega))).more (by have := hW.size; have := hb0.size; omega))
  have C3 : ∀ W, Below w8.heap.size w8 W → Calls Try.prog 23 #[.agg #[.slice A3 (refL l down closed d).length cap3, .int .i64 (refDown l down closed d), .bool (refClosed l down closed d)], .agg #[.slice A5 (refL l down closed d).length cap5, .int .i64 (refDown l down closed d), .bool (refClosed l down closed d)]] W (Ret W (.bool true)) := fun W hW =>
    same_eq A3 A5 _ cap3 cap5 (refL l down closed d) _ _ W rfl HRL.out ((hv3.below (hW.mono (by omega))).more (by have := hW.size; omega)) ((hv5.below (hW.mono (by omega))).more (by have := hW.size; omega))
  have C4 : ∀ W, Below w8.heap.size w8 W → Calls Try.prog 15 #[.slice A7 (limL l down closed d).length cap7, .slice A8 (limL l down closed d).length cap8] W (Ret W (.bool true)) := fun W hW => by
    have := sameVecs_any A7 A8 _ _ cap7 cap8 (limL l down closed d) (limL l down closed d) W rfl rfl HLL.out HLL.out ((hv7.below (hW.mono (by omega))).more (by have := hW.size; omega)) ((hv8.below hW).more hW.size)
    rwa [show decide (limL l down closed d = limL l down closed d) = true by simp] at this
  have C5 : ∀ W, Below w8.heap.size w8 W → Calls Try.prog 23 #[.agg #[.slice A1 n cap1, .int .i64 down, .bool closed], .agg #[.slice A n cap, .int .i64 down, .bool closed]] W (Ret W (.bool true)) := fun W hW =>
    same_eq A1 A n cap1 cap l down closed W HN.out hl ((hv1.below (hW.mono (by omega))).more (by have := hW.size; omega)) ((hvc.below (hW.mono (by have := hb0.size; omega))).more (by have := hW.size; have := hb0.size; omega))
  have HB := Lib.hid hb0
  clear q0 q1 q2 q3 hv hv1 hv3 hv5 hv7 hv8 hvc hb0 hE hA hs0 hs1 hs2 hs3 hs3' hs4 hs5 hs6 hs7 hs8
  generalize refL l down closed d = RL at *
  generalize refDown l down closed d = RD at *
  generalize refClosed l down closed d = RC at *
  generalize refE l down closed d = RE at *
  generalize limL l down closed d = LL at *
  generalize checkedE l down d = LE at *
  apply wp_region_head 30 74 (hm := by kernel_rfl) (hN := rfl)
  case h =>
    simp only [List.take_succ_cons, List.take_zero]
    (apply head_still (by kernel_rfl); (intro W hW; go_simp; (try rfl)))
    (apply head_call (by kernel_rfl); (intro W; go_simp; exact ⟨rfl, rfl⟩); (intro W hW; exact C1 W hW))
    (apply head_still (by kernel_rfl); (intro W hW; go_simp; (try rfl)))
    (apply head_call (by kernel_rfl); (intro W; go_simp; exact ⟨rfl, rfl⟩); (intro W hW; exact C2 W hW))
    iterate 4 (apply head_still (by kernel_rfl); (intro W hW; go_simp; (try rfl)))
    (apply head_call (by kernel_rfl); (intro W; go_simp; exact ⟨rfl, rfl⟩); (intro W hW; exact C3 W hW))
    iterate 9 (apply head_still (by kernel_rfl); (intro W hW; go_simp; (try rfl)))
    (apply head_call (by kernel_rfl); (intro W; go_simp; exact ⟨rfl, rfl⟩); (intro W hW; exact C4 W hW))
    iterate 9 (apply head_still (by kernel_rfl); (intro W hW; go_simp; (try rfl)))
    (apply head_call (by kernel_rfl); (intro W; go_simp; exact ⟨rfl, rfl⟩); (intro W hW; exact C5 W hW))
    (apply head_still (by kernel_rfl); (intro W hW; go_simp; (try rfl)))
    refine head_nil ?_
    intro W hW hF
    clear f0 f1 f2 g0 g1 g2 h0 h1 h2 k0 k1 k2 C1 C2 C3 C4 C5
    go_wp2_with fail
    go_ret
    exact ret_bool rfl (HB.out.trans (hW.mono HB.out.size))
  case hB => kernel_rfl
  all_goals rfl
open Go.ChangeShapes Go.WideShapes Go.ChangeAt

set_option maxRecDepth 100000 in
theorem refines_lifted (os : Os) (started : os.Started) (H : Type) (enc : TypeId × Value → H) :
    ReturnsInHanded {} Try.checked os 4 .any (Rows.subdivRefinesSpec.pre6 enc Try.prog Try.f4 Rows.subdivRefinesRow.domain false) (Rows.subdivRefinesSpec.post enc Try.prog Try.f4 false true false false) := by
  refine returnsInHanded_of_change (C := Try.checked) own started (by kernel_rfl) Try.func4
    (ChangeSpec.witness6 (enc := enc) (C := Try.checked) false ⟨#[], #[.agg #[.slice none 0 0, .int .i64 0, .bool false], .int .i64 0], []⟩ 8 (by kernel_rfl) (by kernel_rfl) (by kernel_rfl) (by kernel_rfl)) ?_
  intro W base args ds gs before hval0 hW hcnd _
  have hval : ∀ (j : Nat) t v, Try.f4.params[j]? = some t → args[j]? = some v → Value.okWide Try.prog W .any base t v := hval0
  have hW' := hW
  obtain ⟨p, q, hA0, hV, rfl, hfz, hnd⟩ := hW
  have hA : DataW.TrodAll enc Try.prog W 0 (fun _ => true) true Try.f4.params.toList args.toList ds p := hA0
  rw [Try.params4] at hA hval
  obtain ⟨v0, vs0, d0, ds0, p0, q0, hargs, rfl, rfl, h0, r0⟩ := trodAll_cons hA
  obtain ⟨v1, vs1, d1, ds1, p1, q1, rfl, rfl, rfl, h1, r1⟩ := trodAll_cons r0
  obtain ⟨rfl, rfl, rfl⟩ := trodAll_nil r1
  obtain rfl : args = #[v0, v1] := by cases args; simp_all
  obtain ⟨rfl, rfl⟩ := trodVars_none hV
  obtain ⟨A, n, cap, l, down, closed, rfl, hn, hl, hvs, hcap, -⟩ := open_curve2 (hval 0 24 v0 rfl rfl) h0
  obtain ⟨d, rfl, -, -, hd⟩ := open_int Try.underlying3 (hval 1 3 v1 rfl rfl) h1
  refine (refines_walk A n cap l down d closed W hn hl hvs hcap (wf_i64 hd)).mono fun e W' ⟨he, hb⟩ => ?_
  exact ⟨_, he, law_post laidOut hW' rfl (by kernel_rfl) rfl Try.underlying4 rfl rfl rfl hb⟩

theorem refines_holds : Rows.SubdivRefinesSaid :=
  OpenClaim.holds_of_wide 4 Try.f4 rfl rfl rfl rfl rfl rfl rfl ⟨rfl, rfl, rfl, rfl, rfl⟩ rfl rfl rfl rfl rfl (by kernel_rfl) Try.func4 (by kernel_rfl)
    (of_decide_eq_true (by kernel_rfl)) (by unfold Func.isWrapper; first | (rw [if_pos (by decide +kernel)]; kernel_rfl) | (rw [if_neg (by decide +kernel)]; exact ⟨rfl, rfl⟩))
    (fun os started H enc _ => refines_lifted os started H enc)
#print axioms refines_holds
end Go.Proofs.Ytfdjhiomdimfcaa
