/- The law 'RatioSums': Sum returns what the reference returns, for every list. -/
import Derived.Test.YtpkcmjiokdpegaaRatI
import Derived.Test.YtpkcmjiokdpegaaRatEq
import Derived.Test.YtpkcmjiokdpegaaRatRow
namespace Go.Proofs.Ytpkcmjiokdpegaa
open Go.RowKit Go.Rel

set_option maxHeartbeats 1000000 in
theorem sums_walk (A : Option Addr) (n cap : Nat) (l : List Rat2) (w : World) (hn : l.length = n) (hl0 : n ≤ 9223372036854775807) (hv : Rats w w.heap.size A l) (h64 : ∀ a ∈ l, Rat64 a) :
    Calls Try.prog 3 #[.slice A n cap] w (Ret w (.bool true)) := by
  by_cases hbig : 250 < n
  · clear hv hn h64
    go_enter Try.func3, Try.ntmps3
    go_wp2_with fail
    go_ret
    exact ret_bool rfl (Below.refl _ _)
  have hl : n ≤ 4611686018427387904 := by omega
  have HN := Lib.hid hn
  have hself := ratB_self
  have hm31 := Try.eqGuardRat
  have hve := ratEql
  clear hn
  go_enter Try.func3, Try.ntmps3
  go_wp2_with fail
  refine (sum_any A n cap l _ HN.out hl hv h64).mono ?_
  rintro e w1 ⟨rfl, hb1⟩
  go_wp2_with fail
  have x1 := Blk.new w1 24 #[.int .i64 (sumR l).n, .int .i64 (sumR l).d]
  have hb2 := hb1.trans ((below_alloc w1 (.cells #[.int .i64 (sumR l).n, .int .i64 (sumR l).d] 24)).mono hb1.size)
  generalize World.alloc _ _ = w2 at x1 hb2 ⊢
  refine (refSum_any A n cap l _ HN.out hl ((hv.below hb2).more hb2.size) h64).mono ?_
  rintro e w3 ⟨rfl, hb3⟩
  replace x1 := x1.keep hb3
  replace hb2 := hb2.trans (hb3.mono hb2.size)
  have p0 := x1.cell (i := 0) rfl
  have p1 := x1.cell (i := 1) rfl
  have hlt := x1.lt
  go_wp2_with fail
  go_ret
  exact ret_bool rfl (hb2.trans ((below_alloc w3 _).mono hb2.size))

open Go.ChangeShapes Go.WideShapes Go.ChangeAt Go.Joins

theorem ownS : ownKnob Try.prog.godebug = none := by kernel_rfl
theorem laidOutS : laidOutB Try.prog = true := by kernel_rfl
theorem Try.cells1 : Try.prog.cellsOf 2 = 1 := by kernel_rfl

set_option maxRecDepth 100000 in
theorem sums_lifted (os : Os) (started : os.Started) (H : Type) (enc : TypeId × Value → H) :
    ReturnsInHanded {} Try.checked os 3 .any (Rows.ratioSumsSpec.pre6 enc Try.prog Try.f3 Rows.ratioSumsRow.domain false) (Rows.ratioSumsSpec.post enc Try.prog Try.f3 false true false false) := by
  refine returnsInHanded_of_change (C := Try.checked) ownS started (by kernel_rfl) Try.func3
    (ChangeSpec.witness6 (enc := enc) (C := Try.checked) false ⟨#[], #[.slice none 0 0], []⟩ 8 (by kernel_rfl) (by kernel_rfl) (by kernel_rfl) (by kernel_rfl)) ?_
  intro W base args ds gs before hval0 hW hcnd _
  have hval : ∀ (j : Nat) t v, Try.f3.params[j]? = some t → args[j]? = some v → Value.okWide Try.prog W .any base t v := hval0
  have hW' := hW
  obtain ⟨p, q, hA0, hV, rfl, hfz, hnd⟩ := hW
  have hA : DataW.TrodAll enc Try.prog W 0 (fun _ => true) true Try.f3.params.toList args.toList ds p := hA0
  rw [Try.params3] at hA hval
  obtain ⟨v0, vs0, d0, ds0, p0, q0, hargs, rfl, rfl, h0, r0⟩ := trodAll_cons hA
  obtain ⟨rfl, rfl, rfl⟩ := trodAll_nil r0
  obtain rfl : args = #[v0] := by cases args; simp_all
  obtain ⟨rfl, rfl⟩ := trodVars_none hV
  obtain ⟨A0, n0, c0, rfl⟩ := okWide_slice Try.underlying22 (hval 0 22 v0 rfl rfl)
  obtain ⟨fuel, h0⟩ := h0
  obtain ⟨A, n, cap, l, hveq, hn, hl, -, hvs, h64⟩ := open_rats Try.underlying22 Try.underlying24 Try.underlying2 ⟨rfl, rfl⟩ ⟨rfl, rfl⟩ Try.cells1 Try.cellsRat h0
  rw [hveq] at hW' ⊢
  refine (sums_walk A n cap l W hn hl hvs h64).mono fun e W' ⟨he, hb⟩ => ?_
  exact ⟨_, he, law_post laidOutS hW' rfl (by kernel_rfl) rfl Try.underlying4 rfl rfl rfl hb⟩

theorem sums_holds : Rows.RatioSumsSaid :=
  OpenClaim.holds_of_wide 3 Try.f3 rfl rfl rfl rfl rfl rfl rfl ⟨rfl, rfl, rfl, rfl, rfl⟩ rfl rfl rfl rfl rfl (by kernel_rfl) Try.func3 (by kernel_rfl)
    (of_decide_eq_true (by kernel_rfl)) (by unfold Func.isWrapper; first | (rw [if_pos (by decide +kernel)]; kernel_rfl) | (rw [if_neg (by decide +kernel)]; exact ⟨rfl, rfl⟩))
    (fun os started H enc _ => sums_lifted os started H enc)
#print axioms sums_holds
end Go.Proofs.Ytpkcmjiokdpegaa
