/- The law 'SubdivLimits'. -/
import Derived.Test.YtfdjhiomdimfcaaSubM
import Derived.Test.YtfdjhiomdimfcaaSubLaws
namespace Go.Proofs.Ytfdjhiomdimfcaa
open Go.RowKit Go.Rel

set_option maxHeartbeats 2000000 in
theorem limits_early (A : Option Addr) (n cap : Nat) (l : List Vec) (down d : Int) (closed : Bool) (w : World) (hn : l.length = n) (hl : n ≤ 9223372036854775807) (hv : Vecs w w.heap.size A l) (hno : ¬ (n ≤ 200 ∧ Valid l down ∧ 1 ≤ d ∧ d ≤ 3)) :
    Calls Try.prog 5 #[.agg #[.slice A n cap, .int .i64 down, .bool closed], .int .i64 d] w (Ret w (.bool true)) := by
  have HN := Lib.hid hn
  have hb0 := below_alloc w (.cells #[.slice A n cap, .int .i64 down, .bool closed] 24)
  have q0 := Blk.new w 24 #[.slice A n cap, .int .i64 down, .bool closed]
  have hs : ∃ b1 b2 b3 : Bool, decide (n ≤ 200 ∧ Valid l down) = b1 ∧ decide (d < 1) = b2 ∧ decide (3 < d) = b3 ∧ (b1 = false ∨ (b1 = true ∧ b2 = true) ∨ (b1 = true ∧ b2 = false ∧ b3 = true)) := by
    refine ⟨_, _, _, rfl, rfl, rfl, ?_⟩
    by_cases h1 : n ≤ 200 ∧ Valid l down
    · by_cases h2 : d < 1
      · exact .inr (.inl ⟨decide_eq_true h1, decide_eq_true h2⟩)
      · refine .inr (.inr ⟨decide_eq_true h1, decide_eq_false h2, decide_eq_true ?_⟩)
        have : ¬ (1 ≤ d ∧ d ≤ 3) := fun h => hno ⟨h1.1, h1.2, h⟩
        omega
    · exact .inl (decide_eq_false h1)
  obtain ⟨b1, b2, b3, h1, h2, h3, hc⟩ := hs
  have H1 := Lib.hid h1
  clear h1 hno hn
  go_enter Try.func5, Try.ntmps5
  go_wp2_with fail
  generalize World.alloc _ _ = w0 at hb0 q0 ⊢
  refine (alive_any _).mono ?_
  rintro e w1 ⟨rfl, hb1⟩
  replace q0 := q0.keep hb1
  replace hb0 := hb0.trans (hb1.mono hb0.size)
  have c0 := q0.cell (i := 0) rfl
  have c1 := q0.cell (i := 1) rfl
  have c2 := q0.cell (i := 2) rfl
  clear hb1
  go_wp2_with fail
  refine (small_any A n cap l down closed _ HN.out hl ((hv.below hb0).more hb0.size)).mono ?_
  rw [H1.out]
  rintro e w2 ⟨rfl, hb1⟩
  replace hb0 := hb0.trans (hb1.mono hb0.size)
  clear c0 c1 c2 hb1 hv q0
  rcases hc with rfl | ⟨rfl, rfl⟩ | ⟨rfl, rfl, rfl⟩
  all_goals
    (try simp only [decide_eq_true_eq, decide_eq_false_iff_not] at h2 h3)
    go_wp2_with fail
    go_ret
    exact ret_bool rfl hb0

set_option maxHeartbeats 4000000 in
theorem limits_walk (A : Option Addr) (n cap : Nat) (l : List Vec) (down : Int) (d : Nat) (closed : Bool) (w : World) (hn : l.length = n) (hl : n ≤ 200) (hv : Vecs w w.heap.size A l) (hV : Valid l down) (hd : 1 ≤ d ∧ d ≤ 3) :
    Calls Try.prog 5 #[.agg #[.slice A n cap, .int .i64 down, .bool closed], .int .i64 d] w (Ret w (.bool true)) := by
  have HN := Lib.hid hn
  have hb0 := below_alloc w (.cells #[.slice A n cap, .int .i64 down, .bool closed] 24)
  have q0 := Blk.new w 24 #[.slice A n cap, .int .i64 down, .bool closed]
  have h1 : decide (n ≤ 200 ∧ Valid l down) = true := decide_eq_true ⟨hl, hV⟩
  have H1 := Lib.hid h1
  obtain ⟨d1, d2⟩ := id hd
  have hdeg : degOk (d : Int) := ⟨by omega, by omega⟩
  have hlp := limL_ok (closed := closed) hV hdeg
  have hle := checkedE_ok hV hdeg
  rw [Int.toNat_natCast] at hlp
  have hcs := refE_cases (closed := closed) hV hdeg (by rw [hn]; exact hl)
  rw [Int.toNat_natCast] at hcs
  have r1 := fun W hW => refine_any A n cap l down d closed W hn (by omega) hW ⟨by omega, by omega⟩
  have r2 := fun W hW => limits_any A n cap l down d closed W hn (by omega) hW ⟨by omega, by omega⟩
  rw [hlp, hle] at r2
  have R1 := Lib.hid r1
  have R2 := Lib.hid r2
  have hdn := And.intro hV.2.2.1 hV.2.2.2.1
  have HH := Lib.hid (show Valid l down ∧ _ ∧ _ from ⟨hV, hd, hcs⟩)
  clear h1 hn r1 r2 hlp hle hcs hV hd hdeg
  obtain ⟨dn1, dn2⟩ := hdn
  go_enter Try.func5, Try.ntmps5
  go_wp2_with fail
  generalize World.alloc _ _ = w0 at hb0 q0 ⊢
  refine (alive_any _).mono ?_
  rintro e w1 ⟨rfl, hb1⟩
  replace q0 := q0.keep hb1
  replace hb0 := hb0.trans (hb1.mono hb0.size)
  have c0 := q0.cell (i := 0) rfl
  have c1 := q0.cell (i := 1) rfl
  have c2 := q0.cell (i := 2) rfl
  clear hb1
  go_wp2_with fail
  refine (small_any A n cap l down closed _ HN.out (by omega) ((hv.below hb0).more hb0.size)).mono ?_
  rw [H1.out]
  have z1 : decide ((d : Int) < 1) = false := decide_eq_false (by omega)
  have z2 : decide (3 < (d : Int)) = false := decide_eq_false (by omega)
  rintro e w2 ⟨rfl, hb1⟩
  replace q0 := q0.keep hb1
  replace hb0 := hb0.trans (hb1.mono hb0.size)
  replace c0 := q0.cell (i := 0) rfl
  replace c1 := q0.cell (i := 1) rfl
  replace c2 := q0.cell (i := 2) rfl
  clear hb1
  go_wp2_with fail
  refine (R1.out _ ((hv.below hb0).more hb0.size)).mono ?_
  rintro e w3 ⟨v, rfl, ⟨S3, rfl, hrow3⟩, hb3⟩
  obtain ⟨A3, cap3, rfl, -, hv3⟩ := Vecs.of_own hrow3
  replace q0 := q0.keep hb3
  replace hb0 := hb0.trans (hb3.mono hb0.size)
  have q1 := Blk.new w3 24 #[.slice A3 (refL l down closed d).length cap3, .int .i64 (refDown l down closed d), .bool (refClosed l down closed d)]
  have hb := below_alloc w3 (.cells #[.slice A3 (refL l down closed d).length cap3, .int .i64 (refDown l down closed d), .bool (refClosed l down closed d)] 24)
  replace hv3 := hv3.below hb
  replace q0 := q0.keep hb
  replace hb0 := hb0.trans (hb.mono hb0.size)
  replace c0 := q0.cell (i := 0) rfl
  replace c1 := q0.cell (i := 1) rfl
  replace c2 := q0.cell (i := 2) rfl
  clear hb3 hrow3 R1
  go_wp2_with fail
  generalize hwx : World.alloc _ _ = w4 at q1 hb hv3 q0 hb0 ⊢
  clear hwx c0 c1 c2
  have hs4 := hb.size
  refine (R2.out _ ((hv.below hb0).more hb0.size)).mono ?_
  rintro e w5 ⟨v, rfl, ⟨S5, rfl, hrow5⟩, hb5⟩
  obtain ⟨A5, cap5, rfl, -, hv5⟩ := Vecs.of_own hrow5
  replace q0 := q0.keep hb5
  replace q1 := q1.keep hb5
  replace hv3 := hv3.below (hb5.mono (by omega))
  replace hb0 := hb0.trans (hb5.mono hb0.size)
  have hs5 := hb5.size
  clear hrow5 hb5 hb R2
  obtain ⟨hV, hd, hcs⟩ := HH.out
  rcases hcs with ⟨h6, hnil⟩ | h16 | ⟨h0, hM, hVr⟩
  · rw [h6, hnil]
    clear h6 hnil HH hv hv3 hv5 q0 q1
    go_wp2_with fail
    go_ret
    exact ret_bool rfl hb0
  · rw [h16]
    clear h16 HH hv hv3 hv5 q0 q1
    go_wp2_with fail
    go_ret
    exact ret_bool rfl hb0
  obtain ⟨e1, e2, e3⟩ := refL_ok h0
  rw [Int.toNat_natCast] at e1
  rw [h0, e1, e2, e3]
  rw [e1] at hv3
  rw [e1, e2, e3] at q1
  have h0l : 0 < l.length := by have := hV.1; omega
  have hstay := fun i hi => lim_stay (l := l) (closed := closed) (d := d) (i := i) h0l hd hi
  have hmany := lim_many (l := l) (closed := closed) h0l hd hM
  have hlp := limL_ok (closed := closed) hVr (d := (d : Int)) ⟨by omega, by omega⟩
  have hle := checkedE_ok hVr (d := (d : Int)) ⟨by omega, by omega⟩
  rw [Int.toNat_natCast] at hlp
  have r7 := fun cap3 W hW => limits_any A3 (refPts l d closed).length cap3 (refPts l d closed) (down + d) d closed W rfl (by have := hVr.2.1; omega) hW ⟨by omega, by omega⟩
  rw [hlp, hle] at r7
  have hRlen := hVr.2.1
  generalize hP : refPts l d closed = P at *
  have HS := Lib.hid hstay
  have HV := Lib.hid hV
  obtain ⟨LL, hLL⟩ : ∃ LL, (limPts l d closed).length = LL := ⟨_, rfl⟩
  obtain ⟨MM, hMM⟩ : ∃ MM, (limPts P d closed).length = MM := ⟨_, rfl⟩
  have hmany' : 2 * LL ≤ MM + 1 := by rw [← hLL, ← hMM, limPts_len, limPts_len]; exact hmany
  have hLb : LL ≤ 200 ∧ MM ≤ 1000 := by
    rw [← hLL, ← hMM, limPts_len, limPts_len, HN.out]
    unfold limLen; constructor <;> split <;> omega
  obtain ⟨hLb, hMb⟩ := hLb
  have HLL := Lib.hid hLL
  have HMM := Lib.hid hMM
  rw [hLL]
  have HR7 := Lib.hid r7
  have c0 := q1.cell (i := 0) rfl
  have c1 := q1.cell (i := 1) rfl
  have c2 := q1.cell (i := 2) rfl
  have hq1 := q1.lt
  clear hLL hMM HH hstay hmany hM hVr hlp hle r7 hV hd hv h0 e1 e2 e3 hP H1
  go_wp2_with fail
  refine (HR7.out _ _ (hv3.more (by omega))).mono ?_
  rintro e w7 ⟨v, rfl, ⟨S7, rfl, hrow7⟩, hb7⟩
  obtain ⟨A7, cap7, rfl, -, hv7⟩ := Vecs.of_own hrow7
  rw [HMM.out]
  replace q0 := q0.keep hb7
  replace q1 := q1.keep hb7
  replace hv5 := hv5.below hb7
  replace hb0 := hb0.trans (hb7.mono hb0.size)
  have hs7 := hb7.size
  clear hrow7 hb7 HR7 hv3 c0 c1 c2 hq1
  have hwd : ∃ D : Int, 2 ^ d = D ∧ 2 ≤ D ∧ D ≤ 8 := by
    refine ⟨_, rfl, ?_⟩
    have : d = 1 ∨ d = 2 ∨ d = 3 := by omega
    rcases this with rfl | rfl | rfl <;> simp
  obtain ⟨D, hD, hD1, hD2⟩ := hwd
  have hwD : IntKind.i64.wrap D = D := by rw [IntKind.wrap_i64]; omega
  go_wp2_with fail
  go_loopw [12] (fun i wr => ∃ k : Nat, k ≤ LL ∧ i = .int .i64 k ∧ Below w7.heap.size w7 wr) (fun i _ => LL - (intOf i).toNat)
  case atStart => exact ⟨0, Nat.zero_le _, by simp, Below.refl _ _⟩
  case round =>
    obtain ⟨k, hk, rfl, hB⟩ := hrel
    by_cases hlt : k < LL
    · obtain ⟨B5, o5, rfl, hB5, p0, p1, p2⟩ := hv5.at_ (show k < (limPts l d closed).length by rw [HLL.out]; exact hlt)
      obtain ⟨B7, o7, rfl, hB7, r0, r1, r2⟩ := hv7.at_ (show 2 * k < (limPts P d closed).length by rw [HMM.out]; omega)
      obtain ⟨J, hJ⟩ : ∃ J : Nat, 2 * k = J := ⟨_, rfl⟩
      have hJM : J < MM := by omega
      have hwJ : IntKind.i64.wrap (2 * (k : Int)) = (J : Int) := by rw [IntKind.wrap_i64]; omega
      have hX := HS.out k (by rw [← limPts_len, HLL.out]; exact hlt)
      simp only [getElem_lim, hJ] at p0 p1 p2 r0 r1 r2
      rw [hD, hJ] at hX
      have hok : okV (mulV D (limV l d k)) := by
        have := limV_in HV.out d k
        have : D = 2 ∨ D = 4 ∨ D = 8 := by
          have : d = 1 ∨ d = 2 ∨ d = 3 := by omega
          rcases this with rfl | rfl | rfl <;> simp at hD <;> omega
        unfold okV inV mulV at *
        rcases this with rfl | rfl | rfl <;> dsimp only <;> omega
      have T := times_any (limV l d k) D
      rw [hX] at r0 r1 r2
      generalize limV l d k = V at *
      obtain ⟨v1, v2, v3⟩ := V
      have T' := fun W => T W hok
      clear T hok hX
      generalize mulV D ⟨v1, v2, v3⟩ = R at *
      obtain ⟨x, y, z⟩ := R
      simp only at p0 p1 p2 r0 r1 r2
      have P0 := fun W (hW : Below wr.heap.size wr W) => ((hB.trans (hW.mono hB.size)).cell (p := ⟨B5, o5 + k * 3, none⟩) (Nat.lt_of_lt_of_le hB5 hs7)).trans p0
      have P1 := fun W (hW : Below wr.heap.size wr W) => ((hB.trans (hW.mono hB.size)).cell (p := ⟨B5, o5 + k * 3 + 1, none⟩) (Nat.lt_of_lt_of_le hB5 hs7)).trans p1
      have P2 := fun W (hW : Below wr.heap.size wr W) => ((hB.trans (hW.mono hB.size)).cell (p := ⟨B5, o5 + k * 3 + 2, none⟩) (Nat.lt_of_lt_of_le hB5 hs7)).trans p2
      have Q0 := fun W (hW : Below wr.heap.size wr W) => ((hB.trans (hW.mono hB.size)).cell (p := ⟨B7, o7 + J * 3, none⟩) hB7).trans r0
      have Q1 := fun W (hW : Below wr.heap.size wr W) => ((hB.trans (hW.mono hB.size)).cell (p := ⟨B7, o7 + J * 3 + 1, none⟩) hB7).trans r1
      have Q2 := fun W (hW : Below wr.heap.size wr W) => ((hB.trans (hW.mono hB.size)).cell (p := ⟨B7, o7 + J * 3 + 2, none⟩) hB7).trans r2
      have hvn : ∀ W, (binOp .neq 31 (.agg #[.int .i64 x, .int .i64 y, .int .i64 z]) (.agg #[.int .i64 x, .int .i64 y, .int .i64 z])).run Try.prog W = .ok (.bool false) W := fun W => by rw [vecNeq]; simp [sameB]
      have hveg := Try.eqGuard31
      have HBB := Lib.hid hB
      clear p0 p1 p2 r0 r1 r2 hB hB5 hB7 HS hv5 hv7 q0 q1 hb0 HV HLL HMM
      go_wp2_with fail
      apply wp_region_head 12 119 (hm := by kernel_rfl) (hN := rfl)
      case h =>
        simp only [List.take_succ_cons, List.take_zero]
        iterate 11 (apply head_still (by kernel_rfl); (intro W hW; go_simp; (try rfl)))
        apply head_call (by kernel_rfl)
        · intro W; go_simp; exact ⟨rfl, rfl⟩
        · intro W hW; exact T' W
        refine head_nil ?_
        intro W hW hF
        clear P0 P1 P2 Q0 Q1 Q2 T'
        go_wp2_with fail
        go_roundw
        case rel => exact ⟨k + 1, by omega, by go_num, HBB.out.trans (hW.mono HBB.out.size)⟩
        case measure => simp [intOf]; omega
      case hB => kernel_rfl
      all_goals rfl
    · obtain rfl : k = LL := by omega
      have hb9 := hb0.trans (hB.mono hb0.size)
      replace q0 := q0.keep hB
      replace q1 := q1.keep hB
      have c0 := q0.cell (i := 0) rfl
      have c1 := q0.cell (i := 1) rfl
      have c2 := q0.cell (i := 2) rfl
      have e0 := q1.cell (i := 0) rfl
      have e1 := q1.cell (i := 1) rfl
      have e2 := q1.cell (i := 2) rfl
      have hz0 := q0.lt
      have hz1 := q1.lt
      clear hv5 hv7 q0 q1 hb0 hB
      go_wp2_with fail
      go_ret
      exact ret_bool rfl hb9

theorem limits_all (A : Option Addr) (n cap : Nat) (l : List Vec) (down d : Int) (closed : Bool) (w : World) (hn : l.length = n) (hl : n ≤ 9223372036854775807) (hv : Vecs w w.heap.size A l) (_ : -9223372036854775808 ≤ d ∧ d ≤ 9223372036854775807) :
    Calls Try.prog 5 #[.agg #[.slice A n cap, .int .i64 down, .bool closed], .int .i64 d] w (Ret w (.bool true)) := by
  by_cases h : n ≤ 200 ∧ Valid l down ∧ 1 ≤ d ∧ d ≤ 3
  · obtain ⟨h1, h2, h3, h4⟩ := h
    obtain ⟨k, rfl⟩ : ∃ k : Nat, d = k := ⟨d.toNat, by omega⟩
    exact limits_walk A n cap l down k closed w hn h1 hv h2 ⟨by omega, by omega⟩
  · exact limits_early A n cap l down d closed w hn hl hv h
open Go.ChangeShapes Go.WideShapes Go.ChangeAt

set_option maxRecDepth 100000 in
theorem limits_lifted (os : Os) (started : os.Started) (H : Type) (enc : TypeId × Value → H) :
    ReturnsInHanded {} Try.checked os 5 .any (Rows.subdivLimitsSpec.pre6 enc Try.prog Try.f5 Rows.subdivLimitsRow.domain false) (Rows.subdivLimitsSpec.post enc Try.prog Try.f5 false true false false) := by
  refine returnsInHanded_of_change (C := Try.checked) own started (by kernel_rfl) Try.func5
    (ChangeSpec.witness6 (enc := enc) (C := Try.checked) false ⟨#[], #[.agg #[.slice none 0 0, .int .i64 0, .bool false], .int .i64 0], []⟩ 8 (by kernel_rfl) (by kernel_rfl) (by kernel_rfl) (by kernel_rfl)) ?_
  intro W base args ds gs before hval0 hW hcnd _
  have hval : ∀ (j : Nat) t v, Try.f5.params[j]? = some t → args[j]? = some v → Value.okWide Try.prog W .any base t v := hval0
  have hW' := hW
  obtain ⟨p, q, hA0, hV, rfl, hfz, hnd⟩ := hW
  have hA : DataW.TrodAll enc Try.prog W 0 (fun _ => true) true Try.f5.params.toList args.toList ds p := hA0
  rw [Try.params5] at hA hval
  obtain ⟨v0, vs0, d0, ds0, p0, q0, hargs, rfl, rfl, h0, r0⟩ := trodAll_cons hA
  obtain ⟨v1, vs1, d1, ds1, p1, q1, rfl, rfl, rfl, h1, r1⟩ := trodAll_cons r0
  obtain ⟨rfl, rfl, rfl⟩ := trodAll_nil r1
  obtain rfl : args = #[v0, v1] := by cases args; simp_all
  obtain ⟨rfl, rfl⟩ := trodVars_none hV
  obtain ⟨A, n, cap, l, down, closed, rfl, hn, hl, hvs, hcap, -⟩ := open_curve2 (hval 0 24 v0 rfl rfl) h0
  obtain ⟨d, rfl, -, -, hd⟩ := open_int Try.underlying3 (hval 1 3 v1 rfl rfl) h1
  refine (limits_all A n cap l down d closed W hn hl hvs (wf_i64 hd)).mono fun e W' ⟨he, hb⟩ => ?_
  exact ⟨_, he, law_post laidOut hW' rfl (by kernel_rfl) rfl Try.underlying4 rfl rfl rfl hb⟩

theorem limits_holds : Rows.SubdivLimitsSaid :=
  OpenClaim.holds_of_wide 5 Try.f5 rfl rfl rfl rfl rfl rfl rfl ⟨rfl, rfl, rfl, rfl, rfl⟩ rfl rfl rfl rfl rfl (by kernel_rfl) Try.func5 (by kernel_rfl)
    (of_decide_eq_true (by kernel_rfl)) (by unfold Func.isWrapper; first | (rw [if_pos (by decide +kernel)]; kernel_rfl) | (rw [if_neg (by decide +kernel)]; exact ⟨rfl, rfl⟩))
    (fun os started H enc _ => limits_lifted os started H enc)
#print axioms limits_holds
end Go.Proofs.Ytfdjhiomdimfcaa
