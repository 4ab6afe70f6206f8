/- The law 'SubdivNearest'. -/
import Derived.Test.YtfdjhiomdimfcaaSubM
import Derived.Test.YtfdjhiomdimfcaaSubLaws
import Derived.Test.YtfdjhiomdimfcaaCurveD
namespace Go.Rel
theorem run_imin3 {P : Program} (ts : Array TypeId) (t : TypeId) (k k' k'' : IntKind) (x y z : Int) (w : World) : (Builtin.min_ ts t #[.int k x, .int k' y, .int k'' z]).run P w = .ok (.int k (imin (imin x y) z)) w := by
  simp [Builtin.min_, Builtin.min2, imin]
  repeat' split
  all_goals simp_all
theorem run_imax3 {P : Program} (ts : Array TypeId) (t : TypeId) (k k' k'' : IntKind) (x y z : Int) (w : World) : (Builtin.max_ ts t #[.int k x, .int k' y, .int k'' z]).run P w = .ok (.int k (imax (imax x y) z)) w := by
  simp [Builtin.max_, Builtin.max2, imax]
  repeat' split
  all_goals simp_all
theorem pow_cases (d : Nat) (h : d ≤ 30) : (d = 0 ∧ (2 : Int) ^ d = 1) ∨ (1 ≤ d ∧ 2 ≤ (2 : Int) ^ d ∧ (2 : Int) ^ d ≤ 1073741824 ∧ ∃ H : Int, (2 : Int) ^ d = 2 * H) := by
  rcases Nat.eq_zero_or_pos d with rfl | h0
  · exact .inl ⟨rfl, by simp⟩
  · obtain ⟨e, rfl⟩ : ∃ e, d = e + 1 := ⟨d - 1, by omega⟩
    refine .inr ⟨h0, ?_, ?_, 2 ^ e, by rw [Int.pow_succ]; omega⟩
    · have : (0 : Int) < 2 ^ e := Int.pow_pos (by omega)
      rw [Int.pow_succ]; omega
    · have h1 : (2 : Nat) ^ (e + 1) ≤ 2 ^ 30 := Nat.pow_le_pow_right (by omega) h
      have h2 : ((2 : Nat) ^ (e + 1) : Nat) = (2 : Int) ^ (e + 1) := by push_cast; rfl
      have h3 : (2 : Nat) ^ 30 = 1073741824 := by decide
      omega
/-- A rounded number times the power of 2, less the number. -/
theorem near_one (x D H : Int) (hD : D = 2 * H) (h0 : 1 ≤ H) : -D < 2 * (D * ((x + D / 2) / D) + -1 * x) ∧ 2 * (D * ((x + D / 2) / D) + -1 * x) ≤ D := by
  have e : D / 2 = H := by omega
  rw [e]
  have h1 := Int.mul_ediv_add_emod (x + H) D
  have h2 := Int.emod_nonneg (x + H) (show D ≠ 0 by omega)
  have h3 := Int.emod_lt_of_pos (x + H) (show 0 < D by omega)
  generalize D * ((x + H) / D) = Q at *
  omega
theorem near_zero (x : Int) : 1 * ((x + 1 / 2) / 1) + -1 * x = 0 := by
  rw [Int.ediv_one]; omega
def nearV (d : Nat) (u : Vec) : Vec := addV (mulV (2 ^ d) (roundV d u)) (mulV (-1) u)
theorem nearV_zero (u : Vec) : nearV 0 u = zeroV := by
  unfold nearV addV mulV roundV nearI zeroV
  simp only [Int.pow_zero]
  simp only [near_zero]
theorem nearV_in {d : Nat} {u : Vec} {H : Int} (hD : (2 : Int) ^ d = 2 * H) (h0 : 1 ≤ H) :
    ∃ x y z : Int, nearV d u = ⟨x, y, z⟩ ∧ -(2 ^ d) < 2 * imin (imin x y) z ∧ 2 * imin (imin x y) z ≤ 2 ^ d ∧ -(2 ^ d) < 2 * imax (imax x y) z ∧ 2 * imax (imax x y) z ≤ 2 ^ d := by
  refine ⟨_, _, _, rfl, ?_⟩
  have hx := near_one u.x (2 ^ d) H hD h0
  have hy := near_one u.y (2 ^ d) H hD h0
  have hz := near_one u.z (2 ^ d) H hD h0
  simp only [mulV, roundV, nearI]
  generalize (2 : Int) ^ d * ((u.x + 2 ^ d / 2) / 2 ^ d) + -1 * u.x = X at *
  generalize (2 : Int) ^ d * ((u.y + 2 ^ d / 2) / 2 ^ d) + -1 * u.y = Y at *
  generalize (2 : Int) ^ d * ((u.z + 2 ^ d / 2) / 2 ^ d) + -1 * u.z = Z at *
  unfold imin imax
  generalize (2 : Int) ^ d = D at *
  refine ⟨?_, ?_, ?_, ?_⟩
  all_goals (repeat' split) <;> omega
theorem roundV_in {l : List Vec} {d : Nat} (ha : (l.map (roundV d)).all (fineV · 1000000) = true) {k : Nat} (hk : k < l.length) : inV 1000000 (roundV d l[k]) :=
  inV_of_fine (List.all_eq_true.1 ha _ (List.mem_map.2 ⟨l[k], List.getElem_mem hk, rfl⟩))
theorem okV_mul {u : Vec} {D : Int} (h : inV 1000000 u) (h0 : 1 ≤ D) (h1 : D ≤ 1073741824) : okV (mulV D u) := by
  have key : ∀ x : Int, -1000000 ≤ x → x ≤ 1000000 → -4000000000000000000 ≤ D * x ∧ D * x ≤ 4000000000000000000 := fun x ha hb => by
    have e1 : D * x ≤ D * 1000000 := Int.mul_le_mul_of_nonneg_left hb (by omega)
    have e2 : D * -1000000 ≤ D * x := Int.mul_le_mul_of_nonneg_left ha (by omega)
    omega
  obtain ⟨a1, a2, a3, a4, a5, a6⟩ := h
  have kx := key u.x a1 a2
  have ky := key u.y a3 a4
  have kz := key u.z a5 a6
  exact ⟨kx.1, kx.2, ky.1, ky.2, kz.1, kz.2⟩
theorem round_cases {l : List Vec} {d : Nat} (h : Valid l d) : (roundL l d = l.map (roundV d) ∧ roundE l d = 0 ∧ (l.map (roundV d)).all (fineV · 1000000) = true) ∨ roundE l d = 16 := by
  by_cases ha : (l.map (roundV d)).all (fineV · 1000000) = true
  · have := roundL_ok h ha
    exact .inl ⟨this.1, this.2, ha⟩
  · refine .inr ?_
    unfold roundE
    rw [if_pos h, if_neg (by simpa using ha)]
end Go.Rel
namespace Go.Proofs.Ytfdjhiomdimfcaa
open Go.RowKit Go.Rel

set_option maxHeartbeats 2000000 in
theorem nearest_early (A : Option Addr) (n cap : Nat) (l : List Vec) (down : Int) (closed : Bool) (w : World) (hn : l.length = n) (hl : n ≤ 9223372036854775807) (hv : Vecs w w.heap.size A l) (hno : ¬ (n ≤ 200 ∧ Valid l down)) :
    Calls Try.prog 10 #[.agg #[.slice A n cap, .int .i64 down, .bool closed]] w (Ret w (.bool true)) := by
  have HN := Lib.hid hn
  have hb0 := below_alloc w (.cells #[.slice A n cap, .int .i64 down, .bool closed] 24)
  have q0 := Blk.new w 24 #[.slice A n cap, .int .i64 down, .bool closed]
  have h1 : decide (n ≤ 200 ∧ Valid l down) = false := decide_eq_false hno
  have H1 := Lib.hid h1
  clear h1 hno hn
  go_enter Try.func10, Try.ntmps10
  go_wp2_with fail
  generalize World.alloc _ _ = w0 at hb0 q0 ⊢
  refine (alive_any _).mono ?_
  rintro e w1 ⟨rfl, hb1⟩
  replace q0 := q0.keep hb1
  replace hb0 := hb0.trans (hb1.mono hb0.size)
  have c0 := q0.cell (i := 0) rfl
  have c1 := q0.cell (i := 1) rfl
  have c2 := q0.cell (i := 2) rfl
  clear hb1
  go_wp2_with fail
  refine (small_any A n cap l down closed _ HN.out hl ((hv.below hb0).more hb0.size)).mono ?_
  rw [H1.out]
  rintro e w2 ⟨rfl, hb1⟩
  replace hb0 := hb0.trans (hb1.mono hb0.size)
  clear c0 c1 c2 hb1 hv q0
  go_wp2_with fail
  go_ret
  exact ret_bool rfl hb0

attribute [local irreducible] Go.Rel.Gives in
set_option maxRecDepth 100000 in
set_option maxHeartbeats 4000000 in
theorem nearest_walk (A : Option Addr) (n cap : Nat) (l : List Vec) (down : Nat) (closed : Bool) (w : World) (hn : l.length = n) (hl : n ≤ 200) (hv : Vecs w w.heap.size A l) (hV : Valid l down) :
    Calls Try.prog 10 #[.agg #[.slice A n cap, .int .i64 down, .bool closed]] w (Ret w (.bool true)) := by
  have HN := Lib.hid hn
  have hb0 := below_alloc w (.cells #[.slice A n cap, .int .i64 down, .bool closed] 24)
  have q0 := Blk.new w 24 #[.slice A n cap, .int .i64 down, .bool closed]
  have h1 : decide (n ≤ 200 ∧ Valid l down) = true := decide_eq_true ⟨hl, hV⟩
  have H1 := Lib.hid h1
  have hdn : (down : Int) ≤ 30 := hV.2.2.2.1
  have r1 := fun W hW => round_any A n cap l down closed W hn (by omega) hW
  have R1 := Lib.hid r1
  have HV := Lib.hid hV
  clear h1 hn r1 hV
  go_enter Try.func10, Try.ntmps10
  go_wp2_with fail
  generalize World.alloc _ _ = w0 at hb0 q0 ⊢
  refine (alive_any _).mono ?_
  rintro e w1 ⟨rfl, hb1⟩
  replace q0 := q0.keep hb1
  replace hb0 := hb0.trans (hb1.mono hb0.size)
  have c0 := q0.cell (i := 0) rfl
  have c1 := q0.cell (i := 1) rfl
  have c2 := q0.cell (i := 2) rfl
  clear hb1
  go_wp2_with fail
  refine (small_any A n cap l down closed _ HN.out (by omega) ((hv.below hb0).more hb0.size)).mono ?_
  rw [H1.out]
  rintro e w2 ⟨rfl, hb1⟩
  replace q0 := q0.keep hb1
  replace hb0 := hb0.trans (hb1.mono hb0.size)
  replace c0 := q0.cell (i := 0) rfl
  replace c1 := q0.cell (i := 1) rfl
  replace c2 := q0.cell (i := 2) rfl
  clear hb1 H1
  go_wp2_with fail
  refine (R1.out _ ((hv.below hb0).more hb0.size)).mono ?_
  rintro e w3 ⟨v, rfl, ⟨A3, cap3, rfl, hv3⟩, hb3⟩
  have hrc := round_cases HV.out
  replace q0 := q0.keep hb3
  replace hb0 := hb0.trans (hb3.mono hb0.size)
  replace c0 := q0.cell (i := 0) rfl
  replace c1 := q0.cell (i := 1) rfl
  clear c2 hb3 R1
  rcases hrc with ⟨e1, e2, hall⟩ | e2
  case inr =>
    rw [e2]
    clear e2 hv3 q0 c0 c1
    go_wp2_with fail
    go_ret
    exact ret_bool rfl hb0
  rw [e1] at hv3
  rw [e2, e1]
  have hlen : (l.map (roundV down)).length = n := by rw [List.length_map, HN.out]
  rw [hlen]
  have HR := Lib.hid (show _ ∧ _ from ⟨hall, hlen⟩)
  clear e1 e2 hall hlen
  have hpc := pow_cases down (by omega)
  obtain ⟨D, hD⟩ : ∃ D, (2 : Int) ^ down = D := ⟨_, rfl⟩
  rw [hD] at hpc
  have hD1 : 1 ≤ D := by omega
  have hD2 : D ≤ 1073741824 := by omega
  have hwD : IntKind.i64.wrap D = D := by rw [IntKind.wrap_i64]; omega
  have hnD : IntKind.i64.wrap (-D) = -D := by rw [IntKind.wrap_i64]; omega
  have hdn0 : (0 : Int) ≤ (down : Int) := by omega
  have HPC := Lib.hid hpc
  clear hpc
  go_wp2_with fail
  go_loopw [7] (fun i wr => ∃ k : Nat, k ≤ n ∧ i = .int .i64 k ∧ Below w3.heap.size w3 wr) (fun i _ => n - (intOf i).toNat)
  case atStart => exact ⟨0, Nat.zero_le _, by simp, Below.refl _ _⟩
  case round =>
    obtain ⟨k, hk, rfl, hB⟩ := hrel
    by_cases hlt : k < n
    · have hlt' : k < l.length := by rw [HN.out]; exact hlt
      have hltR : k < (l.map (roundV down)).length := by rw [HR.out.2]; exact hlt
      obtain ⟨B3, o3, rfl, hB3, p0, p1, p2⟩ := hv3.at_ hltR
      obtain ⟨B0, o0, rfl, hB0, r0, r1, r2⟩ := (hv.below hb0).at_ hlt'
      have hgm : (l.map (roundV down))[k] = roundV down l[k] := by simp
      rw [hgm] at p0 p1 p2
      have hin1 := roundV_in HR.out.1 hlt'
      have hin2 : inV 1000000000000 l[k] := inV_of_fine (HV.out.fine hlt')
      have hV3 : (D = 1 ∧ nearV down l[k] = ⟨0, 0, 0⟩) ∨ (2 ≤ D ∧ ∃ x y z : Int, nearV down l[k] = ⟨x, y, z⟩ ∧ -D < 2 * imin (imin x y) z ∧ 2 * imin (imin x y) z ≤ D ∧ -D < 2 * imax (imax x y) z ∧ 2 * imax (imax x y) z ≤ D) := by
        rcases HPC.out with ⟨h0, h1⟩ | ⟨h0, h1, h2, H, h3⟩
        · exact .inl ⟨h1, by rw [h0]; exact nearV_zero _⟩
        · refine .inr ⟨h1, ?_⟩
          have := nearV_in (u := l[k]) (hD.trans h3) (by omega)
          rwa [hD] at this
      unfold nearV at hV3
      rw [hD] at hV3
      generalize l[k] = U at *
      generalize roundV down U = R at *
      have ok1 : okV (mulV D R) := okV_mul hin1 hD1 hD2
      have ok2 : okV (mulV (-1) U) := by unfold inV at hin2; unfold okV inV mulV; dsimp only; omega
      have T1 := fun W => times_any R D W ok1
      have T2 := fun W => times_any U (-1) W ok2
      have T3 := fun W => plus_any (mulV D R) (mulV (-1) U) W ok1 ok2
      generalize mulV D R = X1 at *
      generalize mulV (-1) U = X2 at *
      generalize addV X1 X2 = V at *
      obtain ⟨v1, v2, v3⟩ := V
      obtain ⟨u1, u2, u3⟩ := U
      obtain ⟨s1, s2, s3⟩ := R
      obtain ⟨x1, x2, x3⟩ := X1
      obtain ⟨y1, y2, y3⟩ := X2
      simp only at p0 p1 p2 r0 r1 r2
      have hB3' := hB3
      have P0 := fun W (hW : Below wr.heap.size wr W) => ((hB.trans (hW.mono hB.size)).cell (p := ⟨B3, o3 + k * 3, none⟩) hB3).trans p0
      have P1 := fun W (hW : Below wr.heap.size wr W) => ((hB.trans (hW.mono hB.size)).cell (p := ⟨B3, o3 + k * 3 + 1, none⟩) hB3).trans p1
      have P2 := fun W (hW : Below wr.heap.size wr W) => ((hB.trans (hW.mono hB.size)).cell (p := ⟨B3, o3 + k * 3 + 2, none⟩) hB3).trans p2
      have hB03 : B0 < w3.heap.size := Nat.lt_of_lt_of_le hB0 hb0.size
      have R0 := fun W (hW : Below wr.heap.size wr W) => ((hB.trans (hW.mono hB.size)).cell (p := ⟨B0, o0 + k * 3, none⟩) hB03).trans r0
      have R1 := fun W (hW : Below wr.heap.size wr W) => ((hB.trans (hW.mono hB.size)).cell (p := ⟨B0, o0 + k * 3 + 1, none⟩) hB03).trans r1
      have R2 := fun W (hW : Below wr.heap.size wr W) => ((hB.trans (hW.mono hB.size)).cell (p := ⟨B0, o0 + k * 3 + 2, none⟩) hB03).trans r2
      have Q0 := fun W (hW : Below wr.heap.size wr W) => ((q0.keep hB).keep hW).cell (i := 0) rfl
      have HBB := Lib.hid hB
      have HV3 := Lib.hid hV3
      clear p0 p1 p2 r0 r1 r2 hB hB3 hB0 hB3' hB03 hgm hin1 hin2 ok1 ok2 hV3 hv3 hv c0 c1 q0
      go_wp2_with fail
      apply wp_region_head 14 95 (hm := by kernel_rfl) (hN := rfl)
      case h =>
        simp only [List.take_succ_cons, List.take_zero]
        iterate 5 (apply head_still (by kernel_rfl); (intro W hW; go_simp; (try rfl)))
        (apply head_call (by kernel_rfl); (intro W; go_simp; exact ⟨rfl, rfl⟩); (intro W hW; exact T1 W))
        iterate 5 (apply head_still (by kernel_rfl); (intro W hW; go_simp; (try rfl)))
        (apply head_call (by kernel_rfl); (intro W; go_simp; exact ⟨rfl, rfl⟩); (intro W hW; exact T2 W))
        (apply head_call (by kernel_rfl); (intro W; go_simp; exact ⟨rfl, rfl⟩); (intro W hW; exact T3 W))
        apply head_alloc (by kernel_rfl)
        · intro W; go_simp; rfl
        intro s8
        refine head_nil ?_
        intro W hW hF
        obtain ⟨⟨g8, rfl, hg8, hc8⟩, -⟩ := hF
        have x8 : Blk W g8 31 #[.int .i64 0, .int .i64 0, .int .i64 0] := hc8
        have hBW := HBB.out.trans (hW.mono HBB.out.size)
        have hsz := HBB.out.size
        have t0 := x8.cell (i := 0) rfl
        have t1 := x8.cell (i := 1) rfl
        have t2 := x8.cell (i := 2) rfl
        have t3 := x8.frozen
        have y8' := x8.set3 (.int .i64 v1) (.int .i64 v2) (.int .i64 v3)
        have yE' := ((hBW.setCell (p := ⟨g8, 0, none⟩) (by simp only; omega) (.int .i64 v1)).setCell (p := ⟨g8, 1, none⟩) (by simp only; omega) (.int .i64 v2)).setCell (p := ⟨g8, 2, none⟩) (by simp only; omega) (.int .i64 v3)
        have HY := Lib.hid yE'
        have hmin := fun ts t W => run_imin3 (P := Try.prog) ts t .i64 .i64 .i64 v1 v2 v3 W
        have hmax := fun ts t W => run_imax3 (P := Try.prog) ts t .i64 .i64 .i64 v1 v2 v3 W
        have hveg := Try.eqGuard31
        clear P0 P1 P2 R0 R1 R2 Q0 T1 T2 T3 hc8 x8 hBW yE' y8'
        rcases HV3.out with ⟨hd, hv⟩ | ⟨hd, x, y, z, hv, m1, m2, m3, m4⟩
        · obtain ⟨rfl, rfl, rfl⟩ : v1 = 0 ∧ v2 = 0 ∧ v3 = 0 := by simpa using hv
          subst hd
          have hm0 : imin (imin 0 0) 0 = 0 := rfl
          have hm1 : imax (imax 0 0) 0 = 0 := rfl
          rw [hm0] at hmin
          rw [hm1] at hmax
          have hvn : ∀ W, (binOp .neq 31 (.agg #[.int .i64 0, .int .i64 0, .int .i64 0]) (.agg #[.int .i64 0, .int .i64 0, .int .i64 0])).run Try.prog W = .ok (.bool false) W := fun W => by rw [vecNeq]; simp [sameB]
          clear HV3 hv hm0 hm1
          go_wp2_with fail
          go_roundw
          case rel => exact ⟨k + 1, by omega, by go_num, HY.out⟩
          case measure => simp [intOf]; omega
        · obtain ⟨rfl, rfl, rfl⟩ : v1 = x ∧ v2 = y ∧ v3 = z := by simpa using hv
          generalize imin (imin v1 v2) v3 = M at *
          generalize imax (imax v1 v2) v3 = MX at *
          have w1 : IntKind.i64.wrap (2 * M) = 2 * M := by rw [IntKind.wrap_i64]; omega
          have w2 : IntKind.i64.wrap (2 * MX) = 2 * MX := by rw [IntKind.wrap_i64]; omega
          have c1 : decide (2 * M ≤ -D) = false := decide_eq_false (by omega)
          have c2 : decide (D < 2 * MX) = false := decide_eq_false (by omega)
          have c3 : (D == 1) = false := by simp; omega
          clear HV3 hv
          go_wp2_with fail
          go_roundw
          case rel => exact ⟨k + 1, by omega, by go_num, HY.out⟩
          case measure => simp [intOf]; omega
      case hB => kernel_rfl
      all_goals rfl
    · obtain rfl : k = n := by omega
      replace hb0 := hb0.trans (hB.mono hb0.size)
      clear hB hv3 hv q0 c0 c1
      go_wp2_with fail
      go_ret
      exact ret_bool rfl hb0

theorem nearest_all (A : Option Addr) (n cap : Nat) (l : List Vec) (down : Int) (closed : Bool) (w : World) (hn : l.length = n) (hl : n ≤ 9223372036854775807) (hv : Vecs w w.heap.size A l) :
    Calls Try.prog 10 #[.agg #[.slice A n cap, .int .i64 down, .bool closed]] w (Ret w (.bool true)) := by
  by_cases h : n ≤ 200 ∧ Valid l down
  · obtain ⟨h1, h2⟩ := h
    obtain ⟨k, rfl⟩ : ∃ k : Nat, down = k := ⟨down.toNat, by have := h2.2.2.1; omega⟩
    exact nearest_walk A n cap l k closed w hn h1 hv h2
  · exact nearest_early A n cap l down closed w hn hl hv h
open Go.ChangeShapes Go.WideShapes Go.ChangeAt

set_option maxRecDepth 100000 in
theorem nearest_lifted (os : Os) (started : os.Started) (H : Type) (enc : TypeId × Value → H) :
    ReturnsInHanded {} Try.checked os 10 .any (Rows.subdivNearestSpec.pre6 enc Try.prog Try.f10 Rows.subdivNearestRow.domain false) (Rows.subdivNearestSpec.post enc Try.prog Try.f10 false true false false) := by
  refine returnsInHanded_of_change (C := Try.checked) own started (by kernel_rfl) Try.func10
    (ChangeSpec.witness6 (enc := enc) (C := Try.checked) false ⟨#[], #[.agg #[.slice none 0 0, .int .i64 0, .bool false]], []⟩ 8 (by kernel_rfl) (by kernel_rfl) (by kernel_rfl) (by kernel_rfl)) ?_
  intro W base args ds gs before hval0 hW hcnd _
  have hval : ∀ (j : Nat) t v, Try.f10.params[j]? = some t → args[j]? = some v → Value.okWide Try.prog W .any base t v := hval0
  have hW' := hW
  obtain ⟨p, q, hA0, hV, rfl, hfz, hnd⟩ := hW
  have hA : DataW.TrodAll enc Try.prog W 0 (fun _ => true) true Try.f10.params.toList args.toList ds p := hA0
  rw [Try.params10] at hA hval
  obtain ⟨v0, vs0, d0, ds0, p0, q0, hargs, rfl, rfl, h0, r0⟩ := trodAll_cons hA
  obtain ⟨rfl, rfl, rfl⟩ := trodAll_nil r0
  obtain rfl : args = #[v0] := by cases args; simp_all
  obtain ⟨rfl, rfl⟩ := trodVars_none hV
  obtain ⟨A, n, cap, l, down, closed, rfl, hn, hl, hvs, hcap, -⟩ := open_curve2 (hval 0 24 v0 rfl rfl) h0
  refine (nearest_all A n cap l down closed W hn hl hvs).mono fun e W' ⟨he, hb⟩ => ?_
  exact ⟨_, he, law_post laidOut hW' rfl (by kernel_rfl) rfl Try.underlying4 rfl rfl rfl hb⟩

theorem nearest_holds : Rows.SubdivNearestSaid :=
  OpenClaim.holds_of_wide 10 Try.f10 rfl rfl rfl rfl rfl rfl rfl ⟨rfl, rfl, rfl, rfl, rfl⟩ rfl rfl rfl rfl rfl (by kernel_rfl) Try.func10 (by kernel_rfl)
    (of_decide_eq_true (by kernel_rfl)) (by unfold Func.isWrapper; first | (rw [if_pos (by decide +kernel)]; kernel_rfl) | (rw [if_neg (by decide +kernel)]; exact ⟨rfl, rfl⟩))
    (fun os started H enc _ => nearest_lifted os started H enc)
#print axioms nearest_holds
end Go.Proofs.Ytfdjhiomdimfcaa
