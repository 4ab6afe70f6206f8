/- The reference: three points put together; a curve and a degree checked. -/
import Derived.Test.YtfdjhiomdimfcaaSubE
namespace Go.Rel
open Go.RowKit
def triV (l : List Vec) (i : Nat) (a b c : Int) : Vec := addV (addV (mulV a (getM l i)) (mulV b (getM l (i + 1)))) (mulV c (getM l (i + 2)))
theorem Vecs.atM {w : World} {B b off : Nat} {l : List Vec} {n : Nat} (h : Vecs w B (some ⟨b, off, none⟩) l) (hn : l.length = n) (h0 : 0 < n) (i : Nat) :
    ∃ j, i % n = j ∧ j < n ∧ w.cell? ⟨b, off + j * 3, none⟩ = some (.int .i64 (getM l i).x) ∧ w.cell? ⟨b, off + j * 3 + 1, none⟩ = some (.int .i64 (getM l i).y) ∧ w.cell? ⟨b, off + j * 3 + 2, none⟩ = some (.int .i64 (getM l i).z) := by
  subst hn
  have hj : i % l.length < l.length := Nat.mod_lt _ h0
  obtain ⟨b', off', e', -, k1, k2, k3⟩ := h.at_ hj
  obtain ⟨rfl, rfl⟩ : b = b' ∧ off = off' := by simpa using e'
  rw [← getM_lt, getM_mod] at k1 k2 k3
  exact ⟨_, rfl, hj, k1, k2, k3⟩
theorem Vecs.blk {w : World} {B : Nat} {A : Option Addr} {l : List Vec} (h : Vecs w B A l) (h0 : 0 < l.length) : ∃ b off : Nat, A = some ⟨b, off, none⟩ ∧ b < B := by
  obtain ⟨b, off, e, hb, _⟩ := h h0
  exact ⟨b, off, e, hb⟩
theorem mulV_in {v : Vec} {n : Int} (h : inV 1000000000000 v) (h0 : 0 ≤ n) (h6 : n ≤ 6) : inV 6000000000000 (mulV n v) := by
  have : n = 0 ∨ n = 1 ∨ n = 2 ∨ n = 3 ∨ n = 4 ∨ n = 5 ∨ n = 6 := by omega
  rcases this with rfl | rfl | rfl | rfl | rfl | rfl | rfl <;> unfold inV mulV at * <;> dsimp only <;> omega
end Go.Rel
namespace Go.Proofs.Ytfdjhiomdimfcaa
open Go.RowKit Go.Rel

set_option maxHeartbeats 2000000 in
theorem three_any (A : Option Addr) (n cap i : Nat) (l : List Vec) (a b c : Int) (w : World) (hn : l.length = n) (hn1 : 1 ≤ n) (hn2 : n ≤ 1000) (hi : i ≤ 1000000) (hv : Vecs w w.heap.size A l) (hf : ∀ j, inV 1000000000000 (getM l j))
    (ha : 0 ≤ a ∧ a ≤ 6) (hb : 0 ≤ b ∧ b ≤ 6) (hc : 0 ≤ c ∧ c ≤ 6) :
    Calls Try.prog 39 #[.slice A n cap, .int .i64 i, .int .i64 a, .int .i64 b, .int .i64 c] w (Ret w (triV l i a b c).v) := by
  obtain ⟨B, off, rfl, hB⟩ := hv.blk (by omega)
  obtain ⟨j0, hj0, hj0n, p0, p1, p2⟩ := hv.atM hn (by omega) i
  obtain ⟨j1, hj1, hj1n, q0, q1, q2⟩ := hv.atM hn (by omega) (i + 1)
  obtain ⟨j2, hj2, hj2n, r0, r1, r2⟩ := hv.atM hn (by omega) (i + 2)
  have hfx := hf i
  have hfy := hf (i + 1)
  have hfz := hf (i + 2)
  obtain ⟨x, hx⟩ : ∃ x, getM l i = x := ⟨_, rfl⟩
  obtain ⟨y, hy⟩ : ∃ y, getM l (i + 1) = y := ⟨_, rfl⟩
  obtain ⟨z, hz⟩ : ∃ z, getM l (i + 2) = z := ⟨_, rfl⟩
  rw [hx] at p0 p1 p2 hfx
  rw [hy] at q0 q1 q2 hfy
  rw [hz] at r0 r1 r2 hfz
  have mx := mulV_in hfx ha.1 ha.2
  have my := mulV_in hfy hb.1 hb.2
  have mz := mulV_in hfz hc.1 hc.2
  have mxy := inV_add mx my
  unfold triV
  rw [hx, hy, hz]
  have e0 : (i : Int).tmod (n : Int) = (j0 : Int) := by rw [← hj0]; exact (Int.ofNat_tmod i n).symm
  have e1 : ((i : Int) + 1).tmod (n : Int) = (j1 : Int) := by rw [← hj1]; exact (Int.ofNat_tmod (i + 1) n).symm
  have e2 : ((i : Int) + 2).tmod (n : Int) = (j2 : Int) := by rw [← hj2]; exact (Int.ofNat_tmod (i + 2) n).symm
  have w1 : IntKind.i64.wrap ((i : Int) + 1) = (i : Int) + 1 := by rw [IntKind.wrap_i64]; omega
  have w2 : IntKind.i64.wrap ((i : Int) + 2) = (i : Int) + 2 := by rw [IntKind.wrap_i64]; omega
  have hn0 : ¬ n = 0 := by omega
  have tx : ∀ W, Calls Try.prog 26 #[.int .i64 a, .agg #[.int .i64 x.x, .int .i64 x.y, .int .i64 x.z]] W (Ret W (mulV a x).v) := fun W => times_any x a W (inV_more mx (by omega))
  have ty : ∀ W, Calls Try.prog 26 #[.int .i64 b, .agg #[.int .i64 y.x, .int .i64 y.y, .int .i64 y.z]] W (Ret W (mulV b y).v) := fun W => times_any y b W (inV_more my (by omega))
  have tz : ∀ W, Calls Try.prog 26 #[.int .i64 c, .agg #[.int .i64 z.x, .int .i64 z.y, .int .i64 z.z]] W (Ret W (mulV c z).v) := fun W => times_any z c W (inV_more mz (by omega))
  have pxy : ∀ W, Calls Try.prog 28 #[(mulV a x).v, (mulV b y).v] W (Ret W (addV (mulV a x) (mulV b y)).v) := fun W => plus_any _ _ W (inV_more mx (by omega)) (inV_more my (by omega))
  have pxyz : ∀ W, Calls Try.prog 28 #[(addV (mulV a x) (mulV b y)).v, (mulV c z).v] W (Ret W (addV (addV (mulV a x) (mulV b y)) (mulV c z)).v) := fun W => plus_any _ _ W (inV_more mxy (by omega)) (inV_more mz (by omega))
  generalize addV (addV (mulV a x) (mulV b y)) (mulV c z) = R at *
  generalize addV (mulV a x) (mulV b y) = S at *
  generalize mulV a x = X at *
  generalize mulV b y = Y at *
  generalize mulV c z = Z at *
  clear mx my mz mxy hfx hfy hfz hx hy hz hj0 hj1 hj2 hv hf hn ha hb hc
  go_enter Try.func39, Try.ntmps39
  go_wp2_with fail
  have v0 := Blk.new w 31 #[.int .i64 0, .int .i64 0, .int .i64 0]
  have hb0 := below_alloc w (.cells #[.int .i64 0, .int .i64 0, .int .i64 0] 31)
  generalize World.alloc _ _ = wa at v0 hb0 ⊢
  have hsa := hb0.size
  have vl := v0.lt
  have cell : ∀ W, Below wa.heap.size wa W → ∀ o u, w.cell? ⟨B, o, none⟩ = some u → W.cell? ⟨B, o, none⟩ = some u := fun W hW o u h => ((hW.cell (p := ⟨B, o, none⟩) (by simp only; omega)).trans (hb0.cell (p := ⟨B, o, none⟩) (by simp only; omega))).trans h
  have P0 := fun W hW => cell W hW _ _ p0
  have P1 := fun W hW => cell W hW _ _ p1
  have P2 := fun W hW => cell W hW _ _ p2
  have Q0 := fun W hW => cell W hW _ _ q0
  have Q1 := fun W hW => cell W hW _ _ q1
  have Q2 := fun W hW => cell W hW _ _ q2
  have R0 := fun W hW => cell W hW _ _ r0
  have R1 := fun W hW => cell W hW _ _ r1
  have R2 := fun W hW => cell W hW _ _ r2
  have HR := Lib.hid (show _ ∧ _ ∧ _ from ⟨R0, R1, R2⟩)
  clear cell p0 p1 p2 q0 q1 q2 r0 r1 r2 R0 R1 R2
  apply wp_region_head 19 44 (hm := by kernel_rfl) (hN := rfl)
  case h =>
    simp only [List.take_succ_cons, List.take_zero]
    iterate 7 (apply head_still rfl; (intro W hW; go_simp; (try rfl)))
    (apply head_call rfl; (intro W; go_simp; exact ⟨rfl, rfl⟩); (intro W hW; exact tx W))
    iterate 8 (apply head_still rfl; (intro W hW; go_simp; (try rfl)))
    (apply head_call rfl; (intro W; go_simp; exact ⟨rfl, rfl⟩); (intro W hW; exact ty W))
    (apply head_call rfl; (intro W; go_simp; exact ⟨rfl, rfl⟩); (intro W hW; exact pxy W))
    apply head_alloc rfl
    · intro W; go_simp; rfl
    intro v
    refine head_nil ?_
    intro W hW hF
    obtain ⟨⟨g, rfl, hg, hgc⟩, -⟩ := hF
    have hgb : Blk W g 31 #[.int .i64 0, .int .i64 0, .int .i64 0] := hgc
    have t0 := hgb.cell (i := 0) rfl
    have t1 := hgb.cell (i := 1) rfl
    have t2 := hgb.cell (i := 2) rfl
    have t3 := hgb.frozen
    have hgl := hgb.lt
    have G3 := hgb.set3 (.int .i64 S.x) (.int .i64 S.y) (.int .i64 S.z)
    have hgw : wa.heap.size ≤ g := hg
    have hb3 := ((hW.setCell (p := ⟨g, 0, none⟩) hgw (.int .i64 S.x)).setCell (p := ⟨g, 1, none⟩) hgw (.int .i64 S.y)).setCell (p := ⟨g, 2, none⟩) hgw (.int .i64 S.z)
    have HB3 := Lib.hid (show _ ∧ _ from ⟨G3, hb3⟩)
    clear P0 P1 P2 Q0 Q1 Q2 hgc hgb hW G3 hb3
    go_wp2_with fail
    obtain ⟨G3, hb3⟩ := HB3.out
    generalize World.setCell _ _ _ = W5 at G3 hb3 ⊢
    clear t0 t1 t2 t3 HB3
    have v5 := v0.keep hb3
    obtain ⟨R0, R1, R2⟩ := HR.out
    have S0 : ∀ W, Below W5.heap.size W5 W → _ := fun W hW => R0 W (hb3.trans (hW.mono hb3.size))
    have S1 : ∀ W, Below W5.heap.size W5 W → _ := fun W hW => R1 W (hb3.trans (hW.mono hb3.size))
    have S2 : ∀ W, Below W5.heap.size W5 W → _ := fun W hW => R2 W (hb3.trans (hW.mono hb3.size))
    have T0 : ∀ W, Below W5.heap.size W5 W → W.cell? ⟨g, 0, none⟩ = some (.int .i64 S.x) := fun W hW => (G3.keep hW).cell rfl
    have T1 : ∀ W, Below W5.heap.size W5 W → W.cell? ⟨g, 1, none⟩ = some (.int .i64 S.y) := fun W hW => (G3.keep hW).cell rfl
    have T2 : ∀ W, Below W5.heap.size W5 W → W.cell? ⟨g, 2, none⟩ = some (.int .i64 S.z) := fun W hW => (G3.keep hW).cell rfl
    clear R0 R1 R2 G3
    apply wp_region_head 11 44 (hm := by kernel_rfl) (hN := rfl)
    case h =>
      simp only [List.take_succ_cons, List.take_zero]
      iterate 9 (apply head_still rfl; (intro W hW; go_simp; (try rfl)))
      (apply head_call rfl; (intro W; go_simp; exact ⟨rfl, rfl⟩); (intro W hW; exact tz W))
      (apply head_call rfl; (intro W; go_simp; exact ⟨rfl, rfl⟩); (intro W hW; exact pxyz W))
      refine head_nil ?_
      intro W hW hF
      have v6 := v5.keep hW
      have t0 := v6.cell (i := 0) rfl
      have t1 := v6.cell (i := 1) rfl
      have t2 := v6.cell (i := 2) rfl
      have t3 := v6.frozen
      have hb6 := (hb0.trans (hb3.mono hsa)).trans (hW.mono (by have := hb3.size; omega))
      have v7 := v6.set3 (.int .i64 R.x) (.int .i64 R.y) (.int .i64 R.z)
      have hb7 := ((hb6.setCell (p := ⟨w.heap.size, 0, none⟩) (by simp) (.int .i64 R.x)).setCell (p := ⟨w.heap.size, 1, none⟩) (by simp) (.int .i64 R.y)).setCell (p := ⟨w.heap.size, 2, none⟩) (by simp) (.int .i64 R.z)
      have H7 := Lib.hid (show _ ∧ _ from ⟨v7, hb7⟩)
      have vl6 := v6.lt
      clear S0 S1 S2 T0 T1 T2 hF hW v6 hb6 v7 hb7 v5 v0
      go_wp2_with fail
      obtain ⟨v7, hb7⟩ := H7.out
      generalize World.setCell _ _ _ = W8 at v7 hb7 ⊢
      have z0 := v7.cell (i := 0) rfl
      have z1 := v7.cell (i := 1) rfl
      have z2 := v7.cell (i := 2) rfl
      exact bodyPost_ret (v := R.v) (by simp [results, Try.results39, go_sem, z0, z1, z2]) rfl ⟨rfl, hb7⟩
    case hB => kernel_rfl
    all_goals rfl
  case hB => kernel_rfl
  all_goals rfl

set_option maxHeartbeats 1000000 in
theorem refChecked_any (A : Option Addr) (n cap : Nat) (l : List Vec) (down d : Int) (closed : Bool) (w : World) (hn : l.length = n) (hl : n ≤ 4611686018427387904) (hv : Vecs w w.heap.size A l) (hd : -9223372036854775808 ≤ d ∧ d ≤ 9223372036854775807) :
    Calls Try.prog 38 #[.agg #[.slice A n cap, .int .i64 down, .bool closed], .int .i64 d] w (Ret w (.int .i64 (checkedE l down d))) := by
  obtain ⟨E, hE⟩ : ∃ E, checkE l down = E := ⟨_, rfl⟩
  have hE' : E = 0 ∨ E = 8 := by rw [← hE]; unfold checkE; split <;> omega
  have hC : checkedE l down d = if E = 0 then (if degOk d then 0 else 2) else E := by
    rw [← hE]; unfold checkedE checkE; split <;> simp
  rw [hC]
  have hck := refCheck_any A n cap l down closed
  rw [hE] at hck
  obtain ⟨d1, d2⟩ := hd
  have HN := Lib.hid hn
  have v0 := Blk.new w 24 #[.slice A n cap, .int .i64 down, .bool closed]
  have HV0 := Lib.hid v0
  clear hC hE hn v0
  rcases hE' with rfl | rfl
  · by_cases hdeg : 1 ≤ d ∧ d ≤ 3
    · have e0 : (if degOk d then (0 : Int) else 2) = 0 := if_pos hdeg
      rw [if_pos rfl, e0]
      obtain ⟨g1, g2⟩ := hdeg
      clear e0
      go_enter Try.func38, Try.ntmps38
      go_wp2_with (go_at_call 22; refine (hck _ HN.out hl ?_).mono ?_; exact (hv.below (below_alloc w _)).more (by simp); rintro e w1 ⟨rfl, hb1⟩)
      go_ret
      exact ret_int rfl ((below_alloc w _).trans (hb1.mono (by simp)))
    · have e0 : (if degOk d then (0 : Int) else 2) = 2 := if_neg hdeg
      rw [if_pos rfl, e0]
      clear e0
      go_enter Try.func38, Try.ntmps38
      go_wp2_with (go_at_call 22; refine (hck _ HN.out hl ?_).mono ?_; exact (hv.below (below_alloc w _)).more (by simp); rintro e w1 ⟨rfl, hb1⟩)
      all_goals first | (exfalso; apply hdeg; omega) | skip
      all_goals
        go_ret
        exact ret_int rfl ((below_alloc w _).trans (hb1.mono (by simp)))
  · rw [if_neg (by decide)]
    go_enter Try.func38, Try.ntmps38
    go_wp2_with fail
    refine (hck _ HN.out hl ((hv.below (below_alloc w _)).more (by simp))).mono ?_
    rintro e w1 ⟨rfl, hb1⟩
    have v1 := HV0.out.keep hb1
    have c0 := v1.cell (i := 0) rfl
    have c1 := v1.cell (i := 1) rfl
    have c2 := v1.cell (i := 2) rfl
    have hb2 := (below_alloc w _).trans (hb1.mono (by simp))
    have hs := hb2.size
    have vl := v1.lt
    clear hb1 v1
    go_wp2_with fail
    refine (hck _ HN.out hl ((hv.below hb2).more hs)).mono ?_
    rintro e w2 ⟨rfl, hb3⟩
    go_wp2_with fail
    go_ret
    exact ret_int rfl (hb2.trans (hb3.mono hs))
end Go.Proofs.Ytfdjhiomdimfcaa
