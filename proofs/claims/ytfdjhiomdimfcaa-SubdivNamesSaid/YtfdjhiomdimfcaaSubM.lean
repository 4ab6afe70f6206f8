/- Small helpers of the laws on refined curves. -/
import Derived.Test.YtfdjhiomdimfcaaSubK
namespace Go.Rel
open Go.RowKit
def leB (a v b : Vec) : Bool := decide (a.x ≤ v.x ∧ v.x ≤ b.x ∧ a.y ≤ v.y ∧ v.y ≤ b.y ∧ a.z ≤ v.z ∧ v.z ≤ b.z)
theorem vecs_blk {W : World} {g n : Nat} {t : TypeId} {cs : Array Value} {l : List Vec} (h : Blk W g t cs) (hn : l.length = n) (hc : cs = (l.flatMap Vec.cells).toArray) (hl : n ≤ 1000000) : Vecs W W.heap.size (some ⟨g, 0, none⟩) l := by
  have hsz : cs.size = n * 3 := by rw [hc, List.size_toArray, flat_length, hn]
  have hr : W.ownsRow 0 t 3 (.slice (some ⟨g, 0, none⟩) n n) n (l.flatMap Vec.cells) :=
    ⟨by rw [flat_length, hn], .inr ⟨g, n, cs, rfl, Nat.zero_le _, h, Nat.le_refl _, by unfold maxLen; omega, by rw [hsz], by rw [hc]; simp only; rw [← hn, ← flat_length, List.take_length]⟩⟩
  obtain ⟨A, cap, e, -, hv⟩ := Vecs.of_own_n hn hr
  injection e with e1 _ _
  exact e1 ▸ hv
def twoL : List Vec := [⟨0, 0, 0⟩, ⟨4, 0, 0⟩]
def fourL : List Vec := [⟨0, 0, 0⟩, ⟨4, 0, 0⟩, ⟨4, 4, 0⟩, ⟨0, 4, 0⟩]
theorem two1 : refL twoL 0 false 1 = [⟨0, 0, 0⟩, ⟨4, 0, 0⟩, ⟨8, 0, 0⟩] ∧ refDown twoL 0 false 1 = 1 ∧ refClosed twoL 0 false 1 = false ∧ refE twoL 0 false 1 = 0 := by decide +kernel
theorem two2 : refL twoL 0 false 2 = [⟨4, 0, 0⟩, ⟨12, 0, 0⟩] ∧ refDown twoL 0 false 2 = 2 ∧ refClosed twoL 0 false 2 = false ∧ refE twoL 0 false 2 = 0 := by decide +kernel
theorem four3 : limL fourL 0 true 3 = [⟨20, 4, 0⟩, ⟨20, 20, 0⟩, ⟨4, 20, 0⟩, ⟨4, 4, 0⟩] ∧ checkedE fourL 0 3 = 0 := by decide +kernel
end Go.Rel
namespace Go.Proofs.Ytfdjhiomdimfcaa
open Go.RowKit Go.ChangeShapes Go.WideShapes Go.ChangeAt Go.Joins Go.Rel

set_option maxHeartbeats 1000000 in
theorem at_any (x y : Int) (w : World) : Calls Try.prog 31 #[.int .i64 x, .int .i64 y] w (Ret w (Vec.v ⟨x, y, 0⟩)) := by
  go_enter Try.func31, Try.ntmps31
  go_wp2_with fail
  refine bodyPost_ret (v := Vec.v ⟨x, y, 0⟩) (by
    have z0 := cell_new w #[.int .i64 x, .int .i64 y, .int .i64 0] 31 (i := 0) rfl
    have z1 := cell_new w #[.int .i64 x, .int .i64 y, .int .i64 0] 31 (i := 1) rfl
    have z2 := cell_new w #[.int .i64 x, .int .i64 y, .int .i64 0] 31 (i := 2) rfl
    simp [results, Try.results31, go_sem]) rfl ⟨rfl, below_alloc w _⟩

set_option maxHeartbeats 1000000 in
theorem small_any (A : Option Addr) (n cap : Nat) (l : List Vec) (down : Int) (closed : Bool) (w : World) (hn : l.length = n) (hl : n ≤ 9223372036854775807) (hv : Vecs w w.heap.size A l) :
    Calls Try.prog 25 #[.agg #[.slice A n cap, .int .i64 down, .bool closed]] w (Ret w (.bool (decide (n ≤ 200 ∧ Valid l down)))) := by
  have hb0 := below_alloc w (.cells #[.slice A n cap, .int .i64 down, .bool closed] 24)
  have HN := Lib.hid hn
  clear hn
  go_enter Try.func25, Try.ntmps25
  go_wp2_with fail
  · refine (refCheck_any A n cap l down closed _ HN.out (by omega) ((hv.below hb0).more (by simp))).mono ?_
    rintro e w1 ⟨rfl, hb1⟩
    go_wp2_with fail
    go_ret
    refine ret_bool ?_ (hb0.trans (hb1.mono (by simp)))
    unfold checkE
    rename_i hle
    by_cases hV : Valid l down
    · simp [hV]; omega
    · simp [hV]
  · go_ret
    refine ret_bool ?_ hb0
    simp; omega

set_option maxHeartbeats 4000000 in
theorem between_any (a v b : Vec) (w : World) : Calls Try.prog 30 #[a.v, v.v, b.v] w (Ret w (.bool (leB a v b))) := by
  obtain ⟨ax, ay, az⟩ := a
  obtain ⟨vx, vy, vz⟩ := v
  obtain ⟨bx, y3, bz⟩ := b
  go_enter Try.func30, Try.ntmps30
  go_wp2_with fail
  all_goals
    go_ret
    refine ret_bool ?_ (boxes3 w _ _ _ _ _ _).1
    simp [leB, *] at *
    try omega

set_option maxHeartbeats 1000000 in
theorem turned_any (A : Option Addr) (n cap : Nat) (l : List Vec) (w : World) (hn : l.length = n) (hl : n ≤ 1000000) (hv : Vecs w w.heap.size A l) :
    Calls Try.prog 29 #[.slice A n cap] w (RetM w fun v w' => w'.ownsRow w.heap.size 31 3 v n (l.reverse.flatMap Vec.cells)) := by
  have HN := Lib.hid hn
  clear hn
  obtain ⟨i0, hi, hz0, hz1, hz2⟩ := info_parts Try.infoVec
  have HI := Lib.hid (show Try.prog.info? 31 = some i0 ∧ i0.zero = some (.agg #[.int .i64 0, .int .i64 0, .int .i64 0]) ∧ i0.size = 3 ∧ i0.bytes = 24 from ⟨hi, hz0, hz1, hz2⟩)
  clear hi hz0 hz1 hz2
  go_enter Try.func29, Try.ntmps29
  go_wp2_with fail
  go_loopw [3, 4] (fun v i wr => ∃ k : Nat, k ≤ n ∧ i = .int .i64 ((n : Int) - 1 - k) ∧ wr.ownsRow w.heap.size 31 3 v k ((l.reverse.take k).flatMap Vec.cells) ∧ Below w.heap.size w wr) (fun _ i _ => (intOf i + 1).toNat)
  case atStart => exact ⟨0, Nat.zero_le _, by simp, World.ownsRow_nil _ _ _ _, Below.refl _ _⟩
  case round =>
    obtain ⟨k, hk, rfl, hrow, hB⟩ := hrel
    by_cases hlt : k < n
    · have hsz := hB.size
      have hkn : n - 1 - k < l.length := by rw [HN.out]; omega
      obtain ⟨b, off, rfl, hbw, c0, c1, c2⟩ := (hv.below hB).at_ hkn
      obtain ⟨R, hR⟩ : ∃ R, l[n - 1 - k] = R := ⟨_, rfl⟩
      rw [hR] at c0 c1 c2
      have HR := Lib.hid hR
      obtain ⟨m, hm⟩ : ∃ m : Nat, n - 1 - k = m := ⟨_, rfl⟩
      have hmi : (n : Int) - 1 - k = m := by omega
      rw [hm] at c0 c1 c2
      have HM := Lib.hid hm
      have hmn : m < n := by omega
      rw [hmi]
      have HS := Lib.hid (show l.reverse.take (k + 1) = l.reverse.take k ++ [R] by
        rw [List.take_succ_eq_append_getElem (by rw [List.length_reverse, HN.out]; exact hlt), List.getElem_reverse, ← HR.out]
        congr 2
        simp only [HN.out])
      have HROW := Lib.hid (show _ ∧ _ from ⟨hrow, hB⟩)
      clear HR hR hv hm hkn HN hrow
      go_wp2_with (at_builtin; refine Hid.out ?_)
      refine Lib.hid ?_
      obtain ⟨hrow, hB⟩ := HROW.out
      obtain ⟨hi, hz0, hz1, hz2⟩ := HI.out
      refine wpList_append_own _ rfl _ _ 22 rfl w.heap.size 31 i0 (.agg #[.int .i64 0, .int .i64 0, .int .i64 0]) 3 24 Try.underlying22 hi hz0 hz1 hz2 rfl (by decide) _ _ _ rfl (hrow.alloc _) ⟨wr.heap.size, 0, none⟩ 1 1 (Vec.cells R) rfl rfl ?c1 ?c2 ?c3 ?c4 ?c5 ?_
      case c1 => exact cells_new_vec wr R 31
      case c2 => exact cells_one R
      case c3 => unfold maxLen; omega
      case c4 => omega
      case c5 => simp; omega
      intro v' W6 hown' hgrow _
      rw [← flat_snoc, ← HS.out] at hown'
      have H7 := Lib.hid (show _ ∧ _ from ⟨hown', (hB.alloc hB.size _).grown hgrow (by simp; omega) (fun r hr => (hrow.lt r hr).1)⟩)
      clear hrow hB hown' hgrow HROW c0 c1 c2 hi hz0 hz1 hz2
      go_wp2_with fail
      go_roundw
      case rel =>
        obtain ⟨q1, q2⟩ := H7.out
        exact ⟨k + 1, by omega, by go_num, q1, q2⟩
      case measure => simp [intOf]
    · obtain rfl : k = n := by omega
      have e : l.reverse.take k = l.reverse := List.take_of_length_le (by rw [List.length_reverse, HN.out]; exact Nat.le_refl _)
      rw [e] at hrow
      obtain ⟨A1, cap1, rfl, -, -⟩ := Vecs.of_own_n (n := k) (by simpa using HN.out) hrow
      have HROW := Lib.hid (show _ ∧ _ from ⟨hrow, hB⟩)
      clear hrow hB hv HN
      go_wp2_with fail
      go_ret
      exact retM HROW.out.1 HROW.out.2

set_option maxHeartbeats 4000000 in
theorem alive_any (w : World) : Calls Try.prog 24 #[] w (Ret w (.bool true)) := by
  go_enter Try.func24, Try.ntmps24
  go_wp2_with fail
  refine (at_any _ _ _).mono ?_
  rintro e w1 ⟨rfl, hb1⟩
  go_wp2_with fail
  refine (at_any _ _ _).mono ?_
  rintro e w2 ⟨rfl, hb2⟩
  have hb := hb1.trans (hb2.mono hb1.size)
  clear hb1 hb2
  go_wp2_with fail
  obtain ⟨x1, x2, x3, x4⟩ := boxes2 w2 (Vec.cells ⟨0, 0, 0⟩ ++ Vec.cells ⟨4, 0, 0⟩).toArray #[.slice (some ⟨w2.heap.size, 0, none⟩) 2 2, .int .i64 0, .bool false] 31 24
  have p0 : Blk _ w2.heap.size _ _ := x3
  have b0 : Blk _ (w2.heap.size + 1) _ _ := x4
  replace hb := hb.trans (x1.mono hb.size)
  simp only [Vec.cells, List.cons_append, List.nil_append] at p0 b0 hb
  generalize w2.heap.size = g0 at *
  generalize World.alloc (World.alloc _ _) _ = w3 at p0 b0 hb ⊢
  clear x1 x2 x3 x4
  have hs3 := b0.lt
  refine (at_any _ _ _).mono ?_
  rintro e w4 ⟨rfl, hb4⟩
  replace p0 := p0.keep hb4
  replace b0 := b0.keep hb4
  replace hb := hb.trans (hb4.mono hb.size)
  clear hb4
  go_wp2_with fail
  refine (at_any _ _ _).mono ?_
  rintro e w5 ⟨rfl, hb4⟩
  replace p0 := p0.keep hb4
  replace b0 := b0.keep hb4
  replace hb := hb.trans (hb4.mono hb.size)
  clear hb4
  go_wp2_with fail
  refine (at_any _ _ _).mono ?_
  rintro e w6 ⟨rfl, hb4⟩
  replace p0 := p0.keep hb4
  replace b0 := b0.keep hb4
  replace hb := hb.trans (hb4.mono hb.size)
  clear hb4
  go_wp2_with fail
  refine (at_any _ _ _).mono ?_
  rintro e w7 ⟨rfl, hb4⟩
  replace p0 := p0.keep hb4
  replace b0 := b0.keep hb4
  replace hb := hb.trans (hb4.mono hb.size)
  clear hb4 hs3
  obtain ⟨x1, x2, x3, x4⟩ := boxes2 w7 #[.int .i64 0, .int .i64 0, .int .i64 0, .int .i64 4, .int .i64 0, .int .i64 0, .int .i64 4, .int .i64 4, .int .i64 0, .int .i64 0, .int .i64 4, .int .i64 0] #[.slice (some ⟨w7.heap.size, 0, none⟩) 4 4, .int .i64 0, .bool true] 31 24
  have p1 : Blk _ w7.heap.size _ _ := x3
  have b1 : Blk _ (w7.heap.size + 1) _ _ := x4
  replace p0 := p0.keep x1
  replace b0 := b0.keep x1
  replace hb := hb.trans (x1.mono hb.size)
  have c0 := b0.cell (i := 0) rfl
  have c1 := b0.cell (i := 1) rfl
  have c2 := b0.cell (i := 2) rfl
  clear x1 x2 x3 x4
  go_wp2_with fail
  have v0 := vecs_blk (l := twoL) (n := 2) p0 rfl rfl (by omega)
  have v1 := vecs_blk (l := fourL) (n := 4) p1 rfl rfl (by omega)
  generalize w7.heap.size = g1 at *
  generalize World.alloc (World.alloc _ _) _ = W at b0 b1 v0 v1 hb p0 p1 c0 c1 c2 ⊢
  clear c0 c1 c2
  have r1 := fun W hv => refine_any (some ⟨g0, 0, none⟩) 2 2 twoL 0 1 false W rfl (by omega) hv ⟨by omega, by omega⟩
  have r2 := fun W hv => refine_any (some ⟨g0, 0, none⟩) 2 2 twoL 0 2 false W rfl (by omega) hv ⟨by omega, by omega⟩
  have r3 := fun W hv => limits_any (some ⟨g1, 0, none⟩) 4 4 fourL 0 3 true W rfl (by omega) hv ⟨by omega, by omega⟩
  rw [two1.1, two1.2.1, two1.2.2.1, two1.2.2.2] at r1
  rw [two2.1, two2.2.1, two2.2.2.1, two2.2.2.2] at r2
  rw [four3.1, four3.2] at r3
  have R2 := Lib.hid r2
  have R3 := Lib.hid r3
  clear r2 r3
  refine (r1 W v0).mono ?_
  clear r1
  rintro e W1 ⟨v, rfl, ⟨S, rfl, hrow⟩, hW1⟩
  obtain ⟨A1, cap1, rfl, -, u1⟩ := Vecs.of_own hrow
  clear hrow
  replace b0 := b0.keep hW1
  replace b1 := b1.keep hW1
  replace v0 := (v0.below hW1).more hW1.size
  replace v1 := (v1.below hW1).more hW1.size
  replace hb := hb.trans (hW1.mono hb.size)
  have d0 := below_alloc W1 (.cells #[.slice A1 3 cap1, .int .i64 1, .bool false] 24)
  have k0 := Blk.new W1 24 #[.slice A1 3 cap1, .int .i64 1, .bool false]
  replace b0 := b0.keep d0
  replace b1 := b1.keep d0
  replace v0 := (v0.below d0).more d0.size
  replace v1 := (v1.below d0).more d0.size
  replace u1 := u1.below d0
  replace hb := hb.trans (d0.mono hb.size)
  have c0 := b0.cell (i := 0) rfl
  have c1 := b0.cell (i := 1) rfl
  have c2 := b0.cell (i := 2) rfl
  clear hW1 p0 p1
  go_wp2_with fail
  generalize World.alloc W1 _ = W2 at b0 b1 v0 v1 u1 hb k0 d0 ⊢
  generalize W1.heap.size = g2 at *
  clear c0 c1 c2 d0 b0
  have hk2 := k0.lt
  have hk2 := k0.lt
  have hk2 := k0.lt
  refine (R2.out W2 v0).mono ?_
  rintro e W3 ⟨v, rfl, ⟨S, rfl, hrow⟩, hW1⟩
  obtain ⟨A3, cap3, rfl, -, u3⟩ := Vecs.of_own hrow
  clear hrow R2 v0
  replace b1 := b1.keep hW1
  replace k0 := k0.keep hW1
  replace v1 := (v1.below hW1).more hW1.size
  replace u1 := (u1.below (hW1.mono (by have := hW1.size; omega)))
  replace hb := hb.trans (hW1.mono hb.size)
  have hk2' := k0.lt
  have d0 := below_alloc W3 (.cells #[.slice A3 2 cap3, .int .i64 2, .bool false] 24)
  have k1 := Blk.new W3 24 #[.slice A3 2 cap3, .int .i64 2, .bool false]
  replace b1 := b1.keep d0
  replace k0 := k0.keep d0
  replace v1 := (v1.below d0).more d0.size
  replace u1 := (u1.below (d0.mono (by omega)))
  replace u3 := u3.below d0
  replace hb := hb.trans (d0.mono hb.size)
  have c0 := b1.cell (i := 0) rfl
  have c1 := b1.cell (i := 1) rfl
  have c2 := b1.cell (i := 2) rfl
  clear hW1
  go_wp2_with fail
  generalize World.alloc W3 _ = W4 at b1 v1 u1 u3 hb k0 k1 d0 ⊢
  generalize W3.heap.size = g3 at *
  clear c0 c1 c2 d0 b1
  refine (R3.out W4 v1).mono ?_
  rintro e W5 ⟨v, rfl, ⟨S, rfl, hrow⟩, hW1⟩
  obtain ⟨A5, cap5, rfl, -, u5⟩ := Vecs.of_own hrow
  clear hrow R3 v1
  have hk3 := k1.lt
  replace k0 := k0.keep hW1
  replace k1 := k1.keep hW1
  replace u1 := u1.below (hW1.mono (by omega))
  replace u3 := u3.below (hW1.mono (by omega))
  replace hb := hb.trans (hW1.mono hb.size)
  have hs5 := hW1.size
  clear hW1
  go_wp2_with fail
  have f0 := fun W (hW : Below W5.heap.size W5 W) => (k0.keep hW).cell (i := 0) rfl
  have f1 := fun W (hW : Below W5.heap.size W5 W) => (k0.keep hW).cell (i := 1) rfl
  have f2 := fun W (hW : Below W5.heap.size W5 W) => (k0.keep hW).cell (i := 2) rfl
  have h0 := fun W (hW : Below W5.heap.size W5 W) => (k1.keep hW).cell (i := 0) rfl
  have h1 := fun W (hW : Below W5.heap.size W5 W) => (k1.keep hW).cell (i := 1) rfl
  have h2 := fun W (hW : Below W5.heap.size W5 W) => (k1.keep hW).cell (i := 2) rfl
  have C1 := fun W (hW : Below W5.heap.size W5 W) => (u1.below (hW.mono (by omega))).more (show g2 ≤ W.heap.size by have := hW.size; omega)
  have C3 := fun W (hW : Below W5.heap.size W5 W) => (u3.below (hW.mono (by omega))).more (show g3 ≤ W.heap.size by have := hW.size; omega)
  obtain ⟨b, off, rfl, hbw, p0, p1, p2⟩ := u5.at_ (k := 0) (by simp)
  have P0 := fun W (hW : Below W5.heap.size W5 W) => (hW.cell (p := ⟨b, off + 0 * 3, none⟩) hbw).trans p0
  have P1 := fun W (hW : Below W5.heap.size W5 W) => (hW.cell (p := ⟨b, off + 0 * 3 + 1, none⟩) hbw).trans p1
  have P2 := fun W (hW : Below W5.heap.size W5 W) => (hW.cell (p := ⟨b, off + 0 * 3 + 2, none⟩) hbw).trans p2
  simp only [Nat.zero_mul, Nat.add_zero, List.getElem_cons_zero] at P0 P1 P2
  have HB := Lib.hid hb
  have hve : ∀ W, (binOp .eql 31 (.agg #[.int .i64 20, .int .i64 4, .int .i64 0]) (.agg #[.int .i64 20, .int .i64 4, .int .i64 0])).run Try.prog W = .ok (.bool true) W := fun W => vecEql 20 4 0 20 4 0 W
  have hveg := Try.eqGuard31
  clear k0 k1 u1 u3 u5 p0 p1 p2 hb hbw hk2 hk3 hs5
  apply wp_region_head 39 73 (hm := by kernel_rfl) (hN := rfl)
  case h =>
    simp only [List.take_succ_cons, List.take_zero]
    iterate 4 (apply head_still (by kernel_rfl); (intro W hW; go_simp; (try rfl)))
    iterate 3 (apply head_call (by kernel_rfl); (intro W; go_simp; exact ⟨rfl, rfl⟩); (intro W hW; exact at_any _ _ W))
    apply head_mem [] (fun v W => ∃ g, v = .slice (some ⟨g, 0, none⟩) 3 3 ∧ Blk W g 31 #[.int .i64 0, .int .i64 0, .int .i64 0, .int .i64 4, .int .i64 0, .int .i64 0, .int .i64 8, .int .i64 0, .int .i64 0]) (by kernel_rfl)
    · rintro v W W' ⟨g, hv, hg⟩ hb
      exact ⟨g, hv, hg.keep hb⟩
    · intro W hW _
      unfold Gives
      go_simp
      exact ⟨Blk.new W _ _, below_alloc W _⟩
    intro s3
    apply head_mem [7] (fun v W => ∃ g, v = .agg #[.slice (some ⟨g, 0, none⟩) 3 3, .int .i64 1, .bool false] ∧ Blk W g 31 #[.int .i64 0, .int .i64 0, .int .i64 0, .int .i64 4, .int .i64 0, .int .i64 0, .int .i64 8, .int .i64 0, .int .i64 0]) (by kernel_rfl)
    · rintro v W W' ⟨g, hv, hg⟩ hb
      exact ⟨g, hv, hg.keep hb⟩
    · intro W hW hk
      obtain ⟨g, hv, hg⟩ := hk.1 (by simp)
      subst hv
      unfold Gives
      go_simp
      exact Below.refl _ _
    intro t3
    apply head_known [8] (.bool true) (by kernel_rfl)
    · intro W hW hk
      obtain ⟨g, hv, hg⟩ := hk.1 (by simp)
      subst hv
      unfold Gives
      go_simp
      exact (same_eq _ _ 3 _ 3 [⟨0, 0, 0⟩, ⟨4, 0, 0⟩, ⟨8, 0, 0⟩] _ _ W rfl (by omega) (C1 W hW) (vecs_blk (n := 3) hg rfl rfl (by omega))).mono fun e W' ⟨he, hw⟩ => ⟨_, he, rfl, hw⟩
    iterate 7 (apply head_still (by kernel_rfl); (intro W hW; go_simp; (try rfl)))
    iterate 2 (apply head_call (by kernel_rfl); (intro W; go_simp; exact ⟨rfl, rfl⟩); (intro W hW; exact at_any _ _ W))
    apply head_mem [] (fun v W => ∃ g, v = .slice (some ⟨g, 0, none⟩) 2 2 ∧ Blk W g 31 #[.int .i64 4, .int .i64 0, .int .i64 0, .int .i64 12, .int .i64 0, .int .i64 0]) (by kernel_rfl)
    · rintro v W W' ⟨g, hv, hg⟩ hb
      exact ⟨g, hv, hg.keep hb⟩
    · intro W hW _
      unfold Gives
      go_simp
      exact ⟨Blk.new W _ _, below_alloc W _⟩
    intro s2
    apply head_mem [19] (fun v W => ∃ g, v = .agg #[.slice (some ⟨g, 0, none⟩) 2 2, .int .i64 2, .bool false] ∧ Blk W g 31 #[.int .i64 4, .int .i64 0, .int .i64 0, .int .i64 12, .int .i64 0, .int .i64 0]) (by kernel_rfl)
    · rintro v W W' ⟨g, hv, hg⟩ hb
      exact ⟨g, hv, hg.keep hb⟩
    · intro W hW hk
      obtain ⟨g, hv, hg⟩ := hk.1 (by simp)
      subst hv
      unfold Gives
      go_simp
      exact Below.refl _ _
    intro t2
    apply head_known [20] (.bool true) (by kernel_rfl)
    · intro W hW hk
      obtain ⟨g, hv, hg⟩ := hk.1 (by simp)
      subst hv
      unfold Gives
      go_simp
      exact (same_eq _ _ 2 _ 2 [⟨4, 0, 0⟩, ⟨12, 0, 0⟩] _ _ W rfl (by omega) (C3 W hW) (vecs_blk (n := 2) hg rfl rfl (by omega))).mono fun e W' ⟨he, hw⟩ => ⟨_, he, rfl, hw⟩
    iterate 14 (apply head_still (by kernel_rfl); (intro W hW; go_simp; (try rfl)))
    apply head_call (by kernel_rfl)
    · intro W; go_simp; exact ⟨rfl, rfl⟩
    · intro W hW; exact at_any _ _ W
    iterate 2 (apply head_still (by kernel_rfl); (intro W hW; go_simp; (try rfl)))
    refine head_nil ?_
    intro W hW hF
    clear f0 f1 f2 h0 h1 h2 C1 C3 P0 P1 P2
    go_wp2_with fail
    go_ret
    exact ret_bool rfl (HB.out.trans (hW.mono HB.out.size))
  case hB => kernel_rfl
  all_goals rfl
end Go.Proofs.Ytfdjhiomdimfcaa
