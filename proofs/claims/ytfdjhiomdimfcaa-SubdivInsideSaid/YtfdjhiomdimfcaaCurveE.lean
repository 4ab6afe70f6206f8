import Derived.Test.YtfdjhiomdimfcaaCurveB
namespace Go.Proofs.Ytfdjhiomdimfcaa
open Go.RowKit Go.Rel

set_option maxHeartbeats 1000000 in
theorem hull_yes (A : Option Addr) (n cap : Nat) (l : List Vec) (down : Int) (closed : Bool) (w : World) (hn : l.length = n) (hl : n ≤ 4611686018427387904) (hv : Vecs w w.heap.size A l) (hok : Valid l down) :
    Calls Try.prog 13 #[.agg #[.slice A n cap, .int .i64 down, .bool closed]] w
      (Ret w (.tuple #[(foldK lo2 l n).v, (foldK hi2 l n).v, .int .i64 0])) := by
  have hc0 : checkE l down = 0 := checkE_ok hok
  have hn1000 : n ≤ 1000 := by have := hok.2.1; omega
  have hn1 : 0 < n := by have := hok.1; omega
  have HN := Lib.hid hn
  have hmin := @run_imin Try.prog
  have hmax := @run_imax Try.prog
  obtain ⟨b, off, rfl, hB, -, -, -⟩ := hv.at_ (k := 0) (by omega)
  clear hn hok
  go_enter Try.func13, Try.ntmps13
  go_wp2_with fail
  obtain ⟨hba, hsa, x0, x1, x2⟩ := boxes3 w #[.slice (some ⟨b, off, none⟩) n cap, .int .i64 down, .bool closed] #[.int .i64 0, .int .i64 0, .int .i64 0] #[.int .i64 0, .int .i64 0, .int .i64 0] 24 31 31
  refine (check_n (some ⟨b, off, none⟩) n cap l down closed _ HN.out hl ?_).mono ?_
  · exact (hv.below hba).more (by omega)
  rintro e w1 ⟨rfl, hb1⟩
  rw [hc0]
  have q0 : Blk w1 w.heap.size 24 #[.slice (some ⟨b, off, none⟩) n cap, .int .i64 down, .bool closed] := Blk.keep x0 hb1
  have q1 : Blk w1 (w.heap.size + 1) 31 #[.int .i64 0, .int .i64 0, .int .i64 0] := Blk.keep x1 hb1
  have q2 : Blk w1 (w.heap.size + 1 + 1) 31 #[.int .i64 0, .int .i64 0, .int .i64 0] := Blk.keep x2 hb1
  have hbw : Below w.heap.size w w1 := hba.trans (hb1.mono (by omega))
  have hv1 := hv.below hbw
  have hs1 := q2.lt
  clear hb1 hba hv x0 x1 x2 hsa
  have p0 := q0.cell (i := 0) rfl
  have H0 := Lib.hid q0
  have H1 := Lib.hid q1
  have H2 := Lib.hid q2
  obtain ⟨b', off', hab, -, c0, c1, c2⟩ := hv1.at_ (k := 0) (by rw [HN.out]; omega)
  obtain ⟨rfl, rfl⟩ : b = b' ∧ off = off' := by simpa using hab
  clear hab q0 q1 q2
  simp only [Nat.zero_mul, Nat.add_zero] at c0 c1 c2
  obtain ⟨v0, hv0⟩ : ∃ v0, l[0]'(by rw [HN.out]; omega) = v0 := ⟨_, rfl⟩
  rw [hv0] at c0 c1 c2
  have HV0 := Lib.hid hv0
  clear hv0
  go_wp2_with fail
  have hq1 : Blk w1 (w.heap.size + 1) 31 #[.int .i64 0, .int .i64 0, .int .i64 0] := H1.out
  have key : ∀ W, KpOne (w.heap.size + 1) (.cells #[.int .i64 v0.x, .int .i64 v0.y, .int .i64 v0.z] 31) w1 W → W.cell? ⟨w.heap.size, 0, none⟩ = some (.slice (some ⟨b, off, none⟩) n cap) ∧
      W.cell? ⟨b, off, none⟩ = some (.int .i64 v0.x) ∧ W.cell? ⟨b, off + 1, none⟩ = some (.int .i64 v0.y) ∧ W.cell? ⟨b, off + 2, none⟩ = some (.int .i64 v0.z) := fun W hW => by
    have hb := hW.below (b0 := w.heap.size + 1) (Nat.le_refl _) (by omega)
    exact ⟨(hb.cell (by simp)).trans p0, (hb.cell (by simp; omega)).trans c0, (hb.cell (by simp; omega)).trans c1, (hb.cell (by simp; omega)).trans c2⟩
  have g0 := fun W hW => (key W hW).1
  have d0 := fun W hW => (key W hW).2.1
  have d1 := fun W hW => (key W hW).2.2.1
  have d2 := fun W hW => (key W hW).2.2.2
  clear key p0 c0 c1 c2
  apply wp_region_headR 9 65 (hR := kpOne_keeps (w.heap.size + 1) (.cells #[.int .i64 v0.x, .int .i64 v0.y, .int .i64 v0.z] 31)) (hm := by kernel_rfl) (hN := rfl)
  case h =>
    simp only [List.take_succ_cons, List.take_zero]
    iterate 8 (apply head_stillR (kpOne_keeps _ _) rfl; (intro W hW; go_simp; (try rfl)))
    apply head_store3 rfl hq1
    · intro W x y z t0 t1 t2 t3
      unfold Gives
      go_simp
    intro _
    refine head_nilR ?_
    intro W hW hF
    have hlo : Blk W (w.heap.size + 1) 31 #[.int .i64 v0.x, .int .i64 v0.y, .int .i64 v0.z] := hF.1
    have hhi : Blk W (w.heap.size + 1 + 1) 31 #[.int .i64 0, .int .i64 0, .int .i64 0] := hW.other (by omega) H2.out
    have hpb : Blk W w.heap.size 24 #[.slice (some ⟨b, off, none⟩) n cap, .int .i64 down, .bool closed] := hW.other (by omega) H0.out
    have hbW : Below w.heap.size w1 W := hW.below (by omega) (by omega)
    have t0 := hhi.cell (i := 0) rfl
    have t1 := hhi.cell (i := 1) rfl
    have t2 := hhi.cell (i := 2) rfl
    have t3 := hhi.frozen
    have p0 := hpb.cell (i := 0) rfl
    have hhi3 := hhi.set3 (.int .i64 v0.x) (.int .i64 v0.y) (.int .i64 v0.z)
    have hlo3 := ((hlo.far (p := ⟨w.heap.size + 1 + 1, 0, none⟩) (by simp) (.int .i64 v0.x)).far (p := ⟨w.heap.size + 1 + 1, 1, none⟩) (by simp) (.int .i64 v0.y)).far (p := ⟨w.heap.size + 1 + 1, 2, none⟩) (by simp) (.int .i64 v0.z)
    have hbW3 := ((hbW.setCell (p := ⟨w.heap.size + 1 + 1, 0, none⟩) (by simp; omega) (.int .i64 v0.x)).setCell (p := ⟨w.heap.size + 1 + 1, 1, none⟩) (by simp; omega) (.int .i64 v0.y)).setCell (p := ⟨w.heap.size + 1 + 1, 2, none⟩) (by simp; omega) (.int .i64 v0.z)
    have hf0 : foldK lo2 l 0 = v0 := by rw [foldK_zero lo2 l (by rw [HN.out]; omega)]; exact HV0.out
    have hf0' : foldK hi2 l 0 = v0 := by rw [foldK_zero hi2 l (by rw [HN.out]; omega)]; exact HV0.out
    have HF0 := Lib.hid hf0
    have HF0' := Lib.hid hf0'
    clear hf0 hf0' hhi hlo hpb hbW hF hW
    go_wp2_with fail
    generalize ((W.setCell _ _).setCell _ _).setCell _ _ = W3 at hhi3 hlo3 hbW3 ⊢
    clear t0 t1 t2 t3 p0 g0 d0 d1 d2 hq1
    go_loopw [26] (fun i wr => ∃ k : Nat, k ≤ n ∧ i = .int .i64 k ∧ Blk wr (w.heap.size + 1) 31 #[.int .i64 (foldK lo2 l k).x, .int .i64 (foldK lo2 l k).y, .int .i64 (foldK lo2 l k).z] ∧ Blk wr (w.heap.size + 1 + 1) 31 #[.int .i64 (foldK hi2 l k).x, .int .i64 (foldK hi2 l k).y, .int .i64 (foldK hi2 l k).z] ∧ Below w.heap.size w1 wr) (fun i _ => n - (intOf i).toNat)
    case atStart => exact ⟨0, Nat.zero_le _, rfl, by rw [HF0.out]; exact hlo3, by rw [HF0'.out]; exact hhi3, hbW3⟩
    case round =>
      obtain ⟨k, hk, rfl, hlo, hhi, hb⟩ := hrel
      have hs := hhi.lt
      have hs' : w.heap.size + 1 < wr.heap.size := by omega
      have l0 := hlo.cell (i := 0) rfl
      have l1 := hlo.cell (i := 1) rfl
      have l2 := hlo.cell (i := 2) rfl
      have l3 := hlo.frozen
      have h0 := hhi.cell (i := 0) rfl
      have h1 := hhi.cell (i := 1) rfl
      have h2 := hhi.cell (i := 2) rfl
      have h3 := hhi.frozen
      by_cases hlt : k < n
      · have hlt' : k < l.length := by rw [HN.out]; exact hlt
        obtain ⟨b', off', hab, -, c0, c1, c2⟩ := (hv1.below hb).at_ hlt'
        obtain ⟨rfl, rfl⟩ : b = b' ∧ off = off' := by simpa using hab
        clear hab
        go_wp2_with fail
        have f1 := ((((hlo.set3 (.int .i64 (imin (foldK lo2 l k).x l[k].x)) (.int .i64 (imin (foldK lo2 l k).y l[k].y)) (.int .i64 (imin (foldK lo2 l k).z l[k].z))).far (p := ⟨w.heap.size + 1 + 1, 0, none⟩) (by simp) (.int .i64 (imax (foldK hi2 l k).x l[k].x))).far (p := ⟨w.heap.size + 1 + 1, 1, none⟩) (by simp) (.int .i64 (imax (foldK hi2 l k).y l[k].y))).far (p := ⟨w.heap.size + 1 + 1, 2, none⟩) (by simp) (.int .i64 (imax (foldK hi2 l k).z l[k].z))).alloc (.cells #[.int .i64 l[k].x, .int .i64 l[k].y, .int .i64 l[k].z] 31)
        have f2 := ((((hhi.far (p := ⟨w.heap.size + 1, 0, none⟩) (by simp) (.int .i64 (imin (foldK lo2 l k).x l[k].x))).far (p := ⟨w.heap.size + 1, 1, none⟩) (by simp) (.int .i64 (imin (foldK lo2 l k).y l[k].y))).far (p := ⟨w.heap.size + 1, 2, none⟩) (by simp) (.int .i64 (imin (foldK lo2 l k).z l[k].z))).set3 (.int .i64 (imax (foldK hi2 l k).x l[k].x)) (.int .i64 (imax (foldK hi2 l k).y l[k].y)) (.int .i64 (imax (foldK hi2 l k).z l[k].z))).alloc (.cells #[.int .i64 l[k].x, .int .i64 l[k].y, .int .i64 l[k].z] 31)
        have f3 := ((((((hb.setCell (p := ⟨w.heap.size + 1, 0, none⟩) (by simp) (.int .i64 (imin (foldK lo2 l k).x l[k].x))).setCell (p := ⟨w.heap.size + 1, 1, none⟩) (by simp) (.int .i64 (imin (foldK lo2 l k).y l[k].y))).setCell (p := ⟨w.heap.size + 1, 2, none⟩) (by simp) (.int .i64 (imin (foldK lo2 l k).z l[k].z))).setCell (p := ⟨w.heap.size + 1 + 1, 0, none⟩) (by simp; omega) (.int .i64 (imax (foldK hi2 l k).x l[k].x))).setCell (p := ⟨w.heap.size + 1 + 1, 1, none⟩) (by simp; omega) (.int .i64 (imax (foldK hi2 l k).y l[k].y))).setCell (p := ⟨w.heap.size + 1 + 1, 2, none⟩) (by simp; omega) (.int .i64 (imax (foldK hi2 l k).z l[k].z))).alloc (by simp; omega) (.cells #[.int .i64 l[k].x, .int .i64 l[k].y, .int .i64 l[k].z] 31)
        generalize World.alloc _ _ = W4 at f1 f2 f3 ⊢
        have e1 := foldK_succ lo2 l hlt'
        have e2 := foldK_succ hi2 l hlt'
        have E1 := Lib.hid e1
        have E2 := Lib.hid e2
        clear e1 e2
        go_roundw
        case rel => exact ⟨k + 1, by omega, by go_num, by rw [E1.out]; exact f1, by rw [E2.out]; exact f2, f3⟩
        case measure => simp [intOf]; omega
      · obtain rfl : k = n := by omega
        clear hv1
        go_wp2_with fail
        have key : ∀ W, KpOne (w.heap.size + 1) (.cells #[.int .i64 (foldK lo2 l k).x, .int .i64 (foldK lo2 l k).y, .int .i64 (foldK lo2 l k).z] 31) wr W → Blk W (w.heap.size + 1) 31 #[.int .i64 (foldK lo2 l k).x, .int .i64 (foldK lo2 l k).y, .int .i64 (foldK lo2 l k).z] ∧ Blk W (w.heap.size + 1 + 1) 31 #[.int .i64 (foldK hi2 l k).x, .int .i64 (foldK hi2 l k).y, .int .i64 (foldK hi2 l k).z] := fun W hW => ⟨hW.final hlo, hW.other (by omega) hhi⟩
        have a0 : ∀ W, KpOne (w.heap.size + 1) (.cells #[.int .i64 (foldK lo2 l k).x, .int .i64 (foldK lo2 l k).y, .int .i64 (foldK lo2 l k).z] 31) wr W → W.cell? ⟨w.heap.size + 1, 0, none⟩ = some (.int .i64 (foldK lo2 l k).x) := fun W hW => (key W hW).1.cell rfl
        have a1 : ∀ W, KpOne (w.heap.size + 1) (.cells #[.int .i64 (foldK lo2 l k).x, .int .i64 (foldK lo2 l k).y, .int .i64 (foldK lo2 l k).z] 31) wr W → W.cell? ⟨w.heap.size + 1, 1, none⟩ = some (.int .i64 (foldK lo2 l k).y) := fun W hW => (key W hW).1.cell rfl
        have a2 : ∀ W, KpOne (w.heap.size + 1) (.cells #[.int .i64 (foldK lo2 l k).x, .int .i64 (foldK lo2 l k).y, .int .i64 (foldK lo2 l k).z] 31) wr W → W.cell? ⟨w.heap.size + 1, 2, none⟩ = some (.int .i64 (foldK lo2 l k).z) := fun W hW => (key W hW).1.cell rfl
        have b0 : ∀ W, KpOne (w.heap.size + 1) (.cells #[.int .i64 (foldK lo2 l k).x, .int .i64 (foldK lo2 l k).y, .int .i64 (foldK lo2 l k).z] 31) wr W → W.cell? ⟨w.heap.size + 1 + 1, 0, none⟩ = some (.int .i64 (foldK hi2 l k).x) := fun W hW => (key W hW).2.cell rfl
        have b1 : ∀ W, KpOne (w.heap.size + 1) (.cells #[.int .i64 (foldK lo2 l k).x, .int .i64 (foldK lo2 l k).y, .int .i64 (foldK lo2 l k).z] 31) wr W → W.cell? ⟨w.heap.size + 1 + 1, 1, none⟩ = some (.int .i64 (foldK hi2 l k).y) := fun W hW => (key W hW).2.cell rfl
        have b2 : ∀ W, KpOne (w.heap.size + 1) (.cells #[.int .i64 (foldK lo2 l k).x, .int .i64 (foldK lo2 l k).y, .int .i64 (foldK lo2 l k).z] 31) wr W → W.cell? ⟨w.heap.size + 1 + 1, 2, none⟩ = some (.int .i64 (foldK hi2 l k).z) := fun W hW => (key W hW).2.cell rfl
        clear l0 l1 l2 l3 h0 h1 h2 h3
        apply wp_region_headR 3 65 (hR := kpOne_keeps (w.heap.size + 1) (.cells #[.int .i64 (foldK lo2 l k).x, .int .i64 (foldK lo2 l k).y, .int .i64 (foldK lo2 l k).z] 31)) (hm := by kernel_rfl) (hN := rfl)
        case h =>
          simp only [List.take_succ_cons, List.take_zero]
          iterate 2 (apply head_stillR (kpOne_keeps _ _) rfl; (intro W hW; go_simp; (try rfl)))
          apply head_store3 rfl hlo
          · intro W x y z t0 t1 t2 t3
            unfold Gives
            go_simp
          intro _
          refine head_nilR ?_
          intro W hW hF
          obtain ⟨xlo, xhi⟩ := key W hW
          have l0 := xlo.cell (i := 0) rfl
          have l1 := xlo.cell (i := 1) rfl
          have l2 := xlo.cell (i := 2) rfl
          have h0 := xhi.cell (i := 0) rfl
          have h1 := xhi.cell (i := 1) rfl
          have h2 := xhi.cell (i := 2) rfl
          have h3 := xhi.frozen
          have f4 : Below w.heap.size w W := hbw.trans (hb.trans (hW.below (by omega) (by omega)))
          clear hF key a0 a1 a2 b0 b1 b2
          go_wp2_with fail
          refine bodyPost_ret (v := .tuple #[(foldK lo2 l k).v, (foldK hi2 l k).v, .int .i64 0]) (by simp [results, Try.results13, go_sem, l0, l1, l2, h0, h1, h2]) rfl ⟨rfl, ?_⟩
          exact ((f4.setCell (p := ⟨w.heap.size + 1 + 1, 0, none⟩) (by simp; omega) _).setCell (p := ⟨w.heap.size + 1 + 1, 1, none⟩) (by simp; omega) _).setCell (p := ⟨w.heap.size + 1 + 1, 2, none⟩) (by simp; omega) _
        case hB => kernel_rfl
        all_goals rfl
  case hB => kernel_rfl
  all_goals rfl

set_option maxHeartbeats 1000000 in
theorem hull_any (A : Option Addr) (n cap : Nat) (l : List Vec) (down : Int) (closed : Bool) (w : World) (hn : l.length = n) (hl : n ≤ 4611686018427387904) (hv : Vecs w w.heap.size A l) :
    Calls Try.prog 13 #[.agg #[.slice A n cap, .int .i64 down, .bool closed]] w
      (Ret w (.tuple #[(hullLo l down).v, (hullHi l down).v, .int .i64 (checkE l down)])) := by
  by_cases hok : Valid l down
  · rw [hullLo, hullHi, if_pos hok, if_pos hok, checkE_ok hok, hn]
    exact hull_yes A n cap l down closed w hn hl hv hok
  have hc0 : checkE l down = 8 := checkE_bad hok
  rw [hullLo, hullHi, if_neg hok, if_neg hok, hc0]
  have HN := Lib.hid hn
  clear hn hok
  go_enter Try.func13, Try.ntmps13
  go_wp2_with fail
  obtain ⟨hba, hsa, x0, x1, x2⟩ := boxes3 w #[.slice A n cap, .int .i64 down, .bool closed] #[.int .i64 0, .int .i64 0, .int .i64 0] #[.int .i64 0, .int .i64 0, .int .i64 0] 24 31 31
  refine (check_n A n cap l down closed _ HN.out hl ?_).mono ?_
  · exact (hv.below hba).more (by omega)
  rintro e w1 ⟨rfl, hb1⟩
  rw [hc0]
  have q0 : Blk w1 w.heap.size 24 #[.slice A n cap, .int .i64 down, .bool closed] := Blk.keep x0 hb1
  have q1 : Blk w1 (w.heap.size + 1) 31 #[.int .i64 0, .int .i64 0, .int .i64 0] := Blk.keep x1 hb1
  have q2 : Blk w1 (w.heap.size + 1 + 1) 31 #[.int .i64 0, .int .i64 0, .int .i64 0] := Blk.keep x2 hb1
  have hbw : Below w.heap.size w w1 := hba.trans (hb1.mono (by omega))
  have hv1 := hv.below hbw
  have hs1 := q2.lt
  clear hb1 hba hv x0 x1 x2 hsa
  have z1 := q1
  have z2 := q2
  have hbw2 := hbw
  clear q0 q1 q2 hbw hv1
  have l0 := z1.cell (i := 0) rfl
  have l1 := z1.cell (i := 1) rfl
  have l2 := z1.cell (i := 2) rfl
  have l3 := z1.frozen
  have h0 := z2.cell (i := 0) rfl
  have h1 := z2.cell (i := 1) rfl
  have h2 := z2.cell (i := 2) rfl
  have h3 := z2.frozen
  go_wp2_with fail
  refine bodyPost_ret (v := .tuple #[zeroV.v, zeroV.v, .int .i64 8]) (by simp [results, Try.results13, go_sem, l0, l1, l2, h0, h1, h2, zeroV]) rfl ⟨rfl, ?_⟩
  exact (((((hbw2.setCell (p := ⟨w.heap.size + 1, 0, none⟩) (by simp) _).setCell (p := ⟨w.heap.size + 1, 1, none⟩) (by simp) _).setCell (p := ⟨w.heap.size + 1, 2, none⟩) (by simp) _).setCell (p := ⟨w.heap.size + 1 + 1, 0, none⟩) (by simp; omega) _).setCell (p := ⟨w.heap.size + 1 + 1, 1, none⟩) (by simp; omega) _).setCell (p := ⟨w.heap.size + 1 + 1, 2, none⟩) (by simp; omega) _
end Go.Proofs.Ytfdjhiomdimfcaa
