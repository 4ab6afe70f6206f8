import Derived.Test.YtfdjhiomdimfcaaCurveB
namespace Go.Proofs.Ytfdjhiomdimfcaa
open Go.RowKit Go.Rel

set_option maxHeartbeats 1000000 in
theorem round_yes (A : Option Addr) (n cap : Nat) (l : List Vec) (down : Nat) (closed : Bool) (w : World) (hn : l.length = n) (hl : n ≤ 4611686018427387904) (hv : Vecs w w.heap.size A l) (hok : Valid l down) :
    Calls Try.prog 11 #[.agg #[.slice A n cap, .int .i64 down, .bool closed]] w
      (RetM w fun v w' => ∃ A' cap', v = .tuple #[.slice A' (roundL l down).length cap', .int .i64 (roundE l down)] ∧ Vecs w' w'.heap.size A' (roundL l down)) := by
  have hc0 : checkE l down = 0 := checkE_ok hok
  have hd30 : down ≤ 30 := by have := hok.2.2.2.1; omega
  have hn1000 : n ≤ 1000 := by have := hok.2.1; omega
  have hpb := pow_bounds hd30
  obtain ⟨hp1, hp2⟩ := hpb
  have HN := Lib.hid hn
  have HV := Lib.hid hok
  clear hn hok
  obtain ⟨i0, hi, hz0, hz1, hz2⟩ := info_parts Try.infoVec
  go_enter Try.func11, Try.ntmps11
  go_wp2_with (go_at_call 21; refine (check_n A n cap l down closed _ HN.out hl ?_).mono ?_; exact (hv.below (below_alloc w _)).more (by simp); rintro e w1 ⟨rfl, hb1⟩; rw [hc0]; simp only [World.size_alloc] at hb1; have p0 := (hb1.cell (p := ⟨w.heap.size, 0, none⟩) (by simp)).trans (cell_new w _ 24 rfl); have p1 := (hb1.cell (p := ⟨w.heap.size, 1, none⟩) (by simp)).trans (cell_new w _ 24 rfl))
  have hv1 := hv.below ((below_alloc w _).trans (hb1.mono (Nat.le_succ _)))
  have hs1 := hb1.size
  simp only [World.size_alloc] at hs1
  go_loopw [6, 21] (fun v i wr => ∃ k : Nat, k ≤ n ∧ i = .int .i64 k ∧ wr.ownsRow (w.heap.size + 1) 31 3 v k ((firstK (roundV down) l k).flatMap Vec.cells) ∧ (firstK (roundV down) l k).all (fineV · 1000000) = true ∧ Below (w.heap.size + 1) w1 wr) (fun _ i _ => n - (intOf i).toNat)
  case atStart => exact ⟨0, Nat.zero_le _, rfl, World.ownsRow_nil _ _ _ _, rfl, Below.refl _ _⟩
  case round =>
    obtain ⟨k, hk, rfl, hown, hall, hb⟩ := hrel
    have q0 := (hb.cell (p := ⟨w.heap.size, 0, none⟩) (by simp)).trans p0
    have q1 := (hb.cell (p := ⟨w.heap.size, 1, none⟩) (by simp)).trans p1
    have hs := hb.size
    by_cases hlt : k < n
    · have hlt' : k < l.length := by rw [HN.out]; exact hlt
      obtain ⟨b, off, rfl, hB, c0, c1, c2⟩ := (hv1.below (hb.mono (Nat.le_succ _))).at_ hlt'
      have hfin := fineV_iff.1 (HV.out.fine hlt')
      obtain ⟨f1, f2, f3, f4, f5, f6⟩ := hfin
      clear p0 p1 hv hv1
      go_wp2_with fail
      generalize hwv : wr.alloc (Obj.cells #[Value.int IntKind.i64 l[k].x, Value.int IntKind.i64 l[k].y, Value.int IntKind.i64 l[k].z] 31) = wv
      have hbv : Below wr.heap.size wr wv := by rw [← hwv]; exact below_alloc wr _
      have hblk : Blk wv wr.heap.size 31 #[.int .i64 l[k].x, .int .i64 l[k].y, .int .i64 l[k].z] := by rw [← hwv]; exact Blk.new wr _ _
      clear hwv
      have hsv := hblk.lt
      have g1 : ∀ W, Below wv.heap.size wv W → W.cell? ⟨w.heap.size, 1, none⟩ = some (.int .i64 down) := fun W hW => ((hW.cell (p := ⟨w.heap.size, 1, none⟩) (by simp; omega)).trans (hbv.cell (by simp; omega))).trans q1
      have d0 : ∀ W, Below wv.heap.size wv W → W.cell? ⟨wr.heap.size, 0, none⟩ = some (.int .i64 l[k].x) := fun W hW => (hblk.keep hW).cell rfl
      have d1 : ∀ W, Below wv.heap.size wv W → W.cell? ⟨wr.heap.size, 1, none⟩ = some (.int .i64 l[k].y) := fun W hW => (hblk.keep hW).cell rfl
      have d2 : ∀ W, Below wv.heap.size wv W → W.cell? ⟨wr.heap.size, 2, none⟩ = some (.int .i64 l[k].z) := fun W hW => (hblk.keep hW).cell rfl
      clear q0 q1 c0 c1 c2
      apply wp_region_head 22 56 (hm := by kernel_rfl) (hN := rfl)
      case h =>
        simp only [List.take_succ_cons, List.take_zero]
        iterate 22 (apply head_still rfl; (intro W hW; go_simp; (try rfl)))
        refine head_nil ?_
        intro W hW _
        have hgb := hblk.keep hW
        have t0 := hgb.cell (i := 0) rfl
        have t1 := hgb.cell (i := 1) rfl
        have t2 := hgb.cell (i := 2) rfl
        have t3 := hgb.frozen
        have HB3 := Lib.hid (hgb.set3 (.int .i64 ((l[k].x + 2 ^ down / 2) / 2 ^ down)) (.int .i64 ((l[k].y + 2 ^ down / 2) / 2 ^ down)) (.int .i64 ((l[k].z + 2 ^ down / 2) / 2 ^ down)))
        have hb3 := (((hbv.trans (hW.mono (by omega))).setCell (p := ⟨wr.heap.size, 0, none⟩) (Nat.le_refl _) (.int .i64 ((l[k].x + 2 ^ down / 2) / 2 ^ down))).setCell (p := ⟨wr.heap.size, 1, none⟩) (Nat.le_refl _) (.int .i64 ((l[k].y + 2 ^ down / 2) / 2 ^ down))).setCell (p := ⟨wr.heap.size, 2, none⟩) (Nat.le_refl _) (.int .i64 ((l[k].z + 2 ^ down / 2) / 2 ^ down))
        have hF : fineB ((l[k].x + 2 ^ down / 2) / 2 ^ down) ((l[k].y + 2 ^ down / 2) / 2 ^ down) ((l[k].z + 2 ^ down / 2) / 2 ^ down) 1000000 = fineV (roundV down l[k]) 1000000 := rfl
        have hgl := hgb.lt
        clear d0 d1 d2 hgb
        cases hf : fineV (roundV down l[k]) 1000000 with
        | false =>
          rw [hf] at hF
          have HF := Lib.hid hf
          clear hf
          go_wp2_with (go_at_call 32; refine (fine_any _ _ _ _ _ (by omega) (by omega)).mono ?_; rintro e w2 ⟨rfl, hb2⟩)
          go_ret2
          obtain ⟨r1, r2⟩ := roundL_bad HV.out hlt' HF.out
          rw [r1, r2]
          refine retM ⟨none, 0, rfl, Vecs.nil_⟩ ?_
          exact (below_alloc w _).trans ((hb1.trans (hb.trans ((hb3.trans (hb2.mono hb3.size)).mono (by omega)))).mono (by omega))
        | true =>
          rw [hf] at hF
          have HF := Lib.hid hf
          clear hf
          go_wp2_with fail
          refine (fine_any _ _ _ _ _ (by omega) (by omega)).mono ?_
          rintro e w2 ⟨rfl, hb2⟩
          have hb5 := hb3.trans (hb2.mono hb3.size)
          have HB2 := HB3.out.keep hb2
          have e0 := HB2.cell (i := 0) rfl
          have e1 := HB2.cell (i := 1) rfl
          have e2 := HB2.cell (i := 2) rfl
          have hown2 := ownsRow_below hown hb5
          clear t0 t1 t2 t3 HB3 HB2 hb3 hb2 hown hgl g1
          go_wp2_with (at_builtin; refine wpList_append_own _ rfl _ _ 22 rfl (w.heap.size + 1) 31 i0 (.agg #[.int .i64 0, .int .i64 0, .int .i64 0]) 3 24 Try.underlying22 hi hz0 hz1 hz2 rfl (by decide) _ _ _ rfl (hown2.alloc _) ⟨w2.heap.size, 0, none⟩ 1 1 (Vec.cells (roundV down l[k])) rfl rfl ?c1 ?c2 ?c3 ?c4 ?c5 ?_)
          case c1 => exact cells_new_vec w2 (roundV down l[k]) 31
          case c2 => exact cells_one (roundV down l[k])
          case c3 => unfold maxLen; omega
          case c4 => omega
          case c5 => have := hb5.size; simp; omega
          intro v' w3 hown3 hgrow _
          rw [← flat_snoc, ← firstK_succ _ _ hlt'] at hown3
          have HO := Lib.hid hown3
          have hb6 := (hb.trans (hb5.mono (by omega))).trans (((below_alloc w2 _).mono (by have := hb5.size; omega)).grown hgrow (by have := hb5.size; simp; omega) (fun r hr => (hown2.lt r hr).1))
          have HB6 := Lib.hid hb6
          clear hown3 hgrow hown2 hb5 hb6 e0 e1 e2
          go_wp2
          go_roundw
          case rel => exact ⟨k + 1, by omega, by go_num, HO.out, firstK_fine hlt' hall HF.out, HB6.out⟩
          case measure => simp [intOf]; omega
      case hB => kernel_rfl
      all_goals rfl
    · obtain rfl : k = n := by omega
      obtain ⟨r1, r2⟩ := roundL_ok HV.out (by rw [← firstK_all, HN.out]; exact hall)
      have hlen : (firstK (roundV down) l k).length = k := firstK_length _ _ (by rw [HN.out]; exact Nat.le_refl _)
      obtain ⟨A', cap', rfl, hcap, hvs⟩ := Vecs.of_own_n hlen hown
      have HL := Lib.hid hlen
      have HVS := Lib.hid hvs
      clear hown hvs hv hv1 hlen
      go_wp2_with fail
      go_ret2
      rw [r1, r2, ← firstK_all, HN.out, HL.out]
      refine retM ⟨A', cap', rfl, HVS.out⟩ ?_
      exact (below_alloc w _).trans ((hb1.trans hb).mono (by omega))

theorem round_any (A : Option Addr) (n cap : Nat) (l : List Vec) (down : Int) (closed : Bool) (w : World) (hn : l.length = n) (hl : n ≤ 4611686018427387904) (hv : Vecs w w.heap.size A l) :
    Calls Try.prog 11 #[.agg #[.slice A n cap, .int .i64 down, .bool closed]] w
      (RetM w fun v w' => ∃ A' cap', v = .tuple #[.slice A' (roundL l down).length cap', .int .i64 (roundE l down)] ∧ Vecs w' w'.heap.size A' (roundL l down)) := by
  by_cases hok : Valid l down
  · obtain ⟨d, rfl⟩ := Int.eq_ofNat_of_zero_le hok.2.2.1
    exact round_yes A n cap l d closed w hn hl hv hok
  · have hc0 : checkE l down = 8 := checkE_bad hok
    have h1 : roundL l down = [] := if_neg hok
    have h2 : roundE l down = 8 := if_neg hok
    rw [h1, h2]
    clear h1 h2 hok
    have HN := Lib.hid hn
    clear hn
    go_enter Try.func11, Try.ntmps11
    go_wp2_with (go_at_call 21; refine (check_n A n cap l down closed _ HN.out hl ?_).mono ?_; exact (hv.below (below_alloc w _)).more (by simp); rintro e w1 ⟨rfl, hb1⟩; rw [hc0])
    go_ret2
    exact retM ⟨none, 0, rfl, Vecs.nil_⟩ ((below_alloc w _).trans (hb1.mono (by simp)))
end Go.Proofs.Ytfdjhiomdimfcaa
