/- Sum of the reference. For every list of ratios of 64 bits. -/
import Derived.Test.YtpkcmjiokdpegaaRatH
import Derived.Test.YtpkcmjiokdpegaaRegionB
namespace Go.Proofs.Ytpkcmjiokdpegaa
open Go.RowKit Go.Rel

set_option maxHeartbeats 1000000 in
theorem refSum_any (A : Option Addr) (n cap : Nat) (l : List Rat2) (w : World) (hn : l.length = n) (hl : n ≤ 4611686018427387904) (hv : Rats w w.heap.size A l) (h64 : ∀ a ∈ l, Rat64 a) :
    Calls Try.prog 6 #[.slice A n cap] w (Ret w (.tuple #[(sumR l).v, .int .i64 (sumE l)])) := by
  have x := Blk.new w 24 #[.int .i64 0, .int .i64 0]
  have hbx := below_alloc w (.cells #[.int .i64 0, .int .i64 0] 24)
  by_cases hbig : 200 < n
  · have h1 : sumR l = ⟨0, 0⟩ := if_pos (by omega)
    have h2 : sumE l = 4 := if_pos (by omega)
    have HH := Lib.hid (show _ ∧ _ from ⟨h1, h2⟩)
    have f0 := x.set2 (.int .i64 0) (.int .i64 0)
    have k0 := x.cell (i := 0) rfl
    have k1 := x.cell (i := 1) rfl
    clear h1 h2 hn hv h64
    go_enter Try.func6, Try.ntmps6
    go_wp2_with fail
    refine bodyPost_ret (v := .tuple #[.agg #[.int .i64 0, .int .i64 0], .int .i64 4]) (by simp [results, Try.results6, go_sem, k0, k1]) rfl ⟨by rw [HH.out.1, HH.out.2], ?_⟩
    first | exact below_set2 hbx (Nat.le_refl _) _ _ | exact hbx
  have h1 : sumR l = (sumP l ⟨0, 1⟩).1 := if_neg (by omega)
  have h2 : sumE l = (sumP l ⟨0, 1⟩).2 := if_neg (by omega)
  have HH := Lib.hid (show _ ∧ _ from ⟨h1, h2⟩)
  have HN := Lib.hid hn
  clear h1 h2 hn
  have y := Blk.new (w.alloc (.cells #[.int .i64 0, .int .i64 0] 24)) 24 #[.int .i64 0, .int .i64 1]
  have x' := x.alloc (.cells #[.int .i64 0, .int .i64 1] 24)
  have hbx' := hbx.trans ((below_alloc (w.alloc (.cells #[.int .i64 0, .int .i64 0] 24)) (.cells #[.int .i64 0, .int .i64 1] 24)).mono (by simp))
  simp only [World.size_alloc] at y
  have HX := Lib.hid (show _ ∧ _ ∧ _ from ⟨x', y, hbx'⟩)
  clear x x' y hbx hbx'
  go_enter Try.func6, Try.ntmps6
  go_wp2_with fail
  obtain ⟨x, y, hbx⟩ := HX.out
  generalize World.alloc _ _ = w0 at x y hbx ⊢
  go_loopw [5] (fun i wr => ∃ (k : Nat) (s : Rat2), k ≤ n ∧ i = .int .i64 k ∧ Rat64 s ∧ sumP (l.drop k) s = sumP l ⟨0, 1⟩ ∧ Blk wr w.heap.size 24 #[.int .i64 0, .int .i64 0] ∧ Blk wr (w.heap.size + 1) 24 #[.int .i64 s.n, .int .i64 s.d] ∧ Below w.heap.size w wr) (fun i _ => n - (intOf i).toNat)
  case atStart => exact ⟨0, ⟨0, 1⟩, Nat.zero_le _, rfl, by simp [Rat64], rfl, x, y, hbx⟩
  case round =>
    obtain ⟨k, s, hk, rfl, hs64, hsum, bx, bs, hb⟩ := hrel
    have HS := Lib.hid hsum
    clear hsum x y hbx HX
    have s0 := bs.cell (i := 0) rfl
    have s1 := bs.cell (i := 1) rfl
    have s2 := bs.frozen
    have x0 := bx.cell (i := 0) rfl
    have x1 := bx.cell (i := 1) rfl
    have x2 := bx.frozen
    have hlt0 := bs.lt
    by_cases hlt : k < n
    · have hlt' : k < l.length := by rw [HN.out]; exact hlt
      obtain ⟨b, off, rfl, hB, c0, c1⟩ := (hv.below hb).at_ hlt'
      have hB' : b < wr.heap.size := by omega
      clear hv
      go_wp2_with fail
      have hr64 : Rat64 (opAddR s l[k]) := runV_64 _ _ _ _
      have hstep := sumP_step hlt' s
      rw [HS.out] at hstep
      have HT := Lib.hid hstep
      have HR := Lib.hid hr64
      have l64 := Lib.hid (h64 _ (List.getElem_mem hlt'))
      have hs64' := Lib.hid hs64
      have d0 : ∀ W, Below wr.heap.size wr W → W.cell? ⟨w.heap.size + 1, 0, none⟩ = some (.int .i64 s.n) := fun W hW => (bs.keep hW).cell rfl
      have d1 : ∀ W, Below wr.heap.size wr W → W.cell? ⟨w.heap.size + 1, 1, none⟩ = some (.int .i64 s.d) := fun W hW => (bs.keep hW).cell rfl
      have d2 : ∀ W, Below wr.heap.size wr W → W.cell? ⟨b, off + k * 2, none⟩ = some (.int .i64 l[k].n) := fun W hW => (hW.cell hB').trans c0
      have d3 : ∀ W, Below wr.heap.size wr W → W.cell? ⟨b, off + k * 2 + 1, none⟩ = some (.int .i64 l[k].d) := fun W hW => (hW.cell hB').trans c1
      have hlt'' : (k : Int) < n := by omega
      clear hstep hr64 hs64 s0 s1 s2 x0 x1 x2 c0 c1
      apply wp_region_headR 11 34 (hR := kpNew_keeps wr.heap.size (.cells #[.int .i64 0, .int .i64 0] 24 (0, 0)) (.cells #[.int .i64 (opAddR s l[k]).n, .int .i64 (opAddR s l[k]).d] 24 (0, 0))) (hm := by kernel_rfl) (hN := rfl)
      case h =>
        simp only [List.take_succ_cons, List.take_zero]
        iterate 5 (apply headN_still rfl; (intro W hW; go_simp; (try rfl)))
        (apply headN_call (Nat.le_refl _) rfl; (intro W; go_simp; exact ⟨rfl, rfl⟩); (intro W hW; exact refAdd_any s l[k] W hs64'.out l64.out))
        iterate 3 (apply headN_still rfl; (intro W hW; go_simp; (try rfl)))
        apply headN_alloc (Nat.le_refl _) rfl
        · intro W; go_simp
        intro v
        apply headN_store2 (j := 9) (v := v) rfl rfl
        · intro W hk
          exact hk.1 (by simp)
        · intro W g x' y' hv h1 h2 h3
          subst hv
          unfold Gives
          go_simp
        intro _
        refine head_nilR ?_
        intro W hW hF
        obtain ⟨⟨g', rfl, hg', hgc⟩, -⟩ := hF
        replace hgc : Blk W g' 24 #[.int .i64 (opAddR s l[k]).n, .int .i64 (opAddR s l[k]).d] := hgc
        replace bx := bx.keep hW.below
        replace bs := bs.keep hW.below
        have hb' := hb.trans (hW.below.mono hb.size)
        clear d0 d1 d2 d3 hb hW
        have s0 := bs.cell (i := 0) rfl
        have s1 := bs.cell (i := 1) rfl
        have s2 := bs.frozen
        have x0 := bx.cell (i := 0) rfl
        have x1 := bx.cell (i := 1) rfl
        have x2 := bx.frozen
        have g0 := hgc.cell (i := 0) rfl
        have g1 := hgc.cell (i := 1) rfl
        have hlt1 := bs.lt
        have hne : ¬ w.heap.size = w.heap.size + 1 := by omega
        have hne' : ¬ w.heap.size + 1 = w.heap.size := by omega
        have hstep := HT.out
        by_cases he : opAddE s l[k] = 0
        · rw [if_pos he] at hstep
          have HT := Lib.hid hstep
          have n1 := bs.set2 (.int .i64 (opAddR s l[k]).n) (.int .i64 (opAddR s l[k]).d)
          have n2 := (bx.far (p := ⟨w.heap.size + 1, 0, none⟩) hne (.int .i64 (opAddR s l[k]).n)).far (p := ⟨w.heap.size + 1, 1, none⟩) hne (.int .i64 (opAddR s l[k]).d)
          have n3 := below_set2 hb' (show w.heap.size ≤ w.heap.size + 1 by omega) (.int .i64 (opAddR s l[k]).n) (.int .i64 (opAddR s l[k]).d)
          rw [he]
          have HM := Lib.hid (show _ ∧ _ ∧ _ from ⟨n1, n2, n3⟩)
          clear hstep he n1 n2 n3 hb'
          go_wp2_with fail
          go_roundw
          case rel => exact ⟨k + 1, opAddR s l[k], by omega, by go_num, HR.out, HT.out.symm, HM.out.2.1, HM.out.1, HM.out.2.2⟩
          case measure => simp [intOf]; omega
        · rw [if_neg he] at hstep
          have HT := Lib.hid hstep
          have he' : (opAddE s l[k] != 0) = true := by simpa using he
          have n4 := bx.set2 (.int .i64 0) (.int .i64 0)
          have n5 := below_set2 hb' (Nat.le_refl _) (.int .i64 0) (.int .i64 0)
          have k0 := n4.cell (i := 0) rfl
          have k1 := n4.cell (i := 1) rfl
          have HM := Lib.hid n5
          clear hstep he n4 n5 hb'
          go_wp2_with fail
          refine bodyPost_ret (v := .tuple #[.agg #[.int .i64 0, .int .i64 0], .int .i64 (opAddE s l[k])]) (by simp [results, Try.results6, go_sem, k0, k1]) rfl ⟨by rw [HH.out.1, HH.out.2, HT.out], ?_⟩
          exact HM.out
      case hB => kernel_rfl
      all_goals rfl
    · obtain rfl : k = n := by omega
      have he : sumP l ⟨0, 1⟩ = (s, 0) := by
        have := HS.out
        rw [← HN.out, List.drop_length] at this
        exact this.symm
      have HT := Lib.hid he
      have n1 := bx.set2 (.int .i64 s.n) (.int .i64 s.d)
      have k0 := n1.cell (i := 0) rfl
      have k1 := n1.cell (i := 1) rfl
      clear he hv
      go_wp2_with fail
      refine bodyPost_ret (v := .tuple #[s.v, .int .i64 0]) (by simp [results, Try.results6, go_sem, k0, k1]) rfl ⟨by rw [HH.out.1, HH.out.2, HT.out], below_set2 hb (Nat.le_refl _) _ _⟩
end Go.Proofs.Ytpkcmjiokdpegaa
