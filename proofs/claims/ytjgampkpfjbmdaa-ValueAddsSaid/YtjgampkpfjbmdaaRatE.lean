/- with: a calculation with two ratios. For numbers of 64 bits. -/
import Derived.Test.YtjgampkpfjbmdaaRatD
namespace Go.Proofs.Ytjgampkpfjbmdaa
open Go.RowKit Go.Rel

/-- Numbers of 64 bits. -/
def Rat64 (a : Rat2) : Prop := -9223372036854775808 ≤ a.n ∧ a.n ≤ 9223372036854775807 ∧ -9223372036854775808 ≤ a.d ∧ a.d ≤ 9223372036854775807

def orE (a b : Int) : Int := if a = 0 then b else a
theorem orE_else {a b : Int} (h : ¬ a = 0) : a = orE a b := (if_neg h).symm
theorem orE_zero {a b : Int} (h : a = 0) : b = orE a b := (if_pos h).symm

set_option maxHeartbeats 400000 in
theorem or_any (g : Nat) (e1 e2 : Int) (w : World) (h1 : w.cell? ⟨g, 0, none⟩ = some (.int .i64 e1)) (h2 : w.cell? ⟨g, 1, none⟩ = some (.int .i64 e2)) :
    Calls Try.prog 53 #[.slice (some ⟨g, 0, none⟩) 2 2] w (Same w (.int .i64 (orE e1 e2))) := by
  go_enter Try.func53, Try.ntmps53
  go_wp2
  go_loopw [8] (fun i wr => wr = w ∧ ((i = .int .i64 0) ∨ (i = .int .i64 1 ∧ e1 = 0) ∨ (i = .int .i64 2 ∧ e1 = 0 ∧ e2 = 0))) (fun i _ => 2 - (intOf i).toNat)
  case atStart => exact ⟨rfl, .inl rfl⟩
  case round =>
    obtain ⟨rfl, hrel⟩ := hrel
    rcases hrel with rfl | ⟨rfl, r1⟩ | ⟨rfl, r1, r2⟩
    · by_cases hz : e1 = 0
      · subst hz
        go_wp2
        go_roundw
        case rel => simp
        case measure => simp [intOf]
      · have hz' : (e1 != 0) = true := by simpa using hz
        go_wp2
        go_ret
        exact same_int (orE_else hz)
    · subst r1
      by_cases hz : e2 = 0
      · subst hz
        go_wp2
        go_roundw
        case rel => simp
        case measure => simp [intOf]
      · have hz' : (e2 != 0) = true := by simpa using hz
        go_wp2
        go_ret
        exact same_int (orE_zero rfl)
    · subst r1; subst r2
      go_wp2
      go_ret
      exact same_int (orE_zero rfl)

set_option maxHeartbeats 1000000 in
theorem with_any (a b : Rat2) (w : World) (ha : Rat64 a) (hb : Rat64 b) :
    Calls Try.prog 48 #[a.v, b.v] w (Ret w (.agg #[.int .i64 a.n, .int .i64 a.d, .int .i64 b.n, .int .i64 b.d, .int .i64 0, .int .i64 0, .int .i64 (orE (ratE a) (ratE b))])) := by
  obtain ⟨an, ad⟩ := a
  obtain ⟨bn, bd⟩ := b
  go_enter Try.func48, Try.ntmps48
  go_wp2_with fail
  have ha' := ratCheck_any ⟨an, ad⟩
  have c1 : ∀ W, Below w.heap.size w W → Calls Try.prog 36 #[.agg #[.int .i64 an, .int .i64 ad]] W (Ret W (.int .i64 (ratE ⟨an, ad⟩))) := fun W _ => ratCheck_any ⟨an, ad⟩ W ha.1 ha.2.1 ha.2.2.1 ha.2.2.2
  have c2 : ∀ W, Below w.heap.size w W → Calls Try.prog 36 #[.agg #[.int .i64 bn, .int .i64 bd]] W (Ret W (.int .i64 (ratE ⟨bn, bd⟩))) := fun W _ => ratCheck_any ⟨bn, bd⟩ W hb.1 hb.2.1 hb.2.2.1 hb.2.2.2
  clear ha'
  obtain ⟨b1, b2, b3, b4, b5⟩ := boxes3 w #[.int .i64 an, .int .i64 ad] #[.int .i64 bn, .int .i64 bd] #[.int .i64 0, .int .i64 0, .int .i64 0, .int .i64 0, .int .i64 0, .int .i64 0, .int .i64 0] 23 23 70
  generalize World.alloc _ _ = w1 at b1 b2 b3 b4 b5 ⊢
  have q0 : Blk w1 w.heap.size _ _ := b3
  have q1 : Blk w1 (w.heap.size + 1) _ _ := b4
  have q2 : Blk w1 (w.heap.size + 1 + 1) _ _ := b5
  have d0 : ∀ W, Below w1.heap.size w1 W → W.cell? ⟨w.heap.size, 0, none⟩ = some (.int .i64 an) := fun W hW => (q0.keep hW).cell rfl
  have d1 : ∀ W, Below w1.heap.size w1 W → W.cell? ⟨w.heap.size, 1, none⟩ = some (.int .i64 ad) := fun W hW => (q0.keep hW).cell rfl
  have d2 : ∀ W, Below w1.heap.size w1 W → W.cell? ⟨w.heap.size + 1, 0, none⟩ = some (.int .i64 bn) := fun W hW => (q1.keep hW).cell rfl
  have d3 : ∀ W, Below w1.heap.size w1 W → W.cell? ⟨w.heap.size + 1, 1, none⟩ = some (.int .i64 bd) := fun W hW => (q1.keep hW).cell rfl
  have w01 := b1
  have hs1 : w.heap.size + 1 + 1 < w1.heap.size := by omega
  clear b2 b3 b4 b5
  apply wp_region_head 9 14 (hm := by kernel_rfl) (hN := rfl)
  case h =>
    simp only [List.take_succ_cons, List.take_zero]
    iterate 3 (apply head_still rfl; (intro W hW; go_simp; (try rfl)))
    (apply head_call rfl; (intro W; go_simp; exact ⟨rfl, rfl⟩); (intro W hW; exact c1 W (w01.trans (hW.mono (by omega)))))
    (apply head_still rfl; (intro W hW; go_simp; (try rfl)))
    (apply head_call rfl; (intro W; go_simp; exact ⟨rfl, rfl⟩); (intro W hW; exact c2 W (w01.trans (hW.mono (by omega)))))
    apply head_mem [] (fun v W => ∃ g, v = .slice (some ⟨g, 0, none⟩) 2 2 ∧ W.heap[g]? = some (.cells #[.int .i64 (ratE ⟨an, ad⟩), .int .i64 (ratE ⟨bn, bd⟩)] 29 (0, 0))) rfl
    · rintro v W W' ⟨g, hv, hg⟩ hb
      exact ⟨g, hv, (hb.block g (Array.getElem?_eq_some_iff.1 hg).1).trans hg⟩
    · intro W hW _
      unfold Gives
      go_simp
      exact ⟨(Array.getElem?_eq_some_iff.1 (heap_alloc_new W _)).2, below_alloc W _⟩
    · intro v
      apply head_known [6] (.int .i64 (orE (ratE ⟨an, ad⟩) (ratE ⟨bn, bd⟩))) rfl
      · intro W hW hk
        obtain ⟨g, hv, hg⟩ := hk.1 (by simp)
        subst hv
        unfold Gives
        go_simp
        have hq : Blk W g 29 #[.int .i64 (ratE ⟨an, ad⟩), .int .i64 (ratE ⟨bn, bd⟩)] := hg
        exact (or_any g _ _ W (hq.cell rfl) (hq.cell rfl)).mono fun e W' ⟨he, hw⟩ => ⟨_, he, rfl, hw ▸ Below.refl _ _⟩
      · apply head_still rfl
        · intro W hW; go_simp; rfl
        refine head_nil ?_
        intro W hW hF
        have hq := q2.keep hW
        have hlt := hq.lt
        have y0 := hq.cell (i := 0) rfl
        have y1 := hq.cell (i := 1) rfl
        have y2 := hq.cell (i := 2) rfl
        have y3 := hq.cell (i := 3) rfl
        have y4 := hq.cell (i := 4) rfl
        have y5 := hq.cell (i := 5) rfl
        have y6 := hq.cell (i := 6) rfl
        have y7 := hq.frozen
        clear hF
        go_wp2_with fail
        have hb7 : Below w.heap.size w (((((((W.setCell ⟨w.heap.size + 1 + 1, 0, none⟩ (.int .i64 an)).setCell ⟨w.heap.size + 1 + 1, 1, none⟩ (.int .i64 ad)).setCell ⟨w.heap.size + 1 + 1, 2, none⟩ (.int .i64 bn)).setCell ⟨w.heap.size + 1 + 1, 3, none⟩ (.int .i64 bd)).setCell ⟨w.heap.size + 1 + 1, 4, none⟩ (.int .i64 0)).setCell ⟨w.heap.size + 1 + 1, 5, none⟩ (.int .i64 0)).setCell ⟨w.heap.size + 1 + 1, 6, none⟩ (.int .i64 (orE (ratE ⟨an, ad⟩) (ratE ⟨bn, bd⟩)))) := by
          have h0 := w01.trans (hW.mono (show w.heap.size ≤ w1.heap.size by omega))
          have hle : w.heap.size ≤ w.heap.size + 1 + 1 := by omega
          exact ((((((h0.setCell (p := ⟨w.heap.size + 1 + 1, 0, none⟩) hle _).setCell (p := ⟨w.heap.size + 1 + 1, 1, none⟩) hle _).setCell (p := ⟨w.heap.size + 1 + 1, 2, none⟩) hle _).setCell (p := ⟨w.heap.size + 1 + 1, 3, none⟩) hle _).setCell (p := ⟨w.heap.size + 1 + 1, 4, none⟩) hle _).setCell (p := ⟨w.heap.size + 1 + 1, 5, none⟩) hle _).setCell (p := ⟨w.heap.size + 1 + 1, 6, none⟩) hle _
        refine bodyPost_ret (v := .agg #[.int .i64 an, .int .i64 ad, .int .i64 bn, .int .i64 bd, .int .i64 0, .int .i64 0, .int .i64 (orE (ratE ⟨an, ad⟩) (ratE ⟨bn, bd⟩))]) (by simp [results, Try.results48, go_sem, y0, y1, y2, y3, y4, y5, y6]) rfl ⟨rfl, hb7⟩
  case hB => kernel_rfl
  all_goals rfl
end Go.Proofs.Ytjgampkpfjbmdaa
