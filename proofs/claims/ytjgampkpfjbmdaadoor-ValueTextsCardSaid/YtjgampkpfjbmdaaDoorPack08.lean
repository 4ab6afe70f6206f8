/- Texts put together: RatD, RatE, RatF. -/
import Derived.Test.YtjgampkpfjbmdaaDoorPack07
import Derived.Defers
import Derived.RegionTactic
import Derived.BigRegion
section
/- The program's Make: n / d in lowest terms, or the error. For numbers of 64 bits. -/
namespace Go.Proofs.YtjgampkpfjbmdaaDoor
open Go.RowKit Go.Rel

set_option maxHeartbeats 400000 in
theorem make_zero_any (n : Int) (w : World) :
    Calls Tryd.prog 47 #[.int .i64 n, .int .i64 0] w (Ret w (.tuple #[(makeR n 0).v, .int .i64 (makeE n 0)])) := by
  obtain ⟨m1, m2⟩ := make_zero n
  rw [m1, m2]
  have y := Blk.new w 23 #[.int .i64 0, .int .i64 0]
  have hbw := below_alloc w (.cells #[.int .i64 0, .int .i64 0] 23)
  have y0 := y.cell (i := 0) rfl
  have y1 := y.cell (i := 1) rfl
  have y2 := y.frozen
  clear m1 m2
  go_enter Tryd.func47, Tryd.ntmps47
  go_wp2_with fail
  refine bodyPost_ret (v := .tuple #[.agg #[.int .i64 0, .int .i64 0], .int .i64 18]) (by simp [results, Tryd.results47, go_sem, y0, y1]) rfl ⟨rfl, ?_⟩
  first | exact below_set2 hbw (Nat.le_refl _) _ _ | exact hbw

/-- The signs of the quotient. -/
theorem make_facts {n d : Int} (hn : -9223372036854775808 ≤ n) (hn' : n ≤ 9223372036854775807) (hd : -9223372036854775808 ≤ d) (hd' : d ≤ 9223372036854775807) (h0 : d ≠ 0) :
    ∃ g A B : Nat, Nat.gcd n.natAbs d.natAbs = g ∧ 0 < g ∧ n.natAbs / g = A ∧ d.natAbs / g = B ∧ A ≤ 9223372036854775808 ∧ B ≤ 9223372036854775808 ∧
      (((decide ((A : Int) > 1000000000) = true ∧ makeR n d = ⟨0, 0⟩ ∧ makeE n d = 16) ∨ (decide ((A : Int) > 1000000000) = false ∧ decide ((B : Int) > 1000000000) = true ∧ makeR n d = ⟨0, 0⟩ ∧ makeE n d = 16)) ∨
       (decide ((A : Int) > 1000000000) = false ∧ decide ((B : Int) > 1000000000) = false ∧ makeR n d = ⟨if (decide (n < 0) != decide (d < 0)) = true then -(A : Int) else A, B⟩ ∧ makeE n d = 0)) := by
  obtain ⟨g, a, b, hg, hg0, hc, -, -, -, -, l1, l2, q1, q2, s1, s2, hb0, hgd, hlow⟩ := parts_all (n := n) h0
  refine ⟨g, a.natAbs, b.natAbs, hg, hg0, q1, q2, by omega, by omega, ?_⟩
  have hr : RatOk (if b < 0 then ⟨-a, -b⟩ else ⟨a, b⟩) ↔ a.natAbs ≤ 1000000000 ∧ b.natAbs ≤ 1000000000 := by
    split
    · exact ok_neg hc (by assumption)
    · exact ok_pos hc (by omega)
  by_cases h1 : (a.natAbs : Int) > 1000000000
  · have := make_bad h0 hlow (fun h => by have := (hr.1 h).1; omega)
    exact .inl (.inl ⟨by simpa using h1, this.1, this.2⟩)
  by_cases h2 : (b.natAbs : Int) > 1000000000
  · have := make_bad h0 hlow (fun h => by have := (hr.1 h).2; omega)
    exact .inl (.inr ⟨by simpa using h1, by simpa using h2, this.1, this.2⟩)
  have := make_ok h0 hlow (hr.2 ⟨by omega, by omega⟩)
  refine .inr ⟨by simpa using h1, by simpa using h2, ?_, this.2⟩
  rw [this.1]
  have e1 : decide (n < 0) = decide (a < 0) := by simp [s1]
  have e2 : decide (d < 0) = decide (b < 0) := by simp [s2]
  rw [e1, e2]
  by_cases ha : a < 0 <;> by_cases hb : b < 0 <;> simp [ha, hb] <;> omega

set_option maxHeartbeats 1000000 in
theorem make_any (n d : Int) (w : World) (hn : -9223372036854775808 ≤ n) (hn' : n ≤ 9223372036854775807) (hd : -9223372036854775808 ≤ d) (hd' : d ≤ 9223372036854775807) :
    Calls Tryd.prog 47 #[.int .i64 n, .int .i64 d] w (Ret w (.tuple #[(makeR n d).v, .int .i64 (makeE n d)])) := by
  by_cases h0 : d = 0
  · subst h0; exact make_zero_any n w
  have e0 : (d == 0) = false := by simpa using h0
  obtain ⟨g, A, B, hg, hg0, q1, q2, lA, lB, hcase⟩ := make_facts hn hn' hd hd' h0
  have HC := Lib.hid hcase
  have HG := Lib.hid hg
  have gz : ¬ g = 0 := by omega
  clear hcase hg
  have x1 : ((n.natAbs : Int) / (g : Int)) = A := by rw [← Int.natCast_ediv, q1]
  have x2 : ((d.natAbs : Int) / (g : Int)) = B := by rw [← Int.natCast_ediv, q2]
  clear q1 q2
  go_enter Tryd.func47, Tryd.ntmps47
  go_wp2_with (go_at_call 70; refine (size_any _ _ (by omega) (by omega)).mono ?_; rintro e w1 ⟨rfl, rfl⟩)
  refine (gcd_any _ _ _ (by omega) (by omega)).mono ?_
  rintro e w1 ⟨rfl, hb1⟩
  rw [HG.out]
  have q0 := (Blk.new w 23 #[.int .i64 0, .int .i64 0]).keep hb1
  have hbw := (below_alloc w _).trans (hb1.mono (by simp))
  have hlt0 := q0.lt
  have y0 := q0.cell (i := 0) rfl
  have y1 := q0.cell (i := 1) rfl
  have y2 := q0.frozen
  clear hb1
  go_wp2_with fail
  go_quiet (fail)
  replace hbw := below_drewN hbw nq
  replace q0 : Blk (w1.drewN nq) w.heap.size 23 #[.int .i64 0, .int .i64 0] := q0
  clear y0 y1 y2 hlt0
  generalize w1.drewN nq = w2 at hbw q0 ⊢
  have hlt0 := q0.lt
  rcases HC.out with hcase | hcase
  · have y0 := q0.cell (i := 0) rfl
    have y1 := q0.cell (i := 1) rfl
    have y2 := q0.frozen
    clear HC x1 x2
    rcases hcase with ⟨d1, m⟩ | ⟨d1, d2, m⟩
    all_goals
      have HM := Lib.hid m
      clear m
      go_wp2_with fail
      refine bodyPost_ret (v := .tuple #[.agg #[.int .i64 0, .int .i64 0], .int .i64 16]) (by simp [results, Tryd.results47, go_sem, y0, y1]) rfl ⟨by rw [HM.out.1, HM.out.2], below_set2 hbw (Nat.le_refl _) _ _⟩
  · obtain ⟨d1, d2, m⟩ := hcase
    have HM := Lib.hid m
    have wA : IntKind.i64.wrap (A : Int) = A := by simp at d1; rw [IntKind.wrap_i64]; omega
    have wB : IntKind.i64.wrap (B : Int) = B := by simp at d2; rw [IntKind.wrap_i64]; omega
    have wA' : IntKind.i64.wrap (-(A : Int)) = -(A : Int) := by simp at d1; rw [IntKind.wrap_i64]; omega
    clear HC x1 x2 m
    have z := Blk.new w2 23 #[.int .i64 A, .int .i64 B]
    have hz := below_alloc w2 (.cells #[.int .i64 A, .int .i64 B] 23)
    have y0 := q0.cell (i := 0) rfl
    have y1 := q0.cell (i := 1) rfl
    have y2 := q0.frozen
    have z0 := z.cell (i := 0) rfl
    have z1 := z.cell (i := 1) rfl
    have z2 := z.frozen
    have hne : ¬ w.heap.size = w2.heap.size := by omega
    rcases Bool.eq_false_or_eq_true (decide (n < 0)) with s1 | s1 <;> rcases Bool.eq_false_or_eq_true (decide (d < 0)) with s2 | s2
    all_goals
      have HS := Lib.hid s1
      have HS' := Lib.hid s2
      go_wp2_with fail
      first
        | (have f := (q0.set2 (.int .i64 A) (.int .i64 B)).alloc (.cells #[.int .i64 A, .int .i64 B] 23)
           have f0 := f.cell (i := 0) rfl
           have f1 := f.cell (i := 1) rfl
           refine bodyPost_ret (v := .tuple #[.agg #[.int .i64 A, .int .i64 B], .int .i64 0]) (by simp [results, Tryd.results47, go_sem, f0, f1]) rfl ⟨by rw [HM.out.1, HM.out.2, HS.out, HS'.out]; rfl, ?_⟩
           exact (below_set2 hbw (Nat.le_refl _) _ _).alloc (by simp; omega) _)
        | (have f := (q0.set2 (.int .i64 (-(A : Int))) (.int .i64 B)).alloc (.cells #[.int .i64 (-(A : Int)), .int .i64 B] 23)
           have f0 := f.cell (i := 0) rfl
           have f1 := f.cell (i := 1) rfl
           refine bodyPost_ret (v := .tuple #[.agg #[.int .i64 (-(A : Int)), .int .i64 B], .int .i64 0]) (by simp [results, Tryd.results47, go_sem, f0, f1]) rfl ⟨by rw [HM.out.1, HM.out.2, HS.out, HS'.out]; rfl, ?_⟩
           exact (below_set2 hbw (Nat.le_refl _) _ _).alloc (by simp; omega) _)
end Go.Proofs.YtjgampkpfjbmdaaDoor
end
section
/- with: a calculation with two ratios. For numbers of 64 bits. -/
namespace Go.Proofs.YtjgampkpfjbmdaaDoor
open Go.RowKit Go.Rel

/-- Numbers of 64 bits. -/
def Rat64 (a : Rat2) : Prop := -9223372036854775808 ≤ a.n ∧ a.n ≤ 9223372036854775807 ∧ -9223372036854775808 ≤ a.d ∧ a.d ≤ 9223372036854775807

def orE (a b : Int) : Int := if a = 0 then b else a
theorem orE_else {a b : Int} (h : ¬ a = 0) : a = orE a b := (if_neg h).symm
theorem orE_zero {a b : Int} (h : a = 0) : b = orE a b := (if_pos h).symm

set_option maxHeartbeats 400000 in
theorem or_any (g : Nat) (e1 e2 : Int) (w : World) (h1 : w.cell? ⟨g, 0, none⟩ = some (.int .i64 e1)) (h2 : w.cell? ⟨g, 1, none⟩ = some (.int .i64 e2)) :
    Calls Tryd.prog 91 #[.slice (some ⟨g, 0, none⟩) 2 2] w (Same w (.int .i64 (orE e1 e2))) := by
  go_enter Tryd.func91, Tryd.ntmps91
  go_wp2
  go_loopw [8] (fun i wr => wr = w ∧ ((i = .int .i64 0) ∨ (i = .int .i64 1 ∧ e1 = 0) ∨ (i = .int .i64 2 ∧ e1 = 0 ∧ e2 = 0))) (fun i _ => 2 - (intOf i).toNat)
  case atStart => exact ⟨rfl, .inl rfl⟩
  case round =>
    obtain ⟨rfl, hrel⟩ := hrel
    rcases hrel with rfl | ⟨rfl, r1⟩ | ⟨rfl, r1, r2⟩
    · by_cases hz : e1 = 0
      · subst hz
        go_wp2
        go_roundw
        case rel => simp
        case measure => simp [intOf]
      · have hz' : (e1 != 0) = true := by simpa using hz
        go_wp2
        go_ret
        exact same_int (orE_else hz)
    · subst r1
      by_cases hz : e2 = 0
      · subst hz
        go_wp2
        go_roundw
        case rel => simp
        case measure => simp [intOf]
      · have hz' : (e2 != 0) = true := by simpa using hz
        go_wp2
        go_ret
        exact same_int (orE_zero rfl)
    · subst r1; subst r2
      go_wp2
      go_ret
      exact same_int (orE_zero rfl)

set_option maxRecDepth 20000 in
set_option maxHeartbeats 1000000 in
theorem with_any (a b : Rat2) (w : World) (ha : Rat64 a) (hb : Rat64 b) :
    Calls Tryd.prog 76 #[a.v, b.v] w (Ret w (.agg #[.int .i64 a.n, .int .i64 a.d, .int .i64 b.n, .int .i64 b.d, .int .i64 0, .int .i64 0, .int .i64 (orE (ratE a) (ratE b))])) := by
  obtain ⟨an, ad⟩ := a
  obtain ⟨bn, bd⟩ := b
  go_enter Tryd.func76, Tryd.ntmps76
  go_wp2_with fail
  have ha' := ratCheck_any ⟨an, ad⟩
  have c1 : ∀ W, Below w.heap.size w W → Calls Tryd.prog 57 #[.agg #[.int .i64 an, .int .i64 ad]] W (Ret W (.int .i64 (ratE ⟨an, ad⟩))) := fun W _ => ratCheck_any ⟨an, ad⟩ W ha.1 ha.2.1 ha.2.2.1 ha.2.2.2
  have c2 : ∀ W, Below w.heap.size w W → Calls Tryd.prog 57 #[.agg #[.int .i64 bn, .int .i64 bd]] W (Ret W (.int .i64 (ratE ⟨bn, bd⟩))) := fun W _ => ratCheck_any ⟨bn, bd⟩ W hb.1 hb.2.1 hb.2.2.1 hb.2.2.2
  clear ha'
  obtain ⟨b1, b2, b3, b4, b5⟩ := boxes3 w #[.int .i64 an, .int .i64 ad] #[.int .i64 bn, .int .i64 bd] #[.int .i64 0, .int .i64 0, .int .i64 0, .int .i64 0, .int .i64 0, .int .i64 0, .int .i64 0] 23 23 108
  generalize World.alloc _ _ = w1 at b1 b2 b3 b4 b5 ⊢
  have q0 : Blk w1 w.heap.size _ _ := b3
  have q1 : Blk w1 (w.heap.size + 1) _ _ := b4
  have q2 : Blk w1 (w.heap.size + 1 + 1) _ _ := b5
  have d0 : ∀ W, Below w1.heap.size w1 W → W.cell? ⟨w.heap.size, 0, none⟩ = some (.int .i64 an) := fun W hW => (q0.keep hW).cell rfl
  have d1 : ∀ W, Below w1.heap.size w1 W → W.cell? ⟨w.heap.size, 1, none⟩ = some (.int .i64 ad) := fun W hW => (q0.keep hW).cell rfl
  have d2 : ∀ W, Below w1.heap.size w1 W → W.cell? ⟨w.heap.size + 1, 0, none⟩ = some (.int .i64 bn) := fun W hW => (q1.keep hW).cell rfl
  have d3 : ∀ W, Below w1.heap.size w1 W → W.cell? ⟨w.heap.size + 1, 1, none⟩ = some (.int .i64 bd) := fun W hW => (q1.keep hW).cell rfl
  have w01 := b1
  have hs1 : w.heap.size + 1 + 1 < w1.heap.size := by omega
  clear b2 b3 b4 b5
  apply wp_region_head 9 14 (hm := by kernel_rfl) (hN := rfl)
  case h =>
    simp only [List.take_succ_cons, List.take_zero]
    iterate 3 (apply head_still rfl; (intro W hW; go_simp; (try rfl)))
    (apply head_call rfl; (intro W; go_simp; exact ⟨rfl, rfl⟩); (intro W hW; exact c1 W (w01.trans (hW.mono (by omega)))))
    (apply head_still rfl; (intro W hW; go_simp; (try rfl)))
    (apply head_call rfl; (intro W; go_simp; exact ⟨rfl, rfl⟩); (intro W hW; exact c2 W (w01.trans (hW.mono (by omega)))))
    apply head_mem [] (fun v W => ∃ g, v = .slice (some ⟨g, 0, none⟩) 2 2 ∧ W.heap[g]? = some (.cells #[.int .i64 (ratE ⟨an, ad⟩), .int .i64 (ratE ⟨bn, bd⟩)] 29 (0, 0))) rfl
    · rintro v W W' ⟨g, hv, hg⟩ hb
      exact ⟨g, hv, (hb.block g (Array.getElem?_eq_some_iff.1 hg).1).trans hg⟩
    · intro W hW _
      unfold Gives
      go_simp
      exact ⟨(Array.getElem?_eq_some_iff.1 (heap_alloc_new W _)).2, below_alloc W _⟩
    · intro v
      apply head_known [6] (.int .i64 (orE (ratE ⟨an, ad⟩) (ratE ⟨bn, bd⟩))) rfl
      · intro W hW hk
        obtain ⟨g, hv, hg⟩ := hk.1 (by simp)
        subst hv
        unfold Gives
        go_simp
        have hq : Blk W g 29 #[.int .i64 (ratE ⟨an, ad⟩), .int .i64 (ratE ⟨bn, bd⟩)] := hg
        exact (or_any g _ _ W (hq.cell rfl) (hq.cell rfl)).mono fun e W' ⟨he, hw⟩ => ⟨_, he, rfl, hw ▸ Below.refl _ _⟩
      · apply head_still rfl
        · intro W hW; go_simp; rfl
        refine head_nil ?_
        intro W hW hF
        have hq := q2.keep hW
        have hlt := hq.lt
        have y0 := hq.cell (i := 0) rfl
        have y1 := hq.cell (i := 1) rfl
        have y2 := hq.cell (i := 2) rfl
        have y3 := hq.cell (i := 3) rfl
        have y4 := hq.cell (i := 4) rfl
        have y5 := hq.cell (i := 5) rfl
        have y6 := hq.cell (i := 6) rfl
        have y7 := hq.frozen
        clear hF
        go_wp2_with fail
        have hb7 : Below w.heap.size w (((((((W.setCell ⟨w.heap.size + 1 + 1, 0, none⟩ (.int .i64 an)).setCell ⟨w.heap.size + 1 + 1, 1, none⟩ (.int .i64 ad)).setCell ⟨w.heap.size + 1 + 1, 2, none⟩ (.int .i64 bn)).setCell ⟨w.heap.size + 1 + 1, 3, none⟩ (.int .i64 bd)).setCell ⟨w.heap.size + 1 + 1, 4, none⟩ (.int .i64 0)).setCell ⟨w.heap.size + 1 + 1, 5, none⟩ (.int .i64 0)).setCell ⟨w.heap.size + 1 + 1, 6, none⟩ (.int .i64 (orE (ratE ⟨an, ad⟩) (ratE ⟨bn, bd⟩)))) := by
          have h0 := w01.trans (hW.mono (show w.heap.size ≤ w1.heap.size by omega))
          have hle : w.heap.size ≤ w.heap.size + 1 + 1 := by omega
          exact ((((((h0.setCell (p := ⟨w.heap.size + 1 + 1, 0, none⟩) hle _).setCell (p := ⟨w.heap.size + 1 + 1, 1, none⟩) hle _).setCell (p := ⟨w.heap.size + 1 + 1, 2, none⟩) hle _).setCell (p := ⟨w.heap.size + 1 + 1, 3, none⟩) hle _).setCell (p := ⟨w.heap.size + 1 + 1, 4, none⟩) hle _).setCell (p := ⟨w.heap.size + 1 + 1, 5, none⟩) hle _).setCell (p := ⟨w.heap.size + 1 + 1, 6, none⟩) hle _
        refine bodyPost_ret (v := .agg #[.int .i64 an, .int .i64 ad, .int .i64 bn, .int .i64 bd, .int .i64 0, .int .i64 0, .int .i64 (orE (ratE ⟨an, ad⟩) (ratE ⟨bn, bd⟩))]) (by simp [results, Tryd.results76, go_sem, y0, y1, y2, y3, y4, y5, y6]) rfl ⟨rfl, hb7⟩
  case hB => kernel_rfl
  all_goals rfl
end Go.Proofs.YtjgampkpfjbmdaaDoor
end
section
/- set, run: a calculation. For valid ratios and for others. -/
namespace Go.Rel
open Go.RowKit
theorem Blk.drew_ {w : World} {g : Nat} {t : TypeId} {cs : Array Value} (h : Blk w g t cs) : Blk w.drew g t cs := h
end Go.Rel
namespace Go.Proofs.YtjgampkpfjbmdaaDoor
open Go.RowKit Go.Rel

set_option maxHeartbeats 1000000 in
theorem set_any (g : Nat) (a b c d x y n m : Int) (w : World) (hn : -9223372036854775808 ≤ n) (hn' : n ≤ 9223372036854775807) (hm : -9223372036854775808 ≤ m) (hm' : m ≤ 9223372036854775807)
    (hq : Blk w g 108 #[.int .i64 a, .int .i64 b, .int .i64 c, .int .i64 d, .int .i64 x, .int .i64 y, .int .i64 0]) :
    Calls Tryd.prog 78 #[.pointer (some ⟨g, 0, none⟩), .int .i64 n, .int .i64 m] w (fun e w' => e = .returned (.tuple #[]) ∧ Below g w w' ∧
      Blk w' g 108 #[.int .i64 a, .int .i64 b, .int .i64 c, .int .i64 d, .int .i64 (makeR n m).n, .int .i64 (makeR n m).d, .int .i64 (makeE n m)] ∧ ∀ k, k < w.heap.size → k ≠ g → w'.heap[k]? = w.heap[k]?) := by
  have y0 := hq.cell (i := 0) rfl
  have y6 := hq.cell (i := 6) rfl
  go_enter Tryd.func78, Tryd.ntmps78
  go_wp2_with fail
  refine (make_any n m _ hn hn' hm hm').mono ?_
  rintro e w1 ⟨rfl, hb1⟩
  have hq1 := hq.keep hb1
  have hlt := hq1.lt
  have z4 := hq1.cell (i := 4) rfl
  have z0 := hq1.cell (i := 0) rfl
  have z5 := hq1.cell (i := 5) rfl
  have z6 := hq1.cell (i := 6) rfl
  have z7 := hq1.frozen
  clear y0 y6
  have hB := ((hq1.set_ 4 (.int .i64 (makeR n m).n)).set_ 5 (.int .i64 (makeR n m).d)).set_ 6 (.int .i64 (makeE n m))
  have hfar : ∀ (k : Nat), k ≠ g → (((w1.setCell ⟨g, 4, none⟩ (.int .i64 (makeR n m).n)).setCell ⟨g, 5, none⟩ (.int .i64 (makeR n m).d)).setCell ⟨g, 6, none⟩ (.int .i64 (makeE n m))).heap[k]? = w1.heap[k]? := fun k hk => by
    rw [Below.heap_setCell _ _ _ _ hk, Below.heap_setCell _ _ _ _ hk, Below.heap_setCell _ _ _ _ hk]
  have hlow := ((((hb1.mono (Nat.le_of_lt hq.lt)).setCell (p := ⟨g, 4, none⟩) (Nat.le_refl _) (.int .i64 (makeR n m).n)).setCell (p := ⟨g, 5, none⟩) (Nat.le_refl _) (.int .i64 (makeR n m).d)).setCell (p := ⟨g, 6, none⟩) (Nat.le_refl _) (.int .i64 (makeE n m)))
  have HH := Lib.hid (show _ ∧ _ ∧ _ from ⟨hB, hfar, hlow⟩)
  clear hB hfar hlow
  go_wp2_with fail
  go_end0
  obtain ⟨hB, hfar, hlow⟩ := HH.out
  exact ⟨rfl, hlow, hB, fun k hk hne => (hfar k hne).trans (hb1.block k hk)⟩

/-- run's closure, called behind run's body: the result and the error are stored. -/
theorem run1_deferred (g h k : Nat) (x y z : Int) (u : FrameMode) (w : World) (h4 : w.cell? ⟨g, 4, none⟩ = some (.int .i64 x)) (h5 : w.cell? ⟨g, 5, none⟩ = some (.int .i64 y)) (h6 : w.cell? ⟨g, 6, none⟩ = some (.int .i64 z))
    (ho : Blk w h 23 #[.int .i64 0, .int .i64 0]) (hk : Blk w k 29 #[.int .i64 0]) (hne : h ≠ k) :
    CallsD Tryd.prog 77 #[.pointer (some ⟨g, 0, none⟩), .pointer (some ⟨h, 0, none⟩), .pointer (some ⟨k, 0, none⟩)] u w
      fun e u' w' => u' = u ∧ (e = .returned (.tuple #[]) ∧ w' = ((w.setCell ⟨h, 0, none⟩ (.int .i64 x)).setCell ⟨h, 1, none⟩ (.int .i64 y)).setCell ⟨k, 0, none⟩ (.int .i64 z)) := by
  have y0 := ho.cell (i := 0) rfl
  have y1 := ho.cell (i := 1) rfl
  have y2 := ho.frozen
  have z0 := hk.cell (i := 0) rfl
  have z2 := hk.frozen
  have hne' : ¬ k = h := fun e => hne e.symm
  clear ho hk
  go_enter_d Tryd.func77, Tryd.ntmps77
  go_wp2_with fail
  go_end0
  exact ⟨rfl, rfl⟩

def runV (a b : Rat2) (p q : Int) : Rat2 := if RatOk a ∧ RatOk b then makeR p q else ⟨0, 0⟩
def runE (a b : Rat2) (p q : Int) : Int := if RatOk a ∧ RatOk b then makeE p q else 8
theorem run_yes {a b : Rat2} (p q : Int) (h : RatOk a ∧ RatOk b) : runV a b p q = makeR p q ∧ runE a b p q = makeE p q ∧ orE (ratE a) (ratE b) = 0 := by
  unfold runV runE
  rw [if_pos h, if_pos h, ratE_ok h.1, ratE_ok h.2]
  exact ⟨rfl, rfl, rfl⟩
theorem run_no {a b : Rat2} (p q : Int) (h : ¬ (RatOk a ∧ RatOk b)) : runV a b p q = ⟨0, 0⟩ ∧ runE a b p q = 8 ∧ orE (ratE a) (ratE b) = 8 := by
  unfold runV runE
  rw [if_neg h, if_neg h]
  refine ⟨rfl, rfl, ?_⟩
  by_cases h1 : RatOk a
  · rw [ratE_ok h1, ratE_bad (fun h2 => h ⟨h1, h2⟩)]; rfl
  · rw [ratE_bad h1]; rfl

set_option maxHeartbeats 1000000 in
theorem run_ok (F : Nat) (a b : Rat2) (p q : Int) (w : World) (ha : Rat64 a) (hb : Rat64 b) (hp : -9223372036854775808 ≤ p) (hp' : p ≤ 9223372036854775807) (hq : -9223372036854775808 ≤ q) (hq' : q ≤ 9223372036854775807)
    (hcf : ∀ (args : Array Value) (w : World), (callFunc F args).run Tryd.prog w = .ok (.enter F args) w) (hF : ∀ w, Calls Tryd.prog F #[a.v, b.v] w (Ret w (.tuple #[.int .i64 p, .int .i64 q]))) (hok : RatOk a ∧ RatOk b) :
    Calls Tryd.prog 54 #[a.v, b.v, .func (.func F) #[] #[]] w (Ret w (.tuple #[(runV a b p q).v, .int .i64 (runE a b p q)])) := by
  have hmf : ∀ (fn : Fn) (first cap : Array Value) (w : World), (Instr.makeFunc fn first cap).run Tryd.prog w = .ok (.func fn first cap) w := fun _ _ _ _ => rfl
  have HY := Lib.hid (run_yes p q hok)
  clear hok
  go_enter_defers Tryd.func54, Tryd.ntmps54
  go_wp2_with fail
  have hbx := boxes4 w #[.int .i64 a.n, .int .i64 a.d] #[.int .i64 b.n, .int .i64 b.d] #[.int .i64 0, .int .i64 0] #[.int .i64 0] 23 23 23 29
  obtain ⟨x1, x2, x3, x4⟩ := hbx
  generalize World.alloc _ _ = w0 at x1 x2 x3 x4 ⊢
  refine (with_any a b _ ha hb).mono ?_
  rintro e w1 ⟨rfl, hb1⟩
  rw [HY.out.2.2]
  have r0 : Blk w1 (w.heap.size + 1 + 1) _ _ := Blk.keep x3 hb1
  have r1 : Blk w1 (w.heap.size + 1 + 1 + 1) _ _ := Blk.keep x4 hb1
  have hbw := x1.trans (hb1.mono (by omega))
  have hlt9 : w.heap.size + 1 + 1 + 1 < w1.heap.size := r1.lt
  clear x1 x2 x3 x4 hb1
  go_wp2_with fail
  refine (hF _).mono ?_
  rintro e w2 ⟨rfl, hb2⟩
  have q0 := (Blk.new w1 108 #[.int .i64 a.n, .int .i64 a.d, .int .i64 b.n, .int .i64 b.d, .int .i64 0, .int .i64 0, .int .i64 0]).keep hb2
  replace r0 := (r0.alloc (.cells #[.int .i64 a.n, .int .i64 a.d, .int .i64 b.n, .int .i64 b.d, .int .i64 0, .int .i64 0, .int .i64 0] 108)).keep hb2
  replace r1 := (r1.alloc (.cells #[.int .i64 a.n, .int .i64 a.d, .int .i64 b.n, .int .i64 b.d, .int .i64 0, .int .i64 0, .int .i64 0] 108)).keep hb2
  have hlt1 : w.heap.size ≤ w1.heap.size := hbw.size
  replace hbw := hbw.trans (((below_alloc w1 (.cells #[.int .i64 a.n, .int .i64 a.d, .int .i64 b.n, .int .i64 b.d, .int .i64 0, .int .i64 0, .int .i64 0] 108)).trans (hb2.mono (by simp))).mono hlt1)
  clear hb2
  go_wp2_with fail
  refine (set_any _ _ _ _ _ _ _ p q w2 hp hp' hq hq' q0).mono ?_
  rintro e w3 ⟨rfl, hb3, q3, hfar⟩
  have hne0 : w.heap.size + 1 + 1 ≠ w1.heap.size := by have := hlt9; omega
  have hne1 : w.heap.size + 1 + 1 + 1 ≠ w1.heap.size := by have := hlt9; omega
  replace r0 : Blk w3 (w.heap.size + 1 + 1) _ _ := (hfar _ r0.lt hne0).trans r0
  replace r1 : Blk w3 (w.heap.size + 1 + 1 + 1) _ _ := (hfar _ r1.lt hne1).trans r1
  replace hbw := hbw.trans (hb3.mono hlt1)
  clear hfar hb3
  have y0 := r0.cell (i := 0) rfl
  have y1 := r0.cell (i := 1) rfl
  have y2 := r0.frozen
  have z0 := r1.cell (i := 0) rfl
  have z2 := r1.frozen
  go_wp2_with fail
  go_region
  have hn01 : ¬ w.heap.size + 1 + 1 = w.heap.size + 1 + 1 + 1 := by omega
  have hn10 : ¬ w.heap.size + 1 + 1 + 1 = w.heap.size + 1 + 1 := by omega
  have s0 := (r0.set2 (.int .i64 0) (.int .i64 0)).far (p := ⟨w.heap.size + 1 + 1 + 1, 0, none⟩) hn01 (.int .i64 0)
  have s1 := ((r1.far (p := ⟨w.heap.size + 1 + 1, 0, none⟩) hn10 (.int .i64 0)).far (p := ⟨w.heap.size + 1 + 1, 1, none⟩) hn10 (.int .i64 0)).set_ 0 (.int .i64 0)
  have s2 := ((q3.far (p := ⟨w.heap.size + 1 + 1, 0, none⟩) (Ne.symm hne0) (.int .i64 0)).far (p := ⟨w.heap.size + 1 + 1, 1, none⟩) (Ne.symm hne0) (.int .i64 0)).far (p := ⟨w.heap.size + 1 + 1 + 1, 0, none⟩) (Ne.symm hne1) (.int .i64 0)
  have s3 := ((below_set2 hbw (show w.heap.size ≤ w.heap.size + 1 + 1 by omega) (.int .i64 0) (.int .i64 0)).setCell (p := ⟨w.heap.size + 1 + 1 + 1, 0, none⟩) (show w.heap.size ≤ w.heap.size + 1 + 1 + 1 by omega) (.int .i64 0)).drew
  replace s0 := s0.drew_
  replace s1 := s1.drew_
  replace s2 := s2.drew_
  clear y0 y1 y2 z0 z2 r0 r1 q3 hbw
  generalize World.drew _ = w4 at s0 s1 s2 s3 ⊢
  go_wp2_with fail
  refine leaves_cons (f := 77) (args := #[.pointer (some ⟨w1.heap.size, 0, none⟩), .pointer (some ⟨w.heap.size + 1 + 1, 0, none⟩), .pointer (some ⟨w.heap.size + 1 + 1 + 1, 0, none⟩)]) (by simp) (by simp [go_sem]) ?_
  refine (run1_deferred _ _ _ _ _ _ .returning _ (s2.cell (i := 4) rfl) (s2.cell (i := 5) rfl) (s2.cell (i := 6) rfl) s0 s1 hn01).mono ?_
  rintro e u' w'' ⟨rfl, rfl, rfl⟩
  have f0 := (s0.set2 (.int .i64 (makeR p q).n) (.int .i64 (makeR p q).d)).far (p := ⟨w.heap.size + 1 + 1 + 1, 0, none⟩) hn01 (.int .i64 (makeE p q))
  have f1 := ((s1.far (p := ⟨w.heap.size + 1 + 1, 0, none⟩) hn10 (.int .i64 (makeR p q).n)).far (p := ⟨w.heap.size + 1 + 1, 1, none⟩) hn10 (.int .i64 (makeR p q).d)).set_ 0 (.int .i64 (makeE p q))
  have f3 := ((below_set2 s3 (show w.heap.size ≤ w.heap.size + 1 + 1 by omega) (.int .i64 (makeR p q).n) (.int .i64 (makeR p q).d)).setCell (p := ⟨w.heap.size + 1 + 1 + 1, 0, none⟩) (show w.heap.size ≤ w.heap.size + 1 + 1 + 1 by omega) (.int .i64 (makeE p q)))
  have k0 := f0.cell (i := 0) rfl
  have k1 := f0.cell (i := 1) rfl
  have k2 := f1.cell (i := 0) rfl
  refine ⟨.tuple #[(makeR p q).v, .int .i64 (makeE p q)], by simp [results, Tryd.results54, go_sem, k0, k1, k2], by rw [HY.out.1, HY.out.2.1], f3⟩
set_option maxHeartbeats 1000000 in
theorem run_bad (F : Nat) (a b : Rat2) (p q : Int) (w : World) (ha : Rat64 a) (hb : Rat64 b)
    (hok : ¬ (RatOk a ∧ RatOk b)) :
    Calls Tryd.prog 54 #[a.v, b.v, .func (.func F) #[] #[]] w (Ret w (.tuple #[(runV a b p q).v, .int .i64 (runE a b p q)])) := by
  have hmf : ∀ (fn : Fn) (first cap : Array Value) (w : World), (Instr.makeFunc fn first cap).run Tryd.prog w = .ok (.func fn first cap) w := fun _ _ _ _ => rfl
  have HY := Lib.hid (run_no p q hok)
  clear hok
  go_enter_defers Tryd.func54, Tryd.ntmps54
  go_wp2_with fail
  have hbx := boxes4 w #[.int .i64 a.n, .int .i64 a.d] #[.int .i64 b.n, .int .i64 b.d] #[.int .i64 0, .int .i64 0] #[.int .i64 0] 23 23 23 29
  obtain ⟨x1, x2, x3, x4⟩ := hbx
  generalize World.alloc _ _ = w0 at x1 x2 x3 x4 ⊢
  refine (with_any a b _ ha hb).mono ?_
  rintro e w1 ⟨rfl, hb1⟩
  rw [HY.out.2.2]
  have r0 : Blk w1 (w.heap.size + 1 + 1) _ _ := Blk.keep x3 hb1
  have r1 : Blk w1 (w.heap.size + 1 + 1 + 1) _ _ := Blk.keep x4 hb1
  have hbw := x1.trans (hb1.mono (by omega))
  have hlt9 : w.heap.size + 1 + 1 + 1 < w1.heap.size := r1.lt
  clear x1 x2 x3 x4 hb1
  have q3 := Blk.new w1 108 #[.int .i64 a.n, .int .i64 a.d, .int .i64 b.n, .int .i64 b.d, .int .i64 0, .int .i64 0, .int .i64 8]
  replace r0 := r0.alloc (.cells #[.int .i64 a.n, .int .i64 a.d, .int .i64 b.n, .int .i64 b.d, .int .i64 0, .int .i64 0, .int .i64 8] 108)
  replace r1 := r1.alloc (.cells #[.int .i64 a.n, .int .i64 a.d, .int .i64 b.n, .int .i64 b.d, .int .i64 0, .int .i64 0, .int .i64 8] 108)
  have hlt1 : w.heap.size ≤ w1.heap.size := hbw.size
  replace hbw := hbw.trans ((below_alloc w1 (.cells #[.int .i64 a.n, .int .i64 a.d, .int .i64 b.n, .int .i64 b.d, .int .i64 0, .int .i64 0, .int .i64 8] 108)).mono hlt1)
  have hne0 : w.heap.size + 1 + 1 ≠ w1.heap.size := by have := hlt9; omega
  have hne1 : w.heap.size + 1 + 1 + 1 ≠ w1.heap.size := by have := hlt9; omega
  go_wp2_with fail
  generalize World.alloc _ _ = w3 at r0 r1 q3 hbw ⊢
  have y0 := r0.cell (i := 0) rfl
  have y1 := r0.cell (i := 1) rfl
  have y2 := r0.frozen
  have z0 := r1.cell (i := 0) rfl
  have z2 := r1.frozen
  go_region
  have hn01 : ¬ w.heap.size + 1 + 1 = w.heap.size + 1 + 1 + 1 := by omega
  have hn10 : ¬ w.heap.size + 1 + 1 + 1 = w.heap.size + 1 + 1 := by omega
  have s0 := (r0.set2 (.int .i64 0) (.int .i64 0)).far (p := ⟨w.heap.size + 1 + 1 + 1, 0, none⟩) hn01 (.int .i64 0)
  have s1 := ((r1.far (p := ⟨w.heap.size + 1 + 1, 0, none⟩) hn10 (.int .i64 0)).far (p := ⟨w.heap.size + 1 + 1, 1, none⟩) hn10 (.int .i64 0)).set_ 0 (.int .i64 0)
  have s2 := ((q3.far (p := ⟨w.heap.size + 1 + 1, 0, none⟩) (Ne.symm hne0) (.int .i64 0)).far (p := ⟨w.heap.size + 1 + 1, 1, none⟩) (Ne.symm hne0) (.int .i64 0)).far (p := ⟨w.heap.size + 1 + 1 + 1, 0, none⟩) (Ne.symm hne1) (.int .i64 0)
  have s3 := ((below_set2 hbw (show w.heap.size ≤ w.heap.size + 1 + 1 by omega) (.int .i64 0) (.int .i64 0)).setCell (p := ⟨w.heap.size + 1 + 1 + 1, 0, none⟩) (show w.heap.size ≤ w.heap.size + 1 + 1 + 1 by omega) (.int .i64 0)).drew
  replace s0 := s0.drew_
  replace s1 := s1.drew_
  replace s2 := s2.drew_
  clear y0 y1 y2 z0 z2 r0 r1 q3 hbw
  generalize World.drew _ = w4 at s0 s1 s2 s3 ⊢
  go_wp2_with fail
  refine leaves_cons (f := 77) (args := #[.pointer (some ⟨w1.heap.size, 0, none⟩), .pointer (some ⟨w.heap.size + 1 + 1, 0, none⟩), .pointer (some ⟨w.heap.size + 1 + 1 + 1, 0, none⟩)]) (by simp) (by simp [go_sem]) ?_
  refine (run1_deferred _ _ _ 0 0 8 .returning _ (s2.cell (i := 4) rfl) (s2.cell (i := 5) rfl) (s2.cell (i := 6) rfl) s0 s1 hn01).mono ?_
  rintro e u' w'' ⟨rfl, rfl, rfl⟩
  have f0 := (s0.set2 (.int .i64 0) (.int .i64 0)).far (p := ⟨w.heap.size + 1 + 1 + 1, 0, none⟩) hn01 (.int .i64 8)
  have f1 := ((s1.far (p := ⟨w.heap.size + 1 + 1, 0, none⟩) hn10 (.int .i64 0)).far (p := ⟨w.heap.size + 1 + 1, 1, none⟩) hn10 (.int .i64 0)).set_ 0 (.int .i64 8)
  have f3 := ((below_set2 s3 (show w.heap.size ≤ w.heap.size + 1 + 1 by omega) (.int .i64 0) (.int .i64 0)).setCell (p := ⟨w.heap.size + 1 + 1 + 1, 0, none⟩) (show w.heap.size ≤ w.heap.size + 1 + 1 + 1 by omega) (.int .i64 8))
  have k0 := f0.cell (i := 0) rfl
  have k1 := f0.cell (i := 1) rfl
  have k2 := f1.cell (i := 0) rfl
  refine ⟨.tuple #[.agg #[.int .i64 0, .int .i64 0], .int .i64 8], by simp [results, Tryd.results54, go_sem, k0, k1, k2], by rw [HY.out.1, HY.out.2.1], f3⟩

/-- run: any two ratios of 64 bits. f: what it gives where both are valid. -/
theorem run_any (F : Nat) (a b : Rat2) (p q : Int) (w : World) (ha : Rat64 a) (hb : Rat64 b)
    (hcf : ∀ (args : Array Value) (w : World), (callFunc F args).run Tryd.prog w = .ok (.enter F args) w)
    (hF : RatOk a ∧ RatOk b → (-9223372036854775808 ≤ p ∧ p ≤ 9223372036854775807 ∧ -9223372036854775808 ≤ q ∧ q ≤ 9223372036854775807) ∧ ∀ w, Calls Tryd.prog F #[a.v, b.v] w (Ret w (.tuple #[.int .i64 p, .int .i64 q]))) :
    Calls Tryd.prog 54 #[a.v, b.v, .func (.func F) #[] #[]] w (Ret w (.tuple #[(runV a b p q).v, .int .i64 (runE a b p q)])) := by
  by_cases hok : RatOk a ∧ RatOk b
  · obtain ⟨⟨h1, h2, h3, h4⟩, h5⟩ := hF hok
    exact run_ok F a b p q w ha hb h1 h2 h3 h4 hcf h5 hok
  · exact run_bad F a b p q w ha hb hok
end Go.Proofs.YtjgampkpfjbmdaaDoor
end
