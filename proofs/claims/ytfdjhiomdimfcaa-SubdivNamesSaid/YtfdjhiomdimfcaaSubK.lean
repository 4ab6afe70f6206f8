/- Copies and comparisons of curves; a curve among a law's arguments. -/
import Derived.Laws.AppendOwnNone
import Derived.Test.YtfdjhiomdimfcaaSubJ
import Derived.Test.YtfdjhiomdimfcaaElems
import Derived.Test.YtfdjhiomdimfcaaCurveRow
namespace Go.Rel
open Go.RowKit
theorem Vecs.of_recs {w : World} {B : Nat} {A : Option Addr} {l : List Vec} (h : Recs Vec.cells 3 w B A l) : Vecs w B A l := by
  intro hl
  obtain ⟨b, off, e, hb, hc⟩ := h hl
  refine ⟨b, off, e, hb, fun i v hi => ⟨?_, ?_, ?_⟩⟩
  · exact hc i v hi 0 _ rfl
  · exact hc i v hi 1 _ rfl
  · exact hc i v hi 2 _ rfl
theorem row_empty (w : World) (e : TypeId) : (w.alloc (.cells #[] e)).ownsRow w.heap.size e 3 (.slice (some ⟨w.heap.size, 0, none⟩) 0 0) 0 [] :=
  ⟨by simp, .inr ⟨w.heap.size, 0, #[], rfl, Nat.le_refl _, heap_alloc_new w _, Nat.le_refl _, by unfold maxLen; omega, by simp, by simp⟩⟩
end Go.Rel
namespace Go.Proofs.Ytfdjhiomdimfcaa
open Go.RowKit Go.ChangeShapes Go.WideShapes Go.ChangeAt Go.Joins Go.Rel

/-- A curve, opened; a nil slice has no capacity. -/
theorem open_curve2 {H : Type} {enc : TypeId × Value → H} {W : World} {r : Reach} {b0 : Nat} {v : Value} {d : DataW H} {p : List MemPlace} (hv : Value.okWide Try.prog W r b0 24 v) (h : DataW.Trod enc Try.prog W 0 (fun _ => true) true 24 v d p) :
    ∃ (A : Option Addr) (n cap : Nat) (l : List Vec) (down : Int) (closed : Bool), v = .agg #[.slice A n cap, .int .i64 down, .bool closed] ∧ l.length = n ∧ n ≤ 9223372036854775807 ∧ Vecs W W.heap.size A l ∧ (A = none → cap = 0) ∧ (Lit.int .i64 down).wf = true := by
  obtain ⟨c0, c1, c2, y0, y1, y2, m, rfl, -, -, h0, h1, h2⟩ := open_agg3 Try.underlying24 (by kernel_rfl) Try.cells24 hv h
  obtain ⟨A, n, cap, l, rfl, hn, hl, hnc, hA, hr, -⟩ := open_recs (cells := Vec.cells) (Q := fun _ => True) Try.underlying22 Try.cells31 (by omega) (fun _ => rfl) (fun m sp held cs y hy hl => by
    obtain ⟨b, rfl, -⟩ := cells_vec Try.underlying31 Try.underlying3 ⟨rfl, rfl⟩ ⟨rfl, rfl⟩ ⟨rfl, rfl⟩ Try.cells3 hy hl
    exact ⟨b, rfl, trivial⟩) h0
  obtain ⟨down, rfl, hw⟩ := cell_int Try.underlying3 h1
  obtain ⟨closed, rfl⟩ := cell_bool Try.underlying4 h2
  exact ⟨A, n, cap, l, down, closed, rfl, hn, hl, Vecs.of_recs hr, hA, hw⟩

set_option maxHeartbeats 1000000 in
theorem same_eq (A A' : Option Addr) (n cap cap' : Nat) (l : List Vec) (down : Int) (closed : Bool) (w : World) (hn : l.length = n) (hl : n ≤ 4611686018427387904) (hv : Vecs w w.heap.size A l) (hv' : Vecs w w.heap.size A' l) :
    Calls Try.prog 23 #[.agg #[.slice A n cap, .int .i64 down, .bool closed], .agg #[.slice A' n cap', .int .i64 down, .bool closed]] w (Ret w (.bool true)) := by
  have HN := Lib.hid hn
  clear hn
  go_enter Try.func23, Try.ntmps23
  go_wp2_with fail
  obtain ⟨h1, h2, h3, h4⟩ := boxes2 w #[.slice A n cap, .int .i64 down, .bool closed] #[.slice A' n cap', .int .i64 down, .bool closed] 24 24
  refine (sameVecs_any A A' n n cap cap' l l _ HN.out HN.out hl hl ((hv.below h1).more (by omega)) ((hv'.below h1).more (by omega))).mono ?_
  rintro e w1 ⟨rfl, hb1⟩
  rw [show decide (l = l) = true by simp]
  go_wp2_with fail
  go_ret
  exact ret_bool rfl (h1.trans (hb1.mono (by omega)))

set_option maxHeartbeats 1000000 in
theorem twin_any (A : Option Addr) (n cap : Nat) (l : List Vec) (down : Int) (closed : Bool) (w : World) (hn : l.length = n) (hl : n ≤ 100000) (hv : Vecs w w.heap.size A l) (hA : A = none → cap = 0) :
    Calls Try.prog 16 #[.agg #[.slice A n cap, .int .i64 down, .bool closed]] w (RetM w fun v w' => ∃ S, v = .agg #[S, .int .i64 down, .bool closed] ∧ w'.ownsRow w.heap.size 31 3 S n (l.flatMap Vec.cells)) := by
  have HN := Lib.hid hn
  clear hn
  obtain ⟨i0, hi, hz0, hz1, hz2⟩ := info_parts Try.infoVec
  go_enter Try.func16, Try.ntmps16
  go_wp2_with (at_builtin; refine Hid.out ?_)
  refine Lib.hid ?_
  obtain ⟨x1, x2, x3, x4⟩ := boxes2 w #[.slice A n cap, .int .i64 down, .bool closed] #[.slice none 0 0, .int .i64 0, .bool false] 24 24
  replace x3 : Blk _ _ _ _ := x3
  replace x4 : Blk _ _ _ _ := x4
  have hr := row_empty ((w.alloc (.cells #[.slice A n cap, .int .i64 down, .bool closed] 24)).alloc (.cells #[.slice none 0 0, .int .i64 0, .bool false] 24)) 31
  rw [x2] at hr
  replace x1 := x1.alloc (by omega) (.cells #[] 31)
  replace x3 := x3.alloc (.cells #[] 31)
  replace x4 := x4.alloc (.cells #[] 31)
  have hs3 : w.heap.size + 1 + 1 + 1 = (((w.alloc (.cells #[.slice A n cap, .int .i64 down, .bool closed] 24)).alloc (.cells #[.slice none 0 0, .int .i64 0, .bool false] 24)).alloc (.cells #[] 31)).heap.size := by simp
  generalize ((w.alloc _).alloc _).alloc _ = W0 at x1 x3 x4 hr hs3 ⊢
  have go : ∀ v' W3, W3.ownsRow (w.heap.size + 1 + 1) 31 3 v' n (l.flatMap Vec.cells) → W0.grownBy W3 (some (w.heap.size + 1 + 1)) →
      W3.ownsRow w.heap.size 31 3 v' n (l.flatMap Vec.cells) ∧ Blk W3 w.heap.size 24 #[.slice A n cap, .int .i64 down, .bool closed] ∧ Blk W3 (w.heap.size + 1) 24 #[.slice none 0 0, .int .i64 0, .bool false] ∧ Below w.heap.size w W3 :=
    fun v' W3 h hg => ⟨ownsRow_base h (by omega), (hg.block _ x3.lt (by simp; omega)).trans x3, (hg.block _ x4.lt (by simp)).trans x4, x1.grown hg x1.size (fun r e => by cases e; omega)⟩
  have hvW := hv.below x1
  have HGO := Lib.hid go
  have hl2 := flat_length l
  rw [HN.out] at hl2
  have HL2 := Lib.hid hl2
  clear go x1 x3 x4 hv hl2
  cases A with
  | none =>
    have hn0 : n = 0 := by
      rcases Nat.eq_zero_or_pos n with h | h
      · exact h
      · obtain ⟨_, _, e, _⟩ := hvW.blk (by rw [HN.out]; exact h)
        cases e
    have hl0 : l = [] := List.eq_nil_of_length_eq_zero (by rw [HN.out]; exact hn0)
    have hc0 := hA rfl
    subst hl0 hn0 hc0
    refine wpList_append_own_none rfl (.tmp 3) (.tmp 5) 22 rfl (w.heap.size + 1 + 1) 31 i0 3 Try.underlying22 hi _ 0 [] rfl hr rfl ?_
    obtain ⟨row, b0, b1, hB⟩ := HGO.out _ W0 hr ⟨rfl, rfl, rfl, Nat.le_refl _, fun _ _ _ => rfl⟩
    clear HGO hr hi hz0 hz1 hz2 hvW hA hs3
    have c0 := b0.cell (i := 0) rfl
    have c1 := b0.cell (i := 1) rfl
    have c2 := b0.cell (i := 2) rfl
    have c3 := b0.frozen
    have d0 := b1.cell (i := 0) rfl
    have d1 := b1.cell (i := 1) rfl
    have d2 := b1.cell (i := 2) rfl
    have d3 := b1.frozen
    have dL := b1.lt
    have y1 := (b1.far (p := ⟨w.heap.size, 0, none⟩) (by simp) (.slice (some ⟨w.heap.size + 1 + 1, 0, none⟩) 0 0)).set3 (.slice (some ⟨w.heap.size + 1 + 1, 0, none⟩) 0 0) (.int .i64 down) (.bool closed)
    have q1 := ownsRow_set row ⟨w.heap.size, 0, none⟩ (.slice (some ⟨w.heap.size + 1 + 1, 0, none⟩) 0 0) (row_ne_blk b0 (by decide) row)
    have q2 := ownsRow_set (ownsRow_set (ownsRow_set q1 ⟨w.heap.size + 1, 0, none⟩ (.slice (some ⟨w.heap.size + 1 + 1, 0, none⟩) 0 0) (row_ne_blk b1 (by decide) row)) ⟨w.heap.size + 1, 1, none⟩ (.int .i64 down) (row_ne_blk b1 (by decide) row)) ⟨w.heap.size + 1, 2, none⟩ (.bool closed) (row_ne_blk b1 (by decide) row)
    have q3 := (((hB.setCell (p := ⟨w.heap.size, 0, none⟩) (by simp) (.slice (some ⟨w.heap.size + 1 + 1, 0, none⟩) 0 0)).setCell (p := ⟨w.heap.size + 1, 0, none⟩) (by simp) (.slice (some ⟨w.heap.size + 1 + 1, 0, none⟩) 0 0)).setCell (p := ⟨w.heap.size + 1, 1, none⟩) (by simp) (.int .i64 down)).setCell (p := ⟨w.heap.size + 1, 2, none⟩) (by simp) (.bool closed)
    have HF := Lib.hid (show _ ∧ _ ∧ _ from ⟨y1, q2, q3⟩)
    clear y1 q1 q2 q3 row b0 b1 hB
    go_wp2_with fail
    obtain ⟨y1, q2, q3⟩ := HF.out
    generalize World.setCell _ _ _ = W9 at y1 q2 q3 ⊢
    have z0 := y1.cell (i := 0) rfl
    have z1 := y1.cell (i := 1) rfl
    have z2 := y1.cell (i := 2) rfl
    refine bodyPost_ret (by simp [results, Try.results16, go_sem, z0, z1, z2]; rfl) rfl ?_
    exact retM ⟨_, rfl, q2⟩ q3
  | some ad =>
    refine wpList_append_own _ rfl (.tmp 3) (.tmp 5) 22 rfl (w.heap.size + 1 + 1) 31 i0 (.agg #[.int .i64 0, .int .i64 0, .int .i64 0]) 3 24 Try.underlying22 hi hz0 hz1 hz2 rfl (by decide) _ 0 [] rfl hr ad n cap (l.flatMap Vec.cells) rfl HL2.out ?c1 ?c2 ?c3 ?c4 ?c5 ?_
    case c1 =>
      rcases Nat.eq_zero_or_pos n with h | h
      · have hl0 : l = [] := List.eq_nil_of_length_eq_zero (by rw [HN.out]; exact h)
        subst hl0
        intro j u hj
        simp at hj
      · obtain ⟨b, off, e, -⟩ := hvW.blk (by rw [HN.out]; exact h)
        obtain rfl : ad = ⟨b, off, none⟩ := by injection e
        exact hvW.flat
    case c2 => exact cells_all_one l
    case c3 => unfold maxLen; omega
    case c4 => omega
    case c5 => omega
    intro v' W3 hown' hgrow _
    rw [Nat.zero_add, List.nil_append] at hown'
    obtain ⟨row, b0, b1, hB⟩ := HGO.out _ W3 hown' hgrow
    clear HGO hr hi hz0 hz1 hz2 hvW hA hs3 hown' hgrow
    obtain ⟨A', cap', rfl, -, -⟩ := Vecs.of_own_n HN.out row
    have c0 := b0.cell (i := 0) rfl
    have c1 := b0.cell (i := 1) rfl
    have c2 := b0.cell (i := 2) rfl
    have c3 := b0.frozen
    have d0 := b1.cell (i := 0) rfl
    have d1 := b1.cell (i := 1) rfl
    have d2 := b1.cell (i := 2) rfl
    have d3 := b1.frozen
    have dL := b1.lt
    have y1 := (b1.far (p := ⟨w.heap.size, 0, none⟩) (by simp) (.slice A' n cap')).set3 (.slice A' n cap') (.int .i64 down) (.bool closed)
    have q1 := ownsRow_set row ⟨w.heap.size, 0, none⟩ (.slice A' n cap') (row_ne_blk b0 (by decide) row)
    have q2 := ownsRow_set (ownsRow_set (ownsRow_set q1 ⟨w.heap.size + 1, 0, none⟩ (.slice A' n cap') (row_ne_blk b1 (by decide) row)) ⟨w.heap.size + 1, 1, none⟩ (.int .i64 down) (row_ne_blk b1 (by decide) row)) ⟨w.heap.size + 1, 2, none⟩ (.bool closed) (row_ne_blk b1 (by decide) row)
    have q3 := (((hB.setCell (p := ⟨w.heap.size, 0, none⟩) (by simp) (.slice A' n cap')).setCell (p := ⟨w.heap.size + 1, 0, none⟩) (by simp) (.slice A' n cap')).setCell (p := ⟨w.heap.size + 1, 1, none⟩) (by simp) (.int .i64 down)).setCell (p := ⟨w.heap.size + 1, 2, none⟩) (by simp) (.bool closed)
    have HF := Lib.hid (show _ ∧ _ ∧ _ from ⟨y1, q2, q3⟩)
    clear y1 q1 q2 q3 row b0 b1 hB
    go_wp2_with fail
    obtain ⟨y1, q2, q3⟩ := HF.out
    generalize World.setCell _ _ _ = W9 at y1 q2 q3 ⊢
    have z0 := y1.cell (i := 0) rfl
    have z1 := y1.cell (i := 1) rfl
    have z2 := y1.cell (i := 2) rfl
    refine bodyPost_ret (by simp [results, Try.results16, go_sem, z0, z1, z2]; rfl) rfl ?_
    exact retM ⟨_, rfl, q2⟩ q3
end Go.Proofs.Ytfdjhiomdimfcaa
