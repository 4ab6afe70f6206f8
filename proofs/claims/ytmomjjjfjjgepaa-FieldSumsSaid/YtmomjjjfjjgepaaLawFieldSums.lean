/- The law 'FieldSums': the value of two fields put together is the sum of their values, and the order does not matter. For every two fields and point. -/
import Derived.Test.YtmomjjjfjjgepaaFieldL
import Derived.Test.YtmomjjjfjjgepaaFieldM
import Derived.Test.YtmomjjjfjjgepaaFieldRow
import Derived.Test.YtmomjjjfjjgepaaAppend
namespace Go.Proofs.Ytmomjjjfjjgepaa
open Go.RowKit Go.Rel

theorem one_cell : ∀ u : Pull, ∀ x ∈ u.cells, x.oneCell' = true := by
  intro u x hx
  simp only [Pull.cells, List.mem_cons, List.not_mem_nil, or_false] at hx
  rcases hx with rfl | rfl | rfl | rfl | rfl <;> rfl
theorem valueE_fine {l : List Pull} {p : Pt} (h : Fine l) (hp : inB p.x p.y = true) : valueE l p = 0 ∧ valueV l p = valueP l p := by
  have he : valueE l p = 0 := by unfold valueE; rw [if_pos (fieldE_ok h), if_pos hp]
  exact ⟨he, by unfold valueV; rw [if_pos he]⟩
theorem fine_append {a b : List Pull} (ha : Fine a) (hb : Fine b) (h : a.length + b.length ≤ 60) : Fine (a ++ b) := ⟨by rw [List.length_append]; exact h, by rw [List.all_append, ha.2, hb.2]; rfl⟩
theorem take_flat {a b : List Pull} {n : Nat} (hn : a.length = n) : ((a ++ b).flatMap Pull.cells).take (n * 5) = a.flatMap Pull.cells := by
  rw [List.flatMap_append, List.take_append_of_le_length (by rw [flat_len Pull.cells_len, hn]; exact Nat.le_refl _), List.take_of_length_le (by rw [flat_len Pull.cells_len, hn]; exact Nat.le_refl _)]
theorem take_flat' {a : List Pull} {n : Nat} (hn : a.length = n) : (a.flatMap Pull.cells).take (n * 5) = a.flatMap Pull.cells := List.take_of_length_le (by rw [flat_len Pull.cells_len, hn]; exact Nat.le_refl _)

set_option maxRecDepth 100000 in
set_option maxHeartbeats 4000000 in
theorem fsums_bad (A B : Option Addr) (n c m d : Nat) (l k : List Pull) (p : Pt) (w : World) (hn : l.length = n) (hm : k.length = m) (hl : n ≤ 9223372036854775807) (hk : m ≤ 9223372036854775807) (hv : Recs Pull.cells 5 w w.heap.size A l) (hu : Recs Pull.cells 5 w w.heap.size B k) (h64 : ∀ u ∈ l, u.In64) (k64 : ∀ u ∈ k, u.In64) (hp : p.In64)
    (hbad : ¬ (Fine l ∧ inB p.x p.y = true) ∨ ((Fine l ∧ inB p.x p.y = true) ∧ ¬ (Fine k ∧ inB p.x p.y = true)) ∨ ((Fine l ∧ inB p.x p.y = true) ∧ (Fine k ∧ inB p.x p.y = true) ∧ 60 < n + m)) :
    Calls Try.prog 5 #[.slice A n c, .slice B m d, p.v] w (Ret w (.bool true)) := by
  have c1 := fun w hv => valid_all A n c l p w hn hl hv h64 hp
  have c2 := fun w hv => valid_all B m d k p w hm hk hv k64 hp
  have x1 := below_alloc w (.cells #[.int .i64 p.x, .int .i64 p.y] 24)
  have x3 := Blk.new w 24 #[.int .i64 p.x, .int .i64 p.y]
  have hx := Lib.hid (show _ ∧ _ from ⟨x1, x3⟩)
  clear x1 x3 h64 k64 hp
  rcases hbad with hb | ⟨hb, h2⟩ | ⟨hb, h2, h3⟩
  · rw [decide_eq_false hb] at c1
    clear hb hn hm
    go_enter Try.func5, Try.ntmps5
    go_wp2_with fail
    obtain ⟨x1, x3⟩ := hx.out
    generalize World.alloc _ _ = w0 at x1 x3 ⊢
    refine (c1 _ ((hv.below x1).more x1.size)).mono ?_
    rintro e w1 ⟨rfl, hb1⟩
    replace x1 := x1.trans (hb1.mono x1.size)
    clear hb1 hx c1 c2 hv hu x3
    go_wp2_with fail
    refine (alive_any _).mono ?_
    rintro e w2 ⟨rfl, hb1⟩
    replace x1 := x1.trans (hb1.mono x1.size)
    clear hb1
    go_wp2_with fail
    go_ret
    exact ret_bool rfl x1
  · rw [decide_eq_true hb] at c1
    rw [decide_eq_false h2] at c2
    clear hb h2 hn hm
    go_enter Try.func5, Try.ntmps5
    go_wp2_with fail
    obtain ⟨x1, x3⟩ := hx.out
    generalize World.alloc _ _ = w0 at x1 x3 ⊢
    refine (c1 _ ((hv.below x1).more x1.size)).mono ?_
    rintro e w1 ⟨rfl, hb1⟩
    replace x1 := x1.trans (hb1.mono x1.size)
    replace x3 := x3.keep hb1
    have y0 := x3.cell (i := 0) rfl
    have y1 := x3.cell (i := 1) rfl
    clear hb1 hx c1 hv
    go_wp2_with fail
    refine (c2 _ ((hu.below x1).more x1.size)).mono ?_
    rintro e w2 ⟨rfl, hb1⟩
    replace x1 := x1.trans (hb1.mono x1.size)
    clear hb1 c2 hu x3 y0 y1
    go_wp2_with fail
    refine (alive_any _).mono ?_
    rintro e w3 ⟨rfl, hb1⟩
    replace x1 := x1.trans (hb1.mono x1.size)
    clear hb1
    go_wp2_with fail
    go_ret
    exact ret_bool rfl x1
  · rw [decide_eq_true hb] at c1
    rw [decide_eq_true h2] at c2
    have hs1 : n ≤ 60 := hn ▸ hb.1.1
    have hs2 : m ≤ 60 := hm ▸ h2.1.1
    clear hb h2 hn hm
    go_enter Try.func5, Try.ntmps5
    go_wp2_with fail
    obtain ⟨x1, x3⟩ := hx.out
    generalize World.alloc _ _ = w0 at x1 x3 ⊢
    refine (c1 _ ((hv.below x1).more x1.size)).mono ?_
    rintro e w1 ⟨rfl, hb1⟩
    replace x1 := x1.trans (hb1.mono x1.size)
    replace x3 := x3.keep hb1
    have y0 := x3.cell (i := 0) rfl
    have y1 := x3.cell (i := 1) rfl
    clear hb1 hx c1 hv
    go_wp2_with fail
    refine (c2 _ ((hu.below x1).more x1.size)).mono ?_
    rintro e w2 ⟨rfl, hb1⟩
    replace x1 := x1.trans (hb1.mono x1.size)
    clear hb1 c2 hu x3 y0 y1
    go_wp2_with fail
    refine (alive_any _).mono ?_
    rintro e w3 ⟨rfl, hb1⟩
    replace x1 := x1.trans (hb1.mono x1.size)
    clear hb1
    go_wp2_with fail
    go_ret
    exact ret_bool rfl x1

set_option maxRecDepth 100000 in
set_option maxHeartbeats 8000000 in
theorem fsums_ok (A B : Option Addr) (n c m d : Nat) (l k : List Pull) (p : Pt) (w : World) (hn : l.length = n) (hm : k.length = m) (hAn : A = none → c = 0) (hBn : B = none → d = 0) (hv : Recs Pull.cells 5 w w.heap.size A l) (hu : Recs Pull.cells 5 w w.heap.size B k) (h64 : ∀ u ∈ l, u.In64) (k64 : ∀ u ∈ k, u.In64) (hp : p.In64)
    (hf : Fine l) (hg : Fine k) (hi : inB p.x p.y = true) (hnm : n + m ≤ 60) :
    Calls Try.prog 5 #[.slice A n c, .slice B m d, p.v] w (Ret w (.bool true)) := by
  have c1 := fun w hv => valid_any A n c l p w hn (by omega) hv h64 hp
  have c2 := fun w hv => valid_any B m d k p w hm (by omega) hv k64 hp
  have c3 := fun w hv => value_any A n c l p w hn (by omega) hv h64 hp
  have c4 := fun w hv => value_any B m d k p w hm (by omega) hv k64 hp
  have c5 := fun E e w hv => value_any E (n + m) e (l ++ k) p w (by rw [List.length_append, hn, hm]) (by omega) hv (fun u hu => by rcases List.mem_append.1 hu with h | h; exact h64 u h; exact k64 u h) hp
  have c6 := fun E e w hv => value_any E (m + n) e (k ++ l) p w (by rw [List.length_append, hn, hm]) (by omega) hv (fun u hu => by rcases List.mem_append.1 hu with h | h; exact k64 u h; exact h64 u h) hp
  rw [decide_eq_true ⟨hf, hi⟩] at c1
  rw [decide_eq_true ⟨hg, hi⟩] at c2
  rw [(valueE_fine hf hi).1, (valueE_fine hf hi).2] at c3
  rw [(valueE_fine hg hi).1, (valueE_fine hg hi).2] at c4
  have hs1 := valueE_fine (fine_append hf hg (by rw [hn, hm]; exact hnm)) hi
  have hs2 := valueE_fine (fine_append hg hf (by rw [hn, hm]; omega)) hi
  rw [hs1.1, hs1.2, valueP_append] at c5
  rw [hs2.1, hs2.2, valueP_append] at c6
  have b1 := valueP_fine hf p
  have b2 := valueP_fine hg p
  obtain ⟨X, hX⟩ : ∃ X, valueP l p = X := ⟨_, rfl⟩
  obtain ⟨Y, hY⟩ : ∃ Y, valueP k p = Y := ⟨_, rfl⟩
  rw [hX] at b1 c3
  rw [hY] at b2 c4
  rw [hX, hY] at c5
  rw [hX, hY, Int.add_comm] at c6
  have x1 := below_alloc w (.cells #[.int .i64 p.x, .int .i64 p.y] 24)
  have x3 := Blk.new w 24 #[.int .i64 p.x, .int .i64 p.y]
  have hx := Lib.hid (show _ ∧ _ from ⟨x1, x3⟩)
  have HN := Lib.hid hn
  have HM := Lib.hid hm
  clear hn hm x1 x3 h64 k64 hp hX hY hs1 hs2 hf hg hi
  go_enter Try.func5, Try.ntmps5
  go_wp2_with fail
  obtain ⟨x1, x3⟩ := hx.out
  generalize World.alloc _ _ = w0 at x1 x3 ⊢
  refine (c1 _ ((hv.below x1).more x1.size)).mono ?_
  rintro e w1 ⟨rfl, hb1⟩
  replace x1 := x1.trans (hb1.mono x1.size)
  replace x3 := x3.keep hb1
  clear hb1 hx c1
  have y0 := x3.cell (i := 0) rfl
  have y1 := x3.cell (i := 1) rfl
  go_wp2_with fail
  refine (c2 _ ((hu.below x1).more x1.size)).mono ?_
  rintro e w2 ⟨rfl, hb1⟩
  replace x1 := x1.trans (hb1.mono x1.size)
  replace x3 := x3.keep hb1
  clear hb1 c2 y0 y1
  have y0 := x3.cell (i := 0) rfl
  have y1 := x3.cell (i := 1) rfl
  go_wp2_with fail
  refine (c3 _ ((hv.below x1).more x1.size)).mono ?_
  rintro e w3 ⟨rfl, hb1⟩
  replace x1 := x1.trans (hb1.mono x1.size)
  replace x3 := x3.keep hb1
  clear hb1 c3 y0 y1
  have y0 := x3.cell (i := 0) rfl
  have y1 := x3.cell (i := 1) rfl
  go_wp2_with fail
  refine (c4 _ ((hu.below x1).more x1.size)).mono ?_
  rintro e w4 ⟨rfl, hb1⟩
  replace x1 := x1.trans (hb1.mono x1.size)
  replace x3 := x3.keep hb1
  replace hv := (hv.below x1).more x1.size
  replace hu := (hu.below x1).more x1.size
  clear hb1 c4 y0 y1
  go_wp2_with fail
  have hvk : ∀ W, Below w4.heap.size w4 W → Recs Pull.cells 5 W W.heap.size A l := fun W hW => (hv.below hW).more hW.size
  have huk : ∀ W, Below w4.heap.size w4 W → Recs Pull.cells 5 W W.heap.size B k := fun W hW => (hu.below hW).more hW.size
  have e0 : ∀ W, Below w4.heap.size w4 W → W.cell? ⟨w.heap.size, 0, none⟩ = some (.int .i64 p.x) := fun W hW => (x3.keep hW).cell rfl
  have e1 : ∀ W, Below w4.heap.size w4 W → W.cell? ⟨w.heap.size, 1, none⟩ = some (.int .i64 p.y) := fun W hW => (x3.keep hW).cell rfl
  obtain ⟨i0, hi0, hz⟩ := Option.map_eq_some_iff.1 Try.infoPull
  simp only [Prod.mk.injEq] at hz
  obtain ⟨hz0, hz1, hz2⟩ := hz
  obtain ⟨F, hF⟩ : ∃ F, (l ++ k).flatMap Pull.cells = F := ⟨_, rfl⟩
  have hf1 : F.take ((0 + n) * 5) = l.flatMap Pull.cells := by rw [← hF, Nat.zero_add]; exact take_flat HN.out
  have hf2 : F.take ((0 + n + m) * 5) = l.flatMap Pull.cells ++ k.flatMap Pull.cells := by rw [Nat.zero_add, ← hF, List.flatMap_append]; exact List.take_of_length_le (by rw [List.length_append, flat_len Pull.cells_len, flat_len Pull.cells_len, HN.out, HM.out]; omega)
  clear hF
  apply wp_region_headR 12 95 (hR := kpRow_keeps w4.heap.size 52 5 F) (hm := by kernel_rfl) (hN := rfl)
  case h =>
    simp only [List.take_succ_cons, List.take_zero]
    apply head_memR [] (fun v W => W.ownsRow w4.heap.size 52 5 v 0 (F.take (0 * 5))) (by kernel_rfl) (fun v W W' h hW => hW.2.2 v 0 h)
    · intro W hW _
      exact gives_empty_row F _ 52 5 hW.2.1 (by go_simp)
    intro v0
    apply head_stillR (kpRow_keeps ..) (by kernel_rfl)
    · intro W hW; go_simp; (try rfl)
    apply head_memR [0] (fun v W => W.ownsRow w4.heap.size 52 5 v (0 + n) (F.take ((0 + n) * 5))) (by kernel_rfl) (fun v W W' h hW => hW.2.2 v (0 + n) h)
    · intro W hW hf
      refine gives_append_row w4.heap.size _ _ _ rfl 52 i0 _ 5 40 Try.underlying22 hi0 hz0 hz1 hz2 rfl (by omega) v0 0 (by go_simp) (hf.1 (by simp)) Pull.cells_len one_cell (by go_simp) hAn HN.out (hvk W hW.1) ?_ (by unfold maxLen; omega) (by omega) hW.2.1
      rw [hf1]; simp
    intro v1
    apply head_stillR (kpRow_keeps ..) (by kernel_rfl)
    · intro W hW; go_simp; (try rfl)
    apply head_memR [2] (fun v W => W.ownsRow w4.heap.size 52 5 v (0 + n + m) (F.take ((0 + n + m) * 5))) (by kernel_rfl) (fun v W W' h hW => hW.2.2 v (0 + n + m) h)
    · intro W hW hf
      refine gives_append_row w4.heap.size _ _ _ rfl 52 i0 _ 5 40 Try.underlying22 hi0 hz0 hz1 hz2 rfl (by omega) v1 (0 + n) (by go_simp) (hf.1 (by simp)) Pull.cells_len one_cell (by go_simp) hBn HM.out (huk W hW.1) ?_ (by unfold maxLen; omega) (by omega) hW.2.1
      rw [hf1, hf2]
    intro v2
    apply head_stillR (kpRow_keeps ..) (by kernel_rfl)
    · intro W hW
      have e0 := e0 W hW.1
      have e1 := e1 W hW.1
      go_simp; (try rfl)
    apply head_knownR [4] (.tuple #[.int .i64 (X + Y), .int .i64 0]) (by kernel_rfl)
    · intro W hW hf
      have ho : W.ownsRow w4.heap.size 52 5 v2 (0 + n + m) (F.take ((0 + n + m) * 5)) := hf.1 (by simp)
      rw [hf2, ← List.flatMap_append, Nat.zero_add] at ho
      obtain ⟨E, e, rfl, -, hr⟩ := Recs.of_own Pull.cells_len (l := l ++ k) (by rw [List.length_append, HN.out, HM.out]) ho
      unfold Gives
      go_simp
      exact (c5 E e W hr).mono fun _ _ h => ⟨_, h.1, rfl, KpRow.of_below h.2 hW.2.1⟩
    iterate 5 (apply head_stillR (kpRow_keeps ..) (by kernel_rfl); (intro W hW; go_simp; (try rfl)))
    refine head_nilR ?_
    intro w5 hW hFF
    replace x1 := x1.trans (hW.1.mono x1.size)
    replace x3 := x3.keep hW.1
    replace hv := (hv.below hW.1).more hW.1.size
    replace hu := (hu.below hW.1).more hW.1.size
    clear hW hFF e0 e1 hvk huk hf1 hf2
    go_wp2_with fail
    have hvk : ∀ W, Below w5.heap.size w5 W → Recs Pull.cells 5 W W.heap.size A l := fun W hW => (hv.below hW).more hW.size
    have huk : ∀ W, Below w5.heap.size w5 W → Recs Pull.cells 5 W W.heap.size B k := fun W hW => (hu.below hW).more hW.size
    have e0 : ∀ W, Below w5.heap.size w5 W → W.cell? ⟨w.heap.size, 0, none⟩ = some (.int .i64 p.x) := fun W hW => (x3.keep hW).cell rfl
    have e1 : ∀ W, Below w5.heap.size w5 W → W.cell? ⟨w.heap.size, 1, none⟩ = some (.int .i64 p.y) := fun W hW => (x3.keep hW).cell rfl
    obtain ⟨F, hF⟩ : ∃ F, (k ++ l).flatMap Pull.cells = F := ⟨_, rfl⟩
    have hf1 : F.take ((0 + m) * 5) = k.flatMap Pull.cells := by rw [← hF, Nat.zero_add]; exact take_flat HM.out
    have hf2 : F.take ((0 + m + n) * 5) = k.flatMap Pull.cells ++ l.flatMap Pull.cells := by rw [Nat.zero_add, ← hF, List.flatMap_append]; exact List.take_of_length_le (by rw [List.length_append, flat_len Pull.cells_len, flat_len Pull.cells_len, HM.out, HN.out]; omega)
    clear hF
    apply wp_region_headR 12 95 (hR := kpRow_keeps w5.heap.size 52 5 F) (hm := by kernel_rfl) (hN := rfl)
    case h =>
      simp only [List.take_succ_cons, List.take_zero]
      apply head_memR [] (fun v W => W.ownsRow w5.heap.size 52 5 v 0 (F.take (0 * 5))) (by kernel_rfl) (fun v W W' h hW => hW.2.2 v 0 h)
      · intro W hW _
        exact gives_empty_row F _ 52 5 hW.2.1 (by go_simp)
      intro v0
      apply head_stillR (kpRow_keeps ..) (by kernel_rfl)
      · intro W hW; go_simp; (try rfl)
      apply head_memR [0] (fun v W => W.ownsRow w5.heap.size 52 5 v (0 + m) (F.take ((0 + m) * 5))) (by kernel_rfl) (fun v W W' h hW => hW.2.2 v (0 + m) h)
      · intro W hW hf
        refine gives_append_row w5.heap.size _ _ _ rfl 52 i0 _ 5 40 Try.underlying22 hi0 hz0 hz1 hz2 rfl (by omega) v0 0 (by go_simp) (hf.1 (by simp)) Pull.cells_len one_cell (by go_simp) hBn HM.out (huk W hW.1) ?_ (by unfold maxLen; omega) (by omega) hW.2.1
        rw [hf1]; simp
      intro v1
      apply head_stillR (kpRow_keeps ..) (by kernel_rfl)
      · intro W hW; go_simp; (try rfl)
      apply head_memR [2] (fun v W => W.ownsRow w5.heap.size 52 5 v (0 + m + n) (F.take ((0 + m + n) * 5))) (by kernel_rfl) (fun v W W' h hW => hW.2.2 v (0 + m + n) h)
      · intro W hW hf
        refine gives_append_row w5.heap.size _ _ _ rfl 52 i0 _ 5 40 Try.underlying22 hi0 hz0 hz1 hz2 rfl (by omega) v1 (0 + m) (by go_simp) (hf.1 (by simp)) Pull.cells_len one_cell (by go_simp) hAn HN.out (hvk W hW.1) ?_ (by unfold maxLen; omega) (by omega) hW.2.1
        rw [hf1, hf2]
      intro v2
      apply head_stillR (kpRow_keeps ..) (by kernel_rfl)
      · intro W hW
        have e0 := e0 W hW.1
        have e1 := e1 W hW.1
        go_simp; (try rfl)
      apply head_knownR [4] (.tuple #[.int .i64 (X + Y), .int .i64 0]) (by kernel_rfl)
      · intro W hW hf
        have ho : W.ownsRow w5.heap.size 52 5 v2 (0 + m + n) (F.take ((0 + m + n) * 5)) := hf.1 (by simp)
        rw [hf2, ← List.flatMap_append, Nat.zero_add] at ho
        obtain ⟨E, e, rfl, -, hr⟩ := Recs.of_own Pull.cells_len (l := k ++ l) (by rw [List.length_append, HM.out, HN.out]) ho
        unfold Gives
        go_simp
        exact (c6 E e W hr).mono fun _ _ h => ⟨_, h.1, rfl, KpRow.of_below h.2 hW.2.1⟩
      iterate 5 (apply head_stillR (kpRow_keeps ..) (by kernel_rfl); (intro W hW; go_simp; (try rfl)))
      refine head_nilR ?_
      intro w6 hW hFF
      replace x1 := x1.trans (hW.1.mono x1.size)
      clear hW hFF e0 e1 hvk huk hf1 hf2
      have wXY : IntKind.i64.wrap (X + Y) = X + Y := by rw [IntKind.wrap_i64]; omega
      go_wp2_with fail
      refine (alive_any _).mono ?_
      rintro e w7 ⟨rfl, hb1⟩
      replace x1 := x1.trans (hb1.mono x1.size)
      clear hb1
      go_wp2_with fail
      go_ret
      exact ret_bool rfl x1
    case hB => kernel_rfl
    all_goals rfl

  case hB => kernel_rfl
  all_goals rfl

theorem fsums_walk (A B : Option Addr) (n c m d : Nat) (l k : List Pull) (p : Pt) (w : World) (hn : l.length = n) (hm : k.length = m) (hl : n ≤ 9223372036854775807) (hk : m ≤ 9223372036854775807) (hAn : A = none → c = 0) (hBn : B = none → d = 0) (hv : Recs Pull.cells 5 w w.heap.size A l) (hu : Recs Pull.cells 5 w w.heap.size B k) (h64 : ∀ u ∈ l, u.In64) (k64 : ∀ u ∈ k, u.In64) (hp : p.In64) :
    Calls Try.prog 5 #[.slice A n c, .slice B m d, p.v] w (Ret w (.bool true)) := by
  by_cases h1 : Fine l ∧ inB p.x p.y = true
  · by_cases h2 : Fine k ∧ inB p.x p.y = true
    · by_cases h3 : n + m ≤ 60
      · exact fsums_ok A B n c m d l k p w hn hm hAn hBn hv hu h64 k64 hp h1.1 h2.1 h1.2 h3
      · exact fsums_bad A B n c m d l k p w hn hm hl hk hv hu h64 k64 hp (.inr (.inr ⟨h1, h2, by omega⟩))
    · exact fsums_bad A B n c m d l k p w hn hm hl hk hv hu h64 k64 hp (.inr (.inl ⟨h1, h2⟩))
  · exact fsums_bad A B n c m d l k p w hn hm hl hk hv hu h64 k64 hp (.inl h1)

open Go.ChangeShapes Go.WideShapes Go.ChangeAt Go.Joins

set_option maxRecDepth 100000 in
theorem fsums_lifted (os : Os) (started : os.Started) (H : Type) (enc : TypeId × Value → H) :
    ReturnsInHanded {} Try.checked os 5 .any (Rows.fieldSumsSpec.pre6 enc Try.prog Try.f5 Rows.fieldSumsRow.domain false) (Rows.fieldSumsSpec.post enc Try.prog Try.f5 false true false false) := by
  refine returnsInHanded_of_change (C := Try.checked) own started (by kernel_rfl) Try.func5
    (ChangeSpec.witness6 (enc := enc) (C := Try.checked) false ⟨#[], #[.slice none 0 0, .slice none 0 0, .agg #[.int .i64 0, .int .i64 0]], []⟩ 8 (by kernel_rfl) (by kernel_rfl) (by kernel_rfl) (by kernel_rfl)) ?_
  intro W base args ds gs before hval0 hW hcnd _
  have hval : ∀ (j : Nat) t v, Try.f5.params[j]? = some t → args[j]? = some v → Value.okWide Try.prog W .any base t v := hval0
  have hW' := hW
  obtain ⟨p, q, hA0, hV, rfl, hfz, hnd⟩ := hW
  have hA : DataW.TrodAll enc Try.prog W 0 (fun _ => true) true Try.f5.params.toList args.toList ds p := hA0
  rw [Try.params5] at hA hval
  obtain ⟨v0, vs0, d0, ds0, p0, q0, hargs, rfl, rfl, h0, r0⟩ := trodAll_cons hA
  obtain ⟨v1, vs1, d1, ds1, p1, q1, rfl, rfl, rfl, h1, r1⟩ := trodAll_cons r0
  obtain ⟨v2, vs2, d2, ds2, p2, q2, rfl, rfl, rfl, h2, r2⟩ := trodAll_cons r1
  obtain ⟨rfl, rfl, rfl⟩ := trodAll_nil r2
  obtain rfl : args = #[v0, v1, v2] := by cases args; simp_all
  obtain ⟨rfl, rfl⟩ := trodVars_none hV
  obtain ⟨A, n, cap, l, rfl, hn, hl0, -, hAn, hvs, h64⟩ := open_field h0 (okWide_slice Try.underlying22 (hval 0 22 v0 rfl rfl))
  obtain ⟨B, m, cap2, k, rfl, hm, hk0, -, hBn, hus, k64⟩ := open_field h1 (okWide_slice Try.underlying22 (hval 1 22 v1 rfl rfl))
  obtain ⟨a, rfl, ha⟩ := open_point (hval 2 24 v2 rfl rfl) h2
  refine (fsums_walk A B n cap m cap2 l k a W hn hm hl0 hk0 hAn hBn hvs hus h64 k64 ha).mono fun e W' ⟨he, hb⟩ => ?_
  exact ⟨_, he, law_post laidOut hW' rfl (by kernel_rfl) rfl Try.underlying4 rfl rfl rfl hb⟩

theorem fsums_holds : Rows.FieldSumsSaid :=
  OpenClaim.holds_of_wide 5 Try.f5 rfl rfl rfl rfl rfl rfl rfl ⟨rfl, rfl, rfl, rfl, rfl⟩ rfl rfl rfl rfl rfl (by kernel_rfl) Try.func5 (by kernel_rfl)
    (of_decide_eq_true (by kernel_rfl)) (by unfold Func.isWrapper; first | (rw [if_pos (by decide +kernel)]; kernel_rfl) | (rw [if_neg (by decide +kernel)]; exact ⟨rfl, rfl⟩))
    (fun os started H enc _ => fsums_lifted os started H enc)
#print axioms fsums_holds
end Go.Proofs.Ytmomjjjfjjgepaa
