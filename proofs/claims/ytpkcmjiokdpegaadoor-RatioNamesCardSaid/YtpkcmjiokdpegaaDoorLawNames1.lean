/- The law 'RatioNames': it returns true. Condition: the library's three tables are laid. -/
import Derived.ChangeMaps5
import Derived.Laws.MakeOwn
import Derived.Test.YtpkcmjiokdpegaaDoorRatCard
import Derived.Test.YtpkcmjiokdpegaaDoorRatFit
import Derived.Test.YtpkcmjiokdpegaaDoorRatW
import Derived.Test.YtpkcmjiokdpegaaDoorRatH
namespace Go.Rel
open Go.RowKit
theorem made_zero (n j : Nat) (h : j < n) : (madeCells #[.int .i64 0, .int .i64 0] n)[j]? = some (.int .i64 0) := by
  unfold madeCells
  rw [Array.getElem?_map, Array.getElem?_range, if_pos h]
  have : j % 2 = 0 ∨ j % 2 = 1 := by omega
  rcases this with e | e <;> simp [e]
theorem zeros_rats (W : World) (CS : Array Value) (t : TypeId) (n : Nat) (h : ∀ j, j < 2 * n → CS[j]? = some (.int .i64 0)) :
    Rats (W.alloc (.cells CS t)) (W.alloc (.cells CS t)).heap.size (some ⟨W.heap.size, 0, none⟩) (List.replicate n ⟨0, 0⟩) := fun _ =>
  ⟨W.heap.size, 0, rfl, by simp, fun i v hi => by
    have hin : i < n := by
      have := (List.getElem?_eq_some_iff.1 hi).1
      simpa using this
    have hv : v = ⟨0, 0⟩ := by
      rw [List.getElem?_replicate, if_pos hin] at hi
      exact (Option.some.inj hi).symm
    subst hv
    rw [Nat.zero_add]
    exact ⟨cell_new W CS t (h _ (by omega)), cell_new W CS t (h _ (by omega))⟩⟩
theorem bad_form {s : Bs} (h : ¬ parseOk s) : parseE s = 12 := if_neg h
theorem itoa_one : Lib.itoa 1 = [49] := by simp [Lib.itoa, Lib.decDigits]
theorem itoa_zero : Lib.itoa 0 = [48] := by simp [Lib.itoa, Lib.decDigits]
theorem forms_bad : ∀ x ∈ ([[], [45], [47], [49, 47], [47, 50], [50, 47, 52], [49, 47, 49], [48, 49], [45, 48], [48, 47, 50], [49, 47, 48], [49, 47, 45, 50], [43, 49], [49, 48, 48, 48, 48, 48, 48, 48, 48, 49], [49, 47, 49, 48, 48, 48, 48, 48, 48, 48, 48, 49], [49, 32], [49, 50, 51, 52, 53, 54, 55, 56, 57, 48, 49]] : List Bs), parseE x = 12 := by
  intro x hx
  simp only [List.mem_cons, List.not_mem_nil, or_false] at hx
  rcases hx with rfl | rfl | rfl | rfl | rfl | rfl | rfl | rfl | rfl | rfl | rfl | rfl | rfl | rfl | rfl | rfl | rfl <;> refine bad_form (fun h => ?_)
  · exact absurd h.1 (by decide +kernel)
  · exact absurd h.1 (by decide +kernel)
  · exact absurd h.1 (by decide +kernel)
  · exact absurd h.2.1 (by decide +kernel)
  · exact absurd h.1 (by decide +kernel)
  · exact absurd h.2.2.1 (by decide +kernel)
  · have h4 := h.2.2.2
    rw [show outP [49, 47, 49] = ⟨1, 1⟩ by decide +kernel] at h4
    unfold textL at h4
    simp [itoa_one] at h4
  · exact absurd h.1 (by decide +kernel)
  · have h4 := h.2.2.2
    rw [show outP [45, 48] = ⟨0, 1⟩ by decide +kernel] at h4
    unfold textL at h4
    simp [itoa_zero] at h4
  · exact absurd h.2.2.1 (by decide +kernel)
  · exact absurd h.2.2.1 (by decide +kernel)
  · exact absurd h.2.1 (by decide +kernel)
  · exact absurd h.1 (by decide +kernel)
  · exact absurd h.2.2.1 (by decide +kernel)
  · exact absurd h.2.2.1 (by decide +kernel)
  · exact absurd h.1 (by decide +kernel)
  · exact absurd h.1 (by decide +kernel)
theorem text_p : textL ⟨-1000000000, 999999999⟩ = [45, 49, 48, 48, 48, 48, 48, 48, 48, 48, 48, 47, 57, 57, 57, 57, 57, 57, 57, 57, 57] := by
  unfold textL
  have e1 : Lib.itoa (-1000000000) = [45, 49, 48, 48, 48, 48, 48, 48, 48, 48, 48] := by simp [Lib.itoa, Lib.decDigits]
  have e2 : Lib.itoa 999999999 = [57, 57, 57, 57, 57, 57, 57, 57, 57] := by simp [Lib.itoa, Lib.decDigits]
  simp [e1, e2]
/-- A string in a slice: one cell. -/
def Strs (w : World) (g : Nat) (l : List Bs) : Prop := ∀ (i : Nat) (v : Bs), l[i]? = some v → w.cell? ⟨g, i, none⟩ = some (.string (str v))
theorem strs_new (w : World) (l : List Bs) (t : TypeId) : Strs (w.alloc (.cells (l.map (fun x => Value.string (str x))).toArray t)) w.heap.size l := fun i v hi => by
  refine cell_new w _ t ?_
  rw [List.getElem?_toArray, List.getElem?_map, hi]
  rfl
theorem Strs.below {w w' : World} {g B : Nat} {l : List Bs} (h : Strs w g l) (hb : Below B w w') (hg : g < B) : Strs w' g l := fun i v hi => (hb.cell (p := ⟨g, i, none⟩) hg).trans (h i v hi)
end Go.Rel
namespace Go.Proofs.YtpkcmjiokdpegaaDoor
open Go.RowKit Go.Rel
theorem Tryd.infoRat1 : (Tryd.prog.info? 23).map (fun i => (i.zero, i.size, i.bytes)) = some (some (.agg #[.int .i64 0, .int .i64 0]), 2, 16) := by kernel_rfl
theorem make_slice (n : Nat) (hn : n ≤ 1000) : ∃ CS : Array Value, (∀ W : World, (Instr.makeSlice 30 (.int .i64 n) (.int .i64 n)).run Tryd.prog W = .ok (.slice (some ⟨W.heap.size, 0, none⟩) n n) (W.alloc (.cells CS 23))) ∧ ∀ j, j < 2 * n → CS[j]? = some (.int .i64 0) := by
  obtain ⟨i0, hi0, hz0, hz1, hz2⟩ := info_parts Tryd.infoRat1
  refine ⟨madeCells #[.int .i64 0, .int .i64 0] (n * 2), fun W => ?_, fun j hj => made_zero _ _ (by omega)⟩
  have := run_makeSlice W 30 23 i0 _ Tryd.underlying30 hi0 hz0 .i64 .i64 n n (by omega) (by omega) (by rw [hz1]; omega) (by rw [hz2]; omega) (by omega)
  rw [hz1] at this
  simp only [Int.toNat_natCast] at this
  exact this

attribute [local irreducible] Go.Rel.Gives in
set_option maxRecDepth 100000 in
set_option maxHeartbeats 16000000 in
theorem rnames_walk (w : World) (ht : Tab w) : Calls Tryd.prog 9 #[] w (Ret w (.bool true)) := by
  obtain ⟨C1, m1, m1'⟩ := make_slice 201 (by decide)
  obtain ⟨C2, m2, m2'⟩ := make_slice 200 (by decide)
  have c1 := fun W => make_any (1) (0) W (by decide) (by decide) (by decide) (by decide)
  rw [show makeR (1) (0) = ⟨0, 0⟩ by decide +kernel, show makeE (1) (0) = 18 by decide +kernel] at c1
  have c2 := fun W => make_any (1) (1000000001) W (by decide) (by decide) (by decide) (by decide)
  rw [show makeR (1) (1000000001) = ⟨0, 0⟩ by decide +kernel, show makeE (1) (1000000001) = 16 by decide +kernel] at c2
  have c3 := fun W => make_any (-9223372036854775808) (-9223372036854775808) W (by decide) (by decide) (by decide) (by decide)
  rw [show makeR (-9223372036854775808) (-9223372036854775808) = ⟨1, 1⟩ by decide +kernel, show makeE (-9223372036854775808) (-9223372036854775808) = 0 by decide +kernel] at c3
  have c4 := fun W => make_any (-9223372036854775808) (4611686018427387904) W (by decide) (by decide) (by decide) (by decide)
  rw [show makeR (-9223372036854775808) (4611686018427387904) = ⟨-2, 1⟩ by decide +kernel, show makeE (-9223372036854775808) (4611686018427387904) = 0 by decide +kernel] at c4
  have c5 := fun W => make_any (-9223372036854775808) (1) W (by decide) (by decide) (by decide) (by decide)
  rw [show makeR (-9223372036854775808) (1) = ⟨0, 0⟩ by decide +kernel, show makeE (-9223372036854775808) (1) = 16 by decide +kernel] at c5
  have c6 := fun W => opDiv_any ⟨1, 2⟩ ⟨0, 1⟩ W (by unfold Rat64; decide) (by unfold Rat64; decide)
  rw [show opDivE ⟨1, 2⟩ ⟨0, 1⟩ = 18 by decide +kernel] at c6
  have c7 := fun W => opAdd_any ⟨1, 2⟩ ⟨2, 4⟩ W (by unfold Rat64; decide) (by unfold Rat64; decide)
  rw [show opAddE ⟨1, 2⟩ ⟨2, 4⟩ = 8 by decide +kernel] at c7
  have c8 := fun W => opAdd_any ⟨1000000000, 1⟩ ⟨1, 1⟩ W (by unfold Rat64; decide) (by unfold Rat64; decide)
  rw [show opAddE ⟨1000000000, 1⟩ ⟨1, 1⟩ = 16 by decide +kernel] at c8
  generalize opDivR ⟨1, 2⟩ ⟨0, 1⟩ = o6 at *
  generalize opAddR ⟨1, 2⟩ ⟨2, 4⟩ = o7 at *
  generalize opAddR ⟨1000000000, 1⟩ ⟨1, 1⟩ = o8 at *
  obtain ⟨o61, o62⟩ := o6
  obtain ⟨o71, o72⟩ := o7
  obtain ⟨o81, o82⟩ := o8
  have hz64 : ∀ n, ∀ a ∈ List.replicate n (⟨0, 0⟩ : Rat2), Rat64 a := fun n a ha => by rw [List.eq_of_mem_replicate ha]; unfold Rat64; decide
  have s1 : sumE (List.replicate 201 ⟨0, 0⟩) = 4 ∧ sumR (List.replicate 201 ⟨0, 0⟩) = ⟨0, 0⟩ := by decide +kernel
  have s2 : sumE (List.replicate 200 ⟨0, 0⟩) = 8 ∧ sumR (List.replicate 200 ⟨0, 0⟩) = ⟨0, 0⟩ := by decide +kernel
  have s3 : sumE [] = 0 ∧ sumR [] = ⟨0, 1⟩ := by decide +kernel
  have d1 := fun (g : Nat) W hv => sum_any (some ⟨g, 0, none⟩) 201 201 (List.replicate 201 ⟨0, 0⟩) W (by simp) (by decide) hv (hz64 _)
  have d2 := fun (g : Nat) W hv => sum_any (some ⟨g, 0, none⟩) 200 200 (List.replicate 200 ⟨0, 0⟩) W (by simp) (by decide) hv (hz64 _)
  have d3 := fun W => sum_any none 0 0 [] W rfl (by decide) (fun h => by simp at h) (by simp)
  rw [s1.1, s1.2] at d1
  rw [s2.1, s2.2] at d2
  rw [s3.1, s3.2] at d3
  have po := parse_text (a := ⟨-1000000000, 999999999⟩) (by unfold RatOk; decide +kernel)
  have e1 := fun W ht => parse_any (str [45, 49, 48, 48, 48, 48, 48, 48, 48, 48, 48, 47, 57, 57, 57, 57, 57, 57, 57, 57, 57]) W (by decide) ht
  rw [str_list, ← text_p, show parseR (textL ⟨-1000000000, 999999999⟩) = ⟨-1000000000, 999999999⟩ by unfold parseR; rw [if_pos po.1, po.2], show parseE (textL ⟨-1000000000, 999999999⟩) = 0 from if_pos po.1, text_p] at e1
  have e2 := fun W => ratCheck_any ⟨0, 2⟩ W (by decide) (by decide) (by decide) (by decide)
  rw [show ratE ⟨0, 2⟩ = 8 by decide +kernel] at e2
  have e3 := fun W => ratCheck_any ⟨0, 1⟩ W (by decide) (by decide) (by decide) (by decide)
  rw [show ratE ⟨0, 1⟩ = 0 by decide +kernel] at e3
  have hfo := forms_bad
  have hfl : ∀ x ∈ ([[], [45], [47], [49, 47], [47, 50], [50, 47, 52], [49, 47, 49], [48, 49], [45, 48], [48, 47, 50], [49, 47, 48], [49, 47, 45, 50], [43, 49], [49, 48, 48, 48, 48, 48, 48, 48, 48, 49], [49, 47, 49, 48, 48, 48, 48, 48, 48, 48, 48, 49], [49, 32], [49, 50, 51, 52, 53, 54, 55, 56, 57, 48, 49]] : List Bs), x.length ≤ 100000 := by decide
  have e4 := fun x W (hx : x ∈ ([[], [45], [47], [49, 47], [47, 50], [50, 47, 52], [49, 47, 49], [48, 49], [45, 48], [48, 47, 50], [49, 47, 48], [49, 47, 45, 50], [43, 49], [49, 48, 48, 48, 48, 48, 48, 48, 48, 49], [49, 47, 49, 48, 48, 48, 48, 48, 48, 48, 48, 49], [49, 32], [49, 50, 51, 52, 53, 54, 55, 56, 57, 48, 49]] : List Bs)) ht => parse_any (str x) W (by rw [str_size]; exact hfl x hx) ht
  obtain ⟨FS, hFS⟩ : ∃ FS : List Bs, FS = [[], [45], [47], [49, 47], [47, 50], [50, 47, 52], [49, 47, 49], [48, 49], [45, 48], [48, 47, 50], [49, 47, 48], [49, 47, 45, 50], [43, 49], [49, 48, 48, 48, 48, 48, 48, 48, 48, 49], [49, 47, 49, 48, 48, 48, 48, 48, 48, 48, 48, 49], [49, 32], [49, 50, 51, 52, 53, 54, 55, 56, 57, 48, 49]] := ⟨_, rfl⟩
  rw [← hFS] at hfo hfl e4
  have HFS := Lib.hid hFS
  have HFO := Lib.hid hfo
  have E4 := Lib.hid e4
  have M1 := Lib.hid m1
  have M2 := Lib.hid m2
  have N1 := Lib.hid m1'
  have N2 := Lib.hid m2'
  have Q1 := Lib.hid c1
  have Q2 := Lib.hid c2
  have Q3 := Lib.hid c3
  have Q4 := Lib.hid c4
  have Q5 := Lib.hid c5
  have Q6 := Lib.hid c6
  have Q7 := Lib.hid c7
  have Q8 := Lib.hid c8
  have D1 := Lib.hid d1
  have D2 := Lib.hid d2
  have D3 := Lib.hid d3
  have E1 := Lib.hid e1
  have E2 := Lib.hid e2
  have E3 := Lib.hid e3
  clear m1 m2 m1' m2' c1 c2 c3 c4 c5 c6 c7 c8 d1 d2 d3 e1 e2 e3 e4 s1 s2 s3 po hfo hfl hFS hz64
  have hb := Below.refl w.heap.size w
  go_enter Tryd.func9, Tryd.ntmps9
  go_wp2_with fail
  refine (Q1.out _).mono ?_
  rintro e w1 ⟨rfl, hx⟩
  replace ht := ht.keep hx
  replace hb := hb.trans (hx.mono hb.size)
  clear hx
  have hx := below_alloc w1 (.cells #[.int .i64 0, .int .i64 0] 23)
  replace ht := ht.keep hx
  replace hb := hb.trans (hx.mono hb.size)
  clear hx
  go_wp2_with fail
  generalize w1.heap.size = g2 at  ⊢
  generalize World.alloc w1 _ = w2 at hb ht ⊢
  refine (Q2.out _).mono ?_
  rintro e w3 ⟨rfl, hx⟩
  replace ht := ht.keep hx
  replace hb := hb.trans (hx.mono hb.size)
  clear hx
  have hx := below_alloc w3 (.cells #[.int .i64 0, .int .i64 0] 23)
  replace ht := ht.keep hx
  replace hb := hb.trans (hx.mono hb.size)
  clear hx
  go_wp2_with fail
  generalize w3.heap.size = g4 at  ⊢
  generalize World.alloc w3 _ = w4 at hb ht ⊢
  refine (Q3.out _).mono ?_
  rintro e w5 ⟨rfl, hx⟩
  replace ht := ht.keep hx
  replace hb := hb.trans (hx.mono hb.size)
  clear hx
  have hx := below_alloc w5 (.cells #[.int .i64 1, .int .i64 1] 23)
  have kX := Blk.new w5 23 #[.int .i64 1, .int .i64 1]
  replace ht := ht.keep hx
  replace hb := hb.trans (hx.mono hb.size)
  clear hx
  go_wp2_with fail
  generalize w5.heap.size = g6 at kX ⊢
  generalize World.alloc w5 _ = w6 at kX hb ht ⊢
  refine (Q4.out _).mono ?_
  rintro e w7 ⟨rfl, hx⟩
  replace ht := ht.keep hx
  replace kX := kX.keep hx
  replace hb := hb.trans (hx.mono hb.size)
  clear hx
  have hx := below_alloc w7 (.cells #[.int .i64 (-2), .int .i64 1] 23)
  have kY := Blk.new w7 23 #[.int .i64 (-2), .int .i64 1]
  replace ht := ht.keep hx
  replace kX := kX.keep hx
  replace hb := hb.trans (hx.mono hb.size)
  clear hx
  go_wp2_with fail
  generalize w7.heap.size = g8 at kY ⊢
  generalize World.alloc w7 _ = w8 at kX kY hb ht ⊢
  refine (Q5.out _).mono ?_
  rintro e w9 ⟨rfl, hx⟩
  replace ht := ht.keep hx
  replace kX := kX.keep hx
  replace kY := kY.keep hx
  replace hb := hb.trans (hx.mono hb.size)
  clear hx
  have hx := below_alloc w9 (.cells #[.int .i64 0, .int .i64 0] 23)
  replace ht := ht.keep hx
  replace kX := kX.keep hx
  replace kY := kY.keep hx
  replace hb := hb.trans (hx.mono hb.size)
  clear hx
  go_wp2_with fail
  generalize w9.heap.size = g10 at  ⊢
  generalize World.alloc w9 _ = w10 at kX kY hb ht ⊢
  refine (part_any _ _ _).mono ?_
  rintro e w11 ⟨rfl, hx⟩
  replace ht := ht.keep hx
  replace kX := kX.keep hx
  replace kY := kY.keep hx
  replace hb := hb.trans (hx.mono hb.size)
  clear hx
  go_wp2_with fail
  refine (part_any _ _ _).mono ?_
  rintro e w12 ⟨rfl, hx⟩
  replace ht := ht.keep hx
  replace kX := kX.keep hx
  replace kY := kY.keep hx
  replace hb := hb.trans (hx.mono hb.size)
  clear hx
  go_wp2_with fail
  refine (Q6.out _).mono ?_
  rintro e w13 ⟨rfl, hx⟩
  replace ht := ht.keep hx
  replace kX := kX.keep hx
  replace kY := kY.keep hx
  replace hb := hb.trans (hx.mono hb.size)
  clear hx
  have hx := below_alloc w13 (.cells #[.int .i64 o61, .int .i64 o62] 23)
  replace ht := ht.keep hx
  replace kX := kX.keep hx
  replace kY := kY.keep hx
  replace hb := hb.trans (hx.mono hb.size)
  clear hx
  go_wp2_with fail
  generalize w13.heap.size = g14 at  ⊢
  generalize World.alloc w13 _ = w14 at kX kY hb ht ⊢
  refine (part_any _ _ _).mono ?_
  rintro e w15 ⟨rfl, hx⟩
  replace ht := ht.keep hx
  replace kX := kX.keep hx
  replace kY := kY.keep hx
  replace hb := hb.trans (hx.mono hb.size)
  clear hx
  go_wp2_with fail
  refine (part_any _ _ _).mono ?_
  rintro e w16 ⟨rfl, hx⟩
  replace ht := ht.keep hx
  replace kX := kX.keep hx
  replace kY := kY.keep hx
  replace hb := hb.trans (hx.mono hb.size)
  clear hx
  go_wp2_with fail
  refine (Q7.out _).mono ?_
  rintro e w17 ⟨rfl, hx⟩
  replace ht := ht.keep hx
  replace kX := kX.keep hx
  replace kY := kY.keep hx
  replace hb := hb.trans (hx.mono hb.size)
  clear hx
  have hx := below_alloc w17 (.cells #[.int .i64 o71, .int .i64 o72] 23)
  replace ht := ht.keep hx
  replace kX := kX.keep hx
  replace kY := kY.keep hx
  replace hb := hb.trans (hx.mono hb.size)
  clear hx
  go_wp2_with fail
  generalize w17.heap.size = g18 at  ⊢
  generalize World.alloc w17 _ = w18 at kX kY hb ht ⊢
  refine (part_any _ _ _).mono ?_
  rintro e w19 ⟨rfl, hx⟩
  replace ht := ht.keep hx
  replace kX := kX.keep hx
  replace kY := kY.keep hx
  replace hb := hb.trans (hx.mono hb.size)
  clear hx
  go_wp2_with fail
  refine (part_any _ _ _).mono ?_
  rintro e w20 ⟨rfl, hx⟩
  replace ht := ht.keep hx
  replace kX := kX.keep hx
  replace kY := kY.keep hx
  replace hb := hb.trans (hx.mono hb.size)
  clear hx
  go_wp2_with fail
  refine (Q8.out _).mono ?_
  rintro e w21 ⟨rfl, hx⟩
  replace ht := ht.keep hx
  replace kX := kX.keep hx
  replace kY := kY.keep hx
  replace hb := hb.trans (hx.mono hb.size)
  clear hx
  have hx := below_alloc w21 (.cells #[.int .i64 o81, .int .i64 o82] 23)
  replace ht := ht.keep hx
  replace kX := kX.keep hx
  replace kY := kY.keep hx
  replace hb := hb.trans (hx.mono hb.size)
  clear hx
  have hx := below_alloc (World.alloc w21 (.cells #[.int .i64 o81, .int .i64 o82] 23)) (.cells C1 23)
  replace ht := ht.keep hx
  replace kX := kX.keep hx
  replace kY := kY.keep hx
  replace hb := hb.trans (hx.mono hb.size)
  clear hx
  have hv := zeros_rats (World.alloc w21 (.cells #[.int .i64 o81, .int .i64 o82] 23)) C1 23 201 N1.out
  have hmk : ∀ W : World, (Instr.makeSlice 30 (.int .i64 201) (.int .i64 201)).run Tryd.prog W = .ok (.slice (some ⟨W.heap.size, 0, none⟩) 201 201) (W.alloc (.cells C1 23)) := M1.out
  go_wp2_with fail
  clear hmk
  rw [World.size_alloc w21] at hv
  generalize World.alloc (World.alloc w21 _) _ = w22 at kX kY hb ht hv ⊢
  generalize w21.heap.size + 1 = g22 at hv ⊢
  refine (D1.out _ _ hv).mono ?_
  rintro e w23 ⟨rfl, hx⟩
  replace ht := ht.keep hx
  replace kX := kX.keep hx
  replace kY := kY.keep hx
  replace hb := hb.trans (hx.mono hb.size)
  clear hx hv
  have hx := below_alloc w23 (.cells #[.int .i64 0, .int .i64 0] 23)
  replace ht := ht.keep hx
  replace kX := kX.keep hx
  replace kY := kY.keep hx
  replace hb := hb.trans (hx.mono hb.size)
  clear hx
  have hx := below_alloc (World.alloc w23 (.cells #[.int .i64 0, .int .i64 0] 23)) (.cells C2 23)
  replace ht := ht.keep hx
  replace kX := kX.keep hx
  replace kY := kY.keep hx
  replace hb := hb.trans (hx.mono hb.size)
  clear hx
  have hv := zeros_rats (World.alloc w23 (.cells #[.int .i64 0, .int .i64 0] 23)) C2 23 200 N2.out
  have hmk : ∀ W : World, (Instr.makeSlice 30 (.int .i64 200) (.int .i64 200)).run Tryd.prog W = .ok (.slice (some ⟨W.heap.size, 0, none⟩) 200 200) (W.alloc (.cells C2 23)) := M2.out
  go_wp2_with fail
  clear hmk
  rw [World.size_alloc w23] at hv
  generalize World.alloc (World.alloc w23 _) _ = w24 at kX kY hb ht hv ⊢
  generalize w23.heap.size + 1 = g24 at hv ⊢
  refine (D2.out _ _ hv).mono ?_
  rintro e w25 ⟨rfl, hx⟩
  replace ht := ht.keep hx
  replace kX := kX.keep hx
  replace kY := kY.keep hx
  replace hb := hb.trans (hx.mono hb.size)
  clear hx hv
  have hx := below_alloc w25 (.cells #[.int .i64 0, .int .i64 0] 23)
  replace ht := ht.keep hx
  replace kX := kX.keep hx
  replace kY := kY.keep hx
  replace hb := hb.trans (hx.mono hb.size)
  clear hx
  go_wp2_with fail
  generalize World.alloc w25 _ = w26 at kX kY hb ht ⊢
  refine (D3.out _).mono ?_
  rintro e w27 ⟨rfl, hx⟩
  replace ht := ht.keep hx
  replace kX := kX.keep hx
  replace kY := kY.keep hx
  replace hb := hb.trans (hx.mono hb.size)
  clear hx
  have kZ := Blk.new w27 23 #[.int .i64 0, .int .i64 1]
  have hx := below_alloc w27 (.cells #[.int .i64 0, .int .i64 1] 23)
  replace ht := ht.keep hx
  replace kX := kX.keep hx
  replace kY := kY.keep hx
  replace hb := hb.trans (hx.mono hb.size)
  clear hx
  have hx := below_alloc (World.alloc w27 (.cells #[.int .i64 0, .int .i64 1] 23)) (.cells #[.string ⟨#[]⟩, .string ⟨#[45]⟩, .string ⟨#[47]⟩, .string ⟨#[49, 47]⟩, .string ⟨#[47, 50]⟩, .string ⟨#[50, 47, 52]⟩, .string ⟨#[49, 47, 49]⟩, .string ⟨#[48, 49]⟩, .string ⟨#[45, 48]⟩, .string ⟨#[48, 47, 50]⟩, .string ⟨#[49, 47, 48]⟩, .string ⟨#[49, 47, 45, 50]⟩, .string ⟨#[43, 49]⟩, .string ⟨#[49, 48, 48, 48, 48, 48, 48, 48, 48, 49]⟩, .string ⟨#[49, 47, 49, 48, 48, 48, 48, 48, 48, 48, 48, 49]⟩, .string ⟨#[49, 32]⟩, .string ⟨#[49, 50, 51, 52, 53, 54, 55, 56, 57, 48, 49]⟩] 9)
  replace ht := ht.keep hx
  replace kX := kX.keep hx
  replace kY := kY.keep hx
  replace kZ := kZ.keep hx
  replace hb := hb.trans (hx.mono hb.size)
  clear hx
  have hfs : Strs (World.alloc (World.alloc w27 (.cells #[.int .i64 0, .int .i64 1] 23)) (.cells #[.string ⟨#[]⟩, .string ⟨#[45]⟩, .string ⟨#[47]⟩, .string ⟨#[49, 47]⟩, .string ⟨#[47, 50]⟩, .string ⟨#[50, 47, 52]⟩, .string ⟨#[49, 47, 49]⟩, .string ⟨#[48, 49]⟩, .string ⟨#[45, 48]⟩, .string ⟨#[48, 47, 50]⟩, .string ⟨#[49, 47, 48]⟩, .string ⟨#[49, 47, 45, 50]⟩, .string ⟨#[43, 49]⟩, .string ⟨#[49, 48, 48, 48, 48, 48, 48, 48, 48, 49]⟩, .string ⟨#[49, 47, 49, 48, 48, 48, 48, 48, 48, 48, 48, 49]⟩, .string ⟨#[49, 32]⟩, .string ⟨#[49, 50, 51, 52, 53, 54, 55, 56, 57, 48, 49]⟩] 9)) (World.alloc w27 (.cells #[.int .i64 0, .int .i64 1] 23)).heap.size [[], [45], [47], [49, 47], [47, 50], [50, 47, 52], [49, 47, 49], [48, 49], [45, 48], [48, 47, 50], [49, 47, 48], [49, 47, 45, 50], [43, 49], [49, 48, 48, 48, 48, 48, 48, 48, 48, 49], [49, 47, 49, 48, 48, 48, 48, 48, 48, 48, 48, 49], [49, 32], [49, 50, 51, 52, 53, 54, 55, 56, 57, 48, 49]] := strs_new _ [[], [45], [47], [49, 47], [47, 50], [50, 47, 52], [49, 47, 49], [48, 49], [45, 48], [48, 47, 50], [49, 47, 48], [49, 47, 45, 50], [43, 49], [49, 48, 48, 48, 48, 48, 48, 48, 48, 49], [49, 47, 49, 48, 48, 48, 48, 48, 48, 48, 48, 49], [49, 32], [49, 50, 51, 52, 53, 54, 55, 56, 57, 48, 49]] _
  go_wp2_with fail
  rw [World.size_alloc w27] at hfs
  have hg : w27.heap.size + 1 < (World.alloc (World.alloc w27 (.cells #[.int .i64 0, .int .i64 1] 23)) (.cells #[.string ⟨#[]⟩, .string ⟨#[45]⟩, .string ⟨#[47]⟩, .string ⟨#[49, 47]⟩, .string ⟨#[47, 50]⟩, .string ⟨#[50, 47, 52]⟩, .string ⟨#[49, 47, 49]⟩, .string ⟨#[48, 49]⟩, .string ⟨#[45, 48]⟩, .string ⟨#[48, 47, 50]⟩, .string ⟨#[49, 47, 48]⟩, .string ⟨#[49, 47, 45, 50]⟩, .string ⟨#[43, 49]⟩, .string ⟨#[49, 48, 48, 48, 48, 48, 48, 48, 48, 49]⟩, .string ⟨#[49, 47, 49, 48, 48, 48, 48, 48, 48, 48, 48, 49]⟩, .string ⟨#[49, 32]⟩, .string ⟨#[49, 50, 51, 52, 53, 54, 55, 56, 57, 48, 49]⟩] 9)).heap.size := by rw [World.size_alloc, World.size_alloc]; omega
  rw [← HFS.out] at hfs
  have hn : FS.length = 17 := by rw [HFS.out]; rfl
  generalize World.alloc (World.alloc w27 _) _ = w28 at kX kY kZ hb ht hfs hg ⊢
  generalize w27.heap.size + 1 = g28 at hfs hg ⊢
  generalize w27.heap.size = g27 at kZ ⊢
  have hmx : ∀ k, k < 17 → ∃ x, FS[k]? = some x ∧ x ∈ FS := fun k hk => ⟨FS[k], List.getElem?_eq_getElem _, List.getElem_mem _⟩
  go_loopw [24] (fun i wr => ∃ k : Nat, k ≤ 17 ∧ i = .int .i64 k ∧ Below w28.heap.size w28 wr) (fun i _ => 17 - (intOf i).toNat)
  case atStart => exact ⟨0, by omega, rfl, Below.refl _ _⟩
  case round =>
    obtain ⟨k, hk, rfl, hb2⟩ := hrel
    by_cases hlt : k < 17
    · obtain ⟨x, hx0, hx1⟩ := hmx k hlt
      have hcell := hfs.below hb2 hg k x hx0
      have hcall := E4.out x wr hx1 (ht.keep hb2)
      rw [str_list, HFO.out x hx1] at hcall
      have hk1 : (k : Int) < 17 := by omega
      have hk0 : (0 : Int) ≤ k := by omega
      generalize parseR x = pr at hcall
      obtain ⟨pn, pd⟩ := pr
      clear hx0 hx1 HFS HFO E4 hmx ht hfs kX kY kZ M1 M2 N1 N2 Q1 Q2 Q3 Q4 Q5 Q6 Q7 Q8 D1 D2 D3 E1 E2 E3
      go_wp2_with fail
      refine hcall.mono ?_
      rintro e w29 ⟨rfl, hx⟩
      replace hb2 := hb2.trans (hx.mono hb2.size)
      clear hx hcall hcell
      have hx := below_alloc w29 (.cells #[.int .i64 pn, .int .i64 pd] 23)
      replace hb2 := hb2.trans (hx.mono hb2.size)
      clear hx
      go_wp2_with fail
      go_roundw
      case rel => exact ⟨k + 1, by omega, by go_num, hb2⟩
      case measure => simp [intOf]; omega
    · obtain rfl : k = 17 := by omega
      clear HFS HFO E4 hmx M1 M2 N1 N2 Q1 Q2 Q3 Q4 Q5 Q6 Q7 Q8 D1 D2 D3
      replace ht := ht.keep hb2
      replace kX := kX.keep hb2
      replace kY := kY.keep hb2
      replace kZ := kZ.keep hb2
      replace hb := hb.trans (hb2.mono hb.size)
      clear hfs hg hn
      go_wp2_with fail
      refine (E1.out _ ht).mono ?_
      rintro e w31 ⟨rfl, hx⟩
      replace ht := ht.keep hx
      replace kX := kX.keep hx
      replace kY := kY.keep hx
      replace kZ := kZ.keep hx
      replace hb := hb.trans (hx.mono hb.size)
      clear hx
      have kP := Blk.new w31 23 #[.int .i64 (-1000000000), .int .i64 999999999]
      have hx := below_alloc w31 (.cells #[.int .i64 (-1000000000), .int .i64 999999999] 23)
      replace ht := ht.keep hx
      replace kX := kX.keep hx
      replace kY := kY.keep hx
      replace kZ := kZ.keep hx
      replace hb := hb.trans (hx.mono hb.size)
      clear hx
      go_wp2_with fail
      generalize w31.heap.size = g32 at kP ⊢
      generalize World.alloc w31 _ = w32 at kX kY kZ kP hb ht ⊢
      have kX_0 := fun W (hW : Below w32.heap.size w32 W) => (kX.keep hW).cell (i := 0) rfl
      have kX_1 := fun W (hW : Below w32.heap.size w32 W) => (kX.keep hW).cell (i := 1) rfl
      have kY_0 := fun W (hW : Below w32.heap.size w32 W) => (kY.keep hW).cell (i := 0) rfl
      have kY_1 := fun W (hW : Below w32.heap.size w32 W) => (kY.keep hW).cell (i := 1) rfl
      have kZ_0 := fun W (hW : Below w32.heap.size w32 W) => (kZ.keep hW).cell (i := 0) rfl
      have kZ_1 := fun W (hW : Below w32.heap.size w32 W) => (kZ.keep hW).cell (i := 1) rfl
      have kP_0 := fun W (hW : Below w32.heap.size w32 W) => (kP.keep hW).cell (i := 0) rfl
      have kP_1 := fun W (hW : Below w32.heap.size w32 W) => (kP.keep hW).cell (i := 1) rfl
      have eX : ∀ W, (binOp .eql 23 (.agg #[.int .i64 1, .int .i64 1]) (.agg #[.int .i64 1, .int .i64 1])).run Tryd.prog W = .ok (.bool true) W := fun W => by rw [ratEql]; rfl
      have eY : ∀ W, (binOp .eql 23 (.agg #[.int .i64 (-2), .int .i64 1]) (.agg #[.int .i64 (-2), .int .i64 1])).run Tryd.prog W = .ok (.bool true) W := fun W => by rw [ratEql]; rfl
      have eZ : ∀ W, (binOp .eql 23 (.agg #[.int .i64 0, .int .i64 1]) (.agg #[.int .i64 0, .int .i64 1])).run Tryd.prog W = .ok (.bool true) W := fun W => by rw [ratEql]; rfl
      have eP : ∀ W, (binOp .eql 23 (.agg #[.int .i64 (-1000000000), .int .i64 999999999]) (.agg #[.int .i64 (-1000000000), .int .i64 999999999])).run Tryd.prog W = .ok (.bool true) W := fun W => by rw [ratEql]; rfl
      have hveg := Tryd.eqGuardRat
      have HB := Lib.hid hb
      have HT := fun W (hW : Below w32.heap.size w32 W) => ht.keep hW
      clear hb ht kX kY kZ kP
      simp only [List.append]
      apply wp_region_head 82 183 (hm := by kernel_rfl) (hN := rfl)
      case h =>
        simp only [List.take_succ_cons, List.take_zero]
        apply head_still (c := .bool true) (by kernel_rfl) (fun W _ => by kernel_rfl)
        (apply head_call (by kernel_rfl); (intro W; go_simp; exact ⟨rfl, rfl⟩); (intro W hW; exact alive_any W (HT W hW)))
        apply head_still (c := .bool true) (by kernel_rfl) (fun W _ => by kernel_rfl)
        apply head_still (c := .bool true) (by kernel_rfl) (fun W _ => by kernel_rfl)
        apply head_still (c := .int .i64 18) (by kernel_rfl) (fun W _ => by kernel_rfl)
        apply head_still (c := .bool true) (by kernel_rfl) (fun W _ => by kernel_rfl)
        apply head_still (c := .bool true) (by kernel_rfl) (fun W _ => by kernel_rfl)
        apply head_still (c := .bool true) (by kernel_rfl) (fun W _ => by kernel_rfl)
        apply head_still (c := .int .i64 16) (by kernel_rfl) (fun W _ => by kernel_rfl)
        apply head_still (c := .bool true) (by kernel_rfl) (fun W _ => by kernel_rfl)
        apply head_still (c := .bool true) (by kernel_rfl) (fun W _ => by kernel_rfl)
        apply head_still (c := .bool true) (by kernel_rfl) (fun W _ => by kernel_rfl)
        apply head_still (c := .int .i64 0) (by kernel_rfl) (fun W _ => by kernel_rfl)
        apply head_still (c := .bool true) (by kernel_rfl) (fun W _ => by kernel_rfl)
        apply head_still (c := .bool true) (by kernel_rfl) (fun W _ => by kernel_rfl)
        apply head_still (c := .bool true) (by kernel_rfl) (fun W _ => by kernel_rfl)
        iterate 1 (apply head_still (by kernel_rfl); (intro W hW; go_simp; (try rfl)))
        (apply head_call (by kernel_rfl); (intro W; go_simp; exact ⟨rfl, rfl⟩); (intro W hW; exact part_any _ _ W))
        iterate 1 (apply head_still (by kernel_rfl); (intro W hW; go_simp; (try rfl)))
        apply head_still (c := .bool true) (by kernel_rfl) (fun W _ => by kernel_rfl)
        apply head_still (c := .bool true) (by kernel_rfl) (fun W _ => by kernel_rfl)
        apply head_still (c := .int .i64 0) (by kernel_rfl) (fun W _ => by kernel_rfl)
        apply head_still (c := .bool true) (by kernel_rfl) (fun W _ => by kernel_rfl)
        apply head_still (c := .bool true) (by kernel_rfl) (fun W _ => by kernel_rfl)
        apply head_still (c := .bool true) (by kernel_rfl) (fun W _ => by kernel_rfl)
        iterate 1 (apply head_still (by kernel_rfl); (intro W hW; go_simp; (try rfl)))
        (apply head_call (by kernel_rfl); (intro W; go_simp; exact ⟨rfl, rfl⟩); (intro W hW; exact part_any _ _ W))
        iterate 1 (apply head_still (by kernel_rfl); (intro W hW; go_simp; (try rfl)))
        apply head_still (c := .bool true) (by kernel_rfl) (fun W _ => by kernel_rfl)
        apply head_still (c := .bool true) (by kernel_rfl) (fun W _ => by kernel_rfl)
        apply head_still (c := .int .i64 16) (by kernel_rfl) (fun W _ => by kernel_rfl)
        apply head_still (c := .bool true) (by kernel_rfl) (fun W _ => by kernel_rfl)
        apply head_still (c := .bool true) (by kernel_rfl) (fun W _ => by kernel_rfl)
        apply head_still (c := .bool true) (by kernel_rfl) (fun W _ => by kernel_rfl)
        apply head_still (c := .int .i64 18) (by kernel_rfl) (fun W _ => by kernel_rfl)
        apply head_still (c := .bool true) (by kernel_rfl) (fun W _ => by kernel_rfl)
        apply head_still (c := .bool true) (by kernel_rfl) (fun W _ => by kernel_rfl)
        apply head_still (c := .bool true) (by kernel_rfl) (fun W _ => by kernel_rfl)
        apply head_still (c := .int .i64 8) (by kernel_rfl) (fun W _ => by kernel_rfl)
        apply head_still (c := .bool true) (by kernel_rfl) (fun W _ => by kernel_rfl)
        apply head_still (c := .bool true) (by kernel_rfl) (fun W _ => by kernel_rfl)
        apply head_still (c := .bool true) (by kernel_rfl) (fun W _ => by kernel_rfl)
        apply head_still (c := .int .i64 16) (by kernel_rfl) (fun W _ => by kernel_rfl)
        apply head_still (c := .bool true) (by kernel_rfl) (fun W _ => by kernel_rfl)
        apply head_still (c := .bool true) (by kernel_rfl) (fun W _ => by kernel_rfl)
        apply head_still (c := .bool true) (by kernel_rfl) (fun W _ => by kernel_rfl)
        apply head_still (c := .int .i64 4) (by kernel_rfl) (fun W _ => by kernel_rfl)
        apply head_still (c := .bool true) (by kernel_rfl) (fun W _ => by kernel_rfl)
        apply head_still (c := .bool true) (by kernel_rfl) (fun W _ => by kernel_rfl)
        apply head_still (c := .bool true) (by kernel_rfl) (fun W _ => by kernel_rfl)
        apply head_still (c := .int .i64 8) (by kernel_rfl) (fun W _ => by kernel_rfl)
        apply head_still (c := .bool true) (by kernel_rfl) (fun W _ => by kernel_rfl)
        apply head_still (c := .bool true) (by kernel_rfl) (fun W _ => by kernel_rfl)
        apply head_still (c := .bool true) (by kernel_rfl) (fun W _ => by kernel_rfl)
        apply head_still (c := .int .i64 0) (by kernel_rfl) (fun W _ => by kernel_rfl)
        apply head_still (c := .bool true) (by kernel_rfl) (fun W _ => by kernel_rfl)
        apply head_still (c := .bool true) (by kernel_rfl) (fun W _ => by kernel_rfl)
        apply head_still (c := .bool true) (by kernel_rfl) (fun W _ => by kernel_rfl)
        iterate 1 (apply head_still (by kernel_rfl); (intro W hW; go_simp; (try rfl)))
        (apply head_call (by kernel_rfl); (intro W; go_simp; exact ⟨rfl, rfl⟩); (intro W hW; exact part_any _ _ W))
        iterate 1 (apply head_still (by kernel_rfl); (intro W hW; go_simp; (try rfl)))
        apply head_still (c := .bool true) (by kernel_rfl) (fun W _ => by kernel_rfl)
        apply head_still (c := .bool true) (by kernel_rfl) (fun W _ => by kernel_rfl)
        apply head_still (c := .int .i64 0) (by kernel_rfl) (fun W _ => by kernel_rfl)
        apply head_still (c := .bool true) (by kernel_rfl) (fun W _ => by kernel_rfl)
        apply head_still (c := .bool true) (by kernel_rfl) (fun W _ => by kernel_rfl)
        apply head_still (c := .bool true) (by kernel_rfl) (fun W _ => by kernel_rfl)
        iterate 1 (apply head_still (by kernel_rfl); (intro W hW; go_simp; (try rfl)))
        (apply head_call (by kernel_rfl); (intro W; go_simp; exact ⟨rfl, rfl⟩); (intro W hW; exact part_any _ _ W))
        iterate 1 (apply head_still (by kernel_rfl); (intro W hW; go_simp; (try rfl)))
        apply head_still (c := .bool true) (by kernel_rfl) (fun W _ => by kernel_rfl)
        apply head_still (c := .bool true) (by kernel_rfl) (fun W _ => by kernel_rfl)
        (apply head_call (by kernel_rfl); (intro W; go_simp; exact ⟨rfl, rfl⟩); (intro W hW; exact part_any _ _ W))
        (apply head_call (by kernel_rfl); (intro W; go_simp; exact ⟨rfl, rfl⟩); (intro W hW; exact E2.out W))
        apply head_still (c := .bool true) (by kernel_rfl) (fun W _ => by kernel_rfl)
        apply head_still (c := .bool true) (by kernel_rfl) (fun W _ => by kernel_rfl)
        apply head_still (c := .bool true) (by kernel_rfl) (fun W _ => by kernel_rfl)
        (apply head_call (by kernel_rfl); (intro W; go_simp; exact ⟨rfl, rfl⟩); (intro W hW; exact part_any _ _ W))
        (apply head_call (by kernel_rfl); (intro W; go_simp; exact ⟨rfl, rfl⟩); (intro W hW; exact E3.out W))
        apply head_still (c := .bool true) (by kernel_rfl) (fun W _ => by kernel_rfl)
        apply head_still (c := .bool true) (by kernel_rfl) (fun W _ => by kernel_rfl)
        apply head_still (c := .bool true) (by kernel_rfl) (fun W _ => by kernel_rfl)
        refine head_nil ?_
        intro W hW hF
        clear kX_0 kX_1 kY_0 kY_1 kZ_0 kZ_1 kP_0 kP_1
        go_wp2_with fail
        go_ret
        exact ret_bool rfl (HB.out.trans (hW.mono HB.out.size))
      case hB => kernel_rfl
      all_goals rfl

open Go.ChangeShapes Go.WideShapes Go.ChangeAt Go.Joins Go.ChangeMaps

set_option maxRecDepth 100000 in
theorem rnames_lifted (os : Os) (started : os.Started) (H : Type) (enc : TypeId × Value → H) :
    ReturnsInHanded {} Tryd.checked os 9 .any (fun w args => (Rows.ratioNamesSpec.pre enc Tryd.prog Tryd.f9 [] false w args ∧ laidMetH Tryd.prog Rows.ratioNamesRow.laid w) ∧ sizedMet enc Tryd.prog Tryd.f9 (OpenSpec.ofChange Rows.ratioNamesSpec) false w args)
      (Rows.ratioNamesSpec.post enc Tryd.prog Tryd.f9 false true false false) := by
  refine returnsInHanded_of_change_and (C := Tryd.checked) (X := fun w _ => laidMetH Tryd.prog Rows.ratioNamesRow.laid w) (fun _ _ _ hh h => h.of_heap hh) own started (by kernel_rfl) Tryd.func9
    (ChangeSpec.witness_at (enc := enc) (C := Tryd.checked) (os := os) (X := fun w _ => laidMetH Tryd.prog Rows.ratioNamesRow.laid w) false (laidWorld os) #[] 8 rfl (by kernel_rfl) (by kernel_rfl) (by kernel_rfl) (by kernel_rfl) (by kernel_rfl) (laid_met os _)) ?_
  intro W base args ds gs before hval0 hW _ _ hLd _
  have hW' := hW
  obtain ⟨p, q, hA0, hV, rfl, hfz, hnd⟩ := hW
  have hA : DataW.TrodAll enc Tryd.prog W 0 (fun _ => true) true Tryd.f9.params.toList args.toList ds p := hA0
  rw [Tryd.params9] at hA
  obtain ⟨hargs, rfl, rfl⟩ := trodAll_nil hA
  obtain rfl : args = #[] := by cases args; simp_all
  obtain ⟨rfl, rfl⟩ := trodVars_none hV
  refine (rnames_walk W (tab_of_laid hLd)).mono fun e W' ⟨he, hb⟩ => ?_
  exact ⟨_, he, law_post laidOut hW' rfl (by kernel_rfl) rfl Tryd.underlying4 rfl rfl rfl hb⟩

theorem rnames_row : Rows.RatioNamesSaid :=
  OpenClaim.holds_of_wide 9 Tryd.f9 rfl rfl rfl rfl rfl rfl rfl ⟨rfl, rfl, rfl, rfl, rfl⟩ rfl rfl rfl rfl rfl (by kernel_rfl) Tryd.func9 (by kernel_rfl)
    (of_decide_eq_true (by kernel_rfl)) (by unfold Func.isWrapper; first | (rw [if_pos (by decide +kernel)]; kernel_rfl) | (rw [if_neg (by decide +kernel)]; exact ⟨rfl, rfl⟩))
    (fun os started H enc _ => rnames_lifted os started H enc)

theorem rnames_holds : Rows.RatioNamesCardSaid :=
  Claim7.holds_tied_plain_at .later [] [.data, .data, .data] true Rows.ratioNamesCard.stood.harness false
    rnames_row (fun _ h => by cases h) (by kernel_rfl) (fun _ h => by cases h) ratioNames_row_tie rfl ⟨rfl, rfl⟩ (by kernel_rfl) rfl
    (fun f fn hf hfn => by
      obtain rfl : f = 9 := Option.some.inj ((show Tryd.prog.funcNamed Rows.ratioNamesRow.func = some 9 by kernel_rfl).symm.trans hf) |>.symm
      obtain rfl : fn = Tryd.f9 := (Option.some.inj (Tryd.func9.symm.trans hfn)).symm
      exact ⟨by kernel_rfl, fun j t ht => by
        rw [Tryd.params9] at ht
        simp at ht⟩)
    (by kernel_rfl)
#print axioms rnames_holds
end Go.Proofs.YtpkcmjiokdpegaaDoor
