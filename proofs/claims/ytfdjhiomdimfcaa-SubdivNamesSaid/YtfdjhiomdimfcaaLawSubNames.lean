/- The law 'SubdivNames': the chapter's limits and errors. -/
import Derived.Test.YtfdjhiomdimfcaaSubM
import Derived.Test.YtfdjhiomdimfcaaSubLaws
import Derived.Test.YtfdjhiomdimfcaaCurveD
import Derived.Laws.MakeOwn
namespace Go.Rel
theorem getM_zero (n i : Nat) : getM (List.replicate n zeroV) i = zeroV := by
  unfold getM
  cases h : (List.replicate n zeroV)[i % (List.replicate n zeroV).length]? with
  | none => rfl
  | some v =>
    rw [List.getElem?_replicate] at h
    split at h
    · exact (Option.some.inj h).symm
    · cases h
theorem binV_zero (n : Nat) : ∀ j k : Nat, binV (List.replicate n zeroV) j k = zeroV
  | 0, k => getM_zero _ _
  | j + 1, k => by unfold binV; rw [binV_zero n j k, binV_zero n j (k + 1)]; rfl
theorem refPts_zero (n d m : Nat) (h : (refM n d false).toNat = m) : refPts (List.replicate n zeroV) d false = List.replicate m zeroV := by
  unfold refPts
  rw [List.length_replicate, h]
  apply List.ext_getElem
  · simp
  · intro i h1 h2
    simp [binV_zero]
theorem valid_zero (n : Nat) (down : Int) (h1 : 1 ≤ n) (h2 : n ≤ 1000) (h3 : 0 ≤ down) (h4 : down ≤ 30) : Valid (List.replicate n zeroV) down := by
  refine ⟨by simpa using h1, by simpa using h2, h3, h4, ?_⟩
  rw [List.all_eq_true]
  intro v hv
  rw [List.eq_of_mem_replicate hv]
  rfl
theorem z502 : refE (List.replicate 502 zeroV) 0 false 3 = 4 := by
  unfold refE
  rw [if_pos (valid_zero 502 0 (by omega) (by omega) (by omega) (by omega)), if_pos (by decide), List.length_replicate, if_neg (by decide), if_pos (by decide)]
theorem z501 : refE (List.replicate 501 zeroV) 0 false 2 = 0 := by
  unfold refE
  rw [if_pos (valid_zero 501 0 (by omega) (by omega) (by omega) (by omega)), if_pos (by decide), List.length_replicate, if_neg (by decide), if_neg (by decide), refPts_zero 501 _ 1000 (by decide), if_pos (valid_zero 1000 _ (by omega) (by omega) (by omega) (by omega))]
theorem z501L : refL (List.replicate 501 zeroV) 0 false 2 = List.replicate 1000 zeroV ∧ refDown (List.replicate 501 zeroV) 0 false 2 = 2 ∧ refClosed (List.replicate 501 zeroV) 0 false 2 = false := by
  obtain ⟨h1, h2, h3⟩ := refL_ok z501
  exact ⟨h1.trans (refPts_zero 501 _ 1000 (by decide)), h2, h3⟩
theorem z502L : refL (List.replicate 502 zeroV) 0 false 3 = [] ∧ refDown (List.replicate 502 zeroV) 0 false 3 = 0 ∧ refClosed (List.replicate 502 zeroV) 0 false 3 = false := refL_bad (by rw [z502]; omega)
theorem z3 : refE (List.replicate 3 zeroV) 30 false 1 = 16 := by decide +kernel
theorem z3L : refL (List.replicate 3 zeroV) 30 false 1 = [] ∧ refDown (List.replicate 3 zeroV) 30 false 1 = 0 ∧ refClosed (List.replicate 3 zeroV) 30 false 1 = false := refL_bad (by rw [z3]; omega)
theorem vecs_zero {W : World} {g n : Nat} {t : TypeId} {CS : Array Value} (h : Blk W g t CS) (hc : ∀ i, i < n * 3 → CS[i]? = some (.int .i64 0)) : Vecs W W.heap.size (some ⟨g, 0, none⟩) (List.replicate n zeroV) := by
  intro _
  refine ⟨g, 0, rfl, h.lt, fun i v hi => ?_⟩
  obtain ⟨hin, hv⟩ := List.getElem?_eq_some_iff.1 hi
  rw [List.length_replicate] at hin
  have : v = zeroV := by rw [← hv]; simp
  subst this
  simp only [Nat.zero_add]
  exact ⟨h.cell (hc _ (by omega)), h.cell (hc _ (by omega)), h.cell (hc _ (by omega))⟩
end Go.Rel
namespace Go.Proofs.Ytfdjhiomdimfcaa
open Go.RowKit Go.Rel

theorem make_any (n : Nat) (h : n ≤ 2000) : ∃ CS : Array Value, (∀ W : World, (Instr.makeSlice 22 (.int .i64 n) (.int .i64 n)).run Try.prog W = .ok (.slice (some ⟨W.heap.size, 0, none⟩) n n) (W.alloc (.cells CS 31))) ∧ ∀ i, i < n * 3 → CS[i]? = some (.int .i64 0) := by
  obtain ⟨i0, hi, hz0, hz1, hz2⟩ := info_parts Try.infoVec
  refine ⟨madeCells (Value.agg #[.int .i64 0, .int .i64 0, .int .i64 0]).cells (n * 3), fun W => ?_, fun i hi' => ?_⟩
  · have := run_makeSlice (P := Try.prog) W 22 31 i0 _ Try.underlying22 hi hz0 .i64 .i64 n n (by omega) (by omega) (by rw [hz1]; omega) (by rw [hz2]; omega) (by omega)
    rw [hz1] at this
    simpa using this
  · show (madeCells #[.int .i64 0, .int .i64 0, .int .i64 0] (n * 3))[i]? = _
    unfold madeCells
    have hi3 : i % 3 = 0 ∨ i % 3 = 1 ∨ i % 3 = 2 := by omega
    rcases hi3 with h3 | h3 | h3 <;> simp [hi', h3]

attribute [local irreducible] Go.Rel.Gives in
set_option maxRecDepth 100000 in
set_option maxHeartbeats 8000000 in
theorem snames_walk (w : World) : Calls Try.prog 9 #[] w (Ret w (.bool true)) := by
  have hb := Below.refl w.heap.size w
  obtain ⟨CS502, hm502, hc502⟩ := make_any 502 (by omega)
  have hn502 : ∀ W : World, (Instr.makeSlice 22 (.int .i64 502) (.int .i64 502)).run Try.prog W = .ok (.slice (some ⟨W.heap.size, 0, none⟩) 502 502) (W.alloc (.cells CS502 31)) := hm502
  have M502 := Lib.hid hn502
  have Z502 := Lib.hid hc502
  clear hm502 hn502 hc502
  obtain ⟨CS501, hm501, hc501⟩ := make_any 501 (by omega)
  have hn501 : ∀ W : World, (Instr.makeSlice 22 (.int .i64 501) (.int .i64 501)).run Try.prog W = .ok (.slice (some ⟨W.heap.size, 0, none⟩) 501 501) (W.alloc (.cells CS501 31)) := hm501
  have M501 := Lib.hid hn501
  have Z501 := Lib.hid hc501
  clear hm501 hn501 hc501
  obtain ⟨CS3, hm3, hc3⟩ := make_any 3 (by omega)
  have hn3 : ∀ W : World, (Instr.makeSlice 22 (.int .i64 3) (.int .i64 3)).run Try.prog W = .ok (.slice (some ⟨W.heap.size, 0, none⟩) 3 3) (W.alloc (.cells CS3 31)) := hm3
  have M3 := Lib.hid hn3
  have Z3 := Lib.hid hc3
  clear hm3 hn3 hc3
  obtain ⟨CS1001, hm1001, hc1001⟩ := make_any 1001 (by omega)
  have hn1001 : ∀ W : World, (Instr.makeSlice 22 (.int .i64 1001) (.int .i64 1001)).run Try.prog W = .ok (.slice (some ⟨W.heap.size, 0, none⟩) 1001 1001) (W.alloc (.cells CS1001 31)) := hm1001
  have M1001 := Lib.hid hn1001
  have Z1001 := Lib.hid hc1001
  clear hm1001 hn1001 hc1001
  obtain ⟨CS1, hm1, hc1⟩ := make_any 1 (by omega)
  have hn1 : ∀ W : World, (Instr.makeSlice 22 (.int .i64 1) (.int .i64 1)).run Try.prog W = .ok (.slice (some ⟨W.heap.size, 0, none⟩) 1 1) (W.alloc (.cells CS1 31)) := hm1
  have M1 := Lib.hid hn1
  have Z1 := Lib.hid hc1
  clear hm1 hn1 hc1
  go_enter Try.func9, Try.ntmps9
  go_wp2_with fail
  refine (at_any _ _ _).mono ?_
  rintro e w1 ⟨rfl, hx⟩
  replace hb := hb.trans (hx.mono hb.size)
  clear hx
  have p0 := Blk.new w1 31 #[.int .i64 5, .int .i64 7, .int .i64 0]
  have hx := below_alloc w1 (.cells #[.int .i64 5, .int .i64 7, .int .i64 0] 31)
  replace hb := hb.trans (hx.mono hb.size)
  clear hx
  have b1 := Blk.new (w1.alloc (.cells #[.int .i64 5, .int .i64 7, .int .i64 0] 31)) 24 #[.slice (some ⟨w1.heap.size, 0, none⟩) 1 1, .int .i64 0, .bool false]
  have hx := below_alloc (w1.alloc (.cells #[.int .i64 5, .int .i64 7, .int .i64 0] 31)) (.cells #[.slice (some ⟨w1.heap.size, 0, none⟩) 1 1, .int .i64 0, .bool false] 24)
  replace p0 := p0.keep hx
  replace hb := hb.trans (hx.mono hb.size)
  clear hx
  have c0 := b1.cell (i := 0) rfl
  have c1 := b1.cell (i := 1) rfl
  have c2 := b1.cell (i := 2) rfl
  go_wp2_with fail
  clear c0 c1 c2
  try simp only [World.size_alloc] at p0 b1
  generalize World.alloc (World.alloc w1 _) _ = w2 at p0 b1 hb ⊢
  generalize w1.heap.size = gw2 at p0 b1 ⊢
  have r := refine_any (some ⟨gw2, 0, none⟩) 1 1 [⟨5, 7, 0⟩] 0 2 false w2 (by simp) (by omega) (vecs_blk (l := [⟨5, 7, 0⟩]) (n := 1) p0 rfl rfl (by omega)) ⟨by omega, by omega⟩
  rw [show refL [⟨5, 7, 0⟩] 0 false 2 = [] by decide +kernel, show refDown [⟨5, 7, 0⟩] 0 false 2 = 0 by decide +kernel, show refClosed [⟨5, 7, 0⟩] 0 false 2 = false by decide +kernel, show refE [⟨5, 7, 0⟩] 0 false 2 = 6 by decide +kernel] at r
  refine r.mono ?_
  clear r
  rintro e w3 ⟨v, rfl, ⟨S, rfl, hrow⟩, hx⟩
  obtain ⟨A2, cap2, rfl, -, u2⟩ := Vecs.of_own hrow
  clear hrow
  replace p0 := p0.keep hx
  replace b1 := b1.keep hx
  replace hb := hb.trans (hx.mono hb.size)
  clear hx
  have hx := below_alloc w3 (.cells #[.slice A2 0 cap2, .int .i64 0, .bool false] 24)
  replace p0 := p0.keep hx
  replace b1 := b1.keep hx
  replace hb := hb.trans (hx.mono hb.size)
  clear hx
  have c0 := b1.cell (i := 0) rfl
  have c1 := b1.cell (i := 1) rfl
  have c2 := b1.cell (i := 2) rfl
  go_wp2_with fail
  clear c0 c1 c2
  generalize World.alloc w3 _ = w4 at p0 b1 hb ⊢
  clear u2
  have r := refine_any (some ⟨gw2, 0, none⟩) 1 1 [⟨5, 7, 0⟩] 0 1 false w4 (by simp) (by omega) (vecs_blk (l := [⟨5, 7, 0⟩]) (n := 1) p0 rfl rfl (by omega)) ⟨by omega, by omega⟩
  rw [show refL [⟨5, 7, 0⟩] 0 false 1 = [⟨10, 14, 0⟩] by decide +kernel, show refDown [⟨5, 7, 0⟩] 0 false 1 = 1 by decide +kernel, show refClosed [⟨5, 7, 0⟩] 0 false 1 = false by decide +kernel, show refE [⟨5, 7, 0⟩] 0 false 1 = 0 by decide +kernel] at r
  refine r.mono ?_
  clear r
  rintro e w5 ⟨v, rfl, ⟨S, rfl, hrow⟩, hx⟩
  obtain ⟨A4, cap4, rfl, -, u4⟩ := Vecs.of_own hrow
  clear hrow
  replace p0 := p0.keep hx
  replace b1 := b1.keep hx
  replace hb := hb.trans (hx.mono hb.size)
  clear hx
  have k4 := Blk.new w5 24 #[.slice A4 1 cap4, .int .i64 1, .bool false]
  have hx := below_alloc w5 (.cells #[.slice A4 1 cap4, .int .i64 1, .bool false] 24)
  replace p0 := p0.keep hx
  replace b1 := b1.keep hx
  replace u4 := (u4.below hx).more hx.size
  replace hb := hb.trans (hx.mono hb.size)
  clear hx
  have c0 := b1.cell (i := 0) rfl
  have c1 := b1.cell (i := 1) rfl
  have c2 := b1.cell (i := 2) rfl
  go_wp2_with fail
  clear c0 c1 c2
  try simp only [World.size_alloc] at k4
  generalize World.alloc w5 _ = w6 at p0 b1 k4 u4 hb ⊢
  generalize w5.heap.size = gw6 at p0 b1 k4 ⊢
  have r := refine_any (some ⟨gw2, 0, none⟩) 1 1 [⟨5, 7, 0⟩] 0 4 false w6 (by simp) (by omega) (vecs_blk (l := [⟨5, 7, 0⟩]) (n := 1) p0 rfl rfl (by omega)) ⟨by omega, by omega⟩
  rw [show refL [⟨5, 7, 0⟩] 0 false 4 = [] by decide +kernel, show refDown [⟨5, 7, 0⟩] 0 false 4 = 0 by decide +kernel, show refClosed [⟨5, 7, 0⟩] 0 false 4 = false by decide +kernel, show refE [⟨5, 7, 0⟩] 0 false 4 = 2 by decide +kernel] at r
  refine r.mono ?_
  clear r
  rintro e w7 ⟨v, rfl, ⟨S, rfl, hrow⟩, hx⟩
  obtain ⟨A6, cap6, rfl, -, u6⟩ := Vecs.of_own hrow
  clear hrow
  replace p0 := p0.keep hx
  replace b1 := b1.keep hx
  replace k4 := k4.keep hx
  replace u4 := (u4.below hx).more hx.size
  replace hb := hb.trans (hx.mono hb.size)
  clear hx
  have hx := below_alloc w7 (.cells #[.slice A6 0 cap6, .int .i64 0, .bool false] 24)
  replace p0 := p0.keep hx
  replace b1 := b1.keep hx
  replace k4 := k4.keep hx
  replace u4 := (u4.below hx).more hx.size
  replace hb := hb.trans (hx.mono hb.size)
  clear hx
  have y1 := Blk.new (w7.alloc (.cells #[.slice A6 0 cap6, .int .i64 0, .bool false] 24)) 31 CS502
  have hx := below_alloc (w7.alloc (.cells #[.slice A6 0 cap6, .int .i64 0, .bool false] 24)) (.cells CS502 31)
  replace p0 := p0.keep hx
  replace b1 := b1.keep hx
  replace k4 := k4.keep hx
  replace u4 := (u4.below hx).more hx.size
  replace hb := hb.trans (hx.mono hb.size)
  clear hx
  have hmk := M502.out
  go_wp2_with fail
  clear hmk
  try simp only [World.size_alloc] at y1
  generalize World.alloc (World.alloc w7 _) _ = w8 at p0 b1 k4 y1 u4 hb ⊢
  generalize w7.heap.size = gw8 at p0 b1 k4 y1 ⊢
  clear u6
  have r := refine_any (some ⟨gw8 + 1, 0, none⟩) 502 502 (List.replicate 502 zeroV) 0 3 false w8 (by simp) (by omega) (vecs_zero y1 Z502.out) ⟨by omega, by omega⟩
  rw [z502L.1, z502L.2.1, z502L.2.2, z502] at r
  refine r.mono ?_
  clear r
  rintro e w9 ⟨v, rfl, ⟨S, rfl, hrow⟩, hx⟩
  obtain ⟨A8, cap8, rfl, -, u8⟩ := Vecs.of_own hrow
  clear hrow
  replace p0 := p0.keep hx
  replace b1 := b1.keep hx
  replace k4 := k4.keep hx
  replace y1 := y1.keep hx
  replace u4 := (u4.below hx).more hx.size
  replace hb := hb.trans (hx.mono hb.size)
  clear hx
  clear y1
  have hx := below_alloc w9 (.cells #[.slice A8 0 cap8, .int .i64 0, .bool false] 24)
  replace p0 := p0.keep hx
  replace b1 := b1.keep hx
  replace k4 := k4.keep hx
  replace u4 := (u4.below hx).more hx.size
  replace hb := hb.trans (hx.mono hb.size)
  clear hx
  have y2 := Blk.new (w9.alloc (.cells #[.slice A8 0 cap8, .int .i64 0, .bool false] 24)) 31 CS501
  have hx := below_alloc (w9.alloc (.cells #[.slice A8 0 cap8, .int .i64 0, .bool false] 24)) (.cells CS501 31)
  replace p0 := p0.keep hx
  replace b1 := b1.keep hx
  replace k4 := k4.keep hx
  replace u4 := (u4.below hx).more hx.size
  replace hb := hb.trans (hx.mono hb.size)
  clear hx
  have hmk := M501.out
  go_wp2_with fail
  clear hmk
  try simp only [World.size_alloc] at y2
  generalize World.alloc (World.alloc w9 _) _ = w10 at p0 b1 k4 y2 u4 hb ⊢
  generalize w9.heap.size = gw10 at p0 b1 k4 y2 ⊢
  clear u8
  have r := refine_any (some ⟨gw10 + 1, 0, none⟩) 501 501 (List.replicate 501 zeroV) 0 2 false w10 (by simp) (by omega) (vecs_zero y2 Z501.out) ⟨by omega, by omega⟩
  rw [z501L.1, z501L.2.1, z501L.2.2, z501] at r
  refine r.mono ?_
  clear r
  rintro e w11 ⟨v, rfl, ⟨S, rfl, hrow⟩, hx⟩
  obtain ⟨A10, cap10, rfl, -, u10⟩ := Vecs.of_own hrow
  clear hrow
  replace p0 := p0.keep hx
  replace b1 := b1.keep hx
  replace k4 := k4.keep hx
  replace y2 := y2.keep hx
  replace u4 := (u4.below hx).more hx.size
  replace hb := hb.trans (hx.mono hb.size)
  clear hx
  clear y2
  rw [List.length_replicate]
  have k10 := Blk.new w11 24 #[.slice A10 1000 cap10, .int .i64 2, .bool false]
  have hx := below_alloc w11 (.cells #[.slice A10 1000 cap10, .int .i64 2, .bool false] 24)
  replace p0 := p0.keep hx
  replace b1 := b1.keep hx
  replace k4 := k4.keep hx
  replace u4 := (u4.below hx).more hx.size
  replace hb := hb.trans (hx.mono hb.size)
  clear hx
  go_wp2_with fail
  try simp only [World.size_alloc] at k10
  generalize World.alloc w11 _ = w12 at p0 b1 k4 k10 u4 hb ⊢
  generalize w11.heap.size = gw12 at p0 b1 k4 k10 ⊢
  clear u10
  refine (at_any _ _ _).mono ?_
  rintro e w13 ⟨rfl, hx⟩
  replace p0 := p0.keep hx
  replace b1 := b1.keep hx
  replace k4 := k4.keep hx
  replace k10 := k10.keep hx
  replace u4 := (u4.below hx).more hx.size
  replace hb := hb.trans (hx.mono hb.size)
  clear hx
  go_wp2_with fail
  refine (at_any _ _ _).mono ?_
  rintro e w14 ⟨rfl, hx⟩
  replace p0 := p0.keep hx
  replace b1 := b1.keep hx
  replace k4 := k4.keep hx
  replace k10 := k10.keep hx
  replace u4 := (u4.below hx).more hx.size
  replace hb := hb.trans (hx.mono hb.size)
  clear hx
  have p7 := Blk.new w14 31 #[.int .i64 1000000000000, .int .i64 0, .int .i64 0, .int .i64 0, .int .i64 0, .int .i64 0]
  have hx := below_alloc w14 (.cells #[.int .i64 1000000000000, .int .i64 0, .int .i64 0, .int .i64 0, .int .i64 0, .int .i64 0] 31)
  replace p0 := p0.keep hx
  replace b1 := b1.keep hx
  replace k4 := k4.keep hx
  replace k10 := k10.keep hx
  replace u4 := (u4.below hx).more hx.size
  replace hb := hb.trans (hx.mono hb.size)
  clear hx
  go_wp2_with fail
  try simp only [World.size_alloc] at p7
  generalize World.alloc w14 _ = w15 at p0 b1 k4 k10 p7 u4 hb ⊢
  generalize w14.heap.size = gw15 at p0 b1 k4 k10 p7 ⊢
  have r := refine_any (some ⟨gw15, 0, none⟩) 2 2 [⟨1000000000000, 0, 0⟩, ⟨0, 0, 0⟩] 0 1 false w15 (by simp) (by omega) (vecs_blk (l := [⟨1000000000000, 0, 0⟩, ⟨0, 0, 0⟩]) (n := 2) p7 rfl rfl (by omega)) ⟨by omega, by omega⟩
  rw [show refL [⟨1000000000000, 0, 0⟩, ⟨0, 0, 0⟩] 0 false 1 = [] by decide +kernel, show refDown [⟨1000000000000, 0, 0⟩, ⟨0, 0, 0⟩] 0 false 1 = 0 by decide +kernel, show refClosed [⟨1000000000000, 0, 0⟩, ⟨0, 0, 0⟩] 0 false 1 = false by decide +kernel, show refE [⟨1000000000000, 0, 0⟩, ⟨0, 0, 0⟩] 0 false 1 = 16 by decide +kernel] at r
  refine r.mono ?_
  clear r
  rintro e w16 ⟨v, rfl, ⟨S, rfl, hrow⟩, hx⟩
  obtain ⟨A12, cap12, rfl, -, u12⟩ := Vecs.of_own hrow
  clear hrow
  replace p0 := p0.keep hx
  replace b1 := b1.keep hx
  replace k4 := k4.keep hx
  replace k10 := k10.keep hx
  replace p7 := p7.keep hx
  replace u4 := (u4.below hx).more hx.size
  replace hb := hb.trans (hx.mono hb.size)
  clear hx
  clear p7
  have hx := below_alloc w16 (.cells #[.slice A12 0 cap12, .int .i64 0, .bool false] 24)
  replace p0 := p0.keep hx
  replace b1 := b1.keep hx
  replace k4 := k4.keep hx
  replace k10 := k10.keep hx
  replace u4 := (u4.below hx).more hx.size
  replace hb := hb.trans (hx.mono hb.size)
  clear hx
  have y3 := Blk.new (w16.alloc (.cells #[.slice A12 0 cap12, .int .i64 0, .bool false] 24)) 31 CS3
  have hx := below_alloc (w16.alloc (.cells #[.slice A12 0 cap12, .int .i64 0, .bool false] 24)) (.cells CS3 31)
  replace p0 := p0.keep hx
  replace b1 := b1.keep hx
  replace k4 := k4.keep hx
  replace k10 := k10.keep hx
  replace u4 := (u4.below hx).more hx.size
  replace hb := hb.trans (hx.mono hb.size)
  clear hx
  have hmk := M3.out
  go_wp2_with fail
  clear hmk
  try simp only [World.size_alloc] at y3
  generalize World.alloc (World.alloc w16 _) _ = w17 at p0 b1 k4 k10 y3 u4 hb ⊢
  generalize w16.heap.size = gw17 at p0 b1 k4 k10 y3 ⊢
  clear u12
  have r := refine_any (some ⟨gw17 + 1, 0, none⟩) 3 3 (List.replicate 3 zeroV) 30 1 false w17 (by simp) (by omega) (vecs_zero y3 Z3.out) ⟨by omega, by omega⟩
  rw [z3L.1, z3L.2.1, z3L.2.2, z3] at r
  refine r.mono ?_
  clear r
  rintro e w18 ⟨v, rfl, ⟨S, rfl, hrow⟩, hx⟩
  obtain ⟨A14, cap14, rfl, -, u14⟩ := Vecs.of_own hrow
  clear hrow
  replace p0 := p0.keep hx
  replace b1 := b1.keep hx
  replace k4 := k4.keep hx
  replace k10 := k10.keep hx
  replace y3 := y3.keep hx
  replace u4 := (u4.below hx).more hx.size
  replace hb := hb.trans (hx.mono hb.size)
  clear hx
  clear y3
  have hx := below_alloc w18 (.cells #[.slice A14 0 cap14, .int .i64 0, .bool false] 24)
  replace p0 := p0.keep hx
  replace b1 := b1.keep hx
  replace k4 := k4.keep hx
  replace k10 := k10.keep hx
  replace u4 := (u4.below hx).more hx.size
  replace hb := hb.trans (hx.mono hb.size)
  clear hx
  have c0 := b1.cell (i := 0) rfl
  have c1 := b1.cell (i := 1) rfl
  have c2 := b1.cell (i := 2) rfl
  go_wp2_with fail
  clear c0 c1 c2
  generalize World.alloc w18 _ = w19 at p0 b1 k4 k10 u4 hb ⊢
  clear u14
  have r := limits_any (some ⟨gw2, 0, none⟩) 1 1 [⟨5, 7, 0⟩] 0 3 false w19 (by simp) (by omega) (vecs_blk (l := [⟨5, 7, 0⟩]) (n := 1) p0 rfl rfl (by omega)) ⟨by omega, by omega⟩
  rw [show limL [⟨5, 7, 0⟩] 0 false 3 = [] by decide +kernel, show checkedE [⟨5, 7, 0⟩] 0 3 = 0 by decide +kernel] at r
  refine r.mono ?_
  clear r
  rintro e w20 ⟨v, rfl, ⟨S, rfl, hrow⟩, hx⟩
  obtain ⟨A16, cap16, rfl, -, u16⟩ := Vecs.of_own hrow
  clear hrow
  replace p0 := p0.keep hx
  replace b1 := b1.keep hx
  replace k4 := k4.keep hx
  replace k10 := k10.keep hx
  replace u4 := (u4.below hx).more hx.size
  replace hb := hb.trans (hx.mono hb.size)
  clear hx
  clear u16
  clear p0 b1
  go_wp2_with fail
  refine (at_any _ _ _).mono ?_
  rintro e w21 ⟨rfl, hx⟩
  replace k4 := k4.keep hx
  replace k10 := k10.keep hx
  replace u4 := (u4.below hx).more hx.size
  replace hb := hb.trans (hx.mono hb.size)
  clear hx
  have p10 := Blk.new w21 31 #[.int .i64 5, .int .i64 7, .int .i64 0]
  have hx := below_alloc w21 (.cells #[.int .i64 5, .int .i64 7, .int .i64 0] 31)
  replace k4 := k4.keep hx
  replace k10 := k10.keep hx
  replace u4 := (u4.below hx).more hx.size
  replace hb := hb.trans (hx.mono hb.size)
  clear hx
  go_wp2_with fail
  try simp only [World.size_alloc] at p10
  generalize World.alloc w21 _ = w22 at k4 k10 p10 u4 hb ⊢
  generalize w21.heap.size = gw22 at k4 k10 p10 ⊢
  have r := limits_any (some ⟨gw22, 0, none⟩) 1 1 [⟨5, 7, 0⟩] 0 3 true w22 (by simp) (by omega) (vecs_blk (l := [⟨5, 7, 0⟩]) (n := 1) p10 rfl rfl (by omega)) ⟨by omega, by omega⟩
  rw [show limL [⟨5, 7, 0⟩] 0 true 3 = [⟨30, 42, 0⟩] by decide +kernel, show checkedE [⟨5, 7, 0⟩] 0 3 = 0 by decide +kernel] at r
  refine r.mono ?_
  clear r
  rintro e w23 ⟨v, rfl, ⟨S, rfl, hrow⟩, hx⟩
  obtain ⟨A18, cap18, rfl, -, u18⟩ := Vecs.of_own hrow
  clear hrow
  replace k4 := k4.keep hx
  replace k10 := k10.keep hx
  replace p10 := p10.keep hx
  replace u4 := (u4.below hx).more hx.size
  replace hb := hb.trans (hx.mono hb.size)
  clear hx
  clear p10
  go_wp2_with fail
  refine (at_any _ _ _).mono ?_
  rintro e w24 ⟨rfl, hx⟩
  replace k4 := k4.keep hx
  replace k10 := k10.keep hx
  replace u4 := (u4.below hx).more hx.size
  replace u18 := (u18.below hx).more hx.size
  replace hb := hb.trans (hx.mono hb.size)
  clear hx
  go_wp2_with fail
  refine (at_any _ _ _).mono ?_
  rintro e w25 ⟨rfl, hx⟩
  replace k4 := k4.keep hx
  replace k10 := k10.keep hx
  replace u4 := (u4.below hx).more hx.size
  replace u18 := (u18.below hx).more hx.size
  replace hb := hb.trans (hx.mono hb.size)
  clear hx
  go_wp2_with fail
  refine (at_any _ _ _).mono ?_
  rintro e w26 ⟨rfl, hx⟩
  replace k4 := k4.keep hx
  replace k10 := k10.keep hx
  replace u4 := (u4.below hx).more hx.size
  replace u18 := (u18.below hx).more hx.size
  replace hb := hb.trans (hx.mono hb.size)
  clear hx
  have p11 := Blk.new w26 31 #[.int .i64 1, .int .i64 (-1), .int .i64 0, .int .i64 3, .int .i64 (-3), .int .i64 0, .int .i64 2, .int .i64 (-2), .int .i64 0]
  have hx := below_alloc w26 (.cells #[.int .i64 1, .int .i64 (-1), .int .i64 0, .int .i64 3, .int .i64 (-3), .int .i64 0, .int .i64 2, .int .i64 (-2), .int .i64 0] 31)
  replace k4 := k4.keep hx
  replace k10 := k10.keep hx
  replace u4 := (u4.below hx).more hx.size
  replace u18 := (u18.below hx).more hx.size
  replace hb := hb.trans (hx.mono hb.size)
  clear hx
  go_wp2_with fail
  try simp only [World.size_alloc] at p11
  generalize World.alloc w26 _ = w27 at k4 k10 p11 u4 u18 hb ⊢
  generalize w26.heap.size = gw27 at k4 k10 p11 ⊢
  have r := round_any (some ⟨gw27, 0, none⟩) 3 3 [⟨1, -1, 0⟩, ⟨3, -3, 0⟩, ⟨2, -2, 0⟩] 1 false w27 (by simp) (by omega) (vecs_blk (l := [⟨1, -1, 0⟩, ⟨3, -3, 0⟩, ⟨2, -2, 0⟩]) (n := 3) p11 rfl rfl (by omega))
  rw [show roundL [⟨1, -1, 0⟩, ⟨3, -3, 0⟩, ⟨2, -2, 0⟩] 1 = [⟨1, 0, 0⟩, ⟨2, -1, 0⟩, ⟨1, -1, 0⟩] by decide +kernel, show roundE [⟨1, -1, 0⟩, ⟨3, -3, 0⟩, ⟨2, -2, 0⟩] 1 = 0 by decide +kernel] at r
  refine r.mono ?_
  clear r
  rintro e w28 ⟨v, rfl, ⟨A20, cap20, rfl, u20⟩, hx⟩
  replace k4 := k4.keep hx
  replace k10 := k10.keep hx
  replace p11 := p11.keep hx
  replace u4 := (u4.below hx).more hx.size
  replace u18 := (u18.below hx).more hx.size
  replace hb := hb.trans (hx.mono hb.size)
  clear hx
  clear p11
  go_wp2_with fail
  refine (at_any _ _ _).mono ?_
  rintro e w29 ⟨rfl, hx⟩
  replace k4 := k4.keep hx
  replace k10 := k10.keep hx
  replace u4 := (u4.below hx).more hx.size
  replace u18 := (u18.below hx).more hx.size
  replace u20 := (u20.below hx).more hx.size
  replace hb := hb.trans (hx.mono hb.size)
  clear hx
  have p12 := Blk.new w29 31 #[.int .i64 2000001, .int .i64 0, .int .i64 0]
  have hx := below_alloc w29 (.cells #[.int .i64 2000001, .int .i64 0, .int .i64 0] 31)
  replace k4 := k4.keep hx
  replace k10 := k10.keep hx
  replace u4 := (u4.below hx).more hx.size
  replace u18 := (u18.below hx).more hx.size
  replace u20 := (u20.below hx).more hx.size
  replace hb := hb.trans (hx.mono hb.size)
  clear hx
  go_wp2_with fail
  try simp only [World.size_alloc] at p12
  generalize World.alloc w29 _ = w30 at k4 k10 p12 u4 u18 u20 hb ⊢
  generalize w29.heap.size = gw30 at k4 k10 p12 ⊢
  have r := round_any (some ⟨gw30, 0, none⟩) 1 1 [⟨2000001, 0, 0⟩] 1 false w30 (by simp) (by omega) (vecs_blk (l := [⟨2000001, 0, 0⟩]) (n := 1) p12 rfl rfl (by omega))
  rw [show roundL [⟨2000001, 0, 0⟩] 1 = [] by decide +kernel, show roundE [⟨2000001, 0, 0⟩] 1 = 16 by decide +kernel] at r
  refine r.mono ?_
  clear r
  rintro e w31 ⟨v, rfl, ⟨A22, cap22, rfl, u22⟩, hx⟩
  replace k4 := k4.keep hx
  replace k10 := k10.keep hx
  replace p12 := p12.keep hx
  replace u4 := (u4.below hx).more hx.size
  replace u18 := (u18.below hx).more hx.size
  replace u20 := (u20.below hx).more hx.size
  replace hb := hb.trans (hx.mono hb.size)
  clear hx
  clear u22
  clear p12
  go_wp2_with fail
  have r := round_any none 0 0 [] 0 false w31 (by simp) (by omega) Vecs.nil_
  rw [show roundL [] 0 = [] by decide +kernel, show roundE [] 0 = 8 by decide +kernel] at r
  refine r.mono ?_
  clear r
  rintro e w32 ⟨v, rfl, ⟨A24, cap24, rfl, u24⟩, hx⟩
  replace k4 := k4.keep hx
  replace k10 := k10.keep hx
  replace u4 := (u4.below hx).more hx.size
  replace u18 := (u18.below hx).more hx.size
  replace u20 := (u20.below hx).more hx.size
  replace hb := hb.trans (hx.mono hb.size)
  clear hx
  clear u24
  have y4 := Blk.new w32 31 CS1001
  have hx := below_alloc w32 (.cells CS1001 31)
  replace k4 := k4.keep hx
  replace k10 := k10.keep hx
  replace u4 := (u4.below hx).more hx.size
  replace u18 := (u18.below hx).more hx.size
  replace u20 := (u20.below hx).more hx.size
  replace hb := hb.trans (hx.mono hb.size)
  clear hx
  have hmk := M1001.out
  go_wp2_with fail
  clear hmk
  try simp only [World.size_alloc] at y4
  generalize World.alloc w32 _ = w33 at k4 k10 y4 u4 u18 u20 hb ⊢
  generalize w32.heap.size = gw33 at k4 k10 y4 ⊢
  have r := check_any (some ⟨gw33, 0, none⟩) 1001 (List.replicate 1001 zeroV) 0 false w33 (by simp) (vecs_zero y4 Z1001.out)
  rw [show checkE (List.replicate 1001 zeroV) 0 = 8 from checkE_bad (by unfold Valid; simp [fineV, fineB]), show ((List.replicate 1001 zeroV) : List Vec).length = 1001 by simp] at r
  refine r.mono ?_
  clear r
  rintro e w34 ⟨rfl, hx⟩
  replace k4 := k4.keep hx
  replace k10 := k10.keep hx
  replace y4 := y4.keep hx
  replace u4 := (u4.below hx).more hx.size
  replace u18 := (u18.below hx).more hx.size
  replace u20 := (u20.below hx).more hx.size
  replace hb := hb.trans (hx.mono hb.size)
  clear hx
  clear y4
  go_wp2_with fail
  refine (at_any _ _ _).mono ?_
  rintro e w35 ⟨rfl, hx⟩
  replace k4 := k4.keep hx
  replace k10 := k10.keep hx
  replace u4 := (u4.below hx).more hx.size
  replace u18 := (u18.below hx).more hx.size
  replace u20 := (u20.below hx).more hx.size
  replace hb := hb.trans (hx.mono hb.size)
  clear hx
  have p15 := Blk.new w35 31 #[.int .i64 0, .int .i64 (-1000000000001), .int .i64 0]
  have hx := below_alloc w35 (.cells #[.int .i64 0, .int .i64 (-1000000000001), .int .i64 0] 31)
  replace k4 := k4.keep hx
  replace k10 := k10.keep hx
  replace u4 := (u4.below hx).more hx.size
  replace u18 := (u18.below hx).more hx.size
  replace u20 := (u20.below hx).more hx.size
  replace hb := hb.trans (hx.mono hb.size)
  clear hx
  go_wp2_with fail
  try simp only [World.size_alloc] at p15
  generalize World.alloc w35 _ = w36 at k4 k10 p15 u4 u18 u20 hb ⊢
  generalize w35.heap.size = gw36 at k4 k10 p15 ⊢
  have r := check_any (some ⟨gw36, 0, none⟩) 1 [⟨0, -1000000000001, 0⟩] 0 false w36 (by simp) (vecs_blk (l := [⟨0, -1000000000001, 0⟩]) (n := 1) p15 rfl rfl (by omega))
  rw [show checkE [⟨0, -1000000000001, 0⟩] 0 = 8 from checkE_bad (by unfold Valid; simp [fineV, fineB]), show ([⟨0, -1000000000001, 0⟩] : List Vec).length = 1 by simp] at r
  refine r.mono ?_
  clear r
  rintro e w37 ⟨rfl, hx⟩
  replace k4 := k4.keep hx
  replace k10 := k10.keep hx
  replace p15 := p15.keep hx
  replace u4 := (u4.below hx).more hx.size
  replace u18 := (u18.below hx).more hx.size
  replace u20 := (u20.below hx).more hx.size
  replace hb := hb.trans (hx.mono hb.size)
  clear hx
  clear p15
  have y5 := Blk.new w37 31 CS1
  have hx := below_alloc w37 (.cells CS1 31)
  replace k4 := k4.keep hx
  replace k10 := k10.keep hx
  replace u4 := (u4.below hx).more hx.size
  replace u18 := (u18.below hx).more hx.size
  replace u20 := (u20.below hx).more hx.size
  replace hb := hb.trans (hx.mono hb.size)
  clear hx
  have hmk := M1.out
  go_wp2_with fail
  clear hmk
  try simp only [World.size_alloc] at y5
  generalize World.alloc w37 _ = w38 at k4 k10 y5 u4 u18 u20 hb ⊢
  generalize w37.heap.size = gw38 at k4 k10 y5 ⊢
  have r := check_any (some ⟨gw38, 0, none⟩) 1 (List.replicate 1 zeroV) 31 false w38 (by simp) (vecs_zero y5 Z1.out)
  rw [show checkE (List.replicate 1 zeroV) 31 = 8 from checkE_bad (by unfold Valid; simp [fineV, fineB]), show ((List.replicate 1 zeroV) : List Vec).length = 1 by simp] at r
  refine r.mono ?_
  clear r
  rintro e w39 ⟨rfl, hx⟩
  replace k4 := k4.keep hx
  replace k10 := k10.keep hx
  replace y5 := y5.keep hx
  replace u4 := (u4.below hx).more hx.size
  replace u18 := (u18.below hx).more hx.size
  replace u20 := (u20.below hx).more hx.size
  replace hb := hb.trans (hx.mono hb.size)
  clear hx
  clear y5
  go_wp2_with fail
  have f4 := fun W (hW : Below w39.heap.size w39 W) => (k4.keep hW).cell (i := 0) rfl
  have f10 := fun W (hW : Below w39.heap.size w39 W) => (k10.keep hW).cell (i := 0) rfl
  have C20 := fun W (hW : Below w39.heap.size w39 W) => (u20.below hW).more hW.size
  obtain ⟨b4, o4, rfl, hl4, q0, q1, q2⟩ := u4.at_ (k := 0) (by simp)
  simp only [Nat.zero_mul, Nat.add_zero, List.getElem_cons_zero] at q0 q1 q2
  have P4_0 := fun W (hW : Below w39.heap.size w39 W) => (hW.cell (p := ⟨b4, o4 , none⟩) hl4).trans q0
  have P4_1 := fun W (hW : Below w39.heap.size w39 W) => (hW.cell (p := ⟨b4, o4 + 1, none⟩) hl4).trans q1
  have P4_2 := fun W (hW : Below w39.heap.size w39 W) => (hW.cell (p := ⟨b4, o4 + 2, none⟩) hl4).trans q2
  clear q0 q1 q2 hl4
  have hve4 : ∀ W, (binOp .eql 31 (.agg #[.int .i64 10, .int .i64 14, .int .i64 0]) (.agg #[.int .i64 10, .int .i64 14, .int .i64 0])).run Try.prog W = .ok (.bool true) W := fun W => vecEql 10 14 0 10 14 0 W
  obtain ⟨b18, o18, rfl, hl18, q0, q1, q2⟩ := u18.at_ (k := 0) (by simp)
  simp only [Nat.zero_mul, Nat.add_zero, List.getElem_cons_zero] at q0 q1 q2
  have P18_0 := fun W (hW : Below w39.heap.size w39 W) => (hW.cell (p := ⟨b18, o18 , none⟩) hl18).trans q0
  have P18_1 := fun W (hW : Below w39.heap.size w39 W) => (hW.cell (p := ⟨b18, o18 + 1, none⟩) hl18).trans q1
  have P18_2 := fun W (hW : Below w39.heap.size w39 W) => (hW.cell (p := ⟨b18, o18 + 2, none⟩) hl18).trans q2
  clear q0 q1 q2 hl18
  have hve18 : ∀ W, (binOp .eql 31 (.agg #[.int .i64 30, .int .i64 42, .int .i64 0]) (.agg #[.int .i64 30, .int .i64 42, .int .i64 0])).run Try.prog W = .ok (.bool true) W := fun W => vecEql 30 42 0 30 42 0 W
  have hveg := Try.eqGuard31
  have HB := Lib.hid hb
  clear k4 k10 u4 u18 u20 hb
  simp only [List.append]
  apply wp_region_head 109 224 (hm := by kernel_rfl) (hN := rfl)
  case h =>
    simp only [List.take_succ_cons, List.take_zero]
    apply head_still (c := .bool true) (by kernel_rfl) (fun W _ => by kernel_rfl)
    (apply head_call (by kernel_rfl); (intro W; go_simp; exact ⟨rfl, rfl⟩); (intro W hW; exact alive_any W))
    apply head_still (c := .bool true) (by kernel_rfl) (fun W _ => by kernel_rfl)
    apply head_still (c := .bool true) (by kernel_rfl) (fun W _ => by kernel_rfl)
    apply head_still (c := .int .i64 6) (by kernel_rfl) (fun W _ => by kernel_rfl)
    apply head_still (c := .bool true) (by kernel_rfl) (fun W _ => by kernel_rfl)
    apply head_still (c := .bool true) (by kernel_rfl) (fun W _ => by kernel_rfl)
    apply head_still (c := .bool true) (by kernel_rfl) (fun W _ => by kernel_rfl)
    apply head_still (c := .int .i64 0) (by kernel_rfl) (fun W _ => by kernel_rfl)
    apply head_still (c := .bool true) (by kernel_rfl) (fun W _ => by kernel_rfl)
    apply head_still (c := .bool true) (by kernel_rfl) (fun W _ => by kernel_rfl)
    apply head_still (c := .bool true) (by kernel_rfl) (fun W _ => by kernel_rfl)
    iterate 1 (apply head_still (by kernel_rfl); (intro W hW; go_simp; (try rfl)))
    iterate 1 (apply head_still (by kernel_rfl); (intro W hW; go_simp; (try rfl)))
    iterate 1 (apply head_still (by kernel_rfl); (intro W hW; go_simp; (try rfl)))
    apply head_still (c := .bool true) (by kernel_rfl) (fun W _ => by kernel_rfl)
    apply head_still (c := .bool true) (by kernel_rfl) (fun W _ => by kernel_rfl)
    apply head_still (c := .bool true) (by kernel_rfl) (fun W _ => by kernel_rfl)
    iterate 1 (apply head_still (by kernel_rfl); (intro W hW; go_simp; (try rfl)))
    iterate 1 (apply head_still (by kernel_rfl); (intro W hW; go_simp; (try rfl)))
    iterate 1 (apply head_still (by kernel_rfl); (intro W hW; go_simp; (try rfl)))
    iterate 1 (apply head_still (by kernel_rfl); (intro W hW; go_simp; (try rfl)))
    (apply head_call (by kernel_rfl); (intro W; go_simp; exact ⟨rfl, rfl⟩); (intro W hW; exact at_any _ _ W))
    iterate 1 (apply head_still (by kernel_rfl); (intro W hW; go_simp; (try rfl)))
    apply head_still (c := .bool true) (by kernel_rfl) (fun W _ => by kernel_rfl)
    apply head_still (c := .bool true) (by kernel_rfl) (fun W _ => by kernel_rfl)
    apply head_still (c := .int .i64 2) (by kernel_rfl) (fun W _ => by kernel_rfl)
    apply head_still (c := .bool true) (by kernel_rfl) (fun W _ => by kernel_rfl)
    apply head_still (c := .bool true) (by kernel_rfl) (fun W _ => by kernel_rfl)
    apply head_still (c := .bool true) (by kernel_rfl) (fun W _ => by kernel_rfl)
    apply head_still (c := .int .i64 4) (by kernel_rfl) (fun W _ => by kernel_rfl)
    apply head_still (c := .bool true) (by kernel_rfl) (fun W _ => by kernel_rfl)
    apply head_still (c := .bool true) (by kernel_rfl) (fun W _ => by kernel_rfl)
    apply head_still (c := .bool true) (by kernel_rfl) (fun W _ => by kernel_rfl)
    apply head_still (c := .int .i64 0) (by kernel_rfl) (fun W _ => by kernel_rfl)
    apply head_still (c := .bool true) (by kernel_rfl) (fun W _ => by kernel_rfl)
    apply head_still (c := .bool true) (by kernel_rfl) (fun W _ => by kernel_rfl)
    apply head_still (c := .bool true) (by kernel_rfl) (fun W _ => by kernel_rfl)
    iterate 1 (apply head_still (by kernel_rfl); (intro W hW; go_simp; (try rfl)))
    iterate 1 (apply head_still (by kernel_rfl); (intro W hW; go_simp; (try rfl)))
    iterate 1 (apply head_still (by kernel_rfl); (intro W hW; go_simp; (try rfl)))
    apply head_still (c := .bool true) (by kernel_rfl) (fun W _ => by kernel_rfl)
    apply head_still (c := .bool true) (by kernel_rfl) (fun W _ => by kernel_rfl)
    apply head_still (c := .bool true) (by kernel_rfl) (fun W _ => by kernel_rfl)
    apply head_still (c := .int .i64 16) (by kernel_rfl) (fun W _ => by kernel_rfl)
    apply head_still (c := .bool true) (by kernel_rfl) (fun W _ => by kernel_rfl)
    apply head_still (c := .bool true) (by kernel_rfl) (fun W _ => by kernel_rfl)
    apply head_still (c := .bool true) (by kernel_rfl) (fun W _ => by kernel_rfl)
    apply head_still (c := .int .i64 16) (by kernel_rfl) (fun W _ => by kernel_rfl)
    apply head_still (c := .bool true) (by kernel_rfl) (fun W _ => by kernel_rfl)
    apply head_still (c := .bool true) (by kernel_rfl) (fun W _ => by kernel_rfl)
    apply head_still (c := .bool true) (by kernel_rfl) (fun W _ => by kernel_rfl)
    apply head_still (c := .int .i64 0) (by kernel_rfl) (fun W _ => by kernel_rfl)
    apply head_still (c := .bool true) (by kernel_rfl) (fun W _ => by kernel_rfl)
    apply head_still (c := .bool true) (by kernel_rfl) (fun W _ => by kernel_rfl)
    apply head_still (c := .bool true) (by kernel_rfl) (fun W _ => by kernel_rfl)
    apply head_still (c := .slice A16 0 cap16) (by kernel_rfl) (fun W _ => by kernel_rfl)
    iterate 1 (apply head_still (by kernel_rfl); (intro W hW; go_simp; (try rfl)))
    apply head_still (c := .bool true) (by kernel_rfl) (fun W _ => by kernel_rfl)
    apply head_still (c := .bool true) (by kernel_rfl) (fun W _ => by kernel_rfl)
    apply head_still (c := .bool true) (by kernel_rfl) (fun W _ => by kernel_rfl)
    apply head_still (c := .int .i64 0) (by kernel_rfl) (fun W _ => by kernel_rfl)
    apply head_still (c := .bool true) (by kernel_rfl) (fun W _ => by kernel_rfl)
    apply head_still (c := .bool true) (by kernel_rfl) (fun W _ => by kernel_rfl)
    apply head_still (c := .bool true) (by kernel_rfl) (fun W _ => by kernel_rfl)
    apply head_still (c := .slice (some ⟨b18, o18, none⟩) 1 cap18) (by kernel_rfl) (fun W _ => by kernel_rfl)
    iterate 1 (apply head_still (by kernel_rfl); (intro W hW; go_simp; (try rfl)))
    apply head_still (c := .bool true) (by kernel_rfl) (fun W _ => by kernel_rfl)
    apply head_still (c := .bool true) (by kernel_rfl) (fun W _ => by kernel_rfl)
    apply head_still (c := .bool true) (by kernel_rfl) (fun W _ => by kernel_rfl)
    apply head_still (c := .slice (some ⟨b18, o18, none⟩) 1 cap18) (by kernel_rfl) (fun W _ => by kernel_rfl)
    iterate 1 (apply head_still (by kernel_rfl); (intro W hW; go_simp; (try rfl)))
    iterate 1 (apply head_still (by kernel_rfl); (intro W hW; go_simp; (try rfl)))
    (apply head_call (by kernel_rfl); (intro W; go_simp; exact ⟨rfl, rfl⟩); (intro W hW; exact at_any _ _ W))
    iterate 1 (apply head_still (by kernel_rfl); (intro W hW; go_simp; (try rfl)))
    apply head_still (c := .bool true) (by kernel_rfl) (fun W _ => by kernel_rfl)
    apply head_still (c := .bool true) (by kernel_rfl) (fun W _ => by kernel_rfl)
    apply head_still (c := .int .i64 0) (by kernel_rfl) (fun W _ => by kernel_rfl)
    apply head_still (c := .bool true) (by kernel_rfl) (fun W _ => by kernel_rfl)
    apply head_still (c := .bool true) (by kernel_rfl) (fun W _ => by kernel_rfl)
    apply head_still (c := .bool true) (by kernel_rfl) (fun W _ => by kernel_rfl)
    apply head_still (c := .slice A20 3 cap20) (by kernel_rfl) (fun W _ => by kernel_rfl)
    (apply head_call (by kernel_rfl); (intro W; go_simp; exact ⟨rfl, rfl⟩); (intro W hW; exact at_any _ _ W))
    (apply head_call (by kernel_rfl); (intro W; go_simp; exact ⟨rfl, rfl⟩); (intro W hW; exact at_any _ _ W))
    (apply head_call (by kernel_rfl); (intro W; go_simp; exact ⟨rfl, rfl⟩); (intro W hW; exact at_any _ _ W))
    apply head_mem [] (fun v W => ∃ g, v = .slice (some ⟨g, 0, none⟩) 3 3 ∧ Blk W g 31 #[.int .i64 1, .int .i64 0, .int .i64 0, .int .i64 2, .int .i64 (-1), .int .i64 0, .int .i64 1, .int .i64 (-1), .int .i64 0]) (by kernel_rfl)
    · rintro v W W' ⟨g, hv, hg⟩ hb
      exact ⟨g, hv, hg.keep hb⟩
    · intro W hW _
      unfold Gives
      go_simp
      exact ⟨Blk.new W _ _, below_alloc W _⟩
    intro s3
    apply head_known [85] (.bool true) (by kernel_rfl)
    · intro W hW hk
      obtain ⟨g, hv, hg⟩ := hk.1 (by simp)
      subst hv
      unfold Gives
      go_simp
      have hs := sameVecs_any A20 (some ⟨g, 0, none⟩) 3 3 cap20 3 [⟨1, 0, 0⟩, ⟨2, -1, 0⟩, ⟨1, -1, 0⟩] [⟨1, 0, 0⟩, ⟨2, -1, 0⟩, ⟨1, -1, 0⟩] W rfl rfl (by omega) (by omega) (C20 W hW) (vecs_blk (n := 3) hg rfl rfl (by omega))
      rw [show decide (([⟨1, 0, 0⟩, ⟨2, -1, 0⟩, ⟨1, -1, 0⟩] : List Vec) = [⟨1, 0, 0⟩, ⟨2, -1, 0⟩, ⟨1, -1, 0⟩]) = true by simp] at hs
      exact hs.mono fun e W' ⟨he, hw⟩ => ⟨_, he, rfl, hw⟩
    apply head_still (c := .bool true) (by kernel_rfl) (fun W _ => by kernel_rfl)
    apply head_still (c := .bool true) (by kernel_rfl) (fun W _ => by kernel_rfl)
    apply head_still (c := .int .i64 16) (by kernel_rfl) (fun W _ => by kernel_rfl)
    apply head_still (c := .bool true) (by kernel_rfl) (fun W _ => by kernel_rfl)
    apply head_still (c := .bool true) (by kernel_rfl) (fun W _ => by kernel_rfl)
    apply head_still (c := .bool true) (by kernel_rfl) (fun W _ => by kernel_rfl)
    apply head_still (c := .int .i64 8) (by kernel_rfl) (fun W _ => by kernel_rfl)
    apply head_still (c := .bool true) (by kernel_rfl) (fun W _ => by kernel_rfl)
    apply head_still (c := .bool true) (by kernel_rfl) (fun W _ => by kernel_rfl)
    apply head_still (c := .bool true) (by kernel_rfl) (fun W _ => by kernel_rfl)
    apply head_still (c := .int .i64 8) (by kernel_rfl) (fun W _ => by kernel_rfl)
    apply head_still (c := .bool true) (by kernel_rfl) (fun W _ => by kernel_rfl)
    apply head_still (c := .bool true) (by kernel_rfl) (fun W _ => by kernel_rfl)
    apply head_still (c := .bool true) (by kernel_rfl) (fun W _ => by kernel_rfl)
    apply head_still (c := .int .i64 8) (by kernel_rfl) (fun W _ => by kernel_rfl)
    apply head_still (c := .bool true) (by kernel_rfl) (fun W _ => by kernel_rfl)
    apply head_still (c := .bool true) (by kernel_rfl) (fun W _ => by kernel_rfl)
    apply head_still (c := .bool true) (by kernel_rfl) (fun W _ => by kernel_rfl)
    apply head_still (c := .int .i64 8) (by kernel_rfl) (fun W _ => by kernel_rfl)
    apply head_still (c := .bool true) (by kernel_rfl) (fun W _ => by kernel_rfl)
    apply head_still (c := .bool true) (by kernel_rfl) (fun W _ => by kernel_rfl)
    apply head_still (c := .bool true) (by kernel_rfl) (fun W _ => by kernel_rfl)
    refine head_nil ?_
    intro W hW hF
    clear f4 f10 C20 P4_0 P4_1 P4_2 P18_0 P18_1 P18_2
    go_wp2_with fail
    go_ret
    exact ret_bool rfl (HB.out.trans (hW.mono HB.out.size))
  case hB => kernel_rfl
  all_goals rfl

open Go.ChangeShapes Go.WideShapes Go.ChangeAt

set_option maxRecDepth 100000 in
theorem snames_lifted (os : Os) (started : os.Started) (H : Type) (enc : TypeId × Value → H) :
    ReturnsInHanded {} Try.checked os 9 .any (Rows.subdivNamesSpec.pre6 enc Try.prog Try.f9 Rows.subdivNamesRow.domain false) (Rows.subdivNamesSpec.post enc Try.prog Try.f9 false true false false) := by
  refine returnsInHanded_of_change (C := Try.checked) own started (by kernel_rfl) Try.func9
    (ChangeSpec.witness6 (enc := enc) (C := Try.checked) false ⟨#[], #[], []⟩ 8 (by kernel_rfl) (by kernel_rfl) (by kernel_rfl) (by kernel_rfl)) ?_
  intro W base args ds gs before _ hW hcnd _
  have hW' := hW
  obtain ⟨p, q, hA0, hV, rfl, hfz, hnd⟩ := hW
  have hA : DataW.TrodAll enc Try.prog W 0 (fun _ => true) true Try.f9.params.toList args.toList ds p := hA0
  rw [Try.params9] at hA
  obtain ⟨hargs, rfl, rfl⟩ := trodAll_nil hA
  obtain rfl : args = #[] := by cases args; simp_all
  obtain ⟨rfl, rfl⟩ := trodVars_none hV
  refine (snames_walk W).mono fun e W' ⟨he, hb⟩ => ?_
  exact ⟨_, he, law_post laidOut hW' rfl (by kernel_rfl) rfl Try.underlying4 rfl rfl rfl hb⟩

theorem snames_holds : Rows.SubdivNamesSaid :=
  OpenClaim.holds_of_wide 9 Try.f9 rfl rfl rfl rfl rfl rfl rfl ⟨rfl, rfl, rfl, rfl, rfl⟩ rfl rfl rfl rfl rfl (by kernel_rfl) Try.func9 (by kernel_rfl)
    (of_decide_eq_true (by kernel_rfl)) (by unfold Func.isWrapper; first | (rw [if_pos (by decide +kernel)]; kernel_rfl) | (rw [if_neg (by decide +kernel)]; exact ⟨rfl, rfl⟩))
    (fun os started H enc _ => snames_lifted os started H enc)
#print axioms snames_holds
end Go.Proofs.Ytfdjhiomdimfcaa
