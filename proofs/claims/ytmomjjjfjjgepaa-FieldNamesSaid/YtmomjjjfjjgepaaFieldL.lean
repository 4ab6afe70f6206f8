/- The chapter's examples: alive answers true. -/
import Derived.Test.YtmomjjjfjjgepaaFieldI
import Derived.Test.YtmomjjjfjjgepaaFieldH
import Derived.Test.YtmomjjjfjjgepaaFieldJ
namespace Go.Proofs.Ytmomjjjfjjgepaa
open Go.RowKit Go.Rel

theorem pull_call (k x r : Int) (w : World) :
    Calls Try.prog 24 #[.int .u8 k, .int .i64 x, .int .i64 r] w fun e w' => e = .returned (.slice (some ⟨w.heap.size, 0, none⟩) 1 1) ∧ w' = w.alloc (.cells #[.int .i64 x, .int .i64 0, .int .u8 k, .int .i64 1, .int .i64 r] 52) := by
  go_enter Try.func24, Try.ntmps24
  go_wp2_with fail
  go_ret
  exact ⟨rfl, rfl⟩

/-- A new slice of one pull reads as it. -/
theorem recs_one {w : World} {g : Nat} {t : TypeId} {u : Pull} (h : Blk w g t #[.int .i64 u.x, .int .i64 u.y, .int .u8 u.kind, .int .i64 u.weight, .int .i64 u.reach]) : Recs Pull.cells 5 w w.heap.size (some ⟨g, 0, none⟩) [u] := fun _ =>
  ⟨g, 0, rfl, h.lt, fun i v hi j z hj => by
    cases i with
    | succ i => simp at hi
    | zero =>
      simp at hi
      subst hi
      match j, hj with
      | 0, hj => simp [Pull.cells] at hj; subst hj; exact h.cell rfl
      | 1, hj => simp [Pull.cells] at hj; subst hj; exact h.cell rfl
      | 2, hj => simp [Pull.cells] at hj; subst hj; exact h.cell rfl
      | 3, hj => simp [Pull.cells] at hj; subst hj; exact h.cell rfl
      | 4, hj => simp [Pull.cells] at hj; subst hj; exact h.cell rfl⟩

/-- A new slice reads as its list. -/
theorem recs_lit {α : Type} {cells : α → List Value} {z : Nat} (hz : ∀ v, (cells v).length = z) {w : World} {g : Nat} {t : TypeId} {cs : Array Value} {l : List α} (h : Blk w g t cs) (hl : cs.toList = l.flatMap cells) : Recs cells z w w.heap.size (some ⟨g, 0, none⟩) l := fun _ =>
  ⟨g, 0, rfl, h.lt, fun i v hi j u hj => by
    have hjz : j < z := by rw [← hz v]; exact (List.getElem?_eq_some_iff.1 hj).1
    have hk := flat_get hz l i j v hi hjz
    rw [hj, ← hl] at hk
    rw [Nat.zero_add]
    exact h.cell (by simpa using hk)⟩

set_option maxHeartbeats 1000000 in
theorem at_any (A : Option Addr) (n cap : Nat) (l : List Pull) (x y want ax : Int) (w : World) (hn : l.length = n) (hl : n ≤ 4611686018427387904) (hv : Recs Pull.cells 5 w w.heap.size A l) (h64 : ∀ u ∈ l, u.In64) (hp : (Pt.mk x y).In64)
    (h1 : valueE l ⟨x, y⟩ = 0) (h2 : valueV l ⟨x, y⟩ = want) (h3 : axisV l ⟨x, y⟩ = ax) :
    Calls Try.prog 25 #[.slice A n cap, .int .i64 x, .int .i64 y, .int .i64 want, .int .u8 ax] w (Ret w (.bool true)) := by
  have c1 := fun w hv => value_any A n cap l ⟨x, y⟩ w hn hl hv h64 hp
  have c2 := fun w hv => axisF_any A n cap l ⟨x, y⟩ w hn hl hv h64 hp
  rw [h1, h2] at c1
  rw [h1, h3] at c2
  clear hn h64 hp h1 h2 h3
  go_enter Try.func25, Try.ntmps25
  go_wp2_with fail
  refine (c1 _ hv).mono ?_
  rintro e w1 ⟨rfl, hb1⟩
  go_wp2_with fail
  refine (c2 _ ((hv.below hb1).more hb1.size)).mono ?_
  rintro e w2 ⟨rfl, hb2⟩
  replace hb1 := hb1.trans (hb2.mono hb1.size)
  clear hb2 hv c1 c2
  go_wp2_with fail
  go_ret
  exact ret_bool rfl hb1

def pullY : Pull := ⟨3, 0, 2, 1, 1⟩
def pullR : Pull := ⟨0, 0, 3, 1, 9⟩
theorem pullY_64 : ∀ u ∈ [pullY], u.In64 := by intro u hu; simp at hu; subst hu; simp [Pull.In64, pullY]
theorem pullR_64 : ∀ u ∈ [pullR], u.In64 := by intro u hu; simp at hu; subst hu; simp [Pull.In64, pullR]
def wantL : List Pt := [⟨0, 0⟩, ⟨1, 0⟩, ⟨2, 0⟩, ⟨2, 1⟩, ⟨2, 2⟩, ⟨2, 3⟩]
theorem trace_Y : traceE [pullY] ⟨0, 0⟩ 0 5 = 0 ∧ traceL [pullY] ⟨0, 0⟩ 0 5 = wantL := by decide +kernel

set_option maxRecDepth 100000 in
set_option maxHeartbeats 4000000 in
theorem alive_any (w : World) : Calls Try.prog 23 #[] w (Ret w (.bool true)) := by
  have a1 := fun A cap w hv => at_any A 1 cap [pullY] 2 0 (-1) 1 w rfl (by omega) hv pullY_64 (by simp [Pt.In64]) (by decide +kernel) (by decide +kernel) (by decide +kernel)
  have a2 := fun A cap w hv => at_any A 1 cap [pullY] 2 1 (-1) 1 w rfl (by omega) hv pullY_64 (by simp [Pt.In64]) (by decide +kernel) (by decide +kernel) (by decide +kernel)
  have a3 := fun A cap w hv => at_any A 1 cap [pullY] 3 0 (-2) 1 w rfl (by omega) hv pullY_64 (by simp [Pt.In64]) (by decide +kernel) (by decide +kernel) (by decide +kernel)
  have a4 := fun A cap w hv => at_any A 1 cap [pullY] 5 0 0 2 w rfl (by omega) hv pullY_64 (by simp [Pt.In64]) (by decide +kernel) (by decide +kernel) (by decide +kernel)
  have a5 := fun A cap w hv => at_any A 1 cap [pullR] 5 2 (-5) 1 w rfl (by omega) hv pullR_64 (by simp [Pt.In64]) (by decide +kernel) (by decide +kernel) (by decide +kernel)
  have a6 := fun A cap w hv => at_any A 1 cap [pullR] 2 5 5 0 w rfl (by omega) hv pullR_64 (by simp [Pt.In64]) (by decide +kernel) (by decide +kernel) (by decide +kernel)
  have a7 := fun A cap w hv => at_any A 1 cap [pullR] 3 3 0 2 w rfl (by omega) hv pullR_64 (by simp [Pt.In64]) (by decide +kernel) (by decide +kernel) (by decide +kernel)
  have ct := fun A cap w hv => trace_any A 1 cap [pullY] ⟨0, 0⟩ 0 5 w rfl (by omega) hv pullY_64 (by simp [Pt.In64]) (by omega)
  have hT := trace_Y
  go_enter Try.func23, Try.ntmps23
  go_wp2_with fail
  refine (pull_call _ _ _ _).mono ?_
  rintro e w' ⟨rfl, rfl⟩
  have k1 : Blk _ _ _ #[.int .i64 pullY.x, .int .i64 pullY.y, .int .u8 pullY.kind, .int .i64 pullY.weight, .int .i64 pullY.reach] := Blk.new w 52 #[.int .i64 3, .int .i64 0, .int .u8 2, .int .i64 1, .int .i64 1]
  have hb := below_alloc w (.cells #[.int .i64 3, .int .i64 0, .int .u8 2, .int .i64 1, .int .i64 1] 52)
  have K := Lib.hid (show _ ∧ _ from ⟨k1, hb⟩)
  clear k1 hb
  go_wp2_with fail
  obtain ⟨k1, hb⟩ := K.out
  generalize World.alloc w _ = w1 at k1 hb ⊢
  refine (pull_call _ _ _ _).mono ?_
  rintro e w' ⟨rfl, rfl⟩
  have k2 : Blk _ _ _ #[.int .i64 pullR.x, .int .i64 pullR.y, .int .u8 pullR.kind, .int .i64 pullR.weight, .int .i64 pullR.reach] := Blk.new w1 52 #[.int .i64 0, .int .i64 0, .int .u8 3, .int .i64 1, .int .i64 9]
  replace k1 := k1.alloc (.cells #[.int .i64 0, .int .i64 0, .int .u8 3, .int .i64 1, .int .i64 9] 52)
  replace hb := hb.trans ((below_alloc w1 (.cells #[.int .i64 0, .int .i64 0, .int .u8 3, .int .i64 1, .int .i64 9] 52)).mono hb.size)
  have K := Lib.hid (show _ ∧ _ ∧ _ from ⟨k1, k2, hb⟩)
  clear k1 k2 hb
  go_wp2_with fail
  obtain ⟨k1, k2, hb⟩ := K.out
  generalize World.alloc w1 _ = w2 at k1 k2 hb ⊢
  generalize w1.heap.size = g2 at k2 ⊢
  refine (ct _ _ _ (recs_one k1)).mono ?_
  rintro e w3 ⟨v, rfl, ⟨A1, cap1, rfl, hcap1, hv1⟩, hb1⟩
  rw [hT.1, hT.2]
  rw [hT.2] at hv1
  replace k1 := k1.keep hb1
  replace k2 := k2.keep hb1
  replace hb := hb.trans (hb1.mono hb.size)
  clear hb1 hcap1 ct hT
  have kw := Blk.new w3 24 #[.int .i64 0, .int .i64 0, .int .i64 1, .int .i64 0, .int .i64 2, .int .i64 0, .int .i64 2, .int .i64 1, .int .i64 2, .int .i64 2, .int .i64 2, .int .i64 3]
  have kwb := below_alloc w3 (.cells #[.int .i64 0, .int .i64 0, .int .i64 1, .int .i64 0, .int .i64 2, .int .i64 0, .int .i64 2, .int .i64 1, .int .i64 2, .int .i64 2, .int .i64 2, .int .i64 3] 24)
  replace k1 := k1.alloc (.cells #[.int .i64 0, .int .i64 0, .int .i64 1, .int .i64 0, .int .i64 2, .int .i64 0, .int .i64 2, .int .i64 1, .int .i64 2, .int .i64 2, .int .i64 2, .int .i64 3] 24)
  replace k2 := k2.alloc (.cells #[.int .i64 0, .int .i64 0, .int .i64 1, .int .i64 0, .int .i64 2, .int .i64 0, .int .i64 2, .int .i64 1, .int .i64 2, .int .i64 2, .int .i64 2, .int .i64 3] 24)
  replace hb := hb.trans (kwb.mono hb.size)
  replace hv1 := (hv1.below kwb).more kwb.size
  have K := Lib.hid (show _ ∧ _ ∧ _ ∧ _ ∧ _ from ⟨kw, k1, k2, hb, hv1⟩)
  clear kw kwb k1 k2 hb hv1
  go_wp2_with fail
  obtain ⟨kw, k1, k2, hb, hv1⟩ := K.out
  generalize World.alloc w3 _ = w4 at kw k1 k2 hb hv1 ⊢
  generalize w3.heap.size = gw at kw ⊢
  clear K
  refine (a1 _ _ _ (recs_one k1)).mono ?_
  rintro e w5 ⟨rfl, hb1⟩
  replace hb := hb.trans (hb1.mono hb.size)
  replace k1 := k1.keep hb1
  replace k2 := k2.keep hb1
  replace kw := kw.keep hb1
  replace hv1 := (hv1.below hb1).more hb1.size
  clear hb1 a1
  go_wp2_with fail
  refine (a2 _ _ _ (recs_one k1)).mono ?_
  rintro e w6 ⟨rfl, hb1⟩
  replace hb := hb.trans (hb1.mono hb.size)
  replace k1 := k1.keep hb1
  replace k2 := k2.keep hb1
  replace kw := kw.keep hb1
  replace hv1 := (hv1.below hb1).more hb1.size
  clear hb1 a2
  go_wp2_with fail
  refine (a3 _ _ _ (recs_one k1)).mono ?_
  rintro e w7 ⟨rfl, hb1⟩
  replace hb := hb.trans (hb1.mono hb.size)
  replace k1 := k1.keep hb1
  replace k2 := k2.keep hb1
  replace kw := kw.keep hb1
  replace hv1 := (hv1.below hb1).more hb1.size
  clear hb1 a3
  go_wp2_with fail
  refine (a4 _ _ _ (recs_one k1)).mono ?_
  rintro e w8 ⟨rfl, hb1⟩
  replace hb := hb.trans (hb1.mono hb.size)
  replace k1 := k1.keep hb1
  replace k2 := k2.keep hb1
  replace kw := kw.keep hb1
  replace hv1 := (hv1.below hb1).more hb1.size
  clear hb1 a4
  go_wp2_with fail
  refine (samePts_any A1 (some ⟨gw, 0, none⟩) _ 6 cap1 6 wantL wantL _ rfl rfl (by decide) (by omega) hv1 (recs_lit Pt.cells_len kw rfl)).mono ?_
  rintro e w9 ⟨rfl, hb1⟩
  replace hb := hb.trans (hb1.mono hb.size)
  replace k1 := k1.keep hb1
  replace k2 := k2.keep hb1
  replace kw := kw.keep hb1
  replace hv1 := (hv1.below hb1).more hb1.size
  clear hb1
  go_wp2_with fail
  refine (a5 _ _ _ (recs_one k2)).mono ?_
  rintro e w10 ⟨rfl, hb1⟩
  replace hb := hb.trans (hb1.mono hb.size)
  replace k1 := k1.keep hb1
  replace k2 := k2.keep hb1
  replace kw := kw.keep hb1
  replace hv1 := (hv1.below hb1).more hb1.size
  clear hb1 a5
  go_wp2_with fail
  refine (a6 _ _ _ (recs_one k2)).mono ?_
  rintro e w11 ⟨rfl, hb1⟩
  replace hb := hb.trans (hb1.mono hb.size)
  replace k1 := k1.keep hb1
  replace k2 := k2.keep hb1
  replace kw := kw.keep hb1
  replace hv1 := (hv1.below hb1).more hb1.size
  clear hb1 a6
  go_wp2_with fail
  refine (a7 _ _ _ (recs_one k2)).mono ?_
  rintro e w12 ⟨rfl, hb1⟩
  replace hb := hb.trans (hb1.mono hb.size)
  replace k1 := k1.keep hb1
  replace k2 := k2.keep hb1
  replace kw := kw.keep hb1
  replace hv1 := (hv1.below hb1).more hb1.size
  clear hb1 a7
  go_wp2_with fail
  go_ret
  exact ret_bool rfl hb

theorem valid_any (A : Option Addr) (n cap : Nat) (l : List Pull) (p : Pt) (w : World) (hn : l.length = n) (hl : n ≤ 4611686018427387904) (hv : Recs Pull.cells 5 w w.heap.size A l) (h64 : ∀ u ∈ l, u.In64) (hp : p.In64) :
    Calls Try.prog 22 #[.slice A n cap, p.v] w (Ret w (.bool (decide (Fine l ∧ inB p.x p.y = true)))) := by
  have c1 := fun w hv => refCheck_any A n cap l w hn hl hv h64
  have c2 := fun w => in_any p w hp
  have x1 := below_alloc w (.cells #[.int .i64 p.x, .int .i64 p.y] 24)
  have x3 := Blk.new w 24 #[.int .i64 p.x, .int .i64 p.y]
  have hx := Lib.hid (show _ ∧ _ from ⟨x1, x3⟩)
  clear hn x1 x3 h64 hp
  rcases fieldE_cases l with ⟨hf, he⟩ | ⟨hf, he⟩
  · rw [he] at c1
    have hi : inB p.x p.y = true ∨ inB p.x p.y = false := by cases inB p.x p.y <;> simp
    rcases hi with hi | hi
    all_goals
      have HO := Lib.hid (show decide (Fine l ∧ inB p.x p.y = true) = inB p.x p.y by rw [hi]; simp [hf])
      have HI := Lib.hid hi
      rw [HO.out, hi]
      rw [hi] at c2
      clear he hi hf HO
      go_enter Try.func22, Try.ntmps22
      go_wp2_with fail
      obtain ⟨x1, x3⟩ := hx.out
      generalize World.alloc _ _ = w0 at x1 x3 ⊢
      refine (c1 _ ((hv.below x1).more x1.size)).mono ?_
      rintro e w1 ⟨rfl, hb1⟩
      replace x1 := x1.trans (hb1.mono x1.size)
      replace x3 := x3.keep hb1
      have y0 := x3.cell (i := 0) rfl
      have y1 := x3.cell (i := 1) rfl
      clear hb1 hx c1 hv
      go_wp2_with fail
      refine (c2 _).mono ?_
      rintro e w2 ⟨rfl, hb1⟩
      replace x1 := x1.trans (hb1.mono x1.size)
      clear hb1 c2 y0 y1 x3
      go_wp2_with fail
      go_ret
      exact ret_bool rfl x1
  · have HO := Lib.hid (show decide (Fine l ∧ inB p.x p.y = true) = false by simp [hf])
    rw [HO.out]
    rcases he with he | he
    all_goals
      rw [he] at c1
      clear he hf HO
      go_enter Try.func22, Try.ntmps22
      go_wp2_with fail
      obtain ⟨x1, x3⟩ := hx.out
      generalize World.alloc _ _ = w0 at x1 x3 ⊢
      refine (c1 _ ((hv.below x1).more x1.size)).mono ?_
      rintro e w1 ⟨rfl, hb1⟩
      replace x1 := x1.trans (hb1.mono x1.size)
      clear hb1 hx c1 hv x3 c2
      go_wp2_with fail
      go_ret
      exact ret_bool rfl x1

theorem refCheck_big (A : Option Addr) (n cap : Nat) (w : World) (hbig : 60 < n) (hl : n ≤ 9223372036854775807) :
    Calls Try.prog 20 #[.slice A n cap] w (Ret w (.int .i64 4)) := by
  go_enter Try.func20, Try.ntmps20
  go_wp2_with fail
  go_ret
  exact ret_int rfl (Below.refl _ _)

/-- valid, for whatever length. -/
theorem valid_all (A : Option Addr) (n cap : Nat) (l : List Pull) (p : Pt) (w : World) (hn : l.length = n) (hl : n ≤ 9223372036854775807) (hv : Recs Pull.cells 5 w w.heap.size A l) (h64 : ∀ u ∈ l, u.In64) (hp : p.In64) :
    Calls Try.prog 22 #[.slice A n cap, p.v] w (Ret w (.bool (decide (Fine l ∧ inB p.x p.y = true)))) := by
  by_cases h : n ≤ 4611686018427387904
  · exact valid_any A n cap l p w hn h hv h64 hp
  · have HO := Lib.hid (show decide (Fine l ∧ inB p.x p.y = true) = false by rw [decide_eq_false_iff_not]; intro hf; have := hf.1.1; omega)
    have c1 := fun w => refCheck_big A n cap w (by omega) hl
    have x1 := Lib.hid (below_alloc w (.cells #[.int .i64 p.x, .int .i64 p.y] 24))
    rw [HO.out]
    clear hn h hv h64 hp
    go_enter Try.func22, Try.ntmps22
    go_wp2_with fail
    replace x1 := x1.out
    generalize World.alloc _ _ = w0 at x1 ⊢
    refine (c1 _).mono ?_
    rintro e w1 ⟨rfl, hb1⟩
    replace x1 := x1.trans (hb1.mono x1.size)
    clear hb1 c1
    go_wp2_with fail
    go_ret
    exact ret_bool rfl x1
end Go.Proofs.Ytmomjjjfjjgepaa
