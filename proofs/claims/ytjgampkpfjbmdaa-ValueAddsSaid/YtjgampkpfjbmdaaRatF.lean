/- set, run: a calculation. For valid ratios and for others. -/
import Derived.Test.YtjgampkpfjbmdaaRatE
import Derived.Defers
import Derived.RegionTactic
import Derived.BigRegion
namespace Go.Rel
open Go.RowKit
theorem Blk.drew_ {w : World} {g : Nat} {t : TypeId} {cs : Array Value} (h : Blk w g t cs) : Blk w.drew g t cs := h
end Go.Rel
namespace Go.Proofs.Ytjgampkpfjbmdaa
open Go.RowKit Go.Rel

set_option maxHeartbeats 1000000 in
theorem set_any (g : Nat) (a b c d x y n m : Int) (w : World) (hn : -9223372036854775808 ≤ n) (hn' : n ≤ 9223372036854775807) (hm : -9223372036854775808 ≤ m) (hm' : m ≤ 9223372036854775807)
    (hq : Blk w g 70 #[.int .i64 a, .int .i64 b, .int .i64 c, .int .i64 d, .int .i64 x, .int .i64 y, .int .i64 0]) :
    Calls Try.prog 50 #[.pointer (some ⟨g, 0, none⟩), .int .i64 n, .int .i64 m] w (fun e w' => e = .returned (.tuple #[]) ∧ Below g w w' ∧
      Blk w' g 70 #[.int .i64 a, .int .i64 b, .int .i64 c, .int .i64 d, .int .i64 (makeR n m).n, .int .i64 (makeR n m).d, .int .i64 (makeE n m)] ∧ ∀ k, k < w.heap.size → k ≠ g → w'.heap[k]? = w.heap[k]?) := by
  have y0 := hq.cell (i := 0) rfl
  have y6 := hq.cell (i := 6) rfl
  go_enter Try.func50, Try.ntmps50
  go_wp2_with fail
  refine (make_any n m _ hn hn' hm hm').mono ?_
  rintro e w1 ⟨rfl, hb1⟩
  have hq1 := hq.keep hb1
  have hlt := hq1.lt
  have z4 := hq1.cell (i := 4) rfl
  have z0 := hq1.cell (i := 0) rfl
  have z5 := hq1.cell (i := 5) rfl
  have z6 := hq1.cell (i := 6) rfl
  have z7 := hq1.frozen
  clear y0 y6
  have hB := ((hq1.set_ 4 (.int .i64 (makeR n m).n)).set_ 5 (.int .i64 (makeR n m).d)).set_ 6 (.int .i64 (makeE n m))
  have hfar : ∀ (k : Nat), k ≠ g → (((w1.setCell ⟨g, 4, none⟩ (.int .i64 (makeR n m).n)).setCell ⟨g, 5, none⟩ (.int .i64 (makeR n m).d)).setCell ⟨g, 6, none⟩ (.int .i64 (makeE n m))).heap[k]? = w1.heap[k]? := fun k hk => by
    rw [Below.heap_setCell _ _ _ _ hk, Below.heap_setCell _ _ _ _ hk, Below.heap_setCell _ _ _ _ hk]
  have hlow := ((((hb1.mono (Nat.le_of_lt hq.lt)).setCell (p := ⟨g, 4, none⟩) (Nat.le_refl _) (.int .i64 (makeR n m).n)).setCell (p := ⟨g, 5, none⟩) (Nat.le_refl _) (.int .i64 (makeR n m).d)).setCell (p := ⟨g, 6, none⟩) (Nat.le_refl _) (.int .i64 (makeE n m)))
  have HH := Lib.hid (show _ ∧ _ ∧ _ from ⟨hB, hfar, hlow⟩)
  clear hB hfar hlow
  go_wp2_with fail
  go_end0
  obtain ⟨hB, hfar, hlow⟩ := HH.out
  exact ⟨rfl, hlow, hB, fun k hk hne => (hfar k hne).trans (hb1.block k hk)⟩

/-- run's closure, called behind run's body: the result and the error are stored. -/
theorem run1_deferred (g h k : Nat) (x y z : Int) (u : FrameMode) (w : World) (h4 : w.cell? ⟨g, 4, none⟩ = some (.int .i64 x)) (h5 : w.cell? ⟨g, 5, none⟩ = some (.int .i64 y)) (h6 : w.cell? ⟨g, 6, none⟩ = some (.int .i64 z))
    (ho : Blk w h 23 #[.int .i64 0, .int .i64 0]) (hk : Blk w k 29 #[.int .i64 0]) (hne : h ≠ k) :
    CallsD Try.prog 49 #[.pointer (some ⟨g, 0, none⟩), .pointer (some ⟨h, 0, none⟩), .pointer (some ⟨k, 0, none⟩)] u w
      fun e u' w' => u' = u ∧ (e = .returned (.tuple #[]) ∧ w' = ((w.setCell ⟨h, 0, none⟩ (.int .i64 x)).setCell ⟨h, 1, none⟩ (.int .i64 y)).setCell ⟨k, 0, none⟩ (.int .i64 z)) := by
  have y0 := ho.cell (i := 0) rfl
  have y1 := ho.cell (i := 1) rfl
  have y2 := ho.frozen
  have z0 := hk.cell (i := 0) rfl
  have z2 := hk.frozen
  have hne' : ¬ k = h := fun e => hne e.symm
  clear ho hk
  go_enter_d Try.func49, Try.ntmps49
  go_wp2_with fail
  go_end0
  exact ⟨rfl, rfl⟩

def runV (a b : Rat2) (p q : Int) : Rat2 := if RatOk a ∧ RatOk b then makeR p q else ⟨0, 0⟩
def runE (a b : Rat2) (p q : Int) : Int := if RatOk a ∧ RatOk b then makeE p q else 8
theorem run_yes {a b : Rat2} (p q : Int) (h : RatOk a ∧ RatOk b) : runV a b p q = makeR p q ∧ runE a b p q = makeE p q ∧ orE (ratE a) (ratE b) = 0 := by
  unfold runV runE
  rw [if_pos h, if_pos h, ratE_ok h.1, ratE_ok h.2]
  exact ⟨rfl, rfl, rfl⟩
theorem run_no {a b : Rat2} (p q : Int) (h : ¬ (RatOk a ∧ RatOk b)) : runV a b p q = ⟨0, 0⟩ ∧ runE a b p q = 8 ∧ orE (ratE a) (ratE b) = 8 := by
  unfold runV runE
  rw [if_neg h, if_neg h]
  refine ⟨rfl, rfl, ?_⟩
  by_cases h1 : RatOk a
  · rw [ratE_ok h1, ratE_bad (fun h2 => h ⟨h1, h2⟩)]; rfl
  · rw [ratE_bad h1]; rfl

set_option maxHeartbeats 1000000 in
theorem run_ok (F : Nat) (a b : Rat2) (p q : Int) (w : World) (ha : Rat64 a) (hb : Rat64 b) (hp : -9223372036854775808 ≤ p) (hp' : p ≤ 9223372036854775807) (hq : -9223372036854775808 ≤ q) (hq' : q ≤ 9223372036854775807)
    (hcf : ∀ (args : Array Value) (w : World), (callFunc F args).run Try.prog w = .ok (.enter F args) w) (hF : ∀ w, Calls Try.prog F #[a.v, b.v] w (Ret w (.tuple #[.int .i64 p, .int .i64 q]))) (hok : RatOk a ∧ RatOk b) :
    Calls Try.prog 38 #[a.v, b.v, .func (.func F) #[] #[]] w (Ret w (.tuple #[(runV a b p q).v, .int .i64 (runE a b p q)])) := by
  have hmf : ∀ (fn : Fn) (first cap : Array Value) (w : World), (Instr.makeFunc fn first cap).run Try.prog w = .ok (.func fn first cap) w := fun _ _ _ _ => rfl
  have HY := Lib.hid (run_yes p q hok)
  clear hok
  go_enter_defers Try.func38, Try.ntmps38
  go_wp2_with fail
  have hbx := boxes4 w #[.int .i64 a.n, .int .i64 a.d] #[.int .i64 b.n, .int .i64 b.d] #[.int .i64 0, .int .i64 0] #[.int .i64 0] 23 23 23 29
  obtain ⟨x1, x2, x3, x4⟩ := hbx
  generalize World.alloc _ _ = w0 at x1 x2 x3 x4 ⊢
  refine (with_any a b _ ha hb).mono ?_
  rintro e w1 ⟨rfl, hb1⟩
  rw [HY.out.2.2]
  have r0 : Blk w1 (w.heap.size + 1 + 1) _ _ := Blk.keep x3 hb1
  have r1 : Blk w1 (w.heap.size + 1 + 1 + 1) _ _ := Blk.keep x4 hb1
  have hbw := x1.trans (hb1.mono (by omega))
  have hlt9 : w.heap.size + 1 + 1 + 1 < w1.heap.size := r1.lt
  clear x1 x2 x3 x4 hb1
  go_wp2_with fail
  refine (hF _).mono ?_
  rintro e w2 ⟨rfl, hb2⟩
  have q0 := (Blk.new w1 70 #[.int .i64 a.n, .int .i64 a.d, .int .i64 b.n, .int .i64 b.d, .int .i64 0, .int .i64 0, .int .i64 0]).keep hb2
  replace r0 := (r0.alloc (.cells #[.int .i64 a.n, .int .i64 a.d, .int .i64 b.n, .int .i64 b.d, .int .i64 0, .int .i64 0, .int .i64 0] 70)).keep hb2
  replace r1 := (r1.alloc (.cells #[.int .i64 a.n, .int .i64 a.d, .int .i64 b.n, .int .i64 b.d, .int .i64 0, .int .i64 0, .int .i64 0] 70)).keep hb2
  have hlt1 : w.heap.size ≤ w1.heap.size := hbw.size
  replace hbw := hbw.trans (((below_alloc w1 (.cells #[.int .i64 a.n, .int .i64 a.d, .int .i64 b.n, .int .i64 b.d, .int .i64 0, .int .i64 0, .int .i64 0] 70)).trans (hb2.mono (by simp))).mono hlt1)
  clear hb2
  go_wp2_with fail
  refine (set_any _ _ _ _ _ _ _ p q w2 hp hp' hq hq' q0).mono ?_
  rintro e w3 ⟨rfl, hb3, q3, hfar⟩
  have hne0 : w.heap.size + 1 + 1 ≠ w1.heap.size := by have := hlt9; omega
  have hne1 : w.heap.size + 1 + 1 + 1 ≠ w1.heap.size := by have := hlt9; omega
  replace r0 : Blk w3 (w.heap.size + 1 + 1) _ _ := (hfar _ r0.lt hne0).trans r0
  replace r1 : Blk w3 (w.heap.size + 1 + 1 + 1) _ _ := (hfar _ r1.lt hne1).trans r1
  replace hbw := hbw.trans (hb3.mono hlt1)
  clear hfar hb3
  have y0 := r0.cell (i := 0) rfl
  have y1 := r0.cell (i := 1) rfl
  have y2 := r0.frozen
  have z0 := r1.cell (i := 0) rfl
  have z2 := r1.frozen
  go_wp2_with fail
  go_region
  have hn01 : ¬ w.heap.size + 1 + 1 = w.heap.size + 1 + 1 + 1 := by omega
  have hn10 : ¬ w.heap.size + 1 + 1 + 1 = w.heap.size + 1 + 1 := by omega
  have s0 := (r0.set2 (.int .i64 0) (.int .i64 0)).far (p := ⟨w.heap.size + 1 + 1 + 1, 0, none⟩) hn01 (.int .i64 0)
  have s1 := ((r1.far (p := ⟨w.heap.size + 1 + 1, 0, none⟩) hn10 (.int .i64 0)).far (p := ⟨w.heap.size + 1 + 1, 1, none⟩) hn10 (.int .i64 0)).set_ 0 (.int .i64 0)
  have s2 := ((q3.far (p := ⟨w.heap.size + 1 + 1, 0, none⟩) (Ne.symm hne0) (.int .i64 0)).far (p := ⟨w.heap.size + 1 + 1, 1, none⟩) (Ne.symm hne0) (.int .i64 0)).far (p := ⟨w.heap.size + 1 + 1 + 1, 0, none⟩) (Ne.symm hne1) (.int .i64 0)
  have s3 := ((below_set2 hbw (show w.heap.size ≤ w.heap.size + 1 + 1 by omega) (.int .i64 0) (.int .i64 0)).setCell (p := ⟨w.heap.size + 1 + 1 + 1, 0, none⟩) (show w.heap.size ≤ w.heap.size + 1 + 1 + 1 by omega) (.int .i64 0)).drew
  replace s0 := s0.drew_
  replace s1 := s1.drew_
  replace s2 := s2.drew_
  clear y0 y1 y2 z0 z2 r0 r1 q3 hbw
  generalize World.drew _ = w4 at s0 s1 s2 s3 ⊢
  go_wp2_with fail
  refine leaves_cons (f := 49) (args := #[.pointer (some ⟨w1.heap.size, 0, none⟩), .pointer (some ⟨w.heap.size + 1 + 1, 0, none⟩), .pointer (some ⟨w.heap.size + 1 + 1 + 1, 0, none⟩)]) (by simp) (by simp [go_sem]) ?_
  refine (run1_deferred _ _ _ _ _ _ .returning _ (s2.cell (i := 4) rfl) (s2.cell (i := 5) rfl) (s2.cell (i := 6) rfl) s0 s1 hn01).mono ?_
  rintro e u' w'' ⟨rfl, rfl, rfl⟩
  have f0 := (s0.set2 (.int .i64 (makeR p q).n) (.int .i64 (makeR p q).d)).far (p := ⟨w.heap.size + 1 + 1 + 1, 0, none⟩) hn01 (.int .i64 (makeE p q))
  have f1 := ((s1.far (p := ⟨w.heap.size + 1 + 1, 0, none⟩) hn10 (.int .i64 (makeR p q).n)).far (p := ⟨w.heap.size + 1 + 1, 1, none⟩) hn10 (.int .i64 (makeR p q).d)).set_ 0 (.int .i64 (makeE p q))
  have f3 := ((below_set2 s3 (show w.heap.size ≤ w.heap.size + 1 + 1 by omega) (.int .i64 (makeR p q).n) (.int .i64 (makeR p q).d)).setCell (p := ⟨w.heap.size + 1 + 1 + 1, 0, none⟩) (show w.heap.size ≤ w.heap.size + 1 + 1 + 1 by omega) (.int .i64 (makeE p q)))
  have k0 := f0.cell (i := 0) rfl
  have k1 := f0.cell (i := 1) rfl
  have k2 := f1.cell (i := 0) rfl
  refine ⟨.tuple #[(makeR p q).v, .int .i64 (makeE p q)], by simp [results, Try.results38, go_sem, k0, k1, k2], by rw [HY.out.1, HY.out.2.1], f3⟩
set_option maxHeartbeats 1000000 in
theorem run_bad (F : Nat) (a b : Rat2) (p q : Int) (w : World) (ha : Rat64 a) (hb : Rat64 b)
    (hok : ¬ (RatOk a ∧ RatOk b)) :
    Calls Try.prog 38 #[a.v, b.v, .func (.func F) #[] #[]] w (Ret w (.tuple #[(runV a b p q).v, .int .i64 (runE a b p q)])) := by
  have hmf : ∀ (fn : Fn) (first cap : Array Value) (w : World), (Instr.makeFunc fn first cap).run Try.prog w = .ok (.func fn first cap) w := fun _ _ _ _ => rfl
  have HY := Lib.hid (run_no p q hok)
  clear hok
  go_enter_defers Try.func38, Try.ntmps38
  go_wp2_with fail
  have hbx := boxes4 w #[.int .i64 a.n, .int .i64 a.d] #[.int .i64 b.n, .int .i64 b.d] #[.int .i64 0, .int .i64 0] #[.int .i64 0] 23 23 23 29
  obtain ⟨x1, x2, x3, x4⟩ := hbx
  generalize World.alloc _ _ = w0 at x1 x2 x3 x4 ⊢
  refine (with_any a b _ ha hb).mono ?_
  rintro e w1 ⟨rfl, hb1⟩
  rw [HY.out.2.2]
  have r0 : Blk w1 (w.heap.size + 1 + 1) _ _ := Blk.keep x3 hb1
  have r1 : Blk w1 (w.heap.size + 1 + 1 + 1) _ _ := Blk.keep x4 hb1
  have hbw := x1.trans (hb1.mono (by omega))
  have hlt9 : w.heap.size + 1 + 1 + 1 < w1.heap.size := r1.lt
  clear x1 x2 x3 x4 hb1
  have q3 := Blk.new w1 70 #[.int .i64 a.n, .int .i64 a.d, .int .i64 b.n, .int .i64 b.d, .int .i64 0, .int .i64 0, .int .i64 8]
  replace r0 := r0.alloc (.cells #[.int .i64 a.n, .int .i64 a.d, .int .i64 b.n, .int .i64 b.d, .int .i64 0, .int .i64 0, .int .i64 8] 70)
  replace r1 := r1.alloc (.cells #[.int .i64 a.n, .int .i64 a.d, .int .i64 b.n, .int .i64 b.d, .int .i64 0, .int .i64 0, .int .i64 8] 70)
  have hlt1 : w.heap.size ≤ w1.heap.size := hbw.size
  replace hbw := hbw.trans ((below_alloc w1 (.cells #[.int .i64 a.n, .int .i64 a.d, .int .i64 b.n, .int .i64 b.d, .int .i64 0, .int .i64 0, .int .i64 8] 70)).mono hlt1)
  have hne0 : w.heap.size + 1 + 1 ≠ w1.heap.size := by have := hlt9; omega
  have hne1 : w.heap.size + 1 + 1 + 1 ≠ w1.heap.size := by have := hlt9; omega
  go_wp2_with fail
  generalize World.alloc _ _ = w3 at r0 r1 q3 hbw ⊢
  have y0 := r0.cell (i := 0) rfl
  have y1 := r0.cell (i := 1) rfl
  have y2 := r0.frozen
  have z0 := r1.cell (i := 0) rfl
  have z2 := r1.frozen
  go_region
  have hn01 : ¬ w.heap.size + 1 + 1 = w.heap.size + 1 + 1 + 1 := by omega
  have hn10 : ¬ w.heap.size + 1 + 1 + 1 = w.heap.size + 1 + 1 := by omega
  have s0 := (r0.set2 (.int .i64 0) (.int .i64 0)).far (p := ⟨w.heap.size + 1 + 1 + 1, 0, none⟩) hn01 (.int .i64 0)
  have s1 := ((r1.far (p := ⟨w.heap.size + 1 + 1, 0, none⟩) hn10 (.int .i64 0)).far (p := ⟨w.heap.size + 1 + 1, 1, none⟩) hn10 (.int .i64 0)).set_ 0 (.int .i64 0)
  have s2 := ((q3.far (p := ⟨w.heap.size + 1 + 1, 0, none⟩) (Ne.symm hne0) (.int .i64 0)).far (p := ⟨w.heap.size + 1 + 1, 1, none⟩) (Ne.symm hne0) (.int .i64 0)).far (p := ⟨w.heap.size + 1 + 1 + 1, 0, none⟩) (Ne.symm hne1) (.int .i64 0)
  have s3 := ((below_set2 hbw (show w.heap.size ≤ w.heap.size + 1 + 1 by omega) (.int .i64 0) (.int .i64 0)).setCell (p := ⟨w.heap.size + 1 + 1 + 1, 0, none⟩) (show w.heap.size ≤ w.heap.size + 1 + 1 + 1 by omega) (.int .i64 0)).drew
  replace s0 := s0.drew_
  replace s1 := s1.drew_
  replace s2 := s2.drew_
  clear y0 y1 y2 z0 z2 r0 r1 q3 hbw
  generalize World.drew _ = w4 at s0 s1 s2 s3 ⊢
  go_wp2_with fail
  refine leaves_cons (f := 49) (args := #[.pointer (some ⟨w1.heap.size, 0, none⟩), .pointer (some ⟨w.heap.size + 1 + 1, 0, none⟩), .pointer (some ⟨w.heap.size + 1 + 1 + 1, 0, none⟩)]) (by simp) (by simp [go_sem]) ?_
  refine (run1_deferred _ _ _ 0 0 8 .returning _ (s2.cell (i := 4) rfl) (s2.cell (i := 5) rfl) (s2.cell (i := 6) rfl) s0 s1 hn01).mono ?_
  rintro e u' w'' ⟨rfl, rfl, rfl⟩
  have f0 := (s0.set2 (.int .i64 0) (.int .i64 0)).far (p := ⟨w.heap.size + 1 + 1 + 1, 0, none⟩) hn01 (.int .i64 8)
  have f1 := ((s1.far (p := ⟨w.heap.size + 1 + 1, 0, none⟩) hn10 (.int .i64 0)).far (p := ⟨w.heap.size + 1 + 1, 1, none⟩) hn10 (.int .i64 0)).set_ 0 (.int .i64 8)
  have f3 := ((below_set2 s3 (show w.heap.size ≤ w.heap.size + 1 + 1 by omega) (.int .i64 0) (.int .i64 0)).setCell (p := ⟨w.heap.size + 1 + 1 + 1, 0, none⟩) (show w.heap.size ≤ w.heap.size + 1 + 1 + 1 by omega) (.int .i64 8))
  have k0 := f0.cell (i := 0) rfl
  have k1 := f0.cell (i := 1) rfl
  have k2 := f1.cell (i := 0) rfl
  refine ⟨.tuple #[.agg #[.int .i64 0, .int .i64 0], .int .i64 8], by simp [results, Try.results38, go_sem, k0, k1, k2], by rw [HY.out.1, HY.out.2.1], f3⟩

/-- run: any two ratios of 64 bits. f: what it gives where both are valid. -/
theorem run_any (F : Nat) (a b : Rat2) (p q : Int) (w : World) (ha : Rat64 a) (hb : Rat64 b)
    (hcf : ∀ (args : Array Value) (w : World), (callFunc F args).run Try.prog w = .ok (.enter F args) w)
    (hF : RatOk a ∧ RatOk b → (-9223372036854775808 ≤ p ∧ p ≤ 9223372036854775807 ∧ -9223372036854775808 ≤ q ∧ q ≤ 9223372036854775807) ∧ ∀ w, Calls Try.prog F #[a.v, b.v] w (Ret w (.tuple #[.int .i64 p, .int .i64 q]))) :
    Calls Try.prog 38 #[a.v, b.v, .func (.func F) #[] #[]] w (Ret w (.tuple #[(runV a b p q).v, .int .i64 (runE a b p q)])) := by
  by_cases hok : RatOk a ∧ RatOk b
  · obtain ⟨⟨h1, h2, h3, h4⟩, h5⟩ := hF hok
    exact run_ok F a b p q w ha hb h1 h2 h3 h4 hcf h5 hok
  · exact run_bad F a b p q w ha hb hok
end Go.Proofs.Ytjgampkpfjbmdaa
