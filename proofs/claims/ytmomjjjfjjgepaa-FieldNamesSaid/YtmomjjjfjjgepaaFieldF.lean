/- sum and axis of the program, for a valid field and a point in range. -/
import Derived.Test.YtmomjjjfjjgepaaFieldE
namespace Go.Proofs.Ytmomjjjfjjgepaa
open Go.RowKit Go.Rel Go.Shelf
attribute [local go_sem] Oper.semAt_some

theorem near_stops (m : Nat) (hm : 1 ≤ m) (Bl Bp n₀ n cap : Nat) (A : Option Addr) (l : List Pull) (p : Pt) (hn : l.length = n) (hf : Fine l) (hp : inB p.x p.y = true) (w : World) (hn₀ : n₀ ≤ w.heap.size)
    (hl : Blk w Bl 22 #[.slice A n cap]) (hpt : Blk w Bp 24 #[.int .i64 p.x, .int .i64 p.y]) (hv : Recs Pull.cells 5 w n₀ A l) :
    SeqStopsK Fence.wide m Try.prog 38 #[.pointer (some ⟨Bl, 0, none⟩), .pointer (some ⟨Bp, 0, none⟩)] (fun x : Pull × Int => #[x.1.v, Value.int .i64 x.2]) (KeepP n₀ Bp) (fun ys => ys = nearK l p n) (fun pre => ∃ k, k ≤ n ∧ pre = nearK l p k) n w :=
  fun L J Jx W hW hJ _ hY h0 => near1_in m hm L Bl Bp n₀ n cap A l p hn hf hp J Jx hY W (Nat.le_trans hn₀ hW.size) hJ (hl.keep hW) (hpt.keep hW) (hv.below (hW.mono hn₀)) h0

theorem near_any (m : Nat) (A : Option Addr) (n cap : Nat) (p : Pt) (w : World) :
    CallsIn Fence.wide m Try.prog 36 #[.slice A n cap, p.v] w fun e w' => e = .returned (.func (.func 38) #[] #[.pointer (some ⟨w.heap.size, 0, none⟩), .pointer (some ⟨w.heap.size + 1, 0, none⟩)]) ∧
      w' = (w.alloc (.cells #[.slice A n cap] 22)).alloc (.cells #[.int .i64 p.x, .int .i64 p.y] 24) := by
  refine callsIn_of_wp Try.func36 rfl trivial ?_ rfl
  simp only [Try.ntmps36, List.size_toArray, List.length_cons, List.length_nil, Nat.reduceAdd, Nat.reduceSub, Array.replicate_succ, Array.replicate_zero, List.push_toArray, List.append_toArray, List.nil_append, List.cons_append]
  gi_wp2
  go_ret
  exact ⟨rfl, rfl⟩

theorem keepP_b {n₀ B : Nat} {w : World} (hn : n₀ ≤ w.heap.size) (hB : B < w.heap.size) (W : World) (l : Nat) (o o' : Obj) (hl : w.heap.size ≤ l) (h : W.heap[l]? = some o) (h1 : o.isCells = false) (h2 : o.isWalk = false) : KeepP n₀ B W (W.putObj l o') :=
  ⟨belowK_b hn W l o o' hl h h1 h2, World.putObj_heap_other (by omega)⟩

set_option maxRecDepth 100000 in
set_option maxHeartbeats 2000000 in
theorem sum_in (A : Option Addr) (n cap : Nat) (l : List Pull) (p : Pt) (w : World) (hn : l.length = n) (hv : Recs Pull.cells 5 w w.heap.size A l) (hf : Fine l) (hp : inB p.x p.y = true) :
    CallsIn Fence.wide 3 Try.prog 33 #[.slice A n cap, p.v] w (Ret w (.int .i64 (valueP l p))) := by
  have hval : accW (nearK l p n) = valueP l p := by
    have := accW_near hf p n (by omega)
    rw [this, ← hn, List.take_length]
  have HV := Lib.hid hval
  clear hval
  refine callsIn_of_wp_marks Try.func33 rfl trivial ?_ rfl
  simp only [Try.ntmps33, List.size_toArray, List.length_cons, List.length_nil, Nat.reduceAdd, Nat.reduceSub, Array.replicate_succ, Array.replicate_zero, List.push_toArray, List.append_toArray, List.nil_append, List.cons_append]
  gi_wp2_with (refine ⟨trivial, ?_⟩; gi_at_call 36; refine (near_any _ _ _ _ p _).mono ?_; rintro e w' ⟨rfl, rfl⟩)
  obtain ⟨x1, x2, x3, x4⟩ := boxes4 w #[.int .i64 p.x, .int .i64 p.y] #[.int .i64 0] #[.slice A n cap] #[.int .i64 p.x, .int .i64 p.y] 24 2 22 24
  have x5 : Blk ((((w.alloc (.cells #[.int .i64 p.x, .int .i64 p.y] 24)).alloc (.cells #[.int .i64 0] 2)).alloc (.cells #[.slice A n cap] 22)).alloc (.cells #[.int .i64 p.x, .int .i64 p.y] 24)) (w.heap.size + 1) 2 #[.int .i64 0] := by
    have := Blk.new (w.alloc (.cells #[.int .i64 p.x, .int .i64 p.y] 24)) 2 #[.int .i64 0]
    rw [World.size_alloc] at this
    exact (this.alloc _).alloc _
  generalize ((((w.alloc _).alloc _).alloc _).alloc _) = w0 at x1 x2 x3 x4 x5 ⊢
  refine wpIn_rangeFunc_ownG rfl (by omega) (gf := 38) (lb := #[.pointer (some ⟨w.heap.size + 1 + 1, 0, none⟩), .pointer (some ⟨w.heap.size + 1 + 1 + 1, 0, none⟩)]) rfl trivial (enters_of Try.func38 (by kernel_rfl) rfl)
    (near_stops 2 (by omega) (w.heap.size + 1 + 1) (w.heap.size + 1 + 1 + 1) w.heap.size n cap A l p hn hf hp w0 (by omega) x3 x4 (hv.below x1)) KeepP.trans (keepP_b (by omega) (by omega)) (Below.refl _ _) (fun _ => rfl)
    (fun pre W => (W.cell? ⟨w.heap.size + 1, 0, none⟩ = some (.int .i64 (accW pre)) ∧ W.frozen? ⟨w.heap.size + 1, 0, none⟩ = false) ∧ Below w.heap.size w W)
    (fun _ _ _ => False)
    (OwnFrom.and (Own.from (fun s A B row hs hg hr => ⟨cell_kept hs.1 hg hr, (frozen_kept hs.1 hg hr).trans hs.2⟩) _) (ownFrom_below (Nat.le_refl _) (by omega)))
    (fun _ _ _ _ _ hs _ _ => hs)
    ⟨⟨x5.cell (i := 0) rfl, x5.frozen 0⟩, x1⟩
    (fun x => { tmps := #[.slice A n cap, p.v, undef, .pointer (some ⟨w.heap.size, 0, none⟩), .int .i64 0, .pointer (some ⟨w.heap.size + 1, 0, none⟩), undef, .int .i64 x.2, .slice A n cap, .agg #[.int .i64 p.x, .int .i64 p.y],
      .func (.func 38) #[] #[.pointer (some ⟨w.heap.size + 1 + 1, 0, none⟩), .pointer (some ⟨w.heap.size + 1 + 1 + 1, 0, none⟩)], x.1.v, .int .i64 x.2, undef, undef, undef, undef], defers := [] }) ?assign ?body ?done ?stop
  case assign =>
    intro L x W K hK
    gi_wp2
    exact hK
  case body =>
    rintro L pre x W ⟨⟨hc, hfr⟩, hB⟩ _
    gi_wp2
    refine ⟨(KeepsOthers.setCell _ _ _).from _, ⟨(Below.refl w.heap.size W).setCell (p := ⟨w.heap.size + 1, 0, none⟩) (by simp) _, Below.heap_setCell _ _ _ _ (by simp only; omega)⟩, ⟨?_, by rw [World.frozen?_setCell]; exact hfr⟩, hB.setCell (p := ⟨w.heap.size + 1, 0, none⟩) (by simp) _⟩
    rw [accW_snoc, show IntKind.i64.wrap (accW pre + x.2) = wrap64 (accW pre + x.2) by rw [IntKind.wrap_i64]; unfold wrap64; rfl]
    exact World.cell?_setCell_same' _ _ _ (by rw [hc]; rfl)
  case done =>
    rintro D ys W hD rfl ⟨⟨hc, _⟩, hB⟩ hK
    rw [HV.out] at hc
    gi_wp2
    refine ⟨by simp, .inl ⟨_, _, rfl, run_takeDeferred hK, ?_⟩⟩
    exact ⟨_, results_tmp rfl _ _ _, rfl, hB.trans (belowK_b (w := w) (Nat.le_refl _) W D _ _ (by omega) hK rfl rfl)⟩
  case stop =>
    rintro D c pre W _ _ h _
    exact h.elim

theorem sum_any (A : Option Addr) (n cap : Nat) (l : List Pull) (p : Pt) (w : World) (hn : l.length = n) (hv : Recs Pull.cells 5 w w.heap.size A l) (hf : Fine l) (hp : inB p.x p.y = true) :
    Calls Try.prog 33 #[.slice A n cap, p.v] w (Ret w (.int .i64 (valueP l p))) :=
  callsIn_wide.1 (sum_in A n cap l p w hn hv hf hp)
end Go.Proofs.Ytmomjjjfjjgepaa
