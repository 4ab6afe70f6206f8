/- Fields and points among a law's arguments, opened. -/
import Derived.Test.YtmomjjjfjjgepaaRows
import Derived.Test.YtmomjjjfjjgepaaFieldD
namespace Go.Rel
open Go.RowKit Go.ChangeShapes Go.WideShapes Go.Deep Go.Joins
section
variable {H : Type} {enc : TypeId × Value → H} {P : Program}
/-- A pull's cells. -/
theorem cells_pull {W : World} {base : Nat} {sp : Nat → Bool} {held : Bool} {n : Nat} {t tp ti tk : TypeId} {f0 f1 f2 f3 g0 g1 : Field} {cs : List Value} {x : DataW H × List MemPlace} (ht : P.underlying t = some (.struct #[f0, f1, f2, f3])) (hp : P.underlying tp = some (.struct #[g0, g1]))
    (hi : P.underlying ti = some (.int .i64)) (hk : P.underlying tk = some (.int .u8)) (e0 : f0.type = tp ∧ f0.offset = 0) (e1 : f1.type = tk ∧ f1.offset = 2) (e2 : f2.type = ti ∧ f2.offset = 3) (e3 : f3.type = ti ∧ f3.offset = 4) (d0 : g0.type = ti ∧ g0.offset = 0) (d1 : g1.type = ti ∧ g1.offset = 1)
    (hC : P.cellsOf ti = 1) (hCk : P.cellsOf tk = 1) (hCp : P.cellsOf tp = 2) (h : DataW.trod enc P W base sp held n t cs = some x) (hl : cs.length = 5) : ∃ u : Pull, cs = u.cells ∧ u.In64 := by
  obtain ⟨ys, m, _, _, _, _, hf⟩ := DataW.trod_struct ht h
  match cs, hl with
  | [a, b, c, d, e], _ =>
    have h0 := hf 0 f0 rfl
    have h1 := hf 1 f1 rfl
    have h2 := hf 2 f2 rfl
    have h3 := hf 3 f3 rfl
    rw [e0.1, e0.2, hCp] at h0
    rw [e1.1, e1.2, hCk] at h1
    rw [e2.1, e2.2, hC] at h2
    rw [e3.1, e3.2, hC] at h3
    simp only [List.drop_zero, List.take_succ_cons, List.take_zero, List.drop_succ_cons] at h0 h1 h2 h3
    have l4 : ys.length = 4 := by simp_all
    match ys, l4 with
    | [y0, y1, y2, y3], _ =>
      obtain ⟨x, y, hxy, w0, w1⟩ := cells_two hp hi d0 d1 hC h0 rfl
      simp only [List.cons.injEq, and_true] at hxy
      obtain ⟨rfl, rfl⟩ := hxy
      obtain ⟨k, rfl, w2⟩ := cell_int hk h1
      obtain ⟨q, rfl, w3⟩ := cell_int hi h2
      obtain ⟨r, rfl, w4⟩ := cell_int hi h3
      have b0 := wf_i64 w0
      have b1 := wf_i64 w1
      exact ⟨⟨x, y, k, q, r⟩, rfl, ⟨b0.1, b0.2, b1.1, b1.2⟩, wf_u8 w2, wf_i64 w3, wf_i64 w4⟩
end
end Go.Rel
namespace Go.Proofs.Ytmomjjjfjjgepaa
open Go.RowKit Go.ChangeShapes Go.WideShapes Go.ChangeAt Go.Joins Go.Rel Go.Deep

theorem own : ownKnob Try.prog.godebug = none := by kernel_rfl
theorem laidOut : laidOutB Try.prog = true := by kernel_rfl
theorem Try.cellsInt : Try.prog.cellsOf 3 = 1 := by kernel_rfl
theorem Try.cellsU8 : Try.prog.cellsOf 5 = 1 := by kernel_rfl
theorem Try.cellsPt : Try.prog.cellsOf 24 = 2 := by kernel_rfl
theorem Try.cellsPull : Try.prog.cellsOf 52 = 5 := by kernel_rfl

/-- A field among the arguments. -/
theorem open_field {H : Type} {enc : TypeId × Value → H} {W : World} {v : Value} {d : DataW H} {p : List MemPlace} (h : DataW.Trod enc Try.prog W 0 (fun _ => true) true 22 v d p) (hs : ∃ a n c, v = .slice a n c) :
    ∃ (A : Option Addr) (n cap : Nat) (l : List Pull), v = .slice A n cap ∧ l.length = n ∧ n ≤ 9223372036854775807 ∧ n ≤ cap ∧ (A = none → cap = 0) ∧ Recs Pull.cells 5 W W.heap.size A l ∧ ∀ u ∈ l, u.In64 := by
  obtain ⟨a, n, c, rfl⟩ := hs
  obtain ⟨fuel, h⟩ := h
  exact open_recs (Q := Pull.In64) Try.underlying22 Try.cellsPull (by omega) Pull.cells_len (fun m sp held cs y hy hl => cells_pull Try.underlying52 Try.underlying24 Try.underlying3 Try.underlying5 ⟨rfl, rfl⟩ ⟨rfl, rfl⟩ ⟨rfl, rfl⟩ ⟨rfl, rfl⟩ ⟨rfl, rfl⟩ ⟨rfl, rfl⟩ Try.cellsInt Try.cellsU8 Try.cellsPt hy hl) h

/-- A point among the arguments. -/
theorem open_point {H : Type} {enc : TypeId × Value → H} {W : World} {r : Reach} {b0 : Nat} {v : Value} {d : DataW H} {p : List MemPlace} (hv : Value.okWide Try.prog W r b0 24 v) (h : DataW.Trod enc Try.prog W 0 (fun _ => true) true 24 v d p) :
    ∃ a : Pt, v = a.v ∧ a.In64 := by
  obtain ⟨c0, c1, y0, y1, m, rfl, -, -, h0, h1⟩ := open_agg2 Try.underlying24 (by kernel_rfl) Try.cellsPt hv h
  obtain ⟨x, rfl, w0⟩ := cell_int Try.underlying3 h0
  obtain ⟨y, rfl, w1⟩ := cell_int Try.underlying3 h1
  have b0 := wf_i64 w0
  have b1 := wf_i64 w1
  exact ⟨⟨x, y⟩, rfl, b0.1, b0.2, b1.1, b1.2⟩
end Go.Proofs.Ytmomjjjfjjgepaa
