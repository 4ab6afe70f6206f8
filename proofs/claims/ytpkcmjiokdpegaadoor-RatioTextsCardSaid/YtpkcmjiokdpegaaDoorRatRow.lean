/- Ratios among a law's arguments, opened: one ratio, a slice of ratios. -/
import Derived.Test.YtpkcmjiokdpegaaDoorRows
import Derived.Test.YtpkcmjiokdpegaaDoorRow
import Derived.Test.YtpkcmjiokdpegaaDoorRatH
namespace Go.Rel
open Go.RowKit Go.ChangeShapes Go.WideShapes Go.Deep Go.Joins
section
variable {H : Type} {enc : TypeId × Value → H} {P : Program}
/-- Two int fields, one behind the other. -/
theorem cells_rat {W : World} {base : Nat} {sp : Nat → Bool} {held : Bool} {n : Nat} {t ti : TypeId} {f0 f1 : Field} {cs : List Value} {x : DataW H × List MemPlace} (ht : P.underlying t = some (.struct #[f0, f1])) (hi : P.underlying ti = some (.int .i64))
    (e0 : f0.type = ti ∧ f0.offset = 0) (e1 : f1.type = ti ∧ f1.offset = 1) (hC : P.cellsOf ti = 1) (h : DataW.trod enc P W base sp held n t cs = some x) (hl : cs.length = 2) :
    ∃ v : Rat2, cs = [.int .i64 v.n, .int .i64 v.d] ∧ (Lit.int .i64 v.n).wf = true ∧ (Lit.int .i64 v.d).wf = true := by
  obtain ⟨ys, m, _, _, _, _, hf⟩ := DataW.trod_struct ht h
  match cs, hl with
  | [a, b], _ =>
    have h0 := hf 0 f0 rfl
    have h1 := hf 1 f1 rfl
    rw [e0.1, e0.2, hC] at h0
    rw [e1.1, e1.2, hC] at h1
    simp only [List.drop_zero, List.take_succ_cons, List.take_zero, List.drop_succ_cons] at h0 h1
    have l2 : ys.length = 2 := by simp_all
    match ys, l2 with
    | [y0, y1], _ =>
      obtain ⟨x, rfl, w0⟩ := cell_int hi h0
      obtain ⟨y, rfl, w1⟩ := cell_int hi h1
      exact ⟨⟨x, y⟩, rfl, w0, w1⟩

theorem wf_64 {v : Rat2} (h0 : (Lit.int .i64 v.n).wf = true) (h1 : (Lit.int .i64 v.d).wf = true) : -9223372036854775808 ≤ v.n ∧ v.n ≤ 9223372036854775807 ∧ -9223372036854775808 ≤ v.d ∧ v.d ≤ 9223372036854775807 := by
  simp [Lit.wf, IntKind.min, IntKind.max, IntKind.signed, IntKind.bits] at h0 h1
  omega

/-- A slice of ratios, opened. -/
theorem open_rats2 {W : World} {n : Nat} {t e ti : TypeId} {f0 f1 : Field} {v : Value} {x : DataW H × List MemPlace} (ht : P.underlying t = some (.slice e)) (he : P.underlying e = some (.struct #[f0, f1])) (hi : P.underlying ti = some (.int .i64))
    (e0 : f0.type = ti ∧ f0.offset = 0) (e1 : f1.type = ti ∧ f1.offset = 1) (hC : P.cellsOf ti = 1) (hE : P.cellsOf e = 2) (h : DataW.trod enc P W 0 (fun _ => true) true n t [v] = some x) :
    ∃ (A : Option Addr) (len cap : Nat) (l : List Rat2), v = .slice A len cap ∧ l.length = len ∧ len ≤ 9223372036854775807 ∧ len ≤ cap ∧ (A = none → cap = 0) ∧ Rats W W.heap.size A l ∧ ∀ a ∈ l, -9223372036854775808 ≤ a.n ∧ a.n ≤ 9223372036854775807 ∧ -9223372036854775808 ≤ a.d ∧ a.d ≤ 9223372036854775807 := by
  rcases open_slice ht h with ⟨hcs, _⟩ | ⟨a, len, cap, m, k, D, Pl, hcs, _, hlc, hm, hmm, _, hel⟩
  · simp only [List.cons.injEq, and_true] at hcs
    exact ⟨none, 0, 0, [], hcs, rfl, by omega, by omega, fun _ => rfl, fun h => by simp at h, by simp⟩
  · simp only [List.cons.injEq, and_true] at hcs
    simp only [if_true] at hmm
    rw [hE] at hel
    have hel' : ∀ i, i < len → ∃ b : Rat2, W.cells? 0 (a.add (i * 2)) 2 = some [.int .i64 b.n, .int .i64 b.d] ∧ (Lit.int .i64 b.n).wf = true ∧ (Lit.int .i64 b.d).wf = true := fun i hi' => by
      obtain ⟨cs', hc, hd⟩ := hel i (by omega)
      obtain ⟨b, rfl, hw⟩ := cells_rat he hi e0 e1 hC hd (World.cells?_some hc).2.1
      exact ⟨b, hc, hw⟩
    have hex : ∀ k, k ≤ len → ∃ l : List Rat2, l.length = k ∧ ∀ (i : Nat) (b : Rat2), l[i]? = some b → W.cells? 0 (a.add (i * 2)) 2 = some [.int .i64 b.n, .int .i64 b.d] ∧ (Lit.int .i64 b.n).wf = true ∧ (Lit.int .i64 b.d).wf = true := by
      intro k
      induction k with
      | zero => intro _; exact ⟨[], rfl, by simp⟩
      | succ k ih =>
        intro hk
        obtain ⟨l, hl, hp⟩ := ih (by omega)
        obtain ⟨b, hb⟩ := hel' k (by omega)
        refine ⟨l ++ [b], by simp [hl], fun i c hc => ?_⟩
        rcases Nat.lt_or_ge i l.length with hlt | hge
        · rw [List.getElem?_append_left hlt] at hc; exact hp i c hc
        · rw [List.getElem?_append_right hge] at hc
          have : i = k := by
            rcases Nat.lt_or_ge (i - l.length) 1 with h | h
            · omega
            · rw [List.getElem?_eq_none (by simpa using h)] at hc; cases hc
          subst this
          rw [hl, Nat.sub_self] at hc
          have : b = c := by simpa using hc
          subst this
          exact hb
    obtain ⟨l, hl, hp⟩ := hex len (Nat.le_refl _)
    refine ⟨some a, len, cap, l, hcs, hl, by unfold maxLen at hm; omega, by omega, (fun h => by cases h), fun hpos => ?_, fun b hb => ?_⟩
    · have h0 : ∃ c, W.cell? a = some c := by
        have := (World.cells?_some (hp 0 l[0] (by simp [hpos])).1).2.2 0 (by omega)
        simp only [Nat.zero_mul] at this
        have e : (a.add 0).add 0 = a := by simp [Addr.add]
        rw [e] at this
        exact ⟨_, this⟩
      obtain ⟨c0, hc0⟩ := h0
      obtain ⟨ab, ao, asp⟩ := a
      have hsp : asp = none := by
        cases asp with
        | none => rfl
        | some s => simp [World.cell?] at hc0; split at hc0 <;> simp_all
      subst hsp
      refine ⟨ab, ao, rfl, World.block_lt_of_cell? W _ hc0, fun i b hi => ?_⟩
      obtain ⟨_, _, hat⟩ := World.cells?_some (hp i b hi).1
      have add_eq : ∀ i j : Nat, ((⟨ab, ao, none⟩ : Addr).add i).add j = ⟨ab, ao + i + j, none⟩ := fun i j => by
        unfold Addr.add; by_cases h1 : i = 0 <;> by_cases h2 : j = 0 <;> simp [h1, h2]
      have k0 := hat 0 (by omega)
      have k1 := hat 1 (by omega)
      rw [add_eq] at k0 k1
      simp at k0 k1
      exact ⟨k0, k1⟩
    · obtain ⟨i, hi, rfl⟩ := List.mem_iff_getElem.1 hb
      have := (hp i l[i] (by simp [hi])).2
      exact wf_64 this.1 this.2
theorem open_rats {W : World} {n : Nat} {t e ti : TypeId} {f0 f1 : Field} {v : Value} {x : DataW H × List MemPlace} (ht : P.underlying t = some (.slice e)) (he : P.underlying e = some (.struct #[f0, f1])) (hi : P.underlying ti = some (.int .i64))
    (e0 : f0.type = ti ∧ f0.offset = 0) (e1 : f1.type = ti ∧ f1.offset = 1) (hC : P.cellsOf ti = 1) (hE : P.cellsOf e = 2) (h : DataW.trod enc P W 0 (fun _ => true) true n t [v] = some x) :
    ∃ (A : Option Addr) (len cap : Nat) (l : List Rat2), v = .slice A len cap ∧ l.length = len ∧ len ≤ 9223372036854775807 ∧ len ≤ cap ∧ Rats W W.heap.size A l ∧ ∀ a ∈ l, -9223372036854775808 ≤ a.n ∧ a.n ≤ 9223372036854775807 ∧ -9223372036854775808 ≤ a.d ∧ a.d ≤ 9223372036854775807 := by
  obtain ⟨A, len, cap, l, h1, h2, h3, h4, -, h5, h6⟩ := open_rats2 ht he hi e0 e1 hC hE h
  exact ⟨A, len, cap, l, h1, h2, h3, h4, h5, h6⟩
end
end Go.Rel
