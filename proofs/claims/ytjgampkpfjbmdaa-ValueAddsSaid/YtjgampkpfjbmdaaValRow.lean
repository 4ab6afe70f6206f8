/- Values among a law's arguments, opened. -/
import Derived.Test.YtjgampkpfjbmdaaRows
import Derived.Test.YtjgampkpfjbmdaaRow
import Derived.Test.YtjgampkpfjbmdaaElems
import Derived.Test.YtjgampkpfjbmdaaValSpec
namespace Go.Rel
open Go.RowKit Go.ChangeShapes Go.WideShapes Go.Deep Go.Joins
section
variable {H : Type} {enc : TypeId × Value → H} {P : Program}
theorem list_of {n : Nat} {Q : Nat → Val → Tree → Prop} (h : ∀ i, i < n → ∃ y t, Q i y t) : ∃ (ys : List Val) (ts : List Tree), ys.length = n ∧ ts.length = n ∧ ∀ (i : Nat) (y : Val) (t : Tree), ys[i]? = some y → ts[i]? = some t → Q i y t := by
  induction n with
  | zero => exact ⟨[], [], rfl, rfl, fun i y t h => by simp at h⟩
  | succ n ih =>
    obtain ⟨ys, ts, h1, h2, h3⟩ := ih (fun i hi => h i (by omega))
    obtain ⟨y, t, hq⟩ := h n (by omega)
    refine ⟨ys ++ [y], ts ++ [t], by simp [h1], by simp [h2], fun i y' t' hy ht => ?_⟩
    rcases Nat.lt_or_ge i n with hlt | hge
    · rw [List.getElem?_append_left (by omega)] at hy ht
      exact h3 i y' t' hy ht
    · rw [List.getElem?_append_right (by omega)] at hy ht
      have : i = n := by
        rcases Nat.lt_or_ge (i - ys.length) 1 with h | h
        · omega
        · rw [List.getElem?_eq_none (by simpa using h)] at hy; cases hy
      subst this
      rw [h1, Nat.sub_self] at hy
      rw [h2, Nat.sub_self] at ht
      have e1 : y = y' := by simpa using hy
      have e2 : t = t' := by simpa using ht
      subst e1; subst e2
      exact hq
/-- A value's cells read as a tree. -/
theorem cells_val_read {W : World} {tv tl tr ti tk tb ts : TypeId} {f0 f1 f2 f3 f4 g0 g1 : Field} (hv : P.underlying tv = some (.struct #[f0, f1, f2, f3, f4])) (hl : P.underlying tl = some (.slice tv)) (hr : P.underlying tr = some (.struct #[g0, g1]))
    (hi : P.underlying ti = some (.int .i64)) (hk : P.underlying tk = some (.int .u8)) (hb : P.underlying tb = some .bool) (hs : P.underlying ts = some .string)
    (e0 : f0.type = tk ∧ f0.offset = 0) (e1 : f1.type = tr ∧ f1.offset = 1) (e2 : f2.type = tb ∧ f2.offset = 3) (e3 : f3.type = ts ∧ f3.offset = 4) (e4 : f4.type = tl ∧ f4.offset = 5) (d0 : g0.type = ti ∧ g0.offset = 0) (d1 : g1.type = ti ∧ g1.offset = 1)
    (cI : P.cellsOf ti = 1) (cK : P.cellsOf tk = 1) (cB : P.cellsOf tb = 1) (cS : P.cellsOf ts = 1) (cL : P.cellsOf tl = 1) (cR : P.cellsOf tr = 2) (cV : P.cellsOf tv = 6) :
    ∀ (n : Nat) (cs : List Value) (x : DataW H × List MemPlace), DataW.trod enc P W 0 (fun _ => true) true n tv cs = some x → ∃ (y : Val) (T : Tree), cs = y.cells ∧ RdB W W.heap.size T y := by
  intro n
  induction n using Nat.strongRecOn with
  | _ n ih =>
    intro cs x h
    obtain ⟨ys, m, hm, _, hcl, _, hf⟩ := DataW.trod_struct hv h
    rw [cV] at hcl
    match cs, hcl with
    | [a, b, c, d, e, f], _ =>
      have h0 := hf 0 f0 rfl
      have h1 := hf 1 f1 rfl
      have h2 := hf 2 f2 rfl
      have h3 := hf 3 f3 rfl
      have h4 := hf 4 f4 rfl
      rw [e0.1, e0.2, cK] at h0
      rw [e1.1, e1.2, cR] at h1
      rw [e2.1, e2.2, cB] at h2
      rw [e3.1, e3.2, cS] at h3
      rw [e4.1, e4.2, cL] at h4
      simp only [List.drop_zero, List.take_succ_cons, List.take_zero, List.drop_succ_cons] at h0 h1 h2 h3 h4
      have l5 : ys.length = 5 := by simp_all
      match ys, l5 with
      | [y0, y1, y2, y3, y4], _ =>
        obtain ⟨k, rfl, w0⟩ := cell_int hk h0
        obtain ⟨q1, q2, hq, w1, w2⟩ := cells_two hr hi d0 d1 cI h1 rfl
        simp only [List.cons.injEq, and_true] at hq
        obtain ⟨rfl, rfl⟩ := hq
        obtain ⟨t, rfl⟩ := cell_bool hb h2
        obtain ⟨s, hs1, -, hs2⟩ := DataW.trod_string hs h3
        simp only [List.cons.injEq, and_true] at hs1
        subst hs1
        have b0 := wf_u8 w0
        have b1 := wf_i64 w1
        have b2 := wf_i64 w2
        rcases DataW.trod_slice hl h4 with ⟨hcs, _⟩ | ⟨ad, len, cap, elems, rest, n', hn', hcs, _, hb0, hll, hm', hlen, hel, _, _⟩
        · simp only [List.cons.injEq, and_true] at hcs
          subst hcs
          exact ⟨⟨k, ⟨q1, q2⟩, t, s, none, 0, 0⟩, .node k ⟨q1, q2⟩ t s [], rfl, .mk ⟨k, ⟨q1, q2⟩, t, s, none, 0, 0⟩ [] [] ⟨b0.1, b0.2, b1.1, b1.2, b2.1, b2.2, by unfold maxLen at hs2; exact hs2, by simp, by simp, fun _ => rfl⟩ rfl rfl (fun h => by simp at h) (fun i t y h => by simp at h)⟩
        · simp only [List.cons.injEq, and_true] at hcs
          subst hcs
          have hel' : ∀ i, i < len → ∃ (y : Val) (T : Tree), W.cells? 0 (ad.add (i * 6)) 6 = some y.cells ∧ RdB W W.heap.size T y := fun i hi' => by
            have h5 := hel i hi'
            rw [cV] at h5
            rw [List.getElem?_eq_getElem (by omega)] at h5
            obtain ⟨cs', hc, hd⟩ := Option.bind_eq_some_iff.1 h5
            obtain ⟨y, T, rfl, hr'⟩ := ih n' (by omega) cs' _ hd
            exact ⟨y, T, hc, hr'⟩
          obtain ⟨vs, kids, hv1, hv2, hv3⟩ := list_of hel'
          refine ⟨⟨k, ⟨q1, q2⟩, t, s, some ad, len, cap⟩, .node k ⟨q1, q2⟩ t s kids, rfl, .mk ⟨k, ⟨q1, q2⟩, t, s, some ad, len, cap⟩ kids vs ⟨b0.1, b0.2, b1.1, b1.2, b2.1, b2.2, by unfold maxLen at hs2; exact hs2, hll, by unfold maxLen at hm'; exact hm', fun h => by cases h⟩ hv1 hv2 (fun hpos => ?_) (fun i t y ht hy => (hv3 i y t hy ht).2)⟩
          have hpt : 0 < kids.length := by omega
          have h00 : ∃ c, W.cell? ad = some c := by
            have := (World.cells?_some (hv3 0 vs[0] kids[0] (by simp [hpos]) (by simp [hpt])).1).2.2 0 (by omega)
            simp only [Nat.zero_mul] at this
            have e : (ad.add 0).add 0 = ad := by simp [Addr.add]
            rw [e] at this
            exact ⟨_, this⟩
          obtain ⟨c0, hc0⟩ := h00
          obtain ⟨ab, ao, asp⟩ := ad
          have hsp : asp = none := by
            cases asp with
            | none => rfl
            | some s => simp [World.cell?] at hc0; split at hc0 <;> simp_all
          subst hsp
          refine ⟨ab, ao, rfl, World.block_lt_of_cell? W _ hc0, fun i v hv' j u hj => ?_⟩
          have hiv : i < vs.length := (List.getElem?_eq_some_iff.1 hv').1
          have hik : i < kids.length := by omega
          obtain ⟨_, _, hat⟩ := World.cells?_some (hv3 i v kids[i] hv' (by simp [hik])).1
          have add_eq : ∀ i j : Nat, ((⟨ab, ao, none⟩ : Addr).add i).add j = ⟨ab, ao + i + j, none⟩ := fun i j => by
            unfold Addr.add; by_cases h1 : i = 0 <;> by_cases h2 : j = 0 <;> simp [h1, h2]
          have hj6 : j < 6 := (List.getElem?_eq_some_iff.1 hj).1
          have k0 := hat j hj6
          rw [add_eq] at k0
          rw [k0]
          exact hj
end
end Go.Rel
namespace Go.Proofs.Ytjgampkpfjbmdaa
open Go.RowKit Go.ChangeShapes Go.WideShapes Go.ChangeAt Go.Joins Go.Rel Go.Deep

theorem own : ownKnob Try.prog.godebug = none := by kernel_rfl
theorem laidOut : laidOutB Try.prog = true := by kernel_rfl
theorem Try.cInt : Try.prog.cellsOf 2 = 1 := by kernel_rfl
theorem Try.cU8 : Try.prog.cellsOf 5 = 1 := by kernel_rfl
theorem Try.cBool : Try.prog.cellsOf 4 = 1 := by kernel_rfl
theorem Try.cStr : Try.prog.cellsOf 9 = 1 := by kernel_rfl
theorem Try.cList : Try.prog.cellsOf 24 = 1 := by kernel_rfl
theorem Try.cRat : Try.prog.cellsOf 23 = 2 := by kernel_rfl
theorem Try.cVal : Try.prog.cellsOf 26 = 6 := by kernel_rfl

/-- A value among the arguments. -/
theorem open_val {H : Type} {enc : TypeId × Value → H} {W : World} {r : Reach} {b0 : Nat} {v : Value} {d : DataW H} {p : List MemPlace} (hv : Value.okWide Try.prog W r b0 26 v) (h : DataW.Trod enc Try.prog W 0 (fun _ => true) true 26 v d p) :
    ∃ (x : Val) (T : Tree), v = x.v ∧ RdB W W.heap.size T x := by
  obtain ⟨cs, rfl, -⟩ := okWide_struct Try.underlying26 hv
  obtain ⟨fuel, hf⟩ := h
  obtain ⟨y, T, hc, hr⟩ := cells_val_read Try.underlying26 Try.underlying24 Try.underlying23 Try.underlying2 Try.underlying5 Try.underlying4 Try.underlying9 ⟨rfl, rfl⟩ ⟨rfl, rfl⟩ ⟨rfl, rfl⟩ ⟨rfl, rfl⟩ ⟨rfl, rfl⟩ ⟨rfl, rfl⟩ ⟨rfl, rfl⟩
    Try.cInt Try.cU8 Try.cBool Try.cStr Try.cList Try.cRat Try.cVal fuel _ _ hf
  refine ⟨y, T, ?_, hr⟩
  have : cs = y.cells.toArray := by
    have := congrArg List.toArray hc
    simpa [Value.cells] using this
  rw [this]
  rfl
end Go.Proofs.Ytjgampkpfjbmdaa
