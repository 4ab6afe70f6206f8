import Derived.Test.YtjgampkpfjbmdaaBase
import Derived.ProofKit
import Derived.OpenShut
import Derived.SizedLaws
import Derived.Deep.Slices
import Derived.Lib.SmallJoins
import Derived.Carry
namespace Go.Rel
open Go.RowKit Go.ChangeShapes Go.WideShapes Go.Deep Go.Joins

section
variable {H : Type} {enc : TypeId × Value → H} {P : Program}

/-- All arguments read behind the call as they read before. -/
theorem trodAll_stays (hl : laidOutB P = true) {W W' : World} {sp : Nat → Bool} : ∀ (ts : List TypeId) (vs : List Value) (ds : List (DataW H)) (ps : List MemPlace),
    (∀ t ∈ ts, P.readableRec t = true ∧ t < P.types.size) → DataW.TrodAll enc P W 0 (fun _ => true) true ts vs ds ps → (∀ p ∈ ps, W.sameAt W' p) → (∀ p ∈ ps, sp p.block = true) → DataW.TrodAll enc P W' 0 sp true ts vs ds ps
  | [], vs, ds, ps, _, h, _, _ => by obtain ⟨rfl, rfl, rfl⟩ := trodAll_nil h; rfl
  | t :: ts, vs, ds, ps, hr, h, hs, hsp => by
    obtain ⟨v, vs', d, ds', p, q, rfl, rfl, rfl, h1, h2⟩ := trodAll_cons h
    exact trodAll_cons_mk (WideElems.Trod_stays hl (hr t (by simp)).1 (hr t (by simp)).2 h1 (fun x hx => hs x (by simp [hx])) (fun x hx => hsp x (by simp [hx])))
      (trodAll_stays hl ts vs' ds' q (fun t' ht => hr t' (by simp [ht])) h2 (fun x hx => hs x (by simp [hx])) (fun x hx => hsp x (by simp [hx])))

/-- The end of a law's row: it returned true; what lay there lies there still. -/
theorem law_post {f : Func} {s : ChangeSpec} {W W' : World} {args : Array Value} {ds : List (DataW H)} {before : List MemPlace} (hl : laidOutB P = true)
    (hW : DataW.Whole enc P f.params.toList s.vars false W args.toList ds [] before) (hv : s.vars = []) (hrb : (f.params.toList.all fun t => P.readableRec t && decide (t < P.types.size)) = true)
    {tb : TypeId} (hres : f.resultTypes = #[tb]) (htb : P.underlying tb = some .bool) (hfn : (s.fn H ds).results = [.lit (.bool true)]) (hargs : (s.fn H ds).args = ds) (hvs : (s.fn H ds).vars = [])
    (hb : Below W.heap.size W W') : s.post enc P f false true false false W args (.bool true) W' := by
  have hr : ∀ t ∈ f.params.toList, P.readableRec t = true ∧ t < P.types.size := fun t ht => by
    have := List.all_eq_true.1 hrb t ht
    simpa using this
  have hW' := hW
  obtain ⟨p, q, hA, hV, rfl, hz, hn⟩ := hW
  rw [hv] at hV
  obtain ⟨-, rfl⟩ := trodVars_none hV
  simp only [List.append_nil] at hW'
  have hlt : ∀ x ∈ p, x.block < W.heap.size := fun x hx => hW'.lt x hx
  refine ⟨ds, [], p, [], p, [], hW', ?_, ?_, ?_, ?_, fun h => by cases h⟩
  · rw [List.append_nil, hfn, hres]
    exact trodAll_mk1 (shut_bool htb true)
  · rw [List.append_nil, hargs]
    exact trodAll_stays hl _ _ _ _ hr hA (fun x hx => hb.same (hlt x hx)) (fun x hx => by simpa using hlt x hx)
  · rw [List.append_nil, hvs, hv]
    rfl
  · exact hb.frame _

/-- An int field of one cell. -/
theorem cell_int {W : World} {base : Nat} {sp : Nat → Bool} {held : Bool} {n : Nat} {t : TypeId} {k : IntKind} {v : Value} {y : DataW H × List MemPlace} (ht : P.underlying t = some (.int k)) (h : DataW.trod enc P W base sp held n t [v] = some y) : ∃ x : Int, v = .int k x ∧ (Lit.int k x).wf = true := by
  obtain ⟨x, hx, _, hw⟩ := DataW.trod_int ht h
  simp only [List.cons.injEq, and_true] at hx
  exact ⟨x, hx, hw⟩
theorem cell_bool {W : World} {base : Nat} {sp : Nat → Bool} {held : Bool} {n : Nat} {t : TypeId} {v : Value} {y : DataW H × List MemPlace} (ht : P.underlying t = some .bool) (h : DataW.trod enc P W base sp held n t [v] = some y) : ∃ x : Bool, v = .bool x := by
  obtain ⟨x, hx, _⟩ := DataW.trod_bool ht h
  simp only [List.cons.injEq, and_true] at hx
  exact ⟨x, hx⟩

/-- Three int fields, one behind the other. -/
theorem cells_vec {W : World} {base : Nat} {sp : Nat → Bool} {held : Bool} {n : Nat} {t ti : TypeId} {f0 f1 f2 : Field} {cs : List Value} {x : DataW H × List MemPlace} (ht : P.underlying t = some (.struct #[f0, f1, f2])) (hi : P.underlying ti = some (.int .i64))
    (e0 : f0.type = ti ∧ f0.offset = 0) (e1 : f1.type = ti ∧ f1.offset = 1) (e2 : f2.type = ti ∧ f2.offset = 2) (hC : P.cellsOf ti = 1) (h : DataW.trod enc P W base sp held n t cs = some x) (hl : cs.length = 3) :
    ∃ v : Vec, cs = v.cells ∧ (Lit.int .i64 v.x).wf = true ∧ (Lit.int .i64 v.y).wf = true ∧ (Lit.int .i64 v.z).wf = true := by
  obtain ⟨ys, m, _, _, _, _, hf⟩ := DataW.trod_struct ht h
  match cs, hl with
  | [a, b, c], _ =>
    have h0 := hf 0 f0 rfl
    have h1 := hf 1 f1 rfl
    have h2 := hf 2 f2 rfl
    rw [e0.1, e0.2, hC] at h0
    rw [e1.1, e1.2, hC] at h1
    rw [e2.1, e2.2, hC] at h2
    simp only [List.drop_zero, List.take_succ_cons, List.take_zero, List.drop_succ_cons] at h0 h1 h2
    have l3 : ys.length = 3 := by simp_all
    match ys, l3 with
    | [y0, y1, y2], _ =>
      obtain ⟨x, rfl, w0⟩ := cell_int hi h0
      obtain ⟨y, rfl, w1⟩ := cell_int hi h1
      obtain ⟨z, rfl, w2⟩ := cell_int hi h2
      exact ⟨⟨x, y, z⟩, rfl, w0, w1, w2⟩

/-- A slice of vectors, opened. -/
theorem open_vecs {W : World} {n : Nat} {t e ti : TypeId} {f0 f1 f2 : Field} {v : Value} {x : DataW H × List MemPlace} (ht : P.underlying t = some (.slice e)) (he : P.underlying e = some (.struct #[f0, f1, f2])) (hi : P.underlying ti = some (.int .i64))
    (e0 : f0.type = ti ∧ f0.offset = 0) (e1 : f1.type = ti ∧ f1.offset = 1) (e2 : f2.type = ti ∧ f2.offset = 2) (hC : P.cellsOf ti = 1) (hE : P.cellsOf e = 3) (h : DataW.trod enc P W 0 (fun _ => true) true n t [v] = some x) :
    ∃ (A : Option Addr) (len cap : Nat) (l : List Vec), v = .slice A len cap ∧ l.length = len ∧ len ≤ 9223372036854775807 ∧ Vecs W W.heap.size A l ∧ ∀ a ∈ l, (Lit.int .i64 a.x).wf = true ∧ (Lit.int .i64 a.y).wf = true ∧ (Lit.int .i64 a.z).wf = true := by
  rcases open_slice ht h with ⟨hcs, _⟩ | ⟨a, len, cap, m, k, D, Pl, hcs, _, hlc, hm, hmm, _, hel⟩
  · simp only [List.cons.injEq, and_true] at hcs
    exact ⟨none, 0, 0, [], hcs, rfl, by omega, Vecs.nil_, by simp⟩
  · simp only [List.cons.injEq, and_true] at hcs
    simp only [if_true] at hmm
    rw [hE] at hel
    have hel' : ∀ i, i < len → ∃ b : Vec, W.cells? 0 (a.add (i * 3)) 3 = some b.cells ∧ (Lit.int .i64 b.x).wf = true ∧ (Lit.int .i64 b.y).wf = true ∧ (Lit.int .i64 b.z).wf = true := fun i hi' => by
      obtain ⟨cs', hc, hd⟩ := hel i (by omega)
      obtain ⟨b, rfl, hw⟩ := cells_vec he hi e0 e1 e2 hC hd (World.cells?_some hc).2.1
      exact ⟨b, hc, hw⟩
    have hex : ∀ k, k ≤ len → ∃ l : List Vec, l.length = k ∧ ∀ (i : Nat) (b : Vec), l[i]? = some b → W.cells? 0 (a.add (i * 3)) 3 = some b.cells ∧ (Lit.int .i64 b.x).wf = true ∧ (Lit.int .i64 b.y).wf = true ∧ (Lit.int .i64 b.z).wf = true := by
      intro k
      induction k with
      | zero => intro _; exact ⟨[], rfl, by simp⟩
      | succ k ih =>
        intro hk
        obtain ⟨l, hl, hp⟩ := ih (by omega)
        obtain ⟨b, hb⟩ := hel' k (by omega)
        refine ⟨l ++ [b], by simp [hl], fun i c hc => ?_⟩
        rcases Nat.lt_or_ge i l.length with hlt | hge
        · rw [List.getElem?_append_left hlt] at hc; exact hp i c hc
        · rw [List.getElem?_append_right hge] at hc
          have : i = k := by
            rcases Nat.lt_or_ge (i - l.length) 1 with h | h
            · omega
            · rw [List.getElem?_eq_none (by simpa using h)] at hc; cases hc
          subst this
          rw [hl, Nat.sub_self] at hc
          have : b = c := by simpa using hc
          subst this
          exact hb
    obtain ⟨l, hl, hp⟩ := hex len (Nat.le_refl _)
    refine ⟨some a, len, cap, l, hcs, hl, by unfold maxLen at hm; omega, fun hpos => ?_, fun b hb => ?_⟩
    · have h0 : ∃ c, W.cell? a = some c := by
        have := (World.cells?_some (hp 0 l[0] (by simp [hpos])).1).2.2 0 (by omega)
        simp only [Nat.zero_mul] at this
        have e : (a.add 0).add 0 = a := by simp [Addr.add]
        rw [e] at this
        exact ⟨_, this⟩
      obtain ⟨c0, hc0⟩ := h0
      obtain ⟨ab, ao, asp⟩ := a
      have hsp : asp = none := by
        cases asp with
        | none => rfl
        | some s => simp [World.cell?] at hc0; split at hc0 <;> simp_all
      subst hsp
      refine ⟨ab, ao, rfl, World.block_lt_of_cell? W _ hc0, fun i b hi => ?_⟩
      obtain ⟨_, _, hat⟩ := World.cells?_some (hp i b hi).1
      have add_eq : ∀ i j : Nat, ((⟨ab, ao, none⟩ : Addr).add i).add j = ⟨ab, ao + i + j, none⟩ := fun i j => by
        unfold Addr.add; by_cases h1 : i = 0 <;> by_cases h2 : j = 0 <;> simp [h1, h2]
      have k0 := hat 0 (by omega)
      have k1 := hat 1 (by omega)
      have k2 := hat 2 (by omega)
      rw [add_eq] at k0 k1 k2
      simp [Vec.cells] at k0 k1 k2
      exact ⟨k0, k1, k2⟩
    · obtain ⟨i, hi, rfl⟩ := List.mem_iff_getElem.1 hb
      exact (hp i l[i] (by simp [hi])).2
end
end Go.Rel
