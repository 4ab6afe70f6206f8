/- Texts put together: Base, Row, Elems. -/
import Derived.Below
import Derived.Laws.OwnMore
import Derived.WalkKit
import Derived.Lib.Hide
import Derived.Deep.Draws
import Derived.ProofKit
import Derived.OpenShut
import Derived.SizedLaws
import Derived.Deep.Slices
import Derived.Lib.SmallJoins
import Derived.Carry
import Derived.Laws.AppendOwn
import Derived.Laws.AppendOwnNone
section
namespace Go.Rel
open Go.RowKit

/-! ### How a call ends: words for the walks -/
/-- It returns v; what lay there lies there still. -/
def Ret (w : World) (v : Value) (e : Ending) (w' : World) : Prop := e = .returned v ∧ Below w.heap.size w w'
/-- It returns v; the world is the one of before. -/
def Same (w : World) (v : Value) (e : Ending) (w' : World) : Prop := e = .returned v ∧ w = w'
/-- It returns a value of which R is known. -/
def RetM (w : World) (R : Value → World → Prop) (e : Ending) (w' : World) : Prop := ∃ v, e = .returned v ∧ R v w' ∧ Below w.heap.size w w'

theorem ret_int {w w' : World} {k : IntKind} {a b : Int} (h : a = b) (hb : Below w.heap.size w w') : Ret w (.int k b) (.returned (.int k a)) w' := ⟨by rw [h], hb⟩
theorem ret_bool {w w' : World} {a b : Bool} (h : a = b) (hb : Below w.heap.size w w') : Ret w (.bool b) (.returned (.bool a)) w' := ⟨by rw [h], hb⟩
theorem same_int {w : World} {k : IntKind} {a b : Int} (h : a = b) : Same w (.int k b) (.returned (.int k a)) w := ⟨by rw [h], rfl⟩
theorem Same.ret {w : World} {v : Value} {e : Ending} {w' : World} (h : Same w v e w') : Ret w v e w' := ⟨h.1, h.2 ▸ Below.refl _ _⟩

theorem bcell {W w1 : World} (hb : Below W.heap.size W w1) : (∀ b o, b < W.heap.size → w1.cell? ⟨b, o, none⟩ = W.cell? ⟨b, o, none⟩) ∧ (∀ b o, b < W.heap.size → w1.frozen? ⟨b, o, none⟩ = W.frozen? ⟨b, o, none⟩) :=
  ⟨fun b o h => hb.cell (p := ⟨b, o, none⟩) h, fun b o h => hb.frozen (p := ⟨b, o, none⟩) h⟩


/-- A cell of a block that has just been made. -/
theorem cell_new (w : World) (cs : Array Value) (t : TypeId) {i : Nat} {v : Value} (h : cs[i]? = some v) : (w.alloc (.cells cs t)).cell? ⟨w.heap.size, i, none⟩ = some v := by
  simp only [World.cell?, heap_alloc_new]
  simpa using h
theorem below_alloc (w : World) (o : Obj) : Below w.heap.size w (w.alloc o) := (Below.refl _ _).alloc (Nat.le_refl _) _

/-- New variables, one behind the other. -/
theorem boxes2 (w : World) (c0 c1 : Array Value) (t0 t1 : TypeId) : Below w.heap.size w ((w.alloc (.cells c0 t0)).alloc (.cells c1 t1)) ∧ ((w.alloc (.cells c0 t0)).alloc (.cells c1 t1)).heap.size = w.heap.size + 1 + 1 ∧
    ((w.alloc (.cells c0 t0)).alloc (.cells c1 t1)).heap[w.heap.size]? = some (.cells c0 t0 (0, 0)) ∧ ((w.alloc (.cells c0 t0)).alloc (.cells c1 t1)).heap[w.heap.size + 1]? = some (.cells c1 t1 (0, 0)) := by
  refine ⟨((Below.refl _ _).alloc (Nat.le_refl _) _).alloc (by simp) _, by simp, ?_, ?_⟩
  · rw [Below.heap_alloc _ _ _ (by simp)]; exact heap_alloc_new w _
  · have := heap_alloc_new (w.alloc (.cells c0 t0)) (.cells c1 t1); rwa [World.size_alloc] at this
theorem boxes3 (w : World) (c0 c1 c2 : Array Value) (t0 t1 t2 : TypeId) : Below w.heap.size w (((w.alloc (.cells c0 t0)).alloc (.cells c1 t1)).alloc (.cells c2 t2)) ∧ (((w.alloc (.cells c0 t0)).alloc (.cells c1 t1)).alloc (.cells c2 t2)).heap.size = w.heap.size + 1 + 1 + 1 ∧
    (((w.alloc (.cells c0 t0)).alloc (.cells c1 t1)).alloc (.cells c2 t2)).heap[w.heap.size]? = some (.cells c0 t0 (0, 0)) ∧ (((w.alloc (.cells c0 t0)).alloc (.cells c1 t1)).alloc (.cells c2 t2)).heap[w.heap.size + 1]? = some (.cells c1 t1 (0, 0)) ∧
    (((w.alloc (.cells c0 t0)).alloc (.cells c1 t1)).alloc (.cells c2 t2)).heap[w.heap.size + 1 + 1]? = some (.cells c2 t2 (0, 0)) := by
  obtain ⟨h1, h2, h3, h4⟩ := boxes2 w c0 c1 t0 t1
  refine ⟨h1.alloc (by omega) _, by simp, ?_, ?_, ?_⟩
  · rw [Below.heap_alloc _ _ _ (by omega)]; exact h3
  · rw [Below.heap_alloc _ _ _ (by omega)]; exact h4
  · have := heap_alloc_new ((w.alloc (.cells c0 t0)).alloc (.cells c1 t1)) (.cells c2 t2); rwa [h2] at this

/-- Four new variables; what is asked of the last two. -/
theorem boxes4 (w : World) (c0 c1 c2 c3 : Array Value) (t0 t1 t2 t3 : TypeId) : Below w.heap.size w ((((w.alloc (.cells c0 t0)).alloc (.cells c1 t1)).alloc (.cells c2 t2)).alloc (.cells c3 t3)) ∧ ((((w.alloc (.cells c0 t0)).alloc (.cells c1 t1)).alloc (.cells c2 t2)).alloc (.cells c3 t3)).heap.size = w.heap.size + 1 + 1 + 1 + 1 ∧
    ((((w.alloc (.cells c0 t0)).alloc (.cells c1 t1)).alloc (.cells c2 t2)).alloc (.cells c3 t3)).heap[w.heap.size + 1 + 1]? = some (.cells c2 t2 (0, 0)) ∧ ((((w.alloc (.cells c0 t0)).alloc (.cells c1 t1)).alloc (.cells c2 t2)).alloc (.cells c3 t3)).heap[w.heap.size + 1 + 1 + 1]? = some (.cells c3 t3 (0, 0)) := by
  obtain ⟨h1, h2, h3, h4, h5⟩ := boxes3 w c0 c1 c2 t0 t1 t2
  refine ⟨h1.alloc (by omega) _, by simp, ?_, ?_⟩
  · rw [Below.heap_alloc _ _ _ (by omega)]; exact h5
  · have := heap_alloc_new (((w.alloc (.cells c0 t0)).alloc (.cells c1 t1)).alloc (.cells c2 t2)) (.cells c3 t3); rwa [h2] at this

theorem retM {w w' : World} {R : Value → World → Prop} {v : Value} (h : R v w') (hb : Below w.heap.size w w') : RetM w R (.returned v) w' := ⟨v, rfl, h, hb⟩

/-- What the call owns it owns still behind whatever leaves all blocks as they were. -/
theorem ownsRow_below {w w' : World} {base : Nat} {e : TypeId} {size : Nat} {v : Value} {n : Nat} {xs : List Value} (h : w.ownsRow base e size v n xs) (hb : Below w.heap.size w w') : w'.ownsRow base e size v n xs :=
  h.kept (row := none) ⟨hb.os, hb.tape, hb.output, hb.size, fun k hk _ => hb.block k hk⟩ (by
    cases hv : v.ownBlock with
    | none => exact .inl rfl
    | some k => exact .inr (by simp))

/-! ### A block that is known whole -/
def Blk (w : World) (g : Nat) (t : TypeId) (cs : Array Value) : Prop := w.heap[g]? = some (.cells cs t (0, 0))
section
variable {w w' : World} {g : Nat} {t : TypeId} {cs : Array Value}
theorem Blk.lt (h : Blk w g t cs) : g < w.heap.size := (Array.getElem?_eq_some_iff.1 h).1
theorem Blk.cell (h : Blk w g t cs) {i : Nat} {v : Value} (hi : cs[i]? = some v) : w.cell? ⟨g, i, none⟩ = some v := by
  unfold Blk at h
  simp only [World.cell?, h]
  simpa using hi
theorem Blk.frozen (h : Blk w g t cs) (i : Nat) : w.frozen? ⟨g, i, none⟩ = false := by unfold Blk at h; simp [World.frozen?, h]
theorem Blk.new (w : World) (t : TypeId) (cs : Array Value) : Blk (w.alloc (.cells cs t)) w.heap.size t cs := heap_alloc_new w _
theorem Blk.below {B : Nat} (h : Blk w g t cs) (hb : Below B w w') (hg : g < B) : Blk w' g t cs := (hb.block g hg).trans h
theorem Blk.keep (h : Blk w g t cs) (hb : Below w.heap.size w w') : Blk w' g t cs := h.below hb h.lt
theorem Blk.set_ (h : Blk w g t cs) (i : Nat) (u : Value) : Blk (w.setCell ⟨g, i, none⟩ u) g t (cs.setIfInBounds i u) := by
  unfold Blk at h ⊢
  simp [World.setCell, Array.getElem?_modify, h]
theorem Blk.far (h : Blk w g t cs) {p : Addr} (hp : g ≠ p.block) (u : Value) : Blk (w.setCell p u) g t cs := (Below.heap_setCell w p u g hp).trans h
theorem Blk.alloc (h : Blk w g t cs) (o : Obj) : Blk (w.alloc o) g t cs := (Below.heap_alloc w o g h.lt).trans h
theorem Blk.set3 {x y z : Value} (h : Blk w g t #[x, y, z]) (a b c : Value) : Blk (((w.setCell ⟨g, 0, none⟩ a).setCell ⟨g, 1, none⟩ b).setCell ⟨g, 2, none⟩ c) g t #[a, b, c] := by
  simpa using ((h.set_ 0 a).set_ 1 b).set_ 2 c
end

theorem all_take_succ {α : Type} (l : List α) (p : α → Bool) (k : Nat) (hk : k < l.length) (h : (l.take k).all p = true) (hp : p l[k] = true) : (l.take (k+1)).all p = true := by
  rw [List.take_succ_eq_append_getElem hk, List.all_append, h]; simp [hp]

/-! ### Vectors, and slices of them -/
structure Vec where
  x : Int
  y : Int
  z : Int
  deriving DecidableEq

@[reducible] def Vec.v (a : Vec) : Value := .agg #[.int .i64 a.x, .int .i64 a.y, .int .i64 a.z]
def Vec.cells (a : Vec) : List Value := [.int .i64 a.x, .int .i64 a.y, .int .i64 a.z]

/-- A slice of vectors at the address A reads as l; it lies below block B. -/
def Vecs (w : World) (B : Nat) (A : Option Addr) (l : List Vec) : Prop :=
  0 < l.length → ∃ b off : Nat, A = some ⟨b, off, none⟩ ∧ b < B ∧ ∀ (i : Nat) (v : Vec), l[i]? = some v →
    w.cell? ⟨b, off + i * 3, none⟩ = some (.int .i64 v.x) ∧ w.cell? ⟨b, off + i * 3 + 1, none⟩ = some (.int .i64 v.y) ∧ w.cell? ⟨b, off + i * 3 + 2, none⟩ = some (.int .i64 v.z)

section
variable {w w' : World} {B B' : Nat} {A : Option Addr} {l : List Vec}
theorem Vecs.at_ (h : Vecs w B A l) {k : Nat} (hk : k < l.length) :
    ∃ b off : Nat, A = some ⟨b, off, none⟩ ∧ b < B ∧ w.cell? ⟨b, off + k * 3, none⟩ = some (.int .i64 l[k].x) ∧ w.cell? ⟨b, off + k * 3 + 1, none⟩ = some (.int .i64 l[k].y) ∧ w.cell? ⟨b, off + k * 3 + 2, none⟩ = some (.int .i64 l[k].z) := by
  obtain ⟨b, off, e, hb, hc⟩ := h (by omega)
  exact ⟨b, off, e, hb, hc k l[k] (by simp [hk])⟩
theorem Vecs.below (h : Vecs w B A l) (hb : Below B w w') : Vecs w' B A l := by
  intro hl
  obtain ⟨b, off, e, hB, hc⟩ := h hl
  refine ⟨b, off, e, hB, fun i v hi => ?_⟩
  obtain ⟨h1, h2, h3⟩ := hc i v hi
  exact ⟨(hb.cell hB).trans h1, (hb.cell hB).trans h2, (hb.cell hB).trans h3⟩
theorem Vecs.more (h : Vecs w B A l) (hB : B ≤ B') : Vecs w B' A l := by
  intro hl
  obtain ⟨b, off, e, hb, hc⟩ := h hl
  exact ⟨b, off, e, by omega, hc⟩
theorem Vecs.nil_ : Vecs w B A [] := fun h => by simp at h
/-- What the call itself has appended. -/
theorem Vecs.of_own {base : Nat} {e : TypeId} {v : Value} (h : w.ownsRow base e 3 v l.length (l.flatMap Vec.cells)) : ∃ A cap, v = .slice A l.length cap ∧ l.length ≤ cap ∧ Vecs w w.heap.size A l := by
  obtain ⟨_, h2⟩ := h
  rcases h2 with ⟨rfl, hn⟩ | ⟨g, cap, cur, rfl, _, hh, hnc, _, _, ht⟩
  · refine ⟨none, 0, by rw [hn], by omega, fun h => by omega⟩
  · refine ⟨_, cap, rfl, hnc, fun _ => ⟨g, 0, rfl, (Array.getElem?_eq_some_iff.1 hh).1, fun i v hi => ?_⟩⟩
    have key : ∀ (l : List Vec) (i : Nat) (v : Vec), l[i]? = some v → (l.flatMap Vec.cells)[i * 3]? = some (.int .i64 v.x) ∧ (l.flatMap Vec.cells)[i * 3 + 1]? = some (.int .i64 v.y) ∧ (l.flatMap Vec.cells)[i * 3 + 2]? = some (.int .i64 v.z) := by
      intro l
      induction l with
      | nil => intro i v h; simp at h
      | cons a l ih =>
        intro i v h
        cases i with
        | zero => simp at h; subst h; simp [Vec.cells]
        | succ i =>
          have h' := ih i v (by simpa using h)
          rw [List.flatMap_cons]
          have hl : (Vec.cells a).length = 3 := rfl
          refine ⟨?_, ?_, ?_⟩
          · rw [List.getElem?_append_right (by omega), hl, show (i + 1) * 3 - 3 = i * 3 by omega]; exact h'.1
          · rw [List.getElem?_append_right (by omega), hl, show (i + 1) * 3 + 1 - 3 = i * 3 + 1 by omega]; exact h'.2.1
          · rw [List.getElem?_append_right (by omega), hl, show (i + 1) * 3 + 2 - 3 = i * 3 + 2 by omega]; exact h'.2.2
    have hi' : i < l.length := (List.getElem?_eq_some_iff.1 hi).1
    have hcell : ∀ (j : Nat) (u : Value), j < l.length * 3 → (l.flatMap Vec.cells)[j]? = some u → w.cell? ⟨g, j, none⟩ = some u := by
      intro j u hj hu
      rw [← ht, List.getElem?_take_of_lt hj] at hu
      simp only [World.cell?, hh]
      simpa using hu
    obtain ⟨k1, k2, k3⟩ := key l i v hi
    simp only [Nat.zero_add]
    exact ⟨hcell _ _ (by omega) k1, hcell _ _ (by omega) k2, hcell _ _ (by omega) k3⟩
end
theorem Vecs.of_own_n {w : World} {l : List Vec} {n : Nat} {base : Nat} {e : TypeId} {v : Value} (hn : l.length = n) (h : w.ownsRow base e 3 v n (l.flatMap Vec.cells)) : ∃ A cap, v = .slice A n cap ∧ n ≤ cap ∧ Vecs w w.heap.size A l := by
  subst hn
  exact Vecs.of_own h
theorem cells_new_vec (w : World) (v : Vec) (t : TypeId) : ∀ (j : Nat) (u : Value), (Vec.cells v)[j]? = some u → (w.alloc (.cells #[.int .i64 v.x, .int .i64 v.y, .int .i64 v.z] t)).cell? ((⟨w.heap.size, 0, none⟩ : Addr).add j) = some u := by
  intro j u hj
  match j, hj with
  | 0, hj => simp [Vec.cells] at hj; subst hj; exact cell_new _ _ _ rfl
  | 1, hj => simp [Vec.cells] at hj; subst hj; exact cell_new _ _ _ rfl
  | 2, hj => simp [Vec.cells] at hj; subst hj; exact cell_new _ _ _ rfl
theorem cells_one (v : Vec) : ∀ u ∈ Vec.cells v, u.oneCell' = true := by
  intro u hu
  simp [Vec.cells] at hu
  rcases hu with rfl | rfl | rfl <;> rfl
theorem flat_length (l : List Vec) : (l.flatMap Vec.cells).length = l.length * 3 := by
  induction l with
  | nil => rfl
  | cons a l ih => rw [List.flatMap_cons, List.length_append, ih]; simp [Vec.cells]; omega
theorem flat_snoc (l : List Vec) (a : Vec) : (l ++ [a]).flatMap Vec.cells = l.flatMap Vec.cells ++ Vec.cells a := by rw [List.flatMap_append]; simp
end Go.Rel
end
section
namespace Go.Rel
open Go.RowKit Go.ChangeShapes Go.WideShapes Go.Deep Go.Joins

section
variable {H : Type} {enc : TypeId × Value → H} {P : Program}

/-- All arguments read behind the call as they read before. -/
theorem trodAll_stays (hl : laidOutB P = true) {W W' : World} {sp : Nat → Bool} : ∀ (ts : List TypeId) (vs : List Value) (ds : List (DataW H)) (ps : List MemPlace),
    (∀ t ∈ ts, P.readableRec t = true ∧ t < P.types.size) → DataW.TrodAll enc P W 0 (fun _ => true) true ts vs ds ps → (∀ p ∈ ps, W.sameAt W' p) → (∀ p ∈ ps, sp p.block = true) → DataW.TrodAll enc P W' 0 sp true ts vs ds ps
  | [], vs, ds, ps, _, h, _, _ => by obtain ⟨rfl, rfl, rfl⟩ := trodAll_nil h; rfl
  | t :: ts, vs, ds, ps, hr, h, hs, hsp => by
    obtain ⟨v, vs', d, ds', p, q, rfl, rfl, rfl, h1, h2⟩ := trodAll_cons h
    exact trodAll_cons_mk (WideElems.Trod_stays hl (hr t (by simp)).1 (hr t (by simp)).2 h1 (fun x hx => hs x (by simp [hx])) (fun x hx => hsp x (by simp [hx])))
      (trodAll_stays hl ts vs' ds' q (fun t' ht => hr t' (by simp [ht])) h2 (fun x hx => hs x (by simp [hx])) (fun x hx => hsp x (by simp [hx])))

/-- The end of a law's row: it returned true; what lay there lies there still. -/
theorem law_post {f : Func} {s : ChangeSpec} {W W' : World} {args : Array Value} {ds : List (DataW H)} {before : List MemPlace} (hl : laidOutB P = true)
    (hW : DataW.Whole enc P f.params.toList s.vars false W args.toList ds [] before) (hv : s.vars = []) (hrb : (f.params.toList.all fun t => P.readableRec t && decide (t < P.types.size)) = true)
    {tb : TypeId} (hres : f.resultTypes = #[tb]) (htb : P.underlying tb = some .bool) (hfn : (s.fn H ds).results = [.lit (.bool true)]) (hargs : (s.fn H ds).args = ds) (hvs : (s.fn H ds).vars = [])
    (hb : Below W.heap.size W W') : s.post enc P f false true false false W args (.bool true) W' := by
  have hr : ∀ t ∈ f.params.toList, P.readableRec t = true ∧ t < P.types.size := fun t ht => by
    have := List.all_eq_true.1 hrb t ht
    simpa using this
  have hW' := hW
  obtain ⟨p, q, hA, hV, rfl, hz, hn⟩ := hW
  rw [hv] at hV
  obtain ⟨-, rfl⟩ := trodVars_none hV
  simp only [List.append_nil] at hW'
  have hlt : ∀ x ∈ p, x.block < W.heap.size := fun x hx => hW'.lt x hx
  refine ⟨ds, [], p, [], p, [], hW', ?_, ?_, ?_, ?_, fun h => by cases h⟩
  · rw [List.append_nil, hfn, hres]
    exact trodAll_mk1 (shut_bool htb true)
  · rw [List.append_nil, hargs]
    exact trodAll_stays hl _ _ _ _ hr hA (fun x hx => hb.same (hlt x hx)) (fun x hx => by simpa using hlt x hx)
  · rw [List.append_nil, hvs, hv]
    rfl
  · exact hb.frame _

/-- An int field of one cell. -/
theorem cell_int {W : World} {base : Nat} {sp : Nat → Bool} {held : Bool} {n : Nat} {t : TypeId} {k : IntKind} {v : Value} {y : DataW H × List MemPlace} (ht : P.underlying t = some (.int k)) (h : DataW.trod enc P W base sp held n t [v] = some y) : ∃ x : Int, v = .int k x ∧ (Lit.int k x).wf = true := by
  obtain ⟨x, hx, _, hw⟩ := DataW.trod_int ht h
  simp only [List.cons.injEq, and_true] at hx
  exact ⟨x, hx, hw⟩
theorem cell_bool {W : World} {base : Nat} {sp : Nat → Bool} {held : Bool} {n : Nat} {t : TypeId} {v : Value} {y : DataW H × List MemPlace} (ht : P.underlying t = some .bool) (h : DataW.trod enc P W base sp held n t [v] = some y) : ∃ x : Bool, v = .bool x := by
  obtain ⟨x, hx, _⟩ := DataW.trod_bool ht h
  simp only [List.cons.injEq, and_true] at hx
  exact ⟨x, hx⟩

/-- Three int fields, one behind the other. -/
theorem cells_vec {W : World} {base : Nat} {sp : Nat → Bool} {held : Bool} {n : Nat} {t ti : TypeId} {f0 f1 f2 : Field} {cs : List Value} {x : DataW H × List MemPlace} (ht : P.underlying t = some (.struct #[f0, f1, f2])) (hi : P.underlying ti = some (.int .i64))
    (e0 : f0.type = ti ∧ f0.offset = 0) (e1 : f1.type = ti ∧ f1.offset = 1) (e2 : f2.type = ti ∧ f2.offset = 2) (hC : P.cellsOf ti = 1) (h : DataW.trod enc P W base sp held n t cs = some x) (hl : cs.length = 3) :
    ∃ v : Vec, cs = v.cells ∧ (Lit.int .i64 v.x).wf = true ∧ (Lit.int .i64 v.y).wf = true ∧ (Lit.int .i64 v.z).wf = true := by
  obtain ⟨ys, m, _, _, _, _, hf⟩ := DataW.trod_struct ht h
  match cs, hl with
  | [a, b, c], _ =>
    have h0 := hf 0 f0 rfl
    have h1 := hf 1 f1 rfl
    have h2 := hf 2 f2 rfl
    rw [e0.1, e0.2, hC] at h0
    rw [e1.1, e1.2, hC] at h1
    rw [e2.1, e2.2, hC] at h2
    simp only [List.drop_zero, List.take_succ_cons, List.take_zero, List.drop_succ_cons] at h0 h1 h2
    have l3 : ys.length = 3 := by simp_all
    match ys, l3 with
    | [y0, y1, y2], _ =>
      obtain ⟨x, rfl, w0⟩ := cell_int hi h0
      obtain ⟨y, rfl, w1⟩ := cell_int hi h1
      obtain ⟨z, rfl, w2⟩ := cell_int hi h2
      exact ⟨⟨x, y, z⟩, rfl, w0, w1, w2⟩

/-- A slice of vectors, opened. -/
theorem open_vecs {W : World} {n : Nat} {t e ti : TypeId} {f0 f1 f2 : Field} {v : Value} {x : DataW H × List MemPlace} (ht : P.underlying t = some (.slice e)) (he : P.underlying e = some (.struct #[f0, f1, f2])) (hi : P.underlying ti = some (.int .i64))
    (e0 : f0.type = ti ∧ f0.offset = 0) (e1 : f1.type = ti ∧ f1.offset = 1) (e2 : f2.type = ti ∧ f2.offset = 2) (hC : P.cellsOf ti = 1) (hE : P.cellsOf e = 3) (h : DataW.trod enc P W 0 (fun _ => true) true n t [v] = some x) :
    ∃ (A : Option Addr) (len cap : Nat) (l : List Vec), v = .slice A len cap ∧ l.length = len ∧ len ≤ 9223372036854775807 ∧ Vecs W W.heap.size A l ∧ ∀ a ∈ l, (Lit.int .i64 a.x).wf = true ∧ (Lit.int .i64 a.y).wf = true ∧ (Lit.int .i64 a.z).wf = true := by
  rcases open_slice ht h with ⟨hcs, _⟩ | ⟨a, len, cap, m, k, D, Pl, hcs, _, hlc, hm, hmm, _, hel⟩
  · simp only [List.cons.injEq, and_true] at hcs
    exact ⟨none, 0, 0, [], hcs, rfl, by omega, Vecs.nil_, by simp⟩
  · simp only [List.cons.injEq, and_true] at hcs
    simp only [if_true] at hmm
    rw [hE] at hel
    have hel' : ∀ i, i < len → ∃ b : Vec, W.cells? 0 (a.add (i * 3)) 3 = some b.cells ∧ (Lit.int .i64 b.x).wf = true ∧ (Lit.int .i64 b.y).wf = true ∧ (Lit.int .i64 b.z).wf = true := fun i hi' => by
      obtain ⟨cs', hc, hd⟩ := hel i (by omega)
      obtain ⟨b, rfl, hw⟩ := cells_vec he hi e0 e1 e2 hC hd (World.cells?_some hc).2.1
      exact ⟨b, hc, hw⟩
    have hex : ∀ k, k ≤ len → ∃ l : List Vec, l.length = k ∧ ∀ (i : Nat) (b : Vec), l[i]? = some b → W.cells? 0 (a.add (i * 3)) 3 = some b.cells ∧ (Lit.int .i64 b.x).wf = true ∧ (Lit.int .i64 b.y).wf = true ∧ (Lit.int .i64 b.z).wf = true := by
      intro k
      induction k with
      | zero => intro _; exact ⟨[], rfl, by simp⟩
      | succ k ih =>
        intro hk
        obtain ⟨l, hl, hp⟩ := ih (by omega)
        obtain ⟨b, hb⟩ := hel' k (by omega)
        refine ⟨l ++ [b], by simp [hl], fun i c hc => ?_⟩
        rcases Nat.lt_or_ge i l.length with hlt | hge
        · rw [List.getElem?_append_left hlt] at hc; exact hp i c hc
        · rw [List.getElem?_append_right hge] at hc
          have : i = k := by
            rcases Nat.lt_or_ge (i - l.length) 1 with h | h
            · omega
            · rw [List.getElem?_eq_none (by simpa using h)] at hc; cases hc
          subst this
          rw [hl, Nat.sub_self] at hc
          have : b = c := by simpa using hc
          subst this
          exact hb
    obtain ⟨l, hl, hp⟩ := hex len (Nat.le_refl _)
    refine ⟨some a, len, cap, l, hcs, hl, by unfold maxLen at hm; omega, fun hpos => ?_, fun b hb => ?_⟩
    · have h0 : ∃ c, W.cell? a = some c := by
        have := (World.cells?_some (hp 0 l[0] (by simp [hpos])).1).2.2 0 (by omega)
        simp only [Nat.zero_mul] at this
        have e : (a.add 0).add 0 = a := by simp [Addr.add]
        rw [e] at this
        exact ⟨_, this⟩
      obtain ⟨c0, hc0⟩ := h0
      obtain ⟨ab, ao, asp⟩ := a
      have hsp : asp = none := by
        cases asp with
        | none => rfl
        | some s => simp [World.cell?] at hc0; split at hc0 <;> simp_all
      subst hsp
      refine ⟨ab, ao, rfl, World.block_lt_of_cell? W _ hc0, fun i b hi => ?_⟩
      obtain ⟨_, _, hat⟩ := World.cells?_some (hp i b hi).1
      have add_eq : ∀ i j : Nat, ((⟨ab, ao, none⟩ : Addr).add i).add j = ⟨ab, ao + i + j, none⟩ := fun i j => by
        unfold Addr.add; by_cases h1 : i = 0 <;> by_cases h2 : j = 0 <;> simp [h1, h2]
      have k0 := hat 0 (by omega)
      have k1 := hat 1 (by omega)
      have k2 := hat 2 (by omega)
      rw [add_eq] at k0 k1 k2
      simp [Vec.cells] at k0 k1 k2
      exact ⟨k0, k1, k2⟩
    · obtain ⟨i, hi, rfl⟩ := List.mem_iff_getElem.1 hb
      exact (hp i l[i] (by simp [hi])).2
end
end Go.Rel
end
section
/- Slices of records, in plain terms: a slice reads as a list; what the call has appended reads as a list; a slice among a law's arguments, opened. -/
namespace Go.Rel
open Go.RowKit Go.ChangeShapes Go.WideShapes Go.Deep Go.Joins

/-- A slice at the address A reads as l, each record being z cells; it lies below block B. -/
def Recs {α : Type} (cells : α → List Value) (z : Nat) (w : World) (B : Nat) (A : Option Addr) (l : List α) : Prop :=
  0 < l.length → ∃ b off : Nat, A = some ⟨b, off, none⟩ ∧ b < B ∧ ∀ (i : Nat) (v : α), l[i]? = some v → ∀ (j : Nat) (u : Value), (cells v)[j]? = some u → w.cell? ⟨b, off + i * z + j, none⟩ = some u

section
variable {α : Type} {cells : α → List Value} {z : Nat} {w w' : World} {B B' : Nat} {A : Option Addr} {l : List α}
theorem Recs.at_ (h : Recs cells z w B A l) {k : Nat} (hk : k < l.length) :
    ∃ b off : Nat, A = some ⟨b, off, none⟩ ∧ b < B ∧ ∀ (j : Nat) (u : Value), (cells l[k])[j]? = some u → w.cell? ⟨b, off + k * z + j, none⟩ = some u := by
  obtain ⟨b, off, e, hb, hc⟩ := h (by omega)
  exact ⟨b, off, e, hb, hc k l[k] (by simp [hk])⟩
theorem Recs.below (h : Recs cells z w B A l) (hb : Below B w w') : Recs cells z w' B A l := by
  intro hl
  obtain ⟨b, off, e, hB, hc⟩ := h hl
  exact ⟨b, off, e, hB, fun i v hi j u hj => (hb.cell hB).trans (hc i v hi j u hj)⟩
theorem Recs.more (h : Recs cells z w B A l) (hB : B ≤ B') : Recs cells z w B' A l := by
  intro hl
  obtain ⟨b, off, e, hb, hc⟩ := h hl
  exact ⟨b, off, e, by omega, hc⟩
theorem Recs.nil_ : Recs cells z w B A [] := fun h => by simp at h

theorem flat_get (hz : ∀ v, (cells v).length = z) : ∀ (l : List α) (i j : Nat) (v : α), l[i]? = some v → j < z → (l.flatMap cells)[i * z + j]? = (cells v)[j]?
  | [], i, j, v, h, _ => by simp at h
  | a :: l, 0, j, v, h, hj => by
    simp at h
    subst h
    rw [List.flatMap_cons, Nat.zero_mul, Nat.zero_add, List.getElem?_append_left (by rw [hz]; exact hj)]
  | a :: l, i + 1, j, v, h, hj => by
    rw [List.flatMap_cons, List.getElem?_append_right (by rw [hz, Nat.succ_mul]; omega), hz, show (i + 1) * z + j - z = i * z + j by rw [Nat.succ_mul]; omega]
    exact flat_get hz l i j v (by simpa using h) hj
theorem flat_len (hz : ∀ v, (cells v).length = z) (l : List α) : (l.flatMap cells).length = l.length * z := by
  induction l with
  | nil => simp
  | cons a l ih => rw [List.flatMap_cons, List.length_append, ih, hz, List.length_cons, Nat.succ_mul]; omega
theorem flat_one (l : List α) (a : α) : (l ++ [a]).flatMap cells = l.flatMap cells ++ cells a := by rw [List.flatMap_append]; simp

/-- What the call itself has appended. -/
theorem Recs.of_own (hz : ∀ v, (cells v).length = z) {n base : Nat} {e : TypeId} {v : Value} (hn : l.length = n) (h : w.ownsRow base e z v n (l.flatMap cells)) : ∃ A cap, v = .slice A n cap ∧ n ≤ cap ∧ Recs cells z w w.heap.size A l := by
  subst hn
  obtain ⟨_, h2⟩ := h
  rcases h2 with ⟨rfl, hn⟩ | ⟨g, cap, cur, rfl, _, hh, hnc, _, _, ht⟩
  · exact ⟨none, 0, by rw [hn], by omega, fun h => by omega⟩
  · refine ⟨_, cap, rfl, hnc, fun _ => ⟨g, 0, rfl, (Array.getElem?_eq_some_iff.1 hh).1, fun i v hi j u hj => ?_⟩⟩
    have hi' : i < l.length := (List.getElem?_eq_some_iff.1 hi).1
    have hjz : j < z := by rw [← hz v]; exact (List.getElem?_eq_some_iff.1 hj).1
    have hk : (l.flatMap cells)[i * z + j]? = some u := by rw [flat_get hz l i j v hi hjz]; exact hj
    have hb : i * z + j < l.length * z := by
      have : (i + 1) * z ≤ l.length * z := Nat.mul_le_mul_right _ hi'
      rw [Nat.succ_mul] at this
      omega
    rw [← ht, List.getElem?_take_of_lt hb] at hk
    rw [Nat.zero_add]
    simp only [World.cell?, hh]
    simpa using hk
end

section
variable {H : Type} {enc : TypeId × Value → H} {P : Program}
/-- A slice among the arguments, opened; hd: what one record's cells are. -/
theorem open_recs {α : Type} {cells : α → List Value} {z : Nat} {Q : α → Prop} {W : World} {n : Nat} {t e : TypeId} {v : Value} {x : DataW H × List MemPlace} (ht : P.underlying t = some (.slice e)) (hE : P.cellsOf e = z) (hz0 : 0 < z) (hz : ∀ v, (cells v).length = z)
    (hd : ∀ (m : Nat) (sp : Nat → Bool) (held : Bool) (cs : List Value) (y : DataW H × List MemPlace), DataW.trod enc P W 0 sp held m e cs = some y → cs.length = z → ∃ b : α, cs = cells b ∧ Q b)
    (h : DataW.trod enc P W 0 (fun _ => true) true n t [v] = some x) :
    ∃ (A : Option Addr) (len cap : Nat) (l : List α), v = .slice A len cap ∧ l.length = len ∧ len ≤ 9223372036854775807 ∧ len ≤ cap ∧ (A = none → cap = 0) ∧ Recs cells z W W.heap.size A l ∧ ∀ a ∈ l, Q a := by
  rcases open_slice ht h with ⟨hcs, _⟩ | ⟨a, len, cap, m, k, D, Pl, hcs, _, hlc, hm, hmm, _, hel⟩
  · simp only [List.cons.injEq, and_true] at hcs
    exact ⟨none, 0, 0, [], hcs, rfl, by omega, by omega, fun _ => rfl, fun h => by simp at h, by simp⟩
  · simp only [List.cons.injEq, and_true] at hcs
    simp only [if_true] at hmm
    rw [hE] at hel
    have hel' : ∀ i, i < len → ∃ b : α, W.cells? 0 (a.add (i * z)) z = some (cells b) ∧ Q b := fun i hi' => by
      obtain ⟨cs', hc, hdd⟩ := hel i (by omega)
      obtain ⟨b, rfl, hw⟩ := hd _ _ _ _ _ hdd (World.cells?_some hc).2.1
      exact ⟨b, hc, hw⟩
    have hex : ∀ k, k ≤ len → ∃ l : List α, l.length = k ∧ ∀ (i : Nat) (b : α), l[i]? = some b → W.cells? 0 (a.add (i * z)) z = some (cells b) ∧ Q b := by
      intro k
      induction k with
      | zero => intro _; exact ⟨[], rfl, by simp⟩
      | succ k ih =>
        intro hk
        obtain ⟨l, hl, hp⟩ := ih (by omega)
        obtain ⟨b, hb⟩ := hel' k (by omega)
        refine ⟨l ++ [b], by simp [hl], fun i c hc => ?_⟩
        rcases Nat.lt_or_ge i l.length with hlt | hge
        · rw [List.getElem?_append_left hlt] at hc; exact hp i c hc
        · rw [List.getElem?_append_right hge] at hc
          have : i = k := by
            rcases Nat.lt_or_ge (i - l.length) 1 with h | h
            · omega
            · rw [List.getElem?_eq_none (by simpa using h)] at hc; cases hc
          subst this
          rw [hl, Nat.sub_self] at hc
          have : b = c := by simpa using hc
          subst this
          exact hb
    obtain ⟨l, hl, hp⟩ := hex len (Nat.le_refl _)
    refine ⟨some a, len, cap, l, hcs, hl, by unfold maxLen at hm; omega, by omega, (fun h => (by cases h)), fun hpos => ?_, fun b hb => ?_⟩
    · have h0 : ∃ c, W.cell? a = some c := by
        have := (World.cells?_some (hp 0 l[0] (by simp [hpos])).1).2.2 0 (by omega)
        simp only [Nat.zero_mul] at this
        have e : (a.add 0).add 0 = a := by simp [Addr.add]
        rw [e] at this
        exact ⟨_, this.trans (List.getElem?_eq_getElem (by rw [hz]; exact hz0))⟩
      obtain ⟨c0, hc0⟩ := h0
      obtain ⟨ab, ao, asp⟩ := a
      have hsp : asp = none := by
        cases asp with
        | none => rfl
        | some s => simp [World.cell?] at hc0; split at hc0 <;> simp_all
      subst hsp
      refine ⟨ab, ao, rfl, World.block_lt_of_cell? W _ hc0, fun i b hi j u hj => ?_⟩
      obtain ⟨_, _, hat⟩ := World.cells?_some (hp i b hi).1
      have add_eq : ∀ i j : Nat, ((⟨ab, ao, none⟩ : Addr).add i).add j = ⟨ab, ao + i + j, none⟩ := fun i j => by
        unfold Addr.add; by_cases h1 : i = 0 <;> by_cases h2 : j = 0 <;> simp [h1, h2]
      have hjz : j < z := by rw [← hz b]; exact (List.getElem?_eq_some_iff.1 hj).1
      have k0 := hat j hjz
      rw [add_eq] at k0
      rw [k0]
      exact hj
    · obtain ⟨i, hi, rfl⟩ := List.mem_iff_getElem.1 hb
      exact (hp i l[i] (by simp [hi])).2

/-- Two int fields, one behind the other. -/
theorem cells_two {W : World} {base : Nat} {sp : Nat → Bool} {held : Bool} {n : Nat} {t ti : TypeId} {f0 f1 : Field} {cs : List Value} {x : DataW H × List MemPlace} (ht : P.underlying t = some (.struct #[f0, f1])) (hi : P.underlying ti = some (.int .i64))
    (e0 : f0.type = ti ∧ f0.offset = 0) (e1 : f1.type = ti ∧ f1.offset = 1) (hC : P.cellsOf ti = 1) (h : DataW.trod enc P W base sp held n t cs = some x) (hl : cs.length = 2) :
    ∃ a b : Int, cs = [.int .i64 a, .int .i64 b] ∧ (Lit.int .i64 a).wf = true ∧ (Lit.int .i64 b).wf = true := by
  obtain ⟨ys, m, _, _, _, _, hf⟩ := DataW.trod_struct ht h
  match cs, hl with
  | [a, b], _ =>
    have h0 := hf 0 f0 rfl
    have h1 := hf 1 f1 rfl
    rw [e0.1, e0.2, hC] at h0
    rw [e1.1, e1.2, hC] at h1
    simp only [List.drop_zero, List.take_succ_cons, List.take_zero, List.drop_succ_cons] at h0 h1
    have l2 : ys.length = 2 := by simp_all
    match ys, l2 with
    | [y0, y1], _ =>
      obtain ⟨x, rfl, w0⟩ := cell_int hi h0
      obtain ⟨y, rfl, w1⟩ := cell_int hi h1
      exact ⟨x, y, rfl, w0, w1⟩
theorem wf_i64 {x : Int} (h : (Lit.int .i64 x).wf = true) : -9223372036854775808 ≤ x ∧ x ≤ 9223372036854775807 := by
  simp [Lit.wf, IntKind.min, IntKind.max, IntKind.signed, IntKind.bits] at h
  omega
theorem wf_u8 {x : Int} (h : (Lit.int .u8 x).wf = true) : 0 ≤ x ∧ x ≤ 255 := by
  simp [Lit.wf, IntKind.min, IntKind.max, IntKind.signed, IntKind.bits] at h
  omega
end

section
variable {P : Program}
/-- append of a slice that reads as l: nil, empty or not. -/
theorem wpList_append_recs {ops : Array Oper} {rest : List Oper} {o : Oper} {a : Act} {w : World} {Q : Exit → Act → World → Prop} (hgd : o.guard = none) (s x : Operand) (t : TypeId)
    (ho : o.op = .call { callee := .builtin .append, args := #[s, x], argTypes := #[t, t] })
    (base : Nat) (e : TypeId) (i : TypeInfo) (z : Value) (size bytes : Nat) (ht : P.underlying t = some (.slice e)) (hi : P.info? e = some i) (hz : i.zero = some z)
    (hsize : i.size = size) (hby : i.bytes = bytes) (hzs : z.cells.size = size) (hsz : 0 < size)
    (v : Value) (n : Nat) (xs : List Value) (hs : a.eval s = v) (hown : w.ownsRow base e size v n xs)
    {α : Type} {cells : α → List Value} (hcl : ∀ b, (cells b).length = size) (h1 : ∀ b, ∀ u ∈ cells b, u.oneCell' = true) {B : Nat} {A : Option Addr} {m c : Nat} {l : List α} (hx : a.eval x = .slice A m c) (hA : A = none → c = 0) (hm : l.length = m)
    (hr : Recs cells size w B A l) (h63 : n + m ≤ maxLen) (hbytes : (n + m) * bytes ≤ 140737488355328) (hbase : base ≤ w.heap.size)
    (h : ∀ v' w', w'.ownsRow base e size v' (n + m) (xs ++ l.flatMap cells) → w.grownBy w' v.ownBlock → wpList P ops Q rest (a.put o.dst v') w') : wpList P ops Q (o :: rest) a w := by
  cases A with
  | none =>
    have hc := hA rfl
    have hl : l = [] := by
      cases l with
      | nil => rfl
      | cons b l =>
        obtain ⟨_, _, e, _⟩ := hr (by simp)
        cases e
    subst hl
    have hm0 : m = 0 := by rw [← hm]; rfl
    subst hm0
    subst hc
    exact wpList_append_own_none hgd s x t ho base e i size ht hi v n xs hs hown hx (h v w (by simpa using hown) (World.grownBy.refl w _))
  | some ad =>
    refine wpList_append_own _ hgd s x t ho base e i z size bytes ht hi hz hsize hby hzs hsz v n xs hs hown ad m c (l.flatMap cells) hx (by rw [flat_len hcl, hm]) ?_ ?_ h63 hbytes hbase (fun v' w' k1 k2 _ => h v' w' k1 k2)
    · intro j u hj
      have hjl : j < l.length * size := by rw [← flat_len hcl l]; exact (List.getElem?_eq_some_iff.1 hj).1
      have hpos : 0 < l.length := by
        rcases Nat.eq_zero_or_pos l.length with h0 | h0
        · rw [h0] at hjl; omega
        · exact h0
      obtain ⟨b, off, e, -, hat⟩ := hr hpos
      injection e with e
      subst e
      have hq : j / size < l.length := Nat.div_lt_of_lt_mul (by rw [Nat.mul_comm]; exact hjl)
      have hr' : j % size < size := Nat.mod_lt _ hsz
      have hdm : j / size * size + j % size = j := by rw [Nat.mul_comm]; exact Nat.div_add_mod _ _
      have hgi : l[j / size]? = some l[j / size] := by simp [hq]
      have hget := flat_get hcl l (j / size) (j % size) l[j / size] hgi hr'
      rw [hdm, hj] at hget
      have := hat (j / size) l[j / size] hgi (j % size) u hget.symm
      rw [show off + j / size * size + j % size = off + j by omega] at this
      have ea : (⟨b, off, none⟩ : Addr).add j = ⟨b, off + j, none⟩ := by unfold Addr.add; by_cases h0 : j = 0 <;> simp [h0]
      rw [ea]
      exact this
    · intro u hu
      obtain ⟨b, -, hb⟩ := List.mem_flatMap.1 hu
      exact h1 b u hb
end
end Go.Rel
end
