import Derived.Below
import Derived.Laws.OwnMore
import Derived.WalkKit
import Derived.Lib.Hide
import Derived.Deep.Draws
namespace Go.Rel
open Go.RowKit

/-! ### How a call ends: words for the walks -/
/-- It returns v; what lay there lies there still. -/
def Ret (w : World) (v : Value) (e : Ending) (w' : World) : Prop := e = .returned v ∧ Below w.heap.size w w'
/-- It returns v; the world is the one of before. -/
def Same (w : World) (v : Value) (e : Ending) (w' : World) : Prop := e = .returned v ∧ w = w'
/-- It returns a value of which R is known. -/
def RetM (w : World) (R : Value → World → Prop) (e : Ending) (w' : World) : Prop := ∃ v, e = .returned v ∧ R v w' ∧ Below w.heap.size w w'

theorem ret_int {w w' : World} {k : IntKind} {a b : Int} (h : a = b) (hb : Below w.heap.size w w') : Ret w (.int k b) (.returned (.int k a)) w' := ⟨by rw [h], hb⟩
theorem ret_bool {w w' : World} {a b : Bool} (h : a = b) (hb : Below w.heap.size w w') : Ret w (.bool b) (.returned (.bool a)) w' := ⟨by rw [h], hb⟩
theorem same_int {w : World} {k : IntKind} {a b : Int} (h : a = b) : Same w (.int k b) (.returned (.int k a)) w := ⟨by rw [h], rfl⟩
theorem Same.ret {w : World} {v : Value} {e : Ending} {w' : World} (h : Same w v e w') : Ret w v e w' := ⟨h.1, h.2 ▸ Below.refl _ _⟩

theorem bcell {W w1 : World} (hb : Below W.heap.size W w1) : (∀ b o, b < W.heap.size → w1.cell? ⟨b, o, none⟩ = W.cell? ⟨b, o, none⟩) ∧ (∀ b o, b < W.heap.size → w1.frozen? ⟨b, o, none⟩ = W.frozen? ⟨b, o, none⟩) :=
  ⟨fun b o h => hb.cell (p := ⟨b, o, none⟩) h, fun b o h => hb.frozen (p := ⟨b, o, none⟩) h⟩


/-- A cell of a block that has just been made. -/
theorem cell_new (w : World) (cs : Array Value) (t : TypeId) {i : Nat} {v : Value} (h : cs[i]? = some v) : (w.alloc (.cells cs t)).cell? ⟨w.heap.size, i, none⟩ = some v := by
  simp only [World.cell?, heap_alloc_new]
  simpa using h
theorem below_alloc (w : World) (o : Obj) : Below w.heap.size w (w.alloc o) := (Below.refl _ _).alloc (Nat.le_refl _) _

/-- New variables, one behind the other. -/
theorem boxes2 (w : World) (c0 c1 : Array Value) (t0 t1 : TypeId) : Below w.heap.size w ((w.alloc (.cells c0 t0)).alloc (.cells c1 t1)) ∧ ((w.alloc (.cells c0 t0)).alloc (.cells c1 t1)).heap.size = w.heap.size + 1 + 1 ∧
    ((w.alloc (.cells c0 t0)).alloc (.cells c1 t1)).heap[w.heap.size]? = some (.cells c0 t0 (0, 0)) ∧ ((w.alloc (.cells c0 t0)).alloc (.cells c1 t1)).heap[w.heap.size + 1]? = some (.cells c1 t1 (0, 0)) := by
  refine ⟨((Below.refl _ _).alloc (Nat.le_refl _) _).alloc (by simp) _, by simp, ?_, ?_⟩
  · rw [Below.heap_alloc _ _ _ (by simp)]; exact heap_alloc_new w _
  · have := heap_alloc_new (w.alloc (.cells c0 t0)) (.cells c1 t1); rwa [World.size_alloc] at this
theorem boxes3 (w : World) (c0 c1 c2 : Array Value) (t0 t1 t2 : TypeId) : Below w.heap.size w (((w.alloc (.cells c0 t0)).alloc (.cells c1 t1)).alloc (.cells c2 t2)) ∧ (((w.alloc (.cells c0 t0)).alloc (.cells c1 t1)).alloc (.cells c2 t2)).heap.size = w.heap.size + 1 + 1 + 1 ∧
    (((w.alloc (.cells c0 t0)).alloc (.cells c1 t1)).alloc (.cells c2 t2)).heap[w.heap.size]? = some (.cells c0 t0 (0, 0)) ∧ (((w.alloc (.cells c0 t0)).alloc (.cells c1 t1)).alloc (.cells c2 t2)).heap[w.heap.size + 1]? = some (.cells c1 t1 (0, 0)) ∧
    (((w.alloc (.cells c0 t0)).alloc (.cells c1 t1)).alloc (.cells c2 t2)).heap[w.heap.size + 1 + 1]? = some (.cells c2 t2 (0, 0)) := by
  obtain ⟨h1, h2, h3, h4⟩ := boxes2 w c0 c1 t0 t1
  refine ⟨h1.alloc (by omega) _, by simp, ?_, ?_, ?_⟩
  · rw [Below.heap_alloc _ _ _ (by omega)]; exact h3
  · rw [Below.heap_alloc _ _ _ (by omega)]; exact h4
  · have := heap_alloc_new ((w.alloc (.cells c0 t0)).alloc (.cells c1 t1)) (.cells c2 t2); rwa [h2] at this

/-- Four new variables; what is asked of the last two. -/
theorem boxes4 (w : World) (c0 c1 c2 c3 : Array Value) (t0 t1 t2 t3 : TypeId) : Below w.heap.size w ((((w.alloc (.cells c0 t0)).alloc (.cells c1 t1)).alloc (.cells c2 t2)).alloc (.cells c3 t3)) ∧ ((((w.alloc (.cells c0 t0)).alloc (.cells c1 t1)).alloc (.cells c2 t2)).alloc (.cells c3 t3)).heap.size = w.heap.size + 1 + 1 + 1 + 1 ∧
    ((((w.alloc (.cells c0 t0)).alloc (.cells c1 t1)).alloc (.cells c2 t2)).alloc (.cells c3 t3)).heap[w.heap.size + 1 + 1]? = some (.cells c2 t2 (0, 0)) ∧ ((((w.alloc (.cells c0 t0)).alloc (.cells c1 t1)).alloc (.cells c2 t2)).alloc (.cells c3 t3)).heap[w.heap.size + 1 + 1 + 1]? = some (.cells c3 t3 (0, 0)) := by
  obtain ⟨h1, h2, h3, h4, h5⟩ := boxes3 w c0 c1 c2 t0 t1 t2
  refine ⟨h1.alloc (by omega) _, by simp, ?_, ?_⟩
  · rw [Below.heap_alloc _ _ _ (by omega)]; exact h5
  · have := heap_alloc_new (((w.alloc (.cells c0 t0)).alloc (.cells c1 t1)).alloc (.cells c2 t2)) (.cells c3 t3); rwa [h2] at this

theorem retM {w w' : World} {R : Value → World → Prop} {v : Value} (h : R v w') (hb : Below w.heap.size w w') : RetM w R (.returned v) w' := ⟨v, rfl, h, hb⟩

/-- What the call owns it owns still behind whatever leaves all blocks as they were. -/
theorem ownsRow_below {w w' : World} {base : Nat} {e : TypeId} {size : Nat} {v : Value} {n : Nat} {xs : List Value} (h : w.ownsRow base e size v n xs) (hb : Below w.heap.size w w') : w'.ownsRow base e size v n xs :=
  h.kept (row := none) ⟨hb.os, hb.tape, hb.output, hb.size, fun k hk _ => hb.block k hk⟩ (by
    cases hv : v.ownBlock with
    | none => exact .inl rfl
    | some k => exact .inr (by simp))

/-! ### A block that is known whole -/
def Blk (w : World) (g : Nat) (t : TypeId) (cs : Array Value) : Prop := w.heap[g]? = some (.cells cs t (0, 0))
section
variable {w w' : World} {g : Nat} {t : TypeId} {cs : Array Value}
theorem Blk.lt (h : Blk w g t cs) : g < w.heap.size := (Array.getElem?_eq_some_iff.1 h).1
theorem Blk.cell (h : Blk w g t cs) {i : Nat} {v : Value} (hi : cs[i]? = some v) : w.cell? ⟨g, i, none⟩ = some v := by
  unfold Blk at h
  simp only [World.cell?, h]
  simpa using hi
theorem Blk.frozen (h : Blk w g t cs) (i : Nat) : w.frozen? ⟨g, i, none⟩ = false := by unfold Blk at h; simp [World.frozen?, h]
theorem Blk.new (w : World) (t : TypeId) (cs : Array Value) : Blk (w.alloc (.cells cs t)) w.heap.size t cs := heap_alloc_new w _
theorem Blk.below {B : Nat} (h : Blk w g t cs) (hb : Below B w w') (hg : g < B) : Blk w' g t cs := (hb.block g hg).trans h
theorem Blk.keep (h : Blk w g t cs) (hb : Below w.heap.size w w') : Blk w' g t cs := h.below hb h.lt
theorem Blk.set_ (h : Blk w g t cs) (i : Nat) (u : Value) : Blk (w.setCell ⟨g, i, none⟩ u) g t (cs.setIfInBounds i u) := by
  unfold Blk at h ⊢
  simp [World.setCell, Array.getElem?_modify, h]
theorem Blk.far (h : Blk w g t cs) {p : Addr} (hp : g ≠ p.block) (u : Value) : Blk (w.setCell p u) g t cs := (Below.heap_setCell w p u g hp).trans h
theorem Blk.alloc (h : Blk w g t cs) (o : Obj) : Blk (w.alloc o) g t cs := (Below.heap_alloc w o g h.lt).trans h
theorem Blk.set3 {x y z : Value} (h : Blk w g t #[x, y, z]) (a b c : Value) : Blk (((w.setCell ⟨g, 0, none⟩ a).setCell ⟨g, 1, none⟩ b).setCell ⟨g, 2, none⟩ c) g t #[a, b, c] := by
  simpa using ((h.set_ 0 a).set_ 1 b).set_ 2 c
end

theorem all_take_succ {α : Type} (l : List α) (p : α → Bool) (k : Nat) (hk : k < l.length) (h : (l.take k).all p = true) (hp : p l[k] = true) : (l.take (k+1)).all p = true := by
  rw [List.take_succ_eq_append_getElem hk, List.all_append, h]; simp [hp]

/-! ### Vectors, and slices of them -/
structure Vec where
  x : Int
  y : Int
  z : Int
  deriving DecidableEq

@[reducible] def Vec.v (a : Vec) : Value := .agg #[.int .i64 a.x, .int .i64 a.y, .int .i64 a.z]
def Vec.cells (a : Vec) : List Value := [.int .i64 a.x, .int .i64 a.y, .int .i64 a.z]

/-- A slice of vectors at the address A reads as l; it lies below block B. -/
def Vecs (w : World) (B : Nat) (A : Option Addr) (l : List Vec) : Prop :=
  0 < l.length → ∃ b off : Nat, A = some ⟨b, off, none⟩ ∧ b < B ∧ ∀ (i : Nat) (v : Vec), l[i]? = some v →
    w.cell? ⟨b, off + i * 3, none⟩ = some (.int .i64 v.x) ∧ w.cell? ⟨b, off + i * 3 + 1, none⟩ = some (.int .i64 v.y) ∧ w.cell? ⟨b, off + i * 3 + 2, none⟩ = some (.int .i64 v.z)

section
variable {w w' : World} {B B' : Nat} {A : Option Addr} {l : List Vec}
theorem Vecs.at_ (h : Vecs w B A l) {k : Nat} (hk : k < l.length) :
    ∃ b off : Nat, A = some ⟨b, off, none⟩ ∧ b < B ∧ w.cell? ⟨b, off + k * 3, none⟩ = some (.int .i64 l[k].x) ∧ w.cell? ⟨b, off + k * 3 + 1, none⟩ = some (.int .i64 l[k].y) ∧ w.cell? ⟨b, off + k * 3 + 2, none⟩ = some (.int .i64 l[k].z) := by
  obtain ⟨b, off, e, hb, hc⟩ := h (by omega)
  exact ⟨b, off, e, hb, hc k l[k] (by simp [hk])⟩
theorem Vecs.below (h : Vecs w B A l) (hb : Below B w w') : Vecs w' B A l := by
  intro hl
  obtain ⟨b, off, e, hB, hc⟩ := h hl
  refine ⟨b, off, e, hB, fun i v hi => ?_⟩
  obtain ⟨h1, h2, h3⟩ := hc i v hi
  exact ⟨(hb.cell hB).trans h1, (hb.cell hB).trans h2, (hb.cell hB).trans h3⟩
theorem Vecs.more (h : Vecs w B A l) (hB : B ≤ B') : Vecs w B' A l := by
  intro hl
  obtain ⟨b, off, e, hb, hc⟩ := h hl
  exact ⟨b, off, e, by omega, hc⟩
theorem Vecs.nil_ : Vecs w B A [] := fun h => by simp at h
/-- What the call itself has appended. -/
theorem Vecs.of_own {base : Nat} {e : TypeId} {v : Value} (h : w.ownsRow base e 3 v l.length (l.flatMap Vec.cells)) : ∃ A cap, v = .slice A l.length cap ∧ l.length ≤ cap ∧ Vecs w w.heap.size A l := by
  obtain ⟨_, h2⟩ := h
  rcases h2 with ⟨rfl, hn⟩ | ⟨g, cap, cur, rfl, _, hh, hnc, _, _, ht⟩
  · refine ⟨none, 0, by rw [hn], by omega, fun h => by omega⟩
  · refine ⟨_, cap, rfl, hnc, fun _ => ⟨g, 0, rfl, (Array.getElem?_eq_some_iff.1 hh).1, fun i v hi => ?_⟩⟩
    have key : ∀ (l : List Vec) (i : Nat) (v : Vec), l[i]? = some v → (l.flatMap Vec.cells)[i * 3]? = some (.int .i64 v.x) ∧ (l.flatMap Vec.cells)[i * 3 + 1]? = some (.int .i64 v.y) ∧ (l.flatMap Vec.cells)[i * 3 + 2]? = some (.int .i64 v.z) := by
      intro l
      induction l with
      | nil => intro i v h; simp at h
      | cons a l ih =>
        intro i v h
        cases i with
        | zero => simp at h; subst h; simp [Vec.cells]
        | succ i =>
          have h' := ih i v (by simpa using h)
          rw [List.flatMap_cons]
          have hl : (Vec.cells a).length = 3 := rfl
          refine ⟨?_, ?_, ?_⟩
          · rw [List.getElem?_append_right (by omega), hl, show (i + 1) * 3 - 3 = i * 3 by omega]; exact h'.1
          · rw [List.getElem?_append_right (by omega), hl, show (i + 1) * 3 + 1 - 3 = i * 3 + 1 by omega]; exact h'.2.1
          · rw [List.getElem?_append_right (by omega), hl, show (i + 1) * 3 + 2 - 3 = i * 3 + 2 by omega]; exact h'.2.2
    have hi' : i < l.length := (List.getElem?_eq_some_iff.1 hi).1
    have hcell : ∀ (j : Nat) (u : Value), j < l.length * 3 → (l.flatMap Vec.cells)[j]? = some u → w.cell? ⟨g, j, none⟩ = some u := by
      intro j u hj hu
      rw [← ht, List.getElem?_take_of_lt hj] at hu
      simp only [World.cell?, hh]
      simpa using hu
    obtain ⟨k1, k2, k3⟩ := key l i v hi
    simp only [Nat.zero_add]
    exact ⟨hcell _ _ (by omega) k1, hcell _ _ (by omega) k2, hcell _ _ (by omega) k3⟩
end
theorem Vecs.of_own_n {w : World} {l : List Vec} {n : Nat} {base : Nat} {e : TypeId} {v : Value} (hn : l.length = n) (h : w.ownsRow base e 3 v n (l.flatMap Vec.cells)) : ∃ A cap, v = .slice A n cap ∧ n ≤ cap ∧ Vecs w w.heap.size A l := by
  subst hn
  exact Vecs.of_own h
theorem cells_new_vec (w : World) (v : Vec) (t : TypeId) : ∀ (j : Nat) (u : Value), (Vec.cells v)[j]? = some u → (w.alloc (.cells #[.int .i64 v.x, .int .i64 v.y, .int .i64 v.z] t)).cell? ((⟨w.heap.size, 0, none⟩ : Addr).add j) = some u := by
  intro j u hj
  match j, hj with
  | 0, hj => simp [Vec.cells] at hj; subst hj; exact cell_new _ _ _ rfl
  | 1, hj => simp [Vec.cells] at hj; subst hj; exact cell_new _ _ _ rfl
  | 2, hj => simp [Vec.cells] at hj; subst hj; exact cell_new _ _ _ rfl
theorem cells_one (v : Vec) : ∀ u ∈ Vec.cells v, u.oneCell' = true := by
  intro u hu
  simp [Vec.cells] at hu
  rcases hu with rfl | rfl | rfl <;> rfl
theorem flat_length (l : List Vec) : (l.flatMap Vec.cells).length = l.length * 3 := by
  induction l with
  | nil => rfl
  | cons a l ih => rw [List.flatMap_cons, List.length_append, ih]; simp [Vec.cells]; omega
theorem flat_snoc (l : List Vec) (a : Vec) : (l ++ [a]).flatMap Vec.cells = l.flatMap Vec.cells ++ Vec.cells a := by rw [List.flatMap_append]; simp
end Go.Rel
