/- A row of vectors that is written over, element by element. -/
import Derived.Test.YtfdjhiomdimfcaaSubM
namespace Go.Rel
open Go.RowKit

/-- The block g holds the vectors of a list, from its first cell on. -/
def RowV (W : World) (g : Nat) (t : TypeId) (L : List Vec) : Prop :=
  ∃ cs, Blk W g t cs ∧ ∀ (i : Nat) (v : Vec), L[i]? = some v → cs[i * 3]? = some (.int .i64 v.x) ∧ cs[i * 3 + 1]? = some (.int .i64 v.y) ∧ cs[i * 3 + 2]? = some (.int .i64 v.z)
section
variable {W W' : World} {g : Nat} {t : TypeId} {L : List Vec}
theorem RowV.keep (h : RowV W g t L) (hb : Below W.heap.size W W') : RowV W' g t L := by
  obtain ⟨cs, hc, h⟩ := h
  exact ⟨cs, hc.keep hb, h⟩
theorem RowV.lt (h : RowV W g t L) : g < W.heap.size := h.choose_spec.1.lt
theorem RowV.frozen (h : RowV W g t L) (i : Nat) : W.frozen? ⟨g, i, none⟩ = false := h.choose_spec.1.frozen i
theorem RowV.vecs (h : RowV W g t L) : Vecs W W.heap.size (some ⟨g, 0, none⟩) L := by
  obtain ⟨cs, hc, h⟩ := h
  intro _
  refine ⟨g, 0, rfl, hc.lt, fun i v hi => ?_⟩
  obtain ⟨h1, h2, h3⟩ := h i v hi
  simp only [Nat.zero_add]
  exact ⟨hc.cell h1, hc.cell h2, hc.cell h3⟩
theorem RowV.set (h : RowV W g t L) {k : Nat} (hk : k < L.length) (v : Vec) :
    RowV (((W.setCell ⟨g, k * 3, none⟩ (.int .i64 v.x)).setCell ⟨g, k * 3 + 1, none⟩ (.int .i64 v.y)).setCell ⟨g, k * 3 + 2, none⟩ (.int .i64 v.z)) g t (L.set k v) := by
  obtain ⟨cs, hc, h⟩ := h
  refine ⟨_, ((hc.set_ (k * 3) _).set_ (k * 3 + 1) _).set_ (k * 3 + 2) _, fun i u hi => ?_⟩
  obtain ⟨g1, g2, g3⟩ := h k L[k] (by simp [hk])
  have l3 : k * 3 + 2 < cs.size := (Array.getElem?_eq_some_iff.1 g3).1
  rw [List.getElem?_set] at hi
  by_cases e : k = i
  · subst e
    rw [if_pos rfl, if_pos hk] at hi
    obtain rfl : v = u := by injection hi
    simp only [Array.getElem?_setIfInBounds, Array.size_setIfInBounds]
    refine ⟨?_, ?_, ?_⟩
    · rw [if_neg (by omega), if_neg (by omega), if_pos trivial, if_pos (by omega)]
    · rw [if_neg (by omega), if_pos trivial, if_pos (by omega)]
    · rw [if_pos trivial, if_pos (by omega)]
  · rw [if_neg e] at hi
    obtain ⟨h1, h2, h3⟩ := h i u hi
    simp only [Array.getElem?_setIfInBounds, Array.size_setIfInBounds]
    refine ⟨?_, ?_, ?_⟩
    · rw [if_neg (by omega), if_neg (by omega), if_neg (by omega)]; exact h1
    · rw [if_neg (by omega), if_neg (by omega), if_neg (by omega)]; exact h2
    · rw [if_neg (by omega), if_neg (by omega), if_neg (by omega)]; exact h3
/-- A row that the call itself has made. -/
theorem RowV.of_own {n base : Nat} {v : Value} (hn : L.length = n) (hn0 : 0 < n) (h : W.ownsRow base t 3 v n (L.flatMap Vec.cells)) : ∃ g cap, v = .slice (some ⟨g, 0, none⟩) n cap ∧ base ≤ g ∧ RowV W g t L := by
  obtain ⟨A, cap, rfl, -, hv⟩ := Vecs.of_own_n hn h
  obtain ⟨b, off, rfl, hb, hc⟩ := hv (by omega)
  rcases h.2 with ⟨h, _⟩ | ⟨g, cap', cur, h, hbg, hg, -⟩
  · cases h
  · obtain ⟨⟨rfl, rfl⟩, rfl⟩ : (b = g ∧ off = 0) ∧ cap = cap' := by simpa using h
    refine ⟨b, cap, rfl, hbg, cur, hg, fun i v hi => ?_⟩
    obtain ⟨h1, h2, h3⟩ := hc i v hi
    simp only [World.cell?, hg, Nat.zero_add] at h1 h2 h3
    simpa using And.intro h1 (And.intro h2 h3)
end
end Go.Rel
