/- Sum on both sides. For every list of ratios of 64 bits. -/
import Derived.Test.YtjgampkpfjbmdaaRatG
namespace Go.Rel
open Go.RowKit
/-- A slice of ratios at the address A reads as l; it lies below block B. -/
def Rats (w : World) (B : Nat) (A : Option Addr) (l : List Rat2) : Prop :=
  0 < l.length → ∃ b off : Nat, A = some ⟨b, off, none⟩ ∧ b < B ∧ ∀ (i : Nat) (v : Rat2), l[i]? = some v →
    w.cell? ⟨b, off + i * 2, none⟩ = some (.int .i64 v.n) ∧ w.cell? ⟨b, off + i * 2 + 1, none⟩ = some (.int .i64 v.d)
section
variable {w w' : World} {B B' : Nat} {A : Option Addr} {l : List Rat2}
theorem Rats.at_ (h : Rats w B A l) {k : Nat} (hk : k < l.length) :
    ∃ b off : Nat, A = some ⟨b, off, none⟩ ∧ b < B ∧ w.cell? ⟨b, off + k * 2, none⟩ = some (.int .i64 l[k].n) ∧ w.cell? ⟨b, off + k * 2 + 1, none⟩ = some (.int .i64 l[k].d) := by
  obtain ⟨b, off, e, hb, hc⟩ := h (by omega)
  exact ⟨b, off, e, hb, hc k l[k] (by simp [hk])⟩
theorem Rats.below (h : Rats w B A l) (hb : Below B w w') : Rats w' B A l := by
  intro hl
  obtain ⟨b, off, e, hB, hc⟩ := h hl
  refine ⟨b, off, e, hB, fun i v hi => ?_⟩
  obtain ⟨h1, h2⟩ := hc i v hi
  exact ⟨(hb.cell hB).trans h1, (hb.cell hB).trans h2⟩
theorem Rats.more (h : Rats w B A l) (hB : B ≤ B') : Rats w B' A l := by
  intro hl
  obtain ⟨b, off, e, hb, hc⟩ := h hl
  exact ⟨b, off, e, by omega, hc⟩
end
end Go.Rel
namespace Go.Proofs.Ytjgampkpfjbmdaa
open Go.RowKit Go.Rel

/-- The sum of a list behind s: the sum, and the error. -/
def sumP : List Rat2 → Rat2 → Rat2 × Int
  | [], s => (s, 0)
  | a :: r, s => if opAddE s a = 0 then sumP r (opAddR s a) else (⟨0, 0⟩, opAddE s a)
def sumR (l : List Rat2) : Rat2 := if l.length > 200 then ⟨0, 0⟩ else (sumP l ⟨0, 1⟩).1
def sumE (l : List Rat2) : Int := if l.length > 200 then 4 else (sumP l ⟨0, 1⟩).2

theorem makeR_64 (n d : Int) : Rat64 (makeR n d) := by
  unfold makeR
  split
  · simp [Rat64]
  · split
    · rename_i h
      obtain ⟨h1, h2, h3, h4⟩ := ratOk_bounds h
      exact ⟨by omega, by omega, by omega, by omega⟩
    · simp [Rat64]
theorem runV_64 (a b : Rat2) (p q : Int) : Rat64 (runV a b p q) := by
  unfold runV
  split
  · exact makeR_64 p q
  · simp [Rat64]
theorem sumP_step {l : List Rat2} {k : Nat} (hk : k < l.length) (s : Rat2) : sumP (l.drop k) s = if opAddE s l[k] = 0 then sumP (l.drop (k + 1)) (opAddR s l[k]) else (⟨0, 0⟩, opAddE s l[k]) := by
  rw [List.drop_eq_getElem_cons hk]; rfl

end Go.Proofs.Ytjgampkpfjbmdaa
