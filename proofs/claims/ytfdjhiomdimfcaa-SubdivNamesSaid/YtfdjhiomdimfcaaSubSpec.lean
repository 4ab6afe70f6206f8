/- Refined curves and limit points: what they are, in plain words. -/
import Derived.Test.YtfdjhiomdimfcaaCurveSpec
namespace Go.Rel

@[ext] theorem Vec.ext' {a b : Vec} (hx : a.x = b.x) (hy : a.y = b.y) (hz : a.z = b.z) : a = b := by cases a; cases b; simp_all
def addV (a b : Vec) : Vec := ⟨a.x + b.x, a.y + b.y, a.z + b.z⟩
def mulV (n : Int) (a : Vec) : Vec := ⟨n * a.x, n * a.y, n * a.z⟩
/-- A vector plus another one times a number. -/
def sumV (a b : Vec) (n : Int) : Vec := ⟨a.x + n * b.x, a.y + n * b.y, a.z + n * b.z⟩
theorem sumV_eq (a b : Vec) (n : Int) : sumV a b n = addV a (mulV n b) := rfl
def halfV (a : Vec) : Vec := ⟨a.x.tdiv 2, a.y.tdiv 2, a.z.tdiv 2⟩
/-- All coordinates are from -M to M. -/
def inV (M : Int) (v : Vec) : Prop := -M ≤ v.x ∧ v.x ≤ M ∧ -M ≤ v.y ∧ v.y ≤ M ∧ -M ≤ v.z ∧ v.z ≤ M
theorem inV_of_fine {v : Vec} {n : Int} (h : fineV v n = true) : inV n v := fineV_iff.1 h
theorem inV_add {a b : Vec} {M N : Int} (ha : inV M a) (hb : inV N b) : inV (M + N) (addV a b) := by unfold inV addV at *; dsimp only; omega
theorem inV_more {a : Vec} {M N : Int} (ha : inV M a) (h : M ≤ N) : inV N a := by unfold inV at *; omega

/-- The point with an index, counted on from the first one behind the last one. -/
def getM (l : List Vec) (i : Nat) : Vec := (l[i % l.length]?).getD zeroV
theorem getM_lt {l : List Vec} {i : Nat} (h : i < l.length) : getM l i = l[i] := by unfold getM; rw [Nat.mod_eq_of_lt h]; simp [h]
theorem getM_mod (l : List Vec) (i : Nat) : getM l (i % l.length) = getM l i := by unfold getM; rw [Nat.mod_mod]
theorem getM_add (l : List Vec) (i : Nat) : getM l (i + l.length) = getM l i := by unfold getM; rw [Nat.add_mod_right]
theorem getM_mem {l : List Vec} (h : 0 < l.length) (i : Nat) : getM l i ∈ l := by
  unfold getM
  have : i % l.length < l.length := Nat.mod_lt _ h
  simp [this]
theorem getM_fine {l : List Vec} {down : Int} (h : Valid l down) (i : Nat) : inV 1000000000000 (getM l i) := inV_of_fine (List.all_eq_true.1 h.2.2.2.2 _ (getM_mem (by have := h.1; omega) i))
theorem map_getM (l : List Vec) : (List.range l.length).map (getM l) = l := by
  apply List.ext_getElem
  · simp
  · intro i h1 h2
    simp only [List.getElem_map, List.getElem_range]
    exact getM_lt h2
theorem getM_map {f : Nat → Vec} {m i : Nat} (h : i < m) : getM ((List.range m).map f) i = f i := by
  rw [getM_lt (by simpa using h)]; simp

/-- The pairs of neighbours. -/
def pairLen (m : Nat) (closed : Bool) : Nat := if closed then m else m - 1
def pairsL (l : List Vec) (closed : Bool) : List (Vec × Vec) := (List.range (pairLen l.length closed)).map fun i => (getM l i, getM l (i + 1))
def pairsK (l : List Vec) (k : Nat) : List (Vec × Vec) := (List.range k).map fun i => (getM l i, getM l (i + 1))
theorem pairsK_succ (l : List Vec) (k : Nat) : pairsK l (k + 1) = pairsK l k ++ [(getM l k, getM l (k + 1))] := by unfold pairsK; rw [List.range_succ, List.map_append]; rfl
theorem pairsK_length (l : List Vec) (k : Nat) : (pairsK l k).length = k := by simp [pairsK]
theorem pairsL_eq (l : List Vec) (closed : Bool) : pairsL l closed = pairsK l (pairLen l.length closed) := rfl
theorem pairLen_le (m : Nat) (closed : Bool) : pairLen m closed ≤ m := by unfold pairLen; split <;> omega
theorem pairsL_map (f : Nat → Vec) (m : Nat) (closed : Bool) (hp : closed = true → f m = f 0) :
    pairsL ((List.range m).map f) closed = (List.range (pairLen m closed)).map fun i => (f i, f (i + 1)) := by
  unfold pairsL
  rw [List.length_map, List.length_range]
  apply List.map_congr_left
  intro i hi
  rw [List.mem_range] at hi
  have him : i < m := Nat.lt_of_lt_of_le hi (pairLen_le m closed)
  rw [getM_map him]
  by_cases h1 : i + 1 < m
  · rw [getM_map h1]
  · have hc : closed = true := by
      cases closed with
      | true => rfl
      | false => simp [pairLen] at hi; omega
    have hm : i + 1 = m := by omega
    rw [hm, hp hc]
    have : getM ((List.range m).map f) m = f 0 := by
      have := getM_add ((List.range m).map f) 0
      rw [Nat.zero_add, List.length_map, List.length_range] at this
      rw [this, getM_map (by omega)]
    rw [this]

/-! ### Refined points -/
/-- Sums of the neighbours of the doubled points, j times. -/
def binV (l : List Vec) : Nat → Nat → Vec
  | 0, k => getM l (k / 2)
  | j + 1, k => addV (binV l j k) (binV l j (k + 1))
theorem binV_per (l : List Vec) : ∀ (j k : Nat), binV l j (k + 2 * l.length) = binV l j k
  | 0, k => by
    unfold binV
    rw [show (k + 2 * l.length) / 2 = k / 2 + l.length by omega]
    exact getM_add _ _
  | j + 1, k => by
    unfold binV
    rw [binV_per l j k, show k + 2 * l.length + 1 = k + 1 + 2 * l.length by omega, binV_per l j (k + 1)]
theorem binV_in {l : List Vec} {down : Int} (h : Valid l down) : ∀ (j k : Nat), inV (2 ^ j * 1000000000000) (binV l j k)
  | 0, k => by simpa [binV] using getM_fine h (k / 2)
  | j + 1, k => by
    have h1 := inV_add (binV_in h j k) (binV_in h j (k + 1))
    rw [← Int.add_mul, show (2 : Int) ^ j + 2 ^ j = 2 ^ (j + 1) by rw [Int.pow_succ]; omega] at h1
    exact h1

/-- The points behind j of d rounds. -/
def stgV (l : List Vec) (d j k : Nat) : Vec := mulV (2 ^ (d - j)) (binV l j k)
def stg (l : List Vec) (d j m : Nat) : List Vec := (List.range m).map (stgV l d j)
theorem stg_length (l : List Vec) (d j m : Nat) : (stg l d j m).length = m := by simp [stg]
theorem half_two (x : Int) : (2 * x).tdiv 2 = x := by rw [Int.mul_comm]; exact Int.mul_tdiv_cancel _ (by decide)
theorem stgV_succ (l : List Vec) {d j : Nat} (hj : j < d) (k : Nat) : halfV (sumV (stgV l d j k) (stgV l d j (k + 1)) 1) = stgV l d (j + 1) k := by
  obtain ⟨t, ht⟩ : ∃ t, d - j = t + 1 := ⟨d - j - 1, by omega⟩
  have h2 : d - (j + 1) = t := by omega
  unfold stgV
  rw [ht, h2]
  have key : ∀ x y : Int, ((2 : Int) ^ (t + 1) * x + 1 * (2 ^ (t + 1) * y)).tdiv 2 = 2 ^ t * (x + y) := by
    intro x y
    have : (2 : Int) ^ (t + 1) * x + 1 * (2 ^ (t + 1) * y) = 2 * (2 ^ t * (x + y)) := by
      rw [Int.pow_succ, Int.mul_add, Int.mul_add, Int.one_mul]
      rw [Int.mul_comm (2 ^ t) 2, Int.mul_assoc, Int.mul_assoc]
    rw [this, half_two]
  simp only [halfV, sumV, mulV, binV, addV, key]
theorem stgV_per (l : List Vec) (d j k : Nat) : stgV l d j (k + 2 * l.length) = stgV l d j k := by unfold stgV; rw [binV_per]
theorem stgV_in {l : List Vec} {down : Int} (h : Valid l down) {d j : Nat} (hj : j ≤ d) (hd : d ≤ 3) (k : Nat) : inV 8000000000000 (stgV l d j k) := by
  have h1 := binV_in h j k
  unfold stgV
  have : d = 0 ∨ d = 1 ∨ d = 2 ∨ d = 3 := by omega
  have : j = 0 ∨ j = 1 ∨ j = 2 ∨ j = 3 := by omega
  rcases ‹d = 0 ∨ _› with rfl | rfl | rfl | rfl <;> rcases ‹j = 0 ∨ _› with rfl | rfl | rfl | rfl <;> first | omega | (simp [inV, mulV] at h1 ⊢; omega)
/-- The pairs of a round's points. -/
theorem stg_pairs (l : List Vec) (d j m : Nat) (closed : Bool) (hm : closed = true → m = 2 * l.length) :
    pairsL (stg l d j m) closed = (List.range (pairLen m closed)).map fun i => (stgV l d j i, stgV l d j (i + 1)) :=
  pairsL_map _ _ _ (fun hc => by have := stgV_per l d j 0; rw [Nat.zero_add] at this; rw [hm hc]; exact this)
theorem stg_last (l : List Vec) (d m : Nat) : stg l d d m = (List.range m).map (binV l d) := by
  unfold stg
  apply List.map_congr_left
  intro k _
  unfold stgV
  rw [Nat.sub_self]
  simp [mulV]
/-- The doubled points, times 2 to the power of d. -/
def dbl (l : List Vec) (d k : Nat) : List Vec := (List.range (2 * k)).map (stgV l d 0)
theorem dbl_succ (l : List Vec) (d k : Nat) (hk : k < l.length) : dbl l d (k + 1) = dbl l d k ++ [mulV (2 ^ d) l[k], mulV (2 ^ d) l[k]] := by
  unfold dbl
  rw [show 2 * (k + 1) = 2 * k + 1 + 1 by omega, List.range_succ, List.range_succ, List.append_assoc, List.map_append]
  congr 1
  simp only [List.map_append, List.map_cons, List.map_nil, stgV, binV, Nat.sub_zero]
  rw [show (2 * k) / 2 = k by omega, show (2 * k + 1) / 2 = k by omega, getM_lt hk]
  rfl
theorem dbl_all (l : List Vec) (d : Nat) : dbl l d l.length = stg l d 0 (2 * l.length) := rfl

def refM (n d : Nat) (closed : Bool) : Int := if closed then 2 * n else 2 * n - d
def refPts (l : List Vec) (d : Nat) (closed : Bool) : List Vec := (List.range (refM l.length d closed).toNat).map (binV l d)
def degOk (d : Int) : Prop := 1 ≤ d ∧ d ≤ 3
instance (d : Int) : Decidable (degOk d) := by unfold degOk; infer_instance
def checkedE (l : List Vec) (down d : Int) : Int := if Valid l down then (if degOk d then 0 else 2) else 8
/-- The error of Refine. -/
def refE (l : List Vec) (down : Int) (closed : Bool) (d : Int) : Int :=
  if Valid l down then (if degOk d then (if refM l.length d.toNat closed < 1 then 6 else if 1000 < refM l.length d.toNat closed then 4 else if Valid (refPts l d.toNat closed) (down + d) then 0 else 16) else 2) else 8
def refL (l : List Vec) (down : Int) (closed : Bool) (d : Int) : List Vec := if refE l down closed d = 0 then refPts l d.toNat closed else []
def refDown (l : List Vec) (down : Int) (closed : Bool) (d : Int) : Int := if refE l down closed d = 0 then down + d else 0
def refClosed (l : List Vec) (down : Int) (closed : Bool) (d : Int) : Bool := if refE l down closed d = 0 then closed else false
theorem refPts_length (l : List Vec) (d : Nat) (closed : Bool) : (refPts l d closed).length = (refM l.length d closed).toNat := by simp [refPts]

/-! ### Limit points -/
def limV (l : List Vec) (d i : Nat) : Vec :=
  if d ≤ 1 then getM l i else if d = 2 then sumV (getM l i) (getM l (i + 1)) 1
  else addV (addV (getM l i) (mulV 4 (getM l (i + 1)))) (getM l (i + 2))
def limLen (n d : Nat) (closed : Bool) : Nat := if closed then n else n + 1 - d
def limPts (l : List Vec) (d : Nat) (closed : Bool) : List Vec := (List.range (limLen l.length d closed)).map (limV l d)
def limL (l : List Vec) (down : Int) (closed : Bool) (d : Int) : List Vec := if checkedE l down d = 0 then limPts l d.toNat closed else []
theorem limV_per (l : List Vec) (d i : Nat) : limV l d (i + l.length) = limV l d i := by
  unfold limV
  rw [show i + l.length + 1 = i + 1 + l.length by omega, show i + l.length + 2 = i + 2 + l.length by omega, getM_add, getM_add, getM_add]
theorem limV_three (l : List Vec) (i : Nat) : sumV (sumV (limV l 2 i) (limV l 2 (i + 1)) 1) (getM l (i + 1)) 2 = limV l 3 i := by
  unfold limV
  simp only [sumV, addV, mulV, Nat.reduceLeDiff, if_false, if_true, Nat.add_assoc, Nat.reduceAdd, Nat.reduceEqDiff]
  apply Vec.ext' <;> dsimp only <;> omega
theorem limV_in {l : List Vec} {down : Int} (h : Valid l down) (d i : Nat) : inV 6000000000000 (limV l d i) := by
  have h0 := getM_fine h i
  have h1 := getM_fine h (i + 1)
  have h2 := getM_fine h (i + 2)
  unfold limV
  repeat' split
  all_goals (simp only [inV, addV, mulV, sumV] at *; omega)
theorem limPts_len (l : List Vec) (d : Nat) (closed : Bool) : (limPts l d closed).length = limLen l.length d closed := by simp [limPts]
theorem limLen2 (n : Nat) (closed : Bool) : pairLen n closed = limLen n 2 closed := by unfold pairLen limLen; split <;> omega
theorem limLen3 (n : Nat) (closed : Bool) : pairLen (limLen n 2 closed) closed = limLen n 3 closed := by unfold pairLen limLen; split <;> omega
end Go.Rel
