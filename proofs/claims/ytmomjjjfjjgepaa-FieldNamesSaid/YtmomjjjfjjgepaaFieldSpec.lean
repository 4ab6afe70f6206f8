/- Fields: what the functions on fields compute, in plain terms. No condition. -/
import Derived.Test.YtmomjjjfjjgepaaBase
namespace Go.Rel
open Go.RowKit

structure Pt where
  x : Int
  y : Int
  deriving DecidableEq
structure Pull where
  x : Int
  y : Int
  kind : Int
  weight : Int
  reach : Int
  deriving DecidableEq

@[reducible] def Pt.v (p : Pt) : Value := .agg #[.int .i64 p.x, .int .i64 p.y]
def Pt.cells (p : Pt) : List Value := [.int .i64 p.x, .int .i64 p.y]
@[reducible] def Pull.v (u : Pull) : Value := .agg #[.int .i64 u.x, .int .i64 u.y, .int .u8 u.kind, .int .i64 u.weight, .int .i64 u.reach]
def Pull.cells (u : Pull) : List Value := [.int .i64 u.x, .int .i64 u.y, .int .u8 u.kind, .int .i64 u.weight, .int .i64 u.reach]
theorem Pt.cells_len (p : Pt) : p.cells.length = 2 := rfl
theorem Pull.cells_len (u : Pull) : u.cells.length = 5 := rfl

/-- Numbers of 64 (8) bits. -/
def Pt.In64 (p : Pt) : Prop := -9223372036854775808 ≤ p.x ∧ p.x ≤ 9223372036854775807 ∧ -9223372036854775808 ≤ p.y ∧ p.y ≤ 9223372036854775807
def Pull.In64 (u : Pull) : Prop := (-9223372036854775808 ≤ u.x ∧ u.x ≤ 9223372036854775807 ∧ -9223372036854775808 ≤ u.y ∧ u.y ≤ 9223372036854775807) ∧ (0 ≤ u.kind ∧ u.kind ≤ 255) ∧
  (-9223372036854775808 ≤ u.weight ∧ u.weight ≤ 9223372036854775807) ∧ (-9223372036854775808 ≤ u.reach ∧ u.reach ≤ 9223372036854775807)

/-! ### The least and the greatest of numbers, by names that the walk does not take apart -/
def imin (x y : Int) : Int := if y < x then y else x
def imax (x y : Int) : Int := if y > x then y else x
theorem imax_le {a b c : Int} : imax a b ≤ c ↔ a ≤ c ∧ b ≤ c := by unfold imax; split <;> omega
theorem lt_imax {a b c : Int} : c < imax a b ↔ c < a ∨ c < b := by unfold imax; split <;> omega
theorem imin_lt {a b c : Int} : imin a b < c ↔ a < c ∨ b < c := by unfold imin; split <;> omega
theorem le_imin {a b c : Int} : c ≤ imin a b ↔ c ≤ a ∧ c ≤ b := by unfold imin; split <;> omega
theorem run_imin {P : Program} (ts : Array TypeId) (t : TypeId) (k k' : IntKind) (x y : Int) (w : World) : (Builtin.min_ ts t #[.int k x, .int k' y]).run P w = .ok (.int k (imin x y)) w := run_min_int2 w ts t k k' x y
theorem run_imax {P : Program} (ts : Array TypeId) (t : TypeId) (k k' : IntKind) (x y : Int) (w : World) : (Builtin.max_ ts t #[.int k x, .int k' y]).run P w = .ok (.int k (imax x y)) w := run_max_int2 w ts t k k' x y
theorem run_imax4 {P : Program} (ts : Array TypeId) (t : TypeId) (k k' k'' k3 : IntKind) (x y z u : Int) (w : World) : (Builtin.max_ ts t #[.int k x, .int k' y, .int k'' z, .int k3 u]).run P w = .ok (.int k (imax (imax (imax x y) z) u)) w := by
  simp [Builtin.max_, Builtin.max2, imax]

/-- Whether a point is in range. -/
def inB (x y : Int) : Bool := decide (-1000000 ≤ x ∧ x ≤ 1000000 ∧ -1000000 ≤ y ∧ y ≤ 1000000)
theorem inB_iff {x y : Int} : inB x y = true ↔ -1000000 ≤ x ∧ x ≤ 1000000 ∧ -1000000 ≤ y ∧ y ≤ 1000000 := by simp [inB]
theorem inB_no {x y : Int} : inB x y = false ↔ ¬ (-1000000 ≤ x ∧ x ≤ 1000000 ∧ -1000000 ≤ y ∧ y ≤ 1000000) := by simp only [inB, decide_eq_false_iff_not]
/-- Whether a pull is valid. -/
def pullB (u : Pull) : Bool := decide (1 ≤ u.kind ∧ u.kind ≤ 4) && inB u.x u.y && decide (1 ≤ u.weight ∧ u.weight ≤ 1000000 ∧ 0 ≤ u.reach ∧ u.reach ≤ 1000000)
theorem pullB_iff {u : Pull} : pullB u = true ↔ (1 ≤ u.kind ∧ u.kind ≤ 4) ∧ inB u.x u.y = true ∧ 1 ≤ u.weight ∧ u.weight ≤ 1000000 ∧ 0 ≤ u.reach ∧ u.reach ≤ 1000000 := by
  simp only [pullB, Bool.and_eq_true, decide_eq_true_eq, and_assoc]
theorem pullB_no {u : Pull} (h : ¬ ((1 ≤ u.kind ∧ u.kind ≤ 4) ∧ inB u.x u.y = true ∧ 1 ≤ u.weight ∧ u.weight ≤ 1000000 ∧ 0 ≤ u.reach ∧ u.reach ≤ 1000000)) : pullB u = false := by
  rw [← Bool.not_eq_true, pullB_iff]; exact h

/-- The error of a field. -/
def fieldE (l : List Pull) : Int := if 60 < l.length then 4 else if l.all pullB = true then 0 else 8
def Fine (l : List Pull) : Prop := l.length ≤ 60 ∧ l.all pullB = true
instance (l : List Pull) : Decidable (Fine l) := by unfold Fine; infer_instance
theorem fieldE_many {l : List Pull} (h : 60 < l.length) : fieldE l = 4 := if_pos h
theorem fieldE_ok {l : List Pull} (h : Fine l) : fieldE l = 0 := by unfold fieldE; rw [if_neg (by have := h.1; omega), if_pos h.2]
theorem fieldE_bad {l : List Pull} (h : ¬ 60 < l.length) (h2 : ¬ l.all pullB = true) : fieldE l = 8 := by unfold fieldE; rw [if_neg h, if_neg h2]
theorem fieldE_at {l : List Pull} (h : ¬ 60 < l.length) {k : Nat} (hk : k < l.length) (hb : pullB l[k] = false) : fieldE l = 8 :=
  fieldE_bad h fun ha => by
    have := List.all_eq_true.1 ha _ (List.getElem_mem hk)
    rw [hb] at this
    cases this
theorem fieldE_zero {l : List Pull} : fieldE l = 0 ↔ Fine l := by
  constructor
  · intro h
    unfold fieldE at h
    split at h
    · cases h
    · split at h
      · exact ⟨by omega, by assumption⟩
      · cases h
  · exact fieldE_ok
theorem fieldE_cases (l : List Pull) : (Fine l ∧ fieldE l = 0) ∨ (¬ Fine l ∧ (fieldE l = 4 ∨ fieldE l = 8)) := by
  by_cases h : Fine l
  · exact .inl ⟨h, fieldE_ok h⟩
  · refine .inr ⟨h, ?_⟩
    unfold fieldE
    split
    · exact .inl rfl
    · split
      · exact absurd ⟨by omega, by assumption⟩ h
      · exact .inr rfl
theorem Fine.at_ {l : List Pull} (h : Fine l) {k : Nat} (hk : k < l.length) : pullB l[k] = true := List.all_eq_true.1 h.2 _ (List.getElem_mem hk)

/-! ### Values -/
def adx (u : Pull) (p : Pt) : Int := ((p.x - u.x).natAbs : Int)
def ady (u : Pull) (p : Pt) : Int := ((p.y - u.y).natAbs : Int)
def far (u : Pull) (p : Pt) : Int := if ady u p > adx u p then ady u p else adx u p
/-- The sign of a pull: along x, none, along y. -/
def signP (kind dx dy : Int) : Int :=
  if kind = 1 then 1 else if kind = 2 then -1 else if kind = 3 then (if dy > dx then 1 else if dy < dx then -1 else 0) else (if dy > dx then -1 else if dy < dx then 1 else 0)
/-- The part of a pull that reaches the point. -/
def nearP (u : Pull) (p : Pt) : Int := signP u.kind (adx u p) (ady u p) * (u.weight * (u.reach + 1 - far u p))
def oneP (u : Pull) (p : Pt) : Int := if u.reach < far u p then 0 else nearP u p
def valueP (l : List Pull) (p : Pt) : Int := (l.map (oneP · p)).sum

theorem signP_cases (k a b : Int) : signP k a b = 1 ∨ signP k a b = 0 ∨ signP k a b = -1 := by
  unfold signP
  repeat' split
  all_goals simp
theorem mul_le_all {a b A B : Int} (h1 : 0 ≤ a) (h2 : a ≤ A) (h3 : 0 ≤ b) (h4 : b ≤ B) : 0 ≤ a * b ∧ a * b ≤ A * B :=
  ⟨Int.mul_nonneg h1 h3, Int.mul_le_mul h2 h4 h3 (by omega)⟩
theorem nearP_bound {u : Pull} (hu : pullB u = true) {p : Pt} (h : ¬ u.reach < far u p) : -1000001000000 ≤ nearP u p ∧ nearP u p ≤ 1000001000000 := by
  obtain ⟨-, -, h1, h2, h3, h4⟩ := pullB_iff.1 hu
  have hf : 0 ≤ far u p := by unfold far adx ady; split <;> omega
  obtain ⟨m1, m2⟩ := mul_le_all (a := u.weight) (b := u.reach + 1 - far u p) (A := 1000000) (B := 1000001) (by omega) h2 (by omega) (by omega)
  unfold nearP
  rcases signP_cases u.kind (adx u p) (ady u p) with e | e | e <;> rw [e] <;> omega
theorem oneP_bound {u : Pull} (hu : pullB u = true) (p : Pt) : -1000001000000 ≤ oneP u p ∧ oneP u p ≤ 1000001000000 := by
  unfold oneP
  split
  · omega
  · exact nearP_bound hu (by assumption)
theorem valueP_nil (p : Pt) : valueP [] p = 0 := rfl
theorem valueP_append (a b : List Pull) (p : Pt) : valueP (a ++ b) p = valueP a p + valueP b p := by simp [valueP]
theorem valueP_one (u : Pull) (p : Pt) : valueP [u] p = oneP u p := by simp [valueP]
theorem valueP_cons (u : Pull) (l : List Pull) (p : Pt) : valueP (u :: l) p = oneP u p + valueP l p := by simp [valueP]
theorem valueP_bound : ∀ (l : List Pull) (p : Pt), l.all pullB = true → -(1000001000000 * (l.length : Int)) ≤ valueP l p ∧ valueP l p ≤ 1000001000000 * (l.length : Int)
  | [], p, _ => by simp [valueP]
  | u :: l, p, h => by
    rw [List.all_cons, Bool.and_eq_true] at h
    have h1 := oneP_bound h.1 p
    have h2 := valueP_bound l p h.2
    rw [valueP_cons, List.length_cons]
    omega
theorem valueP_fine {l : List Pull} (h : Fine l) (p : Pt) : -60000060000000 ≤ valueP l p ∧ valueP l p ≤ 60000060000000 := by
  have h1 := valueP_bound l p h.2
  have h2 := h.1
  omega
theorem all_take {l : List Pull} (h : l.all pullB = true) (k : Nat) : (l.take k).all pullB = true := by
  rw [List.all_eq_true] at *
  exact fun x hx => h x (List.mem_of_mem_take hx)
theorem valueP_take_bound {l : List Pull} (h : Fine l) (k : Nat) (p : Pt) : -60000060000000 ≤ valueP (l.take k) p ∧ valueP (l.take k) p ≤ 60000060000000 :=
  valueP_fine ⟨by have := h.1; rw [List.length_take]; omega, all_take h.2 k⟩ p
theorem valueP_take_succ (l : List Pull) {k : Nat} (hk : k < l.length) (p : Pt) : valueP (l.take (k + 1)) p = valueP (l.take k) p + oneP l[k] p := by
  rw [List.take_succ_eq_append_getElem hk, valueP_append, valueP_one]
def valueE (l : List Pull) (p : Pt) : Int := if fieldE l = 0 then (if inB p.x p.y = true then 0 else 2) else fieldE l
def valueV (l : List Pull) (p : Pt) : Int := if valueE l p = 0 then valueP l p else 0
/-- The axis where the value is n. -/
def axisP (n : Int) : Int := if n > 0 then 0 else if n < 0 then 1 else 2
theorem axisP_bound (n : Int) : 0 ≤ axisP n ∧ axisP n ≤ 2 := by unfold axisP; split; omega; split <;> omega
def axisV (l : List Pull) (p : Pt) : Int := if valueE l p = 0 then axisP (valueP l p) else 0
/-- A pull turned by a quarter. -/
def turnK (k : Int) : Int := if k ≤ 2 then 3 - k else k
def turnU (u : Pull) : Pull := ⟨-u.y, u.x, turnK u.kind, u.weight, u.reach⟩
def turnL (l : List Pull) : List Pull := if fieldE l = 0 then l.map turnU else []

/-! ### Traces -/
def headP (a h : Int) : Int := if a < 2 ∧ h % 2 ≠ a then (h + 1) % 4 else h
def stepP (p : Pt) (h : Int) : Pt := if h = 0 then ⟨p.x + 1, p.y⟩ else if h = 1 then ⟨p.x, p.y + 1⟩ else if h = 2 then ⟨p.x - 1, p.y⟩ else ⟨p.x, p.y - 1⟩
theorem headP_bound {a h : Int} (h1 : 0 ≤ h) (h2 : h ≤ 3) : 0 ≤ headP a h ∧ headP a h ≤ 3 := by unfold headP; split <;> omega
def walkP (l : List Pull) (p : Pt) (h : Int) : Nat → Pt × Int
  | 0 => (p, h)
  | k + 1 => (stepP (walkP l p h k).1 (headP (axisP (valueP l (walkP l p h k).1)) (walkP l p h k).2), headP (axisP (valueP l (walkP l p h k).1)) (walkP l p h k).2)
theorem walkP_head (l : List Pull) (p : Pt) {h : Int} (h1 : 0 ≤ h) (h2 : h ≤ 3) : ∀ k, 0 ≤ (walkP l p h k).2 ∧ (walkP l p h k).2 ≤ 3
  | 0 => ⟨h1, h2⟩
  | k + 1 => headP_bound (walkP_head l p h1 h2 k).1 (walkP_head l p h1 h2 k).2
/-- The first k + 1 points of a trace. -/
def ptsP (l : List Pull) (p : Pt) (h : Int) (k : Nat) : List Pt := (List.range (k + 1)).map fun i => (walkP l p h i).1
theorem ptsP_length (l : List Pull) (p : Pt) (h : Int) (k : Nat) : (ptsP l p h k).length = k + 1 := by simp [ptsP]
theorem ptsP_zero (l : List Pull) (p : Pt) (h : Int) : ptsP l p h 0 = [p] := rfl
theorem ptsP_succ (l : List Pull) (p : Pt) (h : Int) (k : Nat) : ptsP l p h (k + 1) = ptsP l p h k ++ [(walkP l p h (k + 1)).1] := by
  unfold ptsP; rw [List.range_succ, List.map_append]; rfl
def ptIn (q : Pt) : Bool := inB q.x q.y
def traceIn (l : List Pull) (p : Pt) (h : Int) (k : Nat) : Bool := (ptsP l p h k).all ptIn
theorem traceIn_succ (l : List Pull) (p : Pt) (h : Int) (k : Nat) : traceIn l p h (k + 1) = (traceIn l p h k && ptIn (walkP l p h (k + 1)).1) := by
  unfold traceIn; rw [ptsP_succ, List.all_append]; simp
theorem traceIn_no {l : List Pull} {p : Pt} {h : Int} {k : Nat} (hk : ptIn (walkP l p h k).1 = false) {n : Nat} (hn : k ≤ n) : traceIn l p h n = false := by
  rw [← Bool.not_eq_true, traceIn, List.all_eq_true]
  intro ha
  have := ha (walkP l p h k).1 (List.mem_map.2 ⟨k, by simp; omega, rfl⟩)
  rw [hk] at this
  cases this
def TraceArg (p : Pt) (h s : Int) : Prop := inB p.x p.y = true ∧ h ≤ 3 ∧ 0 ≤ s ∧ s ≤ 500
instance (p : Pt) (h s : Int) : Decidable (TraceArg p h s) := by unfold TraceArg; infer_instance
def traceE (l : List Pull) (p : Pt) (h s : Int) : Int := if fieldE l = 0 then (if TraceArg p h s then (if traceIn l p h s.toNat = true then 0 else 16) else 2) else fieldE l
def traceL (l : List Pull) (p : Pt) (h s : Int) : List Pt := if traceE l p h s = 0 then ptsP l p h s.toNat else []
theorem traceE_field {l : List Pull} {p : Pt} {h s : Int} (hf : ¬ fieldE l = 0) : traceE l p h s = fieldE l ∧ traceL l p h s = [] := by
  have : traceE l p h s = fieldE l := if_neg hf
  exact ⟨this, if_neg (by rw [this]; exact hf)⟩
theorem traceE_arg {l : List Pull} {p : Pt} {h s : Int} (hf : fieldE l = 0) (ha : ¬ TraceArg p h s) : traceE l p h s = 2 ∧ traceL l p h s = [] := by
  have : traceE l p h s = 2 := by unfold traceE; rw [if_pos hf, if_neg ha]
  exact ⟨this, if_neg (by rw [this]; decide)⟩
theorem traceE_out {l : List Pull} {p : Pt} {h s : Int} (hf : fieldE l = 0) (ha : TraceArg p h s) (ht : traceIn l p h s.toNat = false) : traceE l p h s = 16 ∧ traceL l p h s = [] := by
  have : traceE l p h s = 16 := by unfold traceE; rw [if_pos hf, if_pos ha, if_neg (by rw [ht]; simp)]
  exact ⟨this, if_neg (by rw [this]; decide)⟩
theorem traceE_ok {l : List Pull} {p : Pt} {h s : Int} (hf : fieldE l = 0) (ha : TraceArg p h s) (ht : traceIn l p h s.toNat = true) : traceE l p h s = 0 ∧ traceL l p h s = ptsP l p h s.toNat := by
  have : traceE l p h s = 0 := by unfold traceE; rw [if_pos hf, if_pos ha, if_pos ht]
  exact ⟨this, if_pos this⟩
end Go.Rel
