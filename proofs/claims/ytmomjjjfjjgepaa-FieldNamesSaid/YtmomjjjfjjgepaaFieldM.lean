/- Plain laws of traces, values and turns. -/
import Derived.Test.YtmomjjjfjjgepaaFieldD
namespace Go.Rel
open Go.RowKit
theorem ptsP_get (l : List Pull) (p : Pt) (h : Int) {n k : Nat} (hk : k ≤ n) : (ptsP l p h n)[k]? = some (walkP l p h k).1 := by
  unfold ptsP
  rw [List.getElem?_map, List.getElem?_range (by omega)]
  rfl
theorem ptsP_take (l : List Pull) (p : Pt) (h : Int) {n k : Nat} (hk : k ≤ n) : (ptsP l p h n).take (k + 1) = ptsP l p h k := by
  unfold ptsP
  rw [← List.map_take, List.take_range, Nat.min_eq_left (by omega)]
theorem traceIn_le {l : List Pull} {p : Pt} {h : Int} {n k : Nat} (ht : traceIn l p h n = true) (hk : k ≤ n) : traceIn l p h k = true := by
  unfold traceIn at *
  rw [← ptsP_take l p h hk]
  rw [List.all_eq_true] at *
  exact fun x hx => ht x (List.mem_of_mem_take hx)
theorem traceE_fine {l : List Pull} {p : Pt} {h s : Int} (hf : Fine l) (ha : TraceArg p h s) : (traceIn l p h s.toNat = true ∧ traceE l p h s = 0 ∧ traceL l p h s = ptsP l p h s.toNat) ∨ (traceE l p h s = 16 ∧ traceL l p h s = [] ∧ 0 < s) := by
  cases ht : traceIn l p h s.toNat with
  | true => exact .inl ⟨rfl, traceE_ok (fieldE_ok hf) ha ht⟩
  | false =>
    obtain ⟨h1, h2⟩ := traceE_out (fieldE_ok hf) ha ht
    refine .inr ⟨h1, h2, ?_⟩
    have h3 := ha.2.2.1
    rcases Int.lt_or_eq_of_le h3 with h4 | h4
    · exact h4
    · rw [← h4] at ht
      have : traceIn l p h 0 = true := by simp [traceIn, ptsP_zero, ptIn, ha.1]
      simp [this] at ht
/-- A step: where it goes, and how it stands to the axis. -/
theorem step_cases {a d : Int} (ha : 0 ≤ a ∧ a ≤ 2) (hd : 0 ≤ d ∧ d ≤ 3) : ((a = 0 ∨ a = 2) ∧ headP a d = 0) ∨ ((a = 1 ∨ a = 2) ∧ headP a d = 1) ∨ ((a = 0 ∨ a = 2) ∧ headP a d = 2) ∨ ((a = 1 ∨ a = 2) ∧ headP a d = 3) := by
  unfold headP
  split <;> omega
theorem walk_step (l : List Pull) (p : Pt) (h : Int) (k : Nat) : (walkP l p h (k + 1)).1 = stepP (walkP l p h k).1 (headP (axisP (valueP l (walkP l p h k).1)) (walkP l p h k).2) := rfl
theorem walk_cases (l : List Pull) (p : Pt) {h : Int} (h0 : 0 ≤ h) (h3 : h ≤ 3) (k : Nat) :
    ∃ a, axisP (valueP l (walkP l p h k).1) = a ∧ (((a = 0 ∨ a = 2) ∧ (walkP l p h (k + 1)).1 = ⟨(walkP l p h k).1.x + 1, (walkP l p h k).1.y⟩) ∨ ((a = 1 ∨ a = 2) ∧ (walkP l p h (k + 1)).1 = ⟨(walkP l p h k).1.x, (walkP l p h k).1.y + 1⟩) ∨
      ((a = 0 ∨ a = 2) ∧ (walkP l p h (k + 1)).1 = ⟨(walkP l p h k).1.x - 1, (walkP l p h k).1.y⟩) ∨ ((a = 1 ∨ a = 2) ∧ (walkP l p h (k + 1)).1 = ⟨(walkP l p h k).1.x, (walkP l p h k).1.y - 1⟩)) := by
  refine ⟨_, rfl, ?_⟩
  rw [walk_step]
  rcases step_cases (axisP_bound (valueP l (walkP l p h k).1)) (walkP_head l p h0 h3 k) with ⟨h1, h2⟩ | ⟨h1, h2⟩ | ⟨h1, h2⟩ | ⟨h1, h2⟩
  · exact .inl ⟨h1, by rw [h2]; rfl⟩
  · exact .inr (.inl ⟨h1, by rw [h2]; rfl⟩)
  · exact .inr (.inr (.inl ⟨h1, by rw [h2]; rfl⟩))
  · exact .inr (.inr (.inr ⟨h1, by rw [h2]; rfl⟩))

/-! ### A field turned by a quarter -/
def turnPt (p : Pt) : Pt := ⟨-p.y, p.x⟩
theorem turn_in (p : Pt) : inB (turnPt p).x (turnPt p).y = inB p.x p.y := by
  rw [Bool.eq_iff_iff, inB_iff, inB_iff]
  simp only [turnPt]
  omega
theorem turn_pullB {u : Pull} (h : pullB u = true) : pullB (turnU u) = true := by
  rw [pullB_iff] at *
  have hi : inB (turnU u).x (turnU u).y = inB u.x u.y := turn_in ⟨u.x, u.y⟩
  rw [hi]
  obtain ⟨⟨h1, h2⟩, h3, h4⟩ := h
  refine ⟨?_, h3, h4⟩
  show 1 ≤ turnK u.kind ∧ turnK u.kind ≤ 4
  unfold turnK
  split <;> omega
theorem turn_fine {l : List Pull} (h : Fine l) : Fine (l.map turnU) := by
  refine ⟨by rw [List.length_map]; exact h.1, ?_⟩
  rw [List.all_map, List.all_eq_true]
  exact fun u hu => turn_pullB (List.all_eq_true.1 h.2 u hu)
theorem sign_turn {k : Int} (k1 : 1 ≤ k) (k2 : k ≤ 4) (X Y : Int) : signP (turnK k) Y X = -signP k X Y := by
  have hk : k = 1 ∨ k = 2 ∨ k = 3 ∨ k = 4 := by omega
  have t1 : turnK 1 = 2 := by decide
  have t2 : turnK 2 = 1 := by decide
  have t3 : turnK 3 = 3 := by decide
  have t4 : turnK 4 = 4 := by decide
  clear k1 k2
  rcases hk with rfl | rfl | rfl | rfl
  · rw [t1]; rfl
  · rw [t2]; rfl
  · rw [t3]
    show (if X > Y then 1 else if X < Y then -1 else 0) = -(if Y > X then 1 else if Y < X then -1 else (0 : Int))
    (repeat' split) <;> omega
  · rw [t4]
    show (if X > Y then -1 else if X < Y then 1 else 0) = -(if Y > X then -1 else if Y < X then 1 else (0 : Int))
    (repeat' split) <;> omega
theorem turn_one {u : Pull} (hu : pullB u = true) (p : Pt) : oneP (turnU u) (turnPt p) = -oneP u p := by
  obtain ⟨⟨k1, k2⟩, -, -, -, -, -⟩ := pullB_iff.1 hu
  have hx : adx (turnU u) (turnPt p) = ady u p := by show ((-p.y - -u.y).natAbs : Int) = ((p.y - u.y).natAbs : Int); omega
  have hy : ady (turnU u) (turnPt p) = adx u p := rfl
  have hf : far (turnU u) (turnPt p) = far u p := by unfold far; rw [hx, hy]; split <;> split <;> omega
  have hs : signP (turnU u).kind (ady u p) (adx u p) = -signP u.kind (adx u p) (ady u p) := sign_turn k1 k2 _ _
  unfold oneP nearP
  rw [hf, hx, hy, hs]
  have hr : (turnU u).reach = u.reach := rfl
  have hw : (turnU u).weight = u.weight := rfl
  rw [hr, hw]
  split
  · rfl
  · rw [Int.neg_mul]
theorem turn_value : ∀ (l : List Pull) (_ : l.all pullB = true) (p : Pt), valueP (l.map turnU) (turnPt p) = -valueP l p
  | [], _, _ => rfl
  | u :: l, h, p => by
    rw [List.all_cons, Bool.and_eq_true] at h
    rw [List.map_cons, valueP_cons, valueP_cons, turn_one h.1, turn_value l h.2]
    omega
theorem turn_step (p : Pt) {d : Int} (h0 : 0 ≤ d) (h3 : d ≤ 3) : stepP (turnPt p) ((d + 1) % 4) = turnPt (stepP p d) := by
  have : d = 0 ∨ d = 1 ∨ d = 2 ∨ d = 3 := by omega
  rcases this with rfl | rfl | rfl | rfl <;> simp [stepP, turnPt] <;> omega
theorem turn_head (v : Int) (d : Int) : headP (axisP (-v)) ((d + 1) % 4) = (headP (axisP v) d + 1) % 4 := by
  unfold axisP headP
  (repeat' split) <;> omega
theorem turn_walk {l : List Pull} (hf : Fine l) (p : Pt) {h : Int} (h0 : 0 ≤ h) (h3 : h ≤ 3) : ∀ k, walkP (l.map turnU) (turnPt p) ((h + 1) % 4) k = (turnPt (walkP l p h k).1, ((walkP l p h k).2 + 1) % 4)
  | 0 => rfl
  | k + 1 => by
    have hd := walkP_head l p h0 h3 k
    have hh := headP_bound (a := axisP (valueP l (walkP l p h k).1)) hd.1 hd.2
    simp only [walkP]
    rw [turn_walk hf p h0 h3 k]
    simp only
    rw [turn_value l hf.2, turn_head, turn_step _ hh.1 hh.2]
theorem turn_pts {l : List Pull} (hf : Fine l) (p : Pt) {h : Int} (h0 : 0 ≤ h) (h3 : h ≤ 3) (k : Nat) : ptsP (l.map turnU) (turnPt p) ((h + 1) % 4) k = (ptsP l p h k).map turnPt := by
  unfold ptsP
  rw [List.map_map]
  refine List.map_congr_left fun i _ => ?_
  rw [turn_walk hf p h0 h3 i]; rfl
theorem turn_traceIn {l : List Pull} (hf : Fine l) (p : Pt) {h : Int} (h0 : 0 ≤ h) (h3 : h ≤ 3) (k : Nat) : traceIn (l.map turnU) (turnPt p) ((h + 1) % 4) k = traceIn l p h k := by
  unfold traceIn
  rw [turn_pts hf p h0 h3 k, List.all_map]
  congr 1
  funext q
  exact turn_in q
theorem turn_trace {l : List Pull} (hf : Fine l) {p : Pt} {h s : Int} (h0 : 0 ≤ h) (ha : TraceArg p h s) : traceE (l.map turnU) (turnPt p) ((h + 1) % 4) s = traceE l p h s ∧ traceL (l.map turnU) (turnPt p) ((h + 1) % 4) s = (traceL l p h s).map turnPt := by
  have ha' : TraceArg (turnPt p) ((h + 1) % 4) s := ⟨by rw [turn_in]; exact ha.1, by omega, ha.2.2⟩
  have hf' := turn_fine hf
  have e1 := fieldE_ok hf
  have e2 := fieldE_ok hf'
  have ht := turn_traceIn hf p h0 ha.2.1 s.toNat
  cases hti : traceIn l p h s.toNat with
  | true =>
    obtain ⟨q1, q2⟩ := traceE_ok e1 ha hti
    obtain ⟨r1, r2⟩ := traceE_ok e2 ha' (ht.trans hti)
    exact ⟨by rw [q1, r1], by rw [q2, r2]; exact turn_pts hf p h0 ha.2.1 _⟩
  | false =>
    obtain ⟨q1, q2⟩ := traceE_out e1 ha hti
    obtain ⟨r1, r2⟩ := traceE_out e2 ha' (ht.trans hti)
    exact ⟨by rw [q1, r1], by rw [q2, r2]; rfl⟩
theorem turn_four {l : List Pull} (h : l.all pullB = true) : (((l.map turnU).map turnU).map turnU).map turnU = l := by
  rw [List.map_map, List.map_map, List.map_map]
  refine (List.map_congr_left (g := id) fun u hu => ?_).trans (List.map_id _)
  have hp := pullB_iff.1 (List.all_eq_true.1 h u hu)
  obtain ⟨x, y, k, w, r⟩ := u
  simp only [Function.comp, turnU, turnK, id]
  have hk := hp.1
  simp only at hk
  congr 1
  · omega
  · omega
  · (repeat' split) <;> omega
end Go.Rel
