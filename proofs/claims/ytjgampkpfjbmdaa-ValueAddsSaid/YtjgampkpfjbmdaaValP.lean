/- Comparison of values in plain terms. -/
import Derived.Test.YtjgampkpfjbmdaaValM
import Derived.Test.YtjgampkpfjbmdaaRatL
import Derived.Lib.Bytealg
namespace Go.Rel
open Go.RowKit
def ordB (t u : Bool) : Int := if t = u then 0 else if t = true then 1 else -1
theorem cmpB_cases : ∀ (a b : List UInt8), (a = b → Lib.compareBytes a b = 0) ∧ (a ≠ b → Op.bytesLess a b = true → Lib.compareBytes a b = -1) ∧ (a ≠ b → Op.bytesLess a b = false → Lib.compareBytes a b = 1)
  | [], [] => by simp [Lib.compareBytes]
  | [], _ :: _ => by simp [Lib.compareBytes, Op.bytesLess]
  | _ :: _, [] => by simp [Lib.compareBytes, Op.bytesLess]
  | a :: x, b :: y => by
    have ih := cmpB_cases x y
    unfold Lib.compareBytes Op.bytesLess
    by_cases h1 : a < b
    · have h2 : a ≠ b := fun e => by subst e; exact absurd h1 (by simp)
      simp [h1, h2]
    · by_cases h2 : b < a
      · have h3 : a ≠ b := fun e => by subst e; exact h1 h2
        simp [h1, h2, h3]
      · have h3 : a = b := by
          rw [UInt8.lt_iff_toNat_lt] at h1 h2
          exact UInt8.toNat_inj.1 (by omega)
        subst h3
        simp only [h1, if_false, List.cons.injEq, true_and, beq_self_eq_true, Bool.true_and, decide_false, Bool.false_or, ne_eq]
        exact ih
end Go.Rel
namespace Go.Proofs.Ytjgampkpfjbmdaa
open Go.RowKit Go.Rel
mutual
/-- The order of two values, and the error. -/
noncomputable def ordT : Tree → Tree → Int × Int
  | .node k q t s l, U => if k ≠ U.k then (0, 20) else if k = 1 then (cmpR q U.q, 0) else if k = 2 then (ordB t U.t, 0) else if k = 3 then (Lib.compareBytes s.data.toList U.s.data.toList, 0) else ordL l U.kids
noncomputable def ordL : List Tree → List Tree → Int × Int
  | [], [] => (0, 0)
  | [], _ :: _ => (-1, 0)
  | _ :: _, [] => (1, 0)
  | a :: r, b :: r' => if sameB a b = true then ordL r r' else ordT a b
end
theorem ord_kind {k k' : Int} {q q' : Rat2} {t t' : Bool} {s s' : ByteArray} {l l' : List Tree} (h : k ≠ k') : ordT (.node k q t s l) (.node k' q' t' s' l') = (0, 20) := by unfold ordT; exact if_pos h
theorem ord_num {q q' : Rat2} {t t' : Bool} {s s' : ByteArray} {l l' : List Tree} : ordT (.node 1 q t s l) (.node 1 q' t' s' l') = (cmpR q q', 0) := by unfold ordT; exact (if_neg (fun n => n rfl)).trans (if_pos rfl)
theorem ord_truth {q q' : Rat2} {t t' : Bool} {s s' : ByteArray} {l l' : List Tree} : ordT (.node 2 q t s l) (.node 2 q' t' s' l') = (ordB t t', 0) := by unfold ordT; exact (if_neg (fun n => n rfl)).trans ((if_neg (show ¬ (2 : Int) = 1 by decide)).trans (if_pos rfl))
theorem ord_str {q q' : Rat2} {t t' : Bool} {s s' : ByteArray} {l l' : List Tree} : ordT (.node 3 q t s l) (.node 3 q' t' s' l') = (Lib.compareBytes s.data.toList s'.data.toList, 0) := by unfold ordT; exact (if_neg (fun n => n rfl)).trans ((if_neg (show ¬ (3 : Int) = 1 by decide)).trans ((if_neg (show ¬ (3 : Int) = 2 by decide)).trans (if_pos rfl)))
theorem ord_list {q q' : Rat2} {t t' : Bool} {s s' : ByteArray} {l l' : List Tree} : ordT (.node 4 q t s l) (.node 4 q' t' s' l') = ordL l l' := by unfold ordT; exact (if_neg (fun n => n rfl)).trans ((if_neg (show ¬ (4 : Int) = 1 by decide)).trans ((if_neg (show ¬ (4 : Int) = 2 by decide)).trans (if_neg (show ¬ (4 : Int) = 3 by decide))))
theorem ordL_drop : ∀ (i : Nat) (l l' : List Tree), i ≤ l.length → i ≤ l'.length → l.take i = l'.take i → ordL l l' = ordL (l.drop i) (l'.drop i)
  | 0, _, _, _, _, _ => rfl
  | i + 1, [], _, h, _, _ => by simp at h
  | i + 1, _ :: _, [], _, h, _ => by simp at h
  | i + 1, a :: r, b :: r', h1, h2, h => by
    simp only [List.take_succ_cons, List.cons.injEq] at h
    obtain ⟨rfl, h⟩ := h
    rw [List.drop_succ_cons, List.drop_succ_cons, ← ordL_drop i r r' (by simpa using h1) (by simpa using h2) h]
    conv => lhs; unfold ordL
    rw [if_pos (sameB_self a)]
theorem ordL_diff {l l' : List Tree} {i : Nat} {y y' : Tree} (hy : l[i]? = some y) (hy' : l'[i]? = some y') (h : l.take i = l'.take i) (hs : sameB y y' = false) : ordL l l' = ordT y y' := by
  obtain ⟨h1, rfl⟩ := kid_at hy
  obtain ⟨h2, rfl⟩ := kid_at hy'
  rw [ordL_drop i l l' (by omega) (by omega) h, List.drop_eq_getElem_cons h1, List.drop_eq_getElem_cons h2]
  unfold ordL
  rw [if_neg (by rw [hs]; decide)]
theorem ordL_long {l l' : List Tree} {i : Nat} (h1 : i < l.length) (h2 : l'.length = i) (h : l.take i = l'.take i) : ordL l l' = (1, 0) := by
  have e : l'.drop i = [] := List.drop_of_length_le (by omega)
  rw [ordL_drop i l l' (by omega) (by omega) h, List.drop_eq_getElem_cons h1, e]
  simp only [ordL]
theorem ordL_short {l l' : List Tree} {i : Nat} (h1 : l.length = i) (h2 : i < l'.length) (h : l.take i = l'.take i) : ordL l l' = (-1, 0) := by
  have e : l.drop i = [] := List.drop_of_length_le (by omega)
  rw [ordL_drop i l l' (by omega) (by omega) h, List.drop_eq_getElem_cons h2, e]
  simp only [ordL]
theorem ordL_end {l l' : List Tree} {i : Nat} (h1 : l.length = i) (h2 : l'.length = i) (h : l.take i = l'.take i) : ordL l l' = (0, 0) := by
  have e : l.drop i = [] := List.drop_of_length_le (by omega)
  have e' : l'.drop i = [] := List.drop_of_length_le (by omega)
  rw [ordL_drop i l l' (by omega) (by omega) h, e, e']
  simp only [ordL]
/-- What Compare returns. -/
noncomputable def cmpV (T U : Tree) : Int := if bothV T U ≠ 0 then 0 else (ordT T U).1
noncomputable def cmpE (T U : Tree) : Int := if bothV T U ≠ 0 then bothV T U else (ordT T U).2
end Go.Proofs.Ytjgampkpfjbmdaa
