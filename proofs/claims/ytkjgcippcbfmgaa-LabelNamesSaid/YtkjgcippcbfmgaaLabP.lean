/- Two paths: joining, being under, the common path, comparing (plain Lean, no program). -/
import Derived.Test.YtkjgcippcbfmgaaLabI
namespace Go.Rel
open Go.RowKit
/-! ### Paths put together -/
theorem segs_app : ∀ a b : Bs, segs (a ++ 47 :: b) = segs a ++ segs b
  | [], b => by rw [List.nil_append, show (47 :: b : Bs) = [] ++ 47 :: b from rfl, segs_more (by simp)]; rfl
  | c :: a, b => by
    have ih := segs_app a b
    by_cases hc : c = 47
    · subst hc
      rw [List.cons_append, show (47 :: (a ++ 47 :: b) : Bs) = [] ++ 47 :: (a ++ 47 :: b) from rfl, segs_more (by simp), ih, show (47 :: a : Bs) = [] ++ 47 :: a from rfl, segs_more (by simp)]
      rfl
    · rw [List.cons_append]
      cases hs : segs a with
      | nil => exact absurd hs (segs_ne a)
      | cons x t =>
        rw [segs_char hc hs]
        rw [hs] at ih
        rw [segs_char hc (show segs (a ++ 47 :: b) = x :: (t ++ segs b) by rw [ih]; rfl)]
        rfl
theorem path_app : ∀ {t u : List Bs}, t ≠ [] → u ≠ [] → pathP (t ++ u) = pathP t ++ 47 :: pathP u
  | [], _, h, _ => absurd rfl h
  | [a], u, _, hu => by
    rw [List.cons_append, List.nil_append, pathP_cons a hu]; rfl
  | a :: b :: t, u, _, hu => by
    rw [List.cons_append, pathP_cons a (by simp), path_app (by simp) hu, pathP_cons a (by simp)]
    simp
theorem cutP_segs {l : Bs} (h : l ≠ []) : cutP l = segs l := by unfold cutP; rw [if_neg h]
/-- What Join puts together. -/
def joinO (p s : Bs) : Bs := pathP (cutP p ++ [s])
theorem joinO_nil (s : Bs) : joinO [] s = s := rfl
theorem joinO_more {p : Bs} (s : Bs) (h : p ≠ []) : joinO p s = p ++ 47 :: s := by
  unfold joinO
  rw [path_snoc s (fun e => h (cutP_nil.1 e)), path_cut]
def joinE (p s : Bs) : Int := if checkP p ≠ 0 then checkP p else if stepOk s = false then 12 else checkP (joinO p s)
def joinS (p s : Bs) : Bs := if joinE p s = 0 then joinO p s else []
def bothE (p q : Bs) : Int := if checkP p ≠ 0 then checkP p else checkP q

/-! ### Being under -/
/-- The steps of q are the first of those of p. -/
def underB (p q : Bs) : Bool := (cutP q).isPrefixOf (cutP p)
theorem under_iff (p q : Bs) : (q = [] ∨ p = q ∨ Lib.hasPrefix p (q ++ [47]) = true) ↔ underB p q = true := by
  unfold underB Lib.hasPrefix
  rw [List.isPrefixOf_iff_prefix, List.isPrefixOf_iff_prefix]
  by_cases hq : q = []
  · subst hq
    simp [cutP]
  · constructor
    · rintro (h | h | ⟨r, h⟩)
      · exact absurd h hq
      · rw [h]; exact List.prefix_refl _
      · have hp : p ≠ [] := by rintro rfl; simp at h
        rw [cutP_segs hq, cutP_segs hp]
        rw [List.append_assoc] at h
        have h' : p = q ++ 47 :: r := h.symm
        rw [h', segs_app]
        exact List.prefix_append _ _
    · rintro ⟨t, h⟩
      right
      have hp : p ≠ [] := by
        rintro rfl
        have h2 := congrArg List.length h
        simp only [cutP, if_true, List.length_append, List.length_nil] at h2
        rw [if_neg hq] at h2
        have := List.length_pos_iff.2 (segs_ne q)
        omega
      by_cases ht : t = []
      · subst ht
        rw [List.append_nil] at h
        exact .inl (cutP_inj h.symm)
      · right
        have h2 := congrArg pathP h
        rw [path_app (fun e => hq (cutP_nil.1 e)) ht, path_cut, path_cut] at h2
        exact ⟨pathP t, by rw [← h2]; simp⟩

/-! ### What two lists share -/
def sharedN : List Bs → List Bs → Nat
  | x :: a, y :: b => if x = y then sharedN a b + 1 else 0
  | _, _ => 0
theorem sharedN_le : ∀ a b : List Bs, sharedN a b ≤ a.length ∧ sharedN a b ≤ b.length
  | [], _ => by simp [sharedN]
  | _ :: _, [] => by simp [sharedN]
  | x :: a, y :: b => by
    have := sharedN_le a b
    unfold sharedN
    split <;> simp <;> omega
theorem sharedN_take : ∀ a b : List Bs, a.take (sharedN a b) = b.take (sharedN a b)
  | [], b => by simp [sharedN]
  | _ :: _, [] => by simp [sharedN]
  | x :: a, y :: b => by
    have := sharedN_take a b
    unfold sharedN
    split
    · rename_i h; rw [List.take_succ_cons, List.take_succ_cons, this, h]
    · rfl
theorem sharedN_max : ∀ {a b : List Bs} {k : Nat}, k ≤ a.length → k ≤ b.length → a.take k = b.take k → k ≤ sharedN a b
  | [], b, k, h, _, _ => by simp at h; omega
  | _ :: _, [], k, _, h, _ => by simp at h; omega
  | x :: a, y :: b, 0, _, _, _ => by omega
  | x :: a, y :: b, k + 1, h1, h2, h => by
    rw [List.take_succ_cons, List.take_succ_cons, List.cons.injEq] at h
    have := sharedN_max (a := a) (b := b) (k := k) (by simpa using h1) (by simpa using h2) h.2
    unfold sharedN
    rw [if_pos h.1]
    omega
theorem prefix_iff_take {a b : List Bs} : a <+: b ↔ (a.length ≤ b.length ∧ b.take a.length = a) := by
  rw [List.prefix_iff_eq_take]
  constructor
  · intro h
    refine ⟨?_, h.symm⟩
    have := congrArg List.length h
    rw [List.length_take] at this
    omega
  · exact fun h => h.2.symm
theorem sharedN_comm : ∀ a b : List Bs, sharedN a b = sharedN b a
  | [], [] => rfl
  | [], _ :: _ => rfl
  | _ :: _, [] => rfl
  | x :: a, y :: b => by
    unfold sharedN
    by_cases h : x = y
    · rw [if_pos h, if_pos h.symm, sharedN_comm a b]
    · rw [if_neg h, if_neg (fun e => h e.symm)]
/-- Under, as the reference sees it. -/
theorem under_shared (p q : Bs) : underB p q = decide (sharedN (cutP p) (cutP q) = (cutP q).length) := by
  unfold underB
  rw [Bool.eq_iff_iff, List.isPrefixOf_iff_prefix, decide_eq_true_eq, prefix_iff_take]
  constructor
  · rintro ⟨h1, h2⟩
    have h3 := sharedN_le (cutP p) (cutP q)
    have h4 := sharedN_max h1 (Nat.le_refl _) (h2.trans (List.take_length).symm)
    omega
  · intro h
    have h3 := sharedN_le (cutP p) (cutP q)
    have h4 := sharedN_take (cutP p) (cutP q)
    rw [h, List.take_length] at h4
    exact ⟨by omega, h4⟩

/-! ### Steps of a path are no empty strings and hold no slash -/
theorem isL_no {c : UInt8} (h : inN c = true) : c ≠ 47 ∧ c ≠ 91 ∧ c ≠ 93 := by
  unfold inN isL isD at h
  refine ⟨?_, ?_, ?_⟩ <;> (rintro rfl; revert h; decide)
theorem nameOk_all {l : Bs} (h : nameOk l = true) : 1 ≤ l.length ∧ ∀ c ∈ l, inN c = true := by
  unfold nameOk namePre at h
  rw [Bool.and_eq_true, Bool.and_eq_true, decide_eq_true_eq, List.all_eq_true] at h
  exact ⟨h.2.1, h.1.2⟩
theorem digOk_all {l : Bs} (h : digOk l = true) : (1 ≤ l.length ∧ l.length ≤ 4) ∧ (l.length = 1 ∨ l.head? ≠ some 48) ∧ ∀ c ∈ l, isD c = true := by
  unfold digOk at h
  rw [Bool.and_eq_true, Bool.and_eq_true, decide_eq_true_eq, Bool.or_eq_true, decide_eq_true_eq, decide_eq_true_eq, List.all_eq_true] at h
  exact ⟨h.1.1, h.1.2, h.2⟩
/-- What a step is made of. -/
theorem stepOf_some {l : Bs} {p : Bs × Int} (h : stepOf l = some p) :
    nameOk p.1 = true ∧ ((l = p.1 ∧ p.2 = -1) ∨ ∃ d, l = p.1 ++ 91 :: (d ++ [93]) ∧ digOk d = true ∧ p.2 = numOf d 0) := by
  unfold stepOf at h
  split at h
  · cases h
  · rename_i hn
    have hn : nameOk (bef 91 l) = true := by simpa using hn
    split at h
    · rename_i h2
      cases h
      rw [(bef_none h2).1] at hn
      exact ⟨hn, .inl ⟨rfl, rfl⟩⟩
    · rename_i h2
      split at h
      · rename_i h3
        cases h
        refine ⟨hn, .inr ⟨(aft 91 l).dropLast, ?_, h3.2, rfl⟩⟩
        have hl : l = bef 91 l ++ 91 :: aft 91 l := bef_some (by simpa using h2)
        have ha : aft 91 l = (aft 91 l).dropLast ++ [93] := by
          obtain ⟨ys, hy⟩ := List.getLast?_eq_some_iff.1 h3.1
          rw [hy]; simp
        conv => lhs; rw [hl]
        conv => lhs; arg 2; rw [ha]
      · cases h
theorem step_no {l : Bs} (h : stepOk l = true) : l ≠ [] ∧ 47 ∉ l := by
  unfold stepOk at h
  obtain ⟨p, hp⟩ := Option.isSome_iff_exists.1 h
  obtain ⟨hn, hl⟩ := stepOf_some hp
  obtain ⟨h1, h2⟩ := nameOk_all hn
  have hno : 47 ∉ p.1 := fun e => (isL_no (h2 _ e)).1 rfl
  have hne : p.1 ≠ [] := by rintro e; rw [e] at h1; simp at h1
  rcases hl with ⟨e, -⟩ | ⟨d, e, hd, -⟩
  · rw [e]; exact ⟨hne, hno⟩
  · rw [e]
    refine ⟨by simp [hne], ?_⟩
    intro hm
    rcases List.mem_append.1 hm with hm | hm
    · exact hno hm
    · rcases List.mem_cons.1 hm with hm | hm
      · cases hm
      · rcases List.mem_append.1 hm with hm | hm
        · have := (digOk_all hd).2.2 _ hm
          revert this; decide
        · simp at hm
theorem check_all {p : Bs} (h : checkP p = 0) : p.length ≤ 4000 ∧ (cutP p).length ≤ 40 ∧ ∀ x ∈ cutP p, stepOk x = true := by
  unfold checkP at h
  split at h
  · cases h
  · split at h
    · rename_i h1 h2
      rw [List.all_eq_true] at h2
      exact ⟨by omega, by omega, h2⟩
    · cases h
/-- The first k steps of a path make a path of them. -/
theorem cut_take {p : Bs} (h : checkP p = 0) (k : Nat) : cutP (pathP ((cutP p).take k)) = (cutP p).take k := by
  obtain ⟨-, -, h3⟩ := check_all h
  exact cut_path (fun x hx => (step_no (h3 x (List.mem_of_mem_take hx))).1) (fun x hx => (step_no (h3 x (List.mem_of_mem_take hx))).2)
def commonS (p q : Bs) : Bs := if bothE p q = 0 then pathP ((cutP p).take (sharedN (cutP p) (cutP q))) else []
/-- Is the path of the first k steps above q? -/
theorem above_iff {p q : Bs} (h : checkP p = 0) {k : Nat} (hk : k ≤ (cutP p).length) : underB q (pathP ((cutP p).take k)) = decide (k ≤ sharedN (cutP p) (cutP q)) := by
  unfold underB
  rw [cut_take h, Bool.eq_iff_iff, List.isPrefixOf_iff_prefix, decide_eq_true_eq, prefix_iff_take]
  have hl : ((cutP p).take k).length = k := by rw [List.length_take]; omega
  rw [hl]
  constructor
  · rintro ⟨h1, h2⟩
    exact sharedN_max hk h1 h2.symm
  · intro hs
    have h3 := sharedN_le (cutP p) (cutP q)
    have h4 := sharedN_take (cutP p) (cutP q)
    refine ⟨by omega, ?_⟩
    have h5 := congrArg (List.take k) h4
    rw [List.take_take, List.take_take, Nat.min_eq_left hs] at h5
    exact h5.symm
theorem up_take {p : Bs} (h : checkP p = 0) {k : Nat} (hk : k < (cutP p).length) : upS (pathP ((cutP p).take (k + 1))) = pathP ((cutP p).take k) := by
  have hc := cut_take h (k + 1)
  have hne : pathP ((cutP p).take (k + 1)) ≠ [] := by
    intro e
    have := cutP_nil.2 e
    rw [hc] at this
    have := congrArg List.length this
    rw [List.length_take, List.length_nil] at this
    omega
  unfold upS
  rw [← cutP_segs hne, hc, List.dropLast_eq_take, List.take_take, List.length_take, show min (min (k + 1) (cutP p).length - 1) (k + 1) = k by omega]
end Go.Rel
