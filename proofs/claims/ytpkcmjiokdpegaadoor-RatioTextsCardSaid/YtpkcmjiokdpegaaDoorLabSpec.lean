/- Paths as lists of bytes: names, steps, cutting at slashes (plain Lean, no program). -/
import Derived.Lib.Bytealg
import Derived.Lib.Strings
import Derived.Lib.Small
import Derived.Lib.Hide
import Derived.Below
namespace Go.Rel
/-- A string's bytes. -/
abbrev Bs := List UInt8
/-- The string of some bytes. -/
def str (l : Bs) : ByteArray := ⟨l.toArray⟩
def isL (c : UInt8) : Bool := decide (97 ≤ c.toNat ∧ c.toNat ≤ 122)
def isD (c : UInt8) : Bool := decide (48 ≤ c.toNat ∧ c.toNat ≤ 57)
def inN (c : UInt8) : Bool := isL c || decide (c.toNat = 45) || isD c
def headL : Bs → Bool | [] => true | c :: _ => isL c
/-- A string may begin so, if it is a name. -/
def namePre (l : Bs) : Bool := headL l && l.all inN
/-- It is a name. -/
def nameOk (l : Bs) : Bool := namePre l && decide (1 ≤ l.length ∧ l.length ≤ 40)
theorem isL_in {c : UInt8} (h : isL c = true) : inN c = true := by simp [inN, h]
theorem namePre_take {l : Bs} (h : namePre l = true) (m : Nat) : namePre (l.take m) = true := by
  cases m with
  | zero => rfl
  | succ m =>
    cases l with
    | nil => rfl
    | cons c r =>
      simp only [namePre, headL, Bool.and_eq_true, List.take_succ_cons, List.all_cons] at h ⊢
      refine ⟨h.1, h.2.1, ?_⟩
      rw [List.all_eq_true] at h ⊢
      exact fun x hx => h.2.2 x (List.mem_of_mem_take hx)
theorem namePre_succ {l : Bs} {k : Nat} (hk : k < l.length) : namePre (l.take (k + 1)) = (namePre (l.take k) && (if k = 0 then isL l[k] else inN l[k])) := by
  cases k with
  | zero =>
    cases l with
    | nil => simp at hk
    | cons c r =>
      simp only [List.take_succ_cons, List.take_zero, namePre, headL, List.all_cons, List.all_nil, List.getElem_cons_zero, if_true, Bool.and_true, Bool.true_and]
      cases h : isL c
      · rfl
      · simp [isL_in h]
  | succ k =>
    rw [List.take_succ_eq_append_getElem hk, if_neg (by omega)]
    cases l with
    | nil => simp at hk
    | cons c r =>
      simp only [List.take_succ_cons, namePre, List.cons_append, headL, List.all_cons, List.all_append, List.all_nil, Bool.and_true, Bool.and_assoc]
theorem namePre_fail {l : Bs} {k : Nat} (hk : k < l.length) (h : (if k = 0 then isL l[k] else inN l[k]) = false) : nameOk l = false := by
  cases hp : namePre l
  · simp [nameOk, hp]
  · have := namePre_take hp (k + 1)
    rw [namePre_succ hk, h] at this
    simp at this
theorem nameOk_of {l : Bs} (h : namePre l = true) (h1 : 1 ≤ l.length) (h2 : l.length ≤ 40) : nameOk l = true := by simp [nameOk, h, h1, h2]
theorem nameOk_len {l : Bs} (h : ¬ (1 ≤ l.length ∧ l.length ≤ 40)) : nameOk l = false := by simp [nameOk, h]

/-! ### Before and behind the first byte c -/
def bef (c : UInt8) (l : Bs) : Bs := l.takeWhile (fun x => x != c)
def aft (c : UInt8) (l : Bs) : Bs := (l.dropWhile (fun x => x != c)).drop 1
theorem bef_cons (c x : UInt8) (l : Bs) : bef c (x :: l) = if x = c then [] else x :: bef c l := by
  unfold bef
  rw [List.takeWhile_cons]
  by_cases h : x = c <;> simp [h]
theorem aft_cons (c x : UInt8) (l : Bs) : aft c (x :: l) = if x = c then l else aft c l := by
  unfold aft
  rw [List.dropWhile_cons]
  by_cases h : x = c <;> simp [h]
theorem bef_none {c : UInt8} : ∀ {l : Bs}, c ∉ l → bef c l = l ∧ aft c l = []
  | [], _ => ⟨rfl, rfl⟩
  | x :: l, h => by
    have hx : x ≠ c := fun e => h (by simp [e])
    have ih := bef_none (c := c) (l := l) (fun e => h (List.mem_cons_of_mem _ e))
    rw [bef_cons, aft_cons, if_neg hx, if_neg hx, ih.1, ih.2]
    exact ⟨rfl, rfl⟩
theorem bef_some {c : UInt8} : ∀ {l : Bs}, c ∈ l → l = bef c l ++ c :: aft c l
  | [], h => by simp at h
  | x :: l, h => by
    by_cases hx : x = c
    · rw [bef_cons, aft_cons, if_pos hx, if_pos hx, hx]; rfl
    · have : c ∈ l := by
        rcases List.mem_cons.1 h with e | e
        · exact absurd e.symm hx
        · exact e
      rw [bef_cons, aft_cons, if_neg hx, if_neg hx]
      simp only [List.cons_append, List.cons.injEq, true_and]
      exact bef_some this
theorem bef_no (c : UInt8) : ∀ l : Bs, c ∉ bef c l
  | [] => by simp [bef]
  | x :: l => by
    rw [bef_cons]
    split
    · simp
    · rename_i h
      intro e
      rcases List.mem_cons.1 e with e | e
      · exact h e.symm
      · exact bef_no c l e
theorem aft_len {c : UInt8} {l : Bs} (h : c ∈ l) : (aft c l).length < l.length := by
  have := congrArg List.length (bef_some h)
  simp at this
  omega
theorem bef_unique {c : UInt8} {a b : Bs} (h : c ∉ a) : bef c (a ++ c :: b) = a ∧ aft c (a ++ c :: b) = b := by
  induction a with
  | nil => simp [bef_cons, aft_cons]
  | cons x a ih =>
    have hx : x ≠ c := fun e => h (by simp [e])
    have := ih (fun e => h (List.mem_cons_of_mem _ e))
    rw [List.cons_append, bef_cons, aft_cons, if_neg hx, if_neg hx, this.1, this.2]
    exact ⟨rfl, rfl⟩
theorem index_mem (c : UInt8) : ∀ l : Bs, (c ∈ l → Lib.indexByte l c = (bef c l).length) ∧ (c ∉ l → Lib.indexByte l c = -1)
  | [] => ⟨fun h => by simp at h, fun _ => rfl⟩
  | x :: l => by
    obtain ⟨i1, i2⟩ := index_mem c l
    rw [bef_cons]
    unfold Lib.indexByte
    by_cases hx : x = c
    · simp [hx]
    · have hx' : (x == c) = false := by simpa using hx
      rw [if_neg hx]
      simp only [hx', Bool.false_eq_true, if_false, List.mem_cons]
      constructor
      · rintro (e | e)
        · exact absurd e.symm hx
        · rw [i1 e]
          have : (((bef c l).length : Int) == -1) = false := by simp
          simp [this]
      · intro h
        have : c ∉ l := fun e => h (.inr e)
        rw [i2 this]
        rfl

/-! ### A step -/
def numOf : Bs → Nat → Nat
  | [], n => n
  | c :: r, n => numOf r (10 * n + (c.toNat - 48))
def digOk (d : Bs) : Bool := decide (1 ≤ d.length ∧ d.length ≤ 4) && (decide (d.length = 1) || decide (d.head? ≠ some 48)) && d.all isD
/-- The step's name and index (-1: none). -/
def stepOf (l : Bs) : Option (Bs × Int) :=
  if nameOk (bef 91 l) = false then none
  else if 91 ∉ l then some (l, -1)
  else if (aft 91 l).getLast? = some 93 ∧ digOk (aft 91 l).dropLast = true then some (bef 91 l, numOf (aft 91 l).dropLast 0)
  else none
def stepOk (l : Bs) : Bool := (stepOf l).isSome
theorem numOf_append (a b : Bs) (n : Nat) : numOf (a ++ b) n = numOf b (numOf a n) := by
  induction a generalizing n with
  | nil => rfl
  | cons c a ih => exact ih _
theorem numOf_take {d : Bs} {k : Nat} (hk : k < d.length) (n : Nat) : numOf (d.take (k + 1)) n = 10 * numOf (d.take k) n + (d[k].toNat - 48) := by
  rw [List.take_succ_eq_append_getElem hk, numOf_append]
  rfl
theorem numOf_lt {d : Bs} (hd : d.all isD = true) : ∀ n, numOf d n < (n + 1) * 10 ^ d.length := by
  induction d with
  | nil => intro n; simp [numOf]
  | cons c r ih =>
    intro n
    simp only [List.all_cons, Bool.and_eq_true, isD, decide_eq_true_eq] at hd
    have := ih (by simpa [isD] using hd.2) (10 * n + (c.toNat - 48))
    simp only [numOf, List.length_cons, Nat.pow_succ]
    refine Nat.lt_of_lt_of_le this ?_
    rw [Nat.mul_comm (10 ^ r.length) 10, ← Nat.mul_assoc]
    exact Nat.mul_le_mul_right _ (by omega)

theorem str_size (l : Bs) : (str l).size = l.length := rfl
theorem str_list (l : Bs) : (str l).data.toList = l := rfl
theorem str_of (s : ByteArray) : str s.data.toList = s := rfl
/-- What read returns beside the answer. -/
def readR (l : Bs) : Bs × Int :=
  if nameOk (bef 91 l) = false ∨ 91 ∉ l then (bef 91 l, -1)
  else if (aft 91 l).getLast? = some 93 ∧ digOk (aft 91 l).dropLast = true then (bef 91 l, numOf (aft 91 l).dropLast 0)
  else ([], 0)
theorem stepOk_eq (l : Bs) : stepOk l = (nameOk (bef 91 l) && (decide (91 ∉ l) || (decide ((aft 91 l).getLast? = some 93) && digOk (aft 91 l).dropLast))) := by
  unfold stepOk stepOf
  cases nameOk (bef 91 l)
  · rfl
  · by_cases h : 91 ∈ l
    · by_cases h2 : (aft 91 l).getLast? = some 93 ∧ digOk (aft 91 l).dropLast = true
      · simp [h, h2]
      · rw [if_neg (by simp), if_neg (by simpa using h), if_neg h2]
        simp only [Option.isSome_none, Bool.true_and]
        symm
        simp only [h, not_true_eq_false, decide_false, Bool.false_or]
        rw [Bool.and_eq_false_iff]
        by_cases h3 : (aft 91 l).getLast? = some 93
        · right
          cases hd : digOk (aft 91 l).dropLast
          · rfl
          · exact absurd ⟨h3, hd⟩ h2
        · left; simp [h3]
    · simp [h]
theorem readR_some {l : Bs} {p : Bs × Int} (h : stepOf l = some p) : readR l = p := by
  unfold stepOf at h
  unfold readR
  by_cases h1 : nameOk (bef 91 l) = false
  · rw [if_pos h1] at h; simp at h
  · rw [if_neg h1] at h
    by_cases h2 : 91 ∈ l
    · rw [if_neg (by simpa using h2)] at h
      rw [if_neg (by simp [h1, h2])]
      split at h
      · rename_i h3; rw [if_pos h3]; simpa using h
      · simp at h
    · rw [if_pos h2] at h
      rw [if_pos (.inr h2), (bef_none h2).1]
      simpa using h
theorem suffix_one (l : Bs) (c : UInt8) : Lib.hasSuffix l [c] = decide (l.getLast? = some c) := by
  unfold Lib.hasSuffix
  rw [Bool.eq_iff_iff, decide_eq_true_eq, List.isSuffixOf_iff_suffix, List.getLast?_eq_some_iff]
  constructor
  · rintro ⟨t, h⟩; exact ⟨t, h.symm⟩
  · rintro ⟨t, h⟩; exact ⟨t, h.symm⟩
theorem trim_one (l : Bs) (c : UInt8) (h : l.getLast? = some c) : Lib.trimSuffix l [c] = l.dropLast := by
  unfold Lib.trimSuffix
  rw [suffix_one, decide_eq_true h, if_pos rfl, List.dropLast_eq_take]
  rfl

/-! ### Cutting at slashes -/
def segs : Bs → List Bs
  | [] => [[]]
  | c :: r => if c = 47 then [] :: segs r else match segs r with | [] => [[c]] | h :: t => (c :: h) :: t
/-- The steps of a path, as strings. -/
def cutP (l : Bs) : List Bs := if l = [] then [] else segs l
/-- Steps put together. -/
def pathP : List Bs → Bs
  | [] => []
  | [a] => a
  | a :: b :: t => a ++ 47 :: pathP (b :: t)
theorem segs_char {c : UInt8} {r h : Bs} {t : List Bs} (hc : c ≠ 47) (e : segs r = h :: t) : segs (c :: r) = (c :: h) :: t := by
  unfold segs
  rw [if_neg hc, e]
theorem segs_ne : ∀ l, segs l ≠ []
  | [] => by simp [segs]
  | c :: r => by
    unfold segs
    split
    · simp
    · split <;> simp
theorem segs_one : ∀ {l : Bs}, 47 ∉ l → segs l = [l]
  | [], _ => rfl
  | c :: r, h => by
    have hc : c ≠ 47 := fun e => h (by simp [e])
    have := segs_one (l := r) (fun e => h (List.mem_cons_of_mem _ e))
    unfold segs
    rw [if_neg hc, this]
theorem segs_more {a b : Bs} (h : 47 ∉ a) : segs (a ++ 47 :: b) = a :: segs b := by
  induction a with
  | nil => simp [segs]
  | cons c a ih =>
    have hc : c ≠ 47 := fun e => h (by simp [e])
    have := ih (fun e => h (List.mem_cons_of_mem _ e))
    rw [List.cons_append]
    exact segs_char hc this
theorem segs_cut (l : Bs) : segs l = if 47 ∈ l then bef 47 l :: segs (aft 47 l) else [l] := by
  by_cases h : 47 ∈ l
  · rw [if_pos h]
    conv => lhs; rw [bef_some h]
    exact segs_more (bef_no 47 l)
  · rw [if_neg h, segs_one h]
theorem segs_count : ∀ l : Bs, (segs l).length = l.count 47 + 1
  | [] => rfl
  | c :: r => by
    have ih := segs_count r
    unfold segs
    by_cases hc : c = 47
    · simp [hc, ih]
    · rw [if_neg hc, List.count_cons_of_ne hc]
      split
      · rename_i e; exact absurd e (segs_ne r)
      · rename_i h t e; rw [e] at ih; simpa using ih
theorem segs_no : ∀ l : Bs, ∀ x ∈ segs l, 47 ∉ x
  | [], x, hx => by simp [segs] at hx; simp [hx]
  | c :: r, x, hx => by
    have ih := segs_no r
    unfold segs at hx
    by_cases hc : c = 47
    · rw [if_pos hc] at hx
      rcases List.mem_cons.1 hx with rfl | hx
      · simp
      · exact ih x hx
    · rw [if_neg hc] at hx
      split at hx
      · simp at hx; subst hx; simpa using Ne.symm hc
      · rename_i h t e
        rcases List.mem_cons.1 hx with rfl | hx
        · have := ih h (by rw [e]; simp)
          intro e'
          rcases List.mem_cons.1 e' with e' | e'
          · exact hc e'.symm
          · exact this e'
        · exact ih x (by rw [e]; exact List.mem_cons_of_mem _ hx)
theorem pathP_cons (a : Bs) {t : List Bs} (h : t ≠ []) : pathP (a :: t) = a ++ 47 :: pathP t := by
  cases t with
  | nil => exact absurd rfl h
  | cons b t => rfl
theorem path_segs : ∀ l : Bs, pathP (segs l) = l
  | [] => rfl
  | c :: r => by
    have ih := path_segs r
    unfold segs
    by_cases hc : c = 47
    · rw [if_pos hc, pathP_cons _ (segs_ne r), ih, hc]; rfl
    · rw [if_neg hc]
      split
      · rename_i e; exact absurd e (segs_ne r)
      · rename_i h t e
        rw [e] at ih
        cases t with
        | nil => simpa [pathP] using ih
        | cons b t => simpa [pathP] using ih
theorem segs_path : ∀ {t : List Bs}, t ≠ [] → (∀ x ∈ t, 47 ∉ x) → segs (pathP t) = t
  | [], h, _ => absurd rfl h
  | [a], _, h => segs_one (h a (by simp))
  | a :: b :: t, _, h => by
    rw [pathP_cons a (by simp), segs_more (h a (by simp)), segs_path (by simp) (fun x hx => h x (List.mem_cons_of_mem _ hx))]
theorem path_cut (l : Bs) : pathP (cutP l) = l := by
  unfold cutP
  split
  · rename_i h; rw [h]; rfl
  · exact path_segs l
theorem cutP_nil {l : Bs} : cutP l = [] ↔ l = [] := by
  unfold cutP
  split
  · simp [*]
  · simp [segs_ne, *]
theorem cutP_inj {a b : Bs} (h : cutP a = cutP b) : a = b := by rw [← path_cut a, ← path_cut b, h]
theorem path_nil {t : List Bs} (hne : ∀ x ∈ t, x ≠ []) (h : pathP t = []) : t = [] := by
  cases t with
  | nil => rfl
  | cons a t =>
    cases t with
    | nil => exact absurd h (hne a (by simp))
    | cons b t => rw [pathP_cons a (by simp)] at h; simp at h
theorem cut_path {t : List Bs} (hne : ∀ x ∈ t, x ≠ []) (hno : ∀ x ∈ t, 47 ∉ x) : cutP (pathP t) = t := by
  unfold cutP
  split
  · rename_i h; rw [path_nil hne h]
  · rename_i h
    refine segs_path (fun e => h ?_) hno
    rw [e]; rfl

/-! ### A path -/
def checkP (l : Bs) : Int := if 4000 < l.length ∨ 40 < (cutP l).length then 4 else if (cutP l).all stepOk then 0 else 12
theorem cutP_count (l : Bs) : (40 < (cutP l).length) ↔ 39 < l.count 47 := by
  unfold cutP
  split
  · rename_i h; simp [h]
  · rw [segs_count]; omega
end Go.Rel
