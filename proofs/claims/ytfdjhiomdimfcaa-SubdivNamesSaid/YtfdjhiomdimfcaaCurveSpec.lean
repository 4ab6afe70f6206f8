import Derived.Test.YtfdjhiomdimfcaaBase
namespace Go.Rel

/-! ### What the functions on curves compute -/
def fineB (x y z n : Int) : Bool := decide (-n ≤ x ∧ x ≤ n ∧ -n ≤ y ∧ y ≤ n ∧ -n ≤ z ∧ z ≤ n)
def fineV (v : Vec) (n : Int) : Bool := fineB v.x v.y v.z n
theorem fineV_iff {v : Vec} {n : Int} : fineV v n = true ↔ -n ≤ v.x ∧ v.x ≤ n ∧ -n ≤ v.y ∧ v.y ≤ n ∧ -n ≤ v.z ∧ v.z ≤ n := by simp [fineV, fineB]

def Valid (l : List Vec) (down : Int) : Prop := 1 ≤ l.length ∧ l.length ≤ 1000 ∧ 0 ≤ down ∧ down ≤ 30 ∧ l.all (fineV · 1000000000000) = true
instance (l : List Vec) (down : Int) : Decidable (Valid l down) := by unfold Valid; infer_instance
def checkE (l : List Vec) (down : Int) : Int := if Valid l down then 0 else 8
theorem Valid.fine {l : List Vec} {down : Int} (h : Valid l down) {k : Nat} (hk : k < l.length) : fineV l[k] 1000000000000 = true := List.all_eq_true.1 h.2.2.2.2 _ (List.getElem_mem hk)
theorem checkE_ok {l : List Vec} {down : Int} (h : Valid l down) : checkE l down = 0 := if_pos h
theorem checkE_bad {l : List Vec} {down : Int} (h : ¬ Valid l down) : checkE l down = 8 := if_neg h

/-- A number divided by 2 to the power of d, rounded, a half up. -/
def nearI (n : Int) (d : Nat) : Int := (n + 2 ^ d / 2) / 2 ^ d
def roundV (d : Nat) (v : Vec) : Vec := ⟨nearI v.x d, nearI v.y d, nearI v.z d⟩
/-- Round: the points and the error. -/
def roundL (l : List Vec) (down : Int) : List Vec :=
  if Valid l down then (if (l.map (roundV down.toNat)).all (fineV · 1000000) = true then l.map (roundV down.toNat) else []) else []
def roundE (l : List Vec) (down : Int) : Int :=
  if Valid l down then (if (l.map (roundV down.toNat)).all (fineV · 1000000) = true then 0 else 16) else 8
theorem roundL_bad {l : List Vec} {down : Nat} (h : Valid l down) {k : Nat} (hk : k < l.length) (hf : fineV (roundV down l[k]) 1000000 = false) : roundL l down = [] ∧ roundE l down = 16 := by
  have hn : ¬ ((l.map (roundV (down : Int).toNat)).all (fineV · 1000000) = true) := fun ha => by
    have := List.all_eq_true.1 ha (roundV down l[k]) (List.mem_map.2 ⟨l[k], List.getElem_mem hk, rfl⟩)
    rw [hf] at this
    cases this
  exact ⟨by rw [roundL, if_pos h, if_neg hn], by rw [roundE, if_pos h, if_neg hn]⟩
theorem roundL_ok {l : List Vec} {down : Nat} (h : Valid l down) (ha : (l.map (roundV down)).all (fineV · 1000000) = true) : roundL l down = l.map (roundV down) ∧ roundE l down = 0 :=
  ⟨by rw [roundL, if_pos h]; exact if_pos ha, by rw [roundE, if_pos h]; exact if_pos ha⟩
/-- The first k of a list, each turned by f. -/
def firstK (f : Vec → Vec) (l : List Vec) (k : Nat) : List Vec := (l.take k).map f
theorem firstK_succ (f : Vec → Vec) (l : List Vec) {k : Nat} (hk : k < l.length) : firstK f l (k + 1) = firstK f l k ++ [f l[k]] := by
  unfold firstK
  rw [List.take_succ_eq_append_getElem hk, List.map_append]; rfl
theorem firstK_all (f : Vec → Vec) (l : List Vec) : firstK f l l.length = l.map f := by unfold firstK; rw [List.take_length]
theorem firstK_length (f : Vec → Vec) (l : List Vec) {k : Nat} (hk : k ≤ l.length) : (firstK f l k).length = k := by unfold firstK; rw [List.length_map, List.length_take]; omega
theorem firstK_fine {f : Vec → Vec} {l : List Vec} {k : Nat} (hk : k < l.length) (h : (firstK f l k).all (fineV · 1000000) = true) (hf : fineV (f l[k]) 1000000 = true) : (firstK f l (k + 1)).all (fineV · 1000000) = true := by
  rw [firstK_succ f l hk, List.all_append, h]; simp [hf]

/-! ### The hull -/
def imin (x y : Int) : Int := if y < x then y else x
def imax (x y : Int) : Int := if y > x then y else x
theorem run_imin {P : Program} (ts : Array TypeId) (t : TypeId) (k k' : IntKind) (x y : Int) (w : World) : (Builtin.min_ ts t #[.int k x, .int k' y]).run P w = .ok (.int k (imin x y)) w := run_min_int2 w ts t k k' x y
theorem run_imax {P : Program} (ts : Array TypeId) (t : TypeId) (k k' : IntKind) (x y : Int) (w : World) : (Builtin.max_ ts t #[.int k x, .int k' y]).run P w = .ok (.int k (imax x y)) w := run_max_int2 w ts t k k' x y
def lo2 (a v : Vec) : Vec := ⟨imin a.x v.x, imin a.y v.y, imin a.z v.z⟩
def hi2 (a v : Vec) : Vec := ⟨imax a.x v.x, imax a.y v.y, imax a.z v.z⟩
def zeroV : Vec := ⟨0, 0, 0⟩
/-- The first k of a list put together from its head on. -/
def foldK (f : Vec → Vec → Vec) (l : List Vec) (k : Nat) : Vec := (l.take k).foldl f (l.headD zeroV)
theorem foldK_zero (f : Vec → Vec → Vec) (l : List Vec) (h : 0 < l.length) : foldK f l 0 = l[0] := by
  cases l with
  | nil => simp at h
  | cons a l => rfl
theorem foldK_succ (f : Vec → Vec → Vec) (l : List Vec) {k : Nat} (hk : k < l.length) : foldK f l (k + 1) = f (foldK f l k) l[k] := by
  unfold foldK
  rw [List.take_succ_eq_append_getElem hk, List.foldl_append]; rfl
theorem lo2_self (a : Vec) : lo2 a a = a := by cases a; simp [lo2, imin]
theorem hi2_self (a : Vec) : hi2 a a = a := by cases a; simp [hi2, imax]
theorem foldK_one (f : Vec → Vec → Vec) (hf : ∀ a, f a a = a) (l : List Vec) (h : 0 < l.length) : foldK f l 1 = l[0] := by
  rw [foldK_succ f l h, foldK_zero f l h, hf]
def hullLo (l : List Vec) (down : Int) : Vec := if Valid l down then foldK lo2 l l.length else zeroV
def hullHi (l : List Vec) (down : Int) : Vec := if Valid l down then foldK hi2 l l.length else zeroV

/-- Whether two vectors are equal. -/
def sameB (x y z x' y' z' : Int) : Bool := decide (x = x' ∧ y = y' ∧ z = z')
theorem sameB_vec (a b : Vec) : sameB a.x a.y a.z b.x b.y b.z = decide (a = b) := by
  cases a; cases b; simp [sameB]
theorem take_same {l l' : List Vec} {k : Nat} (h1 : k < l.length) (h2 : k < l'.length) (h : l.take k = l'.take k) {a a' : Vec} (ha : l[k] = a) (ha' : l'[k] = a') (hs : sameB a.x a.y a.z a'.x a'.y a'.z = true) : l.take (k + 1) = l'.take (k + 1) := by
  rw [sameB_vec, decide_eq_true_eq] at hs
  rw [List.take_succ_eq_append_getElem h1, List.take_succ_eq_append_getElem h2, h, ha, ha', hs]
theorem differ_at {l l' : List Vec} {k : Nat} (h1 : k < l.length) (h2 : k < l'.length) {a a' : Vec} (ha : l[k] = a) (ha' : l'[k] = a') (hs : sameB a.x a.y a.z a'.x a'.y a'.z = false) : false = decide (l = l') := by
  rw [sameB_vec, decide_eq_false_iff_not] at hs
  symm
  rw [decide_eq_false_iff_not]
  intro e
  subst e
  exact hs (ha.symm.trans ha')
theorem same_all {l l' : List Vec} {n : Nat} (h1 : l.length = n) (h2 : l'.length = n) (h : l.take n = l'.take n) : true = decide (l = l') := by
  symm
  rw [decide_eq_true_eq]
  rw [← List.take_length (l := l), ← List.take_length (l := l'), h1, h2, h]
theorem sameB_self (x y z : Int) : sameB x y z x y z = true := by simp [sameB]
end Go.Rel
