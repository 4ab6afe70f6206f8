/- Texts put together: RatSpec, ValSpec, Region. -/
import Derived.Test.YtjgampkpfjbmdaaDoorPack01
import Derived.StillTail
import Derived.Below
section
/- Ratios: what the functions on ratios compute, in plain terms. No condition. -/
namespace Go.Rel
open Go.RowKit

structure Rat2 where
  n : Int
  d : Int
  deriving DecidableEq

@[reducible] def Rat2.v (a : Rat2) : Value := .agg #[.int .i64 a.n, .int .i64 a.d]

/-- A valid ratio. -/
def RatOk (a : Rat2) : Prop := 1 ≤ a.d ∧ a.d ≤ 1000000000 ∧ -1000000000 ≤ a.n ∧ a.n ≤ 1000000000 ∧ Int.gcd a.n a.d = 1
instance (a : Rat2) : Decidable (RatOk a) := by unfold RatOk; infer_instance
def ratE (a : Rat2) : Int := if RatOk a then 0 else 8
theorem ratE_ok {a : Rat2} (h : RatOk a) : ratE a = 0 := if_pos h
theorem ratE_bad {a : Rat2} (h : ¬ RatOk a) : ratE a = 8 := if_neg h

/-- n / d in lowest terms, the denominator above nought. -/
def lowest (n d : Int) : Rat2 := if d < 0 then ⟨-n / (Int.gcd n d : Int), -d / (Int.gcd n d : Int)⟩ else ⟨n / (Int.gcd n d : Int), d / (Int.gcd n d : Int)⟩
def makeR (n d : Int) : Rat2 := if d = 0 then ⟨0, 0⟩ else if RatOk (lowest n d) then lowest n d else ⟨0, 0⟩
def makeE (n d : Int) : Int := if d = 0 then 18 else if RatOk (lowest n d) then 0 else 16

theorem gcd_pos_of {n d : Int} (h : d ≠ 0) : 0 < Int.gcd n d := Nat.pos_of_ne_zero (fun e => h (Int.gcd_eq_zero_iff.1 e).2)

/-- Two numbers, and how they stand to their greatest common divisor. -/
theorem parts_of {n d : Int} (h : d ≠ 0) : ∃ (g : Nat) (a b : Int), Int.gcd n d = g ∧ 0 < g ∧ n = g * a ∧ d = g * b ∧ Int.gcd a b = 1 := by
  have hg := gcd_pos_of (n := n) h
  obtain ⟨a, ha⟩ := Int.gcd_dvd_left (a := n) (b := d)
  obtain ⟨b, hb⟩ := Int.gcd_dvd_right (a := n) (b := d)
  refine ⟨Int.gcd n d, a, b, rfl, hg, ha, hb, ?_⟩
  have e : Int.gcd n d = Int.gcd n d * Int.gcd a b := by
    have := Int.gcd_mul_left (Int.gcd n d : Int) a b
    rw [← ha, ← hb] at this
    simpa using this
  exact Nat.eq_of_mul_eq_mul_left hg (by omega)

theorem lowest_of {n d a b : Int} {g : Nat} (hg : 0 < g) (e : Int.gcd n d = g) (hn : n = g * a) (hd : d = g * b) : lowest n d = if b < 0 then ⟨-a, -b⟩ else ⟨a, b⟩ := by
  have hg' : (g : Int) ≠ 0 := by omega
  have hs : d < 0 ↔ b < 0 := by
    rw [hd]
    constructor
    · intro h
      exact Int.not_le.1 fun hb => absurd (Int.mul_nonneg (show (0 : Int) ≤ g by omega) hb) (by omega)
    · intro h
      exact Int.mul_neg_of_pos_of_neg (by omega) h
  unfold lowest
  rw [e, hn, hd, ← Int.mul_neg, ← Int.mul_neg, Int.mul_ediv_cancel_left _ hg', Int.mul_ediv_cancel_left _ hg', Int.mul_ediv_cancel_left _ hg', Int.mul_ediv_cancel_left _ hg', ← hd]
  by_cases hb : b < 0
  · rw [if_pos hb, if_pos (hs.2 hb)]
  · rw [if_neg hb, if_neg (fun h => hb (hs.1 h))]

theorem ok_pos {a b : Int} (h : Int.gcd a b = 1) (hb : 0 < b) : RatOk ⟨a, b⟩ ↔ a.natAbs ≤ 1000000000 ∧ b.natAbs ≤ 1000000000 := by
  simp only [RatOk, h, and_true]; omega
theorem ok_neg {a b : Int} (h : Int.gcd a b = 1) (hb : b < 0) : RatOk ⟨-a, -b⟩ ↔ a.natAbs ≤ 1000000000 ∧ b.natAbs ≤ 1000000000 := by
  simp only [RatOk, Int.gcd_neg, Int.neg_gcd, h, and_true]; omega

theorem make_zero (n : Int) : makeR n 0 = ⟨0, 0⟩ ∧ makeE n 0 = 18 := ⟨rfl, rfl⟩
theorem make_ok {n d : Int} {r : Rat2} (h : d ≠ 0) (hl : lowest n d = r) (ho : RatOk r) : makeR n d = r ∧ makeE n d = 0 := by
  unfold makeR makeE; rw [if_neg h, if_neg h, hl, if_pos ho, if_pos ho]; exact ⟨rfl, rfl⟩
theorem make_bad {n d : Int} {r : Rat2} (h : d ≠ 0) (hl : lowest n d = r) (ho : ¬ RatOk r) : makeR n d = ⟨0, 0⟩ ∧ makeE n d = 16 := by
  unfold makeR makeE; rw [if_neg h, if_neg h, hl, if_neg ho, if_neg ho]; exact ⟨rfl, rfl⟩

theorem mul_natAbs_le {g : Nat} (hg : 0 < g) (a : Int) : a.natAbs ≤ ((g : Int) * a).natAbs := by
  rw [Int.natAbs_mul]
  exact Nat.le_mul_of_pos_left _ (by simpa using hg)

/-- All that is wanted of two numbers and their greatest common divisor. -/
theorem parts_all {n d : Int} (h : d ≠ 0) : ∃ (g : Nat) (a b : Int), Int.gcd n d = g ∧ 0 < g ∧ Int.gcd a b = 1 ∧ n.tdiv g = a ∧ d.tdiv g = b ∧ (-n).tdiv g = -a ∧ (-d).tdiv g = -b ∧ a.natAbs ≤ n.natAbs ∧ b.natAbs ≤ d.natAbs ∧
    n.natAbs / g = a.natAbs ∧ d.natAbs / g = b.natAbs ∧ (n < 0 ↔ a < 0) ∧ (d < 0 ↔ b < 0) ∧ b ≠ 0 ∧ g ≤ d.natAbs ∧ lowest n d = if b < 0 then ⟨-a, -b⟩ else ⟨a, b⟩ := by
  obtain ⟨g, a, b, e, hg, hn, hd, hc⟩ := parts_of (n := n) h
  have hl := lowest_of hg e hn hd
  have hg' : (g : Int) ≠ 0 := by omega
  have sgn : ∀ x : Int, (g : Int) * x < 0 ↔ x < 0 := fun x => by
    constructor
    · intro h
      exact Int.not_le.1 fun hb => absurd (Int.mul_nonneg (show (0 : Int) ≤ g by omega) hb) (by omega)
    · intro h
      exact Int.mul_neg_of_pos_of_neg (by omega) h
  have hb0 : b ≠ 0 := fun h0 => h (by rw [hd, h0, Int.mul_zero])
  refine ⟨g, a, b, e, hg, hc, ?_, ?_, ?_, ?_, ?_, ?_, ?_, ?_, ?_, ?_, hb0, ?_, hl⟩
  · rw [hn, Int.mul_tdiv_cancel_left _ hg']
  · rw [hd, Int.mul_tdiv_cancel_left _ hg']
  · rw [hn, Int.neg_tdiv, Int.mul_tdiv_cancel_left _ hg']
  · rw [hd, Int.neg_tdiv, Int.mul_tdiv_cancel_left _ hg']
  · rw [hn]; exact mul_natAbs_le hg a
  · rw [hd]; exact mul_natAbs_le hg b
  · rw [hn, Int.natAbs_mul]; simp [Nat.mul_div_cancel_left _ hg]
  · rw [hd, Int.natAbs_mul]; simp [Nat.mul_div_cancel_left _ hg]
  · rw [hn]; exact sgn a
  · rw [hd]; exact sgn b
  · rw [← e]; exact Nat.le_of_dvd (by omega) (Nat.gcd_dvd_right n.natAbs d.natAbs)

section
variable {w : World} {g : Nat} {t : TypeId} {x y : Value}
theorem Blk.set2 (h : Blk w g t #[x, y]) (a b : Value) : Blk ((w.setCell ⟨g, 0, none⟩ a).setCell ⟨g, 1, none⟩ b) g t #[a, b] := by
  simpa using (h.set_ 0 a).set_ 1 b
end
theorem below_set2 {B : Nat} {w w' : World} {g : Nat} (h : Below B w w') (hg : B ≤ g) (a b : Value) : Below B w ((w'.setCell ⟨g, 0, none⟩ a).setCell ⟨g, 1, none⟩ b) :=
  (h.setCell (p := ⟨g, 0, none⟩) hg a).setCell (p := ⟨g, 1, none⟩) hg b
end Go.Rel
end
section
/- Values of the rule language in plain terms: trees; how a value reads in memory. -/
namespace Go.Rel
open Go.RowKit

/-! ### Trees -/
inductive Tree where
  | node (k : Int) (q : Rat2) (t : Bool) (s : ByteArray) (kids : List Tree)

theorem Tree.ind {P : Tree → Prop} (h : ∀ k q t s kids, (∀ x ∈ kids, P x) → P (.node k q t s kids)) : ∀ T, P T
  | .node k q t s kids => h k q t s kids (fun x _ => Tree.ind h x)

def Tree.k : Tree → Int | .node k _ _ _ _ => k
def Tree.q : Tree → Rat2 | .node _ q _ _ _ => q
def Tree.t : Tree → Bool | .node _ _ t _ _ => t
def Tree.s : Tree → ByteArray | .node _ _ _ s _ => s
def Tree.kids : Tree → List Tree | .node _ _ _ _ l => l
theorem Tree.eta (T : Tree) : T = .node T.k T.q T.t T.s T.kids := by cases T; rfl
/-- No value at all. -/
def Tree.none_ : Tree := .node 0 ⟨0, 0⟩ false ⟨#[]⟩ []
def tNum (q : Rat2) : Tree := .node 1 q false ⟨#[]⟩ []
def tBool (b : Bool) : Tree := .node 2 ⟨0, 0⟩ b ⟨#[]⟩ []
def tStr (s : ByteArray) : Tree := .node 3 ⟨0, 0⟩ false s []
def tList (l : List Tree) : Tree := .node 4 ⟨0, 0⟩ false ⟨#[]⟩ l

mutual
/-- How many parts a tree has. -/
def partsT : Tree → Nat
  | .node k _ _ _ kids => 1 + if k = 4 then partsL kids else 0
def partsL : List Tree → Nat
  | [] => 0
  | t :: r => partsT t + partsL r
end
mutual
def deepT : Tree → Nat
  | .node k _ _ _ kids => if k = 4 then deepL kids else 1
def deepL : List Tree → Nat
  | [] => 1
  | t :: r => max (1 + deepT t) (deepL r)
end
/-- A byte that a string may hold. -/
def okByte (c : UInt8) : Bool := decide (32 ≤ c.toNat ∧ c.toNat ≤ 126)
def okStr (s : ByteArray) : Bool := decide (s.size ≤ 60) && s.data.toList.all okByte
mutual
def fineT : Tree → Bool
  | .node k q t s kids =>
    if k = 1 then decide (RatOk q) && (!t && (decide (s.size = 0) && decide (kids.length = 0)))
    else if k = 2 then decide (q = ⟨0, 0⟩) && (decide (s.size = 0) && decide (kids.length = 0))
    else if k = 3 then okStr s && (decide (q = ⟨0, 0⟩) && (!t && decide (kids.length = 0)))
    else if k = 4 then fineL kids && (decide (q = ⟨0, 0⟩) && (!t && decide (s.size = 0)))
    else false
def fineL : List Tree → Bool
  | [] => true
  | t :: r => fineT t && fineL r
end
mutual
/-- A tree of at most so great a depth, without long strings and lists. -/
def fitT : Tree → Nat → Bool
  | _, 0 => false
  | .node _ _ _ s kids, d + 1 => decide (s.size ≤ 200) && (decide (kids.length ≤ 150) && fitL kids d)
def fitL : List Tree → Nat → Bool
  | [], _ => true
  | t :: r, d => fitT t d && fitL r d
end

/-- What Go's 64 bits hold of a number. -/
def w64 (n : Nat) : Int := IntKind.i64.wrap n
def greatT (T : Tree) : Bool := !fitT T 10 || decide (150 < w64 (partsT T))
def chkT (T : Tree) : Int := if 100 < w64 (partsT T) ∨ 6 < deepT T then 4 else if fineT T = true then 0 else 8

theorem partsL_append : ∀ a b : List Tree, partsL (a ++ b) = partsL a + partsL b
  | [], b => by simp [partsL]
  | t :: a, b => by simp [partsL, partsL_append a b]; omega
theorem deepL_append : ∀ a b : List Tree, deepL (a ++ b) = max (deepL a) (deepL b)
  | [], b => by
    have : ∀ l : List Tree, 1 ≤ deepL l := fun l => by
      induction l with
      | nil => simp [deepL]
      | cons t r ih => simp only [deepL]; omega
    have := this b
    simp only [deepL, List.nil_append]; omega
  | t :: a, b => by simp only [List.cons_append, deepL, deepL_append a b]; omega
theorem fineL_append : ∀ a b : List Tree, fineL (a ++ b) = (fineL a && fineL b)
  | [], b => by simp [fineL]
  | t :: a, b => by simp [fineL, fineL_append a b, Bool.and_assoc]
theorem fitL_append (d : Nat) : ∀ a b : List Tree, fitL (a ++ b) d = (fitL a d && fitL b d)
  | [], b => by simp [fitL]
  | t :: a, b => by simp [fitL, fitL_append d a b, Bool.and_assoc]
theorem take_next {α : Type} {l : List α} {i : Nat} (h : i < l.length) : l.take (i + 1) = l.take i ++ [l[i]] := List.take_succ_eq_append_getElem h
theorem partsL_take {l : List Tree} {i : Nat} (h : i < l.length) : partsL (l.take (i + 1)) = partsL (l.take i) + partsT l[i] := by
  rw [take_next h, partsL_append]; simp [partsL]
theorem deepL_pos : ∀ l : List Tree, 1 ≤ deepL l
  | [] => Nat.le_refl _
  | _ :: r => by have := deepL_pos r; simp only [deepL]; omega
theorem deepL_take {l : List Tree} {i : Nat} (h : i < l.length) : deepL (l.take (i + 1)) = max (deepL (l.take i)) (1 + deepT l[i]) := by
  rw [take_next h, deepL_append]
  have := deepL_pos (l.take i)
  simp only [deepL]
  omega
theorem fineL_take {l : List Tree} {i : Nat} (h : i < l.length) : fineL (l.take (i + 1)) = (fineL (l.take i) && fineT l[i]) := by
  rw [take_next h, fineL_append]; simp [fineL]
theorem fitL_take {l : List Tree} {i d : Nat} (h : i < l.length) : fitL (l.take (i + 1)) d = (fitL (l.take i) d && fitT l[i] d) := by
  rw [take_next h, fitL_append]; simp [fitL]
theorem fitL_mem {l : List Tree} {d : Nat} (h : fitL l d = true) : ∀ x ∈ l, fitT x d = true := by
  induction l with
  | nil => simp
  | cons t r ih =>
    simp only [fitL, Bool.and_eq_true] at h
    intro x hx
    rcases List.mem_cons.1 hx with rfl | hx
    · exact h.1
    · exact ih h.2 x hx
theorem fineL_mem {l : List Tree} (h : fineL l = true) : ∀ x ∈ l, fineT x = true := by
  induction l with
  | nil => simp
  | cons t r ih =>
    simp only [fineL, Bool.and_eq_true] at h
    intro x hx
    rcases List.mem_cons.1 hx with rfl | hx
    · exact h.1
    · exact ih h.2 x hx
theorem fineL_false {l : List Tree} {i : Nat} (h : i < l.length) (hf : fineT l[i] = false) : fineL l = false := by
  cases hl : fineL l with
  | false => rfl
  | true => rw [fineL_mem hl _ (List.getElem_mem h)] at hf; cases hf
theorem fitT_zero (T : Tree) : fitT T 0 = false := by cases T; rfl
theorem fitT_succ (k : Int) (q : Rat2) (t : Bool) (s : ByteArray) (kids : List Tree) (d : Nat) : fitT (.node k q t s kids) (d + 1) = (decide (s.size ≤ 200) && (decide (kids.length ≤ 150) && fitL kids d)) := rfl
theorem fitT_parts {k : Int} {q : Rat2} {t : Bool} {s : ByteArray} {kids : List Tree} {d : Nat} (h : fitT (.node k q t s kids) d = true) : ∃ e, d = e + 1 ∧ s.size ≤ 200 ∧ kids.length ≤ 150 ∧ ∀ x ∈ kids, fitT x e = true := by
  cases d with
  | zero => rw [fitT_zero] at h; cases h
  | succ e =>
    rw [fitT_succ] at h
    simp only [Bool.and_eq_true, decide_eq_true_eq] at h
    exact ⟨e, rfl, h.1, h.2.1, fitL_mem h.2.2⟩
theorem fit_deep : ∀ (d : Nat) (T : Tree), fitT T d = true → deepT T ≤ d
  | 0, T, h => by rw [fitT_zero] at h; cases h
  | d + 1, .node k q t s kids, h => by
    obtain ⟨e, he, -, -, hk⟩ := fitT_parts h
    obtain rfl : d = e := by omega
    have key : ∀ l : List Tree, (∀ x ∈ l, fitT x d = true) → deepL l ≤ d + 1 := by
      intro l
      induction l with
      | nil => intro _; simp [deepL]
      | cons x r ih =>
        intro hx
        have h1 := fit_deep d x (hx x (by simp))
        have h2 := ih (fun y hy => hx y (by simp [hy]))
        simp only [deepL]
        omega
    unfold deepT
    split
    · exact key kids hk
    · omega

mutual
/-- A tree of at most so great a depth, without very long strings and lists. -/
def wideT : Tree → Nat → Bool
  | _, 0 => false
  | .node _ _ _ s kids, d + 1 => decide (s.size ≤ 5000) && (decide (kids.length ≤ 5000) && wideL kids d)
def wideL : List Tree → Nat → Bool
  | [], _ => true
  | t :: r, d => wideT t d && wideL r d
end
theorem wideL_mem {l : List Tree} {d : Nat} (h : wideL l d = true) : ∀ x ∈ l, wideT x d = true := by
  induction l with
  | nil => simp
  | cons t r ih =>
    simp only [wideL, Bool.and_eq_true] at h
    intro x hx
    rcases List.mem_cons.1 hx with rfl | hx
    · exact h.1
    · exact ih h.2 x hx
theorem wideL_of {l : List Tree} {d : Nat} (h : ∀ x ∈ l, wideT x d = true) : wideL l d = true := by
  induction l with
  | nil => rfl
  | cons t r ih =>
    simp only [wideL, Bool.and_eq_true]
    exact ⟨h t (by simp), ih fun x hx => h x (by simp [hx])⟩
theorem wideT_zero (T : Tree) : wideT T 0 = false := by cases T; rfl
theorem wideT_succ (k : Int) (q : Rat2) (t : Bool) (s : ByteArray) (kids : List Tree) (d : Nat) : wideT (.node k q t s kids) (d + 1) = (decide (s.size ≤ 5000) && (decide (kids.length ≤ 5000) && wideL kids d)) := rfl
theorem wideT_parts {k : Int} {q : Rat2} {t : Bool} {s : ByteArray} {kids : List Tree} {d : Nat} (h : wideT (.node k q t s kids) d = true) : ∃ e, d = e + 1 ∧ s.size ≤ 5000 ∧ kids.length ≤ 5000 ∧ ∀ x ∈ kids, wideT x e = true := by
  cases d with
  | zero => rw [wideT_zero] at h; cases h
  | succ e =>
    rw [wideT_succ] at h
    simp only [Bool.and_eq_true, decide_eq_true_eq] at h
    exact ⟨e, rfl, h.1, h.2.1, wideL_mem h.2.2⟩
theorem wide_node {k : Int} {q : Rat2} {t : Bool} {s : ByteArray} {kids : List Tree} {d : Nat} (h1 : s.size ≤ 5000) (h2 : kids.length ≤ 5000) (h : ∀ x ∈ kids, wideT x d = true) : wideT (.node k q t s kids) (d + 1) = true := by
  rw [wideT_succ, decide_eq_true h1, decide_eq_true h2, wideL_of h]; rfl
theorem fit_wide : ∀ {d : Nat} {T : Tree}, fitT T d = true → wideT T d = true
  | 0, T, h => by rw [fitT_zero] at h; cases h
  | d + 1, .node k q t s kids, h => by
    obtain ⟨e, he, h1, h2, hk⟩ := fitT_parts h
    obtain rfl : d = e := by omega
    exact wide_node (by omega) (by omega) fun x hx => fit_wide (hk x hx)
theorem wide_deep : ∀ (d : Nat) (T : Tree), wideT T d = true → deepT T ≤ d
  | 0, T, h => by rw [wideT_zero] at h; cases h
  | d + 1, .node k q t s kids, h => by
    obtain ⟨e, he, -, -, hk⟩ := wideT_parts h
    obtain rfl : d = e := by omega
    have key : ∀ l : List Tree, (∀ x ∈ l, wideT x d = true) → deepL l ≤ d + 1 := by
      intro l
      induction l with
      | nil => intro _; simp [deepL]
      | cons x r ih =>
        intro hx
        have h1 := wide_deep d x (hx x (by simp))
        have h2 := ih (fun y hy => hx y (by simp [hy]))
        simp only [deepL]
        omega
    unfold deepT
    split
    · exact key kids hk
    · omega

/-! ### How a value reads in memory -/
structure Val where
  k : Int
  q : Rat2
  t : Bool
  s : ByteArray
  A : Option Addr
  len : Nat
  cap : Nat

@[reducible] def Val.v (x : Val) : Value := .agg #[.int .u8 x.k, .int .i64 x.q.n, .int .i64 x.q.d, .bool x.t, .string x.s, .slice x.A x.len x.cap]
def Val.cells (x : Val) : List Value := [.int .u8 x.k, .int .i64 x.q.n, .int .i64 x.q.d, .bool x.t, .string x.s, .slice x.A x.len x.cap]
/-- The cells of a variable that holds it. -/
@[reducible] def Val.box (x : Val) : Array Value := #[.int .u8 x.k, .int .i64 x.q.n, .int .i64 x.q.d, .bool x.t, .string x.s, .slice x.A x.len x.cap]
theorem Val.cells_len (x : Val) : x.cells.length = 6 := rfl
def I64 (n : Int) : Prop := -9223372036854775808 ≤ n ∧ n ≤ 9223372036854775807
structure Val.Ok (x : Val) : Prop where
  k0 : 0 ≤ x.k
  k1 : x.k ≤ 255
  n0 : -9223372036854775808 ≤ x.q.n
  n1 : x.q.n ≤ 9223372036854775807
  d0 : -9223372036854775808 ≤ x.q.d
  d1 : x.q.d ≤ 9223372036854775807
  s1 : x.s.size ≤ 9223372036854775807
  l1 : x.len ≤ x.cap
  c1 : x.cap ≤ 9223372036854775807
  nil_ : x.A = none → x.cap = 0

/-- A variable that holds it, cell by cell. -/
theorem Blk.val {w : World} {g : Nat} {e : TypeId} {x : Val} (h : Blk w g e x.box) : w.cell? ⟨g, 0, none⟩ = some (.int .u8 x.k) ∧ w.cell? ⟨g, 1, none⟩ = some (.int .i64 x.q.n) ∧ w.cell? ⟨g, 2, none⟩ = some (.int .i64 x.q.d) ∧
    w.cell? ⟨g, 3, none⟩ = some (.bool x.t) ∧ w.cell? ⟨g, 4, none⟩ = some (.string x.s) ∧ w.cell? ⟨g, 5, none⟩ = some (.slice x.A x.len x.cap) :=
  ⟨h.cell (i := 0) rfl, h.cell (i := 1) rfl, h.cell (i := 2) rfl, h.cell (i := 3) rfl, h.cell (i := 4) rfl, h.cell (i := 5) rfl⟩
/-- A new variable that holds it. -/
theorem box_val (w : World) (e : TypeId) (x : Val) : Below w.heap.size w (w.alloc (.cells x.box e)) ∧ Blk (w.alloc (.cells x.box e)) w.heap.size e x.box := ⟨below_alloc w _, Blk.new w e _⟩

/-- A slice at the address A reads as l, in a block (and from an offset) of which P holds. -/
def RecsP {α : Type} (cells : α → List Value) (z : Nat) (w : World) (P : Nat → Nat → Prop) (A : Option Addr) (l : List α) : Prop :=
  0 < l.length → ∃ b off : Nat, A = some ⟨b, off, none⟩ ∧ P b off ∧ ∀ (i : Nat) (v : α), l[i]? = some v → ∀ (j : Nat) (u : Value), (cells v)[j]? = some u → w.cell? ⟨b, off + i * z + j, none⟩ = some u

/-- The value x reads as the tree T, in blocks of which P holds. -/
inductive Reads (w : World) (P : Nat → Nat → Prop) : Tree → Val → Prop
  | mk (x : Val) (kids : List Tree) (ys : List Val) (ok : x.Ok) (hx : ys.length = x.len) (hl : kids.length = x.len) (hr : RecsP Val.cells 6 w P x.A ys)
      (hk : ∀ (i : Nat) (t : Tree) (y : Val), kids[i]? = some t → ys[i]? = some y → Reads w P t y) : Reads w P (.node x.k x.q x.t x.s kids) x

theorem Reads.inv {w : World} {P : Nat → Nat → Prop} {T : Tree} {x : Val} (h : Reads w P T x) :
    ∃ (kids : List Tree) (ys : List Val), T = .node x.k x.q x.t x.s kids ∧ x.Ok ∧ ys.length = x.len ∧ kids.length = x.len ∧ RecsP Val.cells 6 w P x.A ys ∧ ∀ (i : Nat) (t : Tree) (y : Val), kids[i]? = some t → ys[i]? = some y → Reads w P t y := by
  match T, x, h with
  | _, _, .mk x kids ys ok hx hl hr hk => exact ⟨kids, ys, rfl, ok, hx, hl, hr, hk⟩

theorem Reads.mono {w w' : World} {P P' : Nat → Nat → Prop} (hP : ∀ b o, P b o → P' b o) (hw : ∀ b o, P b o → w'.heap[b]? = w.heap[b]?) {T : Tree} {x : Val} (h : Reads w P T x) : Reads w' P' T x := by
  induction h with
  | mk x kids ys ok hx hl hr hk ih =>
    refine .mk x kids ys ok hx hl (fun hpos => ?_) ih
    obtain ⟨b, off, e, hp, hc⟩ := hr hpos
    refine ⟨b, off, e, hP _ _ hp, fun i v hi j u hj => ?_⟩
    have := hc i v hi j u hj
    simp only [World.cell?] at this ⊢
    rw [hw b off hp]
    exact this

/-- A value that reads as T, all of it below block B. -/
def RdB (w : World) (B : Nat) (T : Tree) (x : Val) : Prop := Reads w (fun b _ => b < B) T x
theorem RdB.below {w w' : World} {B B' : Nat} {T : Tree} {x : Val} (h : RdB w B T x) (hb : Below B w w') (hB : B ≤ B') : RdB w' B' T x :=
  Reads.mono (fun _ _ hp => Nat.lt_of_lt_of_le hp hB) (fun b _ hp => hb.block b hp) h
theorem RdB.more {w : World} {B B' : Nat} {T : Tree} {x : Val} (h : RdB w B T x) (hB : B ≤ B') : RdB w B' T x := h.below (Below.refl _ _) hB

/-- A value opened: its list. -/
theorem RdB.open_ {w : World} {B : Nat} {T : Tree} {x : Val} (h : RdB w B T x) :
    ∃ (kids : List Tree) (ys : List Val), T = .node x.k x.q x.t x.s kids ∧ x.Ok ∧ ys.length = x.len ∧ kids.length = x.len ∧ Recs Val.cells 6 w B x.A ys ∧ ∀ (i : Nat) (t : Tree) (y : Val), kids[i]? = some t → ys[i]? = some y → RdB w B t y := by
  obtain ⟨kids, ys, e, ok, hx, hl, hr, hk⟩ := Reads.inv h
  exact ⟨kids, ys, e, ok, hx, hl, hr, hk⟩

/-- One element. -/
theorem val_at {w : World} {B : Nat} {A : Option Addr} {ys : List Val} {kids : List Tree} {n : Nat} (hy : ys.length = n) (hl : kids.length = n) (hr : Recs Val.cells 6 w B A ys) (hk : ∀ (i : Nat) (t : Tree) (y : Val), kids[i]? = some t → ys[i]? = some y → RdB w B t y) {i : Nat} (hi : i < n) :
    ∃ (b off : Nat) (y : Val) (t : Tree), A = some ⟨b, off, none⟩ ∧ b < B ∧ kids[i]? = some t ∧ ys[i]? = some y ∧ RdB w B t y ∧
      w.cell? ⟨b, off + i * 6, none⟩ = some (.int .u8 y.k) ∧ w.cell? ⟨b, off + i * 6 + 1, none⟩ = some (.int .i64 y.q.n) ∧ w.cell? ⟨b, off + i * 6 + 2, none⟩ = some (.int .i64 y.q.d) ∧
      w.cell? ⟨b, off + i * 6 + 3, none⟩ = some (.bool y.t) ∧ w.cell? ⟨b, off + i * 6 + 4, none⟩ = some (.string y.s) ∧ w.cell? ⟨b, off + i * 6 + 5, none⟩ = some (.slice y.A y.len y.cap) := by
  obtain ⟨b, off, e, hb, hc⟩ := hr (by omega)
  have hi1 : i < ys.length := by omega
  have hi2 : i < kids.length := by omega
  have g1 : ys[i]? = some ys[i] := by simp [hi1]
  have g2 : kids[i]? = some kids[i] := by simp [hi2]
  have c := hc i _ g1
  refine ⟨b, off, ys[i], kids[i], e, hb, g2, g1, hk i _ _ g2 g1, ?_, ?_, ?_, ?_, ?_, ?_⟩
  · have := c 0 _ rfl; simpa using this
  · exact c 1 _ rfl
  · exact c 2 _ rfl
  · exact c 3 _ rfl
  · exact c 4 _ rfl
  · exact c 5 _ rfl
theorem RdB.in_ {w wr : World} {B : Nat} {T : Tree} {x : Val} (h : RdB w B T x) (hb : Below B w wr) (hB : B ≤ wr.heap.size) : RdB wr wr.heap.size T x := h.below hb hB
theorem kid_at {kids : List Tree} {i : Nat} {t : Tree} (h : kids[i]? = some t) : ∃ hi : i < kids.length, t = kids[i] := by
  obtain ⟨hi, e⟩ := List.getElem?_eq_some_iff.1 h
  exact ⟨hi, e.symm⟩
end Go.Rel
end
section
namespace Go.Rel
open Go.RowKit

/-! A REGION THAT DRAWS ITS ORDER, whose first n operations (its head) come in whatever order the draw gives, and whose last operations (its tail) come behind them, one after the other.
Each operation of the head is looked at ONCE, in the order of the text, in WHATEVER world that keeps the blocks of the world at the region's start. -/

/-- An operation gives a value and a world with R. -/
def Gives (P : Program) (o : Oper) (a : Act) (W : World) (R : Value → World → Prop) : Prop :=
  match (execOp a.eval o).run P W with
  | .ok (.value v) W' => R v W'
  | .ok .skip W' => R undef W'
  | .ok (.enter f args) W' => Calls P f args W' (fun e W'' => ∃ v, e = .returned v ∧ R v W'')
  | _ => False

/-- What each operation of the head keeps: a relation of worlds. -/
structure Keeps (R : World → World → Prop) : Prop where
  refl : ∀ w, R w w
  trans : ∀ {a b c}, R a b → R b c → R a c
  drew : ∀ w, R w w.drew

/-- All blocks that are there stay as they are. -/
def Kp (W W' : World) : Prop := Below W.heap.size W W'
theorem kp_keeps : Keeps Kp := ⟨fun _ => Below.refl _ _, fun h k => h.trans (k.mono h.size), fun _ => (Below.refl _ _).drew⟩

section
variable {P : Program} {ops : Array Oper} {w0 : World} {R : World → World → Prop}

theorem Gives.wp {o : Oper} {a : Act} {W : World} {K : Act → World → Prop} {Q : Exit → Act → World → Prop} (h : Gives P o a W (fun v W' => K (a.put o.dst v) W')) : o.wp P a W K Q := by
  unfold Gives at h
  unfold Oper.wp
  generalize (execOp a.eval o).run P W = r at *
  cases r with
  | ok x W' =>
    cases x <;> simp only [Oper.upon] at h ⊢
    case value v => exact h
    case skip => exact h
    case enter f args => exact h.mono fun e W'' ⟨v, he, hk⟩ => by subst he; exact hk
    all_goals exact h.elim
  | halt x W' => exact h.elim

theorem Gives.mono {o : Oper} {a : Act} {W : World} {S S' : Value → World → Prop} (h : Gives P o a W S) (hr : ∀ v W', S v W' → S' v W') : Gives P o a W S' := by
  unfold Gives at *
  generalize (execOp a.eval o).run P W = r at *
  cases r with
  | ok x W' =>
    cases x <;> simp only [] at h ⊢
    case value v => exact hr _ _ h
    case skip => exact hr _ _ h
    case enter f args => exact h.mono fun e W'' ⟨v, he, hk⟩ => ⟨v, he, hr _ _ hk⟩
  | halt x W' => exact h.elim

theorem Gives.congr {o : Oper} {a a' : Act} {W : World} {S : Value → World → Prop} (hs : ∀ cs b, o.op ≠ .select cs b) (he : ∀ x ∈ o.op.operands, a.eval x = a'.eval x) (h : Gives P o a W S) : Gives P o a' W S := by
  unfold Gives at *
  rw [← execOp_congr o hs he]
  exact h

/-- What is known of an operation's value: it is c, or g holds of it and of the world (from then on). 'uses': whose facts its own proof needs. -/
structure Know where
  uses : List Nat
  what : Value ⊕ ((Nat → Value) → Value → World → Prop)

/-- The values of those operations that are named. -/
def pick (us : List Nat) (e : Nat → Value) (i : Nat) : Value := if us.contains i then e i else undef
theorem pick_congr {us : List Nat} {e e' : Nat → Value} (h : ∀ i ∈ us, e i = e' i) : pick us e = pick us e' := by
  funext i
  unfold pick
  by_cases hi : us.contains i
  · rw [if_pos hi, if_pos hi, h i (by simpa using hi)]
  · rw [if_neg hi, if_neg hi]
/-- One value more. -/
def upd (e : Nat → Value) (k : Nat) (v : Value) (i : Nat) : Value := if i = k then v else e i

def Know.holds (u : Know) (e : Nat → Value) (v : Value) (W : World) : Prop :=
  match u.what with
  | .inl c => v = c
  | .inr g => g (pick u.uses e) v W
theorem Know.holds_congr {u : Know} {e e' : Nat → Value} {v : Value} {W : World} (he : ∀ i ∈ u.uses, e i = e' i) (h : u.holds e v W) : u.holds e' v W := by
  unfold Know.holds at *
  rw [← pick_congr he]
  exact h

def Know.Mono (R : World → World → Prop) (u : Know) : Prop := match u.what with
  | .inl _ => True
  | .inr g => ∀ e v W W', g e v W → R W W' → g e v W'

/-- The facts laid so far, of those operations that are named. -/
def known : List (Nat × (World → Prop)) → List Nat → World → Prop
  | [], _, _ => True
  | p :: r, us, W => (p.1 ∈ us → p.2 W) ∧ known r us W

/-- All facts. -/
def facts : List (Nat × (World → Prop)) → World → Prop
  | [], _ => True
  | p :: r, W => p.2 W ∧ facts r W

/-- What a value is known by: an operation without a slot of its own shows none. -/
def shown (o : Oper) (v : Value) : Value := match o.dst with
  | some _ => v
  | none => undef

theorem shown_undef (o : Oper) : shown o undef = undef := by unfold shown; split <;> rfl

/-- The head's operations, looked at one after the other. -/
def Head (P : Program) (ops : Array Oper) (R : World → World → Prop) (w0 : World) (Fin : Act → List (Nat × (World → Prop)) → Prop) : Nat → (Nat → Value) → List Know → List Oper → Act → List (Nat × (World → Prop)) → Prop
  | _, _, _, [], a, fs => Fin a fs
  | _, _, [], _ :: _, _, _ => False
  | k, e, u :: us, o :: rest, a, fs =>
    (Region.wanted o (yielded ops a.tmps) = true ∧ (∀ W, R w0 W → known fs u.uses W → Gives P o a W (fun v W' => u.holds e (shown o v) W' ∧ R W W')) ∧
      match u.what with
      | .inl c => Head P ops R w0 Fin (k + 1) (upd e k c) us rest (a.put o.dst c) fs
      | .inr g => u.Mono R ∧ ∀ v, Head P ops R w0 Fin (k + 1) (upd e k v) us rest (a.put o.dst v) ((k, g (pick u.uses e) v) :: fs)) ∨
    (Region.wanted o (yielded ops a.tmps) = false ∧ u.what = .inl undef ∧ Head P ops R w0 Fin (k + 1) (upd e k undef) us rest (a.put o.dst undef) fs)

/-- The frame behind the first operations, the i-th having given vs i. -/
def actAt : Nat → (Nat → Value) → List Oper → Act → Act
  | _, _, [], a => a
  | k, vs, o :: rest, a => actAt (k + 1) vs rest (a.put o.dst (vs k))

/-- vs is c wherever c is known. -/
def Fits : Nat → (Nat → Value) → List Know → Prop
  | _, _, [] => True
  | k, vs, u :: us => (∀ c, u.what = .inl c → vs k = c) ∧ Fits (k + 1) vs us

def factsAt : Nat → (Nat → Value) → List Know → List (Nat × (World → Prop)) → List (Nat × (World → Prop))
  | _, _, [], fs => fs
  | k, vs, u :: us, fs => factsAt (k + 1) vs us (match u.what with | .inl _ => fs | .inr g => (k, g (pick u.uses vs) (vs k)) :: fs)

/-- What one operation owes. -/
def Owes (P : Program) (ops : Array Oper) (R : World → World → Prop) (w0 : World) (u : Know) (o : Oper) (vs : Nat → Value) (a : Act) (fs : List (Nat × (World → Prop))) : Prop :=
  u.Mono R ∧
  ((Region.wanted o (yielded ops a.tmps) = true ∧ ∀ W, R w0 W → known fs u.uses W → Gives P o a W (fun v W' => u.holds vs (shown o v) W' ∧ R W W')) ∨
   (Region.wanted o (yielded ops a.tmps) = false ∧ u.what = .inl undef))

theorem Head.owes {Fin : Act → List (Nat × (World → Prop)) → Prop} : ∀ (rest : List Oper) (us : List Know) (k : Nat) (e : Nat → Value) (a : Act) (fs : List (Nat × (World → Prop))) (vs : Nat → Value),
    us.length = rest.length → (∀ j u, us[j]? = some u → ∀ i ∈ u.uses, i < k + j) → (∀ i, i < k → e i = vs i) → Head P ops R w0 Fin k e us rest a fs → Fits k vs us →
    (∀ j u o, us[j]? = some u → rest[j]? = some o → Owes P ops R w0 u o vs (actAt k vs (rest.take j) a) (factsAt k vs (us.take j) fs)) ∧
    Fin (actAt k vs rest a) (factsAt k vs us fs)
  | [], [], k, e, a, fs, vs, _, _, _, h, _ => ⟨fun j u o hu _ => (by simp at hu), h⟩
  | [], _ :: _, _, _, _, _, _, hl, _, _, _, _ => by simp at hl
  | _ :: _, [], _, _, _, _, _, hl, _, _, _, _ => by simp at hl
  | o :: rest, u :: us, k, e, a, fs, vs, hl, hus, he, h, hf => by
    obtain ⟨hf0, hf1⟩ := hf
    have hl' : us.length = rest.length := by simpa using hl
    have hpe : ∀ i ∈ u.uses, e i = vs i := fun i hi => he i (by have := hus 0 u rfl i hi; omega)
    have hpk : pick u.uses e = pick u.uses vs := pick_congr hpe
    have hus' : ∀ j u', us[j]? = some u' → ∀ i ∈ u'.uses, i < k + 1 + j := fun j u' hj i hi => by have := hus (j + 1) u' (by simpa using hj) i hi; omega
    have hupd : ∀ v, v = vs k → ∀ i, i < k + 1 → upd e k v i = vs i := fun v hv i hi => by
      unfold upd
      split
      · rename_i h; rw [hv, h]
      · exact he i (by omega)
    have key : Owes P ops R w0 u o vs a fs ∧ ∃ e', (∀ i, i < k + 1 → e' i = vs i) ∧ Head P ops R w0 Fin (k + 1) e' us rest (a.put o.dst (vs k)) (match u.what with | .inl _ => fs | .inr g => (k, g (pick u.uses vs) (vs k)) :: fs) := by
      rcases h with ⟨hw, hg, hn⟩ | ⟨hw, hu, hn⟩
      · have hg' : ∀ W, R w0 W → known fs u.uses W → Gives P o a W (fun v W' => u.holds vs (shown o v) W' ∧ R W W') := fun W hW hk => (hg W hW hk).mono fun v W' ⟨h1, h2⟩ => ⟨Know.holds_congr hpe h1, h2⟩
        cases hwhat : u.what with
        | inl c =>
          rw [hwhat] at hn
          refine ⟨⟨by simp [Know.Mono, hwhat], .inl ⟨hw, hg'⟩⟩, _, hupd c (hf0 c hwhat).symm, ?_⟩
          rw [hf0 c hwhat]
          exact hn
        | inr g =>
          rw [hwhat] at hn
          refine ⟨⟨hn.1, .inl ⟨hw, hg'⟩⟩, _, hupd (vs k) rfl, ?_⟩
          rw [← hpk]
          exact hn.2 (vs k)
      · refine ⟨⟨by simp [Know.Mono, hu], .inr ⟨hw, hu⟩⟩, _, hupd undef (hf0 _ hu).symm, ?_⟩
        rw [hf0 _ hu, hu]
        exact hn
    obtain ⟨hk0, e', he', hk1⟩ := key
    obtain ⟨r1, r2⟩ := Head.owes rest us (k + 1) e' _ _ vs hl' hus' he' hk1 hf1
    refine ⟨fun j u' o' hu ho => ?_, r2⟩
    cases j with
    | zero =>
      simp at hu ho
      subst hu; subst ho
      exact hk0
    | succ j =>
      simp at hu ho
      exact r1 j u' o' hu ho

/-! ### The check on the region's form -/
def mask (ops : Array Oper) (i : Nat) : Nat := (Region.before ops).getD i 0

/-- Every bit of the mask of operation i is borne out by an edge. -/
def maskOk (ops : Array Oper) (i : Nat) : Bool :=
  match ops[i]? with
  | some o => decide (mask ops i < 2 ^ i) && (List.range i).all fun j => !(mask ops i).testBit j || o.after.any fun e => Region.binds .any e && decide (e.on < i) && (e.on == j || (mask ops e.on).testBit j)
  | none => true

def edgesBack (ops : Array Oper) (i : Nat) : Bool :=
  match ops[i]? with
  | some o => o.after.all fun e => !Region.binds .any e || decide (e.on < i)
  | none => true

/-- A slot that operation i looks at and that d writes: one of the two waits for the other. -/
def slotsOk (ops : Array Oper) (n i : Nat) : Bool :=
  match ops[i]? with
  | some o => (List.range n).all fun d => match ops[d]? with
    | some od => match od.dst with
      | some t => !(o.looksAt ops).contains t || (decide (d < i) && (mask ops i).testBit d) || (decide (i < d) && (mask ops d).testBit i)
      | none => true
    | none => true
  | none => true

/-- Each operation of the head writes a slot of the frame, each another one. -/
def dstsOk (ops : Array Oper) (n N : Nat) : Bool :=
  (List.range n).all fun i => match (ops[i]?).bind (·.dst) with
    | some t => decide (t < N) && (List.range i).all fun d => !(((ops[d]?).bind (·.dst)) == some t)
    | none => true

def full (n m : Nat) : Array Bool := (List.replicate n true ++ List.replicate (m - n) false).toArray

def formOk (ops : Array Oper) (n N : Nat) : Bool :=
  Region.noSelect ops && decide (n ≤ ops.size) && (decide (n = ops.size) || (decide (n < ops.size) && Region.sinkB .any ops n && Region.chainB .any ops n)) &&
  ((List.range n).all fun i => maskOk ops i && edgesBack ops i && slotsOk ops n i) && dstsOk ops n N && Region.seqB .any ops (ops.size - n) n (full n ops.size)

theorem mask_listed {listed : Array Bool} {n : Nat} (hm : ∀ i, i < n → maskOk ops i = true) (hc : HeadInv .any ops n listed) :
    ∀ (i : Nat), i < n → ∀ o, ops[i]? = some o → (∀ e ∈ o.after, Region.binds .any e = true → listed.getD e.on false = true) →
    ∀ j, j < i → (mask ops i).testBit j = true → listed.getD j false = true := by
  intro i
  induction i using Nat.strongRecOn with
  | _ i ih =>
    intro hi o ho hall j hj hbit
    have h := hm i hi
    simp only [maskOk, ho, Bool.and_eq_true, List.all_eq_true, List.mem_range] at h
    have h' := h.2 j hj
    rw [hbit] at h'
    simp only [Bool.not_true, Bool.false_or] at h'
    obtain ⟨e, he, hb⟩ := Array.any_eq_true'.1 h'
    simp only [Bool.and_eq_true, decide_eq_true_eq, Bool.or_eq_true, beq_iff_eq] at hb
    obtain ⟨⟨hb1, hb2⟩, hb3⟩ := hb
    have hl := hall e he hb1
    rcases hb3 with rfl | hb3
    · exact hl
    · have hlt : e.on < ops.size := by have := (Array.getElem?_eq_some_iff.1 ho).1; omega
      have ho' : ops[e.on]? = some ops[e.on] := Array.getElem?_eq_getElem hlt
      rcases Nat.lt_or_ge j e.on with hjlt | hjge
      · exact ih e.on hb2 (by omega) _ ho' (fun e' he' hb' => hc.closed e.on _ ho' hl e' he' hb') j hjlt hb3
      · have h2 := hm e.on (by omega)
        simp only [maskOk, ho', Bool.and_eq_true, decide_eq_true_eq] at h2
        have h3 : mask ops e.on < 2 ^ j := Nat.lt_of_lt_of_le h2.1 (Nat.pow_le_pow_right (by omega) hjge)
        rw [Nat.testBit_lt_two_pow h3] at hb3
        cases hb3

/-! ### How many of the head have not come yet -/
def left : Nat → Array Bool → Nat
  | 0, _ => 0
  | n + 1, listed => left n listed + if listed.getD n false then 0 else 1

theorem left_set {n i : Nat} {listed : Array Bool} (hi : i < n) (hs : i < listed.size) (h : listed.getD i false = false) : left n (listed.setIfInBounds i true) + 1 = left n listed := by
  induction n with
  | zero => omega
  | succ n ih =>
    simp only [left]
    by_cases hin : i = n
    · subst hin
      have h1 : (listed.setIfInBounds i true).getD i false = true := by simp [hs]
      rw [h1, h]
      have : ∀ m, m ≤ i → left m (listed.setIfInBounds i true) = left m listed := by
        intro m hm
        induction m with
        | zero => rfl
        | succ m ihm =>
          simp only [left]
          rw [ihm (by omega), getD_set_ne false (by omega)]
      rw [this i (Nat.le_refl _)]
      simp
    · have := ih (by omega)
      rw [getD_set_ne false hin]
      omega

theorem left_zero {n : Nat} {listed : Array Bool} (h : left n listed = 0) : ∀ i, i < n → listed.getD i false = true := by
  induction n with
  | zero => intro i hi; omega
  | succ n ih =>
    simp only [left] at h
    intro i hi
    by_cases hin : i = n
    · subst hin
      cases hl : listed.getD i false with
      | true => rfl
      | false => rw [hl] at h; simp at h
    · exact ih (by omega) i (by omega)

/-- Where one of the head is left, the first that is left may come. -/
theorem ready_of_left {n : Nat} {listed : Array Bool} (hn : n ≤ ops.size) (hsz : listed.size = ops.size) (he : ∀ i, i < n → edgesBack ops i = true) (h : left n listed ≠ 0) : ∃ i, i < n ∧ i ∈ Region.ready .any ops listed := by
  have : ∃ i, i < n ∧ listed.getD i false = false := by
    by_cases hx : ∃ i, i < n ∧ listed.getD i false = false
    · exact hx
    · exfalso
      apply h
      have hall : ∀ i, i < n → listed.getD i false = true := fun i hi => by
        cases hl : listed.getD i false with
        | true => rfl
        | false => exact absurd ⟨i, hi, hl⟩ hx
      clear h hx he hn
      induction n with
      | zero => rfl
      | succ n ih => simp only [left]; rw [ih (fun i hi => hall i (by omega)), hall n (by omega)]; rfl
  obtain ⟨i, hi, hl⟩ := this
  have key : ∀ i, i < n → listed.getD i false = false → ∃ k, k < n ∧ k ∈ Region.ready .any ops listed := by
    intro i
    induction i using Nat.strongRecOn with
    | _ i ih =>
      intro hi hl
      by_cases hx : ∃ j, j < i ∧ listed.getD j false = false
      · obtain ⟨j, hj, hjl⟩ := hx
        exact ih j hj (by omega) hjl
      · refine ⟨i, hi, mem_ready.2 ⟨getD_in (by omega) hl, ops[i], Array.getElem?_eq_getElem (by omega), fun e hee hbe => ?_⟩⟩
        have h1 := he i hi
        simp only [edgesBack, Array.getElem?_eq_getElem (show i < ops.size by omega)] at h1
        have h2 := Array.all_eq_true'.1 h1 e hee
        simp only [hbe, Bool.not_true, Bool.false_or, decide_eq_true_eq] at h2
        cases hle : listed.getD e.on false with
        | true => rfl
        | false => exact absurd ⟨e.on, h2, hle⟩ hx
  exact key i hi hl

/-! ### The frame behind the head -/
def dstOf (ops : Array Oper) (i : Nat) : Option Tmp := (ops[i]?).bind (·.dst)
def val (ops : Array Oper) (i : Nat) (a : Act) : Value := match dstOf ops i with
  | some t => a.tmps.getD t undef
  | none => undef

theorem put_size (a : Act) (d : Option Tmp) (v : Value) : (a.put d v).tmps.size = a.tmps.size := by cases d <;> simp [Act.put]
theorem put_other (a : Act) {d : Option Tmp} (v : Value) {t : Tmp} (h : d ≠ some t) : (a.put d v).tmps[t]? = a.tmps[t]? := by
  cases d with
  | none => rfl
  | some d => simp only [Act.put]; exact Array.getElem?_setIfInBounds_ne (fun e => h (by rw [e]))
theorem put_same (a : Act) (v : Value) {t : Tmp} (h : t < a.tmps.size) : (a.put (some t) v).tmps[t]? = some v := by simp [Act.put, h]
theorem put_defers' (a : Act) (d : Option Tmp) (v : Value) : (a.put d v).defers = a.defers := by cases d <;> rfl

theorem actAt_size : ∀ (l : List Oper) (k : Nat) (vs : Nat → Value) (a : Act), (actAt k vs l a).tmps.size = a.tmps.size
  | [], _, _, _ => rfl
  | _ :: l, k, vs, _ => (actAt_size l (k + 1) vs _).trans (put_size _ _ _)
theorem actAt_defers : ∀ (l : List Oper) (k : Nat) (vs : Nat → Value) (a : Act), (actAt k vs l a).defers = a.defers
  | [], _, _, _ => rfl
  | _ :: l, k, vs, _ => (actAt_defers l (k + 1) vs _).trans (put_defers' _ _ _)
theorem actAt_other : ∀ (l : List Oper) (k : Nat) (vs : Nat → Value) (a : Act) (t : Tmp), (∀ (j : Nat) (o : Oper), l[j]? = some o → o.dst ≠ some t) → (actAt k vs l a).tmps[t]? = a.tmps[t]?
  | [], _, _, _, _, _ => rfl
  | o :: l, k, vs, a, t, h => (actAt_other l (k + 1) vs _ t (fun j o' ho => h (j + 1) o' (by simpa using ho))).trans (put_other _ _ (h 0 o (by simp)))
theorem actAt_same : ∀ (l : List Oper) (k : Nat) (vs : Nat → Value) (a : Act) (t : Tmp) (j : Nat) (o : Oper), t < a.tmps.size → l[j]? = some o → o.dst = some t →
    (∀ (i : Nat) (o' : Oper), l[i]? = some o' → i ≠ j → o'.dst ≠ some t) → (actAt k vs l a).tmps[t]? = some (vs (k + j))
  | [], _, _, _, _, _, _, _, h, _, _ => by simp at h
  | o' :: l, k, vs, a, t, 0, o, ht, h, hd, hu => by
    have : o' = o := by simpa using h
    subst this
    refine (actAt_other l (k + 1) vs _ t (fun j o2 ho => hu (j + 1) o2 (by simpa using ho) (by omega))).trans ?_
    rw [hd]
    simpa using put_same a (vs k) ht
  | o' :: l, k, vs, a, t, j + 1, o, ht, h, hd, hu => by
    have := actAt_same l (k + 1) vs (a.put o'.dst (vs k)) t j o (by rw [put_size]; exact ht) (by simpa using h) hd (fun i o2 ho hne => hu (i + 1) o2 (by simpa using ho) (by omega))
    rw [show k + (j + 1) = k + 1 + j by omega]
    exact this

/-- The value that each operation gives, as far as it is known at a frame. -/
def valsOf (ops : Array Oper) (us : List Know) (a : Act) (i : Nat) : Value :=
  match us[i]? with
  | some u => match u.what with
    | .inl c => c
    | .inr _ => val ops i a
  | none => undef

structure Inv (ops : Array Oper) (R : World → World → Prop) (w0 : World) (n : Nat) (us : List Know) (a : Act) (listed : Array Bool) (a' : Act) (W : World) : Prop where
  head : HeadInv .any ops n listed
  ext : R w0 W
  defers : a'.defers = a.defers
  size : a'.tmps.size = a.tmps.size
  old : ∀ t, (∀ i, i < n → listed.getD i false = true → dstOf ops i ≠ some t) → a'.tmps[t]? = a.tmps[t]?
  vals : ∀ i u, i < n → us[i]? = some u → listed.getD i false = true → u.holds (valsOf ops us a') (val ops i a') W

theorem Know.holds_mono {u : Know} (hm : u.Mono R) {e : Nat → Value} {v : Value} {W W' : World} (h : u.holds e v W) (hb : R W W') : u.holds e v W' := by
  unfold Know.holds at *
  unfold Know.Mono at hm
  cases hw : u.what with
  | inl c => rw [hw] at h; exact h
  | inr g => rw [hw] at h hm; exact hm _ _ _ _ h hb

theorem fits_vals_aux (ops : Array Oper) (us0 : List Know) (a : Act) : ∀ (us : List Know) (k : Nat), (∀ j, us[j]? = us0[k + j]?) → Fits k (valsOf ops us0 a) us
  | [], _, _ => trivial
  | u :: us, k, h => by
    refine ⟨fun c hc => ?_, fits_vals_aux ops us0 a us (k + 1) (fun j => by have := h (j + 1); simp at this; rw [this]; congr 1; omega)⟩
    have h0 : us0[k]? = some u := by have := h 0; simp at this; exact this.symm
    simp [valsOf, h0, hc]

theorem known_factsAt (vs : Nat → Value) (us0 : List Know) (W : World) (uses : List Nat) : ∀ (us : List Know) (k : Nat) (fs : List (Nat × (World → Prop))), (∀ (j : Nat) (u : Know), us[j]? = some u → k + j ∈ uses → u.holds vs (vs (k + j)) W) →
    known fs uses W → known (factsAt k vs us fs) uses W
  | [], _, _, _, h => h
  | u :: us, k, fs, hu, h => by
    refine known_factsAt vs us0 W uses us (k + 1) _ (fun j u' hj hin => ?_) ?_
    · have := hu (j + 1) u' (by simpa using hj)
      rw [show k + (j + 1) = k + 1 + j by omega] at this
      exact this hin
    · cases hw : u.what with
      | inl c => exact h
      | inr g =>
        refine ⟨fun hin => ?_, h⟩
        have := hu 0 u (by simp) hin
        simp only [Know.holds, hw] at this
        exact this

theorem facts_factsAt (vs : Nat → Value) (W : World) : ∀ (us : List Know) (k : Nat) (fs : List (Nat × (World → Prop))), (∀ (j : Nat) (u : Know), us[j]? = some u → u.holds vs (vs (k + j)) W) →
    facts fs W → facts (factsAt k vs us fs) W
  | [], _, _, _, h => h
  | u :: us, k, fs, hu, h => by
    refine facts_factsAt vs W us (k + 1) _ (fun j u' hj => ?_) ?_
    · have := hu (j + 1) u' (by simpa using hj)
      rw [show k + (j + 1) = k + 1 + j by omega] at this
      exact this
    · cases hw : u.what with
      | inl c => exact h
      | inr g =>
        refine ⟨?_, h⟩
        have := hu 0 u (by simp)
        simp only [Know.holds, hw] at this
        exact this

theorem looksAt_operand {o : Oper} {t : Tmp} (h : .tmp t ∈ o.op.operands) : t ∈ o.looksAt ops :=
  List.mem_append_left _ (List.mem_filterMap.2 ⟨.tmp t, by simpa using h, rfl⟩)

def usesOk (ops : Array Oper) : Nat → List (List Nat) → Bool
  | _, [] => true
  | i, l :: r => (l.all fun j => decide (j < i) && (mask ops i).testBit j) && usesOk ops (i + 1) r

theorem usesOk_spec : ∀ (ul : List (List Nat)) (k : Nat), usesOk ops k ul = true → ∀ (i : Nat) (l : List Nat), ul[i]? = some l → ∀ j ∈ l, j < k + i ∧ (mask ops (k + i)).testBit j = true
  | [], _, _, _, _, h, _, _ => by simp at h
  | l :: r, k, h, i, l', hi, j, hj => by
    simp only [usesOk, Bool.and_eq_true, List.all_eq_true, decide_eq_true_eq] at h
    cases i with
    | zero =>
      have : l = l' := by simpa using hi
      subst this
      exact h.1 j hj
    | succ i =>
      have := usesOk_spec r (k + 1) h.2 i l' (by simpa using hi) j hj
      rw [show k + (i + 1) = k + 1 + i by omega]
      exact this

section
variable {n N : Nat}
structure Form (ops : Array Oper) (n N : Nat) : Prop where
  sel : Region.noSelect ops = true
  le : n ≤ ops.size
  tail : n = ops.size ∨ (n < ops.size ∧ Region.sinkB .any ops n = true ∧ Region.chainB .any ops n = true)
  masks : ∀ i, i < n → maskOk ops i = true
  back : ∀ i, i < n → edgesBack ops i = true
  slots : ∀ i, i < n → slotsOk ops n i = true
  dsts : dstsOk ops n N = true
  seq : Region.seqB .any ops (ops.size - n) n (full n ops.size) = true

theorem formOk_spec (h : formOk ops n N = true) : Form ops n N := by
  simp only [formOk, Bool.and_eq_true, decide_eq_true_eq, Bool.or_eq_true, List.all_eq_true, List.mem_range] at h
  obtain ⟨⟨⟨⟨⟨h1, h2⟩, h3⟩, h4⟩, h5⟩, h6⟩ := h
  exact ⟨h1, h2, h3.imp id (fun h => ⟨h.1.1, h.1.2, h.2⟩), fun i hi => (h4 i hi).1.1, fun i hi => (h4 i hi).1.2, fun i hi => (h4 i hi).2, h5, h6⟩

theorem Form.dst (h : Form ops n N) {i : Nat} (hi : i < n) {t : Tmp} (ht : dstOf ops i = some t) : t < N ∧ ∀ d, d < i → dstOf ops d ≠ some t := by
  have h1 := h.dsts
  simp only [dstsOk, List.all_eq_true, List.mem_range] at h1
  have h2 := h1 i hi
  unfold dstOf at ht ⊢
  rw [ht] at h2
  simp only [Bool.and_eq_true, decide_eq_true_eq, List.all_eq_true, List.mem_range, Bool.not_eq_true', beq_eq_false_iff_ne] at h2
  exact ⟨h2.1, fun d hd' => h2.2 d hd'⟩

theorem Form.dst_ne (h : Form ops n N) {i j : Nat} (hi : i < n) (hj : j < n) (hij : i ≠ j) {t : Tmp} (ht : dstOf ops i = some t) : dstOf ops j ≠ some t := by
  rcases Nat.lt_or_ge i j with hlt | hge
  · intro hs
    exact (h.dst hj hs).2 i hlt ht
  · exact (h.dst hi ht).2 j (by omega)

theorem Form.looks (h : Form ops n N) {i d : Nat} {o : Oper} {t : Tmp} (hi : i < n) (hd : d < n) (ho : ops[i]? = some o) (ht : dstOf ops d = some t) (hl : t ∈ o.looksAt ops) :
    (d < i ∧ (mask ops i).testBit d = true) ∨ (i < d ∧ (mask ops d).testBit i = true) := by
  have h1 := h.slots i hi
  simp only [slotsOk, ho, List.all_eq_true, List.mem_range] at h1
  have h2 := h1 d hd
  have hlt : d < ops.size := by have := h.le; omega
  rw [Array.getElem?_eq_getElem hlt] at h2
  have hdst : ops[d].dst = some t := by simpa [dstOf, Array.getElem?_eq_getElem hlt] using ht
  simp only [hdst, Bool.or_eq_true, Bool.and_eq_true, decide_eq_true_eq, Bool.not_eq_true'] at h2
  rcases h2 with (h2 | h2) | h2
  · simp [hl] at h2
  · exact .inl h2
  · exact .inr h2

/-- The slots that operation i looks at hold, in whatever order the others have come, what they hold in the order of the text. -/
theorem Inv.slot (hf : Form ops n N) {us : List Know} {a a' : Act} {listed : Array Bool} {W : World} (inv : Inv ops R w0 n us a listed a' W) (hN : a.tmps.size = N) (hus : us.length = n)
    {i : Nat} (hi : i < n) (hr : i ∈ Region.ready .any ops listed) {o : Oper} (ho : ops[i]? = some o) {t : Tmp} (ht : t ∈ o.looksAt ops) :
    a'.tmps[t]? = (actAt 0 (valsOf ops us a') ((ops.toList).take i) a).tmps[t]? := by
  have hun := (mem_ready.1 hr).1
  obtain ⟨_, o', ho', hall⟩ := mem_ready.1 hr
  have : o = o' := Option.some.inj (ho.symm.trans ho')
  subst this
  by_cases hx : ∃ d, d < n ∧ dstOf ops d = some t
  · obtain ⟨d, hd, hdt⟩ := hx
    have hdl : d < ops.size := by have := hf.le; omega
    rcases hf.looks hi hd ho hdt ht with ⟨hlt, hb⟩ | ⟨hlt, hb⟩
    · have hld := mask_listed hf.masks inv.head i hi o ho hall d hlt hb
      have hud : us[d]? = some us[d] := List.getElem?_eq_getElem (by omega)
      have hv := inv.vals d _ hd hud hld
      have htN := (hf.dst hd hdt).1
      have hval : val ops d a' = a'.tmps.getD t undef := by simp [val, hdt]
      have hts : t < a'.tmps.size := by rw [inv.size, hN]; exact htN
      have e1 : a'.tmps[t]? = some (val ops d a') := by rw [hval]; simp [hts]
      have e2 : valsOf ops us a' d = val ops d a' := by
        simp only [valsOf, hud]
        cases hw : us[d].what with
        | inl c => simp only [Know.holds, hw] at hv; exact hv.symm
        | inr g => rfl
      have hod : (ops.toList.take i)[d]? = some ops[d] := by rw [List.getElem?_take_of_lt hlt]; simp [hdl]
      have hdd : ops[d].dst = some t := by simpa [dstOf, Array.getElem?_eq_getElem hdl] using hdt
      rw [actAt_same _ 0 _ a t d ops[d] (by rw [hN]; exact htN) hod hdd (fun j o2 hj hne => ?_), Nat.zero_add, e2, e1]
      intro he
      have hji : j < i := by
        rcases Nat.lt_or_ge j i with h | h
        · exact h
        · rw [List.getElem?_take_eq_none h] at hj; cases hj
      have hjo : ops[j]? = some o2 := by rw [List.getElem?_take_of_lt hji] at hj; simpa using hj
      exact hf.dst_ne hd (show j < n by omega) (Ne.symm hne) hdt (by simp [dstOf, hjo, he])
    · have hnd : listed.getD d false = false := by
        cases hl : listed.getD d false with
        | false => rfl
        | true =>
          have hod : ops[d]? = some ops[d] := Array.getElem?_eq_getElem hdl
          have := mask_listed hf.masks inv.head d hd _ hod (fun e he hb' => inv.head.closed d _ hod hl e he hb') i hlt hb
          rw [getD_both hun] at this
          cases this
      rw [inv.old t (fun j hj hjl he => ?_), actAt_other]
      · intro j o2 hj he
        have hji : j < i := by
          rcases Nat.lt_or_ge j i with h | h
          · exact h
          · rw [List.getElem?_take_eq_none h] at hj; cases hj
        have hjo : ops[j]? = some o2 := by rw [List.getElem?_take_of_lt hji] at hj; simpa using hj
        exact hf.dst_ne hd (show j < n by omega) (by omega) hdt (by simp [dstOf, hjo, he])
      · by_cases hjd : j = d
        · subst hjd; rw [hnd] at hjl; cases hjl
        · exact hf.dst_ne hd hj (Ne.symm hjd) hdt he
  · rw [inv.old t (fun j hj _ he => hx ⟨j, hj, he⟩), actAt_other]
    intro j o2 hj he
    have hji : j < i := by
      rcases Nat.lt_or_ge j i with h | h
      · exact h
      · rw [List.getElem?_take_eq_none h] at hj; cases hj
    have hjo : ops[j]? = some o2 := by rw [List.getElem?_take_of_lt hji] at hj; simpa using hj
    exact hx ⟨j, by omega, by simp [dstOf, hjo, he]⟩

theorem wanted_congr {o : Oper} {a a' : Act} (h : ∀ t ∈ o.looksAt ops, a.tmps[t]? = a'.tmps[t]?) : Region.wanted o (yielded ops a.tmps) = Region.wanted o (yielded ops a'.tmps) := by
  unfold Region.wanted
  cases hg : o.guard with
  | none => rfl
  | some p =>
    obtain ⟨j, b⟩ := p
    have : yielded ops a.tmps j = yielded ops a'.tmps j := by
      unfold yielded
      cases hd : (ops[j]?).bind (·.dst) with
      | none => rfl
      | some t =>
        have ht : t ∈ o.looksAt ops := List.mem_append_right _ (by simp [hg, hd])
        simp only [Option.bind_some, h t ht]
    simp only [this]

theorem eval_congr {o : Oper} {a a' : Act} (h : ∀ t ∈ o.looksAt ops, a.tmps[t]? = a'.tmps[t]?) : ∀ x ∈ o.op.operands, a.eval x = a'.eval x := by
  intro x hx
  cases x with
  | tmp t =>
    have := h t (looksAt_operand hx)
    simp only [Act.eval, Array.getD_eq_getD_getElem?, this]
  | _ => rfl

theorem val_put_same {i : Nat} {t : Tmp} {a : Act} (hd : dstOf ops i = some t) (h : t < a.tmps.size) (v : Value) : val ops i (a.put (dstOf ops i) v) = v := by
  simp [val, hd, Act.put, h]
theorem val_put_other {i j : Nat} {a : Act} (h : ∀ t, dstOf ops j = some t → dstOf ops i ≠ some t) (v : Value) : val ops i (a.put (dstOf ops j) v) = val ops i a := by
  unfold val
  cases hi : dstOf ops i with
  | none => rfl
  | some t =>
    have := put_other a v (d := dstOf ops j) (t := t) (fun e => h t e hi)
    simp only [Array.getD_eq_getD_getElem?, this]

/-- One more of the head has come. -/
theorem Inv.step (hR : Keeps R) (hf : Form ops n N) {us : List Know} {a a' : Act} {listed : Array Bool} {W W' : World} (inv : Inv ops R w0 n us a listed a' W) (hN : a.tmps.size = N)
    {i : Nat} (hi : i < n) (hr : i ∈ Region.ready .any ops listed) {o : Oper} (ho : ops[i]? = some o) {u : Know} (hu : us[i]? = some u) (hm : ∀ (j : Nat) (u : Know), us[j]? = some u → u.Mono R) (hul : usesOk ops 0 (us.map (·.uses)) = true) {v : Value} (hv : u.holds (valsOf ops us a') (shown o v) W') (hb : R W W') :
    Inv ops R w0 n us a (listed.setIfInBounds i true) (a'.put (dstOf ops i) v) W' := by
  have hun := (mem_ready.1 hr).1
  have hil : i < listed.size := by have := inv.head.size; have := hf.le; omega
  have hdo : dstOf ops i = o.dst := by simp [dstOf, ho]
  have hvo : ∀ d, d < n → d ≠ i → valsOf ops us a' d = valsOf ops us (a'.put (dstOf ops i) v) d := fun d hd hne => by
    unfold valsOf
    rw [val_put_other (fun t ht => hf.dst_ne hi hd (Ne.symm hne) ht)]
  have husee : ∀ (j : Nat) (u' : Know), j < n → us[j]? = some u' → ∀ d ∈ u'.uses, d < j ∧ (mask ops j).testBit d = true := fun j u' _ hju d hd => by
    have := usesOk_spec _ 0 hul j u'.uses (by simp [hju]) d hd
    rwa [Nat.zero_add] at this
  refine ⟨inv.head.set hr hi, hR.trans inv.ext hb, (put_defers' _ _ _).trans inv.defers, (put_size _ _ _).trans inv.size, fun s hs => ?_, fun j u' hj hju hjl => ?_⟩
  · rw [put_other]
    · refine inv.old s (fun j hj hjl => hs j hj (getD_set_true hjl))
    · exact hs i hi (by simp [hil])
  · by_cases hji : j = i
    · subst hji
      have : u = u' := Option.some.inj (hu.symm.trans hju)
      subst this
      refine Know.holds_congr (e := valsOf ops us a') (fun d hd => hvo d (by have := (husee j u hj hu d hd).1; omega) (by have := (husee j u hj hu d hd).1; omega)) ?_
      cases hd : dstOf ops j with
      | none =>
        have : val ops j (a'.put none v) = shown o v := by simp [val, hd, shown, ← hdo]
        rw [this]
        exact hv
      | some t =>
        have hsh : shown o v = v := by simp [shown, ← hdo, hd]
        rw [← hd, val_put_same hd (by rw [inv.size, hN]; exact (hf.dst hi hd).1)]
        rw [hsh] at hv
        exact hv
    · rw [val_put_other (fun t ht => hf.dst_ne hi hj (Ne.symm hji) ht)]
      rw [getD_set_ne false (by omega)] at hjl
      refine Know.holds_congr (e := valsOf ops us a') (fun d hd => hvo d (by have := (husee j u' hj hju d hd).1; omega) (fun hdi => ?_)) (Know.holds_mono (hm j u' hju) (inv.vals j u' hj hju hjl) hb)
      obtain ⟨h1, h2⟩ := husee j u' hj hju d hd
      have hjo : j < ops.size := by have := hf.le; omega
      have := mask_listed hf.masks inv.head j hj ops[j] (Array.getElem?_eq_getElem hjo) (fun e he hb' => inv.head.closed j _ (Array.getElem?_eq_getElem hjo) hjl e he hb') d h1 h2
      rw [hdi, getD_both hun] at this
      cases this

theorem holds_valsOf {us : List Know} {a : Act} {j : Nat} {u : Know} {W : World} {e : Nat → Value} (hu : us[j]? = some u) (h : u.holds e (val ops j a) W) : u.holds e (valsOf ops us a j) W := by
  simp only [valsOf, hu]
  cases hw : u.what with
  | inl c => simp only [Know.holds, hw]
  | inr g => exact h

theorem known_take {us : List Know} {a a' : Act} {listed : Array Bool} {W : World} (inv : Inv ops R w0 n us a listed a' W) {i : Nat} (hi : i < n) {uses : List Nat}
    (h : ∀ j ∈ uses, j < i → listed.getD j false = true) : known (factsAt 0 (valsOf ops us a') (us.take i) []) uses W := by
  refine known_factsAt _ us W uses (us.take i) 0 [] (fun j u hj hin => ?_) trivial
  rw [Nat.zero_add] at hin ⊢
  have hji : j < i := by
    rcases Nat.lt_or_ge j i with h | h
    · exact h
    · rw [List.getElem?_take_eq_none h] at hj; cases hj
  have hju : us[j]? = some u := by rw [List.getElem?_take_of_lt hji] at hj; exact hj
  exact holds_valsOf hju (inv.vals j u (by omega) hju (h j hin hji))

theorem listed_full (hf : Form ops n N) {listed : Array Bool} (hh : HeadInv .any ops n listed) (h0 : left n listed = 0) : listed = full n ops.size := by
  have hall := left_zero h0
  apply Array.ext
  · rw [hh.size]; simp [full]; have := hf.le; omega
  · intro i hi1 hi2
    have hi : i < ops.size := by rw [hh.size] at hi1; exact hi1
    rcases Nat.lt_or_ge i n with hlt | hge
    · have := hall i hlt
      simp [hi1] at this
      rw [this]
      simp [full, List.getElem_append_left, hlt]
    · have := hh.tail i hge hi
      simp [hi1] at this
      rw [this]
      simp [full, List.getElem_append_right, hge]

theorem act_ext {a b : Act} (h : a.tmps = b.tmps) (h' : a.defers = b.defers) : a = b := by cases a; cases b; cases h; cases h'; rfl

theorem actAt_head (hf : Form ops n N) {us : List Know} {a a' : Act} {listed : Array Bool} {W : World} (inv : Inv ops R w0 n us a listed a' W) (hN : a.tmps.size = N) (hus : us.length = n)
    (h0 : left n listed = 0) : a' = actAt 0 (valsOf ops us a') (ops.toList.take n) a := by
  have hall := left_zero h0
  have ht : ∀ t : Nat, a'.tmps[t]? = (actAt 0 (valsOf ops us a') (ops.toList.take n) a).tmps[t]? := by
    intro t
    by_cases hx : ∃ d, d < n ∧ dstOf ops d = some t
    · obtain ⟨d, hd, hdt⟩ := hx
      have hdl : d < ops.size := by have := hf.le; omega
      have hud : us[d]? = some us[d] := List.getElem?_eq_getElem (by omega)
      have hv := inv.vals d _ hd hud (hall d hd)
      have htN := (hf.dst hd hdt).1
      have hval : val ops d a' = a'.tmps.getD t undef := by simp [val, hdt]
      have hts : t < a'.tmps.size := by rw [inv.size, hN]; exact htN
      have e1 : a'.tmps[t]? = some (val ops d a') := by rw [hval]; simp [hts]
      have e2 : valsOf ops us a' d = val ops d a' := by
        simp only [valsOf, hud]
        cases hw : us[d].what with
        | inl c => simp only [Know.holds, hw] at hv; exact hv.symm
        | inr g => rfl
      have hod : (ops.toList.take n)[d]? = some ops[d] := by rw [List.getElem?_take_of_lt hd]; simp [hdl]
      have hdd : ops[d].dst = some t := by simpa [dstOf, Array.getElem?_eq_getElem hdl] using hdt
      rw [actAt_same _ 0 _ a t d ops[d] (by rw [hN]; exact htN) hod hdd (fun j o2 hj hne => ?_), Nat.zero_add, e2, e1]
      intro he
      have hji : j < n := by
        rcases Nat.lt_or_ge j n with h | h
        · exact h
        · rw [List.getElem?_take_eq_none h] at hj; cases hj
      have hjo : ops[j]? = some o2 := by rw [List.getElem?_take_of_lt hji] at hj; simpa using hj
      exact hf.dst_ne hd hji (Ne.symm hne) hdt (by simp [dstOf, hjo, he])
    · rw [inv.old t (fun j hj _ he => hx ⟨j, hj, he⟩), actAt_other]
      intro j o2 hj he
      have hji : j < n := by
        rcases Nat.lt_or_ge j n with h | h
        · exact h
        · rw [List.getElem?_take_eq_none h] at hj; cases hj
      have hjo : ops[j]? = some o2 := by rw [List.getElem?_take_of_lt hji] at hj; simpa using hj
      exact hx ⟨j, hji, by simp [dstOf, hjo, he]⟩
  have htm : a'.tmps = (actAt 0 (valsOf ops us a') (ops.toList.take n) a).tmps := Array.ext_getElem? ht
  have hde : a'.defers = (actAt 0 (valsOf ops us a') (ops.toList.take n) a).defers := inv.defers.trans (actAt_defers _ _ _ _).symm
  exact act_ext htm hde

theorem wpAny_more {Q : Exit → Act → World → Prop} : ∀ (f : Nat) (listed : Array Bool) (a : Act) (w : World), wpAny P .any ops Q f listed a w → wpAny P .any ops Q (f + 1) listed a w
  | 0, _, _, _, h => ⟨fun _ => h.2, fun i hi => by rw [h.1] at hi; cases hi⟩
  | f + 1, _, _, _, h => ⟨h.1, fun i hi => wpOp_mono (fun a w h' => wpAny_more f _ a w h') (h.2 i hi)⟩

/-- A region whose head comes in whatever order. -/
theorem any_of_head {Q : Exit → Act → World → Prop} (hR : Keeps R) (hf : Form ops n N) {us : List Know} {a : Act} (hN : a.tmps.size = N) (hus : us.length = n) (hul : usesOk ops 0 (us.map (·.uses)) = true)
    (howes : ∀ vs, Fits 0 vs us → ∀ (j : Nat) (u : Know) (o : Oper), us[j]? = some u → (ops.toList.take n)[j]? = some o → Owes P ops R w0 u o vs (actAt 0 vs ((ops.toList.take n).take j) a) (factsAt 0 vs (us.take j) []))
    (hfin : ∀ vs, Fits 0 vs us → ∀ W, R w0 W → facts (factsAt 0 vs us []) W → wpList P ops Q (ops.toList.drop n) (actAt 0 vs (ops.toList.take n) a) W) :
    ∀ (c : Nat) (listed : Array Bool) (a' : Act) (W : World), left n listed ≤ c → Inv ops R w0 n us a listed a' W → wpAny P .any ops Q (c + (ops.size - n)) listed a' W := by
  have hmono : ∀ vs, Fits 0 vs us → ∀ (j : Nat) (u : Know), us[j]? = some u → u.Mono R := fun vs hv j u hu => by
    have hj : j < n := by rw [← hus]; exact (List.getElem?_eq_some_iff.1 hu).1
    have hjl : j < ops.size := by have := hf.le; omega
    exact (howes vs hv j u ops[j] hu (by rw [List.getElem?_take_of_lt hj]; simp [hjl])).1
  intro c
  induction c with
  | zero =>
    intro listed a' W hc inv
    have h0 : left n listed = 0 := by omega
    have hl := listed_full hf inv.head h0
    have ha := actAt_head hf inv hN hus h0
    have hfits := fits_vals_aux ops us a' us 0 (fun j => by rw [Nat.zero_add])
    have hfa : facts (factsAt 0 (valsOf ops us a') us []) W := facts_factsAt _ W us 0 [] (fun j u hj => by
      rw [Nat.zero_add]
      have hj' : j < n := by rw [← hus]; exact (List.getElem?_eq_some_iff.1 hj).1
      exact holds_valsOf hj (inv.vals j u hj' hj (left_zero h0 j hj'))) trivial
    have h := hfin _ hfits W inv.ext hfa
    rw [← ha] at h
    have hs := hf.seq
    rw [← hl] at hs
    have hlen : (ops.toList.drop n).length = ops.size - n := by simp
    have := wpAny_of_seq (P := P) (md := .any) (Q' := Q) (ops.toList.drop n) n listed a' W (fun j => by simp) (by rw [hlen]; exact hs) h
    rw [hlen] at this
    rwa [Nat.zero_add]
  | succ c ih =>
    intro listed a' W hc inv
    by_cases h0 : left n listed ≤ c
    · rw [show c + 1 + (ops.size - n) = c + (ops.size - n) + 1 by omega]
      exact wpAny_more _ _ _ _ (ih listed a' W h0 inv)
    · rw [show c + 1 + (ops.size - n) = c + (ops.size - n) + 1 by omega]
      refine ⟨fun hr => ?_, fun i hi => ?_⟩
      · obtain ⟨k, _, hk⟩ := ready_of_left hf.le inv.head.size hf.back (show left n listed ≠ 0 by omega)
        rw [hr] at hk
        cases hk
      · have hlt : i < n := by
          rcases Nat.lt_or_ge i n with h | h
          · exact h
          · exfalso
            obtain ⟨_, o, ho, _⟩ := mem_ready.1 hi
            have hil : i < ops.size := (Array.getElem?_eq_some_iff.1 ho).1
            rcases hf.tail with ht | ⟨h1, h2, h3⟩
            · omega
            · obtain ⟨k, hk, hkr⟩ := ready_of_left hf.le inv.head.size hf.back (show left n listed ≠ 0 by omega)
              exact tail_waits h2 h3 h1 inv.head _ k rfl hk (mem_ready.1 hkr).1 i h hi
        obtain ⟨hun, o, ho, hall⟩ := mem_ready.1 hi
        have hu : us[i]? = some us[i] := List.getElem?_eq_getElem (by omega)
        have hfits := fits_vals_aux ops us a' us 0 (fun j => by rw [Nat.zero_add])
        have hot : (ops.toList.take n)[i]? = some o := by rw [List.getElem?_take_of_lt hlt]; simpa using ho
        have how := howes _ hfits i _ o hu hot
        rw [List.take_take, Nat.min_eq_left (Nat.le_of_lt hlt)] at how
        have hslot : ∀ t ∈ o.looksAt ops, a'.tmps[t]? = (actAt 0 (valsOf ops us a') (ops.toList.take i) a).tmps[t]? := fun t ht => inv.slot hf hN hus hlt hi ho ht
        have hw := wanted_congr hslot
        have hleft : left n (listed.setIfInBounds i true) ≤ c := by
          have := left_set hlt (show i < listed.size by have := inv.head.size; have := hf.le; omega) (getD_both hun)
          omega
        have hdst : dstOf ops i = o.dst := by simp [dstOf, ho]
        rcases how.2 with ⟨hwt, hg⟩ | ⟨hwf, hwhat⟩
        · have hk : known (factsAt 0 (valsOf ops us a') (us.take i) []) us[i].uses W := known_take inv hlt (fun j hj hji => by
            have := usesOk_spec _ 0 hul i us[i].uses (by simp [hu]) j hj
            rw [Nat.zero_add] at this
            exact mask_listed hf.masks inv.head i hlt o ho hall j hji this.2)
          have h1 := (hg W inv.ext hk).congr (a' := a') (fun cs b => Region.noSelect_spec hf.sel i o cs b ho) (fun x hx => (eval_congr hslot x hx).symm)
          unfold wpOp
          simp only [ho]
          rw [hw, hwt, if_pos rfl]
          refine .inl (Gives.wp (h1.mono fun v W' ⟨hv, hb⟩ => ?_))
          have := ih _ _ W' hleft (inv.step hR hf hN hlt hi ho hu (hmono _ hfits) hul hv hb)
          rw [hdst] at this
          exact this
        · unfold wpOp
          simp only [ho]
          rw [hw, hwf, if_neg (by simp)]
          have := ih _ _ W hleft (inv.step hR hf hN hlt hi ho hu (hmono _ hfits) hul (v := undef) (by simp [Know.holds, hwhat, shown_undef]) (hR.refl _))
          rw [hdst] at this
          exact this

/-- ████ A REGION THAT DRAWS ITS ORDER. n: how many operations its head has. us: what is known of the value of each. -/
theorem wp_region_headR {id : Nat} {l : List Oper} {Q : Exit → Act → World → Prop} {a : Act} {w : World} (n N : Nat) (us : List Know) (ul : List (List Nat)) (hR : Keeps R)
    (hm : P.follows .mixedOrders = true) (hN : a.tmps.size = N) (hul : us.map (·.uses) = ul) (hlen : us.length = n)
    (hB : (formOk l.toArray n N && usesOk l.toArray 0 ul) = true)
    (h : Head P l.toArray R w (fun a' fs => ∀ W, R w W → facts fs W → wpList P l.toArray Q (l.drop n) a' W) 0 (fun _ => undef) us (l.take n) a []) : (Code.region id l.toArray true).wp P Q a w := by
  simp only [Bool.and_eq_true] at hB
  have hf := formOk_spec hB.1
  subst hul
  refine wp_region_any hm ?_
  have hlt : us.length = (l.take n).length := by have := hf.le; simp at this; simp [hlen]; omega
  have hsz : n + (l.toArray.size - n) = l.toArray.size := by have := hf.le; omega
  have huses : ∀ (j : Nat) (u : Know), us[j]? = some u → ∀ i ∈ u.uses, i < 0 + j := fun j u hu i hi => (usesOk_spec _ 0 hB.2 j u.uses (by simp [hu]) i hi).1
  have hl0 : left n (Array.replicate l.toArray.size false) ≤ n := by
    have : ∀ (m : Nat) (x : Array Bool), left m x ≤ m := by
      intro m x
      induction m with
      | zero => exact Nat.le_refl _
      | succ m ih => simp only [left]; split <;> omega
    exact this _ _
  have inv0 : Inv l.toArray R w n us a (Array.replicate l.toArray.size false) a w.drew :=
    ⟨⟨by simp, fun j oj _ hl => (by rw [getD_replicate_false] at hl; cases hl), fun t _ ht => getD_in (by simpa using ht) (getD_replicate_false _ _)⟩,
      hR.drew _, rfl, rfl, fun _ _ => rfl, fun i u _ _ hl => by rw [getD_replicate_false] at hl; cases hl⟩
  have := any_of_head (P := P) (w0 := w) (Q := Q) hR hf hN hlen hB.2 (fun vs hv j u o hj ho => (Head.owes (l.take n) us 0 _ a [] vs hlt huses (fun i hi => by omega) h hv).1 j u o hj (by simpa using ho))
    (fun vs hv W hW hfa => by have := (Head.owes (l.take n) us 0 _ a [] vs hlt huses (fun i hi => by omega) h hv).2 W hW hfa; simpa using this) n _ a w.drew hl0 inv0
  rw [hsz] at this
  exact this
/-- The same where nothing that lies there is written. -/
theorem wp_region_head {id : Nat} {l : List Oper} {Q : Exit → Act → World → Prop} {a : Act} {w : World} (n N : Nat) (us : List Know) (ul : List (List Nat))
    (hm : P.follows .mixedOrders = true) (hN : a.tmps.size = N) (hul : us.map (·.uses) = ul) (hlen : us.length = n)
    (hB : (formOk l.toArray n N && usesOk l.toArray 0 ul) = true)
    (h : Head P l.toArray Kp w (fun a' fs => ∀ W, Below w.heap.size w W → facts fs W → wpList P l.toArray Q (l.drop n) a' W) 0 (fun _ => undef) us (l.take n) a []) : (Code.region id l.toArray true).wp P Q a w :=
  wp_region_headR n N us ul kp_keeps hm hN hul hlen hB h
end
end
open Go.RowKit
section
variable {P : Program} {ops : Array Oper} {w0 : World} {Fin : Act → List (Nat × (World → Prop)) → Prop} {k : Nat} {e : Nat → Value} {us : List Know} {o : Oper} {rest : List Oper} {a : Act} {fs : List (Nat × (World → Prop))} {R : World → World → Prop}

theorem shown_some {o : Oper} (h : o.dst.isSome = true) (v : Value) : shown o v = v := by unfold shown; cases hd : o.dst <;> simp_all
theorem and_l {a b : Bool} (h : (a && b) = true) : a = true := by cases a <;> simp_all
theorem and_r {a b : Bool} (h : (a && b) = true) : b = true := by cases a <;> simp_all

/-- An operation that only reads: the same value in whatever world. -/
theorem head_stillR (hR : Keeps R) {c : Value} (hw : (Region.wanted o (yielded ops a.tmps) && o.dst.isSome) = true) (h : ∀ W, R w0 W → (execOp a.eval o).run P W = .ok (.value c) W)
    (hn : Head P ops R w0 Fin (k + 1) (upd e k c) us rest (a.put o.dst c) fs) : Head P ops R w0 Fin k e (⟨[], .inl c⟩ :: us) (o :: rest) a fs :=
  .inl ⟨and_l hw, fun W hW _ => by unfold Gives; rw [h W hW]; exact ⟨shown_some (and_r hw) c, hR.refl _⟩, hn⟩

/-- A guarded operation that is passed over. -/
theorem head_skipR (hw : Region.wanted o (yielded ops a.tmps) = false) (hn : Head P ops R w0 Fin (k + 1) (upd e k undef) us rest (a.put o.dst undef) fs) : Head P ops R w0 Fin k e (⟨[], .inl undef⟩ :: us) (o :: rest) a fs :=
  .inr ⟨hw, rfl, hn⟩

/-- A call whose result is one value, whatever the world; it may make memory. -/
theorem head_callR {c : Value} {f : FuncId} {args : Array Value} (hw : (Region.wanted o (yielded ops a.tmps) && o.dst.isSome) = true) (hr : ∀ W, (execOp a.eval o).run P W = .ok (.enter f args) W)
    (h : ∀ W, R w0 W → Calls P f args W fun e W' => e = .returned c ∧ R W W')
    (hn : Head P ops R w0 Fin (k + 1) (upd e k c) us rest (a.put o.dst c) fs) : Head P ops R w0 Fin k e (⟨[], .inl c⟩ :: us) (o :: rest) a fs :=
  .inl ⟨and_l hw, fun W hW _ => by unfold Gives; rw [hr W]; exact (h W hW).mono fun e W' ⟨he, hb⟩ => ⟨c, he, shown_some (and_r hw) c, hb⟩, hn⟩

/-- An operation of whose value g is known from then on. -/
theorem head_memR (uses : List Nat) (g : Value → World → Prop) (hw : (Region.wanted o (yielded ops a.tmps) && o.dst.isSome) = true) (hm : ∀ v W W', g v W → R W W' → g v W')
    (h : ∀ W, R w0 W → known fs uses W → Gives P o a W (fun v W' => g v W' ∧ R W W'))
    (hn : ∀ v, Head P ops R w0 Fin (k + 1) (upd e k v) us rest (a.put o.dst v) ((k, g v) :: fs)) : Head P ops R w0 Fin k e (⟨uses, .inr fun _ => g⟩ :: us) (o :: rest) a fs :=
  .inl ⟨and_l hw, fun W hW hk => (h W hW hk).mono fun v W' ⟨hg, hb⟩ => ⟨by rw [shown_some (and_r hw)]; exact hg, hb⟩, fun _ => hm, hn⟩

/-- An operation whose value is c, by what is known of others. -/
theorem head_knownR (uses : List Nat) (c : Value) (hw : (Region.wanted o (yielded ops a.tmps) && o.dst.isSome) = true)
    (h : ∀ W, R w0 W → known fs uses W → Gives P o a W (fun v W' => v = c ∧ R W W'))
    (hn : Head P ops R w0 Fin (k + 1) (upd e k c) us rest (a.put o.dst c) fs) : Head P ops R w0 Fin k e (⟨uses, .inl c⟩ :: us) (o :: rest) a fs :=
  .inl ⟨and_l hw, fun W hW hk => (h W hW hk).mono fun v W' ⟨hg, hb⟩ => ⟨by rw [shown_some (and_r hw)]; exact hg, hb⟩, hn⟩

theorem head_nilR (h : Fin a fs) : Head P ops R w0 Fin k e [] [] a fs := h

/-- A store into a slotless place: g is known of the world from then on. -/
theorem head_storeR (g : World → Prop) (hw : (Region.wanted o (yielded ops a.tmps) && o.dst.isNone) = true) (hm : ∀ W W', g W → R W W' → g W')
    (h : ∀ W, R w0 W → Gives P o a W (fun _ W' => g W' ∧ R W W'))
    (hn : ∀ v, Head P ops R w0 Fin (k + 1) (upd e k v) us rest a ((k, g) :: fs)) : Head P ops R w0 Fin k e (⟨[], .inr fun _ _ => g⟩ :: us) (o :: rest) a fs := by
  have hd : o.dst = none := by have := and_r hw; cases hx : o.dst <;> simp_all
  refine .inl ⟨and_l hw, fun W hW _ => (h W hW).mono fun v W' ⟨hg, hb⟩ => ⟨hg, hb⟩, fun _ _ _ _ => hm _ _, fun v => ?_⟩
  rw [hd]
  exact hn v

/-- An operation that only reads: the same value in whatever world. -/
theorem head_still {c : Value} (hw : (Region.wanted o (yielded ops a.tmps) && o.dst.isSome) = true) (h : ∀ W, Below w0.heap.size w0 W → (execOp a.eval o).run P W = .ok (.value c) W)
    (hn : Head P ops Kp w0 Fin (k + 1) (upd e k c) us rest (a.put o.dst c) fs) : Head P ops Kp w0 Fin k e (⟨[], .inl c⟩ :: us) (o :: rest) a fs :=
  .inl ⟨and_l hw, fun W hW _ => by unfold Gives; rw [h W hW]; exact ⟨shown_some (and_r hw) c, Below.refl _ _⟩, hn⟩

/-- A guarded operation that is passed over. -/
theorem head_skip (hw : Region.wanted o (yielded ops a.tmps) = false) (hn : Head P ops Kp w0 Fin (k + 1) (upd e k undef) us rest (a.put o.dst undef) fs) : Head P ops Kp w0 Fin k e (⟨[], .inl undef⟩ :: us) (o :: rest) a fs :=
  .inr ⟨hw, rfl, hn⟩

/-- A call whose result is one value, whatever the world; it may make memory. -/
theorem head_call {c : Value} {f : FuncId} {args : Array Value} (hw : (Region.wanted o (yielded ops a.tmps) && o.dst.isSome) = true) (hr : ∀ W, (execOp a.eval o).run P W = .ok (.enter f args) W)
    (h : ∀ W, Below w0.heap.size w0 W → Calls P f args W fun e W' => e = .returned c ∧ Below W.heap.size W W')
    (hn : Head P ops Kp w0 Fin (k + 1) (upd e k c) us rest (a.put o.dst c) fs) : Head P ops Kp w0 Fin k e (⟨[], .inl c⟩ :: us) (o :: rest) a fs :=
  .inl ⟨and_l hw, fun W hW _ => by unfold Gives; rw [hr W]; exact (h W hW).mono fun e W' ⟨he, hb⟩ => ⟨c, he, shown_some (and_r hw) c, hb⟩, hn⟩

/-- An operation of whose value g is known from then on. -/
theorem head_mem (uses : List Nat) (g : Value → World → Prop) (hw : (Region.wanted o (yielded ops a.tmps) && o.dst.isSome) = true) (hm : ∀ v W W', g v W → Below W.heap.size W W' → g v W')
    (h : ∀ W, Below w0.heap.size w0 W → known fs uses W → Gives P o a W (fun v W' => g v W' ∧ Below W.heap.size W W'))
    (hn : ∀ v, Head P ops Kp w0 Fin (k + 1) (upd e k v) us rest (a.put o.dst v) ((k, g v) :: fs)) : Head P ops Kp w0 Fin k e (⟨uses, .inr fun _ => g⟩ :: us) (o :: rest) a fs :=
  .inl ⟨and_l hw, fun W hW hk => (h W hW hk).mono fun v W' ⟨hg, hb⟩ => ⟨by rw [shown_some (and_r hw)]; exact hg, hb⟩, fun _ => hm, hn⟩

theorem head_known (uses : List Nat) (c : Value) (hw : (Region.wanted o (yielded ops a.tmps) && o.dst.isSome) = true)
    (h : ∀ W, Below w0.heap.size w0 W → known fs uses W → Gives P o a W (fun v W' => v = c ∧ Below W.heap.size W W'))
    (hn : Head P ops Kp w0 Fin (k + 1) (upd e k c) us rest (a.put o.dst c) fs) : Head P ops Kp w0 Fin k e (⟨uses, .inl c⟩ :: us) (o :: rest) a fs :=
  head_knownR uses c hw h hn

/-- A pointer to a new block, from block number lo on. -/
def IsNew (lo : Nat) (cs : Array Value) (t : TypeId) (v : Value) (W : World) : Prop := ∃ g, v = .pointer (some ⟨g, 0, none⟩) ∧ lo ≤ g ∧ W.heap[g]? = some (.cells cs t (0, 0))
theorem IsNew.mono {lo : Nat} {cs : Array Value} {t : TypeId} {v : Value} {W W' : World} (h : IsNew lo cs t v W) (hb : Below W.heap.size W W') : IsNew lo cs t v W' := by
  obtain ⟨g, hv, hl, hg⟩ := h
  exact ⟨g, hv, hl, (hb.block g (Array.getElem?_eq_some_iff.1 hg).1).trans hg⟩

/-- A new variable. -/
theorem head_alloc {cs : Array Value} {t : TypeId} (hw : (Region.wanted o (yielded ops a.tmps) && o.dst.isSome) = true)
    (h : ∀ W, (execOp a.eval o).run P W = .ok (.value (.pointer (some ⟨W.heap.size, 0, none⟩))) (W.alloc (.cells cs t)))
    (hn : ∀ v, Head P ops Kp w0 Fin (k + 1) (upd e k v) us rest (a.put o.dst v) ((k, IsNew w0.heap.size cs t v) :: fs)) : Head P ops Kp w0 Fin k e (⟨[], .inr fun _ => IsNew w0.heap.size cs t⟩ :: us) (o :: rest) a fs :=
  head_mem [] _ hw (fun _ _ _ h hb => h.mono hb) (fun W hW _ => by
    unfold Gives
    rw [h W]
    exact ⟨⟨_, rfl, hW.size, by rw [World.alloc]; simp⟩, (Below.refl _ _).alloc (Nat.le_refl _) _⟩) hn

theorem head_nil (h : Fin a fs) : Head P ops Kp w0 Fin k e [] [] a fs := h
end

/-- All blocks but B stay as they are, and B, if it is written, becomes o. -/
structure KpOne (B : Nat) (o : Obj) (W W' : World) : Prop where
  os : W'.os = W.os
  tape : W'.tape = W.tape
  output : W'.output = W.output
  size : W.heap.size ≤ W'.heap.size
  block : ∀ k, k < W.heap.size → k ≠ B → W'.heap[k]? = W.heap[k]?
  one : W'.heap[B]? = W.heap[B]? ∨ W'.heap[B]? = some o

theorem kpOne_keeps (B : Nat) (o : Obj) : Keeps (KpOne B o) :=
  ⟨fun _ => ⟨rfl, rfl, rfl, Nat.le_refl _, fun _ _ _ => rfl, .inl rfl⟩,
   fun h k => ⟨k.os.trans h.os, k.tape.trans h.tape, k.output.trans h.output, Nat.le_trans h.size k.size, fun i hi hne => (k.block i (Nat.lt_of_lt_of_le hi h.size) hne).trans (h.block i hi hne), by
     rcases k.one with h1 | h1
     · rcases h.one with h2 | h2
       · exact .inl (h1.trans h2)
       · exact .inr (h1.trans h2)
     · exact .inr h1⟩,
   fun _ => ⟨rfl, rfl, rfl, Nat.le_refl _, fun _ _ _ => rfl, .inl rfl⟩⟩

theorem KpOne.below {B b0 : Nat} {o : Obj} {W W' : World} (h : KpOne B o W W') (hB : b0 ≤ B) (hs : b0 ≤ W.heap.size) : Below b0 W W' :=
  ⟨h.os, h.tape, h.output, h.size, fun k hk => h.block k (by omega) (by omega)⟩
theorem KpOne.of_below {B : Nat} {o : Obj} {W W' : World} (h : Below W.heap.size W W') (hB : B < W.heap.size) : KpOne B o W W' :=
  ⟨h.os, h.tape, h.output, h.size, fun k hk _ => h.block k hk, .inl (h.block B hB)⟩
theorem KpOne.final {B : Nat} {o : Obj} {W W' : World} (h : KpOne B o W W') (ho : W.heap[B]? = some o) : W'.heap[B]? = some o := by
  rcases h.one with h1 | h1
  · rw [h1, ho]
  · exact h1
theorem KpOne.other {B k : Nat} {o ok : Obj} {W W' : World} (h : KpOne B o W W') (hk : k ≠ B) (ho : W.heap[k]? = some ok) : W'.heap[k]? = some ok :=
  (h.block k (Array.getElem?_eq_some_iff.1 ho).1 hk).trans ho
/-- A write of all three cells. -/
theorem KpOne.write3 {B : Nat} {t : TypeId} {x y z a b c : Value} {W : World} (h : W.heap[B]? = some (.cells #[x, y, z] t (0, 0))) :
    KpOne B (.cells #[a, b, c] t (0, 0)) W (((W.setCell ⟨B, 0, none⟩ a).setCell ⟨B, 1, none⟩ b).setCell ⟨B, 2, none⟩ c) := by
  refine ⟨rfl, rfl, rfl, by simp [World.setCell], fun k _ hne => ?_, .inr ?_⟩
  · rw [Below.heap_setCell _ _ _ _ hne, Below.heap_setCell _ _ _ _ hne, Below.heap_setCell _ _ _ _ hne]
  · simp [World.setCell, Array.getElem?_modify, h]

/-- A store of three cells into a variable that lay there. -/
theorem head_store3 {P : Program} {ops : Array Oper} {w0 : World} {Fin : Act → List (Nat × (World → Prop)) → Prop} {k : Nat} {e : Nat → Value} {us : List Know} {o : Oper} {rest : List Oper} {a : Act} {fs : List (Nat × (World → Prop))}
    {B : Nat} {t : TypeId} {x0 y0 z0 x1 y1 z1 : Value} (hw : (Region.wanted o (yielded ops a.tmps) && o.dst.isNone) = true) (h0 : w0.heap[B]? = some (.cells #[x0, y0, z0] t (0, 0)))
    (h : ∀ W x y z, W.cell? ⟨B, 0, none⟩ = some x → W.cell? ⟨B, 1, none⟩ = some y → W.cell? ⟨B, 2, none⟩ = some z → (∀ i, W.frozen? ⟨B, i, none⟩ = false) → Gives P o a W (fun _ W' => W' = ((W.setCell ⟨B, 0, none⟩ x1).setCell ⟨B, 1, none⟩ y1).setCell ⟨B, 2, none⟩ z1))
    (hn : ∀ v, Head P ops (KpOne B (.cells #[x1, y1, z1] t)) w0 Fin (k + 1) (upd e k v) us rest a ((k, fun W => W.heap[B]? = some (.cells #[x1, y1, z1] t (0, 0))) :: fs)) :
    Head P ops (KpOne B (.cells #[x1, y1, z1] t)) w0 Fin k e (⟨[], .inr fun _ _ W => W.heap[B]? = some (.cells #[x1, y1, z1] t (0, 0))⟩ :: us) (o :: rest) a fs := by
  refine head_storeR (fun W => W.heap[B]? = some (.cells #[x1, y1, z1] t (0, 0))) hw (fun W W' h k => k.final h) (fun W hW => ?_) hn
  have hx : ∃ x y z, W.heap[B]? = some (.cells #[x, y, z] t (0, 0)) := by
    rcases hW.one with h | h
    · exact ⟨_, _, _, h.trans h0⟩
    · exact ⟨_, _, _, h⟩
  refine Exists.elim hx fun x hx => Exists.elim hx fun y hx => Exists.elim hx fun z hx => ?_
  refine (h W x y z (by simp [World.cell?, hx]) (by simp [World.cell?, hx]) (by simp [World.cell?, hx]) (fun i => by simp [World.frozen?, hx])).mono fun v W' e => ?_
  rw [e]
  exact ⟨by simp [World.setCell, Array.getElem?_modify, hx], KpOne.write3 hx⟩
end Go.Rel
end
