/- Values of the rule language in plain terms: trees; how a value reads in memory. -/
import Derived.Test.YtjgampkpfjbmdaaElems
import Derived.Test.YtjgampkpfjbmdaaRatSpec
namespace Go.Rel
open Go.RowKit

/-! ### Trees -/
inductive Tree where
  | node (k : Int) (q : Rat2) (t : Bool) (s : ByteArray) (kids : List Tree)

theorem Tree.ind {P : Tree → Prop} (h : ∀ k q t s kids, (∀ x ∈ kids, P x) → P (.node k q t s kids)) : ∀ T, P T
  | .node k q t s kids => h k q t s kids (fun x _ => Tree.ind h x)

def Tree.k : Tree → Int | .node k _ _ _ _ => k
def Tree.q : Tree → Rat2 | .node _ q _ _ _ => q
def Tree.t : Tree → Bool | .node _ _ t _ _ => t
def Tree.s : Tree → ByteArray | .node _ _ _ s _ => s
def Tree.kids : Tree → List Tree | .node _ _ _ _ l => l
theorem Tree.eta (T : Tree) : T = .node T.k T.q T.t T.s T.kids := by cases T; rfl
/-- No value at all. -/
def Tree.none_ : Tree := .node 0 ⟨0, 0⟩ false ⟨#[]⟩ []
def tNum (q : Rat2) : Tree := .node 1 q false ⟨#[]⟩ []
def tBool (b : Bool) : Tree := .node 2 ⟨0, 0⟩ b ⟨#[]⟩ []
def tStr (s : ByteArray) : Tree := .node 3 ⟨0, 0⟩ false s []
def tList (l : List Tree) : Tree := .node 4 ⟨0, 0⟩ false ⟨#[]⟩ l

mutual
/-- How many parts a tree has. -/
def partsT : Tree → Nat
  | .node k _ _ _ kids => 1 + if k = 4 then partsL kids else 0
def partsL : List Tree → Nat
  | [] => 0
  | t :: r => partsT t + partsL r
end
mutual
def deepT : Tree → Nat
  | .node k _ _ _ kids => if k = 4 then deepL kids else 1
def deepL : List Tree → Nat
  | [] => 1
  | t :: r => max (1 + deepT t) (deepL r)
end
/-- A byte that a string may hold. -/
def okByte (c : UInt8) : Bool := decide (32 ≤ c.toNat ∧ c.toNat ≤ 126)
def okStr (s : ByteArray) : Bool := decide (s.size ≤ 60) && s.data.toList.all okByte
mutual
def fineT : Tree → Bool
  | .node k q t s kids =>
    if k = 1 then decide (RatOk q) && (!t && (decide (s.size = 0) && decide (kids.length = 0)))
    else if k = 2 then decide (q = ⟨0, 0⟩) && (decide (s.size = 0) && decide (kids.length = 0))
    else if k = 3 then okStr s && (decide (q = ⟨0, 0⟩) && (!t && decide (kids.length = 0)))
    else if k = 4 then fineL kids && (decide (q = ⟨0, 0⟩) && (!t && decide (s.size = 0)))
    else false
def fineL : List Tree → Bool
  | [] => true
  | t :: r => fineT t && fineL r
end
mutual
/-- A tree of at most so great a depth, without long strings and lists. -/
def fitT : Tree → Nat → Bool
  | _, 0 => false
  | .node _ _ _ s kids, d + 1 => decide (s.size ≤ 200) && (decide (kids.length ≤ 150) && fitL kids d)
def fitL : List Tree → Nat → Bool
  | [], _ => true
  | t :: r, d => fitT t d && fitL r d
end

/-- What Go's 64 bits hold of a number. -/
def w64 (n : Nat) : Int := IntKind.i64.wrap n
def greatT (T : Tree) : Bool := !fitT T 10 || decide (150 < w64 (partsT T))
def chkT (T : Tree) : Int := if 100 < w64 (partsT T) ∨ 6 < deepT T then 4 else if fineT T = true then 0 else 8

theorem partsL_append : ∀ a b : List Tree, partsL (a ++ b) = partsL a + partsL b
  | [], b => by simp [partsL]
  | t :: a, b => by simp [partsL, partsL_append a b]; omega
theorem deepL_append : ∀ a b : List Tree, deepL (a ++ b) = max (deepL a) (deepL b)
  | [], b => by
    have : ∀ l : List Tree, 1 ≤ deepL l := fun l => by
      induction l with
      | nil => simp [deepL]
      | cons t r ih => simp only [deepL]; omega
    have := this b
    simp only [deepL, List.nil_append]; omega
  | t :: a, b => by simp only [List.cons_append, deepL, deepL_append a b]; omega
theorem fineL_append : ∀ a b : List Tree, fineL (a ++ b) = (fineL a && fineL b)
  | [], b => by simp [fineL]
  | t :: a, b => by simp [fineL, fineL_append a b, Bool.and_assoc]
theorem fitL_append (d : Nat) : ∀ a b : List Tree, fitL (a ++ b) d = (fitL a d && fitL b d)
  | [], b => by simp [fitL]
  | t :: a, b => by simp [fitL, fitL_append d a b, Bool.and_assoc]
theorem take_next {α : Type} {l : List α} {i : Nat} (h : i < l.length) : l.take (i + 1) = l.take i ++ [l[i]] := List.take_succ_eq_append_getElem h
theorem partsL_take {l : List Tree} {i : Nat} (h : i < l.length) : partsL (l.take (i + 1)) = partsL (l.take i) + partsT l[i] := by
  rw [take_next h, partsL_append]; simp [partsL]
theorem deepL_pos : ∀ l : List Tree, 1 ≤ deepL l
  | [] => Nat.le_refl _
  | _ :: r => by have := deepL_pos r; simp only [deepL]; omega
theorem deepL_take {l : List Tree} {i : Nat} (h : i < l.length) : deepL (l.take (i + 1)) = max (deepL (l.take i)) (1 + deepT l[i]) := by
  rw [take_next h, deepL_append]
  have := deepL_pos (l.take i)
  simp only [deepL]
  omega
theorem fineL_take {l : List Tree} {i : Nat} (h : i < l.length) : fineL (l.take (i + 1)) = (fineL (l.take i) && fineT l[i]) := by
  rw [take_next h, fineL_append]; simp [fineL]
theorem fitL_take {l : List Tree} {i d : Nat} (h : i < l.length) : fitL (l.take (i + 1)) d = (fitL (l.take i) d && fitT l[i] d) := by
  rw [take_next h, fitL_append]; simp [fitL]
theorem fitL_mem {l : List Tree} {d : Nat} (h : fitL l d = true) : ∀ x ∈ l, fitT x d = true := by
  induction l with
  | nil => simp
  | cons t r ih =>
    simp only [fitL, Bool.and_eq_true] at h
    intro x hx
    rcases List.mem_cons.1 hx with rfl | hx
    · exact h.1
    · exact ih h.2 x hx
theorem fineL_mem {l : List Tree} (h : fineL l = true) : ∀ x ∈ l, fineT x = true := by
  induction l with
  | nil => simp
  | cons t r ih =>
    simp only [fineL, Bool.and_eq_true] at h
    intro x hx
    rcases List.mem_cons.1 hx with rfl | hx
    · exact h.1
    · exact ih h.2 x hx
theorem fineL_false {l : List Tree} {i : Nat} (h : i < l.length) (hf : fineT l[i] = false) : fineL l = false := by
  cases hl : fineL l with
  | false => rfl
  | true => rw [fineL_mem hl _ (List.getElem_mem h)] at hf; cases hf
theorem fitT_zero (T : Tree) : fitT T 0 = false := by cases T; rfl
theorem fitT_succ (k : Int) (q : Rat2) (t : Bool) (s : ByteArray) (kids : List Tree) (d : Nat) : fitT (.node k q t s kids) (d + 1) = (decide (s.size ≤ 200) && (decide (kids.length ≤ 150) && fitL kids d)) := rfl
theorem fitT_parts {k : Int} {q : Rat2} {t : Bool} {s : ByteArray} {kids : List Tree} {d : Nat} (h : fitT (.node k q t s kids) d = true) : ∃ e, d = e + 1 ∧ s.size ≤ 200 ∧ kids.length ≤ 150 ∧ ∀ x ∈ kids, fitT x e = true := by
  cases d with
  | zero => rw [fitT_zero] at h; cases h
  | succ e =>
    rw [fitT_succ] at h
    simp only [Bool.and_eq_true, decide_eq_true_eq] at h
    exact ⟨e, rfl, h.1, h.2.1, fitL_mem h.2.2⟩
theorem fit_deep : ∀ (d : Nat) (T : Tree), fitT T d = true → deepT T ≤ d
  | 0, T, h => by rw [fitT_zero] at h; cases h
  | d + 1, .node k q t s kids, h => by
    obtain ⟨e, he, -, -, hk⟩ := fitT_parts h
    obtain rfl : d = e := by omega
    have key : ∀ l : List Tree, (∀ x ∈ l, fitT x d = true) → deepL l ≤ d + 1 := by
      intro l
      induction l with
      | nil => intro _; simp [deepL]
      | cons x r ih =>
        intro hx
        have h1 := fit_deep d x (hx x (by simp))
        have h2 := ih (fun y hy => hx y (by simp [hy]))
        simp only [deepL]
        omega
    unfold deepT
    split
    · exact key kids hk
    · omega

/-! ### How a value reads in memory -/
structure Val where
  k : Int
  q : Rat2
  t : Bool
  s : ByteArray
  A : Option Addr
  len : Nat
  cap : Nat

@[reducible] def Val.v (x : Val) : Value := .agg #[.int .u8 x.k, .int .i64 x.q.n, .int .i64 x.q.d, .bool x.t, .string x.s, .slice x.A x.len x.cap]
def Val.cells (x : Val) : List Value := [.int .u8 x.k, .int .i64 x.q.n, .int .i64 x.q.d, .bool x.t, .string x.s, .slice x.A x.len x.cap]
/-- The cells of a variable that holds it. -/
@[reducible] def Val.box (x : Val) : Array Value := #[.int .u8 x.k, .int .i64 x.q.n, .int .i64 x.q.d, .bool x.t, .string x.s, .slice x.A x.len x.cap]
theorem Val.cells_len (x : Val) : x.cells.length = 6 := rfl
def I64 (n : Int) : Prop := -9223372036854775808 ≤ n ∧ n ≤ 9223372036854775807
structure Val.Ok (x : Val) : Prop where
  k0 : 0 ≤ x.k
  k1 : x.k ≤ 255
  n0 : -9223372036854775808 ≤ x.q.n
  n1 : x.q.n ≤ 9223372036854775807
  d0 : -9223372036854775808 ≤ x.q.d
  d1 : x.q.d ≤ 9223372036854775807
  s1 : x.s.size ≤ 9223372036854775807
  l1 : x.len ≤ x.cap
  c1 : x.cap ≤ 9223372036854775807
  nil_ : x.A = none → x.cap = 0

/-- A variable that holds it, cell by cell. -/
theorem Blk.val {w : World} {g : Nat} {e : TypeId} {x : Val} (h : Blk w g e x.box) : w.cell? ⟨g, 0, none⟩ = some (.int .u8 x.k) ∧ w.cell? ⟨g, 1, none⟩ = some (.int .i64 x.q.n) ∧ w.cell? ⟨g, 2, none⟩ = some (.int .i64 x.q.d) ∧
    w.cell? ⟨g, 3, none⟩ = some (.bool x.t) ∧ w.cell? ⟨g, 4, none⟩ = some (.string x.s) ∧ w.cell? ⟨g, 5, none⟩ = some (.slice x.A x.len x.cap) :=
  ⟨h.cell (i := 0) rfl, h.cell (i := 1) rfl, h.cell (i := 2) rfl, h.cell (i := 3) rfl, h.cell (i := 4) rfl, h.cell (i := 5) rfl⟩
/-- A new variable that holds it. -/
theorem box_val (w : World) (e : TypeId) (x : Val) : Below w.heap.size w (w.alloc (.cells x.box e)) ∧ Blk (w.alloc (.cells x.box e)) w.heap.size e x.box := ⟨below_alloc w _, Blk.new w e _⟩

/-- A slice at the address A reads as l, in a block (and from an offset) of which P holds. -/
def RecsP {α : Type} (cells : α → List Value) (z : Nat) (w : World) (P : Nat → Nat → Prop) (A : Option Addr) (l : List α) : Prop :=
  0 < l.length → ∃ b off : Nat, A = some ⟨b, off, none⟩ ∧ P b off ∧ ∀ (i : Nat) (v : α), l[i]? = some v → ∀ (j : Nat) (u : Value), (cells v)[j]? = some u → w.cell? ⟨b, off + i * z + j, none⟩ = some u

/-- The value x reads as the tree T, in blocks of which P holds. -/
inductive Reads (w : World) (P : Nat → Nat → Prop) : Tree → Val → Prop
  | mk (x : Val) (kids : List Tree) (ys : List Val) (ok : x.Ok) (hx : ys.length = x.len) (hl : kids.length = x.len) (hr : RecsP Val.cells 6 w P x.A ys)
      (hk : ∀ (i : Nat) (t : Tree) (y : Val), kids[i]? = some t → ys[i]? = some y → Reads w P t y) : Reads w P (.node x.k x.q x.t x.s kids) x

theorem Reads.inv {w : World} {P : Nat → Nat → Prop} {T : Tree} {x : Val} (h : Reads w P T x) :
    ∃ (kids : List Tree) (ys : List Val), T = .node x.k x.q x.t x.s kids ∧ x.Ok ∧ ys.length = x.len ∧ kids.length = x.len ∧ RecsP Val.cells 6 w P x.A ys ∧ ∀ (i : Nat) (t : Tree) (y : Val), kids[i]? = some t → ys[i]? = some y → Reads w P t y := by
  match T, x, h with
  | _, _, .mk x kids ys ok hx hl hr hk => exact ⟨kids, ys, rfl, ok, hx, hl, hr, hk⟩

theorem Reads.mono {w w' : World} {P P' : Nat → Nat → Prop} (hP : ∀ b o, P b o → P' b o) (hw : ∀ b o, P b o → w'.heap[b]? = w.heap[b]?) {T : Tree} {x : Val} (h : Reads w P T x) : Reads w' P' T x := by
  induction h with
  | mk x kids ys ok hx hl hr hk ih =>
    refine .mk x kids ys ok hx hl (fun hpos => ?_) ih
    obtain ⟨b, off, e, hp, hc⟩ := hr hpos
    refine ⟨b, off, e, hP _ _ hp, fun i v hi j u hj => ?_⟩
    have := hc i v hi j u hj
    simp only [World.cell?] at this ⊢
    rw [hw b off hp]
    exact this

/-- A value that reads as T, all of it below block B. -/
def RdB (w : World) (B : Nat) (T : Tree) (x : Val) : Prop := Reads w (fun b _ => b < B) T x
theorem RdB.below {w w' : World} {B B' : Nat} {T : Tree} {x : Val} (h : RdB w B T x) (hb : Below B w w') (hB : B ≤ B') : RdB w' B' T x :=
  Reads.mono (fun _ _ hp => Nat.lt_of_lt_of_le hp hB) (fun b _ hp => hb.block b hp) h
theorem RdB.more {w : World} {B B' : Nat} {T : Tree} {x : Val} (h : RdB w B T x) (hB : B ≤ B') : RdB w B' T x := h.below (Below.refl _ _) hB

/-- A value opened: its list. -/
theorem RdB.open_ {w : World} {B : Nat} {T : Tree} {x : Val} (h : RdB w B T x) :
    ∃ (kids : List Tree) (ys : List Val), T = .node x.k x.q x.t x.s kids ∧ x.Ok ∧ ys.length = x.len ∧ kids.length = x.len ∧ Recs Val.cells 6 w B x.A ys ∧ ∀ (i : Nat) (t : Tree) (y : Val), kids[i]? = some t → ys[i]? = some y → RdB w B t y := by
  obtain ⟨kids, ys, e, ok, hx, hl, hr, hk⟩ := Reads.inv h
  exact ⟨kids, ys, e, ok, hx, hl, hr, hk⟩

/-- One element. -/
theorem val_at {w : World} {B : Nat} {A : Option Addr} {ys : List Val} {kids : List Tree} {n : Nat} (hy : ys.length = n) (hl : kids.length = n) (hr : Recs Val.cells 6 w B A ys) (hk : ∀ (i : Nat) (t : Tree) (y : Val), kids[i]? = some t → ys[i]? = some y → RdB w B t y) {i : Nat} (hi : i < n) :
    ∃ (b off : Nat) (y : Val) (t : Tree), A = some ⟨b, off, none⟩ ∧ b < B ∧ kids[i]? = some t ∧ ys[i]? = some y ∧ RdB w B t y ∧
      w.cell? ⟨b, off + i * 6, none⟩ = some (.int .u8 y.k) ∧ w.cell? ⟨b, off + i * 6 + 1, none⟩ = some (.int .i64 y.q.n) ∧ w.cell? ⟨b, off + i * 6 + 2, none⟩ = some (.int .i64 y.q.d) ∧
      w.cell? ⟨b, off + i * 6 + 3, none⟩ = some (.bool y.t) ∧ w.cell? ⟨b, off + i * 6 + 4, none⟩ = some (.string y.s) ∧ w.cell? ⟨b, off + i * 6 + 5, none⟩ = some (.slice y.A y.len y.cap) := by
  obtain ⟨b, off, e, hb, hc⟩ := hr (by omega)
  have hi1 : i < ys.length := by omega
  have hi2 : i < kids.length := by omega
  have g1 : ys[i]? = some ys[i] := by simp [hi1]
  have g2 : kids[i]? = some kids[i] := by simp [hi2]
  have c := hc i _ g1
  refine ⟨b, off, ys[i], kids[i], e, hb, g2, g1, hk i _ _ g2 g1, ?_, ?_, ?_, ?_, ?_, ?_⟩
  · have := c 0 _ rfl; simpa using this
  · exact c 1 _ rfl
  · exact c 2 _ rfl
  · exact c 3 _ rfl
  · exact c 4 _ rfl
  · exact c 5 _ rfl
theorem RdB.in_ {w wr : World} {B : Nat} {T : Tree} {x : Val} (h : RdB w B T x) (hb : Below B w wr) (hB : B ≤ wr.heap.size) : RdB wr wr.heap.size T x := h.below hb hB
theorem kid_at {kids : List Tree} {i : Nat} {t : Tree} (h : kids[i]? = some t) : ∃ hi : i < kids.length, t = kids[i] := by
  obtain ⟨hi, e⟩ := List.getElem?_eq_some_iff.1 h
  exact ⟨hi, e.symm⟩
end Go.Rel
