/- Slices of records, in plain terms: a slice reads as a list; what the call has appended reads as a list; a slice among a law's arguments, opened. -/
import Derived.Test.YtjgampkpfjbmdaaBase
import Derived.Test.YtjgampkpfjbmdaaRow
import Derived.Laws.AppendOwn
import Derived.Laws.AppendOwnNone
namespace Go.Rel
open Go.RowKit Go.ChangeShapes Go.WideShapes Go.Deep Go.Joins

/-- A slice at the address A reads as l, each record being z cells; it lies below block B. -/
def Recs {α : Type} (cells : α → List Value) (z : Nat) (w : World) (B : Nat) (A : Option Addr) (l : List α) : Prop :=
  0 < l.length → ∃ b off : Nat, A = some ⟨b, off, none⟩ ∧ b < B ∧ ∀ (i : Nat) (v : α), l[i]? = some v → ∀ (j : Nat) (u : Value), (cells v)[j]? = some u → w.cell? ⟨b, off + i * z + j, none⟩ = some u

section
variable {α : Type} {cells : α → List Value} {z : Nat} {w w' : World} {B B' : Nat} {A : Option Addr} {l : List α}
theorem Recs.at_ (h : Recs cells z w B A l) {k : Nat} (hk : k < l.length) :
    ∃ b off : Nat, A = some ⟨b, off, none⟩ ∧ b < B ∧ ∀ (j : Nat) (u : Value), (cells l[k])[j]? = some u → w.cell? ⟨b, off + k * z + j, none⟩ = some u := by
  obtain ⟨b, off, e, hb, hc⟩ := h (by omega)
  exact ⟨b, off, e, hb, hc k l[k] (by simp [hk])⟩
theorem Recs.below (h : Recs cells z w B A l) (hb : Below B w w') : Recs cells z w' B A l := by
  intro hl
  obtain ⟨b, off, e, hB, hc⟩ := h hl
  exact ⟨b, off, e, hB, fun i v hi j u hj => (hb.cell hB).trans (hc i v hi j u hj)⟩
theorem Recs.more (h : Recs cells z w B A l) (hB : B ≤ B') : Recs cells z w B' A l := by
  intro hl
  obtain ⟨b, off, e, hb, hc⟩ := h hl
  exact ⟨b, off, e, by omega, hc⟩
theorem Recs.nil_ : Recs cells z w B A [] := fun h => by simp at h

theorem flat_get (hz : ∀ v, (cells v).length = z) : ∀ (l : List α) (i j : Nat) (v : α), l[i]? = some v → j < z → (l.flatMap cells)[i * z + j]? = (cells v)[j]?
  | [], i, j, v, h, _ => by simp at h
  | a :: l, 0, j, v, h, hj => by
    simp at h
    subst h
    rw [List.flatMap_cons, Nat.zero_mul, Nat.zero_add, List.getElem?_append_left (by rw [hz]; exact hj)]
  | a :: l, i + 1, j, v, h, hj => by
    rw [List.flatMap_cons, List.getElem?_append_right (by rw [hz, Nat.succ_mul]; omega), hz, show (i + 1) * z + j - z = i * z + j by rw [Nat.succ_mul]; omega]
    exact flat_get hz l i j v (by simpa using h) hj
theorem flat_len (hz : ∀ v, (cells v).length = z) (l : List α) : (l.flatMap cells).length = l.length * z := by
  induction l with
  | nil => simp
  | cons a l ih => rw [List.flatMap_cons, List.length_append, ih, hz, List.length_cons, Nat.succ_mul]; omega
theorem flat_one (l : List α) (a : α) : (l ++ [a]).flatMap cells = l.flatMap cells ++ cells a := by rw [List.flatMap_append]; simp

/-- What the call itself has appended. -/
theorem Recs.of_own (hz : ∀ v, (cells v).length = z) {n base : Nat} {e : TypeId} {v : Value} (hn : l.length = n) (h : w.ownsRow base e z v n (l.flatMap cells)) : ∃ A cap, v = .slice A n cap ∧ n ≤ cap ∧ Recs cells z w w.heap.size A l := by
  subst hn
  obtain ⟨_, h2⟩ := h
  rcases h2 with ⟨rfl, hn⟩ | ⟨g, cap, cur, rfl, _, hh, hnc, _, _, ht⟩
  · exact ⟨none, 0, by rw [hn], by omega, fun h => by omega⟩
  · refine ⟨_, cap, rfl, hnc, fun _ => ⟨g, 0, rfl, (Array.getElem?_eq_some_iff.1 hh).1, fun i v hi j u hj => ?_⟩⟩
    have hi' : i < l.length := (List.getElem?_eq_some_iff.1 hi).1
    have hjz : j < z := by rw [← hz v]; exact (List.getElem?_eq_some_iff.1 hj).1
    have hk : (l.flatMap cells)[i * z + j]? = some u := by rw [flat_get hz l i j v hi hjz]; exact hj
    have hb : i * z + j < l.length * z := by
      have : (i + 1) * z ≤ l.length * z := Nat.mul_le_mul_right _ hi'
      rw [Nat.succ_mul] at this
      omega
    rw [← ht, List.getElem?_take_of_lt hb] at hk
    rw [Nat.zero_add]
    simp only [World.cell?, hh]
    simpa using hk
end

section
variable {H : Type} {enc : TypeId × Value → H} {P : Program}
/-- A slice among the arguments, opened; hd: what one record's cells are. -/
theorem open_recs {α : Type} {cells : α → List Value} {z : Nat} {Q : α → Prop} {W : World} {n : Nat} {t e : TypeId} {v : Value} {x : DataW H × List MemPlace} (ht : P.underlying t = some (.slice e)) (hE : P.cellsOf e = z) (hz0 : 0 < z) (hz : ∀ v, (cells v).length = z)
    (hd : ∀ (m : Nat) (sp : Nat → Bool) (held : Bool) (cs : List Value) (y : DataW H × List MemPlace), DataW.trod enc P W 0 sp held m e cs = some y → cs.length = z → ∃ b : α, cs = cells b ∧ Q b)
    (h : DataW.trod enc P W 0 (fun _ => true) true n t [v] = some x) :
    ∃ (A : Option Addr) (len cap : Nat) (l : List α), v = .slice A len cap ∧ l.length = len ∧ len ≤ 9223372036854775807 ∧ len ≤ cap ∧ (A = none → cap = 0) ∧ Recs cells z W W.heap.size A l ∧ ∀ a ∈ l, Q a := by
  rcases open_slice ht h with ⟨hcs, _⟩ | ⟨a, len, cap, m, k, D, Pl, hcs, _, hlc, hm, hmm, _, hel⟩
  · simp only [List.cons.injEq, and_true] at hcs
    exact ⟨none, 0, 0, [], hcs, rfl, by omega, by omega, fun _ => rfl, fun h => by simp at h, by simp⟩
  · simp only [List.cons.injEq, and_true] at hcs
    simp only [if_true] at hmm
    rw [hE] at hel
    have hel' : ∀ i, i < len → ∃ b : α, W.cells? 0 (a.add (i * z)) z = some (cells b) ∧ Q b := fun i hi' => by
      obtain ⟨cs', hc, hdd⟩ := hel i (by omega)
      obtain ⟨b, rfl, hw⟩ := hd _ _ _ _ _ hdd (World.cells?_some hc).2.1
      exact ⟨b, hc, hw⟩
    have hex : ∀ k, k ≤ len → ∃ l : List α, l.length = k ∧ ∀ (i : Nat) (b : α), l[i]? = some b → W.cells? 0 (a.add (i * z)) z = some (cells b) ∧ Q b := by
      intro k
      induction k with
      | zero => intro _; exact ⟨[], rfl, by simp⟩
      | succ k ih =>
        intro hk
        obtain ⟨l, hl, hp⟩ := ih (by omega)
        obtain ⟨b, hb⟩ := hel' k (by omega)
        refine ⟨l ++ [b], by simp [hl], fun i c hc => ?_⟩
        rcases Nat.lt_or_ge i l.length with hlt | hge
        · rw [List.getElem?_append_left hlt] at hc; exact hp i c hc
        · rw [List.getElem?_append_right hge] at hc
          have : i = k := by
            rcases Nat.lt_or_ge (i - l.length) 1 with h | h
            · omega
            · rw [List.getElem?_eq_none (by simpa using h)] at hc; cases hc
          subst this
          rw [hl, Nat.sub_self] at hc
          have : b = c := by simpa using hc
          subst this
          exact hb
    obtain ⟨l, hl, hp⟩ := hex len (Nat.le_refl _)
    refine ⟨some a, len, cap, l, hcs, hl, by unfold maxLen at hm; omega, by omega, (fun h => (by cases h)), fun hpos => ?_, fun b hb => ?_⟩
    · have h0 : ∃ c, W.cell? a = some c := by
        have := (World.cells?_some (hp 0 l[0] (by simp [hpos])).1).2.2 0 (by omega)
        simp only [Nat.zero_mul] at this
        have e : (a.add 0).add 0 = a := by simp [Addr.add]
        rw [e] at this
        exact ⟨_, this.trans (List.getElem?_eq_getElem (by rw [hz]; exact hz0))⟩
      obtain ⟨c0, hc0⟩ := h0
      obtain ⟨ab, ao, asp⟩ := a
      have hsp : asp = none := by
        cases asp with
        | none => rfl
        | some s => simp [World.cell?] at hc0; split at hc0 <;> simp_all
      subst hsp
      refine ⟨ab, ao, rfl, World.block_lt_of_cell? W _ hc0, fun i b hi j u hj => ?_⟩
      obtain ⟨_, _, hat⟩ := World.cells?_some (hp i b hi).1
      have add_eq : ∀ i j : Nat, ((⟨ab, ao, none⟩ : Addr).add i).add j = ⟨ab, ao + i + j, none⟩ := fun i j => by
        unfold Addr.add; by_cases h1 : i = 0 <;> by_cases h2 : j = 0 <;> simp [h1, h2]
      have hjz : j < z := by rw [← hz b]; exact (List.getElem?_eq_some_iff.1 hj).1
      have k0 := hat j hjz
      rw [add_eq] at k0
      rw [k0]
      exact hj
    · obtain ⟨i, hi, rfl⟩ := List.mem_iff_getElem.1 hb
      exact (hp i l[i] (by simp [hi])).2

/-- Two int fields, one behind the other. -/
theorem cells_two {W : World} {base : Nat} {sp : Nat → Bool} {held : Bool} {n : Nat} {t ti : TypeId} {f0 f1 : Field} {cs : List Value} {x : DataW H × List MemPlace} (ht : P.underlying t = some (.struct #[f0, f1])) (hi : P.underlying ti = some (.int .i64))
    (e0 : f0.type = ti ∧ f0.offset = 0) (e1 : f1.type = ti ∧ f1.offset = 1) (hC : P.cellsOf ti = 1) (h : DataW.trod enc P W base sp held n t cs = some x) (hl : cs.length = 2) :
    ∃ a b : Int, cs = [.int .i64 a, .int .i64 b] ∧ (Lit.int .i64 a).wf = true ∧ (Lit.int .i64 b).wf = true := by
  obtain ⟨ys, m, _, _, _, _, hf⟩ := DataW.trod_struct ht h
  match cs, hl with
  | [a, b], _ =>
    have h0 := hf 0 f0 rfl
    have h1 := hf 1 f1 rfl
    rw [e0.1, e0.2, hC] at h0
    rw [e1.1, e1.2, hC] at h1
    simp only [List.drop_zero, List.take_succ_cons, List.take_zero, List.drop_succ_cons] at h0 h1
    have l2 : ys.length = 2 := by simp_all
    match ys, l2 with
    | [y0, y1], _ =>
      obtain ⟨x, rfl, w0⟩ := cell_int hi h0
      obtain ⟨y, rfl, w1⟩ := cell_int hi h1
      exact ⟨x, y, rfl, w0, w1⟩
theorem wf_i64 {x : Int} (h : (Lit.int .i64 x).wf = true) : -9223372036854775808 ≤ x ∧ x ≤ 9223372036854775807 := by
  simp [Lit.wf, IntKind.min, IntKind.max, IntKind.signed, IntKind.bits] at h
  omega
theorem wf_u8 {x : Int} (h : (Lit.int .u8 x).wf = true) : 0 ≤ x ∧ x ≤ 255 := by
  simp [Lit.wf, IntKind.min, IntKind.max, IntKind.signed, IntKind.bits] at h
  omega
end

section
variable {P : Program}
/-- append of a slice that reads as l: nil, empty or not. -/
theorem wpList_append_recs {ops : Array Oper} {rest : List Oper} {o : Oper} {a : Act} {w : World} {Q : Exit → Act → World → Prop} (hgd : o.guard = none) (s x : Operand) (t : TypeId)
    (ho : o.op = .call { callee := .builtin .append, args := #[s, x], argTypes := #[t, t] })
    (base : Nat) (e : TypeId) (i : TypeInfo) (z : Value) (size bytes : Nat) (ht : P.underlying t = some (.slice e)) (hi : P.info? e = some i) (hz : i.zero = some z)
    (hsize : i.size = size) (hby : i.bytes = bytes) (hzs : z.cells.size = size) (hsz : 0 < size)
    (v : Value) (n : Nat) (xs : List Value) (hs : a.eval s = v) (hown : w.ownsRow base e size v n xs)
    {α : Type} {cells : α → List Value} (hcl : ∀ b, (cells b).length = size) (h1 : ∀ b, ∀ u ∈ cells b, u.oneCell' = true) {B : Nat} {A : Option Addr} {m c : Nat} {l : List α} (hx : a.eval x = .slice A m c) (hA : A = none → c = 0) (hm : l.length = m)
    (hr : Recs cells size w B A l) (h63 : n + m ≤ maxLen) (hbytes : (n + m) * bytes ≤ 140737488355328) (hbase : base ≤ w.heap.size)
    (h : ∀ v' w', w'.ownsRow base e size v' (n + m) (xs ++ l.flatMap cells) → w.grownBy w' v.ownBlock → wpList P ops Q rest (a.put o.dst v') w') : wpList P ops Q (o :: rest) a w := by
  cases A with
  | none =>
    have hc := hA rfl
    have hl : l = [] := by
      cases l with
      | nil => rfl
      | cons b l =>
        obtain ⟨_, _, e, _⟩ := hr (by simp)
        cases e
    subst hl
    have hm0 : m = 0 := by rw [← hm]; rfl
    subst hm0
    subst hc
    exact wpList_append_own_none hgd s x t ho base e i size ht hi v n xs hs hown hx (h v w (by simpa using hown) (World.grownBy.refl w _))
  | some ad =>
    refine wpList_append_own _ hgd s x t ho base e i z size bytes ht hi hz hsize hby hzs hsz v n xs hs hown ad m c (l.flatMap cells) hx (by rw [flat_len hcl, hm]) ?_ ?_ h63 hbytes hbase (fun v' w' k1 k2 _ => h v' w' k1 k2)
    · intro j u hj
      have hjl : j < l.length * size := by rw [← flat_len hcl l]; exact (List.getElem?_eq_some_iff.1 hj).1
      have hpos : 0 < l.length := by
        rcases Nat.eq_zero_or_pos l.length with h0 | h0
        · rw [h0] at hjl; omega
        · exact h0
      obtain ⟨b, off, e, -, hat⟩ := hr hpos
      injection e with e
      subst e
      have hq : j / size < l.length := Nat.div_lt_of_lt_mul (by rw [Nat.mul_comm]; exact hjl)
      have hr' : j % size < size := Nat.mod_lt _ hsz
      have hdm : j / size * size + j % size = j := by rw [Nat.mul_comm]; exact Nat.div_add_mod _ _
      have hgi : l[j / size]? = some l[j / size] := by simp [hq]
      have hget := flat_get hcl l (j / size) (j % size) l[j / size] hgi hr'
      rw [hdm, hj] at hget
      have := hat (j / size) l[j / size] hgi (j % size) u hget.symm
      rw [show off + j / size * size + j % size = off + j by omega] at this
      have ea : (⟨b, off, none⟩ : Addr).add j = ⟨b, off + j, none⟩ := by unfold Addr.add; by_cases h0 : j = 0 <;> simp [h0]
      rw [ea]
      exact this
    · intro u hu
      obtain ⟨b, -, hb⟩ := List.mem_flatMap.1 hu
      exact h1 b u hb
end
end Go.Rel
