/- Texts put together: ParA, ValR, ParB. -/
import Derived.Test.YtjgampkpfjbmdaaDoorPack14
import Derived.Test.YtjgampkpfjbmdaaDoorPack12
import Derived.Test.YtjgampkpfjbmdaaDoorPack01
import Derived.Test.YtjgampkpfjbmdaaDoorPack11
import Derived.Shelf.Strings.BuilderRune
section
/- The reading of a value (plain Lean, no program). -/
namespace Go.Rel
open Go.RowKit
/-- t taken off the front. -/
def skipL (t l : Bs) : Option Bs := if t.isPrefixOf l = true then some (l.drop t.length) else none
/-- A string behind its first quotation mark: what was read, the rest, whether it went well. -/
def quotL : Bs → Bs → Bs × Bs × Bool
  | [], _ => ([], [], false)
  | c :: r, acc =>
    if c = 34 then (acc, r, true)
    else if c = 92 then
      match r with
      | [] => ([], [], false)
      | d :: r2 => if d = 34 ∨ d = 92 then quotL r2 (acc ++ [d]) else ([], d :: r2, false)
    else quotL r (acc ++ [c])
def isDig (c : UInt8) : Bool := decide (47 ≤ c.toNat ∧ c.toNat ≤ 57 ∨ c.toNat = 45)
def ratT (q : Rat2) : Tree := .node 1 q false ⟨#[]⟩ []
def numV (l : Bs) (ok : Bool) : Tree × Bs × Bool := (ratT (parseR (l.takeWhile isDig)), l.dropWhile isDig, ok && decide (parseE (l.takeWhile isDig) = 0))
/-- The elements of a list. -/
def loopL (f : Bs → Tree × Bs × Bool) : Nat → List Tree → Bs → List Tree × Bs × Bool
  | 0, acc, l => (acc, l, false)
  | n + 1, acc, l =>
    match skipL [44, 32] (f l).2.1 with
    | some r2 => if (f l).2.2 = true then loopL f n (acc ++ [(f l).1]) r2 else (acc ++ [(f l).1], r2, false)
    | none => (acc ++ [(f l).1], (f l).2.1, (f l).2.2)
def listV (f : Bs → Tree × Bs × Bool) (l : Bs) : Tree × Bs × Bool :=
  match skipL [93] (loopL f (l.length + 1) [] l).2.1 with
  | some r2 => (tList (loopL f (l.length + 1) [] l).1, r2, (loopL f (l.length + 1) [] l).2.2)
  | none => (tList (loopL f (l.length + 1) [] l).1, (loopL f (l.length + 1) [] l).2.1, false)
/-- A value of at most so great a depth. -/
def valueL : Nat → Bs → Tree × Bs × Bool
  | 0, l => numV l false
  | d + 1, l =>
    match skipL [116, 114, 117, 101] l with
    | some r => (tBool true, r, true)
    | none =>
      match skipL [102, 97, 108, 115, 101] l with
      | some r => (tBool false, r, true)
      | none =>
        match skipL [34] l with
        | some r => (tStr (str (quotL r []).1), (quotL r []).2.1, (quotL r []).2.2)
        | none =>
          match skipL [91, 93] l with
          | some r => (tList [], r, true)
          | none =>
            match skipL [91] l with
            | some r => listV (valueL d) r
            | none => numV l true
theorem skipL_len {t l r : Bs} (h : skipL t l = some r) : r.length + t.length = l.length := by
  unfold skipL at h
  split at h
  · rename_i hp
    have := (List.isPrefixOf_iff_prefix.1 hp).length_le
    injection h with h
    rw [← h, List.length_drop]; omega
  · cases h
theorem quotL_len : ∀ (n : Nat) (l acc : Bs), l.length ≤ n → (quotL l acc).2.1.length ≤ l.length
  | 0, l, acc, h => by
    obtain rfl : l = [] := List.length_eq_zero_iff.1 (by omega)
    simp [quotL]
  | n + 1, [], acc, h => by simp [quotL]
  | n + 1, c :: r, acc, h => by
    simp only [List.length_cons] at h
    rw [quotL.eq_def]
    dsimp only
    split
    · simp
    split
    · cases r with
      | nil => simp
      | cons d r2 =>
        dsimp only
        simp only [List.length_cons] at h
        split
        · have := quotL_len n r2 (acc ++ [d]) (by omega)
          simp only [List.length_cons]; omega
        · simp
    · have := quotL_len n r (acc ++ [c]) (by omega)
      simp only [List.length_cons]; omega
theorem quotL_out : ∀ (n : Nat) (l acc : Bs), l.length ≤ n → (quotL l acc).1.length ≤ acc.length + l.length
  | 0, l, acc, h => by
    obtain rfl : l = [] := List.length_eq_zero_iff.1 (by omega)
    simp [quotL]
  | n + 1, [], acc, h => by simp [quotL]
  | n + 1, c :: r, acc, h => by
    simp only [List.length_cons] at h
    rw [quotL.eq_def]
    dsimp only
    split
    · simp
    split
    · cases r with
      | nil => simp
      | cons d r2 =>
        dsimp only
        simp only [List.length_cons] at h
        split
        · have := quotL_out n r2 (acc ++ [d]) (by omega)
          simp only [List.length_cons, List.length_append, List.length_nil] at this ⊢; omega
        · simp
    · have := quotL_out n r (acc ++ [c]) (by omega)
      simp only [List.length_cons, List.length_append, List.length_nil] at this ⊢; omega
theorem numV_len (l : Bs) (ok : Bool) : (numV l ok).2.1.length ≤ l.length := (List.dropWhile_sublist _).length_le
theorem loopL_len (f : Bs → Tree × Bs × Bool) (hf : ∀ l, (f l).2.1.length ≤ l.length) : ∀ (n : Nat) (acc : List Tree) (l : Bs), (loopL f n acc l).2.1.length ≤ l.length
  | 0, acc, l => Nat.le_refl _
  | n + 1, acc, l => by
    have h1 := hf l
    rw [loopL]
    split
    · rename_i r2 he
      have h2 := skipL_len he
      split
      · have := loopL_len f hf n (acc ++ [(f l).1]) r2
        simp only [List.length_cons, List.length_nil] at h2
        omega
      · dsimp only; omega
    · exact h1
theorem listV_len (f : Bs → Tree × Bs × Bool) (hf : ∀ l, (f l).2.1.length ≤ l.length) (l : Bs) : (listV f l).2.1.length ≤ l.length := by
  have h1 := loopL_len f hf (l.length + 1) [] l
  unfold listV
  split
  · rename_i r2 he
    have := skipL_len he
    dsimp only; omega
  · exact h1
theorem valueL_len : ∀ (d : Nat) (l : Bs), (valueL d l).2.1.length ≤ l.length
  | 0, l => numV_len l false
  | d + 1, l => by
    rw [valueL]
    split
    · rename_i r he; have := skipL_len he; dsimp only; omega
    split
    · rename_i r he; have := skipL_len he; dsimp only; omega
    split
    · rename_i r he
      have := skipL_len he
      have := quotL_len r.length r [] (Nat.le_refl _)
      dsimp only; omega
    split
    · rename_i r he; have := skipL_len he; dsimp only; omega
    split
    · rename_i r he
      have := skipL_len he
      have := listV_len (valueL d) (valueL_len d) r
      omega
    · exact numV_len l true
/-- What is read is not too wide. -/
theorem loopL_wide (f : Bs → Tree × Bs × Bool) (d : Nat) (hf : ∀ l, l.length ≤ 5000 → wideT (f l).1 d = true) (hl : ∀ l, (f l).2.1.length ≤ l.length) : ∀ (n : Nat) (acc : List Tree) (l : Bs), l.length ≤ 5000 → (∀ x ∈ acc, wideT x d = true) → acc.length + l.length ≤ 4999 → (loopL f n acc l).1.length ≤ acc.length + l.length + 1 ∧ ∀ x ∈ (loopL f n acc l).1, wideT x d = true
  | 0, acc, l, h, ha, hs => ⟨by show acc.length ≤ _; omega, ha⟩
  | n + 1, acc, l, h, ha, hs => by
    have h1 := hl l
    have h3 : ∀ x ∈ acc ++ [(f l).1], wideT x d = true := fun x hx => by
      rcases List.mem_append.1 hx with hx | hx
      · exact ha x hx
      · rw [List.mem_singleton.1 hx]; exact hf l h
    rw [loopL]
    split
    · rename_i r2 he
      have h2 := skipL_len he
      simp only [List.length_cons, List.length_nil] at h2
      split
      · have := loopL_wide f d hf hl n (acc ++ [(f l).1]) r2 (by omega) h3 (by simp only [List.length_append, List.length_cons, List.length_nil]; omega)
        simp only [List.length_append, List.length_cons, List.length_nil] at this
        exact ⟨by omega, this.2⟩
      · exact ⟨by simp only [List.length_append, List.length_cons, List.length_nil]; omega, h3⟩
    · exact ⟨by simp only [List.length_append, List.length_cons, List.length_nil]; omega, h3⟩
theorem wide_leaf (k : Int) (q : Rat2) (t : Bool) (s : ByteArray) (d : Nat) (h : s.size ≤ 5000) : wideT (.node k q t s []) (d + 1) = true := wide_node h (by simp) (fun _ h => by simp at h)
theorem listV_fst (f : Bs → Tree × Bs × Bool) (l : Bs) : (listV f l).1 = tList (loopL f (l.length + 1) [] l).1 := by
  unfold listV; split <;> rfl
theorem valueL_wide : ∀ (d : Nat) (l : Bs), l.length ≤ 4999 → wideT (valueL d l).1 (d + 1) = true
  | 0, l, h => wide_leaf _ _ _ _ _ (by decide)
  | d + 1, l, h => by
    rw [valueL]
    split
    · exact wide_leaf _ _ _ _ _ (by decide)
    split
    · exact wide_leaf _ _ _ _ _ (by decide)
    split
    · rename_i r he
      have := skipL_len he
      have := quotL_out r.length r [] (Nat.le_refl _)
      refine wide_leaf _ _ _ _ _ ?_
      rw [str_size]
      simp only [List.length_nil] at this
      omega
    split
    · exact wide_leaf _ _ _ _ _ (by decide)
    split
    · rename_i r he
      have h1 := skipL_len he
      simp only [List.length_cons, List.length_nil] at h1
      have hcut : ∀ l : Bs, l.length ≤ 4999 → wideT (valueL d l).1 (d + 1) = true := valueL_wide d
      rw [listV_fst]
      have := loopL_wide (fun l => if l.length ≤ 4999 then valueL d l else (tBool true, l, true)) (d + 1) (fun l _ => if h : l.length ≤ 4999 then by rw [if_pos h]; exact hcut l h else by rw [if_neg h]; exact wide_leaf _ _ _ _ _ (by decide)) (fun l => if h : l.length ≤ 4999 then by rw [if_pos h]; exact valueL_len d l else by rw [if_neg h]; exact Nat.le_refl _) (r.length + 1) [] r (by omega) (by simp) (by simp; omega)
      have hq : ∀ (n : Nat) (acc : List Tree) (l : Bs), l.length ≤ 4999 → loopL (fun l => if l.length ≤ 4999 then valueL d l else (tBool true, l, true)) n acc l = loopL (valueL d) n acc l := by
        intro n
        induction n with
        | zero => intro acc l _; rfl
        | succ n ih =>
          intro acc l hl
          rw [loopL, loopL, if_pos hl]
          cases hs : skipL [44, 32] (valueL d l).2.1 with
          | none => rfl
          | some r2 =>
            dsimp only
            have h2 := skipL_len hs
            have h3 := valueL_len d l
            rw [ih _ _ (by omega)]
      rw [hq _ _ _ (by omega)] at this
      refine wide_node (by decide) ?_ this.2
      have h9 := this.1
      have h8 : ([] : List Tree).length = 0 := rfl
      omega
    · exact wide_leaf _ _ _ _ _ (by decide)
/-- Parse, whole. -/
def parseVT (l : Bs) : Tree := if (valueL 6 l).2.2 = true ∧ (valueL 6 l).2.1 = [] ∧ chkT (valueL 6 l).1 = 0 ∧ l.length ≤ 4000 then (valueL 6 l).1 else Tree.none_
def parseVE (l : Bs) : Int := if (valueL 6 l).2.2 = true ∧ (valueL 6 l).2.1 = [] ∧ chkT (valueL 6 l).1 = 0 ∧ l.length ≤ 4000 then 0 else 12
end Go.Rel
end
section
/- strings.Builder: copyCheck, WriteByte, WriteString, WriteRune. -/
namespace Go.Rel
open Go.RowKit
/-- What a writing method leaves: the builder in block b holds bs; all below B stays, and all that is neither the builder nor a row of bytes. -/
def Wrote (T e : TypeId) (B b : Nat) (bs : List Value) (w w' : World) : Prop :=
  Lib.BuilderAtF T e B b (.pointer (some ⟨b, 0, none⟩)) bs w' ∧ Below B w w' ∧ Lib.OthersKept e (some b) w w'
end Go.Rel
namespace Go.Proofs.YtjgampkpfjbmdaaDoor
open Go.RowKit Go.Rel
set_option maxHeartbeats 1000000
set_option maxRecDepth 100000
theorem copyCheck_used (b : Nat) (w : World) (h0 : w.cell? ⟨b, 0, none⟩ = some (.pointer (some ⟨b, 0, none⟩))) :
    Calls Tryd.prog 80 #[.pointer (some ⟨b, 0, none⟩)] w fun e w' => e = .returned (.tuple #[]) ∧ w' = w := by
  obtain ⟨j, hj, _⟩ := Option.map_eq_some_iff.1 Tryd.Builder_Extra_169.sizeBuilder
  go_enter Tryd.func80, Tryd.ntmps80
  go_wp2
  rw [Lib.run_neq_ptr_same w _ Tryd.underlying67 hj]
  go_wp2
  go_end0
  exact ⟨rfl, rfl⟩
theorem copyCheck_fresh (b : Nat) (w : World) (h0 : w.cell? ⟨b, 0, none⟩ = some (.pointer none)) (hsh : w.shape? b = some (70, 2)) (hfz : w.frozen? ⟨b, 0, none⟩ = false) :
    Calls Tryd.prog 80 #[.pointer (some ⟨b, 0, none⟩)] w fun e w' => e = .returned (.tuple #[]) ∧ w' = w.setCell ⟨b, 0, none⟩ (.pointer (some ⟨b, 0, none⟩)) := by
  obtain ⟨j, hj, hjs⟩ := Option.map_eq_some_iff.1 Tryd.Builder_Extra_169.sizeBuilder
  go_enter Tryd.func80, Tryd.ntmps80
  go_wp2
  rw [Lib.run_to_unsafe w ⟨b, 0, none⟩ Tryd.underlying67 Tryd.underlying126 hj (by rw [hjs]; decide) hsh (Nat.zero_lt_succ 1)]
  simp only [Result.andThen]
  rw [Oper.upon_value]
  go_wp2
  rw [run_callFunc_extern Tryd.func93 (by kernel_rfl) (by kernel_rfl) (by kernel_rfl) (e := Extern.AbiNoEscape.same) (by kernel_rfl)]
  rw [Lib.run_noEscape]
  simp only [Result.andThen]
  rw [Oper.upon_value]
  go_wp2
  rw [Lib.run_from_unsafe w ⟨b, 0, none⟩ Tryd.underlying126 Tryd.underlying67 hj hsh Tryd.Builder_Extra_169.liesBuilder]
  simp only [Result.andThen]
  rw [Oper.upon_value]
  go_wp2
  go_end0
  exact ⟨rfl, rfl⟩
theorem copyCheck_any (B b : Nat) (bs : List Value) (w : World) (h : Lib.IsBuilderF 70 5 B b bs w) :
    Calls Tryd.prog 80 #[.pointer (some ⟨b, 0, none⟩)] w fun e w' => e = .returned (.tuple #[]) ∧ Wrote 70 5 B b bs w w' := by
  rcases h with h | h
  · refine (copyCheck_fresh b w h.cell0 h.shape h.frozen0).mono ?_
    rintro e w' ⟨rfl, rfl⟩
    exact ⟨rfl, h.used _, (Below.refl B w).setCell (p := ⟨b, 0, none⟩) h.1 _, (Lib.OthersKept.refl _ _ w).setCell ⟨b, 0, none⟩ rfl _⟩
  · refine (copyCheck_used b w h.cell0).mono ?_
    rintro e w' ⟨rfl, rfl⟩
    exact ⟨rfl, h, Below.refl B _, Lib.OthersKept.refl _ _ _⟩
set_option maxHeartbeats 2000000 in
theorem writeByte_any (B b : Nat) (bs : List Value) (c : Int) (w : World) (h : Lib.IsBuilderF 70 5 B b bs w) (hlen : bs.length + 1 ≤ 140737488355328) (hBw : B ≤ w.heap.size) :
    Calls Tryd.prog 60 #[.pointer (some ⟨b, 0, none⟩), .int .u8 c] w fun e w' => e = .returned .nilIface ∧ Wrote 70 5 B b (bs ++ [.int .u8 c]) w w' := by
  obtain ⟨i0, hi, hz0, hz1, hz2⟩ := info_parts Tryd.Builder_Extra_169.infoByte
  go_enter Tryd.func60, Tryd.ntmps60
  go_wp2_with fail
  refine (copyCheck_any B b bs _ h).mono ?_
  rintro e w1 ⟨rfl, h1, hb1, hk1⟩
  obtain ⟨hB, v, hbk, hown, hne⟩ := h1
  have c0 : w1.cell? ⟨b, 0, none⟩ = some (.pointer (some ⟨b, 0, none⟩)) := by rw [Lib.cell_of_heap hbk]; rfl
  have c1 : w1.cell? ⟨b, 1, none⟩ = some v := by rw [Lib.cell_of_heap hbk]; rfl
  go_wp2_with (at_builtin; refine wpList_append_ownF _ rfl _ _ 68 rfl B 5 i0 (.int .u8 0) 1 1 Tryd.underlying68 hi hz0 hz1 hz2 rfl (by decide) _ _ _ rfl (hown.alloc _) ⟨w1.heap.size, 0, none⟩ 1 1 [.int .u8 c] rfl rfl ?c1 ?c2 ?c3 ?c4 ?c5 ?_)
  case c1 =>
    intro j u hj
    match j, hj with
    | 0, hj => simp at hj; subst hj; simp [Addr.add]
  case c2 => intro u hu; simp at hu; subst hu; rfl
  case c3 => unfold maxLen; omega
  case c4 => omega
  case c5 => have := hb1.size; simp; omega
  intro v' w2 hown' hgrow _
  have hlt : b < w1.heap.size := by
    rcases Nat.lt_or_ge b w1.heap.size with h' | h'
    · exact h'
    · simp [Array.getElem?_eq_none h'] at hbk
  have hb2 : w2.heap[b]? = some (.cells #[.pointer (some ⟨b, 0, none⟩), v] 70 (0, 0)) := by
    rw [hgrow.block b (by simp; omega) (fun e => hne e.symm), Lib.alloc_old w1 _ b hlt]
    exact hbk
  have d0 : w2.cell? ⟨b, 0, none⟩ = some (.pointer (some ⟨b, 0, none⟩)) := by rw [Lib.cell_of_heap hb2]; rfl
  have d1 : w2.cell? ⟨b, 1, none⟩ = some v := by rw [Lib.cell_of_heap hb2]; rfl
  have f1 : w2.frozen? ⟨b, 1, none⟩ = false := Lib.frozen_of_heap hb2 1
  obtain ⟨g, cap, rfl⟩ : ∃ g cap, v' = .slice (some ⟨g, 0, none⟩) (bs.length + 1) cap := by
    rcases hown'.2 with ⟨_, h0⟩ | ⟨g, cap, cur, fz, hv, _⟩
    · omega
    · exact ⟨g, cap, hv⟩
  go_wp2
  go_ret
  refine ⟨rfl, ?_, ?_, ((hk1.alloc _).grown hgrow (Lib.ownsRowF_kind (hown.alloc _))).setCell ⟨b, 1, none⟩ rfl _⟩
  · exact Lib.BuilderAtF.put (T := 70) (e := 5) hB hb2 (bs' := bs ++ [.int .u8 c]) (by simpa using hown') Tryd.Builder_Extra_169.neB5
  · exact ((hb1.alloc (by have := hb1.size; omega) _).grown hgrow (by have := hb1.size; simp; omega) (fun k hk => (hown.lt k hk).1)).setCell (p := ⟨b, 1, none⟩) hB _
set_option maxHeartbeats 2000000 in
theorem writeString_any (B b : Nat) (bs : List Value) (s : ByteArray) (w : World) (h : Lib.IsBuilderF 70 5 B b bs w) (hlen : bs.length + s.size ≤ 140737488355328) (hBw : B ≤ w.heap.size) :
    Calls Tryd.prog 59 #[.pointer (some ⟨b, 0, none⟩), .string s] w fun e w' => e = .returned (.tuple #[.int .i64 s.size, .nilIface]) ∧ Wrote 70 5 B b (bs ++ Lib.strCells s) w w' := by
  obtain ⟨i0, hi, hz0, hz1, hz2⟩ := info_parts Tryd.Builder_Extra_169.infoByte
  go_enter Tryd.func59, Tryd.ntmps59
  go_wp2_with fail
  refine (copyCheck_any B b bs _ h).mono ?_
  rintro e w1 ⟨rfl, h1, hb1, hk1⟩
  obtain ⟨hB, v, hbk, hown, hne⟩ := h1
  have c0 : w1.cell? ⟨b, 0, none⟩ = some (.pointer (some ⟨b, 0, none⟩)) := by rw [Lib.cell_of_heap hbk]; rfl
  have c1 : w1.cell? ⟨b, 1, none⟩ = some v := by rw [Lib.cell_of_heap hbk]; rfl
  go_wp2_with (at_builtin; refine Lib.wpList_append_own_stringF _ rfl _ _ 68 9 rfl B 5 i0 Tryd.underlying68 Tryd.underlying9 hi hz0 hz1 hz2 _ _ _ rfl hown s rfl ?c3 ?c4 ?c5 ?_)
  case c3 => unfold maxLen; omega
  case c4 => omega
  case c5 => have := hb1.size; omega
  intro v' w2 hown' hgrow _
  have hlt : b < w1.heap.size := by
    rcases Nat.lt_or_ge b w1.heap.size with h' | h'
    · exact h'
    · simp [Array.getElem?_eq_none h'] at hbk
  have hb2 : w2.heap[b]? = some (.cells #[.pointer (some ⟨b, 0, none⟩), v] 70 (0, 0)) := by
    rw [hgrow.block b hlt (fun e => hne e.symm)]
    exact hbk
  have d0 : w2.cell? ⟨b, 0, none⟩ = some (.pointer (some ⟨b, 0, none⟩)) := by rw [Lib.cell_of_heap hb2]; rfl
  have d1 : w2.cell? ⟨b, 1, none⟩ = some v := by rw [Lib.cell_of_heap hb2]; rfl
  have f1 : w2.frozen? ⟨b, 1, none⟩ = false := Lib.frozen_of_heap hb2 1
  obtain ⟨ao, n', cap, rfl⟩ : ∃ ao n' cap, v' = .slice ao n' cap := by
    rcases hown'.2 with ⟨hv, _⟩ | ⟨g, cap, cur, fz, hv, _⟩
    · exact ⟨_, _, _, hv⟩
    · exact ⟨_, _, _, hv⟩
  go_wp2
  go_ret2
  refine ⟨rfl, ?_, ?_, (hk1.grown hgrow (Lib.ownsRowF_kind hown)).setCell ⟨b, 1, none⟩ rfl _⟩
  · exact Lib.BuilderAtF.put (T := 70) (e := 5) hB hb2 (bs' := bs ++ Lib.strCells s) (by simpa [Lib.strCells_length] using hown') Tryd.Builder_Extra_169.neB5
  · exact (hb1.grown hgrow (by have := hb1.size; omega) (fun k hk => (hown.lt k hk).1)).setCell (p := ⟨b, 1, none⟩) hB _
set_option maxHeartbeats 4000000 in
theorem writeRune_any (B b : Nat) (bs : List Value) (r : Int) (hr0 : -2147483648 ≤ r) (hr1 : r ≤ 2147483647) (w : World) (h : Lib.IsBuilderF 70 5 B b bs w) (hlen : bs.length + 4 ≤ 140737488355328) (hBw : B ≤ w.heap.size) :
    Calls Tryd.prog 61 #[.pointer (some ⟨b, 0, none⟩), .int .i32 r] w fun e w' => e = .returned (.tuple #[.int .i64 (Lib.runeCells r).length, .nilIface]) ∧ Wrote 70 5 B b (bs ++ Lib.runeCells r) w w' := by
  have hk4 := Lib.runeCells_le r
  go_enter Tryd.func61, Tryd.ntmps61
  go_wp2_with fail
  refine (copyCheck_any B b bs _ h).mono ?_
  rintro e w1 ⟨rfl, h1, hb1, hk1⟩
  obtain ⟨hB, v, hbk, hown, hne⟩ := h1
  obtain ⟨ao, cap, rfl⟩ : ∃ ao cap, v = .slice ao bs.length cap := by
    rcases hown.2 with ⟨hv, h0⟩ | ⟨g, cap, cur, fz, hv, _⟩
    · exact ⟨none, 0, by rw [hv, h0]⟩
    · exact ⟨_, _, hv⟩
  have c0 : w1.cell? ⟨b, 0, none⟩ = some (.pointer (some ⟨b, 0, none⟩)) := by rw [Lib.cell_of_heap hbk]; rfl
  have c1 : w1.cell? ⟨b, 1, none⟩ = some (.slice ao bs.length cap) := by rw [Lib.cell_of_heap hbk]; rfl
  go_wp2_with fail
  refine (Tryd.utf8_AppendRune_row B _ bs.length bs r hr0 hr1 _ hown hlen (by have := hb1.size; omega)).mono ?_
  rintro e w2 ⟨v', rfl, hown', o, hgrow⟩
  have hlt : b < w1.heap.size := by
    rcases Nat.lt_or_ge b w1.heap.size with h' | h'
    · exact h'
    · simp [Array.getElem?_eq_none h'] at hbk
  have hb2 : w2.heap[b]? = some (.cells #[.pointer (some ⟨b, 0, none⟩), .slice ao bs.length cap] 70 (0, 0)) := by
    rw [hgrow.block b (by simp; omega) (fun e => hne e.symm), Lib.alloc_old w1 _ b hlt]
    exact hbk
  have d0 : w2.cell? ⟨b, 0, none⟩ = some (.pointer (some ⟨b, 0, none⟩)) := by rw [Lib.cell_of_heap hb2]; rfl
  have d1 : w2.cell? ⟨b, 1, none⟩ = some (.slice ao bs.length cap) := by rw [Lib.cell_of_heap hb2]; rfl
  have f1 : w2.frozen? ⟨b, 1, none⟩ = false := Lib.frozen_of_heap hb2 1
  obtain ⟨g, cap', rfl⟩ : ∃ g cap', v' = .slice (some ⟨g, 0, none⟩) (bs.length + (Lib.runeCells r).length) cap' := by
    rcases hown'.2 with ⟨_, h0⟩ | ⟨g, cap', cur, fz, hv, _⟩
    · omega
    · exact ⟨g, cap', hv⟩
  go_wp2
  go_ret2
  refine ⟨?_, ?_, ?_, ((hk1.alloc _).grown hgrow (Lib.ownsRowF_kind (hown.alloc _))).setCell ⟨b, 1, none⟩ rfl _⟩
  · have e : ((bs.length : Int) + ((Lib.runeCells r).length : Int) - (bs.length : Int)) = ((Lib.runeCells r).length : Int) := by omega
    simp [e]
  · exact Lib.BuilderAtF.put (T := 70) (e := 5) hB hb2 (bs' := bs ++ Lib.runeCells r) (by simpa using hown') Tryd.Builder_Extra_169.neB5
  · exact ((hb1.alloc (by have := hb1.size; omega) _).grown hgrow (by have := hb1.size; simp; omega) (fun k hk => (hown.lt k hk).1)).setCell (p := ⟨b, 1, none⟩) hB _
end Go.Proofs.YtjgampkpfjbmdaaDoor
end
section
/- The reader: skip. -/
namespace Go.Rel
open Go.RowKit
/-- A reader in block b. -/
@[reducible] def rdBox (s : ByteArray) (p : Nat) (ok : Bool) : Array Value := #[.string s, .int .i64 p, .bool ok]
def RdAt (w : World) (e : TypeId) (b : Nat) (s : ByteArray) (p : Nat) (ok : Bool) : Prop := Blk w b e (rdBox s p ok)
theorem RdAt.cells {w : World} {e : TypeId} {b : Nat} {s : ByteArray} {p : Nat} {ok : Bool} (h : RdAt w e b s p ok) : w.cell? ⟨b, 0, none⟩ = some (.string s) ∧ w.cell? ⟨b, 1, none⟩ = some (.int .i64 p) ∧ w.cell? ⟨b, 2, none⟩ = some (.bool ok) :=
  ⟨Blk.cell h (i := 0) rfl, Blk.cell h (i := 1) rfl, Blk.cell h (i := 2) rfl⟩
theorem RdAt.setAt {w : World} {e : TypeId} {b : Nat} {s : ByteArray} {p : Nat} {ok : Bool} (h : RdAt w e b s p ok) (q : Nat) : RdAt (w.setCell ⟨b, 1, none⟩ (.int .i64 q)) e b s q ok := by
  have := Blk.set_ h 1 (.int .i64 q)
  exact this
theorem RdAt.setOk {w : World} {e : TypeId} {b : Nat} {s : ByteArray} {p : Nat} {ok : Bool} (h : RdAt w e b s p ok) (q : Bool) : RdAt (w.setCell ⟨b, 2, none⟩ (.bool q)) e b s p q := by
  have := Blk.set_ h 2 (.bool q)
  exact this
theorem RdAt.grown {w w' : World} {e : TypeId} {b : Nat} {s : ByteArray} {p : Nat} {ok : Bool} (h : RdAt w e b s p ok) (hb : Below w.heap.size w w') : RdAt w' e b s p ok := Blk.keep h hb
theorem grown_set (w : World) (a : Addr) (u : Value) : w.grownBy (w.setCell a u) (some a.block) :=
  ⟨rfl, rfl, rfl, by simp, fun k _ hk => Below.heap_setCell _ _ _ _ (fun h => hk (by rw [h]))⟩
theorem grown_below {w w' : World} (h : Below w.heap.size w w') (r : Option Nat) : w.grownBy w' r := ⟨h.os, h.tape, h.output, h.size, fun k hk _ => h.block k hk⟩
end Go.Rel
namespace Go.Proofs.YtjgampkpfjbmdaaDoor
open Go.RowKit Go.Rel
set_option maxRecDepth 100000
theorem tail_list (s : ByteArray) (p : Nat) : (s.extract p s.size).data.toList = s.data.toList.drop p := by
  rw [ByteArray.data_extract, Array.toList_extract]
  exact List.take_of_length_le (by simp)
set_option maxHeartbeats 2000000 in
theorem skip_any (b p : Nat) (s t : ByteArray) (ok : Bool) (w : World) (hr : RdAt w 77 b s p ok) (hp : p ≤ s.size) (hs : s.size ≤ 100000) (ht : t.size ≤ 100000) :
    Calls Tryd.prog 63 #[.pointer (some ⟨b, 0, none⟩), .string t] w fun e w' => e = .returned (.bool (t.data.toList.isPrefixOf (s.data.toList.drop p))) ∧ RdAt w' 77 b s (if t.data.toList.isPrefixOf (s.data.toList.drop p) = true then p + t.size else p) ok ∧ w.grownBy w' (some b) := by
  have a0 : ∀ W, Below w.heap.size w W → W.cell? ⟨b, 0, none⟩ = some (.string s) := fun W hW => (hr.grown hW).cells.1
  have a1 : ∀ W, Below w.heap.size w W → W.cell? ⟨b, 1, none⟩ = some (.int .i64 p) := fun W hW => (hr.grown hW).cells.2.1
  have hp2 : (p : Int) ≤ s.size := by omega
  have hpre := fun W => Tryd.strings_HasPrefix (s.extract p s.size) t W
  rw [tail_list] at hpre
  unfold Lib.hasPrefix at hpre
  have HR := Lib.hid hr
  clear hr
  generalize t.data.toList.isPrefixOf (s.data.toList.drop p) = P at *
  have HP := Lib.hid hpre
  clear hpre
  cases P
  all_goals
    go_enter Tryd.func63, Tryd.ntmps63
    go_wp2_with fail
    apply wp_region_head 12 26 (hm := by kernel_rfl) (hN := rfl)
    case hB => kernel_rfl
    case h =>
      simp only [List.take_succ_cons, List.take_zero]
      iterate 10 (apply head_still rfl; (intro W hW; have q0 := a0 W hW; have q1 := a1 W hW; go_simp; (try rfl)))
      (apply head_call rfl; (intro W; go_simp; exact ⟨rfl, rfl⟩); (intro W hW; exact (HP.out W).mono fun e W' h => ⟨h.1, h.2 ▸ Below.refl _ _⟩))
      (apply head_still rfl; (intro W hW; go_simp; (try rfl)))
      refine head_nil ?_
      intro W hW hF
      have hr2 := HR.out.grown hW
      have HW := Lib.hid (show _ ∧ _ from ⟨hr2, hW⟩)
      obtain ⟨c0, c1, c2⟩ := hr2.cells
      have cf := Blk.frozen hr2
      clear hW hF hr2 a0 a1
      go_wp2_with fail
      first
        | (go_ret; exact ⟨rfl, HW.out.1, grown_below HW.out.2 _⟩)
        | (go_ret
           refine ⟨rfl, (HW.out.1).setAt (p + t.size), (grown_below HW.out.2 _).trans (grown_set W ⟨b, 1, none⟩ _)⟩)
    all_goals rfl
end Go.Proofs.YtjgampkpfjbmdaaDoor
end
