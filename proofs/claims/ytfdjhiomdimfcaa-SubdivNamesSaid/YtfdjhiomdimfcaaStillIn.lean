/- A region that draws its order: a head that only reads, then one operation after the other: inside the wide fence. -/
import Derived.StillTail
import Derived.StillTailTactics
import Derived.OrdersIn
import Derived.TacticsIn
import Derived.RangeFuncCalls
import Derived.Below
namespace Go.Rel
section
variable {m : Nat} {P : Program} {ops : Array Oper} {Q : Exit → Act → World → Prop} {md : Region.Mode} {w : World}
theorem still_wpIn {o : Oper} {a : Act} {K : Act → Prop} {K' : Act → World → Prop} (h : ∀ a', K a' → K' a' w) (hs : o.still P a w K) : o.wpIn Fence.wide m P a w K' Q := by
  unfold Oper.still at hs
  unfold Oper.wpIn
  refine ⟨fun _ _ => trivial, ?_⟩
  have e : Oper.semAt Fence.wide.round a.eval o = execOp a.eval o := rfl
  rw [e]
  generalize (execOp a.eval o).run P w = r at *
  cases r with
  | ok x w' =>
    cases x <;> simp only [Oper.stillUpon, Oper.uponIn] at hs ⊢
    case value v => obtain ⟨rfl, hk⟩ := hs; exact h _ hk
    case skip => obtain ⟨rfl, hk⟩ := hs; exact h _ hk
    case enter f args =>
      obtain ⟨rfl, v, hc, hk⟩ := hs
      refine ⟨fun hd => (by simp [Fence.wide] at hd), callsIn_wide.2 (hc.mono ?_)⟩
      rintro e w'' ⟨rfl, rfl⟩
      exact h _ hk
    all_goals exact hs.elim
  | halt x w' => exact hs.elim
theorem wpOpIn_of_stOp {i : Nat} {a : Act} {K : Act → Prop} {K' : Act → World → Prop} (h : ∀ a, K a → K' a w) (hh : stOp P ops w i K a) : wpOpIn Fence.wide m P ops Q i K' a w := by
  unfold stOp at hh
  unfold wpOpIn
  split
  · rename_i ho; simp only [ho] at hh; exact h _ hh
  · rename_i o ho
    simp only [ho] at hh
    split
    · rename_i hw; simp only [hw, if_true] at hh; exact still_wpIn h hh
    · rename_i hw; simp only [hw] at hh; exact ⟨fun _ _ => trivial, h _ hh⟩
theorem wpAnyIn_of_head {n g : Nat} {L : Array Bool → Act → Prop} (hL : ∀ listed a, L listed a → wpAnyIn Fence.wide m P md ops Q g listed a w) :
    ∀ (f : Nat) (listed : Array Bool) (a : Act), wpAnyL P md ops w n L f listed a → wpAnyIn Fence.wide m P md ops Q (f + g) listed a w
  | 0, listed, a, h => by rw [Nat.zero_add]; exact hL _ _ h
  | f + 1, listed, a, h => by
    rw [show f + 1 + g = (f + g) + 1 by omega]
    exact ⟨fun h0 => absurd h0 h.1, fun i hi => wpOpIn_of_stOp (fun a' h' => wpAnyIn_of_head hL f _ a' h') (h.2 i hi).2⟩
theorem wpAnyIn_of_seq : ∀ (l : List Oper) (k : Nat) (listed : Array Bool) (a : Act) (w : World), (∀ j, l[j]? = ops[k + j]?) →
    Region.seqB md ops l.length k listed = true → wpListIn Fence.wide m P ops Q l a w → wpAnyIn Fence.wide m P md ops Q l.length listed a w
  | [], _, _, _, _, _, hB, h => ⟨by simpa [Region.seqB] using hB, h⟩
  | o :: l, k, listed, a, w, hl, hB, h => by
    have h0 : ops[k]? = some o := by simpa using (hl 0).symm
    simp only [List.length_cons, Region.seqB, Bool.and_eq_true, decide_eq_true_eq] at hB
    refine ⟨fun h1 => (by rw [hB.1] at h1; cases h1), fun i hi => ?_⟩
    rw [hB.1] at hi
    have hik : i = k := by simpa using hi
    subst hik
    have hw : wpOpIn Fence.wide m P ops Q i (wpListIn Fence.wide m P ops Q l) a w := by unfold wpOpIn; simp only [h0]; exact h
    exact wpOpIn_mono (fun a' w' h' => wpAnyIn_of_seq l (i + 1) _ a' w' (fun j => by have := hl (j + 1); simpa [Nat.add_assoc, Nat.add_comm 1 j] using this) hB.2 h') hw
theorem wpIn_region_still_tail {id : Nat} {a : Act} {l : List Oper} (n : Nat) (hm : P.follows .mixedOrders = true) (hB : Region.lexTailB .any l.toArray n = true)
    (h : wpStill P l.toArray { w with drawn := w.drawn + 1 } (fun a' => wpListIn Fence.wide m P l.toArray Q (l.drop n) a' { w with drawn := w.drawn + 1 }) (l.take n) a) : (Code.region id l.toArray true).wpIn Fence.wide m P Q a w := by
  simp only [Region.lexTailB, Bool.and_eq_true, decide_eq_true_eq] at hB
  obtain ⟨⟨⟨⟨hsel, hn⟩, hs⟩, hc⟩, hlex⟩ := hB
  have hn' : n < l.length := by simpa using hn
  have htl : (l.take n).length = n := by simp; omega
  have hdl : (l.drop n).length = l.toArray.size - n := by simp
  have inv0 : HeadInv .any l.toArray n (Array.replicate l.toArray.size false) :=
    ⟨by simp, fun j oj _ hl => (by rw [getD_replicate_false] at hl; cases hl), fun t _ ht => getD_in (by simpa using ht) (getD_replicate_false _ _)⟩
  have H := wpAnyL_lex (md := .any) (g := l.toArray.size - n) hsel hs hc hn (l.take n) 0 _ a (fun j hj => by
    have hj' : j < n := by rw [htl] at hj; exact hj
    simp [hj']) (by simpa using htl) inv0 (by rw [htl]; exact hlex) h
  refine wpIn_region_any hm ?_
  have := wpAnyIn_of_head (m := m) (Q := Q) (g := l.toArray.size - n) (fun listed a' hL => by
    have := wpAnyIn_of_seq (m := m) (md := .any) (Q := Q) (l.drop n) n listed a' { w with drawn := w.drawn + 1 } (fun j => by simp [List.getElem?_drop]) (by rw [hdl]; exact hL.1) hL.2
    rwa [hdl] at this) _ _ _ H
  rw [htl, show n + (l.toArray.size - n) = l.toArray.size by omega] at this
  exact this
end
theorem wpStill_mono {P : Program} {ops : Array Oper} {w : World} {F F' : Act → Prop} (h : ∀ a, F a → F' a) : ∀ {l : List Oper} {a : Act}, wpStill P ops w F l a → wpStill P ops w F' l a
  | [], _, hh => h _ hh
  | o :: l, a, hh => by
    unfold wpStill at hh ⊢
    split
    · rename_i hw
      rw [if_pos hw] at hh
      unfold Oper.still at hh ⊢
      generalize (execOp a.eval o).run P w = r at *
      cases r with
      | ok x w' =>
        cases x <;> simp only [Oper.stillUpon] at hh ⊢
        case value v => exact ⟨hh.1, wpStill_mono h hh.2⟩
        case skip => exact ⟨hh.1, wpStill_mono h hh.2⟩
        case enter f args => exact ⟨hh.1, hh.2.imp fun v hv => ⟨hv.1, wpStill_mono h hv.2⟩⟩
        all_goals exact hh
      | halt x w' => exact hh
    · rename_i hw
      rw [if_neg hw] at hh
      exact wpStill_mono h hh
/-- A head's operations that only read, looked at one after the other (behind a structure, so that no tactic looks into it). -/
structure Reads (P : Program) (ops : Array Oper) (w : World) (Fin : Act → Prop) (l : List Oper) (a : Act) : Prop where
  out : wpStill P ops w Fin l a
/-- A tail's operations, one after the other. -/
structure TailIn (m : Nat) (P : Program) (ops : Array Oper) (Q : Exit → Act → World → Prop) (l : List Oper) (a : Act) (w : World) : Prop where
  out : wpListIn Fence.wide m P ops Q l a w
section
variable {m : Nat} {P : Program} {ops : Array Oper} {Q : Exit → Act → World → Prop} {w : World}
open Go.RowKit in
theorem wpIn_region_tail {id : Nat} {a : Act} {l : List Oper} (n : Nat) (hm : P.follows .mixedOrders = true) (hB : Region.lexTailB .any l.toArray n = true)
    (h : ∀ W, Below w.heap.size w W → Reads P l.toArray W (TailIn m P l.toArray Q (l.drop n) · W) (l.take n) a) : (Code.region id l.toArray true).wpIn Fence.wide m P Q a w :=
  wpIn_region_still_tail n hm hB (wpStill_mono (fun _ h => h.out) (h _ (Below.refl _ w).drew).out)
theorem reads_yes {Fin : Act → Prop} {o : Oper} {rest : List Oper} {a : Act} {c : Value} (hw : Region.wanted o (yielded ops a.tmps) = true) (h : (execOp a.eval o).run P w = .ok (.value c) w)
    (hn : Reads P ops w Fin rest (a.put o.dst c)) : Reads P ops w Fin (o :: rest) a := by
  refine ⟨?_⟩
  unfold wpStill
  rw [if_pos hw]
  unfold Oper.still
  rw [h]
  exact ⟨rfl, hn.out⟩
theorem reads_no {Fin : Act → Prop} {o : Oper} {rest : List Oper} {a : Act} (hw : Region.wanted o (yielded ops a.tmps) = false)
    (hn : Reads P ops w Fin rest (a.put o.dst undef)) : Reads P ops w Fin (o :: rest) a := by
  refine ⟨?_⟩
  unfold wpStill
  rw [hw]
  exact hn.out
theorem reads_tail {rest : List Oper} {a : Act} (h : TailIn m P ops Q rest a w) : Reads P ops w (TailIn m P ops Q rest · w) [] a := ⟨h⟩
theorem tail_no {o : Oper} {rest : List Oper} {a : Act} (hw : Region.wanted o (yielded ops a.tmps) = false) (ha : o.about P w a.eval = none) (h : TailIn m P ops Q rest (a.put o.dst undef) w) : TailIn m P ops Q (o :: rest) a w := ⟨wpListIn_skip hw ha h.out⟩
theorem tail_yes {o : Oper} {rest : List Oper} {a : Act} (hw : Region.wanted o (yielded ops a.tmps) = true)
    (h : ∀ K : Act → World → Prop, (∀ a w, TailIn m P ops Q rest a w → K a w) → o.wpIn Fence.wide m P a w K Q) : TailIn m P ops Q (o :: rest) a w :=
  ⟨wpListIn_step fun K hK => by rw [if_pos hw]; exact h K fun a w ht => hK a w ht.out⟩
theorem tail_end {a : Act} (h : Q .normal a w) : TailIn m P ops Q [] a w := ⟨h⟩
end
end Go.Rel
