/- The rule for a region that draws its order, inside a round of a range over a function. -/
import Derived.Test.YtfdjhiomdimfcaaRegion
import Derived.OrdersIn
import Derived.OwnWalkIn
import Derived.RangeFuncCalls
namespace Go.Rel
open Go.RowKit
/-- How a region goes on: by its end alone. -/
def NormalOnly (Q : Exit → Act → World → Prop) : Exit → Act → World → Prop
  | .normal, a, w => Q .normal a w
  | _, _, _ => False
theorem normal_only {Q : Exit → Act → World → Prop} {a : Act} {w : World} (h : Q .normal a w) : NormalOnly Q .normal a w := h
theorem not_out (Q : Exit → Act → World → Prop) : ¬ LetsOut (NormalOnly Q) := fun ⟨_, _, h⟩ => h
section
variable {P : Program} {ops : Array Oper} {L m : Nat}
theorem rowsIn_wide' {n : Nat} {row : String} {args : Array Value} {w : World} {R : Value → World → Prop} (h : Rows P row args w R) : RowsIn (Fence.wide.inRound L) n P row args w R :=
  fun c cs _ => let ⟨v, w', r, s⟩ := h c cs; ⟨v, w', r, stepsIn_wide.2 s⟩
theorem callsIn_round {n : Nat} {f : FuncId} {args : Array Value} {w : World} {R : Ending → World → Prop} (h : Calls P f args w R) : CallsIn (Fence.wide.inRound L) n P f args w R :=
  CallsIn.inRound L (callsIn_wide.2 h)
theorem oper_in_round {o : Oper} {a : Act} {w : World} {K K' : Act → World → Prop} {Q : Exit → Act → World → Prop} (hnd : ∀ c, o.op ≠ .defer c) (hK : ∀ a w, K a w → K' a w) (h : o.wp P a w K (NormalOnly Q)) :
    o.wpIn (Fence.wide.inRound L) m P a w K' Q := by
  unfold Oper.wp at h
  unfold Oper.wpIn
  refine ⟨fun _ _ => trivial, ?_⟩
  rw [Oper.semAt_plain _ _ _ hnd]
  generalize (execOp a.eval o).run P w = r at *
  have hd : ((Fence.wide.inRound L).depth.isSome = true → 1 ≤ m) := fun h => by simp [Fence.inRound, Fence.wide] at h
  cases r with
  | ok x w' =>
    cases x <;> simp only [Oper.upon, Oper.uponIn] at h ⊢
    case value v => exact hK _ _ h
    case skip => exact hK _ _ h
    case defer d => exact hK _ _ h
    case enter f args =>
      refine ⟨hd, (callsIn_round h).mono ?_⟩
      rintro (v | ch | _) w'' hh
      · exact hK _ _ hh
      · exact hh.elim
      · exact absurd hh (not_out Q)
    case row row args => exact ⟨hd, (rowsIn_wide' h).mono fun v w'' hh => hK _ _ hh⟩
    all_goals exact h.elim
  | halt x w' =>
    cases x <;> simp only [Oper.upon, Oper.uponIn] at h ⊢
    all_goals exact h.elim
theorem any_in_round {Q : Exit → Act → World → Prop} (hnd : ∀ (i : Nat) (o : Oper), ops[i]? = some o → ∀ c, o.op ≠ .defer c) : ∀ (f : Nat) (listed : Array Bool) (a : Act) (w : World),
    wpAny P .any ops (NormalOnly Q) f listed a w → wpAnyIn (Fence.wide.inRound L) m P .any ops Q f listed a w
  | 0, _, _, _, h => ⟨h.1, h.2⟩
  | f + 1, _, _, _, h => by
    refine ⟨h.1, fun i hi => ?_⟩
    have h2 := h.2 i hi
    unfold wpOp at h2
    unfold wpOpIn
    split
    · rename_i ho
      simp only [ho] at h2
      exact any_in_round hnd f _ _ _ h2
    · rename_i o ho
      simp only [ho] at h2
      split
      · rename_i hw
        rw [if_pos hw] at h2
        rcases h2 with h2 | ⟨_, h2⟩
        · exact oper_in_round (hnd i o ho) (fun a w hh => any_in_round hnd f _ a w hh) h2
        · exact absurd h2 (not_out Q)
      · rename_i hw
        rw [if_neg hw] at h2
        exact ⟨fun _ _ => trivial, any_in_round hnd f _ _ _ h2⟩
def noDefer (l : List Oper) : Bool := l.all fun o => match o.op with | .defer _ => false | _ => true
theorem noDefer_spec {l : List Oper} (h : noDefer l = true) : ∀ (i : Nat) (o : Oper), l.toArray[i]? = some o → ∀ c, o.op ≠ .defer c := fun i o ho c hc => by
  have := List.all_eq_true.1 h o (by simpa using List.mem_of_getElem? (by simpa using ho))
  rw [hc] at this
  cases this

/-- A REGION THAT DRAWS ITS ORDER, inside a round. -/
theorem wpIn_region_headR {id : Nat} {l : List Oper} {Q : Exit → Act → World → Prop} {a : Act} {w : World} {R : World → World → Prop} (n N : Nat) (us : List Know) (ul : List (List Nat)) (hR : Keeps R)
    (hm : P.follows .mixedOrders = true) (hN : a.tmps.size = N) (hul : us.map (·.uses) = ul) (hlen : us.length = n)
    (hB : (formOk l.toArray n N && usesOk l.toArray 0 ul && noDefer l) = true)
    (h : Head P l.toArray R w (fun a' fs => ∀ W, R w W → facts fs W → wpList P l.toArray (NormalOnly Q) (l.drop n) a' W) 0 (fun _ => undef) us (l.take n) a []) : (Code.region id l.toArray true).wpIn (Fence.wide.inRound L) m P Q a w := by
  simp only [Bool.and_eq_true] at hB
  obtain ⟨hB, hnd⟩ := hB
  have hf := formOk_spec hB.1
  subst hul
  refine wpIn_region_any hm (any_in_round (noDefer_spec hnd) _ _ _ _ ?_)
  have hlt : us.length = (l.take n).length := by have := hf.le; simp at this; simp [hlen]; omega
  have hsz : n + (l.toArray.size - n) = l.toArray.size := by have := hf.le; omega
  have huses : ∀ (j : Nat) (u : Know), us[j]? = some u → ∀ i ∈ u.uses, i < 0 + j := fun j u hu i hi => (usesOk_spec _ 0 hB.2 j u.uses (by simp [hu]) i hi).1
  have hl0 : left n (Array.replicate l.toArray.size false) ≤ n := by
    have : ∀ (m : Nat) (x : Array Bool), left m x ≤ m := by
      intro m x
      induction m with
      | zero => exact Nat.le_refl _
      | succ m ih => simp only [left]; split <;> omega
    exact this _ _
  have inv0 : Inv l.toArray R w n us a (Array.replicate l.toArray.size false) a w.drew :=
    ⟨⟨by simp, fun j oj _ hl => (by rw [getD_replicate_false] at hl; cases hl), fun t _ ht => getD_in (by simpa using ht) (getD_replicate_false _ _)⟩,
      hR.drew _, rfl, rfl, fun _ _ => rfl, fun i u _ _ hl => by rw [getD_replicate_false] at hl; cases hl⟩
  have := any_of_head (P := P) (w0 := w) (Q := NormalOnly Q) hR hf hN hlen hB.2 (fun vs hv j u o hj ho => (Head.owes (l.take n) us 0 _ a [] vs hlt huses (fun i hi => by omega) h hv).1 j u o hj (by simpa using ho))
    (fun vs hv W hW hfa => by have := (Head.owes (l.take n) us 0 _ a [] vs hlt huses (fun i hi => by omega) h hv).2 W hW hfa; simpa using this) n _ a w.drew hl0 inv0
  rw [hsz] at this
  exact this
theorem wpIn_region_head {id : Nat} {l : List Oper} {Q : Exit → Act → World → Prop} {a : Act} {w : World} (n N : Nat) (us : List Know) (ul : List (List Nat))
    (hm : P.follows .mixedOrders = true) (hN : a.tmps.size = N) (hul : us.map (·.uses) = ul) (hlen : us.length = n)
    (hB : (formOk l.toArray n N && usesOk l.toArray 0 ul && noDefer l) = true)
    (h : Head P l.toArray Kp w (fun a' fs => ∀ W, Below w.heap.size w W → facts fs W → wpList P l.toArray (NormalOnly Q) (l.drop n) a' W) 0 (fun _ => undef) us (l.take n) a []) : (Code.region id l.toArray true).wpIn (Fence.wide.inRound L) m P Q a w :=
  wpIn_region_headR n N us ul kp_keeps hm hN hul hlen hB h
end
end Go.Rel
