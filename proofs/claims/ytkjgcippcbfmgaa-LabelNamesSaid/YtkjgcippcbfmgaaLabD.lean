/- steps: the steps of a path, handed to a loop's body one after the other. -/
import Derived.RangeFuncNested
import Derived.RangeFuncBound
import Derived.RangeFuncCalls
import Derived.RangeFuncLeaves
import Derived.RangeFuncBox
import Derived.Shelf.Abstract
import Derived.OwnWalkIn
import Derived.TacticsInMore
import Derived.LoopNIn
import Derived.LoopIn
import Derived.Sort.QuietIn
import Derived.Test.YtkjgcippcbfmgaaLabC
namespace Go.Rel
open Go.RowKit
theorem grown_of_below {w w' : World} (h : Below w.heap.size w w') : w.grownBy w' none := ⟨h.os, h.tape, h.output, h.size, fun k hk _ => h.block k hk⟩
/-- The next step, and what comes behind it. -/
theorem segs_next {L : List Bs} {n k : Nat} {R : Bs} (hn : L.length = n) (hk : k < n) (h : L.drop k = segs R) :
    L.take (k + 1) = L.take k ++ [bef 47 R] ∧ (decide (47 ∈ R) = decide (k + 1 < n)) ∧ (k + 1 < n → L.drop (k + 1) = segs (aft 47 R)) := by
  have hd : L.drop k = L[k] :: L.drop (k + 1) := List.drop_eq_getElem_cons (by omega)
  rw [h, segs_cut] at hd
  have hlen : (L.drop (k + 1)).length = n - (k + 1) := by rw [List.length_drop, hn]
  by_cases hc : 47 ∈ R
  · rw [if_pos hc] at hd
    obtain ⟨h1, h2⟩ := List.cons.inj hd
    have h3 : k + 1 < n := by
      have := segs_ne (aft 47 R)
      rw [h2] at this
      have : 0 < (L.drop (k + 1)).length := List.length_pos_iff.2 this
      omega
    refine ⟨?_, ?_, fun _ => h2.symm⟩
    · rw [List.take_succ_eq_append_getElem (by omega), h1]
    · rw [decide_eq_true hc, decide_eq_true h3]
  · rw [if_neg hc] at hd
    obtain ⟨h1, h2⟩ := List.cons.inj hd
    have h3 : ¬ k + 1 < n := by
      rw [← h2] at hlen
      simp at hlen
      omega
    refine ⟨?_, ?_, fun h => absurd h h3⟩
    · rw [List.take_succ_eq_append_getElem (by omega), ← h1, (bef_none hc).1]
    · rw [decide_eq_false hc, decide_eq_false h3]
theorem segs_at {L : List Bs} {n k : Nat} {R : Bs} (hn : L.length = n) (hk : k < n) (h : L.drop k = segs R) (hlt : k < L.length) : L[k] = bef 47 R := by
  have := (segs_next hn hk h).1
  rw [List.take_succ_eq_append_getElem hlt] at this
  exact (List.cons.inj (List.append_cancel_left this)).1
/-- A step of a path. -/
abbrev StepOf (l : Bs) := {x : Bs // x ∈ cutP l}
/-- What is left to be cut. -/
def stepM (rv mv : Value) : Nat := match rv, mv with | .string s, .bool true => s.size + 1 | _, _ => 0
theorem stepM_t (R : Bs) : stepM (.string (str R)) (.bool true) = R.length + 1 := rfl
theorem stepM_f (R : Bs) : stepM (.string (str R)) (.bool false) = 0 := rfl
theorem aft_le (c : UInt8) (l : Bs) : (aft c l).length ≤ l.length := ((List.drop_sublist _ _).trans (List.dropWhile_sublist _)).length_le
end Go.Rel
namespace Go.Proofs.Ytkjgcippcbfmgaa
open Go.RowKit Go.Rel Go.Shelf
attribute [local go_sem] Oper.semAt_some

set_option maxRecDepth 100000 in
set_option maxHeartbeats 4000000 in
theorem steps1_in (m : Nat) (hm : 1 ≤ m) (L Bp n : Nat) (l : Bs) (hn : (cutP l).length = n) (hl : l.length ≤ maxLen)
    (J Jx : List (StepOf l) → World → Prop)
    (hY : ∀ pre x W, J pre W → pre.length < n → YieldAt Fence.wide (m - 1) Try.prog L #[.string (str x.1)] W fun e W' =>
      (e = .returned (.bool true) ∧ J (pre ++ [x]) W' ∧ True) ∨ (e = .returned (.bool false) ∧ Jx (pre ++ [x]) W'))
    (W : World) (hJ : AbidesFrom W.heap.size J) (hb : Blk W Bp 9 #[.string (str l)]) (h0 : J [] W) :
    CallsIn Fence.wide m Try.prog 49 #[.func (.yield L) #[] #[], .pointer (some ⟨Bp, 0, none⟩)] W fun e W' => (∃ v, e = .returned v) ∧
      ((∃ ys, ys = (cutP l).attach ∧ J ys W') ∨ (∃ pre, (∃ k, k ≤ n ∧ pre = (cutP l).attach.take k) ∧ Jx pre W')) := by
  have HN := Lib.hid hn
  have cl := hb.cell (i := 0) rfl
  have hcut : 0 < n → cutP l = segs l := fun h => by
    unfold cutP; rw [if_neg]; intro e; rw [e] at hn; simp [cutP] at hn; omega
  have h0n : (!(str l).toList.isEmpty) = decide (0 < n) := by
    rw [Lib.toList_data, str_list, ← hn, Bool.eq_iff_iff]
    simp [List.length_pos_iff, cutP_nil]
  have H0 := Lib.hid h0n
  have HC := Lib.hid hcut
  clear hn hcut h0n
  refine callsIn_of_wp Try.func49 rfl trivial ?_ rfl
  simp only [Try.ntmps49, List.size_toArray, List.length_cons, List.length_nil, Nat.reduceAdd, Nat.reduceSub, Array.replicate_succ, Array.replicate_zero, List.push_toArray, List.append_toArray, List.nil_append, List.cons_append]
  gi_wp2
  gi_quiet (fail)
  gi_wp2
  rw [H0.out]
  have hb1 : Below W.heap.size W (W.drewN nq) := below_drewN (Below.refl _ _) nq
  generalize W.drewN nq = W1 at hb1 ⊢
  have hJ1 := hJ _ _ _ none h0 (grown_of_below hb1) (fun r e => by cases e)
  clear hb cl h0 hb1 H0
  gi_loopw [3, 4] (fun rv mv wr => ∃ (k : Nat) (R : Bs), k ≤ n ∧ rv = .string (str R) ∧ mv = .bool (decide (k < n)) ∧ R.length ≤ maxLen ∧ Hid (k < n → (cutP l).drop k = segs R) ∧ J ((cutP l).attach.take k) wr)
    (fun rv mv _ => stepM rv mv)
  case atStart => exact ⟨0, l, Nat.zero_le _, rfl, rfl, hl, (fun h => by rw [List.drop_zero]; exact HC.out h), hJ1⟩
  case round =>
    obtain ⟨k, R, hk, rfl, rfl, hR, HP, hJs⟩ := hrel
    by_cases hlt : k < n
    · obtain ⟨e1, e2, e3⟩ := segs_next HN.out hlt (HP.out hlt)
      have hlen : ((cutP l).attach.take k).length < n := by rw [List.length_take, List.length_attach]; have := HN.out; omega
      have hka : k < (cutP l).attach.length := by rw [List.length_attach]; have := HN.out; omega
      have hat : ((cutP l).attach[k]).1 = bef 47 R := by
        rw [List.getElem_attach]
        exact segs_at HN.out hlt (HP.out hlt) (by have := HN.out; omega)
      have hnext : (cutP l).attach.take (k + 1) = (cutP l).attach.take k ++ [(cutP l).attach[k]] := List.take_succ_eq_append_getElem hka
      obtain ⟨X, hX⟩ : ∃ X, (cutP l).attach[k] = X := ⟨_, rfl⟩
      rw [hX] at hat hnext
      clear hX hka
      have hm1 : stepM (.string (str (aft 47 R))) (.bool (decide (k + 1 < n))) < R.length + 1 := by
        rw [← e2]
        by_cases hc : 47 ∈ R
        · rw [decide_eq_true hc, stepM_t]; have := aft_len hc; omega
        · rw [decide_eq_false hc, stepM_f]; omega
      have hal := Nat.le_trans (aft_le 47 R) hR
      have r1 := fun W => cut_one (str R) 47 W hR
      rw [str_list, e2] at r1
      have HE := Lib.hid (show _ ∧ _ ∧ _ from ⟨hnext, e3, hm1⟩)
      rw [decide_eq_true hlt]
      have R1 := Lib.hid r1
      clear e1 e2 e3 hm1 HP r1 hnext
      gi_wp2_with (refine ⟨trivial, ?_⟩; gi_at_call 50; refine (callsIn_wide.2 (R1.out _)).mono ?_; rintro e wq ⟨rfl, hbq⟩)
      replace hJs := hJ _ _ _ none hJs (grown_of_below hbq) (fun r e => by cases e)
      obtain ⟨fn, tmps, assign, body, hy, hRd⟩ := hY _ X wq hJs hlen
      rw [hat] at hy
      rw [hy]
      clear hy
      first | gi_wp2 | skip
      first | refine hRd.mono ?_ | refine ⟨fun _ => hm, hRd.mono ?_⟩
      rintro e W3 (⟨rfl, hJ3, -⟩ | ⟨rfl, hJx3⟩)
      · gi_wp2
        go_roundw
        case rel => exact ⟨k + 1, aft 47 R, by omega, rfl, rfl, hal, HE.out.2.1, by rw [HE.out.1]; exact hJ3⟩
        case measure => rw [stepM_t]; exact HE.out.2.2
      · gi_wp2
        refine bodyPost_ret (results_none rfl _ _ _) rfl ?_
        exact ⟨⟨_, rfl⟩, .inr ⟨_, ⟨k + 1, by omega, HE.out.1.symm⟩, hJx3⟩⟩
    · obtain rfl : k = n := by omega
      rw [decide_eq_false hlt]
      have hfull : (cutP l).attach.take k = (cutP l).attach := List.take_of_length_le (by rw [List.length_attach]; have := HN.out; omega)
      rw [hfull] at hJs
      gi_wp2
      go_end0
      exact ⟨⟨_, rfl⟩, .inl ⟨_, rfl, hJs⟩⟩

theorem steps_stops (m : Nat) (hm : 1 ≤ m) (Bp n : Nat) (l : Bs) (hn : (cutP l).length = n) (hl : l.length ≤ maxLen) (w : World) (hb : Blk w Bp 9 #[.string (str l)]) :
    SeqStopsK Fence.wide m Try.prog 49 #[.pointer (some ⟨Bp, 0, none⟩)] (fun x : StepOf l => #[.string (str x.1)]) (fun _ _ => True) (fun ys => ys = (cutP l).attach) (fun pre => ∃ k, k ≤ n ∧ pre = (cutP l).attach.take k) n w :=
  fun L J Jx W hW hJ _ hY h0 => steps1_in m hm L Bp n l hn hl J Jx hY W hJ (hb.keep hW) h0

theorem steps_any (m : Nat) (l : Bs) (w : World) :
    CallsIn Fence.wide m Try.prog 34 #[.string (str l)] w fun e w' => e = .returned (.func (.func 49) #[] #[.pointer (some ⟨w.heap.size, 0, none⟩)]) ∧
      w' = w.alloc (.cells #[.string (str l)] 9) := by
  refine callsIn_of_wp Try.func34 rfl trivial ?_ rfl
  simp only [Try.ntmps34, List.size_toArray, List.length_cons, List.length_nil, Nat.reduceAdd, Nat.reduceSub, Array.replicate_succ, Array.replicate_zero, List.push_toArray, List.append_toArray, List.nil_append, List.cons_append]
  gi_wp2
  go_ret
  exact ⟨rfl, rfl⟩
end Go.Proofs.Ytkjgcippcbfmgaa
