/- Steps of the program. -/
import Derived.Test.YtkjgcippcbfmgaaLabG
namespace Go.Rel
open Go.RowKit
theorem keepsOthers_below {W W' : World} (h : Below W.heap.size W W') : KeepsOthers W W' := ⟨h.size, fun k _ hk _ => (h.block k (Array.getElem?_eq_some_iff.1 hk).1).trans hk⟩
/-- The strings of some steps. -/
def valsC {l : Bs} (p : List (StepOf l)) : List Value := (p.map (fun x => x.1)).flatMap strC
theorem valsC_snoc {l : Bs} (p : List (StepOf l)) (x : StepOf l) : valsC (p ++ [x]) = valsC p ++ strC x.1 := by simp [valsC]
theorem valsC_all (l : Bs) : valsC (cutP l).attach = (cutP l).flatMap strC := by
  unfold valsC
  rw [show (cutP l).attach.map (fun x => x.1) = cutP l from List.attach_map_subtype_val _]
/-- What Steps returns. -/
def StepsRet (w : World) (l : Bs) (e : Ending) (w' : World) : Prop := ∃ v, e = .returned (.tuple #[v, .int .i64 (checkP l)]) ∧ StrsRet (stepsL l) v w' ∧ Below w.heap.size w w'
theorem StrsRet.kept {l : List Bs} {v : Value} {w w' : World} {row : Option Nat} (h : StrsRet l v w) (hg : w.grownBy w' row) (hrow : ∀ r, row = some r → ∃ o : Obj, w.heap[r]? = some o ∧ o.isCells = false) : StrsRet l v w' := by
  obtain ⟨A, cap, e, hc, hn, hr⟩ := h
  refine ⟨A, cap, e, hc, hn, fun hl => ?_⟩
  obtain ⟨b, off, e, hb, hat⟩ := hr hl
  exact ⟨b, off, e, Nat.lt_of_lt_of_le hb hg.size, fun i v hi j u hj => cell_kept (hat i v hi j u hj) hg hrow⟩
theorem StrsRet.below {l : List Bs} {v : Value} {w w' : World} (h : StrsRet l v w) (hb : Below w.heap.size w w') : StrsRet l v w' := h.kept (grown_of_below hb) (fun r e => by cases e)
theorem ownsRow_one {w : World} {base : Nat} {e : TypeId} {v : Value} {k : Nat} {xs : List Value} (h : w.ownsRow base e 1 v (k + 1) xs) : ∃ g cap, v = .slice (some ⟨g, 0, none⟩) (k + 1) cap := by
  rcases h.2 with ⟨_, h0⟩ | ⟨g, cap, cur, h0, _⟩
  · omega
  · exact ⟨g, cap, h0⟩
end Go.Rel
namespace Go.Proofs.Ytkjgcippcbfmgaa
open Go.RowKit Go.Rel Go.Shelf
attribute [local go_sem] Oper.semAt_some

set_option maxRecDepth 100000 in
set_option maxHeartbeats 4000000 in
theorem steps_in (l : Bs) (w : World) (hs : l.length ≤ 100000) :
    CallsIn Fence.wide 3 Try.prog 11 #[.string (str l)] w (StepsRet w l) := by
  have hlm : l.length ≤ maxLen := by unfold maxLen; omega
  have r1 := fun W => check_any l W hlm
  have hn : (cutP l).length ≤ 100001 := by
    unfold cutP
    split
    · simp
    · have := segs_le l; omega
  obtain ⟨i0, hi, hz0, hz1, hz2⟩ := info_parts Try.infoStr
  have HI := Lib.hid (show _ ∧ _ ∧ _ ∧ _ from ⟨hi, hz0, hz1, hz2⟩)
  clear hi hz0 hz1 hz2 hs
  have HS := Lib.hid (show stepsL l = if checkP l = 0 then cutP l else [] from rfl)
  have HW := Lib.hid (show ∀ v e w', e = .returned (.tuple #[v, .int .i64 (checkP l)]) → StrsRet (stepsL l) v w' → Below w.heap.size w w' → StepsRet w l e w' from fun v e w' h1 h2 h3 => ⟨v, h1, h2, h3⟩)
  generalize checkP l = E at *
  by_cases hE : E = 0
  case neg =>
    have hE' : (E != 0) = true := by simpa using hE
    have HL := Lib.hid (show stepsL l = [] by rw [HS.out, if_neg hE])
    have R1 := Lib.hid r1
    clear r1 hE HS
    refine callsIn_of_wp Try.func11 rfl trivial ?_ rfl
    simp only [Try.ntmps11, List.size_toArray, List.length_cons, List.length_nil, Nat.reduceAdd, Nat.reduceSub, Array.replicate_succ, Array.replicate_zero, List.push_toArray, List.append_toArray, List.nil_append, List.cons_append]
    gi_wp2
    refine ⟨trivial, ?_⟩
    gi_wp2
    refine (callsIn_wide.2 (R1.out _)).mono ?_
    rintro e W ⟨rfl, hb⟩
    gi_wp2
    go_ret2
    exact HW.out _ _ _ rfl (by rw [HL.out]; exact strs_nil _) hb
  subst hE
  have HL := Lib.hid (show stepsL l = cutP l by rw [HS.out, if_pos rfl])
  have R1 := Lib.hid r1
  clear r1 HS
  refine callsIn_of_wp_marks Try.func11 rfl trivial ?_ rfl
  simp only [Try.ntmps11, List.size_toArray, List.length_cons, List.length_nil, Nat.reduceAdd, Nat.reduceSub, Array.replicate_succ, Array.replicate_zero, List.push_toArray, List.append_toArray, List.nil_append, List.cons_append]
  gi_wp2
  refine ⟨trivial, ?_⟩
  gi_wp2
  refine (callsIn_wide.2 (R1.out _)).mono ?_
  rintro e w1 ⟨rfl, hb⟩
  gi_wp2
  refine ⟨trivial, ?_⟩
  gi_wp2
  refine (steps_any _ l _).mono ?_
  rintro e W ⟨rfl, rfl⟩
  gi_wp2
  obtain ⟨x1, x2, x3, x4⟩ := boxes2 w1 #[.slice none 0 0] #[.string (str l)] 22 9
  have x5 : Blk _ w1.heap.size _ _ := x3
  have x6 : Blk _ (w1.heap.size + 1) _ _ := x4
  clear x3 x4
  generalize World.alloc _ _ = w0 at x1 x2 x5 x6 ⊢
  refine wpIn_rangeFunc_ownG rfl (by omega) (gf := 49) (lb := #[.pointer (some ⟨w1.heap.size + 1, 0, none⟩)]) rfl trivial (enters_of Try.func49 (by kernel_rfl) rfl)
    (steps_stops 2 (by omega) (w1.heap.size + 1) (cutP l).length l rfl hlm w0 x6) (fun _ _ => trivial) (fun _ _ _ _ _ _ _ _ => trivial) (Below.refl _ _) (fun _ => rfl)
    (fun pre W => (∃ v, Boxed W w1.heap.size 22 v ∧ W.ownsRow w1.heap.size 9 1 v pre.length (valsC pre) ∧ True) ∧ Below w1.heap.size w1 W)
    (fun _ _ _ => False)
    (OwnFrom.and ((holdsRow_own w1.heap.size w1.heap.size 22 9 1 (fun pre : List (StepOf l) => pre.length) (fun pre => valsC pre) (fun _ _ => True)).from _) (ownFrom_below (Nat.le_refl _) (by omega)))
    (fun _ _ _ _ _ hs _ _ => hs)
    ⟨⟨_, x5, World.ownsRow_nil _ _ _ _, trivial⟩, x1⟩
    (fun x => { tmps := #[.string (str l), undef, .slice none 0 0, .int .i64 0, .int .i64 0, .pointer (some ⟨w1.heap.size, 0, none⟩), .string (str x.1), .string (str l), .int .i64 0, .int .i64 0, .bool false, undef, .string (str l),
      .func (.func 49) #[] #[.pointer (some ⟨w1.heap.size + 1, 0, none⟩)], .string (str x.1), undef, undef, undef, undef, undef], defers := [] }) ?assign ?body ?done ?stop
  case assign =>
    intro L x W K hK
    gi_wp2
    exact hK
  case body =>
    rintro L pre x W ⟨⟨v, hbx, hrow, -⟩, hB⟩ hlen
    have hlt := hbx.lt
    have n0 := hbx.cell
    have n3 := hbx.frozen
    obtain ⟨hi, hz0, hz1, hz2⟩ := HI.out
    obtain ⟨XS, hXS⟩ : ∃ XS, valsC pre = XS := ⟨_, rfl⟩
    rw [hXS] at hrow
    have HXS := Lib.hid hXS
    have hoX := hrow.alloc (.cells #[.string (str x.1)] 9)
    clear hXS
    gi_wp2_with (gi_at_builtin; refine wpListIn_append_own _ rfl _ _ 22 rfl w1.heap.size 9 i0 (.string ⟨#[]⟩) 1 16 Try.underlying22 hi hz0 hz1 hz2 rfl (by decide) _ _ _ rfl hoX ⟨W.heap.size, 0, none⟩ 1 1 (strC x.1) rfl rfl (cells_new_str W x.1 9) (strC_one x.1) ?c3 ?c4 ?c5 ?_)
    case c3 => unfold maxLen; omega
    case c4 => omega
    case c5 => simp; omega
    intro v' W3 hown' hgrow _
    obtain ⟨g, cap', rfl⟩ := ownsRow_one hown'
    obtain ⟨r1, r2, r3, r4, r5⟩ := Boxed.appended hbx (by decide) hrow (by omega) (Nat.le_refl _) hown' hgrow
    have HF := Lib.hid (show _ ∧ _ ∧ _ ∧ _ from ⟨r2, r3, r4, r5⟩)
    have m0 := r1.cell
    have m3 := r1.frozen
    have mlt := r1.lt
    clear r1 r2 r3 r4 r5 hown' hgrow hbx hrow hoX n0 n3 hi hz0 hz1 hz2
    gi_wp2
    obtain ⟨r2, r3, r4, r5⟩ := HF.out
    refine ⟨r4.from _, trivial, ⟨_, r2, ?_, trivial⟩, hB.trans r5⟩
    rw [valsC_snoc, HXS.out, List.length_append]
    exact r3
  case done =>
    rintro D ys W hD rfl ⟨⟨v, hbx, hrow, -⟩, hB⟩ hK
    rw [valsC_all, List.length_attach] at hrow
    have n0 := hbx.cell
    have hRet := strs_of_own rfl hrow
    have hB2 := hb.trans (hB.mono hb.size)
    clear hrow
    gi_wp2
    refine ⟨by simp, .inl ⟨_, _, rfl, run_takeDeferred hK, ?_⟩⟩
    exact ⟨.tuple #[v, .int .i64 0], by simp [results, Try.results11, go_sem], HW.out _ _ _ rfl (by rw [HL.out]; exact hRet.kept (grownBy_putObj' W D _) (fun r e => by cases e; exact ⟨_, hK, rfl⟩)) (hB2.trans (belowK_b (w := w) (Nat.le_refl _) W D _ _ (by have := hb.size; omega) hK rfl rfl))⟩
  case stop =>
    rintro D c pre W _ _ h _
    exact h.elim

theorem steps_all (l : Bs) (w : World) (hs : l.length ≤ 100000) : Calls Try.prog 11 #[.string (str l)] w (StepsRet w l) := callsIn_wide.1 (steps_in l w hs)
end Go.Proofs.Ytkjgcippcbfmgaa
