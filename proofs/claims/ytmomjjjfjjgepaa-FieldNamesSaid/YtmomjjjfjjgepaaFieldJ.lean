/- Turn on both sides, for every field. -/
import Derived.Test.YtmomjjjfjjgepaaFieldG
namespace Go.Rel
open Go.RowKit
/-- The first k pulls, turned. -/
def turnTo (l : List Pull) (k : Nat) : List Pull := (l.take k).map turnU
theorem turnTo_succ {l : List Pull} {k : Nat} (hk : k < l.length) : turnTo l (k + 1) = turnTo l k ++ [turnU l[k]] := by
  unfold turnTo
  rw [List.take_succ_eq_append_getElem hk, List.map_append]; rfl
theorem turnTo_len (l : List Pull) {k : Nat} (hk : k ≤ l.length) : (turnTo l k).length = k := by
  unfold turnTo; rw [List.length_map, List.length_take]; omega
theorem turnTo_all {l : List Pull} {n : Nat} (h : l.length = n) : turnTo l n = l.map turnU := by
  unfold turnTo; rw [← h, List.take_length]
theorem turnL_ok {l : List Pull} (h : fieldE l = 0) : turnL l = l.map turnU := if_pos h
theorem turnL_bad {l : List Pull} (h : ¬ fieldE l = 0) : turnL l = [] := if_neg h
theorem cells_new_pull (w : World) (u : Pull) (t : TypeId) : ∀ (j : Nat) (v : Value), (Pull.cells u)[j]? = some v → (w.alloc (.cells #[.int .i64 u.x, .int .i64 u.y, .int .u8 u.kind, .int .i64 u.weight, .int .i64 u.reach] t)).cell? ((⟨w.heap.size, 0, none⟩ : Addr).add j) = some v := by
  intro j v hj
  match j, hj with
  | 0, hj => simp [Pull.cells] at hj; subst hj; exact cell_new _ _ _ rfl
  | 1, hj => simp [Pull.cells] at hj; subst hj; exact cell_new _ _ _ rfl
  | 2, hj => simp [Pull.cells] at hj; subst hj; exact cell_new _ _ _ rfl
  | 3, hj => simp [Pull.cells] at hj; subst hj; exact cell_new _ _ _ rfl
  | 4, hj => simp [Pull.cells] at hj; subst hj; exact cell_new _ _ _ rfl
theorem ownsRow_far {w : World} {base : Nat} {e : TypeId} {size : Nat} {v : Value} {n : Nat} {xs : List Value} (h : w.ownsRow base e size v n xs) {p : Addr} (hne : ∀ r, v.ownBlock = some r → r ≠ p.block) (u : Value) : (w.setCell p u).ownsRow base e size v n xs :=
  h.kept (row := some p.block) ⟨rfl, rfl, rfl, by simp [World.setCell], fun k _ hk => Below.heap_setCell _ _ _ _ (fun e => hk (by rw [e]))⟩ (by
    cases hv : v.ownBlock with
    | none => exact .inl rfl
    | some k => exact .inr (fun e => hne k hv (by simpa using e)))
theorem cells_one_pull (u : Pull) : ∀ v ∈ Pull.cells u, v.oneCell' = true := by
  intro v hv
  simp [Pull.cells] at hv
  rcases hv with rfl | rfl | rfl | rfl | rfl <;> rfl
end Go.Rel
namespace Go.Proofs.Ytmomjjjfjjgepaa
open Go.RowKit Go.Rel

theorem Try.infoPull : (Try.prog.info? 52).map (fun i => (i.zero, i.size, i.bytes)) = some (some (.agg #[.int .i64 0, .int .i64 0, .int .u8 0, .int .i64 0, .int .i64 0]), 5, 40) := by kernel_rfl

def TurnRet (l : List Pull) (v : Value) (w' : World) : Prop := ∃ A' cap', v = .tuple #[.slice A' (turnL l).length cap', .int .i64 (fieldE l)] ∧ (turnL l).length ≤ cap' ∧ Recs Pull.cells 5 w' w'.heap.size A' (turnL l)
theorem turn_none {w w' : World} {l : List Pull} {e : Int} (h1 : fieldE l = e) (he : e ≠ 0) (hb : Below w.heap.size w w') : RetM w (TurnRet l) (.returned (.tuple #[.slice none 0 0, .int .i64 e])) w' := by
  refine retM ?_ hb
  unfold TurnRet
  rw [turnL_bad (by rw [h1]; exact he), h1]
  exact ⟨none, 0, rfl, Nat.le_refl _, Recs.nil_⟩

theorem turned_any (p : Pt) (w : World) (hp : inB p.x p.y = true) :
    Calls Try.prog 27 #[p.v] w (Ret w (.agg #[.int .i64 (-p.y), .int .i64 p.x])) := by
  obtain ⟨x, y⟩ := p
  obtain ⟨px1, px2, px3, px4⟩ := inB_iff.1 hp
  simp only at px1 px2 px3 px4
  clear hp
  go_enter Try.func27, Try.ntmps27
  go_wp2_with fail
  refine bodyPost_ret (v := .agg #[.int .i64 (-y), .int .i64 x]) (by simp [results, Try.results27, go_sem]) rfl ⟨rfl, ?_⟩
  exact ((Below.refl _ _).alloc (Nat.le_refl _) _).alloc (by simp) _

set_option maxRecDepth 100000 in
set_option maxHeartbeats 4000000 in
theorem turn_ok (A : Option Addr) (n cap : Nat) (l : List Pull) (w : World) (hn : l.length = n) (hv : Recs Pull.cells 5 w w.heap.size A l) (h64 : ∀ u ∈ l, u.In64) (hf : Fine l) :
    Calls Try.prog 17 #[.slice A n cap] w (RetM w (TurnRet l)) := by
  have HE := Lib.hid (fieldE_ok hf)
  have HF := Lib.hid hf
  have HN := Lib.hid hn
  have hl : n ≤ 60 := by have := hf.1; omega
  have c1 := fun w hv => check_any A n cap l w hn (by omega) hv h64
  rw [HE.out] at c1
  obtain ⟨i0, hi, hz0, hz1, hz2⟩ := info_parts Try.infoPull
  have HI := Lib.hid (show _ ∧ _ ∧ _ ∧ _ from ⟨hi, hz0, hz1, hz2⟩)
  clear hn hf hi hz0 hz1 hz2
  go_enter Try.func17, Try.ntmps17
  go_wp2_with fail
  refine (c1 _ hv).mono ?_
  rintro e w1 ⟨rfl, hb1⟩
  clear c1
  go_wp2_with fail
  go_loopw [5, 15] (fun v i wr => ∃ k : Nat, k ≤ n ∧ i = .int .i64 k ∧ wr.ownsRow w.heap.size 52 5 v k ((turnTo l k).flatMap Pull.cells) ∧ Below w.heap.size w wr) (fun _ i _ => n - (intOf i).toNat)
  case atStart => exact ⟨0, Nat.zero_le _, rfl, World.ownsRow_nil _ _ _ _, hb1⟩
  case round =>
    obtain ⟨k, hk, rfl, hown, hb⟩ := hrel
    clear hb1
    by_cases hlt : k < n
    · have hlt' : k < l.length := by rw [HN.out]; exact hlt
      obtain ⟨b, off, rfl, hB, c0, c1, c2, c3, c4⟩ := pull_at (hv.below hb) hlt'
      have hs := hb.size
      have hu := HF.out.at_ hlt'
      have hnext := turnTo_succ hlt'
      obtain ⟨u, hud⟩ : ∃ u, l[k] = u := ⟨_, rfl⟩
      rw [hud] at c0 c1 c2 c3 c4 hu hnext
      obtain ⟨⟨u1, u2⟩, u3, u4, u5, u6, u7⟩ := pullB_iff.1 hu
      obtain ⟨ux1, ux2, ux3, ux4⟩ := inB_iff.1 u3
      have hturn : turnU u = ⟨-u.y, u.x, turnK u.kind, u.weight, u.reach⟩ := rfl
      have hk12 : (u.kind ≤ 2 ∧ turnK u.kind = 3 - u.kind) ∨ (2 < u.kind ∧ turnK u.kind = u.kind) := by unfold turnK; split <;> omega
      have HNX := Lib.hid hnext
      clear hv h64 hud hu u3 hnext hturn
      have hlk := Nat.le_of_lt hlt
      have hbs : ∀ W : World, W.heap.size = W.heap.size := fun _ => rfl
      rcases hk12 with ⟨hk1, hk2⟩ | ⟨hk1, hk2⟩
      · have HK := Lib.hid hk2
        clear hk2 hbs
        obtain ⟨hi, hz0, hz1, hz2⟩ := HI.out
        have hown2 := hown.alloc (.cells #[.int .i64 (-u.y), .int .i64 u.x, .int .u8 (3 - u.kind), .int .i64 u.weight, .int .i64 u.reach] 52)
        go_wp2_with (at_builtin; refine wpList_append_own _ rfl _ _ 22 rfl w.heap.size 52 i0 (.agg #[.int .i64 0, .int .i64 0, .int .u8 0, .int .i64 0, .int .i64 0]) 5 40 Try.underlying22 hi hz0 hz1 hz2 rfl (by decide) _ _ _ rfl (hown2.alloc _) ⟨wr.heap.size + 1, 0, none⟩ 1 1 (Pull.cells ⟨-u.y, u.x, 3 - u.kind, u.weight, u.reach⟩) rfl rfl ?c1 ?c2 ?c3 ?c4 ?c5 ?_)
        case c1 => have := cells_new_pull (wr.alloc (.cells #[.int .i64 (-u.y), .int .i64 u.x, .int .u8 (3 - u.kind), .int .i64 u.weight, .int .i64 u.reach] 52)) ⟨-u.y, u.x, 3 - u.kind, u.weight, u.reach⟩ 52; rw [World.size_alloc] at this; exact this
        case c2 => exact cells_one_pull _
        case c3 => unfold maxLen; omega
        case c4 => omega
        case c5 => simp; omega
        intro v' w7 hown3 hgrow _
        have hb6 := ((hb.trans ((((Below.refl wr.heap.size wr).alloc (Nat.le_refl _) _).alloc (by simp) _).mono hb.size)).grown hgrow (by simp; omega) (fun r hr => (hown.lt r hr).1))
        have HO := Lib.hid (show _ ∧ _ from ⟨hown3, hb6⟩)
        clear hown3 hgrow hown hown2 hb6 hi hz0 hz1 hz2
        go_wp2
        go_roundw
        case rel =>
          refine ⟨k + 1, by omega, by go_num, ?_, HO.out.2⟩
          have h1 := HO.out.1
          rw [← flat_one] at h1
          rw [HNX.out, turnU, HK.out]
          exact h1
        case measure => simp [intOf]; omega
      · have HK := Lib.hid hk2
        clear hk2 hbs
        obtain ⟨hi, hz0, hz1, hz2⟩ := HI.out
        have hown2 := hown.alloc (.cells #[.int .i64 (-u.y), .int .i64 u.x, .int .u8 u.kind, .int .i64 u.weight, .int .i64 u.reach] 52)
        go_wp2_with (at_builtin; refine wpList_append_own _ rfl _ _ 22 rfl w.heap.size 52 i0 (.agg #[.int .i64 0, .int .i64 0, .int .u8 0, .int .i64 0, .int .i64 0]) 5 40 Try.underlying22 hi hz0 hz1 hz2 rfl (by decide) _ _ _ rfl (hown2.alloc _) ⟨wr.heap.size + 1, 0, none⟩ 1 1 (Pull.cells ⟨-u.y, u.x, u.kind, u.weight, u.reach⟩) rfl rfl ?c1 ?c2 ?c3 ?c4 ?c5 ?_)
        case c1 => have := cells_new_pull (wr.alloc (.cells #[.int .i64 (-u.y), .int .i64 u.x, .int .u8 u.kind, .int .i64 u.weight, .int .i64 u.reach] 52)) ⟨-u.y, u.x, u.kind, u.weight, u.reach⟩ 52; rw [World.size_alloc] at this; exact this
        case c2 => exact cells_one_pull _
        case c3 => unfold maxLen; omega
        case c4 => omega
        case c5 => simp; omega
        intro v' w7 hown3 hgrow _
        have hb6 := ((hb.trans ((((Below.refl wr.heap.size wr).alloc (Nat.le_refl _) _).alloc (by simp) _).mono hb.size)).grown hgrow (by simp; omega) (fun r hr => (hown.lt r hr).1))
        have HO := Lib.hid (show _ ∧ _ from ⟨hown3, hb6⟩)
        clear hown3 hgrow hown hown2 hb6 hi hz0 hz1 hz2
        go_wp2
        go_roundw
        case rel =>
          refine ⟨k + 1, by omega, by go_num, ?_, HO.out.2⟩
          have h1 := HO.out.1
          rw [← flat_one] at h1
          rw [HNX.out, turnU, HK.out]
          exact h1
        case measure => simp [intOf]; omega
    · obtain rfl : k = n := by omega
      obtain ⟨A', cap', rfl, hcap, hvs⟩ := Recs.of_own Pull.cells_len (turnTo_len l (by rw [HN.out]; exact Nat.le_refl _)) hown
      have HVS := Lib.hid (show _ ∧ _ from ⟨hcap, hvs⟩)
      have HTA := Lib.hid (turnTo_all HN.out)
      have HTL := Lib.hid (turnTo_len l (show k ≤ l.length by rw [HN.out]; exact Nat.le_refl _))
      clear hown hvs hv hcap
      go_wp2_with fail
      go_ret2
      refine retM ?_ hb
      unfold TurnRet
      rw [HE.out, turnL_ok HE.out, ← HTA.out, HTL.out]
      exact ⟨A', cap', rfl, HVS.out.1, HVS.out.2⟩
set_option maxRecDepth 100000 in
set_option maxHeartbeats 4000000 in
theorem refTurn_ok (A : Option Addr) (n cap : Nat) (l : List Pull) (w : World) (hn : l.length = n) (hv : Recs Pull.cells 5 w w.heap.size A l) (h64 : ∀ u ∈ l, u.In64) (hf : Fine l) :
    Calls Try.prog 18 #[.slice A n cap] w (RetM w (TurnRet l)) := by
  have HE := Lib.hid (fieldE_ok hf)
  have HF := Lib.hid hf
  have HN := Lib.hid hn
  have hl : n ≤ 60 := by have := hf.1; omega
  have c1 := fun w hv => refCheck_any A n cap l w hn (by omega) hv h64
  rw [HE.out] at c1
  obtain ⟨i0, hi, hz0, hz1, hz2⟩ := info_parts Try.infoPull
  have HI := Lib.hid (show _ ∧ _ ∧ _ ∧ _ from ⟨hi, hz0, hz1, hz2⟩)
  clear hn hf hi hz0 hz1 hz2
  go_enter Try.func18, Try.ntmps18
  go_wp2_with fail
  refine (c1 _ hv).mono ?_
  rintro e w1 ⟨rfl, hb1⟩
  clear c1
  go_wp2_with fail
  go_loopw [4, 5] (fun v i wr => ∃ k : Nat, k ≤ n ∧ i = .int .i64 k ∧ wr.ownsRow w.heap.size 52 5 v k ((turnTo l k).flatMap Pull.cells) ∧ Below w.heap.size w wr) (fun _ i _ => n - (intOf i).toNat)
  case atStart => exact ⟨0, Nat.zero_le _, rfl, World.ownsRow_nil _ _ _ _, hb1⟩
  case round =>
    obtain ⟨k, hk, rfl, hown, hb⟩ := hrel
    clear hb1
    by_cases hlt : k < n
    · have hlt' : k < l.length := by rw [HN.out]; exact hlt
      obtain ⟨b, off, rfl, hB, c0, c1, c2, c3, c4⟩ := pull_at (hv.below hb) hlt'
      have hs := hb.size
      have hu := HF.out.at_ hlt'
      have hnext := turnTo_succ hlt'
      obtain ⟨u, hud⟩ : ∃ u, l[k] = u := ⟨_, rfl⟩
      rw [hud] at c0 c1 c2 c3 c4 hu hnext
      obtain ⟨⟨u1, u2⟩, u3, u4, u5, u6, u7⟩ := pullB_iff.1 hu
      obtain ⟨ux1, ux2, ux3, ux4⟩ := inB_iff.1 u3
      have hturn : turnU u = ⟨-u.y, u.x, turnK u.kind, u.weight, u.reach⟩ := rfl
      have hk12 : (u.kind = 1 ∧ turnK u.kind = 2) ∨ (u.kind = 2 ∧ turnK u.kind = 1) ∨ (2 < u.kind ∧ turnK u.kind = u.kind) := by unfold turnK; split <;> omega
      have HU3 := Lib.hid u3
      have HNX := Lib.hid hnext
      clear hv h64 hud hu u3 hnext hturn
      have hlk := Nat.le_of_lt hlt
      go_wp2_with fail
      have nblk := Blk.new wr 52 #[.int .i64 u.x, .int .i64 u.y, .int .u8 u.kind, .int .i64 u.weight, .int .i64 u.reach]
      have nb := below_alloc wr (.cells #[.int .i64 u.x, .int .i64 u.y, .int .u8 u.kind, .int .i64 u.weight, .int .i64 u.reach] 52)
      generalize World.alloc wr _ = w2 at nblk nb ⊢
      refine (turned_any ⟨u.x, u.y⟩ _ HU3.out).mono ?_
      rintro e w3 ⟨rfl, hb2⟩
      replace nblk := nblk.keep hb2
      replace nb := nb.trans (hb2.mono nb.size)
      replace c2 := (nb.cell (p := ⟨b, off + k * 5 + 2, none⟩) (by simp only; omega)).trans c2
      have hown2 := ownsRow_below hown nb
      replace hb := hb.trans (nb.mono hb.size)
      have y0 := nblk.cell (i := 0) rfl
      have y1 := nblk.cell (i := 1) rfl
      have y2 := nblk.cell (i := 2) rfl
      have y3 := nblk.cell (i := 3) rfl
      have y4 := nblk.cell (i := 4) rfl
      have yf := nblk.frozen
      have yl := nblk.lt
      have hne : ¬ b = wr.heap.size := by omega
      have hfar := fun r hr => Nat.ne_of_lt (hown.lt r hr).2
      have hle : w.heap.size ≤ wr.heap.size := hs
      rcases hk12 with ⟨hk1, hk2⟩ | ⟨hk1, hk2⟩ | ⟨hk1, hk2⟩
      · have HK := Lib.hid hk2
        rw [hk1] at c2 y2
        clear hk1 hk2
        obtain ⟨hi, hz0, hz1, hz2⟩ := HI.out
        have hown4 := ownsRow_far (ownsRow_far (ownsRow_far hown2 (p := ⟨wr.heap.size, 0, none⟩) hfar (.int .i64 (-u.y))) (p := ⟨wr.heap.size, 1, none⟩) hfar (.int .i64 u.x)) (p := ⟨wr.heap.size, 2, none⟩) hfar (.int .u8 2)
        have hb4 := Lib.hid (((hb.setCell (p := ⟨wr.heap.size, 0, none⟩) hle (.int .i64 (-u.y))).setCell (p := ⟨wr.heap.size, 1, none⟩) hle (.int .i64 u.x)).setCell (p := ⟨wr.heap.size, 2, none⟩) hle (.int .u8 2))
        have hs4 := hb4.out.size
        simp only [World.size_setCell] at hs4
        go_wp2_with (at_builtin; refine wpList_append_own _ rfl _ _ 22 rfl w.heap.size 52 i0 (.agg #[.int .i64 0, .int .i64 0, .int .u8 0, .int .i64 0, .int .i64 0]) 5 40 Try.underlying22 hi hz0 hz1 hz2 rfl (by decide) _ _ _ rfl (hown4.alloc _) ⟨w3.heap.size, 0, none⟩ 1 1 (Pull.cells ⟨-u.y, u.x, 2, u.weight, u.reach⟩) rfl rfl ?c1 ?c2 ?c3 ?c4 ?c5 ?_)
        case c1 => have := cells_new_pull (((w3.setCell ⟨wr.heap.size, 0, none⟩ (.int .i64 (-u.y))).setCell ⟨wr.heap.size, 1, none⟩ (.int .i64 u.x)).setCell ⟨wr.heap.size, 2, none⟩ (.int .u8 2)) ⟨-u.y, u.x, 2, u.weight, u.reach⟩ 52; simp only [World.size_setCell] at this; exact this
        case c2 => exact cells_one_pull _
        case c3 => unfold maxLen; omega
        case c4 => omega
        case c5 => simp; omega
        intro v' w7 hown3 hgrow _
        have hb6 := (hb4.out.trans ((below_alloc _ _).mono (by simp only [World.size_setCell]; omega))).grown hgrow (by simp; omega) (fun r hr => (hown.lt r hr).1)
        have HO := Lib.hid (show _ ∧ _ from ⟨hown3, hb6⟩)
        clear hown3 hgrow hown hown2 hown4 hb4 hb6 hi hz0 hz1 hz2 hfar
        go_wp2
        go_roundw
        case rel =>
          refine ⟨k + 1, by omega, by go_num, ?_, HO.out.2⟩
          have h1 := HO.out.1
          rw [← flat_one] at h1
          rw [HNX.out, turnU, HK.out]
          exact h1
        case measure => simp [intOf]; omega
      · have HK := Lib.hid hk2
        rw [hk1] at c2 y2
        clear hk1 hk2
        obtain ⟨hi, hz0, hz1, hz2⟩ := HI.out
        have hown4 := ownsRow_far (ownsRow_far (ownsRow_far hown2 (p := ⟨wr.heap.size, 0, none⟩) hfar (.int .i64 (-u.y))) (p := ⟨wr.heap.size, 1, none⟩) hfar (.int .i64 u.x)) (p := ⟨wr.heap.size, 2, none⟩) hfar (.int .u8 1)
        have hb4 := Lib.hid (((hb.setCell (p := ⟨wr.heap.size, 0, none⟩) hle (.int .i64 (-u.y))).setCell (p := ⟨wr.heap.size, 1, none⟩) hle (.int .i64 u.x)).setCell (p := ⟨wr.heap.size, 2, none⟩) hle (.int .u8 1))
        have hs4 := hb4.out.size
        simp only [World.size_setCell] at hs4
        go_wp2_with (at_builtin; refine wpList_append_own _ rfl _ _ 22 rfl w.heap.size 52 i0 (.agg #[.int .i64 0, .int .i64 0, .int .u8 0, .int .i64 0, .int .i64 0]) 5 40 Try.underlying22 hi hz0 hz1 hz2 rfl (by decide) _ _ _ rfl (hown4.alloc _) ⟨w3.heap.size, 0, none⟩ 1 1 (Pull.cells ⟨-u.y, u.x, 1, u.weight, u.reach⟩) rfl rfl ?c1 ?c2 ?c3 ?c4 ?c5 ?_)
        case c1 => have := cells_new_pull (((w3.setCell ⟨wr.heap.size, 0, none⟩ (.int .i64 (-u.y))).setCell ⟨wr.heap.size, 1, none⟩ (.int .i64 u.x)).setCell ⟨wr.heap.size, 2, none⟩ (.int .u8 1)) ⟨-u.y, u.x, 1, u.weight, u.reach⟩ 52; simp only [World.size_setCell] at this; exact this
        case c2 => exact cells_one_pull _
        case c3 => unfold maxLen; omega
        case c4 => omega
        case c5 => simp; omega
        intro v' w7 hown3 hgrow _
        have hb6 := (hb4.out.trans ((below_alloc _ _).mono (by simp only [World.size_setCell]; omega))).grown hgrow (by simp; omega) (fun r hr => (hown.lt r hr).1)
        have HO := Lib.hid (show _ ∧ _ from ⟨hown3, hb6⟩)
        clear hown3 hgrow hown hown2 hown4 hb4 hb6 hi hz0 hz1 hz2 hfar
        go_wp2
        go_roundw
        case rel =>
          refine ⟨k + 1, by omega, by go_num, ?_, HO.out.2⟩
          have h1 := HO.out.1
          rw [← flat_one] at h1
          rw [HNX.out, turnU, HK.out]
          exact h1
        case measure => simp [intOf]; omega
      · have HK := Lib.hid hk2
        clear hk2
        obtain ⟨hi, hz0, hz1, hz2⟩ := HI.out
        have hown4 := ownsRow_far (ownsRow_far hown2 (p := ⟨wr.heap.size, 0, none⟩) hfar (.int .i64 (-u.y))) (p := ⟨wr.heap.size, 1, none⟩) hfar (.int .i64 u.x)
        have hb4 := Lib.hid ((hb.setCell (p := ⟨wr.heap.size, 0, none⟩) hle (.int .i64 (-u.y))).setCell (p := ⟨wr.heap.size, 1, none⟩) hle (.int .i64 u.x))
        have hs4 := hb4.out.size
        simp only [World.size_setCell] at hs4
        go_wp2_with (at_builtin; refine wpList_append_own _ rfl _ _ 22 rfl w.heap.size 52 i0 (.agg #[.int .i64 0, .int .i64 0, .int .u8 0, .int .i64 0, .int .i64 0]) 5 40 Try.underlying22 hi hz0 hz1 hz2 rfl (by decide) _ _ _ rfl (hown4.alloc _) ⟨w3.heap.size, 0, none⟩ 1 1 (Pull.cells ⟨-u.y, u.x, u.kind, u.weight, u.reach⟩) rfl rfl ?c1 ?c2 ?c3 ?c4 ?c5 ?_)
        case c1 => have := cells_new_pull ((w3.setCell ⟨wr.heap.size, 0, none⟩ (.int .i64 (-u.y))).setCell ⟨wr.heap.size, 1, none⟩ (.int .i64 u.x)) ⟨-u.y, u.x, u.kind, u.weight, u.reach⟩ 52; simp only [World.size_setCell] at this; exact this
        case c2 => exact cells_one_pull _
        case c3 => unfold maxLen; omega
        case c4 => omega
        case c5 => simp; omega
        intro v' w7 hown3 hgrow _
        have hb6 := (hb4.out.trans ((below_alloc _ _).mono (by simp only [World.size_setCell]; omega))).grown hgrow (by simp; omega) (fun r hr => (hown.lt r hr).1)
        have HO := Lib.hid (show _ ∧ _ from ⟨hown3, hb6⟩)
        clear hown3 hgrow hown hown2 hown4 hb4 hb6 hi hz0 hz1 hz2 hfar
        go_wp2
        go_roundw
        case rel =>
          refine ⟨k + 1, by omega, by go_num, ?_, HO.out.2⟩
          have h1 := HO.out.1
          rw [← flat_one] at h1
          rw [HNX.out, turnU, HK.out]
          exact h1
        case measure => simp [intOf]; omega
    · obtain rfl : k = n := by omega
      obtain ⟨A', cap', rfl, hcap, hvs⟩ := Recs.of_own Pull.cells_len (turnTo_len l (by rw [HN.out]; exact Nat.le_refl _)) hown
      have HVS := Lib.hid (show _ ∧ _ from ⟨hcap, hvs⟩)
      have HTA := Lib.hid (turnTo_all HN.out)
      have HTL := Lib.hid (turnTo_len l (show k ≤ l.length by rw [HN.out]; exact Nat.le_refl _))
      clear hown hvs hv hcap
      go_wp2_with fail
      go_ret2
      refine retM ?_ hb
      unfold TurnRet
      rw [HE.out, turnL_ok HE.out, ← HTA.out, HTL.out]
      exact ⟨A', cap', rfl, HVS.out.1, HVS.out.2⟩

set_option maxHeartbeats 1000000 in
theorem turn_any (A : Option Addr) (n cap : Nat) (l : List Pull) (w : World) (hn : l.length = n) (hl : n ≤ 4611686018427387904) (hv : Recs Pull.cells 5 w w.heap.size A l) (h64 : ∀ u ∈ l, u.In64) :
    Calls Try.prog 17 #[.slice A n cap] w (RetM w (TurnRet l)) := by
  rcases fieldE_cases l with ⟨hf, -⟩ | ⟨-, hf⟩
  · exact turn_ok A n cap l w hn hv h64 hf
  have c1 := fun w hv => check_any A n cap l w hn hl hv h64
  clear hn h64
  rcases hf with hf | hf
  all_goals
    have HF := Lib.hid hf
    rw [hf] at c1
    clear hf
    go_enter Try.func17, Try.ntmps17
    go_wp2_with fail
    refine (c1 _ hv).mono ?_
    rintro e w1 ⟨rfl, hb1⟩
    go_wp2_with fail
    go_ret2
    exact turn_none HF.out (by decide) hb1

set_option maxHeartbeats 1000000 in
theorem refTurn_any (A : Option Addr) (n cap : Nat) (l : List Pull) (w : World) (hn : l.length = n) (hl : n ≤ 4611686018427387904) (hv : Recs Pull.cells 5 w w.heap.size A l) (h64 : ∀ u ∈ l, u.In64) :
    Calls Try.prog 18 #[.slice A n cap] w (RetM w (TurnRet l)) := by
  rcases fieldE_cases l with ⟨hf, -⟩ | ⟨-, hf⟩
  · exact refTurn_ok A n cap l w hn hv h64 hf
  have c1 := fun w hv => refCheck_any A n cap l w hn hl hv h64
  clear hn h64
  rcases hf with hf | hf
  all_goals
    have HF := Lib.hid hf
    rw [hf] at c1
    clear hf
    go_enter Try.func18, Try.ntmps18
    go_wp2_with fail
    refine (c1 _ hv).mono ?_
    rintro e w1 ⟨rfl, hb1⟩
    go_wp2_with fail
    refine (c1 _ (hv.below hb1 |>.more hb1.size)).mono ?_
    rintro e w2 ⟨rfl, hb2⟩
    replace hb1 := hb1.trans (hb2.mono hb1.size)
    clear hb2
    go_wp2_with fail
    go_ret2
    exact turn_none HF.out (by decide) hb1
end Go.Proofs.Ytmomjjjfjjgepaa
