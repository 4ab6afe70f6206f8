/- Refine of the reference: the ends ahead of the refining. -/
import Derived.Test.YtfdjhiomdimfcaaSubF
namespace Go.Proofs.Ytfdjhiomdimfcaa
open Go.RowKit Go.Rel

set_option maxHeartbeats 1000000 in
/-- The arguments are refused. -/
theorem refRefine_bad (A : Option Addr) (n cap : Nat) (l : List Vec) (down d : Int) (closed : Bool) (w : World) (E : Int) (hE : checkedE l down d = E) (hE0 : E = 8 ∨ E = 2) (hn : l.length = n) (hl : n ≤ 4611686018427387904) (hv : Vecs w w.heap.size A l) (hd : -9223372036854775808 ≤ d ∧ d ≤ 9223372036854775807) :
    Calls Try.prog 18 #[.agg #[.slice A n cap, .int .i64 down, .bool closed], .int .i64 d] w (RetM w (CurveRet w.heap.size 31 [] 0 false E)) := by
  have hck := fun W hW => refChecked_any A n cap l down d closed W hn hl hW hd
  rw [hE] at hck
  clear hE
  have HCK := Lib.hid hck
  clear hck hn
  obtain ⟨x1, x2, x3, x4⟩ := boxes2 w #[.slice A n cap, .int .i64 down, .bool closed] #[.slice none 0 0, .int .i64 0, .bool false] 24 24
  have hx := Lib.hid (show _ ∧ _ ∧ _ ∧ _ from ⟨x1, x2, x3, x4⟩)
  clear x1 x2 x3 x4
  rcases hE0 with rfl | rfl
  all_goals
    go_enter Try.func18, Try.ntmps18
    go_wp2_with fail
    obtain ⟨x1, x2, x3, x4⟩ := hx.out
    generalize World.alloc _ _ = w0 at x1 x2 x3 x4 ⊢
    refine (HCK.out _ ((hv.below x1).more (by omega))).mono ?_
    rintro e w1 ⟨rfl, hb1⟩
    have y4 : Blk w1 (w.heap.size + 1) 24 #[.slice none 0 0, .int .i64 0, .bool false] := Blk.keep x4 hb1
    have y3 : Blk w1 w.heap.size 24 _ := Blk.keep x3 hb1
    have c0 := y3.cell (i := 0) rfl
    have c1 := y3.cell (i := 1) rfl
    have c2 := y3.cell (i := 2) rfl
    have hs := y4.lt
    have hs0 := y3.lt
    have hb := x1.trans (hb1.mono (by omega))
    have HY4 := Lib.hid y4
    clear y4 y3 x1 x2 x3 x4 hb1
    go_wp2_with fail
    refine (HCK.out _ ((hv.below hb).more hb.size)).mono ?_
    rintro e w2 ⟨rfl, hb2⟩
    have y4 := HY4.out.keep hb2
    have k0 := y4.cell (i := 0) rfl
    have k1 := y4.cell (i := 1) rfl
    have k2 := y4.cell (i := 2) rfl
    have k3 := y4.frozen
    have hL := y4.lt
    replace hb := hb.trans (hb2.mono hb.size)
    clear HY4 c0 c1 c2 hb2
    have z := y4.set3 (.slice none 0 0) (.int .i64 0) (.bool false)
    have hb3 := ((hb.setCell (p := ⟨w.heap.size + 1, 0, none⟩) (by simp) (.slice none 0 0)).setCell (p := ⟨w.heap.size + 1, 1, none⟩) (by simp) (.int .i64 0)).setCell (p := ⟨w.heap.size + 1, 2, none⟩) (by simp) (.bool false)
    have HZ := Lib.hid (show _ ∧ _ from ⟨z, hb3⟩)
    clear y4 z hb3
    go_wp2_with fail
    obtain ⟨z, hb3⟩ := HZ.out
    generalize World.setCell _ _ _ = w9 at z hb3 ⊢
    have z0 := z.cell (i := 0) rfl
    have z1 := z.cell (i := 1) rfl
    have z2 := z.cell (i := 2) rfl
    refine bodyPost_ret (by simp [results, Try.results18, go_sem, z0, z1, z2]; rfl) rfl ?_
    exact retM ⟨_, rfl, World.ownsRow_nil _ _ _ _⟩ hb3

set_option maxHeartbeats 1000000 in
/-- Too few points, or too many. -/
theorem refRefine_few (A : Option Addr) (n cap : Nat) (l : List Vec) (down : Int) (d : Nat) (closed : Bool) (w : World) (hv0 : Valid l down) (hd : 1 ≤ d ∧ d ≤ 3) (hn : l.length = n) (hv : Vecs w w.heap.size A l) (E : Int) (hE : (refM n d closed < 1 ∧ E = 6) ∨ (1000 < refM n d closed ∧ E = 4)) :
    Calls Try.prog 18 #[.agg #[.slice A n cap, .int .i64 down, .bool closed], .int .i64 d] w (RetM w (CurveRet w.heap.size 31 [] 0 false E)) := by
  have hn1000 : n ≤ 1000 := by have := hv0.2.1; omega
  have hck := fun W hW => refChecked_any A n cap l down d closed W hn (by omega) hW ⟨by omega, by omega⟩
  rw [show checkedE l down d = 0 by unfold checkedE; rw [if_pos hv0, if_pos ⟨by omega, by omega⟩]] at hck
  have HCK := Lib.hid hck
  clear hck hn hv0
  obtain ⟨x1, x2, x3, x4⟩ := boxes2 w #[.slice A n cap, .int .i64 down, .bool closed] #[.slice none 0 0, .int .i64 0, .bool false] 24 24
  have hx := Lib.hid (show _ ∧ _ ∧ _ ∧ _ from ⟨x1, x2, x3, x4⟩)
  clear x1 x2 x3 x4
  obtain ⟨d1, d2⟩ := hd
  cases closed
  all_goals
    simp only [refM, Bool.false_eq_true, if_false, if_true] at hE
    rcases hE with ⟨hE1, rfl⟩ | ⟨hE1, rfl⟩
  all_goals (try (exfalso; omega))
  all_goals
    go_enter Try.func18, Try.ntmps18
    go_wp2_with fail
    obtain ⟨x1, x2, x3, x4⟩ := hx.out
    generalize World.alloc _ _ = w0 at x1 x2 x3 x4 ⊢
    refine (HCK.out _ ((hv.below x1).more (by omega))).mono ?_
    rintro e w1 ⟨rfl, hb1⟩
    have y4 : Blk w1 (w.heap.size + 1) 24 #[.slice none 0 0, .int .i64 0, .bool false] := Blk.keep x4 hb1
    have y3 : Blk w1 w.heap.size 24 _ := Blk.keep x3 hb1
    have k0 := y4.cell (i := 0) rfl
    have k1 := y4.cell (i := 1) rfl
    have k2 := y4.cell (i := 2) rfl
    have k3 := y4.frozen
    have c0 := y3.cell (i := 0) rfl
    have c2 := y3.cell (i := 2) rfl
    have hs := y4.lt
    have hb := x1.trans (hb1.mono (by omega))
    have z := y4.set3 (.slice none 0 0) (.int .i64 0) (.bool false)
    have hb3 := ((hb.setCell (p := ⟨w.heap.size + 1, 0, none⟩) (by simp) (.slice none 0 0)).setCell (p := ⟨w.heap.size + 1, 1, none⟩) (by simp) (.int .i64 0)).setCell (p := ⟨w.heap.size + 1, 2, none⟩) (by simp) (.bool false)
    have HZ := Lib.hid (show _ ∧ _ from ⟨z, hb3⟩)
    clear x1 x2 x3 x4 hb1 y4 z hb3 hv y3
    go_wp2_with fail
    obtain ⟨z, hb3⟩ := HZ.out
    generalize World.setCell _ _ _ = w9 at z hb3 ⊢
    have z0 := z.cell (i := 0) rfl
    have z1 := z.cell (i := 1) rfl
    have z2 := z.cell (i := 2) rfl
    refine bodyPost_ret (by simp [results, Try.results18, go_sem, z0, z1, z2]; rfl) rfl ?_
    exact retM ⟨_, rfl, World.ownsRow_nil _ _ _ _⟩ hb3
end Go.Proofs.Ytfdjhiomdimfcaa
