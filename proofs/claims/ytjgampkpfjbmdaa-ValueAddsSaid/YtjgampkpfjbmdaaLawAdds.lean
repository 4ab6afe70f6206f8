/- ValueAdds returns true for all values, and writes nothing that was there. -/
import Derived.Test.YtjgampkpfjbmdaaValK
import Derived.Test.YtjgampkpfjbmdaaValO
import Derived.Test.YtjgampkpfjbmdaaValQ
import Derived.Test.YtjgampkpfjbmdaaValRow
import Derived.Test.YtjgampkpfjbmdaaRegionS
namespace Go.Rel
open Go.RowKit
theorem fit_none : fitT .none_ 10 = true := by decide
theorem fit_str {s : ByteArray} (h : s.size ≤ 200) : fitT (tStr s) 10 = true := by
  unfold tStr; rw [fitT_succ, decide_eq_true h]; rfl
theorem fit_num (r : Rat2) : fitT (tNum r) 10 = true := by unfold tNum; rw [fitT_succ]; rfl
theorem fit_list {l : List Tree} (h : l.length ≤ 150) (hl : ∀ x ∈ l, fitT x 9 = true) : fitT (tList l) 10 = true := by
  have key : ∀ l : List Tree, (∀ x ∈ l, fitT x 9 = true) → fitL l 9 = true := by
    intro l
    induction l with
    | nil => intro _; rfl
    | cons x r ih => intro hx; simp only [fitL, Bool.and_eq_true]; exact ⟨hx x (by simp), ih (fun y hy => hx y (by simp [hy]))⟩
  unfold tList
  rw [fitT_succ, decide_eq_true h, key l hl]; rfl
/-- The blocks that may be written over. -/
def QA (B g1 g2 : Nat) (b : Nat) : Prop := B ≤ b ∧ b ≠ g1 ∧ b ≠ g2
/-- What the operations of 'one, two := Twin(a), Twin(b)' make. -/
def SpanS (e : TypeId) (B : Nat) (T U : Tree) : Nat → Nat → Nat → Value → World → Prop
  | 1, lo, hi, v, W => ∃ x : Val, v = x.v ∧ Reads W (OwnQ W (fun b => lo ≤ b ∧ b < hi) e) T x
  | 3, lo, hi, v, W => ∃ x : Val, v = x.v ∧ Reads W (OwnQ W (fun b => lo ≤ b ∧ b < hi) e) U x
  | 4, lo, hi, v, W => v = .pointer (some ⟨lo, 0, none⟩) ∧ hi = lo + 1 ∧ B ≤ lo ∧ Blk W lo e noneV.box
  | 5, lo, hi, v, W => v = .pointer (some ⟨lo, 0, none⟩) ∧ hi = lo + 1 ∧ B ≤ lo ∧ Blk W lo e noneV.box
  | _, _, _, _, _ => True
theorem OwnQ.below {W W' : World} {Q : Nat → Prop} {e : TypeId} {T : Tree} {x : Val} (h : Reads W (OwnQ W Q e) T x) (hb : Below W.heap.size W W') : Reads W' (OwnQ W' Q e) T x :=
  Reads.mono (fun b _ hp => ⟨hp.1, hp.2.1, hp.2.2.imp fun _ h => (hb.block b hp.lt).trans h⟩) (fun b _ hp => hb.block b hp.lt) h
theorem spanS_mono (e : TypeId) (B : Nat) (T U : Tree) (i lo hi : Nat) (v : Value) (W W' : World) (h : SpanS e B T U i lo hi v W) (hb : Kp W W') : SpanS e B T U i lo hi v W' := by
  unfold SpanS at h ⊢
  split at h
  · obtain ⟨x, h1, h2⟩ := h; exact ⟨x, h1, OwnQ.below h2 hb⟩
  · obtain ⟨x, h1, h2⟩ := h; exact ⟨x, h1, OwnQ.below h2 hb⟩
  · exact ⟨h.1, h.2.1, h.2.2.1, h.2.2.2.keep hb⟩
  · exact ⟨h.1, h.2.1, h.2.2.1, h.2.2.2.keep hb⟩
  · trivial
theorem span_of_twn {W W' : World} {e : TypeId} {T : Tree} {x : Val} (h : Twn W' W.heap.size e T x) : Reads W' (OwnQ W' (fun b => W.heap.size ≤ b ∧ b < W'.heap.size) e) T x :=
  Reads.mono (fun _ _ hp => ⟨⟨hp.1, hp.lt⟩, hp.2.1, hp.2.2⟩) (fun _ _ _ => rfl) h.fresh
end Go.Rel
namespace Go.Proofs.Ytjgampkpfjbmdaa
open Go.RowKit Go.Rel
theorem great_fit2 {T : Tree} (h : greatT T = false) : fitT T 10 = true := by
  unfold greatT at h
  cases hf : fitT T 10 with
  | true => rfl
  | false => rw [hf] at h; simp at h
theorem fit_add {T U : Tree} (h : fitT T 10 = true) (h' : fitT U 10 = true) : fitT (addT T U) 10 = true := by
  obtain ⟨k, q, t, s, ka⟩ := T
  obtain ⟨k', q', t', s', kb⟩ := U
  obtain ⟨e, he, -, -, hk⟩ := fitT_parts h
  obtain ⟨e', he', -, -, hk'⟩ := fitT_parts h'
  obtain rfl : 9 = e := by omega
  obtain rfl : 9 = e' := by omega
  unfold addT
  split
  · exact fit_none
  split
  · exact fit_none
  split
  · split
    · exact fit_none
    · exact fit_num _
  split
  · split
    · exact fit_none
    · refine fit_str ?_
      rw [ByteArray.size_append]
      simp only [Tree.s] at *
      omega
  · split
    · exact fit_none
    · rename_i hn
      have := partsL_len (ka ++ kb)
      simp only [Tree.kids] at *
      exact fit_list (by omega) (fun x hx => (List.mem_append.1 hx).elim (hk x) (hk' x))
attribute [local irreducible] Go.Rel.Gives in
set_option maxRecDepth 100000 in
set_option maxHeartbeats 16000000 in
theorem adds_walk (T U : Tree) (x y : Val) (w : World) (hr : RdB w w.heap.size T x) (hr' : RdB w w.heap.size U y) :
    Calls Try.prog 4 #[x.v, y.v] w (Ret w (.bool true)) := by
  have HR := Lib.hid (show _ ∧ _ from ⟨hr, hr'⟩)
  have HB := Lib.hid (two_boxes w 26 x y)
  clear hr hr'
  obtain ⟨k, q, t, s, A, len, cap⟩ := x
  obtain ⟨k', q', t', s', A', len', cap'⟩ := y
  go_enter Try.func4, Try.ntmps4
  obtain ⟨hb0, hz0, hx0, hy0⟩ := HB.out
  obtain ⟨c0, c1, c2, c3, c4, c5⟩ := hx0.val
  go_wp2_with fail
  refine (refGreat_any T _ _ (HR.out.1.in_ hb0 hb0.size)).mono ?_
  rintro e w1 ⟨rfl, hb1⟩
  have hsz1 := hb1.size
  rw [hz0] at hsz1
  replace hb0 := hb0.trans (hb1.mono hb0.size)
  replace hx0 := hx0.keep hb1
  replace hy0 := hy0.keep hb1
  clear c0 c1 c2 c3 c4 c5 HB hb1 hz0
  cases hg : greatT T
  case true =>
    go_wp2_with fail
    go_ret
    exact ret_bool rfl hb0
  have hfT := Lib.hid (great_fit2 hg)
  clear hg
  obtain ⟨d0, d1, d2, d3, d4, d5⟩ := hy0.val
  go_wp2_with fail
  refine (refGreat_any U _ _ (HR.out.2.in_ hb0 hb0.size)).mono ?_
  rintro e w2 ⟨rfl, hb2⟩
  replace hsz1 := Nat.le_trans hsz1 hb2.size
  replace hb0 := hb0.trans (hb2.mono hb0.size)
  replace hx0 := hx0.keep hb2
  replace hy0 := hy0.keep hb2
  clear d0 d1 d2 d3 d4 d5 hb2
  cases hg : greatT U
  case true =>
    go_wp2_with fail
    go_ret
    exact ret_bool rfl hb0
  have hfU := Lib.hid (great_fit2 hg)
  clear hg
  have cx0 : ∀ W, Below w2.heap.size w2 W → W.cell? ⟨w.heap.size, 0, none⟩ = some (.int .u8 k) := fun W hW => (hx0.keep hW).cell rfl
  have cx1 : ∀ W, Below w2.heap.size w2 W → W.cell? ⟨w.heap.size, 1, none⟩ = some (.int .i64 q.n) := fun W hW => (hx0.keep hW).cell rfl
  have cx2 : ∀ W, Below w2.heap.size w2 W → W.cell? ⟨w.heap.size, 2, none⟩ = some (.int .i64 q.d) := fun W hW => (hx0.keep hW).cell rfl
  have cx3 : ∀ W, Below w2.heap.size w2 W → W.cell? ⟨w.heap.size, 3, none⟩ = some (.bool t) := fun W hW => (hx0.keep hW).cell rfl
  have cx4 : ∀ W, Below w2.heap.size w2 W → W.cell? ⟨w.heap.size, 4, none⟩ = some (.string s) := fun W hW => (hx0.keep hW).cell rfl
  have cx5 : ∀ W, Below w2.heap.size w2 W → W.cell? ⟨w.heap.size, 5, none⟩ = some (.slice A len cap) := fun W hW => (hx0.keep hW).cell rfl
  have cy0 : ∀ W, Below w2.heap.size w2 W → W.cell? ⟨w.heap.size + 1, 0, none⟩ = some (.int .u8 k') := fun W hW => (hy0.keep hW).cell rfl
  have cy1 : ∀ W, Below w2.heap.size w2 W → W.cell? ⟨w.heap.size + 1, 1, none⟩ = some (.int .i64 q'.n) := fun W hW => (hy0.keep hW).cell rfl
  have cy2 : ∀ W, Below w2.heap.size w2 W → W.cell? ⟨w.heap.size + 1, 2, none⟩ = some (.int .i64 q'.d) := fun W hW => (hy0.keep hW).cell rfl
  have cy3 : ∀ W, Below w2.heap.size w2 W → W.cell? ⟨w.heap.size + 1, 3, none⟩ = some (.bool t') := fun W hW => (hy0.keep hW).cell rfl
  have cy4 : ∀ W, Below w2.heap.size w2 W → W.cell? ⟨w.heap.size + 1, 4, none⟩ = some (.string s') := fun W hW => (hy0.keep hW).cell rfl
  have cy5 : ∀ W, Below w2.heap.size w2 W → W.cell? ⟨w.heap.size + 1, 5, none⟩ = some (.slice A' len' cap') := fun W hW => (hy0.keep hW).cell rfl
  have HRT := Lib.hid (fun W (hW : Below w2.heap.size w2 W) => refTwin_any 10 T ⟨k, q, t, s, A, len, cap⟩ W hfT.out (HR.out.1.in_ (hb0.trans (hW.mono hb0.size)) (Nat.le_trans hb0.size hW.size)))
  have HRU := Lib.hid (fun W (hW : Below w2.heap.size w2 W) => refTwin_any 10 U ⟨k', q', t', s', A', len', cap'⟩ W hfU.out (HR.out.2.in_ (hb0.trans (hW.mono hb0.size)) (Nat.le_trans hb0.size hW.size)))
  go_wp2_with fail
  apply wp_region_headS 6 79 (S := SpanS 26 w2.heap.size T U) (hR := kp_keeps) (hSm := spanS_mono 26 w2.heap.size T U) (hRs := fun _ _ h => h.size) (hm := by kernel_rfl) (hN := rfl)
  case h =>
    simp only [List.take_succ_cons, List.take_zero]
    (apply headS_still (by kernel_rfl); (intro W hW; go_simp; (try rfl)); (intro W; trivial))
    simp only [Act.put, List.setIfInBounds_toArray, List.set_cons_succ, List.set_cons_zero]
    apply headS_mem [] (fun _ _ _ => True) (by kernel_rfl) (fun _ _ _ _ _ _ => trivial)
    · intro W hW _
      unfold Gives
      go_simp
      exact (HRT.out W hW).mono fun e W' ⟨x', h1, h2, h3⟩ => ⟨_, h1, h3, x', rfl, span_of_twn h2⟩
    intro v1
    simp only [Act.put, List.setIfInBounds_toArray, List.set_cons_succ, List.set_cons_zero]
    (apply headS_still (by kernel_rfl); (intro W hW; go_simp; (try rfl)); (intro W; trivial))
    simp only [Act.put, List.setIfInBounds_toArray, List.set_cons_succ, List.set_cons_zero]
    apply headS_mem [] (fun _ _ _ => True) (by kernel_rfl) (fun _ _ _ _ _ _ => trivial)
    · intro W hW _
      unfold Gives
      go_simp
      exact (HRU.out W hW).mono fun e W' ⟨x', h1, h2, h3⟩ => ⟨_, h1, h3, x', rfl, span_of_twn h2⟩
    intro v3
    simp only [Act.put, List.setIfInBounds_toArray, List.set_cons_succ, List.set_cons_zero]
    apply headS_mem [] (fun _ _ _ => True) (by kernel_rfl) (fun _ _ _ _ _ _ => trivial)
    · intro W hW _
      unfold Gives
      go_simp
      exact ⟨below_alloc W _, rfl, by simp, hW.size, Blk.new W _ _⟩
    intro v4
    simp only [Act.put, List.setIfInBounds_toArray, List.set_cons_succ, List.set_cons_zero]
    apply headS_mem [] (fun _ _ _ => True) (by kernel_rfl) (fun _ _ _ _ _ _ => trivial)
    · intro W hW _
      unfold Gives
      go_simp
      exact ⟨below_alloc W _, rfl, by simp, hW.size, Blk.new W _ _⟩
    intro v5
    simp only [Act.put, List.setIfInBounds_toArray, List.set_cons_succ, List.set_cons_zero]
    refine headS_nil ?_
    intro W hW hF hSp
    obtain ⟨iv, s1, s2⟩ := hSp
    have p1 : SpanS 26 w2.heap.size T U 1 _ _ v1 W := (s1 1 (by decide) rfl).2.2
    have p3 : SpanS 26 w2.heap.size T U 3 _ _ v3 W := (s1 3 (by decide) rfl).2.2
    have p4 : SpanS 26 w2.heap.size T U 4 _ _ v4 W := (s1 4 (by decide) rfl).2.2
    have p5 : SpanS 26 w2.heap.size T U 5 _ _ v5 W := (s1 5 (by decide) rfl).2.2
    have q1 := (s1 1 (by decide) rfl).2.1
    have q3 := (s1 3 (by decide) rfl).2.1
    have j14 := s2 1 4 (by decide) (by decide) (by decide) rfl rfl
    have j15 := s2 1 5 (by decide) (by decide) (by decide) rfl rfl
    have j34 := s2 3 4 (by decide) (by decide) (by decide) rfl rfl
    have j35 := s2 3 5 (by decide) (by decide) (by decide) rfl rfl
    have j45 := s2 4 5 (by decide) (by decide) (by decide) rfl rfl
    clear s1 s2
    generalize iv 1 = i1 at *
    generalize iv 3 = i3 at *
    generalize iv 4 = i4 at *
    generalize iv 5 = i5 at *
    obtain ⟨x1, rfl, r1⟩ := p1
    obtain ⟨x3, rfl, r3⟩ := p3
    obtain ⟨rfl, z4, b4, n4⟩ := p4
    obtain ⟨rfl, z5, b5, n5⟩ := p5
    obtain ⟨g4, hi4⟩ := i4
    obtain ⟨g5, hi5⟩ := i5
    dsimp only at z4 z5 b4 b5 n4 n5 j14 j15 j34 j35 j45
    obtain ⟨ka, qa, ta, sa, Aa, la, capa⟩ := x1
    obtain ⟨kb, qb, tb, sb, Ab, lb, capb⟩ := x3
    have hne : g4 ≠ g5 := by omega
    have hne' : g5 ≠ g4 := by omega
    have hbW := hb0.trans (hW.mono hb0.size)
    have hx := hx0.keep hW
    have hy := hy0.keep hW
    have m1 := n4.set6 (.int .u8 ka) (.int .i64 qa.n) (.int .i64 qa.d) (.bool ta) (.string sa) (.slice Aa la capa)
    have m5 : Blk ((((((W.setCell ⟨g4, 0, none⟩ (.int .u8 ka)).setCell ⟨g4, 1, none⟩ (.int .i64 qa.n)).setCell ⟨g4, 2, none⟩ (.int .i64 qa.d)).setCell ⟨g4, 3, none⟩ (.bool ta)).setCell ⟨g4, 4, none⟩ (.string sa)).setCell ⟨g4, 5, none⟩ (.slice Aa la capa)) g5 26 noneV.box := (far_set6 hne' _ _ _ _ _ _).trans n5
    have m2 : Blk ((((((((((((W.setCell ⟨g4, 0, none⟩ (.int .u8 ka)).setCell ⟨g4, 1, none⟩ (.int .i64 qa.n)).setCell ⟨g4, 2, none⟩ (.int .i64 qa.d)).setCell ⟨g4, 3, none⟩ (.bool ta)).setCell ⟨g4, 4, none⟩ (.string sa)).setCell ⟨g4, 5, none⟩ (.slice Aa la capa)).setCell ⟨g5, 0, none⟩ (.int .u8 kb)).setCell ⟨g5, 1, none⟩ (.int .i64 qb.n)).setCell ⟨g5, 2, none⟩ (.int .i64 qb.d)).setCell ⟨g5, 3, none⟩ (.bool tb)).setCell ⟨g5, 4, none⟩ (.string sb)).setCell ⟨g5, 5, none⟩ (.slice Ab lb capb)) g5 26 (Val.box ⟨kb, qb, tb, sb, Ab, lb, capb⟩) := m5.set6 (.int .u8 kb) (.int .i64 qb.n) (.int .i64 qb.d) (.bool tb) (.string sb) (.slice Ab lb capb)
    have m3 : Blk ((((((((((((W.setCell ⟨g4, 0, none⟩ (.int .u8 ka)).setCell ⟨g4, 1, none⟩ (.int .i64 qa.n)).setCell ⟨g4, 2, none⟩ (.int .i64 qa.d)).setCell ⟨g4, 3, none⟩ (.bool ta)).setCell ⟨g4, 4, none⟩ (.string sa)).setCell ⟨g4, 5, none⟩ (.slice Aa la capa)).setCell ⟨g5, 0, none⟩ (.int .u8 kb)).setCell ⟨g5, 1, none⟩ (.int .i64 qb.n)).setCell ⟨g5, 2, none⟩ (.int .i64 qb.d)).setCell ⟨g5, 3, none⟩ (.bool tb)).setCell ⟨g5, 4, none⟩ (.string sb)).setCell ⟨g5, 5, none⟩ (.slice Ab lb capb)) g4 26 (Val.box ⟨ka, qa, ta, sa, Aa, la, capa⟩) := (far_set6 hne _ _ _ _ _ _).trans m1
    have mx : Blk ((((((((((((W.setCell ⟨g4, 0, none⟩ (.int .u8 ka)).setCell ⟨g4, 1, none⟩ (.int .i64 qa.n)).setCell ⟨g4, 2, none⟩ (.int .i64 qa.d)).setCell ⟨g4, 3, none⟩ (.bool ta)).setCell ⟨g4, 4, none⟩ (.string sa)).setCell ⟨g4, 5, none⟩ (.slice Aa la capa)).setCell ⟨g5, 0, none⟩ (.int .u8 kb)).setCell ⟨g5, 1, none⟩ (.int .i64 qb.n)).setCell ⟨g5, 2, none⟩ (.int .i64 qb.d)).setCell ⟨g5, 3, none⟩ (.bool tb)).setCell ⟨g5, 4, none⟩ (.string sb)).setCell ⟨g5, 5, none⟩ (.slice Ab lb capb)) w.heap.size 26 (Val.box ⟨k, q, t, s, A, len, cap⟩) := (far_set6 (by omega) _ _ _ _ _ _).trans ((far_set6 (by omega) _ _ _ _ _ _).trans hx)
    have my : Blk ((((((((((((W.setCell ⟨g4, 0, none⟩ (.int .u8 ka)).setCell ⟨g4, 1, none⟩ (.int .i64 qa.n)).setCell ⟨g4, 2, none⟩ (.int .i64 qa.d)).setCell ⟨g4, 3, none⟩ (.bool ta)).setCell ⟨g4, 4, none⟩ (.string sa)).setCell ⟨g4, 5, none⟩ (.slice Aa la capa)).setCell ⟨g5, 0, none⟩ (.int .u8 kb)).setCell ⟨g5, 1, none⟩ (.int .i64 qb.n)).setCell ⟨g5, 2, none⟩ (.int .i64 qb.d)).setCell ⟨g5, 3, none⟩ (.bool tb)).setCell ⟨g5, 4, none⟩ (.string sb)).setCell ⟨g5, 5, none⟩ (.slice Ab lb capb)) (w.heap.size + 1) 26 (Val.box ⟨k', q', t', s', A', len', cap'⟩) := (far_set6 (by omega) _ _ _ _ _ _).trans ((far_set6 (by omega) _ _ _ _ _ _).trans hy)
    have mb := below_set6 (below_set6 hbW (show w.heap.size ≤ g4 by omega) (.int .u8 ka) (.int .i64 qa.n) (.int .i64 qa.d) (.bool ta) (.string sa) (.slice Aa la capa)) (show w.heap.size ≤ g5 by omega) (.int .u8 kb) (.int .i64 qb.n) (.int .i64 qb.d) (.bool tb) (.string sb) (.slice Ab lb capb)
    have hszF : (((((((((((((W.setCell ⟨g4, 0, none⟩ (.int .u8 ka)).setCell ⟨g4, 1, none⟩ (.int .i64 qa.n)).setCell ⟨g4, 2, none⟩ (.int .i64 qa.d)).setCell ⟨g4, 3, none⟩ (.bool ta)).setCell ⟨g4, 4, none⟩ (.string sa)).setCell ⟨g4, 5, none⟩ (.slice Aa la capa)).setCell ⟨g5, 0, none⟩ (.int .u8 kb)).setCell ⟨g5, 1, none⟩ (.int .i64 qb.n)).setCell ⟨g5, 2, none⟩ (.int .i64 qb.d)).setCell ⟨g5, 3, none⟩ (.bool tb)).setCell ⟨g5, 4, none⟩ (.string sb)).setCell ⟨g5, 5, none⟩ (.slice Ab lb capb))).heap.size = W.heap.size := by simp
    have rd1 : RdB ((((((((((((W.setCell ⟨g4, 0, none⟩ (.int .u8 ka)).setCell ⟨g4, 1, none⟩ (.int .i64 qa.n)).setCell ⟨g4, 2, none⟩ (.int .i64 qa.d)).setCell ⟨g4, 3, none⟩ (.bool ta)).setCell ⟨g4, 4, none⟩ (.string sa)).setCell ⟨g4, 5, none⟩ (.slice Aa la capa)).setCell ⟨g5, 0, none⟩ (.int .u8 kb)).setCell ⟨g5, 1, none⟩ (.int .i64 qb.n)).setCell ⟨g5, 2, none⟩ (.int .i64 qb.d)).setCell ⟨g5, 3, none⟩ (.bool tb)).setCell ⟨g5, 4, none⟩ (.string sb)).setCell ⟨g5, 5, none⟩ (.slice Ab lb capb)) W.heap.size T ⟨ka, qa, ta, sa, Aa, la, capa⟩ := Reads.mono (fun b _ hp => by have := hp.1; omega) (fun b _ hp => (far_set6 (by have := hp.1; omega) _ _ _ _ _ _).trans (far_set6 (by have := hp.1; omega) _ _ _ _ _ _)) r1
    have rd3 : RdB ((((((((((((W.setCell ⟨g4, 0, none⟩ (.int .u8 ka)).setCell ⟨g4, 1, none⟩ (.int .i64 qa.n)).setCell ⟨g4, 2, none⟩ (.int .i64 qa.d)).setCell ⟨g4, 3, none⟩ (.bool ta)).setCell ⟨g4, 4, none⟩ (.string sa)).setCell ⟨g4, 5, none⟩ (.slice Aa la capa)).setCell ⟨g5, 0, none⟩ (.int .u8 kb)).setCell ⟨g5, 1, none⟩ (.int .i64 qb.n)).setCell ⟨g5, 2, none⟩ (.int .i64 qb.d)).setCell ⟨g5, 3, none⟩ (.bool tb)).setCell ⟨g5, 4, none⟩ (.string sb)).setCell ⟨g5, 5, none⟩ (.slice Ab lb capb)) W.heap.size U ⟨kb, qb, tb, sb, Ab, lb, capb⟩ := Reads.mono (fun b _ hp => by have := hp.1; omega) (fun b _ hp => (far_set6 (by have := hp.1; omega) _ _ _ _ _ _).trans (far_set6 (by have := hp.1; omega) _ _ _ _ _ _)) r3
    have ra := HR.out.1.below mb (show w.heap.size ≤ W.heap.size from hbW.size)
    have rb := HR.out.2.below mb (show w.heap.size ≤ W.heap.size from hbW.size)
    rw [← hszF] at rd1 rd3 ra rb
    have hl4 := n4.lt
    have hl5 := n5.lt
    have F4 := Lib.hid (show _ ∧ _ ∧ _ ∧ _ ∧ _ ∧ _ ∧ _ ∧ _ ∧ _ from ⟨mb, mx, my, m3, m2, ra, rb, rd1, rd3⟩)
    have hz4 : g4 < (((((((((((((W.setCell ⟨g4, 0, none⟩ (.int .u8 ka)).setCell ⟨g4, 1, none⟩ (.int .i64 qa.n)).setCell ⟨g4, 2, none⟩ (.int .i64 qa.d)).setCell ⟨g4, 3, none⟩ (.bool ta)).setCell ⟨g4, 4, none⟩ (.string sa)).setCell ⟨g4, 5, none⟩ (.slice Aa la capa)).setCell ⟨g5, 0, none⟩ (.int .u8 kb)).setCell ⟨g5, 1, none⟩ (.int .i64 qb.n)).setCell ⟨g5, 2, none⟩ (.int .i64 qb.d)).setCell ⟨g5, 3, none⟩ (.bool tb)).setCell ⟨g5, 4, none⟩ (.string sb)).setCell ⟨g5, 5, none⟩ (.slice Ab lb capb))).heap.size := by rw [hszF]; exact hl4
    have hz5 : g5 < (((((((((((((W.setCell ⟨g4, 0, none⟩ (.int .u8 ka)).setCell ⟨g4, 1, none⟩ (.int .i64 qa.n)).setCell ⟨g4, 2, none⟩ (.int .i64 qa.d)).setCell ⟨g4, 3, none⟩ (.bool ta)).setCell ⟨g4, 4, none⟩ (.string sa)).setCell ⟨g4, 5, none⟩ (.slice Aa la capa)).setCell ⟨g5, 0, none⟩ (.int .u8 kb)).setCell ⟨g5, 1, none⟩ (.int .i64 qb.n)).setCell ⟨g5, 2, none⟩ (.int .i64 qb.d)).setCell ⟨g5, 3, none⟩ (.bool tb)).setCell ⟨g5, 4, none⟩ (.string sb)).setCell ⟨g5, 5, none⟩ (.slice Ab lb capb))).heap.size := by rw [hszF]; exact hl5
    have hzx : w.heap.size + 1 < (((((((((((((W.setCell ⟨g4, 0, none⟩ (.int .u8 ka)).setCell ⟨g4, 1, none⟩ (.int .i64 qa.n)).setCell ⟨g4, 2, none⟩ (.int .i64 qa.d)).setCell ⟨g4, 3, none⟩ (.bool ta)).setCell ⟨g4, 4, none⟩ (.string sa)).setCell ⟨g4, 5, none⟩ (.slice Aa la capa)).setCell ⟨g5, 0, none⟩ (.int .u8 kb)).setCell ⟨g5, 1, none⟩ (.int .i64 qb.n)).setCell ⟨g5, 2, none⟩ (.int .i64 qb.d)).setCell ⟨g5, 3, none⟩ (.bool tb)).setCell ⟨g5, 4, none⟩ (.string sb)).setCell ⟨g5, 5, none⟩ (.slice Ab lb capb))).heap.size := by rw [hszF]; have := hW.size; omega
    obtain ⟨c0, c1, c2, c3, c4, c5⟩ := hx.val
    obtain ⟨d0, d1, d2, d3, d4, d5⟩ := hy.val
    obtain ⟨o0, o1, o2, o3, o4, o5⟩ := n4.val
    obtain ⟨u0, u1, u2, u3, u4, u5⟩ := n5.val
    have f4 := n4.frozen
    have f5 := n5.frozen
    have y1 : w.heap.size ≠ g4 := by omega
    have y2 : w.heap.size ≠ g5 := by omega
    have y3 : w.heap.size + 1 ≠ g4 := by omega
    have y4 : w.heap.size + 1 ≠ g5 := by omega
    clear cx0 cx1 cx2 cx3 cx4 cx5 cy0 cy1 cy2 cy3 cy4 cy5 HRT HRU m1 m2 m3 m5 mx my mb rd1 rd3 ra rb hszF r1 r3 hx hy hbW hW hF n4 n5 b4 b5 z4 z5 j14 j15 j34 j35 j45 q1 q3 hb0 hx0 hy0 HR
    go_wp2_with fail
    clear c0 c1 c2 c3 c4 c5 d0 d1 d2 d3 d4 d5 o0 o1 o2 o3 o4 o5 u0 u1 u2 u3 u4 u5 f4 f5 y1 y2 y3 y4
    generalize World.setCell _ _ _ = w4 at F4 hz4 hz5 hzx ⊢
    refine (addV_any T U _ _ _ hfT.out hfU.out F4.out.2.2.2.2.2.1 F4.out.2.2.2.2.2.2.1).mono ?_
    rintro e w5 ⟨xa, rfl, hfa, L⟩
    obtain ⟨E, hE⟩ : ∃ E, addE T U = E := ⟨_, rfl⟩
    have HE := Lib.hid hE
    rw [hE]
    clear hE
    obtain ⟨kx, qx, tx, sx, Ax, lx, capx⟩ := xa
    have hba := below_alloc w5 (.cells (Val.box ⟨kx, qx, tx, sx, Ax, lx, capx⟩) 26)
    have hw5 : w4.heap.size ≤ w5.heap.size := L.size
    have F6 := Lib.hid (show _ ∧ _ ∧ _ ∧ _ from ⟨L.trans (hba.mono L.size), Blk.new w5 26 (Val.box ⟨kx, qx, tx, sx, Ax, lx, capx⟩), hfa.rd.below hba hba.size, (hfa.sp (Q := fun b => w4.heap.size ≤ b ∧ b < w5.heap.size) (fun b h1 h2 => ⟨h1, h2⟩) 10 (fit_add hfT.out hfU.out)).keep (w' := (w5.alloc (.cells (Val.box ⟨kx, qx, tx, sx, Ax, lx, capx⟩) 26))) (fun b h _ => h) (fun b _ h => hba.block b h)⟩)
    have hgA : w5.heap.size < (w5.alloc (.cells (Val.box ⟨kx, qx, tx, sx, Ax, lx, capx⟩) 26)).heap.size := by simp
    have hq1 : w.heap.size < w5.heap.size := by omega
    have hq2 : w.heap.size + 1 < w5.heap.size := by omega
    obtain ⟨c0, c1, c2, c3, c4, c5⟩ := (F4.out.2.1.keep L).val
    obtain ⟨d0, d1, d2, d3, d4, d5⟩ := (F4.out.2.2.1.keep L).val
    clear L hba hfa
    go_wp2_with fail
    clear c0 c1 c2 c3 c4 c5 d0 d1 d2 d3 d4 d5
    generalize World.alloc _ _ = w6 at F6 hgA ⊢
    refine (refAddV_any T U _ _ _ hfT.out hfU.out (F4.out.2.2.2.2.2.1.below F6.out.1 F6.out.1.size) (F4.out.2.2.2.2.2.2.1.below F6.out.1 F6.out.1.size)).mono ?_
    rintro e w7 ⟨ya, rfl, hfa, hb⟩
    rw [HE.out]
    have L := F6.out.1.trans (hb.mono F6.out.1.size)
    obtain ⟨ky, qy, ty, sy, Ay, ly, capy⟩ := ya
    have hba := below_alloc w7 (.cells (Val.box ⟨ky, qy, ty, sy, Ay, ly, capy⟩) 26)
    have hbA := hb.trans (hba.mono hb.size)
    have hw6 : w6.heap.size ≤ w7.heap.size := hb.size
    have F8 := Lib.hid (show _ ∧ _ ∧ _ ∧ _ from ⟨L.trans (hba.mono L.size), Blk.new w7 26 (Val.box ⟨ky, qy, ty, sy, Ay, ly, capy⟩), hfa.rd.below hba hba.size, hbA⟩)
    have hgB : w7.heap.size < (w7.alloc (.cells (Val.box ⟨ky, qy, ty, sy, Ay, ly, capy⟩) 26)).heap.size := by simp
    have hq3 : w.heap.size < w7.heap.size := by omega
    have hq4 : w.heap.size + 1 < w7.heap.size := by omega
    obtain ⟨c0, c1, c2, c3, c4, c5⟩ := (F4.out.2.1.keep L).val
    obtain ⟨d0, d1, d2, d3, d4, d5⟩ := (F4.out.2.2.1.keep L).val
    clear L hba hbA hfa hb
    go_wp2_with fail
    clear c0 c1 c2 c3 c4 c5 d0 d1 d2 d3 d4 d5
    generalize World.alloc _ _ = w8 at F8 hgB ⊢
    refine (compareV_any T U _ _ _ hfT.out hfU.out (F4.out.2.2.2.2.2.1.below F8.out.1 F8.out.1.size) (F4.out.2.2.2.2.2.2.1.below F8.out.1 F8.out.1.size)).mono ?_
    rintro e w9 ⟨rfl, hb9⟩
    obtain ⟨CV, hCV⟩ : ∃ CV, cmpV T U = CV := ⟨_, rfl⟩
    obtain ⟨CE, hCE⟩ : ∃ CE, cmpE T U = CE := ⟨_, rfl⟩
    have HC := Lib.hid (show _ ∧ _ from ⟨hCV, hCE⟩)
    rw [hCV, hCE]
    clear hCV hCE
    have L := F8.out.1.trans (hb9.mono F8.out.1.size)
    obtain ⟨c0, c1, c2, c3, c4, c5⟩ := (F4.out.2.1.keep L).val
    obtain ⟨d0, d1, d2, d3, d4, d5⟩ := (F4.out.2.2.1.keep L).val
    go_wp2_with fail
    refine (refCompareV_any T U _ _ _ hfT.out hfU.out (F4.out.2.2.2.2.2.1.below L L.size) (F4.out.2.2.2.2.2.2.1.below L L.size)).mono ?_
    rintro e w10 ⟨rfl, hb10⟩
    rw [HC.out.1, HC.out.2]
    have L8 := hb9.trans (hb10.mono hb9.size)
    replace L := L.trans (hb10.mono L.size)
    have L6 := F8.out.2.2.2.trans (L8.mono F8.out.2.2.2.size)
    clear c0 c1 c2 c3 c4 c5 d0 d1 d2 d3 d4 d5 hb9 hb10
    obtain ⟨c0, c1, c2, c3, c4, c5⟩ := (F6.out.2.1.below L6 (show w5.heap.size < w6.heap.size by omega)).val
    obtain ⟨d0, d1, d2, d3, d4, d5⟩ := (F8.out.2.1.below L8 (show w7.heap.size < w8.heap.size by omega)).val
    have LL := Lib.hid (show _ ∧ _ ∧ _ from ⟨L, L6, L8⟩)
    clear L L6 L8
    go_wp2_with fail
    refine (refSame_any 10 (addT T U) (addT T U) _ _ _ (fit_add hfT.out hfU.out) (F6.out.2.2.1.below LL.out.2.1 LL.out.2.1.size) (F8.out.2.2.1.below LL.out.2.2 LL.out.2.2.size)).mono ?_
    rintro e w11 ⟨rfl, hb11⟩
    rw [sameB_self]
    clear c0 c1 c2 c3 c4 c5 d0 d1 d2 d3 d4 d5
    have L := LL.out.1.trans (hb11.mono LL.out.1.size)
    have L6 := LL.out.2.1.trans (hb11.mono LL.out.2.1.size)
    have L8 := LL.out.2.2.trans (hb11.mono LL.out.2.2.size)
    have SPA := Lib.hid (F6.out.2.2.2.keep (w' := w11) (Q' := QA w4.heap.size w5.heap.size w7.heap.size) (fun b h _ => ⟨h.1, by omega, by omega⟩) (fun b h _ => L6.block b (by omega)))
    have nA := F6.out.2.1.below L6 (show w5.heap.size < w6.heap.size by omega)
    have c5 := nA.val.2.2.2.2.2
    have LH := Lib.hid L
    clear L L6 L8 LL hb11 nA
    go_wp2_with fail
    refine (spoil_any _ 10 _ _ _ _ SPA.out).mono ?_
    rintro e w12 ⟨rfl, hs1⟩
    have L := LH.out.trans (hs1.below (B := w4.heap.size) (fun k hk => hk.1))
    clear hs1 c5 SPA LH
    obtain ⟨c0, c1, c2, c3, c4, c5⟩ := (F4.out.2.1.below L (show w.heap.size < w4.heap.size by omega)).val
    obtain ⟨d0, d1, d2, d3, d4, d5⟩ := (F4.out.2.2.2.1.below L hz4).val
    have LH := Lib.hid L
    clear L
    go_wp2_with fail
    refine (refSame_any 10 T T _ _ _ hfT.out (F4.out.2.2.2.2.2.1.below LH.out LH.out.size) (F4.out.2.2.2.2.2.2.2.1.below LH.out LH.out.size)).mono ?_
    rintro e w13 ⟨rfl, hb⟩
    rw [sameB_self]
    have L := LH.out.trans (hb.mono LH.out.size)
    clear c0 c1 c2 c3 c4 c5 d0 d1 d2 d3 d4 d5 hb LH
    obtain ⟨c0, c1, c2, c3, c4, c5⟩ := (F4.out.2.2.1.below L (show w.heap.size + 1 < w4.heap.size by omega)).val
    obtain ⟨d0, d1, d2, d3, d4, d5⟩ := (F4.out.2.2.2.2.1.below L hz5).val
    have LH := Lib.hid L
    clear L
    go_wp2_with fail
    refine (refSame_any 10 U U _ _ _ hfU.out (F4.out.2.2.2.2.2.2.1.below LH.out LH.out.size) (F4.out.2.2.2.2.2.2.2.2.below LH.out LH.out.size)).mono ?_
    rintro e w14 ⟨rfl, hb⟩
    rw [sameB_self]
    have LE := Lib.hid (F4.out.1.trans ((LH.out.trans (hb.mono LH.out.size)).mono F4.out.1.size))
    clear c0 c1 c2 c3 c4 c5 d0 d1 d2 d3 d4 d5 hb LH
    go_wp2_with fail
    go_ret
    exact ret_bool rfl LE.out
  case hB => kernel_rfl
  all_goals rfl
open Go.ChangeShapes Go.WideShapes Go.ChangeAt Go.Joins

set_option maxRecDepth 100000 in
theorem adds_lifted (os : Os) (started : os.Started) (H : Type) (enc : TypeId × Value → H) :
    ReturnsInHanded {} Try.checked os 4 .any (Rows.valueAddsSpec.pre6 enc Try.prog Try.f4 Rows.valueAddsRow.domain false) (Rows.valueAddsSpec.post enc Try.prog Try.f4 false true false false) := by
  refine returnsInHanded_of_change (C := Try.checked) own started (by kernel_rfl) Try.func4
    (ChangeSpec.witness6 (enc := enc) (C := Try.checked) false ⟨#[], #[.agg #[.int .u8 0, .int .i64 0, .int .i64 0, .bool false, .string ⟨#[]⟩, .slice none 0 0], .agg #[.int .u8 0, .int .i64 0, .int .i64 0, .bool false, .string ⟨#[]⟩, .slice none 0 0]], []⟩ 8 (by kernel_rfl) (by kernel_rfl) (by kernel_rfl) (by kernel_rfl)) ?_
  intro W base args ds gs before hval0 hW hcnd _
  have hval : ∀ (j : Nat) t v, Try.f4.params[j]? = some t → args[j]? = some v → Value.okWide Try.prog W .any base t v := hval0
  have hW' := hW
  obtain ⟨p, q, hA0, hV, rfl, hfz, hnd⟩ := hW
  have hA : DataW.TrodAll enc Try.prog W 0 (fun _ => true) true Try.f4.params.toList args.toList ds p := hA0
  rw [Try.params4] at hA hval
  obtain ⟨v0, vs0, d0, ds0, p0, q0, hargs, rfl, rfl, h0, r0⟩ := trodAll_cons hA
  obtain ⟨v1, vs1, d1, ds1, p1, q1, rfl, rfl, rfl, h1, r1⟩ := trodAll_cons r0
  obtain ⟨rfl, rfl, rfl⟩ := trodAll_nil r1
  obtain rfl : args = #[v0, v1] := by cases args; simp_all
  obtain ⟨rfl, rfl⟩ := trodVars_none hV
  obtain ⟨x, T, rfl, hT⟩ := open_val (hval 0 26 v0 rfl rfl) h0
  obtain ⟨y, U, rfl, hU⟩ := open_val (hval 1 26 v1 rfl rfl) h1
  refine (adds_walk T U x y W hT hU).mono fun e W' ⟨he, hb⟩ => ?_
  exact ⟨_, he, law_post laidOut hW' rfl (by kernel_rfl) rfl Try.underlying4 rfl rfl rfl hb⟩

theorem adds_holds : Rows.ValueAddsSaid :=
  OpenClaim.holds_of_wide 4 Try.f4 rfl rfl rfl rfl rfl rfl rfl ⟨rfl, rfl, rfl, rfl, rfl⟩ rfl rfl rfl rfl rfl (by kernel_rfl) Try.func4 (by kernel_rfl)
    (of_decide_eq_true (by kernel_rfl)) (by unfold Func.isWrapper; first | (rw [if_pos (by decide +kernel)]; kernel_rfl) | (rw [if_neg (by decide +kernel)]; exact ⟨rfl, rfl⟩))
    (fun os started H enc _ => adds_lifted os started H enc)
#print axioms adds_holds
end Go.Proofs.Ytjgampkpfjbmdaa
