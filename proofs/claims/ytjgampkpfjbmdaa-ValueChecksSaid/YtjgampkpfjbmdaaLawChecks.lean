/- ValueChecks returns true for all values and numbers, and writes nothing that was there. -/
import Derived.Test.YtjgampkpfjbmdaaValK
import Derived.Test.YtjgampkpfjbmdaaValRow
namespace Go.Rel
open Go.RowKit
theorem fitT_more : ∀ (d : Nat) (T : Tree), fitT T d = true → fitT T (d + 1) = true
  | 0, T, h => by rw [fitT_zero] at h; cases h
  | d + 1, .node k q t s kids, h => by
    obtain ⟨e, he, h1, h2, hk⟩ := fitT_parts h
    obtain rfl : d = e := by omega
    have key : ∀ l : List Tree, (∀ x ∈ l, fitT x d = true) → fitL l (d + 1) = true := by
      intro l
      induction l with
      | nil => intro _; rfl
      | cons x r ih =>
        intro hx
        simp only [fitL, Bool.and_eq_true]
        exact ⟨fitT_more d x (hx x (by simp)), ih (fun y hy => hx y (by simp [hy]))⟩
    rw [fitT_succ, decide_eq_true h1, decide_eq_true h2, key kids hk]; rfl
theorem fit_none : fitT .none_ 10 = true := by decide
theorem fit_str {s : ByteArray} (h : s.size ≤ 200) : fitT (tStr s) 10 = true := by
  unfold tStr; rw [fitT_succ, decide_eq_true h]; rfl
theorem fit_at {T : Tree} (i : Int) (h : fitT T 10 = true) : fitT (atT T i) 10 = true := by
  obtain ⟨k, q, t, s, kids⟩ := T
  obtain ⟨e, he, h1, h2, hk⟩ := fitT_parts h
  obtain rfl : 9 = e := by omega
  unfold atT
  split
  · exact fit_none
  · split
    · exact fit_none
    · split
      · cases hg : kids[i.toNat]? with
        | none => simp only [Tree.kids, hg]; exact fit_none
        | some y => simp only [Tree.kids, hg]; exact fitT_more 9 y (hk y (List.mem_of_getElem? hg))
      · refine fit_str ?_
        rw [ByteArray.size_extract]
        simp only [Tree.s]
        omega
end Go.Rel
namespace Go.Proofs.Ytjgampkpfjbmdaa
open Go.RowKit Go.Rel
theorem great_fit {T : Tree} (h : greatT T = false) : fitT T 10 = true := by
  unfold greatT at h
  cases hf : fitT T 10 with
  | true => rfl
  | false => rw [hf] at h; simp at h
/-- The blocks that may be written over. -/
def QC (B g1 g2 g3 : Nat) (b : Nat) : Prop := B ≤ b ∧ b ≠ g1 ∧ b ≠ g2 ∧ b ≠ g3
attribute [local irreducible] Go.Rel.Gives in
set_option maxRecDepth 100000 in
set_option maxHeartbeats 16000000 in
theorem checks_walk (T U : Tree) (x y : Val) (i : Int) (w : World) (hi0 : -9223372036854775808 ≤ i) (hi1 : i ≤ 9223372036854775807) (hr : RdB w w.heap.size T x) (hr' : RdB w w.heap.size U y) :
    Calls Try.prog 3 #[x.v, y.v, .int .i64 i] w (Ret w (.bool true)) := by
  have HR := Lib.hid (show _ ∧ _ from ⟨hr, hr'⟩)
  have HB := Lib.hid (two_boxes w 26 x y)
  clear hr hr'
  obtain ⟨k, q, t, s, A, len, cap⟩ := x
  obtain ⟨k', q', t', s', A', len', cap'⟩ := y
  go_enter Try.func3, Try.ntmps3
  obtain ⟨hb0, hz0, hx0, hy0⟩ := HB.out
  obtain ⟨c0, c1, c2, c3, c4, c5⟩ := hx0.val
  go_wp2_with fail
  refine (refGreat_any T _ _ (HR.out.1.in_ hb0 hb0.size)).mono ?_
  rintro e w1 ⟨rfl, hb1⟩
  have hsz1 := hb1.size
  rw [hz0] at hsz1
  replace hb0 := hb0.trans (hb1.mono hb0.size)
  replace hx0 := hx0.keep hb1
  replace hy0 := hy0.keep hb1
  clear c0 c1 c2 c3 c4 c5 HB hb1 hz0
  cases hg : greatT T
  case true =>
    go_wp2_with fail
    go_ret
    exact ret_bool rfl hb0
  have hfT := Lib.hid (great_fit hg)
  clear hg
  obtain ⟨d0, d1, d2, d3, d4, d5⟩ := hy0.val
  go_wp2_with fail
  refine (refGreat_any U _ _ (HR.out.2.in_ hb0 hb0.size)).mono ?_
  rintro e w2 ⟨rfl, hb2⟩
  replace hsz1 := Nat.le_trans hsz1 hb2.size
  replace hb0 := hb0.trans (hb2.mono hb0.size)
  replace hx0 := hx0.keep hb2
  replace hy0 := hy0.keep hb2
  clear d0 d1 d2 d3 d4 d5 hb2
  cases hg : greatT U
  case true =>
    go_wp2_with fail
    go_ret
    exact ret_bool rfl hb0
  have hfU := Lib.hid (great_fit hg)
  clear hg
  obtain ⟨c0, c1, c2, c3, c4, c5⟩ := hx0.val
  go_wp2_with fail
  refine (refTwin_any 10 T _ _ hfT.out (HR.out.1.in_ hb0 hb0.size)).mono ?_
  rintro e w3 ⟨xw, rfl, htw, hb3⟩
  replace hsz1 := Nat.le_trans hsz1 hb3.size
  replace hb0 := hb0.trans (hb3.mono hb0.size)
  replace hx0 := hx0.keep hb3
  replace hy0 := hy0.keep hb3
  clear c0 c1 c2 c3 c4 c5 hb3
  obtain ⟨kw, qw, tw, sw, Aw, lenw, capw⟩ := xw
  have hba := below_alloc w3 (.cells (Val.box ⟨kw, qw, tw, sw, Aw, lenw, capw⟩) 26)
  have hbA := hb0.trans (hba.mono hb0.size)
  have F4 := Lib.hid (show _ ∧ _ ∧ _ ∧ _ ∧ _ ∧ _ ∧ _ from ⟨hbA, hx0.keep hba, hy0.keep hba, Blk.new w3 26 (Val.box ⟨kw, qw, tw, sw, Aw, lenw, capw⟩), HR.out.1.in_ hbA hbA.size, HR.out.2.in_ hbA hbA.size, (htw.below hba).fresh.rd⟩)
  have hlt0 : w.heap.size < w3.heap.size := by omega
  have hlt1 : w.heap.size + 1 < w3.heap.size := by omega
  have hgw : w3.heap.size < (w3.alloc (.cells (Val.box ⟨kw, qw, tw, sw, Aw, lenw, capw⟩) 26)).heap.size := by simp
  obtain ⟨c0, c1, c2, c3, c4, c5⟩ := hx0.val
  clear hba hbA htw hx0 hy0 hb0 HR
  go_wp2_with fail
  clear c0 c1 c2 c3 c4 c5
  generalize World.alloc _ _ = w4 at F4 hgw ⊢
  refine (len_any T _ _ hfT.out F4.out.2.2.2.2.1).mono ?_
  rintro e w5 ⟨rfl, L⟩
  obtain ⟨N, hN⟩ : ∃ N, lenN T = N := ⟨_, rfl⟩
  obtain ⟨E, hE⟩ : ∃ E, lenE T = E := ⟨_, rfl⟩
  have HNE := Lib.hid (show _ ∧ _ from ⟨hN, hE⟩)
  rw [hN, hE]
  clear hN hE
  obtain ⟨c0, c1, c2, c3, c4, c5⟩ := (F4.out.2.1.keep L).val
  go_wp2_with fail
  refine (refLen_any T _ _ hfT.out (F4.out.2.2.2.2.1.below L L.size)).mono ?_
  rintro e w6 ⟨rfl, hb⟩
  rw [HNE.out.1, HNE.out.2]
  replace L := L.trans (hb.mono L.size)
  clear c0 c1 c2 c3 c4 c5 hb
  obtain ⟨c0, c1, c2, c3, c4, c5⟩ := (F4.out.2.1.keep L).val
  go_wp2_with fail
  refine (at_any T _ i _ hi0 hi1 hfT.out (F4.out.2.2.2.2.1.below L L.size)).mono ?_
  rintro e w7 ⟨xa, rfl, hfa, hb⟩
  have hbase := L.size
  replace L := L.trans (hb.mono L.size)
  obtain ⟨EA, hEA⟩ : ∃ EA, atE T i = EA := ⟨_, rfl⟩
  have HEA := Lib.hid hEA
  rw [hEA]
  clear c0 c1 c2 c3 c4 c5 hb hEA
  obtain ⟨ka, qa, ta, sa, Aa, lena, capa⟩ := xa
  have hba := below_alloc w7 (.cells (Val.box ⟨ka, qa, ta, sa, Aa, lena, capa⟩) 26)
  have hw7 : w4.heap.size ≤ w7.heap.size := L.size
  have F8 := Lib.hid (show _ ∧ _ ∧ _ ∧ _ from ⟨L.trans (hba.mono L.size), Blk.new w7 26 (Val.box ⟨ka, qa, ta, sa, Aa, lena, capa⟩), hfa.rd.below hba hba.size, hfa.sp (Q := fun b => w4.heap.size ≤ b ∧ b < w7.heap.size) (fun b h1 h2 => ⟨by omega, h2⟩) 10 (fit_at i hfT.out)⟩)
  have hgA : w7.heap.size < (w7.alloc (.cells (Val.box ⟨ka, qa, ta, sa, Aa, lena, capa⟩) 26)).heap.size := by simp
  have hlt3 : w.heap.size < w7.heap.size := by omega
  obtain ⟨c0, c1, c2, c3, c4, c5⟩ := (F4.out.2.1.keep L).val
  have SP := Lib.hid (F8.out.2.2.2.keep (w' := (w7.alloc (.cells (Val.box ⟨ka, qa, ta, sa, Aa, lena, capa⟩) 26))) (fun b h _ => h) (fun b _ h => hba.block b h))
  clear L hba hfa
  go_wp2_with fail
  clear c0 c1 c2 c3 c4 c5
  generalize World.alloc _ _ = w8 at F8 hgA SP ⊢
  refine (refAt_any T _ i _ hi0 hi1 hfT.out (F4.out.2.2.2.2.1.below F8.out.1 F8.out.1.size)).mono ?_
  rintro e w9 ⟨ya, rfl, hfa, hb⟩
  rw [HEA.out]
  have L := F8.out.1.trans (hb.mono F8.out.1.size)
  obtain ⟨ky, qy, ty, sy, Ay, leny, capy⟩ := ya
  have hba := below_alloc w9 (.cells (Val.box ⟨ky, qy, ty, sy, Ay, leny, capy⟩) 26)
  have hbA := hb.trans (hba.mono hb.size)
  have hw8 : w8.heap.size ≤ w9.heap.size := hb.size
  have F10 := Lib.hid (show _ ∧ _ ∧ _ ∧ _ from ⟨L.trans (hba.mono L.size), Blk.new w9 26 (Val.box ⟨ky, qy, ty, sy, Ay, leny, capy⟩), hfa.rd.below hba hba.size, hbA⟩)
  have hgB : w9.heap.size < (w9.alloc (.cells (Val.box ⟨ky, qy, ty, sy, Ay, leny, capy⟩) 26)).heap.size := by simp
  have hlt4 : w.heap.size < w9.heap.size := by omega
  obtain ⟨c0, c1, c2, c3, c4, c5⟩ := (F4.out.2.1.keep L).val
  clear L hba hbA hfa hb
  go_wp2_with fail
  clear c0 c1 c2 c3 c4 c5
  generalize World.alloc _ _ = w10 at F10 hgB ⊢
  refine (twin_any 10 T _ _ hfT.out (F4.out.2.2.2.2.1.below F10.out.1 F10.out.1.size)).mono ?_
  rintro e w11 ⟨xt, rfl, htw, hb⟩
  have L := F10.out.1.trans (hb.mono F10.out.1.size)
  obtain ⟨kt, qt, tt, st, At, lent, capt⟩ := xt
  have hba := below_alloc w11 (.cells (Val.box ⟨kt, qt, tt, st, At, lent, capt⟩) 26)
  have hbA := hb.trans (hba.mono hb.size)
  have hw10 : w10.heap.size ≤ w11.heap.size := hb.size
  have SPt := Lib.hid ((htw.fresh.sp (Q := fun b => w10.heap.size ≤ b ∧ b < w11.heap.size) (fun b h1 h2 => ⟨h1, h2⟩) 10 hfT.out).keep (w' := (w11.alloc (.cells (Val.box ⟨kt, qt, tt, st, At, lent, capt⟩) 26))) (fun b h _ => h) (fun b _ h => hba.block b h))
  have F12 := Lib.hid (show _ ∧ _ ∧ _ ∧ _ from ⟨L.trans (hba.mono L.size), Blk.new w11 26 (Val.box ⟨kt, qt, tt, st, At, lent, capt⟩), htw.fresh.rd.below hba hba.size, hbA⟩)
  have hgC : w11.heap.size < (w11.alloc (.cells (Val.box ⟨kt, qt, tt, st, At, lent, capt⟩) 26)).heap.size := by simp
  clear L hba hbA htw hb
  go_wp2_with fail
  generalize World.alloc _ _ = w12 at F12 hgC SPt ⊢
  have L12 := F12.out.1
  have L8 : Below w8.heap.size w8 w12 := F10.out.2.2.2.trans (F12.out.2.2.2.mono F10.out.2.2.2.size)
  have bx := F4.out.2.1.below L12 (show w.heap.size < w4.heap.size by omega)
  have bY := F4.out.2.2.1.below L12 (show w.heap.size + 1 < w4.heap.size by omega)
  have ba := F8.out.2.1.below L8 (show w7.heap.size < w8.heap.size by omega)
  have bb := F10.out.2.1.below F12.out.2.2.2 (show w9.heap.size < w10.heap.size by omega)
  have bt := F12.out.2.1
  have cx0 : ∀ W, Below w12.heap.size w12 W → W.cell? ⟨w.heap.size, 0, none⟩ = some (.int .u8 k) := fun W hW => (bx.keep hW).cell rfl
  have cx1 : ∀ W, Below w12.heap.size w12 W → W.cell? ⟨w.heap.size, 1, none⟩ = some (.int .i64 q.n) := fun W hW => (bx.keep hW).cell rfl
  have cx2 : ∀ W, Below w12.heap.size w12 W → W.cell? ⟨w.heap.size, 2, none⟩ = some (.int .i64 q.d) := fun W hW => (bx.keep hW).cell rfl
  have cx3 : ∀ W, Below w12.heap.size w12 W → W.cell? ⟨w.heap.size, 3, none⟩ = some (.bool t) := fun W hW => (bx.keep hW).cell rfl
  have cx4 : ∀ W, Below w12.heap.size w12 W → W.cell? ⟨w.heap.size, 4, none⟩ = some (.string s) := fun W hW => (bx.keep hW).cell rfl
  have cx5 : ∀ W, Below w12.heap.size w12 W → W.cell? ⟨w.heap.size, 5, none⟩ = some (.slice A len cap) := fun W hW => (bx.keep hW).cell rfl
  have cy0 : ∀ W, Below w12.heap.size w12 W → W.cell? ⟨w.heap.size + 1, 0, none⟩ = some (.int .u8 k') := fun W hW => (bY.keep hW).cell rfl
  have cy1 : ∀ W, Below w12.heap.size w12 W → W.cell? ⟨w.heap.size + 1, 1, none⟩ = some (.int .i64 q'.n) := fun W hW => (bY.keep hW).cell rfl
  have cy2 : ∀ W, Below w12.heap.size w12 W → W.cell? ⟨w.heap.size + 1, 2, none⟩ = some (.int .i64 q'.d) := fun W hW => (bY.keep hW).cell rfl
  have cy3 : ∀ W, Below w12.heap.size w12 W → W.cell? ⟨w.heap.size + 1, 3, none⟩ = some (.bool t') := fun W hW => (bY.keep hW).cell rfl
  have cy4 : ∀ W, Below w12.heap.size w12 W → W.cell? ⟨w.heap.size + 1, 4, none⟩ = some (.string s') := fun W hW => (bY.keep hW).cell rfl
  have cy5 : ∀ W, Below w12.heap.size w12 W → W.cell? ⟨w.heap.size + 1, 5, none⟩ = some (.slice A' len' cap') := fun W hW => (bY.keep hW).cell rfl
  have ca0 : ∀ W, Below w12.heap.size w12 W → W.cell? ⟨w7.heap.size, 0, none⟩ = some (.int .u8 ka) := fun W hW => (ba.keep hW).cell rfl
  have ca1 : ∀ W, Below w12.heap.size w12 W → W.cell? ⟨w7.heap.size, 1, none⟩ = some (.int .i64 qa.n) := fun W hW => (ba.keep hW).cell rfl
  have ca2 : ∀ W, Below w12.heap.size w12 W → W.cell? ⟨w7.heap.size, 2, none⟩ = some (.int .i64 qa.d) := fun W hW => (ba.keep hW).cell rfl
  have ca3 : ∀ W, Below w12.heap.size w12 W → W.cell? ⟨w7.heap.size, 3, none⟩ = some (.bool ta) := fun W hW => (ba.keep hW).cell rfl
  have ca4 : ∀ W, Below w12.heap.size w12 W → W.cell? ⟨w7.heap.size, 4, none⟩ = some (.string sa) := fun W hW => (ba.keep hW).cell rfl
  have ca5 : ∀ W, Below w12.heap.size w12 W → W.cell? ⟨w7.heap.size, 5, none⟩ = some (.slice Aa lena capa) := fun W hW => (ba.keep hW).cell rfl
  have cb0 : ∀ W, Below w12.heap.size w12 W → W.cell? ⟨w9.heap.size, 0, none⟩ = some (.int .u8 ky) := fun W hW => (bb.keep hW).cell rfl
  have cb1 : ∀ W, Below w12.heap.size w12 W → W.cell? ⟨w9.heap.size, 1, none⟩ = some (.int .i64 qy.n) := fun W hW => (bb.keep hW).cell rfl
  have cb2 : ∀ W, Below w12.heap.size w12 W → W.cell? ⟨w9.heap.size, 2, none⟩ = some (.int .i64 qy.d) := fun W hW => (bb.keep hW).cell rfl
  have cb3 : ∀ W, Below w12.heap.size w12 W → W.cell? ⟨w9.heap.size, 3, none⟩ = some (.bool ty) := fun W hW => (bb.keep hW).cell rfl
  have cb4 : ∀ W, Below w12.heap.size w12 W → W.cell? ⟨w9.heap.size, 4, none⟩ = some (.string sy) := fun W hW => (bb.keep hW).cell rfl
  have cb5 : ∀ W, Below w12.heap.size w12 W → W.cell? ⟨w9.heap.size, 5, none⟩ = some (.slice Ay leny capy) := fun W hW => (bb.keep hW).cell rfl
  have ct0 : ∀ W, Below w12.heap.size w12 W → W.cell? ⟨w11.heap.size, 0, none⟩ = some (.int .u8 kt) := fun W hW => (bt.keep hW).cell rfl
  have ct1 : ∀ W, Below w12.heap.size w12 W → W.cell? ⟨w11.heap.size, 1, none⟩ = some (.int .i64 qt.n) := fun W hW => (bt.keep hW).cell rfl
  have ct2 : ∀ W, Below w12.heap.size w12 W → W.cell? ⟨w11.heap.size, 2, none⟩ = some (.int .i64 qt.d) := fun W hW => (bt.keep hW).cell rfl
  have ct3 : ∀ W, Below w12.heap.size w12 W → W.cell? ⟨w11.heap.size, 3, none⟩ = some (.bool tt) := fun W hW => (bt.keep hW).cell rfl
  have ct4 : ∀ W, Below w12.heap.size w12 W → W.cell? ⟨w11.heap.size, 4, none⟩ = some (.string st) := fun W hW => (bt.keep hW).cell rfl
  have ct5 : ∀ W, Below w12.heap.size w12 W → W.cell? ⟨w11.heap.size, 5, none⟩ = some (.slice At lent capt) := fun W hW => (bt.keep hW).cell rfl
  have KB := Lib.hid (show _ ∧ _ ∧ _ ∧ _ ∧ _ from ⟨bx, bY, ba, bb, bt⟩)
  have r1 := fun W (hW : Below w12.heap.size w12 W) => chk_any T ⟨k, q, t, s, A, len, cap⟩ W hfT.out (F4.out.2.2.2.2.1.below (L12.trans (hW.mono L12.size)) (Nat.le_trans L12.size hW.size))
  have r2 := fun W (hW : Below w12.heap.size w12 W) => refChk_any T ⟨k, q, t, s, A, len, cap⟩ W hfT.out (F4.out.2.2.2.2.1.below (L12.trans (hW.mono L12.size)) (Nat.le_trans L12.size hW.size))
  have r3 := fun W (hW : Below w12.heap.size w12 W) => same_any 10 T U ⟨k, q, t, s, A, len, cap⟩ ⟨k', q', t', s', A', len', cap'⟩ W hfT.out (F4.out.2.2.2.2.1.below (L12.trans (hW.mono L12.size)) (Nat.le_trans L12.size hW.size)) (F4.out.2.2.2.2.2.1.below (L12.trans (hW.mono L12.size)) (Nat.le_trans L12.size hW.size))
  have r4 := fun W (hW : Below w12.heap.size w12 W) => refSame_any 10 T U ⟨k, q, t, s, A, len, cap⟩ ⟨k', q', t', s', A', len', cap'⟩ W hfT.out (F4.out.2.2.2.2.1.below (L12.trans (hW.mono L12.size)) (Nat.le_trans L12.size hW.size)) (F4.out.2.2.2.2.2.1.below (L12.trans (hW.mono L12.size)) (Nat.le_trans L12.size hW.size))
  have r5 := fun W (hW : Below w12.heap.size w12 W) => refSame_any 10 (atT T i) (atT T i) ⟨ka, qa, ta, sa, Aa, lena, capa⟩ ⟨ky, qy, ty, sy, Ay, leny, capy⟩ W (fit_at i hfT.out) ((F8.out.2.2.1.below L8 L8.size).below hW hW.size) ((F10.out.2.2.1.below F12.out.2.2.2 F12.out.2.2.2.size).below hW hW.size)
  have r6 := fun W (hW : Below w12.heap.size w12 W) => refSame_any 10 T T ⟨kt, qt, tt, st, At, lent, capt⟩ ⟨k, q, t, s, A, len, cap⟩ W hfT.out (F12.out.2.2.1.below hW hW.size) (F4.out.2.2.2.2.1.below (L12.trans (hW.mono L12.size)) (Nat.le_trans L12.size hW.size))
  rw [sameB_self] at r5 r6
  generalize chkT T = C at r1 r2
  generalize sameB T U = S at r3 r4
  have RR := Lib.hid (show _ ∧ _ ∧ _ ∧ _ ∧ _ ∧ _ from ⟨r1, r2, r3, r4, r5, r6⟩)
  clear r1 r2 r3 r4 r5 r6 bx bY ba bb bt L12 L8
  apply wp_region_head 41 99 (hm := by kernel_rfl) (hN := rfl)
  case h =>
    simp only [List.take_succ_cons, List.take_zero]
    (apply head_still rfl; (intro W hW; go_simp; (try rfl)))
    simp only [Act.put, List.setIfInBounds_toArray, List.set_cons_succ, List.set_cons_zero]
    (apply head_call rfl; (intro W; go_simp; exact ⟨rfl, rfl⟩); (intro W hW; exact RR.out.1 W hW))
    simp only [Act.put, List.setIfInBounds_toArray, List.set_cons_succ, List.set_cons_zero]
    (apply head_still rfl; (intro W hW; go_simp; (try rfl)))
    simp only [Act.put, List.setIfInBounds_toArray, List.set_cons_succ, List.set_cons_zero]
    (apply head_call rfl; (intro W; go_simp; exact ⟨rfl, rfl⟩); (intro W hW; exact RR.out.2.1 W hW))
    simp only [Act.put, List.setIfInBounds_toArray, List.set_cons_succ, List.set_cons_zero]
    (apply head_still (c := .bool false) rfl; (intro W hW; go_simp; (try rfl)))
    simp only [Act.put, List.setIfInBounds_toArray, List.set_cons_succ, List.set_cons_zero]
    (apply head_still (c := .bool false) rfl; (intro W hW; go_simp; (try rfl)))
    simp only [Act.put, List.setIfInBounds_toArray, List.set_cons_succ, List.set_cons_zero]
    (apply head_still rfl; (intro W hW; go_simp; (try rfl)))
    simp only [Act.put, List.setIfInBounds_toArray, List.set_cons_succ, List.set_cons_zero]
    (apply head_still rfl; (intro W hW; go_simp; (try rfl)))
    simp only [Act.put, List.setIfInBounds_toArray, List.set_cons_succ, List.set_cons_zero]
    (apply head_call rfl; (intro W; go_simp; exact ⟨rfl, rfl⟩); (intro W hW; exact RR.out.2.2.1 W hW))
    simp only [Act.put, List.setIfInBounds_toArray, List.set_cons_succ, List.set_cons_zero]
    (apply head_still rfl; (intro W hW; go_simp; (try rfl)))
    simp only [Act.put, List.setIfInBounds_toArray, List.set_cons_succ, List.set_cons_zero]
    (apply head_still rfl; (intro W hW; go_simp; (try rfl)))
    simp only [Act.put, List.setIfInBounds_toArray, List.set_cons_succ, List.set_cons_zero]
    (apply head_call rfl; (intro W; go_simp; exact ⟨rfl, rfl⟩); (intro W hW; exact RR.out.2.2.2.1 W hW))
    simp only [Act.put, List.setIfInBounds_toArray, List.set_cons_succ, List.set_cons_zero]
    (apply head_still (c := .bool false) rfl; (intro W hW; go_simp; (try rfl)))
    simp only [Act.put, List.setIfInBounds_toArray, List.set_cons_succ, List.set_cons_zero]
    (apply head_still (c := .bool false) rfl; (intro W hW; go_simp; (try rfl)))
    simp only [Act.put, List.setIfInBounds_toArray, List.set_cons_succ, List.set_cons_zero]
    (apply head_still (c := .bool false) rfl; (intro W hW; go_simp; (try rfl)))
    simp only [Act.put, List.setIfInBounds_toArray, List.set_cons_succ, List.set_cons_zero]
    (apply head_still rfl; (intro W hW; go_simp; (try rfl)))
    simp only [Act.put, List.setIfInBounds_toArray, List.set_cons_succ, List.set_cons_zero]
    (apply head_still rfl; (intro W hW; go_simp; (try rfl)))
    simp only [Act.put, List.setIfInBounds_toArray, List.set_cons_succ, List.set_cons_zero]
    (apply head_still (c := .bool false) rfl; (intro W hW; go_simp; (try rfl)))
    simp only [Act.put, List.setIfInBounds_toArray, List.set_cons_succ, List.set_cons_zero]
    (apply head_still (c := .bool false) rfl; (intro W hW; go_simp; (try rfl)))
    simp only [Act.put, List.setIfInBounds_toArray, List.set_cons_succ, List.set_cons_zero]
    (apply head_still (c := .bool false) rfl; (intro W hW; go_simp; (try rfl)))
    simp only [Act.put, List.setIfInBounds_toArray, List.set_cons_succ, List.set_cons_zero]
    (apply head_still rfl; (intro W hW; go_simp; (try rfl)))
    simp only [Act.put, List.setIfInBounds_toArray, List.set_cons_succ, List.set_cons_zero]
    (apply head_still rfl; (intro W hW; go_simp; (try rfl)))
    simp only [Act.put, List.setIfInBounds_toArray, List.set_cons_succ, List.set_cons_zero]
    (apply head_still (c := .bool false) rfl; (intro W hW; go_simp; (try rfl)))
    simp only [Act.put, List.setIfInBounds_toArray, List.set_cons_succ, List.set_cons_zero]
    (apply head_still (c := .bool false) rfl; (intro W hW; go_simp; (try rfl)))
    simp only [Act.put, List.setIfInBounds_toArray, List.set_cons_succ, List.set_cons_zero]
    (apply head_still (c := .bool false) rfl; (intro W hW; go_simp; (try rfl)))
    simp only [Act.put, List.setIfInBounds_toArray, List.set_cons_succ, List.set_cons_zero]
    (apply head_still rfl; (intro W hW; go_simp; (try rfl)))
    simp only [Act.put, List.setIfInBounds_toArray, List.set_cons_succ, List.set_cons_zero]
    (apply head_still rfl; (intro W hW; go_simp; (try rfl)))
    simp only [Act.put, List.setIfInBounds_toArray, List.set_cons_succ, List.set_cons_zero]
    (apply head_call rfl; (intro W; go_simp; exact ⟨rfl, rfl⟩); (intro W hW; exact RR.out.2.2.2.2.1 W hW))
    simp only [Act.put, List.setIfInBounds_toArray, List.set_cons_succ, List.set_cons_zero]
    (apply head_still (c := .bool false) rfl; (intro W hW; go_simp; (try rfl)))
    simp only [Act.put, List.setIfInBounds_toArray, List.set_cons_succ, List.set_cons_zero]
    (apply head_still (c := .bool false) rfl; (intro W hW; go_simp; (try rfl)))
    simp only [Act.put, List.setIfInBounds_toArray, List.set_cons_succ, List.set_cons_zero]
    (apply head_still (c := .bool false) rfl; (intro W hW; go_simp; (try rfl)))
    simp only [Act.put, List.setIfInBounds_toArray, List.set_cons_succ, List.set_cons_zero]
    (apply head_still rfl; (intro W hW; go_simp; (try rfl)))
    simp only [Act.put, List.setIfInBounds_toArray, List.set_cons_succ, List.set_cons_zero]
    (apply head_still rfl; (intro W hW; go_simp; (try rfl)))
    simp only [Act.put, List.setIfInBounds_toArray, List.set_cons_succ, List.set_cons_zero]
    (apply head_still (c := .bool false) rfl; (intro W hW; go_simp; (try rfl)))
    simp only [Act.put, List.setIfInBounds_toArray, List.set_cons_succ, List.set_cons_zero]
    (apply head_still (c := .bool false) rfl; (intro W hW; go_simp; (try rfl)))
    simp only [Act.put, List.setIfInBounds_toArray, List.set_cons_succ, List.set_cons_zero]
    (apply head_still (c := .bool false) rfl; (intro W hW; go_simp; (try rfl)))
    simp only [Act.put, List.setIfInBounds_toArray, List.set_cons_succ, List.set_cons_zero]
    (apply head_still rfl; (intro W hW; go_simp; (try rfl)))
    simp only [Act.put, List.setIfInBounds_toArray, List.set_cons_succ, List.set_cons_zero]
    (apply head_still rfl; (intro W hW; go_simp; (try rfl)))
    simp only [Act.put, List.setIfInBounds_toArray, List.set_cons_succ, List.set_cons_zero]
    (apply head_call rfl; (intro W; go_simp; exact ⟨rfl, rfl⟩); (intro W hW; exact RR.out.2.2.2.2.2 W hW))
    simp only [Act.put, List.setIfInBounds_toArray, List.set_cons_succ, List.set_cons_zero]
    (apply head_still (c := .bool false) rfl; (intro W hW; go_simp; (try rfl)))
    simp only [Act.put, List.setIfInBounds_toArray, List.set_cons_succ, List.set_cons_zero]
    (apply head_still (c := .bool false) rfl; (intro W hW; go_simp; (try rfl)))
    simp only [Act.put, List.setIfInBounds_toArray, List.set_cons_succ, List.set_cons_zero]
    refine head_nil ?_
    intro W hW hF
    have hWb := hW
    obtain ⟨bx, bY, ba, bb, bt⟩ := KB.out
    have L12 := F12.out.1
    have LW := L12.trans (hW.mono L12.size)
    have LW8 : Below w8.heap.size w8 W := F10.out.2.2.2.trans ((F12.out.2.2.2.mono F10.out.2.2.2.size).trans (hW.mono (Nat.le_trans F10.out.2.2.2.size F12.out.2.2.2.size)))
    have SPA := Lib.hid (SP.out.keep (w' := W) (Q' := QC w4.heap.size w7.heap.size w9.heap.size w11.heap.size) (fun b h _ => ⟨h.1, by omega, by omega, by omega⟩) (fun b h _ => LW8.block b (by omega)))
    have SPB := Lib.hid (SPt.out.keep (w' := W) (Q' := QC w4.heap.size w7.heap.size w9.heap.size w11.heap.size) (fun b h _ => ⟨by omega, by omega, by omega, by omega⟩) (fun b h hb => hW.block b hb))
    have nA := ba.keep hW
    have nT := bt.keep hW
    clear cx0 cx1 cx2 cx3 cx4 cx5 cy0 cy1 cy2 cy3 cy4 cy5 ca0 ca1 ca2 ca3 ca4 ca5 cb0 cb1 cb2 cb3 cb4 cb5 ct0 ct1 ct2 ct3 ct4 ct5 hF hW RR KB bx bY ba bb bt L12 LW8
    have c5 := nA.val.2.2.2.2.2
    have LWh := Lib.hid LW
    clear LW hWb
    go_wp2_with fail
    refine (spoil_any _ 10 _ _ _ _ SPA.out).mono ?_
    rintro e W1 ⟨rfl, hs1⟩
    have nT1 := hs1.blk nT (fun h => h.2.2.2 rfl)
    have SPB1 := Lib.hid (hs1.sp _ _ _ SPB.out)
    have LW1 := Lib.hid (LWh.out.trans (hs1.below (B := w4.heap.size) (fun k hk => hk.1)))
    clear hs1 nT c5 nA SPA SPB LWh
    have c5 := nT1.val.2.2.2.2.2
    go_wp2_with fail
    refine (spoil_any _ 10 _ _ _ _ SPB1.out).mono ?_
    rintro e W2 ⟨rfl, hs2⟩
    have LW2 := LW1.out.trans (hs2.below (B := w4.heap.size) (fun k hk => hk.1))
    clear hs2 c5 nT1 SPB1 LW1
    obtain ⟨c0, c1, c2, c3, c4, c5⟩ := (F4.out.2.1.below LW2 (show w.heap.size < w4.heap.size by omega)).val
    obtain ⟨d0, d1, d2, d3, d4, d5⟩ := (F4.out.2.2.2.1.below LW2 (show w3.heap.size < w4.heap.size by omega)).val
    have LH := Lib.hid LW2
    clear LW2
    go_wp2_with fail
    refine (refSame_any 10 T T _ _ _ hfT.out (F4.out.2.2.2.2.1.below LH.out LH.out.size) (F4.out.2.2.2.2.2.2.below LH.out LH.out.size)).mono ?_
    rintro e W3 ⟨rfl, hb⟩
    have LE := Lib.hid (F4.out.1.trans ((LH.out.trans (hb.mono LH.out.size)).mono F4.out.1.size))
    rw [sameB_self]
    clear c0 c1 c2 c3 c4 c5 d0 d1 d2 d3 d4 d5 hb
    go_wp2_with fail
    go_ret
    exact ret_bool rfl LE.out
  case hB => kernel_rfl
  all_goals rfl
open Go.ChangeShapes Go.WideShapes Go.ChangeAt Go.Joins

set_option maxRecDepth 100000 in
theorem checks_lifted (os : Os) (started : os.Started) (H : Type) (enc : TypeId × Value → H) :
    ReturnsInHanded {} Try.checked os 3 .any (Rows.valueChecksSpec.pre6 enc Try.prog Try.f3 Rows.valueChecksRow.domain false) (Rows.valueChecksSpec.post enc Try.prog Try.f3 false true false false) := by
  refine returnsInHanded_of_change (C := Try.checked) own started (by kernel_rfl) Try.func3
    (ChangeSpec.witness6 (enc := enc) (C := Try.checked) false ⟨#[], #[.agg #[.int .u8 0, .int .i64 0, .int .i64 0, .bool false, .string ⟨#[]⟩, .slice none 0 0], .agg #[.int .u8 0, .int .i64 0, .int .i64 0, .bool false, .string ⟨#[]⟩, .slice none 0 0], .int .i64 0], []⟩ 8 (by kernel_rfl) (by kernel_rfl) (by kernel_rfl) (by kernel_rfl)) ?_
  intro W base args ds gs before hval0 hW hcnd _
  have hval : ∀ (j : Nat) t v, Try.f3.params[j]? = some t → args[j]? = some v → Value.okWide Try.prog W .any base t v := hval0
  have hW' := hW
  obtain ⟨p, q, hA0, hV, rfl, hfz, hnd⟩ := hW
  have hA : DataW.TrodAll enc Try.prog W 0 (fun _ => true) true Try.f3.params.toList args.toList ds p := hA0
  rw [Try.params3] at hA hval
  obtain ⟨v0, vs0, d0, ds0, p0, q0, hargs, rfl, rfl, h0, r0⟩ := trodAll_cons hA
  obtain ⟨v1, vs1, d1, ds1, p1, q1, rfl, rfl, rfl, h1, r1⟩ := trodAll_cons r0
  obtain ⟨v2, vs2, d2, ds2, p2, q2, rfl, rfl, rfl, h2, r2⟩ := trodAll_cons r1
  obtain ⟨rfl, rfl, rfl⟩ := trodAll_nil r2
  obtain rfl : args = #[v0, v1, v2] := by cases args; simp_all
  obtain ⟨rfl, rfl⟩ := trodVars_none hV
  obtain ⟨x, T, rfl, hT⟩ := open_val (hval 0 26 v0 rfl rfl) h0
  obtain ⟨y, U, rfl, hU⟩ := open_val (hval 1 26 v1 rfl rfl) h1
  obtain ⟨i, rfl⟩ := okWide_int Try.underlying3 (hval 2 3 v2 rfl rfl)
  obtain ⟨f2, h2⟩ := h2
  obtain ⟨i', hi', w2⟩ := cell_int Try.underlying3 h2
  obtain rfl : i = i' := by simpa using hi'
  refine (checks_walk T U x y i W (wf_i64 w2).1 (wf_i64 w2).2 hT hU).mono fun e W' ⟨he, hb⟩ => ?_
  exact ⟨_, he, law_post laidOut hW' rfl (by kernel_rfl) rfl Try.underlying4 rfl rfl rfl hb⟩

theorem checks_holds : Rows.ValueChecksSaid :=
  OpenClaim.holds_of_wide 3 Try.f3 rfl rfl rfl rfl rfl rfl rfl ⟨rfl, rfl, rfl, rfl, rfl⟩ rfl rfl rfl rfl rfl (by kernel_rfl) Try.func3 (by kernel_rfl)
    (of_decide_eq_true (by kernel_rfl)) (by unfold Func.isWrapper; first | (rw [if_pos (by decide +kernel)]; kernel_rfl) | (rw [if_neg (by decide +kernel)]; exact ⟨rfl, rfl⟩))
    (fun os started H enc _ => checks_lifted os started H enc)
#print axioms checks_holds
end Go.Proofs.Ytjgampkpfjbmdaa
