/- The law's refused() and nested(). -/
import Derived.Test.YtjgampkpfjbmdaaDoorVNamesP
namespace Go.Rel
open Go.RowKit
/-- A list over a new block of one value. -/
theorem fr_list1 {W : World} {g base : Nat} {e : TypeId} {x1 : Val} {t1 : Tree} (hb : Blk W g e (box1 x1)) (hg : base ≤ g) (hx : Fresh W base e t1 x1) : Fresh W base e (tList [t1]) (listX (some ⟨g, 0, none⟩) 1 1) := by
  refine Reads.mk (listX (some ⟨g, 0, none⟩) 1 1) [t1] [x1] (ok_listX g 1 (by decide)) rfl rfl (fun _ => ⟨g, 0, rfl, ⟨hg, rfl, _, hb⟩, fun i v hi j u hj => ?_⟩) (fun i t y hi hy => ?_)
  · cases i with
    | zero =>
      simp at hi
      subst hi
      simp only [Nat.zero_mul, Nat.zero_add]
      refine hb.cell ?_
      rw [← hj]
      unfold box1 Val.cells
      simp
    | succ i => simp at hi
  · cases i with
    | zero => simp at hi hy; subst hi; subst hy; exact hx
    | succ i => simp at hi
end Go.Rel
namespace Go.Proofs.YtjgampkpfjbmdaaDoor
open Go.RowKit Go.Rel
set_option maxRecDepth 100000
set_option maxHeartbeats 4000000
theorem refused_any (s : ByteArray) (w : World) (hs : s.size ≤ 100000) (ht : Tab w) (h : parseVE s.data.toList = 12) :
    Calls Tryd.prog 26 #[.string s] w (Ret w (.bool true)) := by
  have r := fun W h => parseV_any s W hs h
  rw [h, bad_form h] at r
  have R := Lib.hid r
  clear r h
  go_enter Tryd.func26, Tryd.ntmps26
  go_wp2_with fail
  refine (R.out w ht).mono ?_
  rintro e w1 ⟨⟨k, q, t, s', A, len, cap⟩, rfl, hfr, hx⟩
  have hk : k = 0 := by
    obtain ⟨kids, ys, he, -⟩ := Reads.inv hfr
    unfold Tree.none_ at he
    injection he with he
    exact he.symm
  subst hk
  have hba := below_alloc w1 (.cells (Val.box ⟨0, q, t, s', A, len, cap⟩) 26)
  have hb := hx.trans (hba.mono hx.size)
  clear hx hba hfr
  go_wp2_with fail
  go_ret
  exact ⟨rfl, hb⟩
theorem nested_any (n : Nat) (h1 : 1 ≤ n) (h7 : n ≤ 7) (w : World) :
    Calls Tryd.prog 28 #[.int .i64 n] w fun e w' => ∃ x : Val, e = .returned x.v ∧ Fresh w' w.heap.size 26 (nestT (n - 1)) x ∧ Below w.heap.size w w' := by
  have hbK := below_alloc w (.cells (Val.box noneV) 26)
  have hK := Blk.new w 26 (Val.box noneV)
  go_enter Tryd.func28, Tryd.ntmps28
  go_wp2_with fail
  generalize w.alloc _ = w1 at hbK hK ⊢
  refine (llist_any none 0 0 w1).mono ?_
  rintro e w2 ⟨rfl, hx⟩
  replace hK := hK.keep hx
  have hb := hbK.trans (hx.mono hbK.size)
  clear hx hbK
  have hKl := hK.lt
  have hba := below_alloc w2 (.cells (Val.box (listX none 0 0)) 26)
  have hG := Blk.new w2 26 (Val.box (listX none 0 0))
  have hwG := hb.size
  have HL := Lib.hid (show _ ∧ _ ∧ _ ∧ _ from ⟨hb.trans (hba.mono hb.size), hK.keep hba, hG, (show Fresh (w2.alloc (.cells (Val.box (listX none 0 0)) 26)) (w2.heap.size + 1) 26 (nestT 0) (listX none 0 0) from fresh_leaf _ _ _ ok_list)⟩)
  clear hba hG hb hK
  go_wp2_with fail
  generalize w2.alloc _ = w3 at HL ⊢
  generalize w2.heap.size = G at HL hwG hKl ⊢
  go_loopw [4] (fun iv wr => ∃ (i : Nat) (x : Val), iv = .int .i64 i ∧ 1 ≤ i ∧ i ≤ n ∧ Below w.heap.size w wr ∧ Blk wr w.heap.size 26 (Val.box noneV) ∧ Blk wr G 26 (Val.box x) ∧ Fresh wr (G + 1) 26 (nestT (i - 1)) x) (fun iv _ => n - (intOf iv).toNat)
  case atStart => exact ⟨1, _, rfl, Nat.le_refl _, h1, HL.out.1, HL.out.2.1, HL.out.2.2.1, HL.out.2.2.2⟩
  case round =>
    clear HL
    obtain ⟨i, ⟨k, q, t, s, A, len, cap⟩, rfl, hi1, hin, hb, hK, hG, hf⟩ := hrel
    obtain ⟨c0, c1, c2, c3, c4, c5⟩ := hG.val
    by_cases hlt : i < n
    · have hlt2 : (i : Int) < n := by omega
      have hba := below_alloc wr (.cells (box1 ⟨k, q, t, s, A, len, cap⟩) 26)
      have hg := Blk.new wr 26 (box1 ⟨k, q, t, s, A, len, cap⟩)
      have hGl := hG.lt
      go_wp2_with fail
      clear c0 c1 c2 c3 c4 c5
      refine (llist_any (some ⟨wr.heap.size, 0, none⟩) 1 1 _).mono ?_
      rintro e w5 ⟨rfl, hx⟩
      replace hg := hg.keep hx
      replace hK := (hK.keep hba).keep hx
      replace hG := (hG.keep hba).keep hx
      replace hf := (hf.below hba).below hx
      replace hb := (hb.trans (hba.mono hb.size)).trans (hx.mono (hb.trans (hba.mono hb.size)).size)
      clear hx hba
      generalize wr.heap.size = g at *
      obtain ⟨d0, d1, d2, d3, d4, d5⟩ := hG.val
      have df := hG.frozen
      have fl := fr_list1 hg (show G + 1 ≤ g by omega) hf
      have mG : Blk _ _ 26 (Val.box (listX (some ⟨g, 0, none⟩) 1 1)) := hG.set6 (.int .u8 4) (.int .i64 0) (.int .i64 0) (.bool false) (.string ⟨#[]⟩) (.slice (some ⟨g, 0, none⟩) 1 1)
      have mK : Blk _ _ 26 (Val.box noneV) := (far_set6 (w := w5) (k := w.heap.size) (g := G) (by omega) (.int .u8 4) (.int .i64 0) (.int .i64 0) (.bool false) (.string ⟨#[]⟩) (.slice (some ⟨g, 0, none⟩) 1 1)).trans hK
      have mb := below_set6 hb hwG (.int .u8 4) (.int .i64 0) (.int .i64 0) (.bool false) (.string ⟨#[]⟩) (.slice (some ⟨g, 0, none⟩) 1 1)
      have mf := fl.keep (w' := _) (Nat.le_refl _) (fun b h1 h2 => far_set6 (w := w5) (k := b) (g := G) (by omega) (.int .u8 4) (.int .i64 0) (.int .i64 0) (.bool false) (.string ⟨#[]⟩) (.slice (some ⟨g, 0, none⟩) 1 1))
      have HM := Lib.hid (show _ ∧ _ ∧ _ ∧ _ from ⟨mb, mK, mG, mf⟩)
      clear mb mK mG mf fl hb hK hG hf hg
      go_wp2_with fail
      go_roundw
      case rel => exact ⟨i + 1, _, by go_num, by omega, hlt, HM.out.1, HM.out.2.1, HM.out.2.2.1, by rw [show i + 1 - 1 = (i - 1) + 1 by omega]; exact HM.out.2.2.2⟩
      case measure => simp [intOf]; omega
    · obtain rfl : i = n := by omega
      have hlt2 : ¬ (i : Int) < i := by omega
      obtain ⟨r0, r1, r2, r3, r4, r5⟩ := hK.val
      have rf := hK.frozen
      have rl := hK.lt
      have n1 : Blk _ _ 26 (Val.box ⟨k, q, t, s, A, len, cap⟩) := hK.set6 (.int .u8 k) (.int .i64 q.n) (.int .i64 q.d) (.bool t) (.string s) (.slice A len cap)
      have n2 := below_set6 hb (Nat.le_refl _) (.int .u8 k) (.int .i64 q.n) (.int .i64 q.d) (.bool t) (.string s) (.slice A len cap)
      have n3 := hf.keep (w' := _) (base' := w.heap.size) (by omega) (fun b h1 h2 => far_set6 (w := wr) (k := b) (g := w.heap.size) (by omega) (.int .u8 k) (.int .i64 q.n) (.int .i64 q.d) (.bool t) (.string s) (.slice A len cap))
      have HN := Lib.hid (show _ ∧ _ ∧ _ from ⟨n1, n2, n3⟩)
      clear n1 n2 n3 hb hK hG hf
      go_wp2_with fail
      obtain ⟨k0, k1, k2, k3, k4, k5⟩ := Blk.val (x := ⟨k, q, t, s, A, len, cap⟩) HN.out.1
      exact bodyPost_ret (v := Val.v ⟨k, q, t, s, A, len, cap⟩) (by simp [results, Tryd.results28, go_sem, k0, k1, k2, k3, k4, k5]) rfl ⟨⟨k, q, t, s, A, len, cap⟩, rfl, HN.out.2.2, HN.out.2.1⟩
end Go.Proofs.YtjgampkpfjbmdaaDoor
