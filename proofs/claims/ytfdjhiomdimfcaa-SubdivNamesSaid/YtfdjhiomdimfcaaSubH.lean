/- Refine of the reference: the refining. -/
import Derived.Test.YtfdjhiomdimfcaaSubG
namespace Go.Rel
open Go.RowKit
theorem Blk.set0 {w : World} {g : Nat} {t : TypeId} {x y z : Value} (h : Blk w g t #[x, y, z]) (a : Value) : Blk (w.setCell ⟨g, 0, none⟩ a) g t #[a, y, z] := by simpa using h.set_ 0 a
def refK (l : List Vec) (d k : Nat) : List Vec := (List.range k).map (binV l d)
theorem refK_succ (l : List Vec) (d k : Nat) : refK l d (k + 1) = refK l d k ++ [binV l d k] := by unfold refK; rw [List.range_succ, List.map_append]; rfl
theorem refK_length (l : List Vec) (d k : Nat) : (refK l d k).length = k := by simp [refK]
/-- The masks. -/
theorem tri_bin (l : List Vec) (i : Nat) : triV l i 2 0 0 = binV l 1 (2 * i) ∧ triV l i 1 1 0 = binV l 1 (2 * i + 1) ∧ triV l i 3 1 0 = binV l 2 (2 * i) ∧ triV l i 1 3 0 = binV l 2 (2 * i + 1) ∧ triV l i 4 4 0 = binV l 3 (2 * i) ∧ triV l i 1 6 1 = binV l 3 (2 * i + 1) := by
  have e0 : 2 * i / 2 = i := by omega
  have e1 : (2 * i + 1) / 2 = i := by omega
  have e2 : (2 * i + 2) / 2 = i + 1 := by omega
  have e3 : (2 * i + 3) / 2 = i + 1 := by omega
  have e4 : (2 * i + 4) / 2 = i + 2 := by omega
  simp only [triV, binV, Nat.add_assoc, Nat.reduceAdd, e0, e1, e2, e3, e4]
  refine ⟨?_, ?_, ?_, ?_, ?_, ?_⟩ <;> apply Vec.ext' <;> simp only [addV, mulV] <;> omega
end Go.Rel
namespace Go.Proofs.Ytfdjhiomdimfcaa
open Go.RowKit Go.Rel

set_option maxRecDepth 100000 in
set_option maxHeartbeats 4000000 in
theorem refRefine_closed (A : Option Addr) (n cap : Nat) (l : List Vec) (down : Int) (d : Nat) (closed : Bool) (w : World) (hv0 : Valid l down) (hcl : closed = true) (hd : 1 ≤ d ∧ d ≤ 3) (hn : l.length = n) (hv : Vecs w w.heap.size A l) (hm1 : 1 ≤ refM n d closed) (hm2 : refM n d closed ≤ 1000) :
    Calls Try.prog 18 #[.agg #[.slice A n cap, .int .i64 down, .bool closed], .int .i64 d] w (RetM w (CurveRet w.heap.size 31 (refL l down closed d) (refDown l down closed d) (refClosed l down closed d) (refE l down closed d))) := by
  have hn1000 : n ≤ 1000 := by have := hv0.2.1; omega
  have hn1 : 1 ≤ n := by have := hv0.1; omega
  have hdn : 0 ≤ down ∧ down ≤ 30 := ⟨hv0.2.2.1, hv0.2.2.2.1⟩
  obtain ⟨dn1, dn2⟩ := hdn
  have hck := fun W hW => refChecked_any A n cap l down d closed W hn (by omega) hW ⟨by omega, by omega⟩
  rw [show checkedE l down d = 0 by unfold checkedE; rw [if_pos hv0, if_pos ⟨by omega, by omega⟩]] at hck
  have HCK := Lib.hid hck
  have HN := Lib.hid hn
  have HV := Lib.hid hv0
  obtain ⟨d1, d2⟩ := id hd
  have hmm : ∃ M : Nat, (M : Int) = 2 * n ∧ 1 ≤ M ∧ M ≤ 1000 := ⟨2 * n, by omega, by omega, by subst hcl; unfold refM at hm2; simp at hm2; omega⟩
  obtain ⟨x1, x2, x3, x4⟩ := boxes2 w #[.slice A n cap, .int .i64 down, .bool closed] #[.slice none 0 0, .int .i64 0, .bool false] 24 24
  have hx := Lib.hid (show _ ∧ _ ∧ _ ∧ _ from ⟨x1, x2, x3, x4⟩)
  obtain ⟨i0, hi, hz0, hz1, hz2⟩ := info_parts Try.infoVec
  have HI := Lib.hid (show Try.prog.info? 31 = some i0 ∧ i0.zero = some (.agg #[.int .i64 0, .int .i64 0, .int .i64 0]) ∧ i0.size = 3 ∧ i0.bytes = 24 from ⟨hi, hz0, hz1, hz2⟩)
  have HEND := Lib.hid (refE_end hv0 hn hd hm1 hm2)
  have hlenM : lenJ n d closed = (refM n d closed).toNat := by unfold lenJ refM at *; cases closed <;> simp at * <;> omega
  have HLM := Lib.hid hlenM
  clear x1 x2 x3 x4 hck hn hv0 hi hz0 hz1 hz2 hm1 hm2 hlenM
  obtain ⟨M, hM, hM1, hM2⟩ := hmm
  subst hcl
  go_enter Try.func18, Try.ntmps18
  go_wp2_with fail
  obtain ⟨x1, x2, x3, x4⟩ := hx.out
  generalize World.alloc _ _ = w0 at x1 x2 x3 x4 ⊢
  refine (HCK.out _ ((hv.below x1).more (by omega))).mono ?_
  rintro e w1 ⟨rfl, hb1⟩
  have y3 : Blk w1 w.heap.size 24 _ := Blk.keep x3 hb1
  have y4 : Blk w1 (w.heap.size + 1) 24 _ := Blk.keep x4 hb1
  have c0 := y3.cell (i := 0) rfl
  have c1 := y3.cell (i := 1) rfl
  have c2 := y3.cell (i := 2) rfl
  have hs := y4.lt
  have hs0 := y3.lt
  have hb := x1.trans (hb1.mono (by omega))
  have HY := Lib.hid (show _ ∧ _ from ⟨y3, y4⟩)
  clear x1 x2 x3 x4 hb1 y4 y3
  go_wp2_with fail
  obtain ⟨y3, y4⟩ := HY.out
  have q0 := Blk.new w1 24 #[.slice none 0 0, .int .i64 (down + d), .bool true]
  have q3 := y3.alloc (.cells #[.slice none 0 0, .int .i64 (down + d), .bool true] 24)
  have q4 := y4.alloc (.cells #[.slice none 0 0, .int .i64 (down + d), .bool true] 24)
  have hb2 := hb.alloc (by omega) (.cells #[.slice none 0 0, .int .i64 (down + d), .bool true] 24)
  have hs2 : w1.heap.size < (w1.alloc (.cells #[.slice none 0 0, .int .i64 (down + d), .bool true] 24)).heap.size := by simp
  generalize World.alloc _ _ = w2 at q0 q3 q4 hb2 hs2 ⊢
  generalize w1.heap.size = Bo at *
  have hBo1 : w.heap.size + 1 < Bo := hs
  clear HY y3 y4 c0 c1 c2 hb
  go_loopw [8] (fun i wr => ∃ k : Nat, (k : Int) ≤ (2 * n : Int) ∧ i = .int .i64 k ∧ (∃ S, Blk wr Bo 24 #[S, .int .i64 (down + d), .bool true] ∧ wr.ownsRow w.heap.size 31 3 S k ((refK l d k).flatMap Vec.cells)) ∧
    (Blk wr w.heap.size 24 #[.slice A n cap, .int .i64 down, .bool true] ∧ Blk wr (w.heap.size + 1) 24 #[.slice none 0 0, .int .i64 0, .bool false]) ∧ Below w.heap.size w wr) (fun i _ => 2 * n - (intOf i).toNat)
  case atStart => exact ⟨0, by omega, rfl, ⟨_, q0, World.ownsRow_nil _ _ _ _⟩, ⟨q3, q4⟩, hb2⟩
  case round =>
    obtain ⟨k, hk, rfl, ⟨S, hBo, hrow⟩, ⟨hB0, hB1⟩, hB⟩ := hrel
    by_cases hlt : (k : Int) < (2 * n : Int)
    · have hsz := hB.size
      have hBoL := hBo.lt
      have hB1L := hB1.lt
      have hB0L := hB0.lt
      have c0 := hB0.cell (i := 0) rfl
      obtain ⟨i, hi⟩ : ∃ i, i = k / 2 := ⟨_, rfl⟩
      have hkk : k = 2 * i ∨ k = 2 * i + 1 := by omega
      have hi3 : i ≤ 1000000 := by omega
      have eq2 : ((k : Int)).tdiv 2 = (i : Int) := by rw [hi]; exact (Int.ofNat_tdiv k 2).symm
      have hfin : ∀ j, inV 1000000000000 (getM l j) := fun j => getM_fine HV.out j
      have H3 : ∀ (a b c : Int) (W : World), 0 ≤ a ∧ a ≤ 6 → 0 ≤ b ∧ b ≤ 6 → 0 ≤ c ∧ c ≤ 6 → Below w.heap.size w W → Calls Try.prog 39 #[.slice A n cap, .int .i64 i, .int .i64 a, .int .i64 b, .int .i64 c] W (Ret W (triV l i a b c).v) :=
        fun a b c W h1 h2 h3 hW => three_any A n cap i l a b c W HN.out (by omega) (by omega) hi3 ((hv.below hW).more hW.size) hfin h1 h2 h3
      obtain ⟨t1, t2, t3, t4, t5, t6⟩ := tri_bin l i
      obtain ⟨R, hR⟩ : ∃ R, binV l d k = R := ⟨_, rfl⟩
      have HBR := Lib.hid hR
      have hcase : ∃ (e : Int) (b1 b2 : Bool), ((k : Int)).tmod 2 = e ∧ ((d : Int) == 1) = b1 ∧ ((d : Int) == 2) = b2 ∧ ((b1 = (0 == 0) ∧ b2 = (0 == 1) ∧ e = 0 ∧ triV l i 2 0 0 = R) ∨ (b1 = (0 == 0) ∧ b2 = (0 == 1) ∧ e = 1 ∧ triV l i 1 1 0 = R) ∨ (b1 = (0 == 1) ∧ b2 = (0 == 0) ∧ e = 0 ∧ triV l i 3 1 0 = R) ∨ (b1 = (0 == 1) ∧ b2 = (0 == 0) ∧ e = 1 ∧ triV l i 1 3 0 = R) ∨ (b1 = (0 == 1) ∧ b2 = (0 == 1) ∧ e = 0 ∧ triV l i 4 4 0 = R) ∨ (b1 = (0 == 1) ∧ b2 = (0 == 1) ∧ e = 1 ∧ triV l i 1 6 1 = R)) := by
        have hdd : d = 1 ∨ d = 2 ∨ d = 3 := by omega
        rcases hkk with rfl | rfl
        · refine ⟨0, _, _, by rw [Int.tmod_eq_emod_of_nonneg (by omega)]; omega, rfl, rfl, ?_⟩
          rcases hdd with rfl | rfl | rfl
          · exact .inl ⟨rfl, rfl, rfl, t1.trans hR⟩
          · exact .inr (.inr (.inl ⟨rfl, rfl, rfl, t3.trans hR⟩))
          · exact .inr (.inr (.inr (.inr (.inl ⟨rfl, rfl, rfl, t5.trans hR⟩))))
        · refine ⟨1, _, _, by rw [Int.tmod_eq_emod_of_nonneg (by omega)]; omega, rfl, rfl, ?_⟩
          rcases hdd with rfl | rfl | rfl
          · exact .inr (.inl ⟨rfl, rfl, rfl, t2.trans hR⟩)
          · exact .inr (.inr (.inr (.inl ⟨rfl, rfl, rfl, t4.trans hR⟩)))
          · exact .inr (.inr (.inr (.inr (.inr ⟨rfl, rfl, rfl, t6.trans hR⟩))))
      obtain ⟨e, b1, b2, he, hb1, hb2, hcase⟩ := hcase
      have HH3 := Lib.hid H3
      clear hv t1 t2 t3 t4 t5 t6 hR hfin H3 hi hkk
      have v0 := Blk.new wr 31 #[.int .i64 0, .int .i64 0, .int .i64 0]
      have HB9 := Lib.hid (show _ ∧ _ ∧ _ ∧ _ ∧ _ ∧ _ ∧ _ from ⟨v0, hBo.alloc (.cells #[.int .i64 0, .int .i64 0, .int .i64 0] 31), hB0.alloc (.cells #[.int .i64 0, .int .i64 0, .int .i64 0] 31), hB1.alloc (.cells #[.int .i64 0, .int .i64 0, .int .i64 0] 31), hrow.alloc (.cells #[.int .i64 0, .int .i64 0, .int .i64 0] 31), hB.alloc hsz (.cells #[.int .i64 0, .int .i64 0, .int .i64 0] 31), row_ne_new hrow (Nat.le_refl _)⟩)
      clear v0 hBo hB0 hB1 hrow hB
      rcases hcase with ⟨rfl, rfl, rfl, hT⟩ | ⟨rfl, rfl, rfl, hT⟩ | ⟨rfl, rfl, rfl, hT⟩ | ⟨rfl, rfl, rfl, hT⟩ | ⟨rfl, rfl, rfl, hT⟩ | ⟨rfl, rfl, rfl, hT⟩
      all_goals
        have HT := Lib.hid hT
        clear hT
        simp only [Nat.reduceBEq, beq_self_eq_true] at hb1 hb2
        go_wp2_with fail
        obtain ⟨v0, hBo, hB0, hB1, hrow, hB, hSg⟩ := HB9.out
        have hH3 := HH3.out
        generalize hwa : World.alloc _ _ = wa at v0 hBo hB0 hB1 hrow hB ⊢
        clear hwa
        generalize hga : wr.heap.size = g at *
        refine (hH3 _ _ _ wa ⟨by omega, by omega⟩ ⟨by omega, by omega⟩ ⟨by omega, by omega⟩ hB).mono ?_
        rw [HT.out]
        rintro e W ⟨rfl, hW⟩
        have v1 := v0.keep hW
        replace hBo := hBo.keep hW
        replace hB0 := hB0.keep hW
        replace hB1 := hB1.keep hW
        replace hrow := ownsRow_below hrow hW
        replace hB := hB.trans (hW.mono hB.size)
        have hgw : w.heap.size ≤ g := hsz
        have hBg : Bo ≠ g := by omega
        have t0 := v1.cell (i := 0) rfl
        have t1 := v1.cell (i := 1) rfl
        have t2 := v1.cell (i := 2) rfl
        have t3 := v1.frozen
        have o0 := hBo.cell (i := 0) rfl
        have o3 := hBo.frozen 0
        have hsW := hB.size
        have gL := v1.lt
        have oL := hBo.lt
        have hrow3 := ownsRow_set (ownsRow_set (ownsRow_set hrow ⟨g, 0, none⟩ (.int .i64 R.x) hSg) ⟨g, 1, none⟩ (.int .i64 R.y) hSg) ⟨g, 2, none⟩ (.int .i64 R.z) hSg
        have hBo3 := ((hBo.far (p := ⟨g, 0, none⟩) hBg (.int .i64 R.x)).far (p := ⟨g, 1, none⟩) hBg (.int .i64 R.y)).far (p := ⟨g, 2, none⟩) hBg (.int .i64 R.z)
        have hB03 := ((hB0.far (p := ⟨g, 0, none⟩) (by simp only; omega) (.int .i64 R.x)).far (p := ⟨g, 1, none⟩) (by simp only; omega) (.int .i64 R.y)).far (p := ⟨g, 2, none⟩) (by simp only; omega) (.int .i64 R.z)
        have hB13 := ((hB1.far (p := ⟨g, 0, none⟩) (by simp only; omega) (.int .i64 R.x)).far (p := ⟨g, 1, none⟩) (by simp only; omega) (.int .i64 R.y)).far (p := ⟨g, 2, none⟩) (by simp only; omega) (.int .i64 R.z)
        have hb3 := ((hB.setCell (p := ⟨g, 0, none⟩) hgw (.int .i64 R.x)).setCell (p := ⟨g, 1, none⟩) hgw (.int .i64 R.y)).setCell (p := ⟨g, 2, none⟩) hgw (.int .i64 R.z)
        have H3' := Lib.hid (show _ ∧ _ ∧ _ ∧ _ ∧ _ from ⟨hrow3, hBo3, hB03, hB13, hb3⟩)
        clear hrow3 hBo3 hB03 hB13 hb3 hBo hB0 hB1 hrow hB v0 v1 hW HB9 HH3 hH3 hga c0
        go_wp2_with (at_builtin; refine Hid.out ?_)
        refine Lib.hid ?_
        obtain ⟨hrow3, hBo3, hB03, hB13, hb3⟩ := H3'.out
        have hs5 : (((W.setCell ⟨g, 0, none⟩ (.int .i64 R.x)).setCell ⟨g, 1, none⟩ (.int .i64 R.y)).setCell ⟨g, 2, none⟩ (.int .i64 R.z)).heap.size = W.heap.size := by simp
        generalize World.setCell (World.setCell _ _ _) _ _ = W5 at hrow3 hBo3 hB03 hB13 hb3 hs5 ⊢
        clear H3' t0 t1 t2 t3 o0 o3 gL
        obtain ⟨hi, hz0, hz1, hz2⟩ := HI.out
        refine wpList_append_own _ rfl _ _ 22 rfl w.heap.size 31 i0 (.agg #[.int .i64 0, .int .i64 0, .int .i64 0]) 3 24 Try.underlying22 hi hz0 hz1 hz2 rfl (by decide) _ _ _ rfl (hrow3.alloc _) ⟨W.heap.size, 0, none⟩ 1 1 (Vec.cells R) rfl rfl ?c1 ?c2 ?c3 ?c4 ?c5 ?_
        case c1 =>
          have := cells_new_list W5 (Vec.cells R) 31
          rw [hs5] at this
          exact this
        case c2 => exact cells_one R
        case c3 => unfold maxLen; omega
        case c4 => omega
        case c5 => simp; omega
        intro v' W6 hown' hgrow _
        obtain ⟨g', cap', rfl⟩ := ownsRow_succ hown'
        have hBo6 := blk_appended hBo3 (by decide) hrow3 hgrow
        have hB06 := blk_appended hB03 (by decide) hrow3 hgrow
        have hB16 := blk_appended hB13 (by decide) hrow3 hgrow
        have hb6 := (hb3.alloc (by omega) _).grown hgrow (by simp; omega) (fun r hr => (hrow3.lt r hr).1)
        have hrow6 := ownsRow_set hown' ⟨Bo, 0, none⟩ (.slice (some ⟨g', 0, none⟩) (k + 1) cap') (row_ne_blk hBo6 (by decide) hown')
        have hBo7 := hBo6.set0 (.slice (some ⟨g', 0, none⟩) (k + 1) cap')
        have hB07 := hB06.far (p := ⟨Bo, 0, none⟩) (by simp only; omega) (.slice (some ⟨g', 0, none⟩) (k + 1) cap')
        have hB17 := hB16.far (p := ⟨Bo, 0, none⟩) (by simp only; omega) (.slice (some ⟨g', 0, none⟩) (k + 1) cap')
        have hb7 := hb6.setCell (p := ⟨Bo, 0, none⟩) (by simp only; omega) (.slice (some ⟨g', 0, none⟩) (k + 1) cap')
        have H7 := Lib.hid (show _ ∧ _ ∧ _ ∧ _ ∧ _ from ⟨hrow6, hBo7, hB07, hB17, hb7⟩)
        have o0 := hBo6.cell (i := 0) rfl
        have o3 := hBo6.frozen 0
        have oL2 := hBo6.lt
        clear hrow6 hBo7 hB07 hB17 hb7 hBo6 hB06 hB16 hb6 hown' hgrow hrow3 hBo3 hB03 hB13 hb3
        go_wp2_with fail
        go_roundw
        case rel =>
          obtain ⟨q1, q2, q3, q4, q5⟩ := H7.out
          refine ⟨k + 1, by omega, by go_num, ⟨_, q2, ?_⟩, ⟨q3, q4⟩, q5⟩
          rw [refK_succ, HBR.out, List.flatMap_append, List.flatMap_cons, List.flatMap_nil, List.append_nil]
          exact q1
        case measure => simp [intOf]; omega
    · have hkm : (k : Int) = (2 * n : Int) := by omega
      obtain ⟨hst, hend⟩ := HEND.out
      have hlenk : lenJ n d true = k := by unfold lenJ; simp; omega
      have hpts : refPts l d true = refK l d k := by
        unfold refPts refK
        rw [HN.out, ← HLM.out, hlenk]
      have hlen : (refK l d k).length = k := refK_length _ _ _
      obtain ⟨A1, cap1, rfl, -, hvs⟩ := Vecs.of_own_n hlen hrow
      rw [← hpts] at hvs hrow hlen
      have o0 := hBo.cell (i := 0) rfl
      have o1 := hBo.cell (i := 1) rfl
      have o2 := hBo.cell (i := 2) rfl
      have r3 := hB1.frozen
      have hsz := hB.size
      have hck2 := refCheck_any A1 k cap1 (refPts l d true) (down + d) true wr hlen (by omega) hvs
      have HROW := Lib.hid hrow
      have HLEN := Lib.hid hlen
      have hBoL := hBo.lt
      clear hst hrow hvs hlen HEND hlenk hpts hv
      rcases hend with ⟨hV, hE⟩ | ⟨hV, hE⟩
      · rw [checkE_ok hV] at hck2
        have HC2 := Lib.hid hck2
        have HR2 := Lib.hid (refL_ok hE)
        have HE := Lib.hid hE
        clear hck2 hV hE
        go_wp2_with fail
        refine HC2.out.mono ?_
        rintro e W2 ⟨rfl, hb2⟩
        have hsz2 := hb2.size
        replace hBo := hBo.keep hb2
        replace hB1 := hB1.keep hb2
        replace o0 := hBo.cell (i := 0) rfl
        replace o1 := hBo.cell (i := 1) rfl
        replace o2 := hBo.cell (i := 2) rfl
        have c0 := hB1.cell (i := 0) rfl
        have c1 := hB1.cell (i := 1) rfl
        have c2 := hB1.cell (i := 2) rfl
        replace r3 := hB1.frozen
        have rL := hB1.lt
        have hrow2 := ownsRow_below HROW.out hb2
        have hnb := row_ne_blk hB1 (by decide) hrow2
        have hrow3 := ownsRow_set (ownsRow_set (ownsRow_set hrow2 ⟨w.heap.size + 1, 0, none⟩ (.slice A1 k cap1) hnb) ⟨w.heap.size + 1, 1, none⟩ (.int .i64 (down + d)) hnb) ⟨w.heap.size + 1, 2, none⟩ (.bool true) hnb
        have z := hB1.set3 (.slice A1 k cap1) (.int .i64 (down + d)) (.bool true)
        have hb3 := (((hB.trans (hb2.mono hsz)).setCell (p := ⟨w.heap.size + 1, 0, none⟩) (by simp) (.slice A1 k cap1)).setCell (p := ⟨w.heap.size + 1, 1, none⟩) (by simp) (.int .i64 (down + d))).setCell (p := ⟨w.heap.size + 1, 2, none⟩) (by simp) (.bool true)
        have HZ := Lib.hid (show _ ∧ _ ∧ _ from ⟨z, hb3, hrow3⟩)
        clear z hb3 hrow3 hrow2 hnb HROW HC2 hB0 hB1 hBo hB hb2
        go_wp2_with fail
        obtain ⟨z, hb3, hrow3⟩ := HZ.out
        generalize World.setCell _ _ _ = w9 at z hb3 hrow3 ⊢
        have z0 := z.cell (i := 0) rfl
        have z1 := z.cell (i := 1) rfl
        have z2 := z.cell (i := 2) rfl
        obtain ⟨e1, e2, e3⟩ := HR2.out
        rw [e1, e2, e3, HE.out, Int.toNat_natCast]
        refine bodyPost_ret (by simp [results, Try.results18, go_sem, z0, z1, z2]; rfl) rfl ?_
        refine retM ⟨_, rfl, ?_⟩ hb3
        rw [HLEN.out]
        exact hrow3
      · rw [checkE_bad hV] at hck2
        have HC2 := Lib.hid hck2
        have HR2 := Lib.hid (refL_bad (by rw [hE]; decide))
        have HE := Lib.hid hE
        clear hck2 hV hE
        go_wp2_with fail
        refine HC2.out.mono ?_
        rintro e W2 ⟨rfl, hb2⟩
        have hsz2 := hb2.size
        replace hB1 := hB1.keep hb2
        clear o0 o1 o2
        have c0 := hB1.cell (i := 0) rfl
        have c1 := hB1.cell (i := 1) rfl
        have c2 := hB1.cell (i := 2) rfl
        replace r3 := hB1.frozen
        have rL := hB1.lt
        have z := hB1.set3 (.slice none 0 0) (.int .i64 0) (.bool false)
        have hb3 := (((hB.trans (hb2.mono hsz)).setCell (p := ⟨w.heap.size + 1, 0, none⟩) (by simp) (.slice none 0 0)).setCell (p := ⟨w.heap.size + 1, 1, none⟩) (by simp) (.int .i64 0)).setCell (p := ⟨w.heap.size + 1, 2, none⟩) (by simp) (.bool false)
        have HZ := Lib.hid (show _ ∧ _ from ⟨z, hb3⟩)
        clear z hb3 HROW HC2 hB0 hB1 hBo hB hb2
        go_wp2_with fail
        obtain ⟨z, hb3⟩ := HZ.out
        generalize World.setCell _ _ _ = w9 at z hb3 ⊢
        have z0 := z.cell (i := 0) rfl
        have z1 := z.cell (i := 1) rfl
        have z2 := z.cell (i := 2) rfl
        obtain ⟨e1, e2, e3⟩ := HR2.out
        rw [e1, e2, e3, HE.out]
        refine bodyPost_ret (by simp [results, Try.results18, go_sem, z0, z1, z2]; rfl) rfl ?_
        exact retM ⟨_, rfl, World.ownsRow_nil _ _ _ _⟩ hb3

set_option maxRecDepth 100000 in
set_option maxHeartbeats 4000000 in
theorem refRefine_open (A : Option Addr) (n cap : Nat) (l : List Vec) (down : Int) (d : Nat) (closed : Bool) (w : World) (hv0 : Valid l down) (hcl : closed = false) (hd : 1 ≤ d ∧ d ≤ 3) (hn : l.length = n) (hv : Vecs w w.heap.size A l) (hm1 : 1 ≤ refM n d closed) (hm2 : refM n d closed ≤ 1000) :
    Calls Try.prog 18 #[.agg #[.slice A n cap, .int .i64 down, .bool closed], .int .i64 d] w (RetM w (CurveRet w.heap.size 31 (refL l down closed d) (refDown l down closed d) (refClosed l down closed d) (refE l down closed d))) := by
  have hn1000 : n ≤ 1000 := by have := hv0.2.1; omega
  have hn1 : 1 ≤ n := by have := hv0.1; omega
  have hdn : 0 ≤ down ∧ down ≤ 30 := ⟨hv0.2.2.1, hv0.2.2.2.1⟩
  obtain ⟨dn1, dn2⟩ := hdn
  have hck := fun W hW => refChecked_any A n cap l down d closed W hn (by omega) hW ⟨by omega, by omega⟩
  rw [show checkedE l down d = 0 by unfold checkedE; rw [if_pos hv0, if_pos ⟨by omega, by omega⟩]] at hck
  have HCK := Lib.hid hck
  have HN := Lib.hid hn
  have HV := Lib.hid hv0
  obtain ⟨d1, d2⟩ := id hd
  have hmm : ∃ M : Nat, (M : Int) = 2 * n - d ∧ 1 ≤ M ∧ M ≤ 1000 := ⟨2 * n - d, by subst hcl; unfold refM at hm1; simp at hm1; omega, by subst hcl; unfold refM at hm1; simp at hm1; omega, by subst hcl; unfold refM at hm2; simp at hm2; omega⟩
  obtain ⟨x1, x2, x3, x4⟩ := boxes2 w #[.slice A n cap, .int .i64 down, .bool closed] #[.slice none 0 0, .int .i64 0, .bool false] 24 24
  have hx := Lib.hid (show _ ∧ _ ∧ _ ∧ _ from ⟨x1, x2, x3, x4⟩)
  obtain ⟨i0, hi, hz0, hz1, hz2⟩ := info_parts Try.infoVec
  have HI := Lib.hid (show Try.prog.info? 31 = some i0 ∧ i0.zero = some (.agg #[.int .i64 0, .int .i64 0, .int .i64 0]) ∧ i0.size = 3 ∧ i0.bytes = 24 from ⟨hi, hz0, hz1, hz2⟩)
  have HEND := Lib.hid (refE_end hv0 hn hd hm1 hm2)
  have hlenM : lenJ n d closed = (refM n d closed).toNat := by unfold lenJ refM at *; cases closed <;> simp at * <;> omega
  have HLM := Lib.hid hlenM
  clear x1 x2 x3 x4 hck hn hv0 hi hz0 hz1 hz2 hm1 hm2 hlenM
  obtain ⟨M, hM, hM1, hM2⟩ := hmm
  subst hcl
  go_enter Try.func18, Try.ntmps18
  go_wp2_with fail
  obtain ⟨x1, x2, x3, x4⟩ := hx.out
  generalize World.alloc _ _ = w0 at x1 x2 x3 x4 ⊢
  refine (HCK.out _ ((hv.below x1).more (by omega))).mono ?_
  rintro e w1 ⟨rfl, hb1⟩
  have y3 : Blk w1 w.heap.size 24 _ := Blk.keep x3 hb1
  have y4 : Blk w1 (w.heap.size + 1) 24 _ := Blk.keep x4 hb1
  have c0 := y3.cell (i := 0) rfl
  have c1 := y3.cell (i := 1) rfl
  have c2 := y3.cell (i := 2) rfl
  have hs := y4.lt
  have hs0 := y3.lt
  have hb := x1.trans (hb1.mono (by omega))
  have HY := Lib.hid (show _ ∧ _ from ⟨y3, y4⟩)
  clear x1 x2 x3 x4 hb1 y4 y3
  go_wp2_with fail
  obtain ⟨y3, y4⟩ := HY.out
  have q0 := Blk.new w1 24 #[.slice none 0 0, .int .i64 (down + d), .bool false]
  have q3 := y3.alloc (.cells #[.slice none 0 0, .int .i64 (down + d), .bool false] 24)
  have q4 := y4.alloc (.cells #[.slice none 0 0, .int .i64 (down + d), .bool false] 24)
  have hb2 := hb.alloc (by omega) (.cells #[.slice none 0 0, .int .i64 (down + d), .bool false] 24)
  have hs2 : w1.heap.size < (w1.alloc (.cells #[.slice none 0 0, .int .i64 (down + d), .bool false] 24)).heap.size := by simp
  generalize World.alloc _ _ = w2 at q0 q3 q4 hb2 hs2 ⊢
  generalize w1.heap.size = Bo at *
  have hBo1 : w.heap.size + 1 < Bo := hs
  clear HY y3 y4 c0 c1 c2 hb
  go_loopw [8] (fun i wr => ∃ k : Nat, (k : Int) ≤ ((2 * n : Int) - d) ∧ i = .int .i64 k ∧ (∃ S, Blk wr Bo 24 #[S, .int .i64 (down + d), .bool false] ∧ wr.ownsRow w.heap.size 31 3 S k ((refK l d k).flatMap Vec.cells)) ∧
    (Blk wr w.heap.size 24 #[.slice A n cap, .int .i64 down, .bool false] ∧ Blk wr (w.heap.size + 1) 24 #[.slice none 0 0, .int .i64 0, .bool false]) ∧ Below w.heap.size w wr) (fun i _ => 2 * n - (intOf i).toNat)
  case atStart => exact ⟨0, by omega, rfl, ⟨_, q0, World.ownsRow_nil _ _ _ _⟩, ⟨q3, q4⟩, hb2⟩
  case round =>
    obtain ⟨k, hk, rfl, ⟨S, hBo, hrow⟩, ⟨hB0, hB1⟩, hB⟩ := hrel
    by_cases hlt : (k : Int) < ((2 * n : Int) - d)
    · have hsz := hB.size
      have hBoL := hBo.lt
      have hB1L := hB1.lt
      have hB0L := hB0.lt
      have c0 := hB0.cell (i := 0) rfl
      obtain ⟨i, hi⟩ : ∃ i, i = k / 2 := ⟨_, rfl⟩
      have hkk : k = 2 * i ∨ k = 2 * i + 1 := by omega
      have hi3 : i ≤ 1000000 := by omega
      have eq2 : ((k : Int)).tdiv 2 = (i : Int) := by rw [hi]; exact (Int.ofNat_tdiv k 2).symm
      have hfin : ∀ j, inV 1000000000000 (getM l j) := fun j => getM_fine HV.out j
      have H3 : ∀ (a b c : Int) (W : World), 0 ≤ a ∧ a ≤ 6 → 0 ≤ b ∧ b ≤ 6 → 0 ≤ c ∧ c ≤ 6 → Below w.heap.size w W → Calls Try.prog 39 #[.slice A n cap, .int .i64 i, .int .i64 a, .int .i64 b, .int .i64 c] W (Ret W (triV l i a b c).v) :=
        fun a b c W h1 h2 h3 hW => three_any A n cap i l a b c W HN.out (by omega) (by omega) hi3 ((hv.below hW).more hW.size) hfin h1 h2 h3
      obtain ⟨t1, t2, t3, t4, t5, t6⟩ := tri_bin l i
      obtain ⟨R, hR⟩ : ∃ R, binV l d k = R := ⟨_, rfl⟩
      have HBR := Lib.hid hR
      have hcase : ∃ (e : Int) (b1 b2 : Bool), ((k : Int)).tmod 2 = e ∧ ((d : Int) == 1) = b1 ∧ ((d : Int) == 2) = b2 ∧ ((b1 = (0 == 0) ∧ b2 = (0 == 1) ∧ e = 0 ∧ triV l i 2 0 0 = R) ∨ (b1 = (0 == 0) ∧ b2 = (0 == 1) ∧ e = 1 ∧ triV l i 1 1 0 = R) ∨ (b1 = (0 == 1) ∧ b2 = (0 == 0) ∧ e = 0 ∧ triV l i 3 1 0 = R) ∨ (b1 = (0 == 1) ∧ b2 = (0 == 0) ∧ e = 1 ∧ triV l i 1 3 0 = R) ∨ (b1 = (0 == 1) ∧ b2 = (0 == 1) ∧ e = 0 ∧ triV l i 4 4 0 = R) ∨ (b1 = (0 == 1) ∧ b2 = (0 == 1) ∧ e = 1 ∧ triV l i 1 6 1 = R)) := by
        have hdd : d = 1 ∨ d = 2 ∨ d = 3 := by omega
        rcases hkk with rfl | rfl
        · refine ⟨0, _, _, by rw [Int.tmod_eq_emod_of_nonneg (by omega)]; omega, rfl, rfl, ?_⟩
          rcases hdd with rfl | rfl | rfl
          · exact .inl ⟨rfl, rfl, rfl, t1.trans hR⟩
          · exact .inr (.inr (.inl ⟨rfl, rfl, rfl, t3.trans hR⟩))
          · exact .inr (.inr (.inr (.inr (.inl ⟨rfl, rfl, rfl, t5.trans hR⟩))))
        · refine ⟨1, _, _, by rw [Int.tmod_eq_emod_of_nonneg (by omega)]; omega, rfl, rfl, ?_⟩
          rcases hdd with rfl | rfl | rfl
          · exact .inr (.inl ⟨rfl, rfl, rfl, t2.trans hR⟩)
          · exact .inr (.inr (.inr (.inl ⟨rfl, rfl, rfl, t4.trans hR⟩)))
          · exact .inr (.inr (.inr (.inr (.inr ⟨rfl, rfl, rfl, t6.trans hR⟩))))
      obtain ⟨e, b1, b2, he, hb1, hb2, hcase⟩ := hcase
      have HH3 := Lib.hid H3
      clear hv t1 t2 t3 t4 t5 t6 hR hfin H3 hi hkk
      have v0 := Blk.new wr 31 #[.int .i64 0, .int .i64 0, .int .i64 0]
      have HB9 := Lib.hid (show _ ∧ _ ∧ _ ∧ _ ∧ _ ∧ _ ∧ _ from ⟨v0, hBo.alloc (.cells #[.int .i64 0, .int .i64 0, .int .i64 0] 31), hB0.alloc (.cells #[.int .i64 0, .int .i64 0, .int .i64 0] 31), hB1.alloc (.cells #[.int .i64 0, .int .i64 0, .int .i64 0] 31), hrow.alloc (.cells #[.int .i64 0, .int .i64 0, .int .i64 0] 31), hB.alloc hsz (.cells #[.int .i64 0, .int .i64 0, .int .i64 0] 31), row_ne_new hrow (Nat.le_refl _)⟩)
      clear v0 hBo hB0 hB1 hrow hB
      rcases hcase with ⟨rfl, rfl, rfl, hT⟩ | ⟨rfl, rfl, rfl, hT⟩ | ⟨rfl, rfl, rfl, hT⟩ | ⟨rfl, rfl, rfl, hT⟩ | ⟨rfl, rfl, rfl, hT⟩ | ⟨rfl, rfl, rfl, hT⟩
      all_goals
        have HT := Lib.hid hT
        clear hT
        simp only [Nat.reduceBEq, beq_self_eq_true] at hb1 hb2
        go_wp2_with fail
        obtain ⟨v0, hBo, hB0, hB1, hrow, hB, hSg⟩ := HB9.out
        have hH3 := HH3.out
        generalize hwa : World.alloc _ _ = wa at v0 hBo hB0 hB1 hrow hB ⊢
        clear hwa
        generalize hga : wr.heap.size = g at *
        refine (hH3 _ _ _ wa ⟨by omega, by omega⟩ ⟨by omega, by omega⟩ ⟨by omega, by omega⟩ hB).mono ?_
        rw [HT.out]
        rintro e W ⟨rfl, hW⟩
        have v1 := v0.keep hW
        replace hBo := hBo.keep hW
        replace hB0 := hB0.keep hW
        replace hB1 := hB1.keep hW
        replace hrow := ownsRow_below hrow hW
        replace hB := hB.trans (hW.mono hB.size)
        have hgw : w.heap.size ≤ g := hsz
        have hBg : Bo ≠ g := by omega
        have t0 := v1.cell (i := 0) rfl
        have t1 := v1.cell (i := 1) rfl
        have t2 := v1.cell (i := 2) rfl
        have t3 := v1.frozen
        have o0 := hBo.cell (i := 0) rfl
        have o3 := hBo.frozen 0
        have hsW := hB.size
        have gL := v1.lt
        have oL := hBo.lt
        have hrow3 := ownsRow_set (ownsRow_set (ownsRow_set hrow ⟨g, 0, none⟩ (.int .i64 R.x) hSg) ⟨g, 1, none⟩ (.int .i64 R.y) hSg) ⟨g, 2, none⟩ (.int .i64 R.z) hSg
        have hBo3 := ((hBo.far (p := ⟨g, 0, none⟩) hBg (.int .i64 R.x)).far (p := ⟨g, 1, none⟩) hBg (.int .i64 R.y)).far (p := ⟨g, 2, none⟩) hBg (.int .i64 R.z)
        have hB03 := ((hB0.far (p := ⟨g, 0, none⟩) (by simp only; omega) (.int .i64 R.x)).far (p := ⟨g, 1, none⟩) (by simp only; omega) (.int .i64 R.y)).far (p := ⟨g, 2, none⟩) (by simp only; omega) (.int .i64 R.z)
        have hB13 := ((hB1.far (p := ⟨g, 0, none⟩) (by simp only; omega) (.int .i64 R.x)).far (p := ⟨g, 1, none⟩) (by simp only; omega) (.int .i64 R.y)).far (p := ⟨g, 2, none⟩) (by simp only; omega) (.int .i64 R.z)
        have hb3 := ((hB.setCell (p := ⟨g, 0, none⟩) hgw (.int .i64 R.x)).setCell (p := ⟨g, 1, none⟩) hgw (.int .i64 R.y)).setCell (p := ⟨g, 2, none⟩) hgw (.int .i64 R.z)
        have H3' := Lib.hid (show _ ∧ _ ∧ _ ∧ _ ∧ _ from ⟨hrow3, hBo3, hB03, hB13, hb3⟩)
        clear hrow3 hBo3 hB03 hB13 hb3 hBo hB0 hB1 hrow hB v0 v1 hW HB9 HH3 hH3 hga c0
        go_wp2_with (at_builtin; refine Hid.out ?_)
        refine Lib.hid ?_
        obtain ⟨hrow3, hBo3, hB03, hB13, hb3⟩ := H3'.out
        have hs5 : (((W.setCell ⟨g, 0, none⟩ (.int .i64 R.x)).setCell ⟨g, 1, none⟩ (.int .i64 R.y)).setCell ⟨g, 2, none⟩ (.int .i64 R.z)).heap.size = W.heap.size := by simp
        generalize World.setCell (World.setCell _ _ _) _ _ = W5 at hrow3 hBo3 hB03 hB13 hb3 hs5 ⊢
        clear H3' t0 t1 t2 t3 o0 o3 gL
        obtain ⟨hi, hz0, hz1, hz2⟩ := HI.out
        refine wpList_append_own _ rfl _ _ 22 rfl w.heap.size 31 i0 (.agg #[.int .i64 0, .int .i64 0, .int .i64 0]) 3 24 Try.underlying22 hi hz0 hz1 hz2 rfl (by decide) _ _ _ rfl (hrow3.alloc _) ⟨W.heap.size, 0, none⟩ 1 1 (Vec.cells R) rfl rfl ?c1 ?c2 ?c3 ?c4 ?c5 ?_
        case c1 =>
          have := cells_new_list W5 (Vec.cells R) 31
          rw [hs5] at this
          exact this
        case c2 => exact cells_one R
        case c3 => unfold maxLen; omega
        case c4 => omega
        case c5 => simp; omega
        intro v' W6 hown' hgrow _
        obtain ⟨g', cap', rfl⟩ := ownsRow_succ hown'
        have hBo6 := blk_appended hBo3 (by decide) hrow3 hgrow
        have hB06 := blk_appended hB03 (by decide) hrow3 hgrow
        have hB16 := blk_appended hB13 (by decide) hrow3 hgrow
        have hb6 := (hb3.alloc (by omega) _).grown hgrow (by simp; omega) (fun r hr => (hrow3.lt r hr).1)
        have hrow6 := ownsRow_set hown' ⟨Bo, 0, none⟩ (.slice (some ⟨g', 0, none⟩) (k + 1) cap') (row_ne_blk hBo6 (by decide) hown')
        have hBo7 := hBo6.set0 (.slice (some ⟨g', 0, none⟩) (k + 1) cap')
        have hB07 := hB06.far (p := ⟨Bo, 0, none⟩) (by simp only; omega) (.slice (some ⟨g', 0, none⟩) (k + 1) cap')
        have hB17 := hB16.far (p := ⟨Bo, 0, none⟩) (by simp only; omega) (.slice (some ⟨g', 0, none⟩) (k + 1) cap')
        have hb7 := hb6.setCell (p := ⟨Bo, 0, none⟩) (by simp only; omega) (.slice (some ⟨g', 0, none⟩) (k + 1) cap')
        have H7 := Lib.hid (show _ ∧ _ ∧ _ ∧ _ ∧ _ from ⟨hrow6, hBo7, hB07, hB17, hb7⟩)
        have o0 := hBo6.cell (i := 0) rfl
        have o3 := hBo6.frozen 0
        have oL2 := hBo6.lt
        clear hrow6 hBo7 hB07 hB17 hb7 hBo6 hB06 hB16 hb6 hown' hgrow hrow3 hBo3 hB03 hB13 hb3
        go_wp2_with fail
        go_roundw
        case rel =>
          obtain ⟨q1, q2, q3, q4, q5⟩ := H7.out
          refine ⟨k + 1, by omega, by go_num, ⟨_, q2, ?_⟩, ⟨q3, q4⟩, q5⟩
          rw [refK_succ, HBR.out, List.flatMap_append, List.flatMap_cons, List.flatMap_nil, List.append_nil]
          exact q1
        case measure => simp [intOf]; omega
    · have hkm : (k : Int) = ((2 * n : Int) - d) := by omega
      obtain ⟨hst, hend⟩ := HEND.out
      have hlenk : lenJ n d false = k := by unfold lenJ; simp; omega
      have hpts : refPts l d false = refK l d k := by
        unfold refPts refK
        rw [HN.out, ← HLM.out, hlenk]
      have hlen : (refK l d k).length = k := refK_length _ _ _
      obtain ⟨A1, cap1, rfl, -, hvs⟩ := Vecs.of_own_n hlen hrow
      rw [← hpts] at hvs hrow hlen
      have o0 := hBo.cell (i := 0) rfl
      have o1 := hBo.cell (i := 1) rfl
      have o2 := hBo.cell (i := 2) rfl
      have r3 := hB1.frozen
      have hsz := hB.size
      have hck2 := refCheck_any A1 k cap1 (refPts l d false) (down + d) false wr hlen (by omega) hvs
      have HROW := Lib.hid hrow
      have HLEN := Lib.hid hlen
      have hBoL := hBo.lt
      clear hst hrow hvs hlen HEND hlenk hpts hv
      rcases hend with ⟨hV, hE⟩ | ⟨hV, hE⟩
      · rw [checkE_ok hV] at hck2
        have HC2 := Lib.hid hck2
        have HR2 := Lib.hid (refL_ok hE)
        have HE := Lib.hid hE
        clear hck2 hV hE
        go_wp2_with fail
        refine HC2.out.mono ?_
        rintro e W2 ⟨rfl, hb2⟩
        have hsz2 := hb2.size
        replace hBo := hBo.keep hb2
        replace hB1 := hB1.keep hb2
        replace o0 := hBo.cell (i := 0) rfl
        replace o1 := hBo.cell (i := 1) rfl
        replace o2 := hBo.cell (i := 2) rfl
        have c0 := hB1.cell (i := 0) rfl
        have c1 := hB1.cell (i := 1) rfl
        have c2 := hB1.cell (i := 2) rfl
        replace r3 := hB1.frozen
        have rL := hB1.lt
        have hrow2 := ownsRow_below HROW.out hb2
        have hnb := row_ne_blk hB1 (by decide) hrow2
        have hrow3 := ownsRow_set (ownsRow_set (ownsRow_set hrow2 ⟨w.heap.size + 1, 0, none⟩ (.slice A1 k cap1) hnb) ⟨w.heap.size + 1, 1, none⟩ (.int .i64 (down + d)) hnb) ⟨w.heap.size + 1, 2, none⟩ (.bool false) hnb
        have z := hB1.set3 (.slice A1 k cap1) (.int .i64 (down + d)) (.bool false)
        have hb3 := (((hB.trans (hb2.mono hsz)).setCell (p := ⟨w.heap.size + 1, 0, none⟩) (by simp) (.slice A1 k cap1)).setCell (p := ⟨w.heap.size + 1, 1, none⟩) (by simp) (.int .i64 (down + d))).setCell (p := ⟨w.heap.size + 1, 2, none⟩) (by simp) (.bool false)
        have HZ := Lib.hid (show _ ∧ _ ∧ _ from ⟨z, hb3, hrow3⟩)
        clear z hb3 hrow3 hrow2 hnb HROW HC2 hB0 hB1 hBo hB hb2
        go_wp2_with fail
        obtain ⟨z, hb3, hrow3⟩ := HZ.out
        generalize World.setCell _ _ _ = w9 at z hb3 hrow3 ⊢
        have z0 := z.cell (i := 0) rfl
        have z1 := z.cell (i := 1) rfl
        have z2 := z.cell (i := 2) rfl
        obtain ⟨e1, e2, e3⟩ := HR2.out
        rw [e1, e2, e3, HE.out, Int.toNat_natCast]
        refine bodyPost_ret (by simp [results, Try.results18, go_sem, z0, z1, z2]; rfl) rfl ?_
        refine retM ⟨_, rfl, ?_⟩ hb3
        rw [HLEN.out]
        exact hrow3
      · rw [checkE_bad hV] at hck2
        have HC2 := Lib.hid hck2
        have HR2 := Lib.hid (refL_bad (by rw [hE]; decide))
        have HE := Lib.hid hE
        clear hck2 hV hE
        go_wp2_with fail
        refine HC2.out.mono ?_
        rintro e W2 ⟨rfl, hb2⟩
        have hsz2 := hb2.size
        replace hB1 := hB1.keep hb2
        clear o0 o1 o2
        have c0 := hB1.cell (i := 0) rfl
        have c1 := hB1.cell (i := 1) rfl
        have c2 := hB1.cell (i := 2) rfl
        replace r3 := hB1.frozen
        have rL := hB1.lt
        have z := hB1.set3 (.slice none 0 0) (.int .i64 0) (.bool false)
        have hb3 := (((hB.trans (hb2.mono hsz)).setCell (p := ⟨w.heap.size + 1, 0, none⟩) (by simp) (.slice none 0 0)).setCell (p := ⟨w.heap.size + 1, 1, none⟩) (by simp) (.int .i64 0)).setCell (p := ⟨w.heap.size + 1, 2, none⟩) (by simp) (.bool false)
        have HZ := Lib.hid (show _ ∧ _ from ⟨z, hb3⟩)
        clear z hb3 HROW HC2 hB0 hB1 hBo hB hb2
        go_wp2_with fail
        obtain ⟨z, hb3⟩ := HZ.out
        generalize World.setCell _ _ _ = w9 at z hb3 ⊢
        have z0 := z.cell (i := 0) rfl
        have z1 := z.cell (i := 1) rfl
        have z2 := z.cell (i := 2) rfl
        obtain ⟨e1, e2, e3⟩ := HR2.out
        rw [e1, e2, e3, HE.out]
        refine bodyPost_ret (by simp [results, Try.results18, go_sem, z0, z1, z2]; rfl) rfl ?_
        exact retM ⟨_, rfl, World.ownsRow_nil _ _ _ _⟩ hb3

theorem refRefine_any (A : Option Addr) (n cap : Nat) (l : List Vec) (down d : Int) (closed : Bool) (w : World) (hn : l.length = n) (hl : n ≤ 4611686018427387904) (hv : Vecs w w.heap.size A l) (hd : -9223372036854775808 ≤ d ∧ d ≤ 9223372036854775807) :
    Calls Try.prog 18 #[.agg #[.slice A n cap, .int .i64 down, .bool closed], .int .i64 d] w (RetM w (CurveRet w.heap.size 31 (refL l down closed d) (refDown l down closed d) (refClosed l down closed d) (refE l down closed d))) := by
  have bad : ∀ E, refE l down closed d = E → E ≠ 0 → Calls Try.prog 18 #[.agg #[.slice A n cap, .int .i64 down, .bool closed], .int .i64 d] w (RetM w (CurveRet w.heap.size 31 [] 0 false E)) →
      Calls Try.prog 18 #[.agg #[.slice A n cap, .int .i64 down, .bool closed], .int .i64 d] w (RetM w (CurveRet w.heap.size 31 (refL l down closed d) (refDown l down closed d) (refClosed l down closed d) (refE l down closed d))) := by
    rintro E rfl h0 h
    obtain ⟨e1, e2, e3⟩ := refL_bad h0
    rw [e1, e2, e3]
    exact h
  by_cases hV : Valid l down
  · by_cases hD : degOk d
    · obtain ⟨d1, d2⟩ := id hD
      obtain ⟨e, rfl⟩ := Int.eq_ofNat_of_zero_le (show 0 ≤ d by omega)
      by_cases h1 : refM n e closed < 1
      · exact bad 6 (by unfold refE; rw [if_pos hV, if_pos hD, Int.toNat_natCast, hn, if_pos h1]) (by decide) (refRefine_few A n cap l down e closed w hV ⟨by omega, by omega⟩ hn hv 6 (.inl ⟨h1, rfl⟩))
      · by_cases h2 : 1000 < refM n e closed
        · exact bad 4 (by unfold refE; rw [if_pos hV, if_pos hD, Int.toNat_natCast, hn, if_neg h1, if_pos h2]) (by decide) (refRefine_few A n cap l down e closed w hV ⟨by omega, by omega⟩ hn hv 4 (.inr ⟨h2, rfl⟩))
        · cases closed with
          | true => exact refRefine_closed A n cap l down e true w hV rfl ⟨by omega, by omega⟩ hn hv (by omega) (by omega)
          | false => exact refRefine_open A n cap l down e false w hV rfl ⟨by omega, by omega⟩ hn hv (by omega) (by omega)
    · have hc : checkedE l down d = 2 := by unfold checkedE; rw [if_pos hV, if_neg hD]
      exact bad 2 (by unfold refE; rw [if_pos hV, if_neg hD]) (by decide) (refRefine_bad A n cap l down d closed w 2 hc (.inr rfl) hn hl hv hd)
  · have hc : checkedE l down d = 8 := if_neg hV
    exact bad 8 (if_neg hV) (by decide) (refRefine_bad A n cap l down d closed w 8 hc (.inl rfl) hn hl hv hd)
end Go.Proofs.Ytfdjhiomdimfcaa
