/- Refine of the program: the refining. -/
import Derived.Test.YtfdjhiomdimfcaaSubD
import Derived.Test.YtfdjhiomdimfcaaSubLaws
namespace Go.Rel
open Go.RowKit
theorem cells_new_list (w : World) (l : List Value) (t : TypeId) : ∀ (j : Nat) (u : Value), l[j]? = some u → (w.alloc (.cells l.toArray t)).cell? ((⟨w.heap.size, 0, none⟩ : Addr).add j) = some u := by
  intro j u hj
  have e : (⟨w.heap.size, 0, none⟩ : Addr).add j = ⟨w.heap.size, j, none⟩ := by unfold Addr.add; split <;> simp_all
  rw [e]
  exact cell_new w _ t (by simpa using hj)
theorem ownsRow_base {W : World} {base base' : Nat} {e : TypeId} {size k : Nat} {v : Value} {xs : List Value} (h : W.ownsRow base e size v k xs) (hb : base' ≤ base) : W.ownsRow base' e size v k xs :=
  ⟨h.1, h.2.imp id fun ⟨g, cap, cur, e1, hg, r⟩ => ⟨g, cap, cur, e1, Nat.le_trans hb hg, r⟩⟩
/-- How many points there are behind j rounds. -/
def lenJ (n j : Nat) (closed : Bool) : Nat := if closed then 2 * n else 2 * n - j
theorem lenJ_succ (n j : Nat) (closed : Bool) : pairLen (lenJ n j closed) closed = lenJ n (j + 1) closed := by unfold pairLen lenJ; split <;> omega
theorem stg_step {l : List Vec} {n d j : Nat} {closed : Bool} (hn : l.length = n) (hj : j < d) : (pairsL (stg l d j (lenJ n j closed)) closed).map (fun x => halfV (sumV x.1 x.2 1)) = stg l d (j + 1) (lenJ n (j + 1) closed) := by
  rw [stg_pairs l d j _ closed (fun hc => by unfold lenJ; rw [if_pos hc, hn]), List.map_map, lenJ_succ]
  unfold stg
  apply List.map_congr_left
  intro k _
  exact stgV_succ l hj k
theorem stg_in {l : List Vec} {down : Int} (h : Valid l down) {d j : Nat} (hj : j ≤ d) (hd : d ≤ 3) (m i : Nat) : inV 8000000000000 (getM (stg l d j m) i) := by
  unfold getM
  cases hc : (stg l d j m)[i % (stg l d j m).length]? with
  | none => simp [inV, zeroV]
  | some v =>
    have := List.mem_of_getElem? hc
    unfold stg at this
    obtain ⟨k, -, rfl⟩ := List.mem_map.1 this
    exact stgV_in h hj hd k
theorem refE_end {l : List Vec} {n d : Nat} {down : Int} {closed : Bool} (hv0 : Valid l down) (hn : l.length = n) (hd : 1 ≤ d ∧ d ≤ 3) (h1 : 1 ≤ refM n d closed) (h2 : refM n d closed ≤ 1000) :
    stg l d d (lenJ n d closed) = refPts l d closed ∧ ((Valid (refPts l d closed) (down + d) ∧ refE l down closed d = 0) ∨ (¬ Valid (refPts l d closed) (down + d) ∧ refE l down closed d = 16)) := by
  constructor
  · rw [stg_last]
    unfold refPts
    congr 2
    rw [hn]
    unfold lenJ refM at *
    cases closed <;> simp at * <;> omega
  · unfold refE
    rw [if_pos hv0, if_pos ⟨by omega, by omega⟩, Int.toNat_natCast, hn, if_neg (by omega), if_neg (by omega)]
    by_cases hV : Valid (refPts l d closed) (down + d)
    · left; exact ⟨hV, if_pos hV⟩
    · right; exact ⟨hV, if_neg hV⟩
theorem grownBy_set (W : World) (p : Addr) (v : Value) : W.grownBy (W.setCell p v) (some p.block) :=
  ⟨rfl, rfl, rfl, by simp, fun k _ hk => Below.heap_setCell _ _ _ k (fun e => hk (by rw [e]))⟩
theorem ownsRow_set {W : World} {base : Nat} {e : TypeId} {size k : Nat} {v : Value} {xs : List Value} (h : W.ownsRow base e size v k xs) (p : Addr) (u : Value) (hne : v.ownBlock ≠ some p.block) : (W.setCell p u).ownsRow base e size v k xs :=
  h.kept (grownBy_set W p u) (.inr hne)
theorem row_ne_blk {W : World} {base b : Nat} {t e : TypeId} {size k : Nat} {cs : Array Value} {v : Value} {xs : List Value} (hb : Blk W b t cs) (hte : t ≠ e) (h : W.ownsRow base e size v k xs) : v.ownBlock ≠ some b := by
  rcases h.2 with ⟨rfl, _⟩ | ⟨g, cap, cur, rfl, _, hgb, _⟩
  · simp [Value.ownBlock]
  · intro e'
    obtain rfl : g = b := by simpa [Value.ownBlock] using e'
    have := (show W.heap[g]? = _ from hb).symm.trans hgb
    simp at this
    exact hte this.2
theorem row_ne_new {W : World} {base g : Nat} {e : TypeId} {size k : Nat} {v : Value} {xs : List Value} (h : W.ownsRow base e size v k xs) (hg : W.heap.size ≤ g) : v.ownBlock ≠ some g := fun e' => by
  have := (h.lt g e').2
  omega
end Go.Rel
namespace Go.Proofs.Ytfdjhiomdimfcaa
open Go.RowKit Go.Rel

set_option maxHeartbeats 2000000 in
theorem refine_closed (A : Option Addr) (n cap : Nat) (l : List Vec) (down : Int) (d : Nat) (closed : Bool) (w : World) (hv0 : Valid l down) (hcl : closed = true) (hd : 1 ≤ d ∧ d ≤ 3) (hn : l.length = n) (hv : Vecs w w.heap.size A l) (hm1 : 1 ≤ refM n d closed) (hm2 : refM n d closed ≤ 1000) :
    Calls Try.prog 17 #[.agg #[.slice A n cap, .int .i64 down, .bool closed], .int .i64 d] w (RetM w (CurveRet w.heap.size 31 (refL l down closed d) (refDown l down closed d) (refClosed l down closed d) (refE l down closed d))) := by
  have hn1000 : n ≤ 1000 := by have := hv0.2.1; omega
  have hn1 : 1 ≤ n := by have := hv0.1; omega
  have hdn : 0 ≤ down ∧ down ≤ 30 := ⟨hv0.2.2.1, hv0.2.2.2.1⟩
  obtain ⟨dn1, dn2⟩ := hdn
  have hck := fun W hW => checked_any A n cap l down d closed W hn (by omega) hW ⟨by omega, by omega⟩
  rw [show checkedE l down d = 0 by unfold checkedE; rw [if_pos hv0, if_pos ⟨by omega, by omega⟩]] at hck
  have HCK := Lib.hid hck
  have HN := Lib.hid hn
  have HV := Lib.hid hv0
  obtain ⟨d1, d2⟩ := id hd
  obtain ⟨D2, hD2⟩ : ∃ D2 : Int, 2 ^ d = D2 := ⟨_, rfl⟩
  have hDb : 2 ≤ D2 ∧ D2 ≤ 8 := by
    have : d = 1 ∨ d = 2 ∨ d = 3 := by omega
    rcases this with rfl | rfl | rfl <;> simp at hD2 <;> omega
  obtain ⟨D2a, D2b⟩ := hDb
  have hwD : IntKind.i64.wrap (2 ^ d) = D2 := by rw [hD2, IntKind.wrap_i64]; omega
  have HWD := Lib.hid hwD
  have HD2 := Lib.hid hD2
  clear hwD hD2
  have hmany : ∃ M : Nat, (M : Int) = refM n d closed ∧ M = (if closed then 2 * n else 2 * n - d) := by
    refine ⟨if closed then 2 * n else 2 * n - d, ?_, rfl⟩
    unfold refM at *; cases closed <;> simp at * <;> omega
  obtain ⟨M, hM, hM'⟩ := hmany
  have HM := Lib.hid hM
  have HM' := Lib.hid hM'
  have hmm : 1 ≤ (2 * n : Int) ∧ (2 * n : Int) ≤ 1000 := by subst hcl; unfold refM at hm1 hm2; simp at hm1 hm2; omega
  obtain ⟨x1, x2, x3, x4⟩ := boxes2 w #[.slice A n cap, .int .i64 down, .bool closed] #[.slice none 0 0, .int .i64 0, .bool false] 24 24
  have hx := Lib.hid (show _ ∧ _ ∧ _ ∧ _ from ⟨x1, x2, x3, x4⟩)
  obtain ⟨i0, hi, hz0, hz1, hz2⟩ := info_parts Try.infoVec
  have HI := Lib.hid (show Try.prog.info? 31 = some i0 ∧ i0.zero = some (.agg #[.int .i64 0, .int .i64 0, .int .i64 0]) ∧ i0.size = 3 ∧ i0.bytes = 24 from ⟨hi, hz0, hz1, hz2⟩)
  have hBoD := Lib.hid hn1
  have HEND := Lib.hid (refE_end hv0 hn hd hm1 hm2)
  clear x1 x2 x3 x4 hck hn hv0 hM hM' hm1 hm2 hi hz0 hz1 hz2
  obtain ⟨hmm1, hmm2⟩ := hmm
  subst hcl
  go_enter Try.func17, Try.ntmps17
  go_wp2_with fail
  obtain ⟨x1, x2, x3, x4⟩ := hx.out
  generalize World.alloc _ _ = w0 at x1 x2 x3 x4 ⊢
  refine (HCK.out _ ((hv.below x1).more (by omega))).mono ?_
  rintro e w1 ⟨rfl, hb1⟩
  have y3 : Blk w1 w.heap.size 24 _ := Blk.keep x3 hb1
  have y4 : Blk w1 (w.heap.size + 1) 24 _ := Blk.keep x4 hb1
  have c0 := y3.cell (i := 0) rfl
  have c1 := y3.cell (i := 1) rfl
  have c2 := y3.cell (i := 2) rfl
  have hs := y4.lt
  have hs0 := y3.lt
  have hb := x1.trans (hb1.mono (by omega))
  have HY := Lib.hid (show _ ∧ _ from ⟨y3, y4⟩)
  clear x1 x2 x3 x4 hb1 y4 y3
  go_wp2_with fail
  obtain ⟨y3, y4⟩ := HY.out
  have q0 := Blk.new w1 24 #[.slice none 0 0, .int .i64 (down + d), .bool true]
  have q3 := y3.alloc (.cells #[.slice none 0 0, .int .i64 (down + d), .bool true] 24)
  have q4 := y4.alloc (.cells #[.slice none 0 0, .int .i64 (down + d), .bool true] 24)
  have hb2 := hb.alloc (by omega) (.cells #[.slice none 0 0, .int .i64 (down + d), .bool true] 24)
  have hs2 : w1.heap.size < (w1.alloc (.cells #[.slice none 0 0, .int .i64 (down + d), .bool true] 24)).heap.size := by simp
  generalize World.alloc _ _ = w2 at q0 q3 q4 hb2 hs2 ⊢
  generalize w1.heap.size = Bo at *
  have hBo1 : w.heap.size + 1 < Bo := hs
  clear HY y3 y4 c0 c1 c2 hb
  go_loopw [45] (fun i wr => ∃ k : Nat, k ≤ n ∧ i = .int .i64 k ∧ (∃ S, Blk wr Bo 24 #[S, .int .i64 (down + d), .bool true] ∧ wr.ownsRow w.heap.size 31 3 S (2 * k) ((dbl l d k).flatMap Vec.cells)) ∧
    (Blk wr w.heap.size 24 #[.slice A n cap, .int .i64 down, .bool true] ∧ Blk wr (w.heap.size + 1) 24 #[.slice none 0 0, .int .i64 0, .bool false]) ∧ Below w.heap.size w wr) (fun i _ => n - (intOf i).toNat)
  case atStart => exact ⟨0, Nat.zero_le _, rfl, ⟨_, q0, World.ownsRow_nil _ _ _ _⟩, ⟨q3, q4⟩, hb2⟩
  case round =>
    obtain ⟨k, hk, rfl, ⟨S, hBo, hrow⟩, ⟨hB0, hB1⟩, hB⟩ := hrel
    by_cases hlt : k < n
    · have hlt' : k < l.length := by rw [HN.out]; exact hlt
      obtain ⟨b, off, rfl, hbB, c0, c1, c2⟩ := (hv.below hB).at_ hlt'
      have hsz := hB.size
      have hBoL := hBo.lt
      have hB1L := hB1.lt
      have hf := inV_of_fine (HV.out.fine hlt')
      obtain ⟨u, hu⟩ : ∃ u, l[k] = u := ⟨_, rfl⟩
      rw [hu] at c0 c1 c2 hf
      have HU := Lib.hid hu
      clear hv hu
      go_wp2_with fail
      have v0 := Blk.new wr 31 #[.int .i64 u.x, .int .i64 u.y, .int .i64 u.z]
      replace hBo := hBo.alloc (.cells #[.int .i64 u.x, .int .i64 u.y, .int .i64 u.z] 31)
      replace hB0 := hB0.alloc (.cells #[.int .i64 u.x, .int .i64 u.y, .int .i64 u.z] 31)
      replace hB1 := hB1.alloc (.cells #[.int .i64 u.x, .int .i64 u.y, .int .i64 u.z] 31)
      replace hB := hB.alloc hsz (.cells #[.int .i64 u.x, .int .i64 u.y, .int .i64 u.z] 31)
      have hSg := Lib.hid (row_ne_new hrow (Nat.le_refl _))
      have hBg0 := Lib.hid hBoL
      replace hrow := hrow.alloc (.cells #[.int .i64 u.x, .int .i64 u.y, .int .i64 u.z] 31)
      generalize hga : wr.heap.size = g at *
      have hBg : Bo ≠ g := by have := hBg0.out; omega
      have hgw : w.heap.size ≤ g := hsz
      generalize World.alloc _ _ = wa at v0 hBo hB0 hB1 hrow hB ⊢
      clear hga hsz c0 c1 c2
      obtain ⟨U, hU⟩ : ∃ U, mulV D2 u = U := ⟨_, rfl⟩
      have hUb : inV 8000000000000 U := by
        rw [← hU]
        have : D2 = 2 ∨ D2 = 3 ∨ D2 = 4 ∨ D2 = 5 ∨ D2 = 6 ∨ D2 = 7 ∨ D2 = 8 := by omega
        rcases this with h | h | h | h | h | h | h <;> rw [h] <;> unfold inV mulV at * <;> dsimp only <;> omega
      have hsum : ∀ W, Calls Try.prog 35 #[.agg #[.int .i64 0, .int .i64 0, .int .i64 0], .agg #[.int .i64 u.x, .int .i64 u.y, .int .i64 u.z], .int .i64 D2] W (Ret W U.v) := fun W => by
        have := vsum_any ⟨0, 0, 0⟩ u D2 W (by unfold okV inV; simp) (by rw [hU]; exact inV_more hUb (by omega))
        rwa [show sumV ⟨0, 0, 0⟩ u D2 = U by rw [← hU]; simp [sumV, mulV]] at this
      have HU2 := Lib.hid hU
      clear hU hUb
      have g0 : ∀ W, Below wa.heap.size wa W → W.cell? ⟨g, 0, none⟩ = some (.int .i64 u.x) := fun W hW => (v0.keep hW).cell rfl
      have g1 : ∀ W, Below wa.heap.size wa W → W.cell? ⟨g, 1, none⟩ = some (.int .i64 u.y) := fun W hW => (v0.keep hW).cell rfl
      have g2 : ∀ W, Below wa.heap.size wa W → W.cell? ⟨g, 2, none⟩ = some (.int .i64 u.z) := fun W hW => (v0.keep hW).cell rfl
      apply wp_region_head 5 74 (hm := by kernel_rfl) (hN := rfl)
      case h =>
        simp only [List.take_succ_cons, List.take_zero]
        have hwD := HWD.out
        iterate 4 (apply head_still rfl; (intro W hW; go_simp; (try rfl)))
        clear hwD
        apply head_call rfl
        · intro W; go_simp; exact ⟨rfl, rfl⟩
        · intro W hW; exact (hsum W).mono fun _ _ h => h
        refine head_nil ?_
        intro W hW hF
        have v1 := v0.keep hW
        have hSg' : S.ownBlock ≠ some g := hSg.out
        replace hBo := hBo.keep hW
        replace hB0 := hB0.keep hW
        replace hB1 := hB1.keep hW
        replace hrow := ownsRow_below hrow hW
        replace hB := hB.trans (hW.mono hB.size)
        have t0 := v1.cell (i := 0) rfl
        have t1 := v1.cell (i := 1) rfl
        have t2 := v1.cell (i := 2) rfl
        have t3 := v1.frozen
        have o0 := hBo.cell (i := 0) rfl
        have o3 := hBo.frozen 0
        have hsW := hB.size
        have gL := v1.lt
        have hrow3 := ownsRow_set (ownsRow_set (ownsRow_set hrow ⟨g, 0, none⟩ (.int .i64 U.x) hSg') ⟨g, 1, none⟩ (.int .i64 U.y) hSg') ⟨g, 2, none⟩ (.int .i64 U.z) hSg'
        have hBo3 := ((hBo.far (p := ⟨g, 0, none⟩) hBg (.int .i64 U.x)).far (p := ⟨g, 1, none⟩) hBg (.int .i64 U.y)).far (p := ⟨g, 2, none⟩) hBg (.int .i64 U.z)
        have hB03 := ((hB0.far (p := ⟨g, 0, none⟩) (by simp only; omega) (.int .i64 U.x)).far (p := ⟨g, 1, none⟩) (by simp only; omega) (.int .i64 U.y)).far (p := ⟨g, 2, none⟩) (by simp only; omega) (.int .i64 U.z)
        have hB13 := ((hB1.far (p := ⟨g, 0, none⟩) (by simp only; omega) (.int .i64 U.x)).far (p := ⟨g, 1, none⟩) (by simp only; omega) (.int .i64 U.y)).far (p := ⟨g, 2, none⟩) (by simp only; omega) (.int .i64 U.z)
        have hb3 := ((hB.setCell (p := ⟨g, 0, none⟩) hgw (.int .i64 U.x)).setCell (p := ⟨g, 1, none⟩) hgw (.int .i64 U.y)).setCell (p := ⟨g, 2, none⟩) hgw (.int .i64 U.z)
        have H3 := Lib.hid (show _ ∧ _ ∧ _ ∧ _ ∧ _ from ⟨hrow3, hBo3, hB03, hB13, hb3⟩)
        clear g0 g1 g2 hrow3 hBo3 hB03 hB13 hb3 hBo hB0 hB1 hrow hB v0 v1 hF hW
        go_wp2_with (at_builtin; refine Hid.out ?_)
        refine Lib.hid ?_
        obtain ⟨hrow3, hBo3, hB03, hB13, hb3⟩ := H3.out
        have hs5 : (((W.setCell ⟨g, 0, none⟩ (.int .i64 U.x)).setCell ⟨g, 1, none⟩ (.int .i64 U.y)).setCell ⟨g, 2, none⟩ (.int .i64 U.z)).heap.size = W.heap.size := by simp
        generalize World.setCell (World.setCell _ _ _) _ _ = W5 at hrow3 hBo3 hB03 hB13 hb3 hs5 ⊢
        clear H3 t0 t1 t2 t3 o0 o3 gL
        obtain ⟨hi, hz0, hz1, hz2⟩ := HI.out
        refine wpList_append_own _ rfl _ _ 22 rfl w.heap.size 31 i0 (.agg #[.int .i64 0, .int .i64 0, .int .i64 0]) 3 24 Try.underlying22 hi hz0 hz1 hz2 rfl (by decide) _ _ _ rfl (hrow3.alloc _) ⟨W.heap.size, 0, none⟩ 2 2 (Vec.cells U ++ Vec.cells U) rfl rfl ?c1 ?c2 ?c3 ?c4 ?c5 ?_
        case c1 =>
          have := cells_new_list W5 (Vec.cells U ++ Vec.cells U) 31
          rw [hs5] at this
          exact this
        case c2 =>
          intro u hu
          rcases List.mem_append.1 hu with h | h <;> exact cells_one U u h
        case c3 => unfold maxLen; omega
        case c4 => omega
        case c5 => simp; omega
        intro v' W6 hown' hgrow _
        obtain ⟨g', cap', rfl⟩ := ownsRow_succ (k := 2 * k + 1) hown'
        have hBo6 := blk_appended hBo3 (by decide) hrow3 hgrow
        have hB06 := blk_appended hB03 (by decide) hrow3 hgrow
        have hB16 := blk_appended hB13 (by decide) hrow3 hgrow
        have hb6 := (hb3.alloc (by omega) _).grown hgrow (by simp; omega) (fun r hr => (hrow3.lt r hr).1)
        have hrow6 := ownsRow_set hown' ⟨Bo, 0, none⟩ (.slice (some ⟨g', 0, none⟩) (2 * k + 2) cap') (row_ne_blk hBo6 (by decide) hown')
        have hBo7 : Blk (W6.setCell ⟨Bo, 0, none⟩ (.slice (some ⟨g', 0, none⟩) (2 * k + 2) cap')) Bo 24 #[.slice (some ⟨g', 0, none⟩) (2 * k + 2) cap', .int .i64 (down + d), .bool true] := by simpa using hBo6.set_ 0 (.slice (some ⟨g', 0, none⟩) (2 * k + 2) cap')
        have hB07 := hB06.far (p := ⟨Bo, 0, none⟩) (by simp only; omega) (.slice (some ⟨g', 0, none⟩) (2 * k + 2) cap')
        have hB17 := hB16.far (p := ⟨Bo, 0, none⟩) (by simp only; omega) (.slice (some ⟨g', 0, none⟩) (2 * k + 2) cap')
        have hb7 := hb6.setCell (p := ⟨Bo, 0, none⟩) (by simp only; omega) (.slice (some ⟨g', 0, none⟩) (2 * k + 2) cap')
        rw [← List.append_assoc] at hrow6
        have H7 := Lib.hid (show _ ∧ _ ∧ _ ∧ _ ∧ _ from ⟨hrow6, hBo7, hB07, hB17, hb7⟩)
        have o0 := hBo6.cell (i := 0) rfl
        have o3 := hBo6.frozen 0
        have oL := hBo6.lt
        clear hrow6 hBo7 hB07 hB17 hb7 hBo6 hB06 hB16 hb6 hown' hgrow hrow3 hBo3 hB03 hB13 hb3
        go_wp2_with fail
        go_roundw
        case rel =>
          obtain ⟨q1, q2, q3, q4, q5⟩ := H7.out
          have hds := dbl_succ l d k hlt'
          rw [HU.out, HD2.out, HU2.out] at hds
          refine ⟨k + 1, by omega, by go_num, ⟨_, q2, ?_⟩, ⟨q3, q4⟩, q5⟩
          rw [hds, List.flatMap_append, List.flatMap_cons, List.flatMap_cons, List.flatMap_nil, List.append_nil, ← List.append_assoc]
          exact q1
        case measure => simp [intOf]; omega
      case hB => kernel_rfl
      all_goals rfl
    · obtain rfl : k = n := by omega
      have hlen0 : (stg l d 0 (2 * k)).length = 2 * k := stg_length _ _ _ _
      have hrow0 : wr.ownsRow w.heap.size 31 3 S (lenJ k 0 true) ((stg l d 0 (lenJ k 0 true)).flatMap Vec.cells) := by
        have e : lenJ k 0 true = 2 * k := by simp [lenJ]
        rw [e]
        have := hrow
        rwa [← HN.out, dbl_all, HN.out] at this
      have HR := Lib.hid hrow0
      clear hrow hrow0 hlen0 hv
      go_wp2_with fail
      go_loopw [64] (fun i wr => ∃ j : Nat, j ≤ d ∧ i = .int .i64 j ∧ (∃ S, Blk wr Bo 24 #[S, .int .i64 (down + d), .bool true] ∧ wr.ownsRow w.heap.size 31 3 S (lenJ k j true) ((stg l d j (lenJ k j true)).flatMap Vec.cells)) ∧
        (Blk wr w.heap.size 24 #[.slice A k cap, .int .i64 down, .bool true] ∧ Blk wr (w.heap.size + 1) 24 #[.slice none 0 0, .int .i64 0, .bool false]) ∧ Below w.heap.size w wr) (fun i _ => d - (intOf i).toNat)
      case atStart => exact ⟨0, Nat.zero_le _, rfl, ⟨_, hBo, HR.out⟩, ⟨hB0, hB1⟩, hB⟩
      case round =>
        clear hBo hB0 hB1 HR hB
        obtain ⟨j, hj, rfl, ⟨S, hBo, hrow⟩, ⟨hB0, hB1⟩, hB⟩ := hrel
        have hl4 : lenJ k j true ≤ 2 * k := by unfold lenJ; split <;> omega
        have hlen : (stg l d j (lenJ k j true)).length = lenJ k j true := stg_length _ _ _ _
        obtain ⟨A1, cap1, rfl, -, hvs⟩ := Vecs.of_own_n hlen hrow
        by_cases hlt : j < d
        · have hsm := callsIn_wide.1 (smooth_in Bo w.heap.size (lenJ k j true) cap1 k cap A1 A (stg l d j (lenJ k j true)) (down + d) down true true _ hlen (by omega) hBo hB0 hvs (fun i => stg_in HV.out (by omega) (by omega) _ _))
          have hps : (pairsL (stg l d j (lenJ k j true)) true).map midV = stg l d (j + 1) (lenJ k (j + 1) true) := stg_step HN.out hlt
          rw [hps, lenJ_succ] at hsm
          have HSM := Lib.hid hsm
          clear hsm hps hrow hvs hlen hl4
          go_wp2_with fail
          refine HSM.out.mono ?_
          rintro e W2 ⟨⟨v, rfl⟩, v', hBo2, hrow2, hg⟩
          have hsz := hB.size
          have hB02 : Blk W2 w.heap.size 24 _ := (hg.block _ hB0.lt (by simp; omega)).trans hB0
          have hB12 : Blk W2 (w.heap.size + 1) 24 _ := (hg.block _ hB1.lt (by simp; omega)).trans hB1
          have hB2 := hB.grown hg hsz (fun r e => by cases e; omega)
          have H9 := Lib.hid (show _ ∧ _ ∧ _ ∧ _ ∧ _ from ⟨hBo2, ownsRow_base hrow2 hsz, hB02, hB12, hB2⟩)
          clear HSM hBo2 hrow2 hg hB02 hB12 hB2 hBo hB0 hB1 hB
          go_wp2_with fail
          go_roundw
          case rel =>
            obtain ⟨q1, q2, q3, q4, q5⟩ := H9.out
            exact ⟨j + 1, by omega, by go_num, ⟨_, q1, q2⟩, ⟨q3, q4⟩, q5⟩
          case measure => simp [intOf]; omega
        · obtain rfl : j = d := by omega
          obtain ⟨hst, hend⟩ := HEND.out
          rw [hst] at hvs hrow hlen
          have o0 := hBo.cell (i := 0) rfl
          have o1 := hBo.cell (i := 1) rfl
          have o2 := hBo.cell (i := 2) rfl
          have r3 := hB1.frozen
          have hsz := hB.size
          have hck2 := check_n A1 (lenJ k j true) cap1 (refPts l j true) (down + j) true wr hlen (by omega) hvs
          have HROW := Lib.hid hrow
          have HLEN := Lib.hid hlen
          clear hst hrow hvs hlen hl4 HEND
          rcases hend with ⟨hV, hE⟩ | ⟨hV, hE⟩
          · rw [checkE_ok hV] at hck2
            have HC2 := Lib.hid hck2
            have HR2 := Lib.hid (refL_ok hE)
            have HE := Lib.hid hE
            clear hck2 hV hE
            go_wp2_with fail
            refine HC2.out.mono ?_
            rintro e W2 ⟨rfl, hb2⟩
            have hsz2 := hb2.size
            replace hBo := hBo.keep hb2
            replace hB1 := hB1.keep hb2
            replace o0 := hBo.cell (i := 0) rfl
            replace o1 := hBo.cell (i := 1) rfl
            replace o2 := hBo.cell (i := 2) rfl
            have c0 := hB1.cell (i := 0) rfl
            have c1 := hB1.cell (i := 1) rfl
            have c2 := hB1.cell (i := 2) rfl
            replace r3 := hB1.frozen
            have rL := hB1.lt
            have hrow2 := ownsRow_below HROW.out hb2
            have hnb := row_ne_blk hB1 (by decide) hrow2
            have hrow3 := ownsRow_set (ownsRow_set (ownsRow_set hrow2 ⟨w.heap.size + 1, 0, none⟩ (.slice A1 (lenJ k j true) cap1) hnb) ⟨w.heap.size + 1, 1, none⟩ (.int .i64 (down + j)) hnb) ⟨w.heap.size + 1, 2, none⟩ (.bool true) hnb
            have z := hB1.set3 (.slice A1 (lenJ k j true) cap1) (.int .i64 (down + j)) (.bool true)
            have hb3 := (((hB.trans (hb2.mono hsz)).setCell (p := ⟨w.heap.size + 1, 0, none⟩) (by simp) (.slice A1 (lenJ k j true) cap1)).setCell (p := ⟨w.heap.size + 1, 1, none⟩) (by simp) (.int .i64 (down + j))).setCell (p := ⟨w.heap.size + 1, 2, none⟩) (by simp) (.bool true)
            have HZ := Lib.hid (show _ ∧ _ ∧ _ from ⟨z, hb3, hrow3⟩)
            clear z hb3 hrow3 hrow2 hnb HROW HC2 hB0 hB1 hBo hB hb2
            go_wp2_with fail
            obtain ⟨z, hb3, hrow3⟩ := HZ.out
            generalize World.setCell _ _ _ = w9 at z hb3 hrow3 ⊢
            have z0 := z.cell (i := 0) rfl
            have z1 := z.cell (i := 1) rfl
            have z2 := z.cell (i := 2) rfl
            obtain ⟨e1, e2, e3⟩ := HR2.out
            rw [e1, e2, e3, HE.out, Int.toNat_natCast]
            refine bodyPost_ret (by simp [results, Try.results17, go_sem, z0, z1, z2]; rfl) rfl ?_
            refine retM ⟨_, rfl, ?_⟩ hb3
            rw [HLEN.out]
            exact hrow3
          · rw [checkE_bad hV] at hck2
            have HC2 := Lib.hid hck2
            have HR2 := Lib.hid (refL_bad (by rw [hE]; decide))
            have HE := Lib.hid hE
            clear hck2 hV hE
            go_wp2_with fail
            refine HC2.out.mono ?_
            rintro e W2 ⟨rfl, hb2⟩
            have hsz2 := hb2.size
            replace hB1 := hB1.keep hb2
            clear o0 o1 o2
            have c0 := hB1.cell (i := 0) rfl
            have c1 := hB1.cell (i := 1) rfl
            have c2 := hB1.cell (i := 2) rfl
            replace r3 := hB1.frozen
            have rL := hB1.lt
            have z := hB1.set3 (.slice none 0 0) (.int .i64 0) (.bool false)
            have hb3 := (((hB.trans (hb2.mono hsz)).setCell (p := ⟨w.heap.size + 1, 0, none⟩) (by simp) (.slice none 0 0)).setCell (p := ⟨w.heap.size + 1, 1, none⟩) (by simp) (.int .i64 0)).setCell (p := ⟨w.heap.size + 1, 2, none⟩) (by simp) (.bool false)
            have HZ := Lib.hid (show _ ∧ _ from ⟨z, hb3⟩)
            clear z hb3 HROW HC2 hB0 hB1 hBo hB hb2
            go_wp2_with fail
            obtain ⟨z, hb3⟩ := HZ.out
            generalize World.setCell _ _ _ = w9 at z hb3 ⊢
            have z0 := z.cell (i := 0) rfl
            have z1 := z.cell (i := 1) rfl
            have z2 := z.cell (i := 2) rfl
            obtain ⟨e1, e2, e3⟩ := HR2.out
            rw [e1, e2, e3, HE.out]
            refine bodyPost_ret (by simp [results, Try.results17, go_sem, z0, z1, z2]; rfl) rfl ?_
            exact retM ⟨_, rfl, World.ownsRow_nil _ _ _ _⟩ hb3

set_option maxHeartbeats 2000000 in
theorem refine_open (A : Option Addr) (n cap : Nat) (l : List Vec) (down : Int) (d : Nat) (closed : Bool) (w : World) (hv0 : Valid l down) (hcl : closed = false) (hd : 1 ≤ d ∧ d ≤ 3) (hn : l.length = n) (hv : Vecs w w.heap.size A l) (hm1 : 1 ≤ refM n d closed) (hm2 : refM n d closed ≤ 1000) :
    Calls Try.prog 17 #[.agg #[.slice A n cap, .int .i64 down, .bool closed], .int .i64 d] w (RetM w (CurveRet w.heap.size 31 (refL l down closed d) (refDown l down closed d) (refClosed l down closed d) (refE l down closed d))) := by
  have hn1000 : n ≤ 1000 := by have := hv0.2.1; omega
  have hn1 : 1 ≤ n := by have := hv0.1; omega
  have hdn : 0 ≤ down ∧ down ≤ 30 := ⟨hv0.2.2.1, hv0.2.2.2.1⟩
  obtain ⟨dn1, dn2⟩ := hdn
  have hck := fun W hW => checked_any A n cap l down d closed W hn (by omega) hW ⟨by omega, by omega⟩
  rw [show checkedE l down d = 0 by unfold checkedE; rw [if_pos hv0, if_pos ⟨by omega, by omega⟩]] at hck
  have HCK := Lib.hid hck
  have HN := Lib.hid hn
  have HV := Lib.hid hv0
  obtain ⟨d1, d2⟩ := id hd
  obtain ⟨D2, hD2⟩ : ∃ D2 : Int, 2 ^ d = D2 := ⟨_, rfl⟩
  have hDb : 2 ≤ D2 ∧ D2 ≤ 8 := by
    have : d = 1 ∨ d = 2 ∨ d = 3 := by omega
    rcases this with rfl | rfl | rfl <;> simp at hD2 <;> omega
  obtain ⟨D2a, D2b⟩ := hDb
  have hwD : IntKind.i64.wrap (2 ^ d) = D2 := by rw [hD2, IntKind.wrap_i64]; omega
  have HWD := Lib.hid hwD
  have HD2 := Lib.hid hD2
  clear hwD hD2
  have hmany : ∃ M : Nat, (M : Int) = refM n d closed ∧ M = (if closed then 2 * n else 2 * n - d) := by
    refine ⟨if closed then 2 * n else 2 * n - d, ?_, rfl⟩
    unfold refM at *; cases closed <;> simp at * <;> omega
  obtain ⟨M, hM, hM'⟩ := hmany
  have HM := Lib.hid hM
  have HM' := Lib.hid hM'
  have hmm : 1 ≤ (2 * n : Int) - d ∧ (2 * n : Int) - d ≤ 1000 := by subst hcl; unfold refM at hm1 hm2; simp at hm1 hm2; omega
  obtain ⟨x1, x2, x3, x4⟩ := boxes2 w #[.slice A n cap, .int .i64 down, .bool closed] #[.slice none 0 0, .int .i64 0, .bool false] 24 24
  have hx := Lib.hid (show _ ∧ _ ∧ _ ∧ _ from ⟨x1, x2, x3, x4⟩)
  obtain ⟨i0, hi, hz0, hz1, hz2⟩ := info_parts Try.infoVec
  have HI := Lib.hid (show Try.prog.info? 31 = some i0 ∧ i0.zero = some (.agg #[.int .i64 0, .int .i64 0, .int .i64 0]) ∧ i0.size = 3 ∧ i0.bytes = 24 from ⟨hi, hz0, hz1, hz2⟩)
  have hBoD := Lib.hid hn1
  have HEND := Lib.hid (refE_end hv0 hn hd hm1 hm2)
  clear x1 x2 x3 x4 hck hn hv0 hM hM' hm1 hm2 hi hz0 hz1 hz2
  obtain ⟨hmm1, hmm2⟩ := hmm
  subst hcl
  go_enter Try.func17, Try.ntmps17
  go_wp2_with fail
  obtain ⟨x1, x2, x3, x4⟩ := hx.out
  generalize World.alloc _ _ = w0 at x1 x2 x3 x4 ⊢
  refine (HCK.out _ ((hv.below x1).more (by omega))).mono ?_
  rintro e w1 ⟨rfl, hb1⟩
  have y3 : Blk w1 w.heap.size 24 _ := Blk.keep x3 hb1
  have y4 : Blk w1 (w.heap.size + 1) 24 _ := Blk.keep x4 hb1
  have c0 := y3.cell (i := 0) rfl
  have c1 := y3.cell (i := 1) rfl
  have c2 := y3.cell (i := 2) rfl
  have hs := y4.lt
  have hs0 := y3.lt
  have hb := x1.trans (hb1.mono (by omega))
  have HY := Lib.hid (show _ ∧ _ from ⟨y3, y4⟩)
  clear x1 x2 x3 x4 hb1 y4 y3
  go_wp2_with fail
  obtain ⟨y3, y4⟩ := HY.out
  have q0 := Blk.new w1 24 #[.slice none 0 0, .int .i64 (down + d), .bool false]
  have q3 := y3.alloc (.cells #[.slice none 0 0, .int .i64 (down + d), .bool false] 24)
  have q4 := y4.alloc (.cells #[.slice none 0 0, .int .i64 (down + d), .bool false] 24)
  have hb2 := hb.alloc (by omega) (.cells #[.slice none 0 0, .int .i64 (down + d), .bool false] 24)
  have hs2 : w1.heap.size < (w1.alloc (.cells #[.slice none 0 0, .int .i64 (down + d), .bool false] 24)).heap.size := by simp
  generalize World.alloc _ _ = w2 at q0 q3 q4 hb2 hs2 ⊢
  generalize w1.heap.size = Bo at *
  have hBo1 : w.heap.size + 1 < Bo := hs
  clear HY y3 y4 c0 c1 c2 hb
  go_loopw [45] (fun i wr => ∃ k : Nat, k ≤ n ∧ i = .int .i64 k ∧ (∃ S, Blk wr Bo 24 #[S, .int .i64 (down + d), .bool false] ∧ wr.ownsRow w.heap.size 31 3 S (2 * k) ((dbl l d k).flatMap Vec.cells)) ∧
    (Blk wr w.heap.size 24 #[.slice A n cap, .int .i64 down, .bool false] ∧ Blk wr (w.heap.size + 1) 24 #[.slice none 0 0, .int .i64 0, .bool false]) ∧ Below w.heap.size w wr) (fun i _ => n - (intOf i).toNat)
  case atStart => exact ⟨0, Nat.zero_le _, rfl, ⟨_, q0, World.ownsRow_nil _ _ _ _⟩, ⟨q3, q4⟩, hb2⟩
  case round =>
    obtain ⟨k, hk, rfl, ⟨S, hBo, hrow⟩, ⟨hB0, hB1⟩, hB⟩ := hrel
    by_cases hlt : k < n
    · have hlt' : k < l.length := by rw [HN.out]; exact hlt
      obtain ⟨b, off, rfl, hbB, c0, c1, c2⟩ := (hv.below hB).at_ hlt'
      have hsz := hB.size
      have hBoL := hBo.lt
      have hB1L := hB1.lt
      have hf := inV_of_fine (HV.out.fine hlt')
      obtain ⟨u, hu⟩ : ∃ u, l[k] = u := ⟨_, rfl⟩
      rw [hu] at c0 c1 c2 hf
      have HU := Lib.hid hu
      clear hv hu
      go_wp2_with fail
      have v0 := Blk.new wr 31 #[.int .i64 u.x, .int .i64 u.y, .int .i64 u.z]
      replace hBo := hBo.alloc (.cells #[.int .i64 u.x, .int .i64 u.y, .int .i64 u.z] 31)
      replace hB0 := hB0.alloc (.cells #[.int .i64 u.x, .int .i64 u.y, .int .i64 u.z] 31)
      replace hB1 := hB1.alloc (.cells #[.int .i64 u.x, .int .i64 u.y, .int .i64 u.z] 31)
      replace hB := hB.alloc hsz (.cells #[.int .i64 u.x, .int .i64 u.y, .int .i64 u.z] 31)
      have hSg := Lib.hid (row_ne_new hrow (Nat.le_refl _))
      have hBg0 := Lib.hid hBoL
      replace hrow := hrow.alloc (.cells #[.int .i64 u.x, .int .i64 u.y, .int .i64 u.z] 31)
      generalize hga : wr.heap.size = g at *
      have hBg : Bo ≠ g := by have := hBg0.out; omega
      have hgw : w.heap.size ≤ g := hsz
      generalize World.alloc _ _ = wa at v0 hBo hB0 hB1 hrow hB ⊢
      clear hga hsz c0 c1 c2
      obtain ⟨U, hU⟩ : ∃ U, mulV D2 u = U := ⟨_, rfl⟩
      have hUb : inV 8000000000000 U := by
        rw [← hU]
        have : D2 = 2 ∨ D2 = 3 ∨ D2 = 4 ∨ D2 = 5 ∨ D2 = 6 ∨ D2 = 7 ∨ D2 = 8 := by omega
        rcases this with h | h | h | h | h | h | h <;> rw [h] <;> unfold inV mulV at * <;> dsimp only <;> omega
      have hsum : ∀ W, Calls Try.prog 35 #[.agg #[.int .i64 0, .int .i64 0, .int .i64 0], .agg #[.int .i64 u.x, .int .i64 u.y, .int .i64 u.z], .int .i64 D2] W (Ret W U.v) := fun W => by
        have := vsum_any ⟨0, 0, 0⟩ u D2 W (by unfold okV inV; simp) (by rw [hU]; exact inV_more hUb (by omega))
        rwa [show sumV ⟨0, 0, 0⟩ u D2 = U by rw [← hU]; simp [sumV, mulV]] at this
      have HU2 := Lib.hid hU
      clear hU hUb
      have g0 : ∀ W, Below wa.heap.size wa W → W.cell? ⟨g, 0, none⟩ = some (.int .i64 u.x) := fun W hW => (v0.keep hW).cell rfl
      have g1 : ∀ W, Below wa.heap.size wa W → W.cell? ⟨g, 1, none⟩ = some (.int .i64 u.y) := fun W hW => (v0.keep hW).cell rfl
      have g2 : ∀ W, Below wa.heap.size wa W → W.cell? ⟨g, 2, none⟩ = some (.int .i64 u.z) := fun W hW => (v0.keep hW).cell rfl
      apply wp_region_head 5 74 (hm := by kernel_rfl) (hN := rfl)
      case h =>
        simp only [List.take_succ_cons, List.take_zero]
        have hwD := HWD.out
        iterate 4 (apply head_still rfl; (intro W hW; go_simp; (try rfl)))
        clear hwD
        apply head_call rfl
        · intro W; go_simp; exact ⟨rfl, rfl⟩
        · intro W hW; exact (hsum W).mono fun _ _ h => h
        refine head_nil ?_
        intro W hW hF
        have v1 := v0.keep hW
        have hSg' : S.ownBlock ≠ some g := hSg.out
        replace hBo := hBo.keep hW
        replace hB0 := hB0.keep hW
        replace hB1 := hB1.keep hW
        replace hrow := ownsRow_below hrow hW
        replace hB := hB.trans (hW.mono hB.size)
        have t0 := v1.cell (i := 0) rfl
        have t1 := v1.cell (i := 1) rfl
        have t2 := v1.cell (i := 2) rfl
        have t3 := v1.frozen
        have o0 := hBo.cell (i := 0) rfl
        have o3 := hBo.frozen 0
        have hsW := hB.size
        have gL := v1.lt
        have hrow3 := ownsRow_set (ownsRow_set (ownsRow_set hrow ⟨g, 0, none⟩ (.int .i64 U.x) hSg') ⟨g, 1, none⟩ (.int .i64 U.y) hSg') ⟨g, 2, none⟩ (.int .i64 U.z) hSg'
        have hBo3 := ((hBo.far (p := ⟨g, 0, none⟩) hBg (.int .i64 U.x)).far (p := ⟨g, 1, none⟩) hBg (.int .i64 U.y)).far (p := ⟨g, 2, none⟩) hBg (.int .i64 U.z)
        have hB03 := ((hB0.far (p := ⟨g, 0, none⟩) (by simp only; omega) (.int .i64 U.x)).far (p := ⟨g, 1, none⟩) (by simp only; omega) (.int .i64 U.y)).far (p := ⟨g, 2, none⟩) (by simp only; omega) (.int .i64 U.z)
        have hB13 := ((hB1.far (p := ⟨g, 0, none⟩) (by simp only; omega) (.int .i64 U.x)).far (p := ⟨g, 1, none⟩) (by simp only; omega) (.int .i64 U.y)).far (p := ⟨g, 2, none⟩) (by simp only; omega) (.int .i64 U.z)
        have hb3 := ((hB.setCell (p := ⟨g, 0, none⟩) hgw (.int .i64 U.x)).setCell (p := ⟨g, 1, none⟩) hgw (.int .i64 U.y)).setCell (p := ⟨g, 2, none⟩) hgw (.int .i64 U.z)
        have H3 := Lib.hid (show _ ∧ _ ∧ _ ∧ _ ∧ _ from ⟨hrow3, hBo3, hB03, hB13, hb3⟩)
        clear g0 g1 g2 hrow3 hBo3 hB03 hB13 hb3 hBo hB0 hB1 hrow hB v0 v1 hF hW
        go_wp2_with (at_builtin; refine Hid.out ?_)
        refine Lib.hid ?_
        obtain ⟨hrow3, hBo3, hB03, hB13, hb3⟩ := H3.out
        have hs5 : (((W.setCell ⟨g, 0, none⟩ (.int .i64 U.x)).setCell ⟨g, 1, none⟩ (.int .i64 U.y)).setCell ⟨g, 2, none⟩ (.int .i64 U.z)).heap.size = W.heap.size := by simp
        generalize World.setCell (World.setCell _ _ _) _ _ = W5 at hrow3 hBo3 hB03 hB13 hb3 hs5 ⊢
        clear H3 t0 t1 t2 t3 o0 o3 gL
        obtain ⟨hi, hz0, hz1, hz2⟩ := HI.out
        refine wpList_append_own _ rfl _ _ 22 rfl w.heap.size 31 i0 (.agg #[.int .i64 0, .int .i64 0, .int .i64 0]) 3 24 Try.underlying22 hi hz0 hz1 hz2 rfl (by decide) _ _ _ rfl (hrow3.alloc _) ⟨W.heap.size, 0, none⟩ 2 2 (Vec.cells U ++ Vec.cells U) rfl rfl ?c1 ?c2 ?c3 ?c4 ?c5 ?_
        case c1 =>
          have := cells_new_list W5 (Vec.cells U ++ Vec.cells U) 31
          rw [hs5] at this
          exact this
        case c2 =>
          intro u hu
          rcases List.mem_append.1 hu with h | h <;> exact cells_one U u h
        case c3 => unfold maxLen; omega
        case c4 => omega
        case c5 => simp; omega
        intro v' W6 hown' hgrow _
        obtain ⟨g', cap', rfl⟩ := ownsRow_succ (k := 2 * k + 1) hown'
        have hBo6 := blk_appended hBo3 (by decide) hrow3 hgrow
        have hB06 := blk_appended hB03 (by decide) hrow3 hgrow
        have hB16 := blk_appended hB13 (by decide) hrow3 hgrow
        have hb6 := (hb3.alloc (by omega) _).grown hgrow (by simp; omega) (fun r hr => (hrow3.lt r hr).1)
        have hrow6 := ownsRow_set hown' ⟨Bo, 0, none⟩ (.slice (some ⟨g', 0, none⟩) (2 * k + 2) cap') (row_ne_blk hBo6 (by decide) hown')
        have hBo7 : Blk (W6.setCell ⟨Bo, 0, none⟩ (.slice (some ⟨g', 0, none⟩) (2 * k + 2) cap')) Bo 24 #[.slice (some ⟨g', 0, none⟩) (2 * k + 2) cap', .int .i64 (down + d), .bool false] := by simpa using hBo6.set_ 0 (.slice (some ⟨g', 0, none⟩) (2 * k + 2) cap')
        have hB07 := hB06.far (p := ⟨Bo, 0, none⟩) (by simp only; omega) (.slice (some ⟨g', 0, none⟩) (2 * k + 2) cap')
        have hB17 := hB16.far (p := ⟨Bo, 0, none⟩) (by simp only; omega) (.slice (some ⟨g', 0, none⟩) (2 * k + 2) cap')
        have hb7 := hb6.setCell (p := ⟨Bo, 0, none⟩) (by simp only; omega) (.slice (some ⟨g', 0, none⟩) (2 * k + 2) cap')
        rw [← List.append_assoc] at hrow6
        have H7 := Lib.hid (show _ ∧ _ ∧ _ ∧ _ ∧ _ from ⟨hrow6, hBo7, hB07, hB17, hb7⟩)
        have o0 := hBo6.cell (i := 0) rfl
        have o3 := hBo6.frozen 0
        have oL := hBo6.lt
        clear hrow6 hBo7 hB07 hB17 hb7 hBo6 hB06 hB16 hb6 hown' hgrow hrow3 hBo3 hB03 hB13 hb3
        go_wp2_with fail
        go_roundw
        case rel =>
          obtain ⟨q1, q2, q3, q4, q5⟩ := H7.out
          have hds := dbl_succ l d k hlt'
          rw [HU.out, HD2.out, HU2.out] at hds
          refine ⟨k + 1, by omega, by go_num, ⟨_, q2, ?_⟩, ⟨q3, q4⟩, q5⟩
          rw [hds, List.flatMap_append, List.flatMap_cons, List.flatMap_cons, List.flatMap_nil, List.append_nil, ← List.append_assoc]
          exact q1
        case measure => simp [intOf]; omega
      case hB => kernel_rfl
      all_goals rfl
    · obtain rfl : k = n := by omega
      have hlen0 : (stg l d 0 (2 * k)).length = 2 * k := stg_length _ _ _ _
      have hrow0 : wr.ownsRow w.heap.size 31 3 S (lenJ k 0 false) ((stg l d 0 (lenJ k 0 false)).flatMap Vec.cells) := by
        have e : lenJ k 0 false = 2 * k := by simp [lenJ]
        rw [e]
        have := hrow
        rwa [← HN.out, dbl_all, HN.out] at this
      have HR := Lib.hid hrow0
      clear hrow hrow0 hlen0 hv
      go_wp2_with fail
      go_loopw [64] (fun i wr => ∃ j : Nat, j ≤ d ∧ i = .int .i64 j ∧ (∃ S, Blk wr Bo 24 #[S, .int .i64 (down + d), .bool false] ∧ wr.ownsRow w.heap.size 31 3 S (lenJ k j false) ((stg l d j (lenJ k j false)).flatMap Vec.cells)) ∧
        (Blk wr w.heap.size 24 #[.slice A k cap, .int .i64 down, .bool false] ∧ Blk wr (w.heap.size + 1) 24 #[.slice none 0 0, .int .i64 0, .bool false]) ∧ Below w.heap.size w wr) (fun i _ => d - (intOf i).toNat)
      case atStart => exact ⟨0, Nat.zero_le _, rfl, ⟨_, hBo, HR.out⟩, ⟨hB0, hB1⟩, hB⟩
      case round =>
        clear hBo hB0 hB1 HR hB
        obtain ⟨j, hj, rfl, ⟨S, hBo, hrow⟩, ⟨hB0, hB1⟩, hB⟩ := hrel
        have hl4 : lenJ k j false ≤ 2 * k := by unfold lenJ; split <;> omega
        have hlen : (stg l d j (lenJ k j false)).length = lenJ k j false := stg_length _ _ _ _
        obtain ⟨A1, cap1, rfl, -, hvs⟩ := Vecs.of_own_n hlen hrow
        by_cases hlt : j < d
        · have hsm := callsIn_wide.1 (smooth_in Bo w.heap.size (lenJ k j false) cap1 k cap A1 A (stg l d j (lenJ k j false)) (down + d) down false false _ hlen (by omega) hBo hB0 hvs (fun i => stg_in HV.out (by omega) (by omega) _ _))
          have hps : (pairsL (stg l d j (lenJ k j false)) false).map midV = stg l d (j + 1) (lenJ k (j + 1) false) := stg_step HN.out hlt
          rw [hps, lenJ_succ] at hsm
          have HSM := Lib.hid hsm
          clear hsm hps hrow hvs hlen hl4
          go_wp2_with fail
          refine HSM.out.mono ?_
          rintro e W2 ⟨⟨v, rfl⟩, v', hBo2, hrow2, hg⟩
          have hsz := hB.size
          have hB02 : Blk W2 w.heap.size 24 _ := (hg.block _ hB0.lt (by simp; omega)).trans hB0
          have hB12 : Blk W2 (w.heap.size + 1) 24 _ := (hg.block _ hB1.lt (by simp; omega)).trans hB1
          have hB2 := hB.grown hg hsz (fun r e => by cases e; omega)
          have H9 := Lib.hid (show _ ∧ _ ∧ _ ∧ _ ∧ _ from ⟨hBo2, ownsRow_base hrow2 hsz, hB02, hB12, hB2⟩)
          clear HSM hBo2 hrow2 hg hB02 hB12 hB2 hBo hB0 hB1 hB
          go_wp2_with fail
          go_roundw
          case rel =>
            obtain ⟨q1, q2, q3, q4, q5⟩ := H9.out
            exact ⟨j + 1, by omega, by go_num, ⟨_, q1, q2⟩, ⟨q3, q4⟩, q5⟩
          case measure => simp [intOf]; omega
        · obtain rfl : j = d := by omega
          obtain ⟨hst, hend⟩ := HEND.out
          rw [hst] at hvs hrow hlen
          have o0 := hBo.cell (i := 0) rfl
          have o1 := hBo.cell (i := 1) rfl
          have o2 := hBo.cell (i := 2) rfl
          have r3 := hB1.frozen
          have hsz := hB.size
          have hck2 := check_n A1 (lenJ k j false) cap1 (refPts l j false) (down + j) false wr hlen (by omega) hvs
          have HROW := Lib.hid hrow
          have HLEN := Lib.hid hlen
          clear hst hrow hvs hlen hl4 HEND
          rcases hend with ⟨hV, hE⟩ | ⟨hV, hE⟩
          · rw [checkE_ok hV] at hck2
            have HC2 := Lib.hid hck2
            have HR2 := Lib.hid (refL_ok hE)
            have HE := Lib.hid hE
            clear hck2 hV hE
            go_wp2_with fail
            refine HC2.out.mono ?_
            rintro e W2 ⟨rfl, hb2⟩
            have hsz2 := hb2.size
            replace hBo := hBo.keep hb2
            replace hB1 := hB1.keep hb2
            replace o0 := hBo.cell (i := 0) rfl
            replace o1 := hBo.cell (i := 1) rfl
            replace o2 := hBo.cell (i := 2) rfl
            have c0 := hB1.cell (i := 0) rfl
            have c1 := hB1.cell (i := 1) rfl
            have c2 := hB1.cell (i := 2) rfl
            replace r3 := hB1.frozen
            have rL := hB1.lt
            have hrow2 := ownsRow_below HROW.out hb2
            have hnb := row_ne_blk hB1 (by decide) hrow2
            have hrow3 := ownsRow_set (ownsRow_set (ownsRow_set hrow2 ⟨w.heap.size + 1, 0, none⟩ (.slice A1 (lenJ k j false) cap1) hnb) ⟨w.heap.size + 1, 1, none⟩ (.int .i64 (down + j)) hnb) ⟨w.heap.size + 1, 2, none⟩ (.bool false) hnb
            have z := hB1.set3 (.slice A1 (lenJ k j false) cap1) (.int .i64 (down + j)) (.bool false)
            have hb3 := (((hB.trans (hb2.mono hsz)).setCell (p := ⟨w.heap.size + 1, 0, none⟩) (by simp) (.slice A1 (lenJ k j false) cap1)).setCell (p := ⟨w.heap.size + 1, 1, none⟩) (by simp) (.int .i64 (down + j))).setCell (p := ⟨w.heap.size + 1, 2, none⟩) (by simp) (.bool false)
            have HZ := Lib.hid (show _ ∧ _ ∧ _ from ⟨z, hb3, hrow3⟩)
            clear z hb3 hrow3 hrow2 hnb HROW HC2 hB0 hB1 hBo hB hb2
            go_wp2_with fail
            obtain ⟨z, hb3, hrow3⟩ := HZ.out
            generalize World.setCell _ _ _ = w9 at z hb3 hrow3 ⊢
            have z0 := z.cell (i := 0) rfl
            have z1 := z.cell (i := 1) rfl
            have z2 := z.cell (i := 2) rfl
            obtain ⟨e1, e2, e3⟩ := HR2.out
            rw [e1, e2, e3, HE.out, Int.toNat_natCast]
            refine bodyPost_ret (by simp [results, Try.results17, go_sem, z0, z1, z2]; rfl) rfl ?_
            refine retM ⟨_, rfl, ?_⟩ hb3
            rw [HLEN.out]
            exact hrow3
          · rw [checkE_bad hV] at hck2
            have HC2 := Lib.hid hck2
            have HR2 := Lib.hid (refL_bad (by rw [hE]; decide))
            have HE := Lib.hid hE
            clear hck2 hV hE
            go_wp2_with fail
            refine HC2.out.mono ?_
            rintro e W2 ⟨rfl, hb2⟩
            have hsz2 := hb2.size
            replace hB1 := hB1.keep hb2
            clear o0 o1 o2
            have c0 := hB1.cell (i := 0) rfl
            have c1 := hB1.cell (i := 1) rfl
            have c2 := hB1.cell (i := 2) rfl
            replace r3 := hB1.frozen
            have rL := hB1.lt
            have z := hB1.set3 (.slice none 0 0) (.int .i64 0) (.bool false)
            have hb3 := (((hB.trans (hb2.mono hsz)).setCell (p := ⟨w.heap.size + 1, 0, none⟩) (by simp) (.slice none 0 0)).setCell (p := ⟨w.heap.size + 1, 1, none⟩) (by simp) (.int .i64 0)).setCell (p := ⟨w.heap.size + 1, 2, none⟩) (by simp) (.bool false)
            have HZ := Lib.hid (show _ ∧ _ from ⟨z, hb3⟩)
            clear z hb3 HROW HC2 hB0 hB1 hBo hB hb2
            go_wp2_with fail
            obtain ⟨z, hb3⟩ := HZ.out
            generalize World.setCell _ _ _ = w9 at z hb3 ⊢
            have z0 := z.cell (i := 0) rfl
            have z1 := z.cell (i := 1) rfl
            have z2 := z.cell (i := 2) rfl
            obtain ⟨e1, e2, e3⟩ := HR2.out
            rw [e1, e2, e3, HE.out]
            refine bodyPost_ret (by simp [results, Try.results17, go_sem, z0, z1, z2]; rfl) rfl ?_
            exact retM ⟨_, rfl, World.ownsRow_nil _ _ _ _⟩ hb3

theorem refine_any (A : Option Addr) (n cap : Nat) (l : List Vec) (down d : Int) (closed : Bool) (w : World) (hn : l.length = n) (hl : n ≤ 4611686018427387904) (hv : Vecs w w.heap.size A l) (hd : -9223372036854775808 ≤ d ∧ d ≤ 9223372036854775807) :
    Calls Try.prog 17 #[.agg #[.slice A n cap, .int .i64 down, .bool closed], .int .i64 d] w (RetM w (CurveRet w.heap.size 31 (refL l down closed d) (refDown l down closed d) (refClosed l down closed d) (refE l down closed d))) := by
  have bad : ∀ E, refE l down closed d = E → E ≠ 0 → Calls Try.prog 17 #[.agg #[.slice A n cap, .int .i64 down, .bool closed], .int .i64 d] w (RetM w (CurveRet w.heap.size 31 [] 0 false E)) →
      Calls Try.prog 17 #[.agg #[.slice A n cap, .int .i64 down, .bool closed], .int .i64 d] w (RetM w (CurveRet w.heap.size 31 (refL l down closed d) (refDown l down closed d) (refClosed l down closed d) (refE l down closed d))) := by
    rintro E rfl h0 h
    obtain ⟨e1, e2, e3⟩ := refL_bad h0
    rw [e1, e2, e3]
    exact h
  by_cases hV : Valid l down
  · by_cases hD : degOk d
    · obtain ⟨d1, d2⟩ := id hD
      obtain ⟨e, rfl⟩ := Int.eq_ofNat_of_zero_le (show 0 ≤ d by omega)
      by_cases h1 : refM n e closed < 1
      · exact bad 6 (by unfold refE; rw [if_pos hV, if_pos hD, Int.toNat_natCast, hn, if_pos h1]) (by decide) (refine_few A n cap l down e closed w hV ⟨by omega, by omega⟩ hn hv 6 (.inl ⟨h1, rfl⟩))
      · by_cases h2 : 1000 < refM n e closed
        · exact bad 4 (by unfold refE; rw [if_pos hV, if_pos hD, Int.toNat_natCast, hn, if_neg h1, if_pos h2]) (by decide) (refine_few A n cap l down e closed w hV ⟨by omega, by omega⟩ hn hv 4 (.inr ⟨h2, rfl⟩))
        · cases closed with
          | true => exact refine_closed A n cap l down e true w hV rfl ⟨by omega, by omega⟩ hn hv (by omega) (by omega)
          | false => exact refine_open A n cap l down e false w hV rfl ⟨by omega, by omega⟩ hn hv (by omega) (by omega)
    · have hc : checkedE l down d = 2 := by unfold checkedE; rw [if_pos hV, if_neg hD]
      exact bad 2 (by unfold refE; rw [if_pos hV, if_neg hD]) (by decide) (refine_bad A n cap l down d closed w 2 hc (.inr rfl) hn hl hv hd)
  · have hc : checkedE l down d = 8 := if_neg hV
    exact bad 8 (if_neg hV) (by decide) (refine_bad A n cap l down d closed w 8 hc (.inl rfl) hn hl hv hd)
end Go.Proofs.Ytfdjhiomdimfcaa
