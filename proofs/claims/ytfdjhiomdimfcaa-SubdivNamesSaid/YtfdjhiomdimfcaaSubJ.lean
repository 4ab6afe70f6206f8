/- Limits of the reference. -/
import Derived.Test.YtfdjhiomdimfcaaSubI
import Derived.Test.YtfdjhiomdimfcaaSubH
namespace Go.Rel
open Go.RowKit
def limK (l : List Vec) (d k : Nat) : List Vec := (List.range k).map (limV l d)
theorem limK_succ (l : List Vec) (d k : Nat) : limK l d (k + 1) = limK l d k ++ [limV l d k] := by unfold limK; rw [List.range_succ, List.map_append]; rfl
theorem limK_length (l : List Vec) (d k : Nat) : (limK l d k).length = k := by simp [limK]
theorem tri_lim (l : List Vec) (i : Nat) : triV l i 1 1 0 = limV l 2 i ∧ triV l i 1 4 1 = limV l 3 i := by
  simp only [triV, limV]
  refine ⟨?_, ?_⟩ <;> apply Vec.ext' <;> simp [addV, mulV, sumV]
end Go.Rel
namespace Go.Proofs.Ytfdjhiomdimfcaa
open Go.RowKit Go.Rel

set_option maxHeartbeats 1000000 in
theorem refLimits_bad (A : Option Addr) (n cap : Nat) (l : List Vec) (down d : Int) (closed : Bool) (w : World) (E : Int) (hE : checkedE l down d = E) (hE0 : E = 8 ∨ E = 2) (hn : l.length = n) (hl : n ≤ 4611686018427387904) (hv : Vecs w w.heap.size A l) (hd : -9223372036854775808 ≤ d ∧ d ≤ 9223372036854775807) :
    Calls Try.prog 20 #[.agg #[.slice A n cap, .int .i64 down, .bool closed], .int .i64 d] w (RetM w (ListRet w.heap.size 31 [] E)) := by
  have hck := fun W hW => refChecked_any A n cap l down d closed W hn hl hW hd
  rw [hE] at hck
  clear hE
  have HCK := Lib.hid hck
  have hb0 := below_alloc w (.cells #[.slice A n cap, .int .i64 down, .bool closed] 24)
  have v0 := Blk.new w 24 #[.slice A n cap, .int .i64 down, .bool closed]
  have HB := Lib.hid (show _ ∧ _ from ⟨hb0, v0⟩)
  clear hck hn hb0 v0
  rcases hE0 with rfl | rfl
  all_goals
    go_enter Try.func20, Try.ntmps20
    go_wp2_with fail
    refine (HCK.out _ ((hv.below HB.out.1).more (by simp))).mono ?_
    rintro e w1 ⟨rfl, hb1⟩
    have v1 := HB.out.2.keep hb1
    have hb := HB.out.1.trans (hb1.mono (by simp))
    have c0 := v1.cell (i := 0) rfl
    have c1 := v1.cell (i := 1) rfl
    have c2 := v1.cell (i := 2) rfl
    have hL := v1.lt
    clear HB hb1 v1
    go_wp2_with fail
    refine (HCK.out _ ((hv.below hb).more hb.size)).mono ?_
    rintro e w2 ⟨rfl, hb2⟩
    go_wp2_with fail
    go_ret2
    exact retM ⟨_, rfl, World.ownsRow_nil _ _ _ _⟩ (hb.trans (hb2.mono hb.size))

theorem lim_end {w W5 W6 : World} {v v' : Value} {cs : Array Value} {k d : Nat} {l : List Vec} {R : Vec} (hR : limV l d k = R) (h1 : Below w.heap.size w W5) (h2 : Blk W5 w.heap.size 24 cs) (h3 : W5.ownsRow w.heap.size 31 3 v k ((limK l d k).flatMap Vec.cells))
    (hg : (W5.alloc (.cells #[.int .i64 R.x, .int .i64 R.y, .int .i64 R.z] 31)).grownBy W6 v.ownBlock) (h4 : W6.ownsRow w.heap.size 31 3 v' (k + 1) ((limK l d k).flatMap Vec.cells ++ Vec.cells R)) :
    W6.ownsRow w.heap.size 31 3 v' (k + 1) ((limK l d (k + 1)).flatMap Vec.cells) ∧ Blk W6 w.heap.size 24 cs ∧ Below w.heap.size w W6 := by
  refine ⟨?_, blk_appended h2 (by decide) h3 hg, (h1.alloc h1.size _).grown hg (by have := h1.size; simp; omega) (fun r hr => (h3.lt r hr).1)⟩
  rw [limK_succ, hR, List.flatMap_append, List.flatMap_cons, List.flatMap_nil, List.append_nil]
  exact h4

set_option maxHeartbeats 4000000 in
theorem refLimits_yes (A : Option Addr) (n cap : Nat) (l : List Vec) (down : Int) (d : Nat) (closed : Bool) (w : World) (hv0 : Valid l down) (hd : 1 ≤ d ∧ d ≤ 3) (hn : l.length = n) (hv : Vecs w w.heap.size A l) :
    Calls Try.prog 20 #[.agg #[.slice A n cap, .int .i64 down, .bool closed], .int .i64 d] w (RetM w (ListRet w.heap.size 31 (limPts l d closed) 0)) := by
  have hn1000 : n ≤ 1000 := by have := hv0.2.1; omega
  have hn1 : 1 ≤ n := by have := hv0.1; omega
  have hck := fun W hW => refChecked_any A n cap l down d closed W hn (by omega) hW ⟨by omega, by omega⟩
  rw [show checkedE l down d = 0 by unfold checkedE; rw [if_pos hv0, if_pos ⟨by omega, by omega⟩]] at hck
  have HCK := Lib.hid hck
  have HN := Lib.hid hn
  have HV := Lib.hid hv0
  obtain ⟨d1, d2⟩ := hd
  have hb0 := below_alloc w (.cells #[.slice A n cap, .int .i64 down, .bool closed] 24)
  have v0 := Blk.new w 24 #[.slice A n cap, .int .i64 down, .bool closed]
  have HB0 := Lib.hid (show _ ∧ _ from ⟨hb0, v0⟩)
  obtain ⟨i0, hi, hz0, hz1, hz2⟩ := info_parts Try.infoVec
  have HI := Lib.hid (show Try.prog.info? 31 = some i0 ∧ i0.zero = some (.agg #[.int .i64 0, .int .i64 0, .int .i64 0]) ∧ i0.size = 3 ∧ i0.bytes = 24 from ⟨hi, hz0, hz1, hz2⟩)
  obtain ⟨B, off, rfl, hBw⟩ := hv.blk (by omega)
  -- how many there are
  obtain ⟨m, hm⟩ : ∃ m : Int, (if closed then (n : Int) else n - d + 1) = m := ⟨_, rfl⟩
  have hm1000 : -1 ≤ m ∧ m ≤ 1000 := by rw [← hm]; split <;> omega
  have hlim : (m ≤ 0 ∧ limLen n d closed = 0) ∨ (0 ≤ m ∧ (limLen n d closed : Int) = m) := by rw [← hm]; unfold limLen; cases closed <;> simp <;> omega
  have hmm : (closed = true ∧ m = n) ∨ (closed = false ∧ m = n - d + 1) := by rw [← hm]; cases closed <;> simp
  have hone : d = 1 → limLen n d closed = n := by intro e; subst e; unfold limLen; cases closed <;> simp
  have HPT : Hid (limPts l d closed = limK l d (limLen n d closed)) := Lib.hid (by unfold limPts limK; rw [hn])
  obtain ⟨LL, hLL⟩ : ∃ LL, limLen n d closed = LL := ⟨_, rfl⟩
  rw [hLL] at hlim hone HPT
  obtain ⟨m1, m2⟩ := hm1000
  clear hck hn hv0 hb0 v0 hi hz0 hz1 hz2 hm hLL
  rcases hmm with ⟨rfl, rfl⟩ | ⟨rfl, rfl⟩
  all_goals
    go_enter Try.func20, Try.ntmps20
    go_wp2_with fail
    refine (HCK.out _ ((hv.below HB0.out.1).more (by simp))).mono ?_
    rintro e w1 ⟨rfl, hb1⟩
    obtain ⟨hb0, v0⟩ := HB0.out
    have v1 := v0.keep hb1
    have c0 := v1.cell (i := 0) rfl
    have c2 := v1.cell (i := 2) rfl
    have hb := hb0.trans (hb1.mono (by simp))
    have hs0 := v1.lt
    have HV1 := Lib.hid v1
    clear hb0 v0 HB0 hb1 v1
    go_wp2_with fail
    go_loopw [7, 8] (fun v i wr => ∃ k : Nat, k ≤ LL ∧ i = .int .i64 k ∧ wr.ownsRow w.heap.size 31 3 v k ((limK l d k).flatMap Vec.cells) ∧ Blk wr w.heap.size 24 #[.slice (some ⟨B, off, none⟩) n cap, .int .i64 down, .bool _] ∧ Below w.heap.size w wr) (fun _ i _ => LL - (intOf i).toNat)
    case atStart => exact ⟨0, Nat.zero_le _, rfl, World.ownsRow_nil _ _ _ _, HV1.out, hb⟩
    case round =>
      obtain ⟨k, hk, rfl, hrow, hB0, hB⟩ := hrel
      by_cases hlt : k < LL
      · have hsz := hB.size
        have hB0L := hB0.lt
        have c0' := hB0.cell (i := 0) rfl
        obtain ⟨R, hR⟩ : ∃ R, limV l d k = R := ⟨_, rfl⟩
        have HBR := Lib.hid hR
        have HROW := Lib.hid (show _ ∧ _ ∧ _ from ⟨hrow, hB0, hB⟩)
        have hfin : ∀ j, inV 1000000000000 (getM l j) := fun j => getM_fine HV.out j
        have hcase : ∃ (b1 b2 : Bool), ((d : Int) == 1) = b1 ∧ ((d : Int) == 2) = b2 ∧ ((b1 = (0 == 0) ∧ d = 1 ∧ getM l k = R) ∨ (b1 = (0 == 1) ∧ b2 = (0 == 0) ∧ triV l k 1 1 0 = R) ∨ (b1 = (0 == 1) ∧ b2 = (0 == 1) ∧ triV l k 1 4 1 = R)) := by
          have hdd : d = 1 ∨ d = 2 ∨ d = 3 := by omega
          refine ⟨_, _, rfl, rfl, ?_⟩
          rcases hdd with rfl | rfl | rfl
          · exact .inl ⟨rfl, rfl, hR⟩
          · exact .inr (.inl ⟨rfl, rfl, (tri_lim l k).1.trans hR⟩)
          · exact .inr (.inr ⟨rfl, rfl, (tri_lim l k).2.trans hR⟩)
        obtain ⟨b1, b2, hb1, hb2, hcase⟩ := hcase
        have hk1000 : k ≤ 1000000 := by omega
        have H3 := Lib.hid (show ∀ (a b c : Int) (W : World), 0 ≤ a ∧ a ≤ 6 → 0 ≤ b ∧ b ≤ 6 → 0 ≤ c ∧ c ≤ 6 → Below w.heap.size w W → Calls Try.prog 39 #[.slice (some ⟨B, off, none⟩) n cap, .int .i64 k, .int .i64 a, .int .i64 b, .int .i64 c] W (Ret W (triV l k a b c).v) from
          fun a b c W h1 h2 h3 hW => three_any (some ⟨B, off, none⟩) n cap k l a b c W HN.out (by omega) (by omega) hk1000 ((hv.below hW).more hW.size) hfin h1 h2 h3)
        rcases hcase with ⟨rfl, hd1, hT⟩ | ⟨rfl, rfl, hT⟩ | ⟨rfl, rfl, hT⟩
        · simp only [beq_self_eq_true] at hb1
          have hkn : k < n := by have := hone hd1; omega
          obtain ⟨B', off', e', -, p0, p1, p2⟩ := (hv.below hB).at_ (show k < l.length by rw [HN.out]; exact hkn)
          obtain ⟨rfl, rfl⟩ : B = B' ∧ off = off' := by simpa using e'
          rw [← getM_lt, hT] at p0 p1 p2
          clear hT hR hrow hB0 hB e' hone hv c0 c2 hb hd1 hb2 b2 hfin H3
          go_wp2_with (at_builtin; refine Hid.out ?_)
          refine Lib.hid ?_
          obtain ⟨hrow, hB0, hB⟩ := HROW.out
          obtain ⟨hi, hz0, hz1, hz2⟩ := HI.out
          refine wpList_append_own _ rfl _ _ 22 rfl w.heap.size 31 i0 (.agg #[.int .i64 0, .int .i64 0, .int .i64 0]) 3 24 Try.underlying22 hi hz0 hz1 hz2 rfl (by decide) _ _ _ rfl (hrow.alloc _) ⟨wr.heap.size, 0, none⟩ 1 1 (Vec.cells R) rfl rfl ?c1 ?c2 ?c3 ?c4 ?c5 ?_
          case c1 => exact cells_new_list wr (Vec.cells R) 31
          case c2 => exact cells_one R
          case c3 => unfold maxLen; omega
          case c4 => omega
          case c5 => simp; omega
          intro v' W6 hown' hgrow _
          have H7 := Lib.hid (lim_end HBR.out hB hB0 hrow hgrow hown')
          clear hrow hB0 hB hown' hgrow HROW p0 p1 p2 hi hz0 hz1 hz2 c0'
          go_wp2_with fail
          go_roundw
          case rel =>
            obtain ⟨q1, q2, q3⟩ := H7.out
            exact ⟨k + 1, by omega, by go_num, q1, q2, q3⟩
          case measure => simp [intOf]; omega
        all_goals
          simp only [Nat.reduceBEq, beq_self_eq_true] at hb1 hb2
          have HT := Lib.hid hT
          clear hT hR hrow hB0 hB hone hv c0 c2 hb hfin
          go_wp2_with fail
          refine (H3.out _ _ _ wr ⟨by omega, by omega⟩ ⟨by omega, by omega⟩ ⟨by omega, by omega⟩ HROW.out.2.2).mono ?_
          rw [HT.out]
          rintro e W5 ⟨rfl, hW5⟩
          go_wp2_with (at_builtin; refine Hid.out ?_)
          refine Lib.hid ?_
          obtain ⟨hrow, hB0, hB⟩ := HROW.out
          obtain ⟨hi, hz0, hz1, hz2⟩ := HI.out
          replace hrow := ownsRow_below hrow hW5
          replace hB0 := hB0.keep hW5
          replace hB := hB.trans (hW5.mono hB.size)
          refine wpList_append_own _ rfl _ _ 22 rfl w.heap.size 31 i0 (.agg #[.int .i64 0, .int .i64 0, .int .i64 0]) 3 24 Try.underlying22 hi hz0 hz1 hz2 rfl (by decide) _ _ _ rfl (hrow.alloc _) ⟨W5.heap.size, 0, none⟩ 1 1 (Vec.cells R) rfl rfl ?c1 ?c2 ?c3 ?c4 ?c5 ?_
          case c1 => exact cells_new_list W5 (Vec.cells R) 31
          case c2 => exact cells_one R
          case c3 => unfold maxLen; omega
          case c4 => omega
          case c5 => have := hB.size; simp; omega
          intro v' W6 hown' hgrow _
          have H7 := Lib.hid (lim_end HBR.out hB hB0 hrow hgrow hown')
          clear hrow hB0 hB hown' hgrow HROW hi hz0 hz1 hz2 hW5 c0' H3
          go_wp2_with fail
          go_roundw
          case rel =>
            obtain ⟨q1, q2, q3⟩ := H7.out
            exact ⟨k + 1, by omega, by go_num, q1, q2, q3⟩
          case measure => simp [intOf]; omega
      · obtain rfl : k = LL := by omega
        clear hv c0 c2 hb
        go_wp2_with fail
        go_ret2
        refine retM ⟨_, rfl, ?_⟩ hB
        rw [HPT.out, limK_length]
        exact hrow

theorem refLimits_any (A : Option Addr) (n cap : Nat) (l : List Vec) (down d : Int) (closed : Bool) (w : World) (hn : l.length = n) (hl : n ≤ 4611686018427387904) (hv : Vecs w w.heap.size A l) (hd : -9223372036854775808 ≤ d ∧ d ≤ 9223372036854775807) :
    Calls Try.prog 20 #[.agg #[.slice A n cap, .int .i64 down, .bool closed], .int .i64 d] w (RetM w (ListRet w.heap.size 31 (limL l down closed d) (checkedE l down d))) := by
  by_cases hV : Valid l down
  · by_cases hD : degOk d
    · obtain ⟨d1, d2⟩ := id hD
      obtain ⟨e, rfl⟩ := Int.eq_ofNat_of_zero_le (show 0 ≤ d by omega)
      rw [checkedE_ok hV hD, limL_ok hV hD, Int.toNat_natCast]
      exact refLimits_yes A n cap l down e closed w hV ⟨by omega, by omega⟩ hn hv
    · have hc : checkedE l down d = 2 := by unfold checkedE; rw [if_pos hV, if_neg hD]
      have hl0 : limL l down closed d = [] := by unfold limL; rw [hc, if_neg (by decide)]
      rw [hl0, hc]
      exact refLimits_bad A n cap l down d closed w 2 hc (.inr rfl) hn hl hv hd
  · have hc : checkedE l down d = 8 := if_neg hV
    have hl0 : limL l down closed d = [] := by unfold limL; rw [hc, if_neg (by decide)]
    rw [hl0, hc]
    exact refLimits_bad A n cap l down d closed w 8 hc (.inl rfl) hn hl hv hd
end Go.Proofs.Ytfdjhiomdimfcaa
