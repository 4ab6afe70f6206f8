/- A round of refining: each point and the one behind it, added and halved. -/
import Derived.Test.YtfdjhiomdimfcaaSubB
namespace Go.Rel
open Go.RowKit
theorem keepsOthers_below {W W' : World} (h : Below W.heap.size W W') : KeepsOthers W W' := ⟨h.size, fun k _ hk _ => (h.block k (Array.getElem?_eq_some_iff.1 hk).1).trans hk⟩
theorem tdiv2_in {x M : Int} (h : -M ≤ x ∧ x ≤ M) : -M ≤ x.tdiv 2 ∧ x.tdiv 2 ≤ M := by
  rw [tdiv_eq_if]
  split <;> omega
/-- Both points of a pair have coordinates in range. -/
def PairIn (x : Vec × Vec) : Prop := inV 8000000000000 x.1 ∧ inV 8000000000000 x.2
def midV (x : Vec × Vec) : Vec := halfV (sumV x.1 x.2 1)
theorem own_blk {β : Type} (b : Nat) (t : TypeId) (cs : Array Value) : Own (fun (_ : β) W => Blk W b t cs) := fun _ X _ _ hs hg hrow =>
  (hg.block b hs.lt (fun e' => by obtain ⟨o, ho, hc⟩ := hrow b e'.symm; rw [show X.heap[b]? = _ from hs] at ho; cases ho; cases hc)).trans hs
/-- A block of another type than the row's elements stands behind an append. -/
theorem blk_appended {W w1 : World} {n₀ b : Nat} {t e : TypeId} {cs : Array Value} {size k : Nat} {v : Value} {xs : List Value} {tmp : Obj}
    (hb : Blk W b t cs) (hte : t ≠ e) (hrow : W.ownsRow n₀ e size v k xs) (hgrow : (W.alloc tmp).grownBy w1 v.ownBlock) : Blk w1 b t cs := by
  refine (hgrow.block b (by have := hb.lt; simp; omega) ?_).trans (hb.alloc tmp)
  rcases hrow.2 with ⟨rfl, _⟩ | ⟨g, cap, cur, rfl, _, hgb, _⟩
  · simp [Value.ownBlock]
  · intro e'
    obtain rfl : b = g := by simpa [Value.ownBlock] using e'
    have := (show W.heap[b]? = _ from hb).symm.trans hgb
    simp at this
    exact hte this.2
end Go.Rel
namespace Go.Proofs.Ytfdjhiomdimfcaa
open Go.RowKit Go.Rel Go.Shelf
attribute [local go_sem] Oper.semAt_some

set_option maxRecDepth 100000 in
set_option maxHeartbeats 2000000 in
theorem smooth_in (Bo Bc n cap nc capc : Nat) (A Ac : Option Addr) (q : List Vec) (dn downc : Int) (cl closed : Bool) (w : World) (hn : q.length = n) (hn4 : n ≤ 4000)
    (ho : Blk w Bo 24 #[.slice A n cap, .int .i64 dn, .bool cl]) (hc : Blk w Bc 24 #[.slice Ac nc capc, .int .i64 downc, .bool closed])
    (hv : Vecs w w.heap.size A q) (hq : ∀ i, inV 8000000000000 (getM q i)) :
    CallsIn Fence.wide 3 Try.prog 36 #[.pointer (some ⟨Bo, 0, none⟩), .pointer (some ⟨Bc, 0, none⟩)] w fun e w' => (∃ v, e = .returned v) ∧ ∃ v', Blk w' Bo 24 #[v', .int .i64 dn, .bool cl] ∧
      w'.ownsRow w.heap.size 31 3 v' (pairLen n closed) (((pairsL q closed).map midV).flatMap Vec.cells) ∧ w.grownBy w' (some Bo) := by
  have o0 := ho.cell (i := 0) rfl
  have c2 := hc.cell (i := 2) rfl
  have hoL := ho.lt
  have hcL := hc.lt
  obtain ⟨i0, hi, hz0, hz1, hz2⟩ := info_parts Try.infoVec
  refine callsIn_of_wp_marks Try.func36 rfl trivial ?_ rfl
  simp only [Try.ntmps36, List.size_toArray, List.length_cons, List.length_nil, Nat.reduceAdd, Nat.reduceSub, Array.replicate_succ, Array.replicate_zero, List.push_toArray, List.append_toArray, List.nil_append, List.cons_append]
  gi_wp2_with (refine ⟨trivial, ?_⟩; gi_at_call 37; refine (pairs_any _ _ _ _ closed _).mono ?_; rintro e w' ⟨rfl, rfl⟩)
  have b0 : Blk (w.alloc (.cells #[.slice none 0 0] 22)) w.heap.size 22 #[.slice none 0 0] := Blk.new _ _ _
  obtain ⟨x1, x2, x3, x4, x5⟩ := boxes3 w #[.slice none 0 0] #[.slice A n cap] #[.bool closed] 22 22 4
  clear b0
  generalize ((w.alloc _).alloc _).alloc _ = w0 at x1 x2 x3 x4 x5 ⊢
  replace x3 : Blk w0 _ _ _ := x3
  replace x4 : Blk w0 _ _ _ := x4
  replace x5 : Blk w0 _ _ _ := x5
  have HO := Lib.hid ho
  have HC := Lib.hid hc
  have HI := Lib.hid (show Try.prog.info? 31 = some i0 ∧ i0.zero = some (.agg #[.int .i64 0, .int .i64 0, .int .i64 0]) ∧ i0.size = 3 ∧ i0.bytes = 24 from ⟨hi, hz0, hz1, hz2⟩)
  clear hi hz0 hz1 hz2
  refine wpIn_rangeFunc_ownH rfl (by omega) (gf := 40) (lb := #[.pointer (some ⟨w.heap.size + 1, 0, none⟩), .pointer (some ⟨w.heap.size + 1 + 1, 0, none⟩)]) rfl trivial (enters_of Try.func40 (by kernel_rfl) rfl)
    (pairs_stops 2 (by omega) (w.heap.size + 1) (w.heap.size + 1 + 1) w.heap.size (w.heap.size + 1) (w.heap.size + 1 + 1 + 1) n cap A q closed hn (by omega) (by omega) (by omega) (by omega) (by omega) w0 (by omega) (by omega) PairIn (fun k => ⟨hq _, hq _⟩) x4 x5 (hv.below x1)) KeepR.trans (keepR_b (by omega) (by omega)) (Below.refl _ _) (fun _ => rfl)
    (fun pre W => ((∃ v, Boxed W w.heap.size 22 v ∧ W.ownsRow w.heap.size 31 3 v pre.length ((pre.map fun x => midV x.1).flatMap Vec.cells) ∧ True) ∧ (Blk W (w.heap.size + 1) 22 #[.slice A n cap] ∧ Blk W (w.heap.size + 1 + 1) 4 #[.bool closed])) ∧ Below w.heap.size w W)
    (fun _ _ _ => False)
    (OwnFrom.and (OwnFrom.and ((holdsRow_own w.heap.size w.heap.size 22 31 3 (fun pre : List { x : Vec × Vec // PairIn x } => pre.length) (fun pre => (pre.map fun x => midV x.1).flatMap Vec.cells) (fun _ _ => True)).from _) (OwnFrom.and ((own_blk _ _ _).from _) ((own_blk _ _ _).from _))) (ownFrom_below (Nat.le_refl _) (by omega)))
    (fun _ _ _ _ _ hs _ _ => hs)
    ⟨⟨⟨_, x3, World.ownsRow_nil _ _ _ _, trivial⟩, x4, x5⟩, x1⟩
    (fun x a' W => ∃ ga gb, a' = { tmps := #[.pointer (some ⟨Bo, 0, none⟩), .pointer (some ⟨Bc, 0, none⟩), .pointer (some ⟨w.heap.size, 0, none⟩), .pointer (some ⟨ga, 0, none⟩), .pointer (some ⟨gb, 0, none⟩), undef, .pointer (some ⟨Bo, 0, none⟩), .slice A n cap, .pointer (some ⟨Bc, 2, none⟩), .bool closed,
      .func (.func 40) #[] #[.pointer (some ⟨w.heap.size + 1, 0, none⟩), .pointer (some ⟨w.heap.size + 1 + 1, 0, none⟩)], x.1.1.v, x.1.2.v, undef, undef, undef, undef, undef, undef, undef, undef, undef, undef, undef, undef, undef, undef, undef, undef, undef, undef], defers := [] } ∧
      Blk W ga 31 #[.int .i64 x.1.1.x, .int .i64 x.1.1.y, .int .i64 x.1.1.z] ∧ Blk W gb 31 #[.int .i64 x.1.2.x, .int .i64 x.1.2.y, .int .i64 x.1.2.z]) ?hAx ?assign ?body ?done ?stop
  case hAx =>
    rintro x a' s W W' row ⟨ga, gb, e, h1, h2⟩ hg hr
    exact ⟨ga, gb, e, own_blk (β := Unit) ga _ _ () W W' row h1 hg (fun r e => (hr r e).2), own_blk (β := Unit) gb _ _ () W W' row h2 hg (fun r e => (hr r e).2)⟩
  case assign =>
    rintro L pre x W K ⟨⟨⟨v, hbx, hrow, -⟩, hl1, hl2⟩, hB⟩ hK
    have hlt := hl2.lt
    have hsz := hB.size
    gi_wp2
    refine hK _ _ (((KeepsOthers.alloc W _).trans (KeepsOthers.alloc _ _)).from _) (KeepR.of_below (below_alloc2 W _ _) hsz (by omega)) ⟨⟨⟨v, (hbx.alloc _).alloc _, (hrow.alloc _).alloc _, trivial⟩, (hl1.alloc _).alloc _, (hl2.alloc _).alloc _⟩, hB.trans ((below_alloc2 W _ _).mono hsz)⟩ ⟨_, _, rfl, (Blk.new _ _ _).alloc _, ?_⟩
    have := Blk.new (W.alloc (.cells #[.int .i64 x.1.1.x, .int .i64 x.1.1.y, .int .i64 x.1.1.z] 31)) 31 #[.int .i64 x.1.2.x, .int .i64 x.1.2.y, .int .i64 x.1.2.z]
    rwa [World.size_alloc] at this
  case body =>
    rintro L pre x a' W hLb - ⟨⟨⟨v, hbx, hrow, -⟩, hl1, hl2⟩, hB⟩ ⟨ga, gb, rfl, hga, hgb⟩ hlen
    have hlt := hl2.lt
    have hsz := hB.size
    obtain ⟨XS, hXS⟩ : ∃ XS, (pre.map fun x => midV x.1).flatMap Vec.cells = XS := ⟨_, rfl⟩
    rw [hXS] at hrow
    have HXS := Lib.hid hXS
    clear hXS
    have a0 := hga.cell (i := 0) rfl
    have a1 := hga.cell (i := 1) rfl
    have a2 := hga.cell (i := 2) rfl
    have d0 := hgb.cell (i := 0) rfl
    have d1 := hgb.cell (i := 1) rfl
    have d2 := hgb.cell (i := 2) rfl
    have hx := x.2.1
    have hy := x.2.2
    have ho2 : okV (mulV 1 x.1.2) := by unfold okV inV mulV at *; dsimp only; omega
    have ho1 : okV x.1.1 := inV_more hx (by omega)
    have hsum : ∀ W, Calls Try.prog 35 #[.agg #[.int .i64 x.1.1.x, .int .i64 x.1.1.y, .int .i64 x.1.1.z], .agg #[.int .i64 x.1.2.x, .int .i64 x.1.2.y, .int .i64 x.1.2.z], .int .i64 1] W (Ret W (sumV x.1.1 x.1.2 1).v) := fun W => vsum_any x.1.1 x.1.2 1 W ho1 ho2
    obtain ⟨S, hS⟩ : ∃ S, sumV x.1.1 x.1.2 1 = S := ⟨_, rfl⟩
    have hSb : inV 16000000000000 S := by rw [← hS]; unfold inV sumV at *; dsimp only; omega
    rw [hS] at hsum
    have HS := Lib.hid hS
    obtain ⟨s1, s2, s3, s4, s5, s6⟩ := hSb
    obtain ⟨X2, hX2⟩ : ∃ X2, S.x.tdiv 2 = X2 := ⟨_, rfl⟩
    obtain ⟨Y2, hY2⟩ : ∃ Y2, S.y.tdiv 2 = Y2 := ⟨_, rfl⟩
    obtain ⟨Z2, hZ2⟩ : ∃ Z2, S.z.tdiv 2 = Z2 := ⟨_, rfl⟩
    have q1 := tdiv2_in ⟨s1, s2⟩
    have q2 := tdiv2_in ⟨s3, s4⟩
    have q3 := tdiv2_in ⟨s5, s6⟩
    rw [hX2] at q1
    rw [hY2] at q2
    rw [hZ2] at q3
    obtain ⟨q11, q12⟩ := q1
    obtain ⟨q21, q22⟩ := q2
    obtain ⟨q31, q32⟩ := q3
    have HM := Lib.hid (show midV x.1 = ⟨X2, Y2, Z2⟩ by unfold midV; rw [hS]; unfold halfV; rw [hX2, hY2, hZ2])
    clear hx hy ho1 ho2 hv hq hS
    gi_wp2_with (refine ⟨trivial, ?_⟩; gi_at_call 35; refine (callsIn_wide.2 (hsum W)).mono ?_; rintro e W2 ⟨rfl, hb2⟩; refine Hid.out ?_)
    refine Lib.hid ?_
    have hs2 := hb2.size
    have hbx2 : Boxed W2 w.heap.size 22 v := Blk.keep hbx hb2
    have hrow2 := ownsRow_below hrow hb2
    have hl12 := hl1.keep hb2
    have hl22 := hl2.keep hb2
    have hB2 := hB.trans (hb2.mono hsz)
    have n0 := hbx2.cell
    have n3 := hbx2.frozen
    have nlt := hbx2.lt
    obtain ⟨hi, hz0, hz1, hz2⟩ := HI.out
    have HL0 := Lib.hid (show _ ∧ _ from ⟨hl1, hl2⟩)
    clear a0 a1 a2 d0 d1 d2 hga hgb hrow hbx hl1 hl2 hsum
    gi_wp2_with (gi_at_builtin; refine wpListIn_append_own _ rfl _ _ 22 rfl w.heap.size 31 i0 (.agg #[.int .i64 0, .int .i64 0, .int .i64 0]) 3 24 Try.underlying22 hi hz0 hz1 hz2 rfl (by decide) _ _ _ rfl ((hrow2.alloc _).alloc _) ⟨W2.heap.size + 1, 0, none⟩ 1 1 (Vec.cells ⟨X2, Y2, Z2⟩) rfl rfl ?c1 ?c2 ?c3 ?c4 ?c5 ?_)
    case c1 =>
      have := cells_new_vec (W2.alloc (.cells #[.int .i64 S.x, .int .i64 S.y, .int .i64 S.z] 31)) ⟨X2, Y2, Z2⟩ 31
      simp only [World.size_alloc] at this
      exact this
    case c2 => exact cells_one ⟨X2, Y2, Z2⟩
    case c3 => unfold maxLen; omega
    case c4 => omega
    case c5 => simp; omega
    intro v' W3 hown' hgrow _
    obtain ⟨g, cap', rfl⟩ := ownsRow_succ hown'
    obtain ⟨r1, r2, r3, r4, r5⟩ := Boxed.appended (hbx2.alloc (.cells #[.int .i64 S.x, .int .i64 S.y, .int .i64 S.z] 31)) (by decide) (hrow2.alloc _) (by simp; omega) (Nat.le_refl _) hown' hgrow
    have hl13 := (blk_appended (hl12.alloc _) (by decide) (hrow2.alloc _) hgrow).far (p := ⟨w.heap.size, 0, none⟩) (by simp) (.slice (some ⟨g, 0, none⟩) (pre.length + 1) cap')
    have hl23 := (blk_appended (hl22.alloc _) (by decide) (hrow2.alloc _) hgrow).far (p := ⟨w.heap.size, 0, none⟩) (by simp only; omega) (.slice (some ⟨g, 0, none⟩) (pre.length + 1) cap')
    have HF := Lib.hid (show _ ∧ _ ∧ _ ∧ _ ∧ _ ∧ _ from ⟨r2, r3, r4, r5, hl13, hl23⟩)
    have m0 := r1.cell
    have m3 := r1.frozen
    have mlt := r1.lt
    clear r1 r2 r3 r4 r5 hl13 hl23 hown' hgrow hbx2 hrow2 n0 n3 nlt
    gi_wp2
    obtain ⟨r2, r3, r4, r5, k1, k2⟩ := HF.out
    have hba := (below_alloc W2 (.cells #[.int .i64 S.x, .int .i64 S.y, .int .i64 S.z] 31)).mono (B' := w.heap.size) (by omega)
    have hxs : ((pre ++ [x]).map fun x => midV x.1).flatMap Vec.cells = XS ++ Vec.cells ⟨X2, Y2, Z2⟩ := by rw [List.map_append, List.flatMap_append, HXS.out, ← HM.out]; simp
    refine ⟨(((keepsOthers_below hb2).trans (KeepsOthers.alloc W2 _)).trans r4).from _, ⟨((hb2.mono hsz).trans hba).trans r5, fun k h1 h2 => ?_⟩, ⟨⟨_, r2, ?_, trivial⟩, k1, k2⟩, (hB2.trans hba).trans r5⟩
    · have hk : k = w.heap.size + 1 ∨ k = w.heap.size + 1 + 1 := by omega
      rcases hk with rfl | rfl
      · exact (show _ = _ from k1).trans (show _ = _ from HL0.out.1).symm
      · exact (show _ = _ from k2).trans (show _ = _ from HL0.out.2).symm
    · rw [hxs, List.length_append]
      exact r3
  case done =>
    rintro D ys W hD hys ⟨⟨⟨v, hbx, hrow, -⟩, hl1, hl2⟩, hB⟩ hK
    have hlen : ys.length = pairLen n closed := by have := congrArg List.length hys; rw [pairsL_eq, pairsK_length, hn] at this; simpa using this
    have hmap : ys.map (fun x => midV x.1) = (pairsL q closed).map midV := by rw [← hys, List.map_map]; rfl
    rw [hlen, hmap] at hrow
    have hl3 : ((pairsL q closed).map midV).length = pairLen n closed := by rw [List.length_map, pairsL_eq, pairsK_length, hn]
    obtain ⟨A', cap', rfl, -, -⟩ := Vecs.of_own_n hl3 hrow
    have HR := Lib.hid hrow
    have n0 := hbx.cell
    have hBo : Blk W Bo 24 #[.slice A n cap, .int .i64 dn, .bool cl] := HO.out.below hB hoL
    have k0 := hBo.cell (i := 0) rfl
    have k3 := hBo.frozen 0
    clear hrow hys hlen hmap hl3 hv hq
    gi_wp2
    have hK2 : (W.setCell ⟨Bo, 0, none⟩ (.slice A' (pairLen n closed) cap')).heap[D]? = some (.deferred (some [])) := (Below.heap_setCell _ _ _ _ (by simp only; omega)).trans hK
    refine ⟨by simp, .inl ⟨_, _, rfl, run_takeDeferred hK2, ?_⟩⟩
    have hBo2 : Blk (W.setCell ⟨Bo, 0, none⟩ (.slice A' (pairLen n closed) cap')) Bo 24 #[.slice A' (pairLen n closed) cap', .int .i64 dn, .bool cl] := by simpa using hBo.set_ 0 (.slice A' (pairLen n closed) cap')
    refine ⟨_, results_none rfl _ _ _, ⟨_, rfl⟩, _, (World.putObj_heap_other (by omega)).trans hBo2, ownsRow_putObj (HR.out.kept (grownBy_setCell' W Bo _) ?_) _ hK2 rfl, ?_⟩
    · refine .inr fun e => ?_
      have := (HR.out.lt Bo (by simpa using e)).1
      omega
    · refine ⟨hB.os, hB.tape, hB.output, ?_, fun k hk hne => ?_⟩
      · have := hB.size
        simp; omega
      · exact (World.putObj_heap_other (by omega)).trans ((Below.heap_setCell _ _ _ _ (fun e => hne (by rw [e]))).trans (hB.block k hk))
  case stop =>
    rintro D c pre W _ _ h _
    exact h.elim
end Go.Proofs.Ytfdjhiomdimfcaa
