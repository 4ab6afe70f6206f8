/- Limits of the program. -/
import Derived.Laws.CopyRow
import Derived.Laws.OwnMore
import Derived.Test.YtfdjhiomdimfcaaSubF
import Derived.Test.YtfdjhiomdimfcaaRegionR
namespace Go.Rel
open Go.RowKit
theorem run_copy_rowN {P : Program} (w : World) (dT sT ty elem : TypeId) (size g dLen dCap : Nat) (a : Addr) (sLen sCap : Nat) (cur : Array Value) (t : TypeId) (cs : List Value)
    (hu : P.underlying dT = some (.slice elem)) (hs : (P.info? elem).map (·.size) = some size)
    (hg : w.heap[g]? = some (.cells cur t (0, 0))) (hn : cs.length = Nat.min sLen dLen * size)
    (hsrc : ∀ j v, cs[j]? = some v → w.cell? (a.add j) = some v) (hfit : cs.length ≤ cur.size) (h1 : ∀ v ∈ cs, v.oneCell' = true) :
    (Builtin.copy_ #[dT, sT] ty #[.slice (some ⟨g, 0, none⟩) dLen dCap, .slice (some a) sLen sCap]).run P w =
      .ok (goInt (Nat.min sLen dLen)) (w.setRow g (cs ++ cur.toList.drop cs.length).toArray) := by
  have hl := run_loadCells_list (P := P) w a cs hsrc
  have hst := run_storeCells_at P g 0 t cs 0 cur w hg (by simpa using hfit) h1
  simp only [Nat.zero_add, List.take_zero, List.nil_append] at hst
  cases hq : P.info? elem with
  | none => simp [hq] at hs
  | some i =>
    have hi : i.size = size := by simpa [hq] using hs
    simp [Builtin.copy_, run_underlying hu, Builtin.lenOf, Builtin.firstCells, sizeOf, typeInfo, hq, hi, ← hn, hl, hst]
/-- All of a row is written over. -/
theorem copy_all {P : Program} (w : World) (dT sT ty elem : TypeId) (size base n cap dCap : Nat) (g : Nat) (a : Addr) (zs cs : List Value)
    (hu : P.underlying dT = some (.slice elem)) (hs : (P.info? elem).map (·.size) = some size) (hown : w.ownsRow base elem size (.slice (some ⟨g, 0, none⟩) n dCap) n zs)
    (hl : cs.length = n * size) (hsrc : ∀ j v, cs[j]? = some v → w.cell? (a.add j) = some v) (h1 : ∀ v ∈ cs, v.oneCell' = true) :
    ∃ w', (Builtin.copy_ #[dT, sT] ty #[.slice (some ⟨g, 0, none⟩) n dCap, .slice (some a) n cap]).run P w = .ok (goInt n) w' ∧ w'.ownsRow base elem size (.slice (some ⟨g, 0, none⟩) n dCap) n cs ∧ w.grownBy w' (some g) := by
  obtain ⟨hlen, h⟩ := hown
  rcases h with ⟨h, _⟩ | ⟨g', cap', cur, h, hb, hg, hnc, hcm, hcs, ht⟩
  · cases h
  · obtain ⟨rfl, rfl⟩ : g = g' ∧ dCap = cap' := by simpa using h
    have hfit : cs.length ≤ cur.size := by rw [hl, hcs]; exact Nat.mul_le_mul_right _ hnc
    have hrun := run_copy_rowN (P := P) w dT sT ty elem size g n dCap a n cap cur elem cs hu hs hg (by rw [show Nat.min n n = n from Nat.min_self n]; exact hl) hsrc hfit h1
    rw [show Nat.min n n = n from Nat.min_self n] at hrun
    refine ⟨_, hrun, ⟨hl, .inr ⟨g, dCap, _, rfl, hb, setRow_heap w g cur _ elem (0, 0) hg, hnc, hcm, ?_, ?_⟩⟩, ?_⟩
    · simp; omega
    · simp only
      rw [← hl]
      exact List.take_left
    · exact ⟨rfl, rfl, rfl, by simp [World.setRow], fun k hk hne => setRow_other w g k _ (fun e => hne (by rw [e]))⟩
/-- An operation whose run is known, in the wide fence. -/
theorem wpListIn_known {P : Program} {m : Nat} {ops : Array Oper} {rest : List Oper} {o : Oper} {a : Act} {Q : Exit → Act → World → Prop} {w w' : World} {v : Value} (hg : o.guard = none) (hnd : ∀ c, o.op ≠ .defer c)
    (hr : (execOp a.eval o).run P w = .ok (.value v) w') (h : wpListIn Fence.wide m P ops Q rest (a.put o.dst v) w') : wpListIn Fence.wide m P ops Q (o :: rest) a w := by
  refine wpListIn_plain hg fun K hK => ?_
  unfold Oper.wpIn
  refine ⟨fun _ _ => trivial, ?_⟩
  rw [Oper.semAt_plain _ _ _ hnd, hr]
  exact hK _ _ h
/-- A list that has been made: a row of its own; an error. -/
def ListRet (base : Nat) (t : TypeId) (l : List Vec) (e : Int) (v : Value) (w' : World) : Prop := ∃ S, v = .tuple #[S, .int .i64 e] ∧ w'.ownsRow base t 3 S l.length (l.flatMap Vec.cells)
theorem Vecs.flat {w : World} {B b off : Nat} {l : List Vec} (h : Vecs w B (some ⟨b, off, none⟩) l) : ∀ j u, (l.flatMap Vec.cells)[j]? = some u → w.cell? ((⟨b, off, none⟩ : Addr).add j) = some u := by
  intro j u hj
  have e : (⟨b, off, none⟩ : Addr).add j = ⟨b, off + j, none⟩ := by unfold Addr.add; split <;> simp_all
  rw [e]
  have hjl : j < l.length * 3 := by rw [← flat_length]; exact (List.getElem?_eq_some_iff.1 hj).1
  have hk : j / 3 < l.length := by omega
  obtain ⟨b', off', e', -, c0, c1, c2⟩ := h.at_ hk
  obtain ⟨rfl, rfl⟩ : b = b' ∧ off = off' := by simpa using e'
  have key : ∀ (l : List Vec) (i r : Nat) (v : Vec), l[i]? = some v → r < 3 → (l.flatMap Vec.cells)[i * 3 + r]? = (Vec.cells v)[r]? := by
    intro l
    induction l with
    | nil => intro i r v h; simp at h
    | cons a l ih =>
      intro i r v h hr
      have hl : (Vec.cells a).length = 3 := rfl
      rw [List.flatMap_cons]
      cases i with
      | zero =>
        simp at h
        subst h
        rw [List.getElem?_append_left (by omega), Nat.zero_mul, Nat.zero_add]
      | succ i =>
        rw [List.getElem?_append_right (by omega), hl, show (i + 1) * 3 + r - 3 = i * 3 + r by omega]
        exact ih i r v (by simpa using h) hr
  have hg := key l (j / 3) (j % 3) l[j / 3] (by simp [hk]) (Nat.mod_lt _ (by omega))
  rw [show j / 3 * 3 + j % 3 = j by omega, hj] at hg
  have hr : j % 3 = 0 ∨ j % 3 = 1 ∨ j % 3 = 2 := by omega
  rcases hr with hr | hr | hr <;> rw [hr] at hg <;> simp [Vec.cells] at hg <;> subst hg
  · rw [show off + j = off + j / 3 * 3 by omega]; exact c0
  · rw [show off + j = off + j / 3 * 3 + 1 by omega]; exact c1
  · rw [show off + j = off + j / 3 * 3 + 2 by omega]; exact c2
theorem cells_all_one (l : List Vec) : ∀ u ∈ l.flatMap Vec.cells, u.oneCell' = true := fun u hu => by
  obtain ⟨v, -, hv⟩ := List.mem_flatMap.1 hu
  exact cells_one v u hv
theorem blk_flat {W : World} {g : Nat} {t : TypeId} {cs : List Value} (h : Blk W g t cs.toArray) : ∀ j u, cs[j]? = some u → W.cell? ((⟨g, 0, none⟩ : Addr).add j) = some u := by
  intro j u hj
  have e : (⟨g, 0, none⟩ : Addr).add j = ⟨g, j, none⟩ := by unfold Addr.add; split <;> simp_all
  rw [e]
  exact h.cell (by simpa using hj)
theorem blk_grown {W w1 : World} {n₀ b : Nat} {t e : TypeId} {cs : Array Value} {size k : Nat} {v : Value} {xs : List Value}
    (hb : Blk W b t cs) (hte : t ≠ e) (hrow : W.ownsRow n₀ e size v k xs) (hgrow : W.grownBy w1 v.ownBlock) : Blk w1 b t cs :=
  (hgrow.block b hb.lt (fun h => row_ne_blk hb hte hrow h.symm)).trans hb
theorem row_keeps_others {W w1 : World} {n₀ : Nat} {e : TypeId} {size k : Nat} {v : Value} {xs : List Value} (hrow : W.ownsRow n₀ e size v k xs) (hgrow : W.grownBy w1 v.ownBlock) : KeepsOthers W w1 :=
  KeepsOthers.of_grownBy hgrow fun j o ej hj => by
    rcases hrow.2 with ⟨rfl, _⟩ | ⟨g, cap, cur, rfl, _, hgb, _⟩
    · simp [Value.ownBlock] at ej
    · obtain rfl : g = j := by simpa [Value.ownBlock] using ej
      rw [hgb] at hj; cases hj; rfl
theorem lim2_pairs (l : List Vec) (closed : Bool) : (pairsL l closed).map (fun x => sumV x.1 x.2 1) = limPts l 2 closed := by
  unfold pairsL limPts
  rw [List.map_map, limLen2]
  apply List.map_congr_left
  intro i _
  rfl
theorem own_blkf {β : Type} (b : Nat) (t : TypeId) (f : β → Array Value) : Own (fun (s : β) W => Blk W b t (f s)) := fun _ X _ _ hs hg hrow =>
  (hg.block b hs.lt (fun e' => by obtain ⟨o, ho, hc⟩ := hrow b e'.symm; rw [show X.heap[b]? = _ from hs] at ho; cases ho; cases hc)).trans hs
def acc3 (l : List Vec) (xs : List (Vec × Vec)) : List Vec := xs.mapIdx fun i x => sumV (sumV x.1 x.2 1) (getM l (i + 1)) 2
theorem acc3_snoc (l : List Vec) (xs : List (Vec × Vec)) (x : Vec × Vec) : acc3 l (xs ++ [x]) = acc3 l xs ++ [sumV (sumV x.1 x.2 1) (getM l (xs.length + 1)) 2] := by
  unfold acc3
  rw [List.mapIdx_append]
  simp
theorem lim3_pairs (l : List Vec) (closed : Bool) : acc3 l (pairsL (limPts l 2 closed) closed) = limPts l 3 closed := by
  unfold limPts
  rw [pairsL_map _ _ closed (fun hc => by
    have := limV_per l 2 0
    rw [Nat.zero_add] at this
    have e : limLen l.length 2 closed = l.length := by unfold limLen; rw [if_pos hc]
    rw [e]; exact this), limLen3]
  unfold acc3
  apply List.ext_getElem
  · simp
  · intro i h1 h2
    simp only [List.getElem_mapIdx, List.getElem_map, List.getElem_range]
    exact limV_three l i
theorem getM_lim_in {l : List Vec} {down : Int} (h : Valid l down) (d : Nat) (closed : Bool) (i : Nat) : inV 8000000000000 (getM (limPts l d closed) i) := by
  unfold getM
  cases hc : (limPts l d closed)[i % (limPts l d closed).length]? with
  | none => simp [inV, zeroV]
  | some v =>
    have := List.mem_of_getElem? hc
    unfold limPts at this
    obtain ⟨k, -, rfl⟩ := List.mem_map.1 this
    exact inV_more (limV_in h d k) (by omega)
theorem boxes4a (w : World) (c0 c1 c2 c3 : Array Value) (t0 t1 t2 t3 : TypeId) : Below w.heap.size w ((((w.alloc (.cells c0 t0)).alloc (.cells c1 t1)).alloc (.cells c2 t2)).alloc (.cells c3 t3)) ∧
    Blk ((((w.alloc (.cells c0 t0)).alloc (.cells c1 t1)).alloc (.cells c2 t2)).alloc (.cells c3 t3)) w.heap.size t0 c0 ∧ Blk ((((w.alloc (.cells c0 t0)).alloc (.cells c1 t1)).alloc (.cells c2 t2)).alloc (.cells c3 t3)) (w.heap.size + 1) t1 c1 ∧
    Blk ((((w.alloc (.cells c0 t0)).alloc (.cells c1 t1)).alloc (.cells c2 t2)).alloc (.cells c3 t3)) (w.heap.size + 1 + 1) t2 c2 ∧ Blk ((((w.alloc (.cells c0 t0)).alloc (.cells c1 t1)).alloc (.cells c2 t2)).alloc (.cells c3 t3)) (w.heap.size + 1 + 1 + 1) t3 c3 := by
  obtain ⟨h1, h2, h3, h4, h5⟩ := boxes3 w c0 c1 c2 t0 t1 t2
  refine ⟨h1.alloc (by omega) _, Blk.alloc h3 _, Blk.alloc h4 _, Blk.alloc h5 _, ?_⟩
  have := heap_alloc_new (((w.alloc (.cells c0 t0)).alloc (.cells c1 t1)).alloc (.cells c2 t2)) (.cells c3 t3); rwa [h2] at this
end Go.Rel
namespace Go.Proofs.Ytfdjhiomdimfcaa
open Go.RowKit Go.Rel Go.Shelf
attribute [local go_sem] Oper.semAt_some

set_option maxHeartbeats 1000000 in
theorem limits_bad (A : Option Addr) (n cap : Nat) (l : List Vec) (down d : Int) (closed : Bool) (w : World) (E : Int) (hE : checkedE l down d = E) (hE0 : E = 8 ∨ E = 2) (hn : l.length = n) (hl : n ≤ 4611686018427387904) (hv : Vecs w w.heap.size A l) (hd : -9223372036854775808 ≤ d ∧ d ≤ 9223372036854775807) :
    Calls Try.prog 19 #[.agg #[.slice A n cap, .int .i64 down, .bool closed], .int .i64 d] w (RetM w (ListRet w.heap.size 31 [] E)) := by
  have hck := fun W hW => checked_any A n cap l down d closed W hn hl hW hd
  rw [hE] at hck
  clear hE
  have HCK := Lib.hid hck
  have hb0 := below_alloc w (.cells #[.slice A n cap, .int .i64 down, .bool closed] 24)
  clear hck hn
  rcases hE0 with rfl | rfl
  all_goals
    go_enter Try.func19, Try.ntmps19
    go_wp2_with fail
    refine (HCK.out _ ((hv.below hb0).more (by simp))).mono ?_
    rintro e w1 ⟨rfl, hb1⟩
    go_wp2_with fail
    go_ret2
    exact retM ⟨_, rfl, World.ownsRow_nil _ _ _ _⟩ (hb0.trans (hb1.mono (by simp)))

set_option maxRecDepth 100000 in
set_option maxHeartbeats 2000000 in
theorem limits_in (A : Option Addr) (n cap : Nat) (l : List Vec) (down : Int) (d : Nat) (closed : Bool) (w : World) (hv0 : Valid l down) (hd : 1 ≤ d ∧ d ≤ 3) (hn : l.length = n) (hv : Vecs w w.heap.size A l) :
    CallsIn Fence.wide 3 Try.prog 19 #[.agg #[.slice A n cap, .int .i64 down, .bool closed], .int .i64 d] w (RetM w (ListRet w.heap.size 31 (limPts l d closed) 0)) := by
  have hn1000 : n ≤ 1000 := by have := hv0.2.1; omega
  have hn1 : 1 ≤ n := by have := hv0.1; omega
  have hck := fun W hW => checked_any A n cap l down d closed W hn (by omega) hW ⟨by omega, by omega⟩
  rw [show checkedE l down d = 0 by unfold checkedE; rw [if_pos hv0, if_pos ⟨by omega, by omega⟩]] at hck
  have HCK := Lib.hid hck
  have HN := Lib.hid hn
  have HV := Lib.hid hv0
  obtain ⟨d1, d2⟩ := hd
  have hb0 := below_alloc w (.cells #[.slice A n cap, .int .i64 down, .bool closed] 24)
  have v0 := Blk.new w 24 #[.slice A n cap, .int .i64 down, .bool closed]
  have HB0 := Lib.hid (show _ ∧ _ from ⟨hb0, v0⟩)
  obtain ⟨i0, hi, hz0, hz1, hz2⟩ := info_parts Try.infoVec
  have HI := Lib.hid (show Try.prog.info? 31 = some i0 ∧ i0.zero = some (.agg #[.int .i64 0, .int .i64 0, .int .i64 0]) ∧ i0.size = 3 ∧ i0.bytes = 24 from ⟨hi, hz0, hz1, hz2⟩)
  obtain ⟨B, off, rfl, hBw⟩ := hv.blk (by omega)
  clear hck hn hv0 hb0 v0 hi hz0 hz1 hz2
  refine callsIn_of_wp_marks Try.func19 rfl trivial ?_ rfl
  simp only [Try.ntmps19, List.size_toArray, List.length_cons, List.length_nil, Nat.reduceAdd, Nat.reduceSub, Array.replicate_succ, Array.replicate_zero, List.push_toArray, List.append_toArray, List.nil_append, List.cons_append]
  gi_wp2_with (refine ⟨trivial, ?_⟩; gi_at_call 34; refine (callsIn_wide.2 (HCK.out _ ((hv.below HB0.out.1).more (by simp)))).mono ?_; rintro e w1 ⟨rfl, hb1⟩; refine Hid.out ?_)
  refine Lib.hid ?_
  obtain ⟨hb0, v0⟩ := HB0.out
  have v1 := v0.keep hb1
  have c0 := v1.cell (i := 0) rfl
  have c2 := v1.cell (i := 2) rfl
  have hb := hb0.trans (hb1.mono (by simp))
  have hs0 := v1.lt
  have HV1 := Lib.hid (show _ ∧ _ from ⟨hb, v1⟩)
  clear hb0 v0 HB0 hb1 hb v1
  gi_wp2_with (gi_at_make; refine Hid.out ?_)
  refine Lib.hid ?_
  obtain ⟨hi, hz0, hz1, hz2⟩ := HI.out
  obtain ⟨W2, hmk, hrow, hg⟩ := run_makeSlice_full (P := Try.prog) (w := w1) w.heap.size 22 31 i0 _ 3 Try.underlying22 hi hz0 hz1 .i64 .i64 n (by omega) (by rw [hz2]; omega) (by unfold maxLen; omega) (by omega)
  refine wpListIn_known (v := .slice (some ⟨w1.heap.size, 0, none⟩) n n) (w' := W2) rfl (fun c h => by cases h) (by simp [execOp, Act.eval, hmk, Result.andThen]) ?_
  obtain ⟨hb, v1⟩ := HV1.out
  have v2 : Blk W2 w.heap.size 24 _ := (hg.block _ v1.lt (by simp)).trans v1
  have hb2 := hb.grown hg hb.size (fun r e => by cases e)
  have hsz3 : (Try.prog.info? 31).map (·.size) = some 3 := by rw [hi]; simp [HI.out.2.2.1]
  have hg0 : w.heap.size < w1.heap.size := hs0
  have hcopy := copy_all (P := Try.prog) W2 22 22 3 31 3 w.heap.size n cap n w1.heap.size ⟨B, off, none⟩ _ (l.flatMap Vec.cells) Try.underlying22 hsz3 hrow (by rw [flat_length, HN.out]) (hv.below hb2).flat (cells_all_one l)
  generalize w1.heap.size = g0 at *
  obtain ⟨W3, hcp, hrow3, hg3⟩ := hcopy
  have v3 : Blk W3 w.heap.size 24 _ := (hg3.block _ v2.lt (by simp; omega)).trans v2
  have hb3 := hb2.grown hg3 hb2.size (fun r e => by cases e; omega)
  have e0 := v2.cell (i := 0) rfl
  have e2 := v3.cell (i := 2) rfl
  have e1 := v3.cell (i := 0) rfl
  have hs3 := v3.lt
  have HV3 := Lib.hid (show _ ∧ _ ∧ _ from ⟨hb3, v3, hrow3⟩)
  clear HV1 hb v1 v2 hb2 hg hmk hrow hz0 hz1 hz2 hi hsz3 v3 hb3 hrow3 hg3 c0 c2
  have hcase : d = 1 ∨ (2 ≤ d ∧ (1 : Int) < d) := by omega
  rcases hcase with rfl | ⟨hd2, hd2'⟩
  · gi_wp2
    obtain ⟨hb3, v3, hrow3⟩ := HV3.out
    refine ⟨_, results_tmp2 rfl _ _ _, retM ⟨_, rfl, ?_⟩ (hb3.alloc hb3.size _)⟩
    have e : limPts l 1 closed = l := by
      unfold limPts
      have : limLen l.length 1 closed = l.length := by unfold limLen; split <;> omega
      rw [this]
      exact map_getM l
    rw [e, HN.out]
    exact hrow3.alloc _
  · gi_wp2_with (refine ⟨trivial, ?_⟩; gi_at_call 37; refine (pairs_any _ _ _ _ closed _).mono ?_; rintro e w' ⟨rfl, rfl⟩)
    obtain ⟨hb3, v3, hrow3⟩ := HV3.out
    obtain ⟨z1, z2, z3, z4, z5⟩ := boxes4a W3 #[.int .i64 n] #[.slice none 0 0] #[.slice (some ⟨g0, 0, none⟩) n n] #[.bool closed] 3 22 22 4
    obtain ⟨A9, cap9, heq, -, hvs⟩ := Vecs.of_own_n HN.out hrow3
    obtain rfl : A9 = some ⟨g0, 0, none⟩ := by injection heq with h; exact h.symm
    clear heq
    generalize (((W3.alloc _).alloc _).alloc _).alloc _ = w0 at z1 z2 z3 z4 z5 ⊢
    have hin : ∀ i, inV 8000000000000 (getM l i) := fun i => inV_more (getM_fine HV.out i) (by omega)
    have hlen0 := z5.lt
    have HB3 := Lib.hid hb3
    have HV3' := Lib.hid v3
    clear HV3 hb3 v3 hrow3
    refine wpIn_rangeFunc_ownH rfl (by omega) (gf := 40) (lb := #[.pointer (some ⟨W3.heap.size + 1 + 1, 0, none⟩), .pointer (some ⟨W3.heap.size + 1 + 1 + 1, 0, none⟩)]) rfl trivial (enters_of Try.func40 (by kernel_rfl) rfl)
      (pairs_stops 2 (by omega) (W3.heap.size + 1 + 1) (W3.heap.size + 1 + 1 + 1) W3.heap.size (W3.heap.size + 1 + 1) (W3.heap.size + 1 + 1 + 1 + 1) n n (some ⟨g0, 0, none⟩) l closed HN.out (by omega) (by omega) (by omega) (by omega) (by omega) w0 (by omega) (by omega) PairIn (fun k => ⟨hin _, hin _⟩) z4 z5 (hvs.below z1)) KeepR.trans (keepR_b (by omega) (by omega)) (Below.refl _ _) (fun _ => rfl)
      (fun pre W => ((∃ v, Boxed W (W3.heap.size + 1) 22 v ∧ W.ownsRow W3.heap.size 31 3 v pre.length ((pre.map fun x => sumV x.1.1 x.1.2 1).flatMap Vec.cells) ∧ True) ∧ (Blk W (W3.heap.size + 1 + 1) 22 #[.slice (some ⟨g0, 0, none⟩) n n] ∧ Blk W (W3.heap.size + 1 + 1 + 1) 4 #[.bool closed]) ∧ Blk W W3.heap.size 3 #[.int .i64 n]) ∧ Below W3.heap.size W3 W)
      (fun _ _ _ => False)
      (OwnFrom.and (OwnFrom.and ((holdsRow_own W3.heap.size (W3.heap.size + 1) 22 31 3 (fun pre : List { x : Vec × Vec // PairIn x } => pre.length) (fun pre => (pre.map fun x => sumV x.1.1 x.1.2 1).flatMap Vec.cells) (fun _ _ => True)).from _) (OwnFrom.and (OwnFrom.and ((own_blk _ _ _).from _) ((own_blk _ _ _).from _)) ((own_blk _ _ _).from _))) (ownFrom_below (Nat.le_refl _) (by omega)))
      (fun _ _ _ _ _ hs _ _ => hs)
      ⟨⟨⟨_, z3, World.ownsRow_nil _ _ _ _, trivial⟩, ⟨z4, z5⟩, z2⟩, z1⟩
      (fun x a' W => ∃ ga gb, a' = { tmps := #[(.agg #[.slice (some ⟨B, off, none⟩) n cap, .int .i64 down, .bool closed]), .int .i64 d, .pointer (some ⟨w.heap.size, 0, none⟩), undef, .slice none 0 0, .int .i64 0, .int .i64 0, .slice (some ⟨g0, 0, none⟩) n n, .pointer (some ⟨W3.heap.size, 0, none⟩), .pointer (some ⟨W3.heap.size + 1, 0, none⟩), .pointer (some ⟨ga, 0, none⟩), .pointer (some ⟨gb, 0, none⟩), undef, undef, undef, undef, (.agg #[.slice (some ⟨B, off, none⟩) n cap, .int .i64 down, .bool closed]), .int .i64 d, .int .i64 0, .int .i64 0, .bool false, undef, .pointer (some ⟨w.heap.size, 0, none⟩), .slice (some ⟨B, off, none⟩) n cap, .int .i64 n, .slice (some ⟨g0, 0, none⟩) n n, .slice (some ⟨g0, 0, none⟩) n n, .pointer (some ⟨w.heap.size, 0, none⟩), .slice (some ⟨B, off, none⟩) n cap, .int .i64 n, .slice (some ⟨g0, 0, none⟩) n n, .int .i64 n, .int .i64 d, .bool true, .slice (some ⟨g0, 0, none⟩) n n, .pointer (some ⟨w.heap.size, 2, none⟩), .bool closed, .func (.func 40) #[] #[.pointer (some ⟨W3.heap.size + 1 + 1, 0, none⟩), .pointer (some ⟨W3.heap.size + 1 + 1 + 1, 0, none⟩)], x.1.1.v, x.1.2.v, undef, undef, undef, undef, undef, undef, undef, undef, undef, undef, undef, undef, undef, undef, undef, undef, undef, undef, undef, undef, undef, undef, undef, undef, undef, undef, undef, undef, undef, undef, undef, undef, undef, undef], defers := [] } ∧
        Blk W ga 31 #[.int .i64 x.1.1.x, .int .i64 x.1.1.y, .int .i64 x.1.1.z] ∧ Blk W gb 31 #[.int .i64 x.1.2.x, .int .i64 x.1.2.y, .int .i64 x.1.2.z]) ?hAx ?assign ?body ?done ?stop
    case hAx =>
      rintro x a' s W W' row ⟨ga, gb, e, h1, h2⟩ hg hr
      exact ⟨ga, gb, e, own_blk (β := Unit) ga _ _ () W W' row h1 hg (fun r e => (hr r e).2), own_blk (β := Unit) gb _ _ () W W' row h2 hg (fun r e => (hr r e).2)⟩
    case assign =>
      rintro L pre x W K ⟨⟨⟨v, hbx, hrow, -⟩, ⟨hl1, hl2⟩, hn1⟩, hB⟩ hK
      have hlt := hl2.lt
      have hsz := hB.size
      gi_wp2
      refine hK _ _ (((KeepsOthers.alloc W _).trans (KeepsOthers.alloc _ _)).from _) (KeepR.of_below (below_alloc2 W _ _) hsz (by omega)) ⟨⟨⟨v, (hbx.alloc _).alloc _, (hrow.alloc _).alloc _, trivial⟩, ⟨(hl1.alloc _).alloc _, (hl2.alloc _).alloc _⟩, (hn1.alloc _).alloc _⟩, hB.trans ((below_alloc2 W _ _).mono hsz)⟩ ⟨_, _, rfl, (Blk.new _ _ _).alloc _, ?_⟩
      have := Blk.new (W.alloc (.cells #[.int .i64 x.1.1.x, .int .i64 x.1.1.y, .int .i64 x.1.1.z] 31)) 31 #[.int .i64 x.1.2.x, .int .i64 x.1.2.y, .int .i64 x.1.2.z]
      rwa [World.size_alloc] at this
    case body =>
      rintro L pre x a' W hLb - ⟨⟨⟨v, hbx, hrow, -⟩, ⟨hl1, hl2⟩, hn1⟩, hB⟩ ⟨ga, gb, rfl, hga, hgb⟩ hlen
      dsimp only
      have hlt := hl2.lt
      have hsz := hB.size
      obtain ⟨XS, hXS⟩ : ∃ XS, (pre.map fun x => sumV x.1.1 x.1.2 1).flatMap Vec.cells = XS := ⟨_, rfl⟩
      rw [hXS] at hrow
      have HXS := Lib.hid hXS
      have hx := x.2.1
      have hy := x.2.2
      have ho2 : okV (mulV 1 x.1.2) := by unfold okV inV mulV at *; dsimp only; omega
      have ho1 : okV x.1.1 := inV_more hx (by omega)
      have hsum : ∀ W, Calls Try.prog 35 #[.agg #[.int .i64 x.1.1.x, .int .i64 x.1.1.y, .int .i64 x.1.1.z], .agg #[.int .i64 x.1.2.x, .int .i64 x.1.2.y, .int .i64 x.1.2.z], .int .i64 1] W (Ret W (sumV x.1.1 x.1.2 1).v) := fun W => vsum_any x.1.1 x.1.2 1 W ho1 ho2
      obtain ⟨S, hS⟩ : ∃ S, sumV x.1.1 x.1.2 1 = S := ⟨_, rfl⟩
      rw [hS] at hsum
      have HS := Lib.hid hS
      have a0 : ∀ W', Below W.heap.size W W' → W'.cell? ⟨ga, 0, none⟩ = some (.int .i64 x.1.1.x) := fun W' h => (hga.keep h).cell rfl
      have a1 : ∀ W', Below W.heap.size W W' → W'.cell? ⟨ga, 1, none⟩ = some (.int .i64 x.1.1.y) := fun W' h => (hga.keep h).cell rfl
      have a2 : ∀ W', Below W.heap.size W W' → W'.cell? ⟨ga, 2, none⟩ = some (.int .i64 x.1.1.z) := fun W' h => (hga.keep h).cell rfl
      have b0 : ∀ W', Below W.heap.size W W' → W'.cell? ⟨gb, 0, none⟩ = some (.int .i64 x.1.2.x) := fun W' h => (hgb.keep h).cell rfl
      have b1 : ∀ W', Below W.heap.size W W' → W'.cell? ⟨gb, 1, none⟩ = some (.int .i64 x.1.2.y) := fun W' h => (hgb.keep h).cell rfl
      have b2 : ∀ W', Below W.heap.size W W' → W'.cell? ⟨gb, 2, none⟩ = some (.int .i64 x.1.2.z) := fun W' h => (hgb.keep h).cell rfl
      have n0 : ∀ W', Below W.heap.size W W' → W'.cell? ⟨W3.heap.size + 1, 0, none⟩ = some v := fun W' h => (Blk.keep hbx h).cell rfl
      have HBX := Lib.hid (show _ ∧ _ ∧ _ ∧ _ ∧ _ ∧ _ from ⟨hbx, hrow, hl1, hl2, hn1, hB⟩)
      clear hx hy ho1 ho2 hXS hS hbx hrow hl1 hl2 hn1 hB hga hgb z1 z2 z3 z4 z5 hvs hv hin e0 e1 e2
      gi_wp2
      apply wpIn_region_head 5 74 (hm := by kernel_rfl) (hN := rfl)
      case h =>
        simp only [List.take_succ_cons, List.take_zero]
        iterate 3 (apply head_still rfl; (intro W hW; go_simp; (try rfl)))
        (apply head_call rfl; (intro W; go_simp; exact ⟨rfl, rfl⟩); (intro W hW; exact hsum W))
        apply head_mem [] (fun v W => ∃ g, v = .slice (some ⟨g, 0, none⟩) 1 1 ∧ W.heap[g]? = some (.cells #[.int .i64 S.x, .int .i64 S.y, .int .i64 S.z] 31 (0, 0))) rfl
        · rintro v W W' ⟨g, hv, hg⟩ hb
          exact ⟨g, hv, (hb.block g (Array.getElem?_eq_some_iff.1 hg).1).trans hg⟩
        · intro W hW _
          unfold Gives
          go_simp
          exact ⟨(Array.getElem?_eq_some_iff.1 (heap_alloc_new W _)).2, below_alloc W _⟩
        intro v1
        refine head_nil ?_
        intro W4 hW4 hF
        obtain ⟨⟨g, rfl, hg⟩, -⟩ := hF
        obtain ⟨hbx, hrow, hl1, hl2, hn1, hB⟩ := HBX.out
        have hbx4 : Blk W4 (W3.heap.size + 1) 22 #[v] := Blk.keep hbx hW4
        have hrow4 := ownsRow_below hrow hW4
        have hl14 := hl1.keep hW4
        have hl24 := hl2.keep hW4
        have hn14 := hn1.keep hW4
        have hB4 := hB.trans (hW4.mono hB.size)
        have hgb : Blk W4 g 31 (Vec.cells S).toArray := hg
        have hs4 := hW4.size
        have HK := Lib.hid (show _ ∧ _ ∧ _ from ⟨hl1, hl2, hW4⟩)
        obtain ⟨hi, hz0, hz1, hz2⟩ := HI.out
        clear a0 a1 a2 b0 b1 b2 n0 hg hbx hrow hl1 hl2 hn1 hB HBX hW4 hsum
        simp only [List.drop_succ_cons, List.drop_zero, Act.put, List.setIfInBounds_toArray, List.set_cons_succ, List.set_cons_zero]
        refine wpList_append_own _ rfl _ _ 22 rfl W3.heap.size 31 i0 (.agg #[.int .i64 0, .int .i64 0, .int .i64 0]) 3 24 Try.underlying22 hi hz0 hz1 hz2 rfl (by decide) _ _ _ rfl hrow4 ⟨g, 0, none⟩ 1 1 (Vec.cells S) rfl rfl ?c1 ?c2 ?c3 ?c4 ?c5 ?_
        case c1 => exact blk_flat hgb
        case c2 => exact cells_one S
        case c3 => unfold maxLen; omega
        case c4 => omega
        case c5 => omega
        intro v' W6 hown' hgrow _
        obtain ⟨g', cap', rfl⟩ := ownsRow_succ hown'
        have hbx6 := blk_grown hbx4 (by decide) hrow4 hgrow
        have hl16 := blk_grown hl14 (by decide) hrow4 hgrow
        have hl26 := blk_grown hl24 (by decide) hrow4 hgrow
        have hn16 := blk_grown hn14 (by decide) hrow4 hgrow
        have hB6 := hB4.grown hgrow hB4.size (fun r hr => (hrow4.lt r hr).1)
        have hko := row_keeps_others hrow4 hgrow
        have hrow7 := ownsRow_set hown' ⟨W3.heap.size + 1, 0, none⟩ (.slice (some ⟨g', 0, none⟩) (pre.length + 1) cap') (row_ne_blk hbx6 (by decide) hown')
        have hbx7 : Blk (W6.setCell ⟨W3.heap.size + 1, 0, none⟩ (.slice (some ⟨g', 0, none⟩) (pre.length + 1) cap')) (W3.heap.size + 1) 22 #[.slice (some ⟨g', 0, none⟩) (pre.length + 1) cap'] := by simpa using hbx6.set_ 0 (.slice (some ⟨g', 0, none⟩) (pre.length + 1) cap')
        have hl17 := hl16.far (p := ⟨W3.heap.size + 1, 0, none⟩) (by simp only; omega) (.slice (some ⟨g', 0, none⟩) (pre.length + 1) cap')
        have hl27 := hl26.far (p := ⟨W3.heap.size + 1, 0, none⟩) (by simp only; omega) (.slice (some ⟨g', 0, none⟩) (pre.length + 1) cap')
        have hn17 := hn16.far (p := ⟨W3.heap.size + 1, 0, none⟩) (by simp only; omega) (.slice (some ⟨g', 0, none⟩) (pre.length + 1) cap')
        have hB7 := hB6.setCell (p := ⟨W3.heap.size + 1, 0, none⟩) (by simp only; omega) (.slice (some ⟨g', 0, none⟩) (pre.length + 1) cap')
        have hbg := ((Below.refl W3.heap.size W4).grown hgrow (by omega) (fun r hr => (hrow4.lt r hr).1)).setCell (p := ⟨W3.heap.size + 1, 0, none⟩) (by simp only; omega) (.slice (some ⟨g', 0, none⟩) (pre.length + 1) cap')
        have m0 := hbx6.cell (i := 0) rfl
        have m3 := hbx6.frozen 0
        have mL := hbx6.lt
        have HF := Lib.hid (show _ ∧ _ ∧ _ ∧ _ ∧ _ ∧ _ ∧ _ ∧ _ from ⟨hrow7, hbx7, hl17, hl27, hn17, hB7, hko.trans (KeepsOthers.setCell W6 ⟨W3.heap.size + 1, 0, none⟩ (.slice (some ⟨g', 0, none⟩) (pre.length + 1) cap')), hbg⟩)
        clear hrow7 hbx7 hl17 hl27 hn17 hB7 hko hbg hbx6 hl16 hl26 hn16 hB6 hown' hgrow hbx4 hrow4 hl14 hl24 hn14 hB4 hgb
        go_wp2_with fail
        obtain ⟨r1, r2, r3, r4, r5, r6, r7, r8⟩ := HF.out
        obtain ⟨hl1, hl2, hW4⟩ := HK.out
        refine normal_only ?_
        have hxs : ((pre ++ [x]).map fun x => sumV x.1.1 x.1.2 1).flatMap Vec.cells = XS ++ Vec.cells S := by rw [List.map_append, List.flatMap_append, HXS.out, ← HS.out]; simp
        refine ⟨((keepsOthers_below hW4).trans r7).from _, ⟨(hW4.mono hsz).trans r8, fun k h1 h2 => ?_⟩, ⟨⟨_, r2, ?_, trivial⟩, ⟨r3, r4⟩, r5⟩, r6⟩
        · have hk : k = W3.heap.size + 1 + 1 ∨ k = W3.heap.size + 1 + 1 + 1 := by omega
          rcases hk with rfl | rfl
          · exact (show _ = _ from r3).trans (show _ = _ from hl1).symm
          · exact (show _ = _ from r4).trans (show _ = _ from hl2).symm
        · rw [hxs, List.length_append]
          exact r1
      case hB => kernel_rfl
      all_goals rfl
    case done =>
      rintro D ys W hD hys ⟨⟨⟨v, hbx, hrow, -⟩, ⟨hl1, hl2⟩, hn1⟩, hB⟩ hK
      have hlen : ys.length = limLen n 2 closed := by have := congrArg List.length hys; rw [pairsL_eq, pairsK_length, HN.out, limLen2] at this; simpa using this
      have hmap : ys.map (fun x => sumV x.1.1 x.1.2 1) = limPts l 2 closed := by rw [← lim2_pairs, ← hys, List.map_map]; rfl
      rw [hlen, hmap] at hrow
      have hl3 : (limPts l 2 closed).length = limLen n 2 closed := by rw [limPts_len, HN.out]
      obtain ⟨A2, cap2, rfl, -, hvs2⟩ := Vecs.of_own_n hl3 hrow
      have n0 := hbx.cell
      have hBw := HB3.out.trans (hB.mono HB3.out.size)
      have hsz := hB.size
      have HR := Lib.hid (show _ ∧ _ ∧ _ ∧ _ from ⟨hrow, hBw, hn1, hB⟩)
      have HL3 := Lib.hid hl3
      have hm2 : limLen n 2 closed ≤ 1000 := by unfold limLen; split <;> omega
      clear hrow hys hlen hmap hl3 hbx hl1 hl2 hn1 hBw z1 z2 z3 z4 z5 hvs e0 e1
      by_cases hd3 : d = 2
      · subst hd3
        gi_wp2
        obtain ⟨hrow, hBw, hn1, hB⟩ := HR.out
        refine ⟨by simp, .inl ⟨_, _, rfl, run_takeDeferred hK, ?_⟩⟩
        refine ⟨_, results_tmp2 rfl _ _ _, retM ⟨_, rfl, ?_⟩ (hBw.trans (belowK_b (w := w) (Nat.le_refl _) W D _ _ (by omega) hK rfl rfl))⟩
        rw [HL3.out]
        exact ownsRow_putObj (ownsRow_base hrow (by omega)) _ hK rfl
      · have hd4 : (3 : Int) ≤ d := by omega
        have v3 : Blk W w.heap.size 24 _ := HV3'.out.below hB (by omega)
        have hn1 := HR.out.2.2.1
        replace e2 := v3.cell (i := 2) rfl
        have HVC := Lib.hid v3
        have hcL := v3.lt
        have hcL1 : w.heap.size < W.heap.size + 1 := by omega
        clear hB v3 hn1
        gi_wp2_with (refine ⟨trivial, ?_⟩; gi_at_call 37; refine (pairs_any _ _ _ _ closed _).mono ?_; rintro e w' ⟨rfl, rfl⟩)
        obtain ⟨hrow, hBw, hn1, hB⟩ := HR.out
        obtain ⟨z1, z2, z3, z4, z5⟩ := boxes4a W #[.slice none 0 0] #[.int .i64 0] #[.slice A2 (limLen n 2 closed) cap2] #[.bool closed] 22 3 22 4
        have hlen0 := z5.lt
        have hD1 : D < W.heap.size := (Array.getElem?_eq_some_iff.1 hK).1
        generalize (((W.alloc _).alloc _).alloc _).alloc _ = V at z1 z2 z3 z4 z5 hlen0 ⊢
        clear hrow hB
        refine wpIn_rangeFunc_ownH rfl (by omega) (gf := 40) (lb := #[.pointer (some ⟨W.heap.size + 1 + 1, 0, none⟩), .pointer (some ⟨W.heap.size + 1 + 1 + 1, 0, none⟩)]) rfl trivial (enters_of Try.func40 (by kernel_rfl) rfl)
          (pairs_stops 2 (by omega) (W.heap.size + 1 + 1) (W.heap.size + 1 + 1 + 1) W.heap.size (W.heap.size + 1 + 1) (W.heap.size + 1 + 1 + 1 + 1) (limLen n 2 closed) cap2 A2 (limPts l 2 closed) closed HL3.out (by omega) (by omega) (by omega) (by omega) (by omega) V (by omega) (by omega) PairIn (fun k => ⟨getM_lim_in HV.out _ _ _, getM_lim_in HV.out _ _ _⟩) z4 z5 (hvs2.below z1)) KeepR.trans (keepR_b (by omega) (by omega)) (Below.refl _ _) (fun _ => rfl)
          (fun pre Y => (((∃ v, Boxed Y W.heap.size 22 v ∧ Y.ownsRow W.heap.size 31 3 v pre.length ((acc3 l (pre.map (·.1))).flatMap Vec.cells) ∧ True) ∧ (Blk Y (W.heap.size + 1 + 1) 22 #[.slice A2 (limLen n 2 closed) cap2] ∧ Blk Y (W.heap.size + 1 + 1 + 1) 4 #[.bool closed])) ∧ Blk Y (W.heap.size + 1) 3 #[.int .i64 pre.length]) ∧ Below W.heap.size W Y)
          (fun _ _ _ => False)
          (OwnFrom.and (OwnFrom.and (OwnFrom.and ((holdsRow_own W.heap.size W.heap.size 22 31 3 (fun pre : List { x : Vec × Vec // PairIn x } => pre.length) (fun pre => (acc3 l (pre.map (·.1))).flatMap Vec.cells) (fun _ _ => True)).from _) (OwnFrom.and ((own_blk _ _ _).from _) ((own_blk _ _ _).from _))) ((own_blkf _ _ (fun pre : List { x : Vec × Vec // PairIn x } => #[.int .i64 pre.length])).from _)) (ownFrom_below (Nat.le_refl _) (by omega)))
          (fun _ _ _ _ _ hs _ _ => hs)
          ⟨⟨⟨⟨_, z2, World.ownsRow_nil _ _ _ _, trivial⟩, ⟨z4, z5⟩⟩, z3⟩, z1⟩
          (fun x a' Y => ∃ ga gb, a' = { tmps := #[(.agg #[.slice (some ⟨B, off, none⟩) n cap, .int .i64 down, .bool closed]), .int .i64 d, .pointer (some ⟨w.heap.size, 0, none⟩), undef, .slice none 0 0, .int .i64 0, .int .i64 0, .slice A2 (limLen n 2 closed) cap2, .pointer (some ⟨W3.heap.size, 0, none⟩), .pointer (some ⟨W3.heap.size + 1, 0, none⟩), undef, undef, .pointer (some ⟨W.heap.size, 0, none⟩), .pointer (some ⟨W.heap.size + 1, 0, none⟩), .pointer (some ⟨ga, 0, none⟩), .pointer (some ⟨gb, 0, none⟩), (.agg #[.slice (some ⟨B, off, none⟩) n cap, .int .i64 down, .bool closed]), .int .i64 d, .int .i64 0, .int .i64 0, .bool false, undef, .pointer (some ⟨w.heap.size, 0, none⟩), .slice (some ⟨B, off, none⟩) n cap, .int .i64 n, .slice (some ⟨g0, 0, none⟩) n n, .slice (some ⟨g0, 0, none⟩) n n, .pointer (some ⟨w.heap.size, 0, none⟩), .slice (some ⟨B, off, none⟩) n cap, .int .i64 n, .slice (some ⟨g0, 0, none⟩) n n, .int .i64 n, .int .i64 d, .bool true, .slice (some ⟨g0, 0, none⟩) n n, .pointer (some ⟨w.heap.size, 2, none⟩), .bool closed, .func (.func 40) #[] #[.pointer (some ⟨W3.heap.size + 1 + 1, 0, none⟩), .pointer (some ⟨W3.heap.size + 1 + 1 + 1, 0, none⟩)], undef, undef, undef, undef, undef, undef, undef, undef, .slice A2 (limLen n 2 closed) cap2, .int .i64 d, .bool (decide ((d : Int) < 3)), undef, .slice A2 (limLen n 2 closed) cap2, .pointer (some ⟨w.heap.size, 2, none⟩), .bool closed, .func (.func 40) #[] #[.pointer (some ⟨W.heap.size + 1 + 1, 0, none⟩), .pointer (some ⟨W.heap.size + 1 + 1 + 1, 0, none⟩)], x.1.1.v, x.1.2.v, undef, undef, undef, undef, undef, undef, undef, undef, undef, undef, undef, undef, undef, undef, undef, undef, undef, undef], defers := [] } ∧
            Blk Y ga 31 #[.int .i64 x.1.1.x, .int .i64 x.1.1.y, .int .i64 x.1.1.z] ∧ Blk Y gb 31 #[.int .i64 x.1.2.x, .int .i64 x.1.2.y, .int .i64 x.1.2.z]) ?hAx2 ?assign2 ?body2 ?done2 ?stop2
        case hAx2 =>
          rintro x a' s W W' row ⟨ga, gb, e, h1, h2⟩ hg hr
          exact ⟨ga, gb, e, own_blk (β := Unit) ga _ _ () W W' row h1 hg (fun r e => (hr r e).2), own_blk (β := Unit) gb _ _ () W W' row h2 hg (fun r e => (hr r e).2)⟩
        case assign2 =>
          rintro L pre x Y K ⟨⟨⟨⟨v, hbx, hrow, -⟩, ⟨hl1, hl2⟩⟩, hi1⟩, hB⟩ hK
          have hlt := hl2.lt
          have hsz := hB.size
          gi_wp2
          refine hK _ _ (((KeepsOthers.alloc Y _).trans (KeepsOthers.alloc _ _)).from _) (KeepR.of_below (below_alloc2 Y _ _) hsz (by omega)) ⟨⟨⟨⟨v, (hbx.alloc _).alloc _, (hrow.alloc _).alloc _, trivial⟩, ⟨(hl1.alloc _).alloc _, (hl2.alloc _).alloc _⟩⟩, (hi1.alloc _).alloc _⟩, hB.trans ((below_alloc2 Y _ _).mono hsz)⟩ ⟨_, _, rfl, (Blk.new _ _ _).alloc _, ?_⟩
          have := Blk.new (Y.alloc (.cells #[.int .i64 x.1.1.x, .int .i64 x.1.1.y, .int .i64 x.1.1.z] 31)) 31 #[.int .i64 x.1.2.x, .int .i64 x.1.2.y, .int .i64 x.1.2.z]
          rwa [World.size_alloc] at this
        case body2 =>
          rintro L pre x a' Y hLb - ⟨⟨⟨⟨v, hbx, hrow, -⟩, ⟨hl1, hl2⟩⟩, hi1⟩, hB⟩ ⟨ga, gb, rfl, hga, hgb⟩ hlen
          dsimp only
          have hlt := hl2.lt
          have hsz := hB.size
          obtain ⟨k, hk⟩ : ∃ k, pre.length = k := ⟨_, rfl⟩
          obtain ⟨XS, hXS⟩ : ∃ XS, (acc3 l (pre.map (·.1))).flatMap Vec.cells = XS := ⟨_, rfl⟩
          rw [hXS, hk] at hrow
          rw [hk] at hi1 hlen
          have HXS := Lib.hid hXS
          have HKL := Lib.hid hk
          have hx := x.2.1
          have hy := x.2.2
          obtain ⟨j, hj, hjn, p0, p1, p2⟩ := hv.atM HN.out (by omega) (k + 1)
          obtain ⟨u, hu⟩ : ∃ u, getM l (k + 1) = u := ⟨_, rfl⟩
          have huf := getM_fine HV.out (k + 1)
          rw [hu] at p0 p1 p2 huf
          have ho2 : okV (mulV 1 x.1.2) := by unfold okV inV mulV at *; dsimp only; omega
          have ho1 : okV x.1.1 := inV_more hx (by omega)
          have hsum : ∀ W, Calls Try.prog 35 #[.agg #[.int .i64 x.1.1.x, .int .i64 x.1.1.y, .int .i64 x.1.1.z], .agg #[.int .i64 x.1.2.x, .int .i64 x.1.2.y, .int .i64 x.1.2.z], .int .i64 1] W (Ret W (sumV x.1.1 x.1.2 1).v) := fun W => vsum_any x.1.1 x.1.2 1 W ho1 ho2
          have ho3 : okV (sumV x.1.1 x.1.2 1) := by unfold okV inV sumV at *; dsimp only; omega
          have ho4 : okV (mulV 2 u) := by unfold okV inV mulV at *; dsimp only; omega
          have hsum2 : ∀ W, Calls Try.prog 35 #[(sumV x.1.1 x.1.2 1).v, .agg #[.int .i64 u.x, .int .i64 u.y, .int .i64 u.z], .int .i64 2] W (Ret W (sumV (sumV x.1.1 x.1.2 1) u 2).v) := fun W => vsum_any _ u 2 W ho3 ho4
          obtain ⟨S, hS⟩ : ∃ S, sumV (sumV x.1.1 x.1.2 1) u 2 = S := ⟨_, rfl⟩
          rw [hS] at hsum2
          have HS := Lib.hid hS
          have HU := Lib.hid hu
          clear ho1 ho2 ho3 ho4 hS hu huf hx hy
          obtain ⟨T, hT⟩ : ∃ T, sumV x.1.1 x.1.2 1 = T := ⟨_, rfl⟩
          rw [hT] at hsum hsum2
          clear hT
          have er : ((k : Int) + 1).tmod (n : Int) = (j : Int) := by rw [← hj]; exact (Int.ofNat_tmod (k + 1) n).symm
          have ew : IntKind.i64.wrap ((k : Int) + 1) = (k : Int) + 1 := by rw [IntKind.wrap_i64]; omega
          have hn0' : ¬ n = 0 := by omega
          have hYw := hBw.trans (hB.mono (by omega))
          have vY : Blk Y w.heap.size 24 _ := HVC.out.below hB hcL
          have nY : Blk Y W3.heap.size 3 _ := hn1.below hB (by have := hn1.lt; omega)
          have cell : ∀ W', Below Y.heap.size Y W' → ∀ o u, w.cell? ⟨B, o, none⟩ = some u → W'.cell? ⟨B, o, none⟩ = some u := fun W' hW o u h => ((hW.cell (p := ⟨B, o, none⟩) (by simp only; omega)).trans (hYw.cell (p := ⟨B, o, none⟩) (by simp only; omega))).trans h
          have P0 := fun W' hW => cell W' hW _ _ p0
          have P1 := fun W' hW => cell W' hW _ _ p1
          have P2 := fun W' hW => cell W' hW _ _ p2
          have a0 : ∀ W', Below Y.heap.size Y W' → W'.cell? ⟨ga, 0, none⟩ = some (.int .i64 x.1.1.x) := fun W' h => (hga.keep h).cell rfl
          have a1 : ∀ W', Below Y.heap.size Y W' → W'.cell? ⟨ga, 1, none⟩ = some (.int .i64 x.1.1.y) := fun W' h => (hga.keep h).cell rfl
          have a2 : ∀ W', Below Y.heap.size Y W' → W'.cell? ⟨ga, 2, none⟩ = some (.int .i64 x.1.1.z) := fun W' h => (hga.keep h).cell rfl
          have b0 : ∀ W', Below Y.heap.size Y W' → W'.cell? ⟨gb, 0, none⟩ = some (.int .i64 x.1.2.x) := fun W' h => (hgb.keep h).cell rfl
          have b1 : ∀ W', Below Y.heap.size Y W' → W'.cell? ⟨gb, 1, none⟩ = some (.int .i64 x.1.2.y) := fun W' h => (hgb.keep h).cell rfl
          have b2 : ∀ W', Below Y.heap.size Y W' → W'.cell? ⟨gb, 2, none⟩ = some (.int .i64 x.1.2.z) := fun W' h => (hgb.keep h).cell rfl
          have n0 : ∀ W', Below Y.heap.size Y W' → W'.cell? ⟨W.heap.size, 0, none⟩ = some v := fun W' h => (Blk.keep hbx h).cell rfl
          have i0' : ∀ W', Below Y.heap.size Y W' → W'.cell? ⟨W.heap.size + 1, 0, none⟩ = some (.int .i64 k) := fun W' h => (hi1.keep h).cell rfl
          have v0' : ∀ W', Below Y.heap.size Y W' → W'.cell? ⟨w.heap.size, 0, none⟩ = some (.slice (some ⟨B, off, none⟩) n cap) := fun W' h => (vY.keep h).cell rfl
          have m0' : ∀ W', Below Y.heap.size Y W' → W'.cell? ⟨W3.heap.size, 0, none⟩ = some (.int .i64 n) := fun W' h => (nY.keep h).cell rfl
          have HBX := Lib.hid (show _ ∧ _ ∧ _ ∧ _ ∧ _ ∧ _ from ⟨hbx, hrow, hl1, hl2, hi1, hB⟩)
          have hHN := hn1
          clear hXS hbx hrow hl1 hl2 hi1 hB hga hgb z1 z2 z3 z4 z5 hv e2 hj hYw cell p0 p1 p2 vY nY hHN hn1 hBw hk hK
          gi_wp2
          apply wpIn_region_head 14 74 (hm := by kernel_rfl) (hN := rfl)
          case h =>
            simp only [List.take_succ_cons, List.take_zero]
            iterate 3 (apply head_still rfl; (intro W hW; go_simp; (try rfl)))
            (apply head_call rfl; (intro W; go_simp; exact ⟨rfl, rfl⟩); (intro W hW; exact hsum W))
            iterate 8 (apply head_still rfl; (intro W hW; go_simp; (try rfl)))
            (apply head_call rfl; (intro W; go_simp; exact ⟨rfl, rfl⟩); (intro W hW; exact hsum2 W))
            apply head_mem [] (fun v W => ∃ g, v = .slice (some ⟨g, 0, none⟩) 1 1 ∧ W.heap[g]? = some (.cells #[.int .i64 S.x, .int .i64 S.y, .int .i64 S.z] 31 (0, 0))) rfl
            · rintro v W W' ⟨g, hv, hg⟩ hb
              exact ⟨g, hv, (hb.block g (Array.getElem?_eq_some_iff.1 hg).1).trans hg⟩
            · intro W hW _
              unfold Gives
              go_simp
              exact ⟨(Array.getElem?_eq_some_iff.1 (heap_alloc_new W _)).2, below_alloc W _⟩
            intro v1
            refine head_nil ?_
            intro W4 hW4 hF
            obtain ⟨⟨g, rfl, hg⟩, -⟩ := hF
            obtain ⟨hbx, hrow, hl1, hl2, hi1, hB⟩ := HBX.out
            have hbx4 : Blk W4 W.heap.size 22 #[v] := Blk.keep hbx hW4
            have hrow4 := ownsRow_below hrow hW4
            have hl14 := hl1.keep hW4
            have hl24 := hl2.keep hW4
            have hi14 := hi1.keep hW4
            have hB4 := hB.trans (hW4.mono hB.size)
            have hgb : Blk W4 g 31 (Vec.cells S).toArray := hg
            have hs4 := hW4.size
            have HK := Lib.hid (show _ ∧ _ ∧ _ from ⟨hl1, hl2, hW4⟩)
            obtain ⟨hi, hz0, hz1, hz2⟩ := HI.out
            clear a0 a1 a2 b0 b1 b2 n0 i0' v0' m0' P0 P1 P2 hg hbx hrow hl1 hl2 hi1 hB HBX hW4 hsum hsum2
            simp only [List.drop_succ_cons, List.drop_zero, Act.put, List.setIfInBounds_toArray, List.set_cons_succ, List.set_cons_zero]
            refine wpList_append_own _ rfl _ _ 22 rfl W.heap.size 31 i0 (.agg #[.int .i64 0, .int .i64 0, .int .i64 0]) 3 24 Try.underlying22 hi hz0 hz1 hz2 rfl (by decide) _ _ _ rfl hrow4 ⟨g, 0, none⟩ 1 1 (Vec.cells S) rfl rfl ?c1 ?c2 ?c3 ?c4 ?c5 ?_
            case c1 => exact blk_flat hgb
            case c2 => exact cells_one S
            case c3 => unfold maxLen; omega
            case c4 => omega
            case c5 => omega
            intro v' W6 hown' hgrow _
            obtain ⟨g', cap', rfl⟩ := ownsRow_succ hown'
            have hbx6 := blk_grown hbx4 (by decide) hrow4 hgrow
            have hl16 := blk_grown hl14 (by decide) hrow4 hgrow
            have hl26 := blk_grown hl24 (by decide) hrow4 hgrow
            have hi16 := blk_grown hi14 (by decide) hrow4 hgrow
            have hB6 := hB4.grown hgrow hB4.size (fun r hr => (hrow4.lt r hr).1)
            have hko := row_keeps_others hrow4 hgrow
            have hrow7 := ownsRow_set hown' ⟨W.heap.size, 0, none⟩ (.slice (some ⟨g', 0, none⟩) (k + 1) cap') (row_ne_blk hbx6 (by decide) hown')
            have hbx7 : Blk (W6.setCell ⟨W.heap.size, 0, none⟩ (.slice (some ⟨g', 0, none⟩) (k + 1) cap')) W.heap.size 22 #[.slice (some ⟨g', 0, none⟩) (k + 1) cap'] := by simpa using hbx6.set_ 0 (.slice (some ⟨g', 0, none⟩) (k + 1) cap')
            have hl17 := hl16.far (p := ⟨W.heap.size, 0, none⟩) (by simp only; omega) (.slice (some ⟨g', 0, none⟩) (k + 1) cap')
            have hl27 := hl26.far (p := ⟨W.heap.size, 0, none⟩) (by simp only; omega) (.slice (some ⟨g', 0, none⟩) (k + 1) cap')
            have hi17 := hi16.far (p := ⟨W.heap.size, 0, none⟩) (by simp only; omega) (.slice (some ⟨g', 0, none⟩) (k + 1) cap')
            have hB7 := hB6.setCell (p := ⟨W.heap.size, 0, none⟩) (by simp only; omega) (.slice (some ⟨g', 0, none⟩) (k + 1) cap')
            have hbg := ((Below.refl W.heap.size W4).grown hgrow (by omega) (fun r hr => (hrow4.lt r hr).1)).setCell (p := ⟨W.heap.size, 0, none⟩) (by simp only; omega) (.slice (some ⟨g', 0, none⟩) (k + 1) cap')
            have hko7 := hko.trans (KeepsOthers.setCell W6 ⟨W.heap.size, 0, none⟩ (.slice (some ⟨g', 0, none⟩) (k + 1) cap'))
            have m0 := hbx6.cell (i := 0) rfl
            have m3 := hbx6.frozen 0
            have mL := hbx6.lt
            have m3' := hl26.lt
            have HF0 := Lib.hid (show _ ∧ _ ∧ _ ∧ _ ∧ _ ∧ _ ∧ _ ∧ _ from ⟨hrow7, hbx7, hl17, hl27, hi17, hB7, hko7, hbg⟩)
            clear hrow7 hbx7 hl17 hl27 hi17 hB7 hko hko7 hbg hbx6 hl16 hl26 hi16 hB6 hown' hgrow hbx4 hrow4 hl14 hl24 hi14 hB4 hgb
            go_wp2_with fail
            refine normal_only ?_
            obtain ⟨r1, r2, r3, r4, r5, r6, r7, r8⟩ := HF0.out
            generalize World.setCell _ _ _ = W7 at r1 r2 r3 r4 r5 r6 r7 r8 ⊢
            have q1 := ownsRow_set r1 ⟨W.heap.size + 1, 0, none⟩ (.int .i64 (k + 1)) (row_ne_blk r5 (by decide) r1)
            have q2 := r2.far (p := ⟨W.heap.size + 1, 0, none⟩) (by simp only; omega) (.int .i64 (k + 1))
            have q3 := r3.far (p := ⟨W.heap.size + 1, 0, none⟩) (by simp only; omega) (.int .i64 (k + 1))
            have q4 := r4.far (p := ⟨W.heap.size + 1, 0, none⟩) (by simp only; omega) (.int .i64 (k + 1))
            have q5 : Blk (W7.setCell ⟨W.heap.size + 1, 0, none⟩ (.int .i64 (k + 1))) (W.heap.size + 1) 3 #[.int .i64 (k + 1)] := by simpa using r5.set_ 0 (.int .i64 (k + 1))
            have q6 := r6.setCell (p := ⟨W.heap.size + 1, 0, none⟩) (by simp only; omega) (.int .i64 (k + 1))
            have q7 := r7.trans (KeepsOthers.setCell W7 ⟨W.heap.size + 1, 0, none⟩ (.int .i64 (k + 1)))
            have q8 := r8.setCell (p := ⟨W.heap.size + 1, 0, none⟩) (by simp only; omega) (.int .i64 (k + 1))
            have s0 := r5.cell (i := 0) rfl
            have s3 := r5.frozen 0
            have HF := Lib.hid (show _ ∧ _ ∧ _ ∧ _ ∧ _ ∧ _ ∧ _ ∧ _ from ⟨q1, q2, q3, q4, q5, q6, q7, q8⟩)
            clear r1 r2 r3 r4 r5 r6 r7 r8 q1 q2 q3 q4 q5 q6 q7 q8 HF0 m0 m3 mL
            gi_wp2
            obtain ⟨q1, q2, q3, q4, q5, q6, q7, q8⟩ := HF.out
            obtain ⟨hl1, hl2, hW4⟩ := HK.out
            have hxs : (acc3 l ((pre ++ [x]).map (·.1))).flatMap Vec.cells = XS ++ Vec.cells S := by
              rw [List.map_append, List.map_cons, List.map_nil, acc3_snoc, List.flatMap_append, HXS.out, List.length_map, HKL.out, HU.out, HS.out]; simp
            have hpl : (pre ++ [x]).length = k + 1 := by rw [List.length_append, HKL.out]; rfl
            refine ⟨((keepsOthers_below hW4).trans q7).from _, ⟨(hW4.mono hsz).trans q8, fun k' h1 h2 => ?_⟩, ⟨⟨⟨_, q2, ?_, trivial⟩, ⟨q3, q4⟩⟩, ?_⟩, q6⟩
            · have hk : k' = W.heap.size + 1 + 1 ∨ k' = W.heap.size + 1 + 1 + 1 := by omega
              rcases hk with rfl | rfl
              · exact (show _ = _ from q3).trans (show _ = _ from hl1).symm
              · exact (show _ = _ from q4).trans (show _ = _ from hl2).symm
            · rw [hxs, hpl]
              exact q1
            · rw [hpl]
              exact q5
          case hB => kernel_rfl
          all_goals rfl
        case done2 =>
          rintro D2 ys2 Y hD2 hys2 ⟨⟨⟨⟨v, hbx, hrow, -⟩, -⟩, hi1⟩, hB⟩ hK2
          have hacc : acc3 l (ys2.map (·.1)) = limPts l 3 closed := by rw [hys2, lim3_pairs]
          have hlen : ys2.length = (limPts l 3 closed).length := by rw [← hacc]; unfold acc3; simp
          rw [hacc, hlen] at hrow
          obtain ⟨A4, cap4, rfl, -, -⟩ := Vecs.of_own hrow
          have n0 := hbx.cell
          have HR2 := Lib.hid (show _ ∧ _ from ⟨hrow, hB⟩)
          obtain rfl : d = 3 := by omega
          clear hrow hys2 hlen hacc hbx hi1 hB e2 HVC z1 z2 z3 z4 z5 hvs2
          gi_wp2
          obtain ⟨hrow, hB⟩ := HR2.out
          have hsz2 := hB.size
          have hK1 : (Y.putObj D2 (.deferred none)).heap[D]? = some (.deferred (some [])) := (World.putObj_heap_other (by omega)).trans ((hB.block D hD1).trans hK)
          refine ⟨by simp, .inl ⟨_, _, rfl, run_takeDeferred hK2, ?_⟩⟩
          refine ⟨by simp, .inl ⟨_, _, rfl, run_takeDeferred hK1, ?_⟩⟩
          refine ⟨_, results_tmp2 rfl _ _ _, retM ⟨_, rfl, ?_⟩ ?_⟩
          · exact ownsRow_putObj (ownsRow_putObj (ownsRow_base hrow (by omega)) _ hK2 rfl) _ hK1 rfl
          · have hY := hBw.trans (hB.mono (by omega))
            have k1 := belowK_b (w := w) (Nat.le_refl _) Y D2 _ (.deferred none) (by omega) hK2 rfl rfl
            exact (hY.trans k1).trans (belowK_b (w := w) (Nat.le_refl _) _ D _ (.deferred none) (by omega) hK1 rfl rfl)
        case stop2 =>
          rintro D c pre W _ _ h _
          exact h.elim
    case stop =>
      rintro D c pre W _ _ h _
      exact h.elim

theorem limits_any (A : Option Addr) (n cap : Nat) (l : List Vec) (down d : Int) (closed : Bool) (w : World) (hn : l.length = n) (hl : n ≤ 4611686018427387904) (hv : Vecs w w.heap.size A l) (hd : -9223372036854775808 ≤ d ∧ d ≤ 9223372036854775807) :
    Calls Try.prog 19 #[.agg #[.slice A n cap, .int .i64 down, .bool closed], .int .i64 d] w (RetM w (ListRet w.heap.size 31 (limL l down closed d) (checkedE l down d))) := by
  by_cases hV : Valid l down
  · by_cases hD : degOk d
    · obtain ⟨d1, d2⟩ := id hD
      obtain ⟨e, rfl⟩ := Int.eq_ofNat_of_zero_le (show 0 ≤ d by omega)
      rw [checkedE_ok hV hD, limL_ok hV hD, Int.toNat_natCast]
      exact callsIn_wide.1 (limits_in A n cap l down e closed w hV ⟨by omega, by omega⟩ hn hv)
    · have hc : checkedE l down d = 2 := by unfold checkedE; rw [if_pos hV, if_neg hD]
      have hl0 : limL l down closed d = [] := by unfold limL; rw [hc, if_neg (by decide)]
      rw [hl0, hc]
      exact limits_bad A n cap l down d closed w 2 hc (.inr rfl) hn hl hv hd
  · have hc : checkedE l down d = 8 := if_neg hV
    have hl0 : limL l down closed d = [] := by unfold limL; rw [hc, if_neg (by decide)]
    rw [hl0, hc]
    exact limits_bad A n cap l down d closed w 8 hc (.inl rfl) hn hl hv hd
end Go.Proofs.Ytfdjhiomdimfcaa
