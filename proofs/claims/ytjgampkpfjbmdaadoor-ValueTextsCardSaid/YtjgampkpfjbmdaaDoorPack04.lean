/- Texts put together: RatEq, ValB, ValC. -/
import Derived.Test.YtjgampkpfjbmdaaDoorPack03
section
/- The comparison of two ratios. -/
namespace Go.Proofs.YtjgampkpfjbmdaaDoor
open Go.RowKit Go.Rel

def ratB (a b c d : Int) : Bool := decide (a = c) && decide (b = d)
theorem ratB_self (a b : Int) : ratB a b a b = true := by simp [ratB]
theorem ratB_iff (a b : Rat2) : ratB a.n a.d b.n b.d = decide (a = b) := by
  obtain ⟨x, y⟩ := a
  obtain ⟨x', y'⟩ := b
  simp [ratB]
theorem Tryd.eqGuardRat : Tryd.prog.eqGuardType Tryd.prog.depth 23 = false := by kernel_rfl
theorem Tryd.stoodRat : Tryd.prog.stoodInHeld 23 = false := by kernel_rfl
theorem Tryd.fieldsRat : Tryd.prog.underlying 23 = some (.struct (Tryd.prog.fieldsOf 23)) := by kernel_rfl
theorem ratEqIn (x y x' y' : Int) (w : World) : (Op.equalIn 10000 23 (.agg #[.int .i64 x, .int .i64 y]) (.agg #[.int .i64 x', .int .i64 y'])).run Tryd.prog w = .ok (ratB x y x' y') w := by
  rw [run_equalIn_agg w 9999 23 _ _ Tryd.fieldsRat Tryd.stoodRat]
  unfold Program.fieldsOf
  rw [Tryd.underlying23]
  by_cases h1 : x = x' <;> by_cases h2 : y = y' <;> simp [Op.eqFields, part, go_sem, h1, h2, ratB, Tryd.underlying2]
theorem ratEql (x y x' y' : Int) (w : World) : (binOp .eql 23 (.agg #[.int .i64 x, .int .i64 y]) (.agg #[.int .i64 x', .int .i64 y'])).run Tryd.prog w = .ok (.bool (ratB x y x' y')) w := by
  rw [run_eql_struct, ratEqIn]; rfl
theorem ratNeq (x y x' y' : Int) (w : World) : (binOp .neq 23 (.agg #[.int .i64 x, .int .i64 y]) (.agg #[.int .i64 x', .int .i64 y'])).run Tryd.prog w = .ok (.bool (!ratB x y x' y')) w := by
  rw [run_neq_struct, ratEqIn]; rfl
end Go.Proofs.YtjgampkpfjbmdaaDoor
end
section
/- Same on both sides. -/
namespace Go.Rel
open Go.RowKit
open Classical in
/-- Two trees are one. -/
noncomputable def sameB (T U : Tree) : Bool := decide (T = U)
theorem sameB_iff {T U : Tree} : sameB T U = true ↔ T = U := by unfold sameB; simp
theorem sameB_self (T : Tree) : sameB T T = true := sameB_iff.2 rfl
theorem sameB_no {T U : Tree} (h : T ≠ U) : sameB T U = false := by
  cases hs : sameB T U with
  | false => rfl
  | true => exact absurd (sameB_iff.1 hs) h
theorem str_neq {s s' : ByteArray} (h : s ≠ s') : (s.toList == s'.toList) = false := by
  rw [beq_eq_false_iff_ne, Lib.toList_data, Lib.toList_data]
  intro e
  apply h
  cases s; cases s'
  simp only [ByteArray.mk.injEq]
  exact Array.ext' e
/-- What two values of one shape still ask. -/
theorem same_step {kids kids' : List Tree} {i : Nat} (hi : i < kids.length) (hi' : i < kids'.length) (h : kids.take i = kids'.take i) (he : kids[i] = kids'[i]) : kids.take (i + 1) = kids'.take (i + 1) := by
  rw [take_next hi, take_next hi', h, he]
theorem same_stop {kids kids' : List Tree} {i : Nat} {y y' : Tree} (hy : kids[i]? = some y) (hy' : kids'[i]? = some y') (h : sameB y y' = false) : kids ≠ kids' := by
  intro e
  subst e
  rw [hy] at hy'
  injection hy' with e
  subst e
  rw [sameB_self] at h
  cases h
theorem two_boxes (w : World) (e : TypeId) (x y : Val) : Below w.heap.size w ((w.alloc (.cells x.box e)).alloc (.cells y.box e)) ∧ ((w.alloc (.cells x.box e)).alloc (.cells y.box e)).heap.size = w.heap.size + 1 + 1 ∧ Blk ((w.alloc (.cells x.box e)).alloc (.cells y.box e)) w.heap.size e x.box ∧ Blk ((w.alloc (.cells x.box e)).alloc (.cells y.box e)) (w.heap.size + 1) e y.box := boxes2 w x.box y.box e e
end Go.Rel
namespace Go.Proofs.YtjgampkpfjbmdaaDoor
open Go.RowKit Go.Rel

set_option maxHeartbeats 4000000 in
theorem refSame_any : ∀ (d : Nat) (T U : Tree) (x y : Val) (w : World), fitT T d = true → RdB w w.heap.size T x → RdB w w.heap.size U y →
    Calls Tryd.prog 24 #[x.v, y.v] w (Ret w (.bool (sameB T U))) := by
  intro d
  induction d with
  | zero => intro T U x y w h; rw [fitT_zero] at h; cases h
  | succ d ih =>
  intro T U x y w hf hr hr'
  obtain ⟨kids, ys, rfl, ok, hy, hl, hrec, hk⟩ := hr.open_
  obtain ⟨kids', ys', rfl, ok', hy', hl', hrec', hk'⟩ := hr'.open_
  obtain ⟨e, he, -, h150, hkf⟩ := fitT_parts hf
  obtain rfl : d = e := by omega
  obtain ⟨k, q, t, s, A, len, cap⟩ := x
  obtain ⟨k', q', t', s', A', len', cap'⟩ := y
  obtain ⟨hk0, hk1, -, -, -, -, hs, -, hc, -⟩ := ok
  obtain ⟨hk0', hk1', -, -, -, -, hs', hlc', hc', -⟩ := ok'
  dsimp only at hk0 hk1 hy hl hrec hc h150 hs hk0' hk1' hy' hl' hrec' hc' hs' hlc'
  rw [hl] at h150
  dsimp only
  have HL := Lib.hid (show _ ∧ _ ∧ _ from ⟨hy, hl, hkf⟩)
  have HK := Lib.hid (show _ ∧ _ from ⟨hrec, hk⟩)
  have HL' := Lib.hid (show _ ∧ _ from ⟨hy', hl'⟩)
  have HK' := Lib.hid (show _ ∧ _ from ⟨hrec', hk'⟩)
  have HB := Lib.hid (two_boxes w 26 ⟨k, q, t, s, A, len, cap⟩ ⟨k', q', t', s', A', len', cap'⟩)
  have neq := ratNeq
  clear hy hl hkf hrec hk hf hr he hy' hl' hrec' hk' hr' 
  by_cases hkk : k = k'
  case neg =>
    have HV := Lib.hid (sameB_no (T := .node k q t s kids) (U := .node k' q' t' s' kids') (by intro e; injection e; contradiction))
    have f1 : ((k : Int) != k') = true := by simpa using hkk
    clear hkk ih neq
    obtain ⟨hb0, -, hx, hy⟩ := HB.out
    obtain ⟨c0, c1, c2, c3, c4, c5⟩ := hx.val
    obtain ⟨d0, d1, d2, d3, d4, d5⟩ := hy.val
    clear hx hy HB HL HK HL' HK'
    go_enter Tryd.func24, Tryd.ntmps24
    go_wp2_with fail
    go_ret
    exact ret_bool HV.out.symm hb0
  subst hkk
  by_cases hqq : q = q'
  case neg =>
    have HV := Lib.hid (sameB_no (T := .node k q t s kids) (U := .node k q' t' s' kids') (by intro e; injection e; contradiction))
    have f1 : ratB q.n q.d q'.n q'.d = false := by rw [ratB_iff]; exact decide_eq_false hqq
    clear hqq ih
    obtain ⟨hb0, -, hx, hy⟩ := HB.out
    obtain ⟨c0, c1, c2, c3, c4, c5⟩ := hx.val
    obtain ⟨d0, d1, d2, d3, d4, d5⟩ := hy.val
    clear hx hy HB HL HK HL' HK'
    go_enter Tryd.func24, Tryd.ntmps24
    go_wp2_with fail
    go_ret
    exact ret_bool HV.out.symm hb0
  subst hqq
  have f1 := ratB_self q.n q.d
  by_cases htt : t = t'
  case neg =>
    have HV := Lib.hid (sameB_no (T := .node k q t s kids) (U := .node k q t' s' kids') (by intro e; injection e; contradiction))
    have f2 : (t == t') = false := by simpa using htt
    clear htt ih
    obtain ⟨hb0, -, hx, hy⟩ := HB.out
    obtain ⟨c0, c1, c2, c3, c4, c5⟩ := hx.val
    obtain ⟨d0, d1, d2, d3, d4, d5⟩ := hy.val
    clear hx hy HB HL HK HL' HK'
    go_enter Tryd.func24, Tryd.ntmps24
    go_wp2_with fail
    go_ret
    exact ret_bool HV.out.symm hb0
  subst htt
  by_cases hss : s = s'
  case neg =>
    have HV := Lib.hid (sameB_no (T := .node k q t s kids) (U := .node k q t s' kids') (by intro e; injection e; contradiction))
    have f2 := str_neq hss
    clear hss ih
    obtain ⟨hb0, -, hx, hy⟩ := HB.out
    obtain ⟨c0, c1, c2, c3, c4, c5⟩ := hx.val
    obtain ⟨d0, d1, d2, d3, d4, d5⟩ := hy.val
    clear hx hy HB HL HK HL' HK'
    go_enter Tryd.func24, Tryd.ntmps24
    go_wp2_with fail
    go_ret
    exact ret_bool HV.out.symm hb0
  subst hss
  by_cases hll : len = len'
  case neg =>
    have HV := Lib.hid (sameB_no (T := .node k q t s kids) (U := .node k q t s kids') (by intro e; injection e; rename_i h5; apply hll; rw [← HL.out.2.1, ← HL'.out.2, h5]))
    have f2 : ((len : Int) != (len' : Int)) = true := by simp; omega
    clear hll ih
    obtain ⟨hb0, -, hx, hy⟩ := HB.out
    obtain ⟨c0, c1, c2, c3, c4, c5⟩ := hx.val
    obtain ⟨d0, d1, d2, d3, d4, d5⟩ := hy.val
    clear hx hy HB HL HK HL' HK'
    go_enter Tryd.func24, Tryd.ntmps24
    go_wp2_with fail
    go_ret
    exact ret_bool HV.out.symm hb0
  subst hll
  have HB1 := Lib.hid (fun (h : kids ≠ kids') => sameB_no (T := .node k q t s kids) (U := .node k q t s kids') (by intro e; injection e; contradiction))
  have HB2 := Lib.hid (fun (h : kids = kids') => (show sameB (.node k q t s kids) (.node k q t s kids') = true by rw [h]; exact sameB_self _))
  generalize sameB (.node k q t s kids) (.node k q t s kids') = V at *
  go_enter Tryd.func24, Tryd.ntmps24
  obtain ⟨hb0, hz, hx, hy⟩ := HB.out
  obtain ⟨c0, c1, c2, c3, c4, c5⟩ := hx.val
  obtain ⟨d0, d1, d2, d3, d4, d5⟩ := hy.val
  have HZ := Lib.hid hz
  clear hz HB
  go_wp2_with fail
  clear c0 c1 c2 c3 c4 c5 d0 d1 d2 d3 d4 d5
  generalize World.alloc _ _ = w0 at hb0 hx hy HZ ⊢
  go_loopw [5] (fun iv wr => ∃ i : Nat, i ≤ len ∧ iv = .int .i64 i ∧ Hid (kids.take i = kids'.take i) ∧ w.heap.size + 1 + 1 ≤ wr.heap.size ∧ Below w.heap.size w wr ∧ Blk wr w.heap.size 26 (Val.box ⟨k, q, t, s, A, len, cap⟩) ∧ Blk wr (w.heap.size + 1) 26 (Val.box ⟨k, q, t, s, A', len, cap'⟩)) (fun iv _ => len - (intOf iv).toNat)
  case atStart => exact ⟨0, Nat.zero_le _, rfl, rfl, Nat.le_of_eq HZ.out.symm, hb0, hx, hy⟩
  case round =>
    clear hb0 hx hy HZ f1 neq
    obtain ⟨i, hi, rfl, HP, hsz, hb, hx, hy⟩ := hrel
    by_cases hlt : i < len
    · obtain ⟨b, off, u, y, rfl, hB, g1, g2, hru, e0, e1, e2, e3, e4, e5⟩ := val_at HL.out.1 HL.out.2.1 HK.out.1 HK.out.2 hlt
      obtain ⟨b', off', u', y', rfl, hB', g1', g2', hru', e0', e1', e2', e3', e4', e5'⟩ := val_at HL'.out.1 HL'.out.2 HK'.out.1 HK'.out.2 hlt
      have hs0 := hb.size
      have a0 : ∀ W, Below wr.heap.size wr W → W.cell? ⟨b, off + i * 6, none⟩ = some (.int .u8 u.k) := fun W hW => (hW.cell (p := ⟨b, off + i * 6, none⟩) (by simp only; omega)).trans ((hb.cell (p := ⟨b, off + i * 6, none⟩) hB).trans e0)
      have a1 : ∀ W, Below wr.heap.size wr W → W.cell? ⟨b, off + i * 6 + 1, none⟩ = some (.int .i64 u.q.n) := fun W hW => (hW.cell (p := ⟨b, off + i * 6 + 1, none⟩) (by simp only; omega)).trans ((hb.cell (p := ⟨b, off + i * 6 + 1, none⟩) hB).trans e1)
      have a2 : ∀ W, Below wr.heap.size wr W → W.cell? ⟨b, off + i * 6 + 2, none⟩ = some (.int .i64 u.q.d) := fun W hW => (hW.cell (p := ⟨b, off + i * 6 + 2, none⟩) (by simp only; omega)).trans ((hb.cell (p := ⟨b, off + i * 6 + 2, none⟩) hB).trans e2)
      have a3 : ∀ W, Below wr.heap.size wr W → W.cell? ⟨b, off + i * 6 + 3, none⟩ = some (.bool u.t) := fun W hW => (hW.cell (p := ⟨b, off + i * 6 + 3, none⟩) (by simp only; omega)).trans ((hb.cell (p := ⟨b, off + i * 6 + 3, none⟩) hB).trans e3)
      have a4 : ∀ W, Below wr.heap.size wr W → W.cell? ⟨b, off + i * 6 + 4, none⟩ = some (.string u.s) := fun W hW => (hW.cell (p := ⟨b, off + i * 6 + 4, none⟩) (by simp only; omega)).trans ((hb.cell (p := ⟨b, off + i * 6 + 4, none⟩) hB).trans e4)
      have a5 : ∀ W, Below wr.heap.size wr W → W.cell? ⟨b, off + i * 6 + 5, none⟩ = some (.slice u.A u.len u.cap) := fun W hW => (hW.cell (p := ⟨b, off + i * 6 + 5, none⟩) (by simp only; omega)).trans ((hb.cell (p := ⟨b, off + i * 6 + 5, none⟩) hB).trans e5)
      have a0' : ∀ W, Below wr.heap.size wr W → W.cell? ⟨b', off' + i * 6, none⟩ = some (.int .u8 u'.k) := fun W hW => (hW.cell (p := ⟨b', off' + i * 6, none⟩) (by simp only; omega)).trans ((hb.cell (p := ⟨b', off' + i * 6, none⟩) hB').trans e0')
      have a1' : ∀ W, Below wr.heap.size wr W → W.cell? ⟨b', off' + i * 6 + 1, none⟩ = some (.int .i64 u'.q.n) := fun W hW => (hW.cell (p := ⟨b', off' + i * 6 + 1, none⟩) (by simp only; omega)).trans ((hb.cell (p := ⟨b', off' + i * 6 + 1, none⟩) hB').trans e1')
      have a2' : ∀ W, Below wr.heap.size wr W → W.cell? ⟨b', off' + i * 6 + 2, none⟩ = some (.int .i64 u'.q.d) := fun W hW => (hW.cell (p := ⟨b', off' + i * 6 + 2, none⟩) (by simp only; omega)).trans ((hb.cell (p := ⟨b', off' + i * 6 + 2, none⟩) hB').trans e2')
      have a3' : ∀ W, Below wr.heap.size wr W → W.cell? ⟨b', off' + i * 6 + 3, none⟩ = some (.bool u'.t) := fun W hW => (hW.cell (p := ⟨b', off' + i * 6 + 3, none⟩) (by simp only; omega)).trans ((hb.cell (p := ⟨b', off' + i * 6 + 3, none⟩) hB').trans e3')
      have a4' : ∀ W, Below wr.heap.size wr W → W.cell? ⟨b', off' + i * 6 + 4, none⟩ = some (.string u'.s) := fun W hW => (hW.cell (p := ⟨b', off' + i * 6 + 4, none⟩) (by simp only; omega)).trans ((hb.cell (p := ⟨b', off' + i * 6 + 4, none⟩) hB').trans e4')
      have a5' : ∀ W, Below wr.heap.size wr W → W.cell? ⟨b', off' + i * 6 + 5, none⟩ = some (.slice u'.A u'.len u'.cap) := fun W hW => (hW.cell (p := ⟨b', off' + i * 6 + 5, none⟩) (by simp only; omega)).trans ((hb.cell (p := ⟨b', off' + i * 6 + 5, none⟩) hB').trans e5')
      have bx5 : ∀ W, Below wr.heap.size wr W → W.cell? ⟨w.heap.size, 5, none⟩ = some (.slice (some ⟨b, off, none⟩) len cap) := fun W hW => (hx.keep hW).cell rfl
      have by5 : ∀ W, Below wr.heap.size wr W → W.cell? ⟨w.heap.size + 1, 5, none⟩ = some (.slice (some ⟨b', off', none⟩) len cap') := fun W hW => (hy.keep hW).cell rfl
      have hlt2 : (i : Int) < len := by omega
      have HR := Lib.hid (fun W (hW : Below wr.heap.size wr W) => ih y y' u u' W (HL.out.2.2 _ (List.mem_of_getElem? g1)) (hru.in_ (hb.trans (hW.mono hb.size)) (Nat.le_trans hb.size hW.size)) (hru'.in_ (hb.trans (hW.mono hb.size)) (Nat.le_trans hb.size hW.size)))
      have HG := Lib.hid (show _ ∧ _ from ⟨g1, g1'⟩)
      clear e0 e1 e2 e3 e4 e5 e0' e1' e2' e3' e4' e5' g1 g2 g1' g2' hru hru'
      have c5 := bx5 wr (Below.refl _ _)
      have d5 := by5 wr (Below.refl _ _)
      cases hyy : sameB y y'
      all_goals
        rw [hyy] at HR
      case false =>
        have HV := Lib.hid (HB1.out (same_stop HG.out.1 HG.out.2 hyy))
        clear hyy
        go_wp2_with fail
        clear c5 d5
        apply wp_region_head 12 60 (hm := by kernel_rfl) (hN := rfl)
        case h =>
          simp only [List.take_succ_cons, List.take_zero]
          iterate 10 (apply head_still rfl; (intro W hW; go_simp; (try rfl)))
          (apply head_call rfl; (intro W; go_simp; exact ⟨rfl, rfl⟩); (intro W hW; exact HR.out W hW))
          (apply head_still rfl; (intro W hW; go_simp; (try rfl)))
          refine head_nil ?_
          intro W hW hF
          replace hb := hb.trans (hW.mono hb.size)
          clear hW hF a0 a1 a2 a3 a4 a5 a0' a1' a2' a3' a4' a5' bx5 by5
          go_wp2_with fail
          go_ret
          exact ret_bool HV.out.symm hb
        case hB => kernel_rfl
        all_goals rfl
      case true =>
        obtain ⟨hik, hy1⟩ := kid_at HG.out.1
        obtain ⟨hik', hy1'⟩ := kid_at HG.out.2
        have HS := Lib.hid (same_step hik hik' HP.out (by rw [← hy1, ← hy1']; exact sameB_iff.1 hyy))
        clear hyy hy1 hy1' hik hik'
        go_wp2_with fail
        clear c5 d5
        apply wp_region_head 12 60 (hm := by kernel_rfl) (hN := rfl)
        case h =>
          simp only [List.take_succ_cons, List.take_zero]
          iterate 10 (apply head_still rfl; (intro W hW; go_simp; (try rfl)))
          (apply head_call rfl; (intro W; go_simp; exact ⟨rfl, rfl⟩); (intro W hW; exact HR.out W hW))
          (apply head_still rfl; (intro W hW; go_simp; (try rfl)))
          refine head_nil ?_
          intro W hW hF
          have HM := Lib.hid (show _ ∧ _ ∧ _ ∧ _ from ⟨Nat.le_trans hsz hW.size, hb.trans (hW.mono hb.size), hx.keep hW, hy.keep hW⟩)
          clear hW hF a0 a1 a2 a3 a4 a5 a0' a1' a2' a3' a4' a5' bx5 by5 hb hx hy hs0 hsz
          go_wp2_with fail
          go_roundw
          case rel => exact ⟨i + 1, by omega, by go_num, HS, HM.out⟩
          case measure => simp [intOf]; omega
        case hB => kernel_rfl
        all_goals rfl
    · obtain rfl : i = len := by omega
      have HV := Lib.hid (HB2.out (by have := HP.out; rwa [List.take_of_length_le (by rw [HL.out.2.1]; exact Nat.le_refl _), List.take_of_length_le (by rw [HL'.out.2]; exact Nat.le_refl _)] at this))
      have c5 := hx.val.2.2.2.2.2
      go_wp2_with fail
      go_ret
      exact ret_bool HV.out.symm hb

set_option maxHeartbeats 4000000 in
theorem same_any : ∀ (d : Nat) (T U : Tree) (x y : Val) (w : World), fitT T d = true → RdB w w.heap.size T x → RdB w w.heap.size U y →
    Calls Tryd.prog 12 #[x.v, y.v] w (Ret w (.bool (sameB T U))) := by
  intro d
  induction d with
  | zero => intro T U x y w h; rw [fitT_zero] at h; cases h
  | succ d ih =>
  intro T U x y w hf hr hr'
  obtain ⟨kids, ys, rfl, ok, hy, hl, hrec, hk⟩ := hr.open_
  obtain ⟨kids', ys', rfl, ok', hy', hl', hrec', hk'⟩ := hr'.open_
  obtain ⟨e, he, -, h150, hkf⟩ := fitT_parts hf
  obtain rfl : d = e := by omega
  obtain ⟨k, q, t, s, A, len, cap⟩ := x
  obtain ⟨k', q', t', s', A', len', cap'⟩ := y
  obtain ⟨hk0, hk1, -, -, -, -, hs, -, hc, -⟩ := ok
  obtain ⟨hk0', hk1', -, -, -, -, hs', hlc', hc', -⟩ := ok'
  dsimp only at hk0 hk1 hy hl hrec hc h150 hs hk0' hk1' hy' hl' hrec' hc' hs' hlc'
  rw [hl] at h150
  dsimp only
  have HL := Lib.hid (show _ ∧ _ ∧ _ from ⟨hy, hl, hkf⟩)
  have HK := Lib.hid (show _ ∧ _ from ⟨hrec, hk⟩)
  have HL' := Lib.hid (show _ ∧ _ from ⟨hy', hl'⟩)
  have HK' := Lib.hid (show _ ∧ _ from ⟨hrec', hk'⟩)
  have HB := Lib.hid (two_boxes w 26 ⟨k, q, t, s, A, len, cap⟩ ⟨k', q', t', s', A', len', cap'⟩)
  have neq := ratNeq
  clear hy hl hkf hrec hk hf hr he hy' hl' hrec' hk' hr' 
  by_cases hkk : k = k'
  case neg =>
    have HV := Lib.hid (sameB_no (T := .node k q t s kids) (U := .node k' q' t' s' kids') (by intro e; injection e; contradiction))
    have f1 : ((k : Int) != k') = true := by simpa using hkk
    clear hkk ih neq
    obtain ⟨hb0, -, hx, hy⟩ := HB.out
    obtain ⟨c0, c1, c2, c3, c4, c5⟩ := hx.val
    obtain ⟨d0, d1, d2, d3, d4, d5⟩ := hy.val
    clear hx hy HB HL HK HL' HK'
    go_enter Tryd.func12, Tryd.ntmps12
    go_wp2_with fail
    go_ret
    exact ret_bool HV.out.symm hb0
  subst hkk
  by_cases hqq : q = q'
  case neg =>
    have HV := Lib.hid (sameB_no (T := .node k q t s kids) (U := .node k q' t' s' kids') (by intro e; injection e; contradiction))
    have f1 : ratB q.n q.d q'.n q'.d = false := by rw [ratB_iff]; exact decide_eq_false hqq
    clear hqq ih
    obtain ⟨hb0, -, hx, hy⟩ := HB.out
    obtain ⟨c0, c1, c2, c3, c4, c5⟩ := hx.val
    obtain ⟨d0, d1, d2, d3, d4, d5⟩ := hy.val
    clear hx hy HB HL HK HL' HK'
    go_enter Tryd.func12, Tryd.ntmps12
    go_wp2_with fail
    go_ret
    exact ret_bool HV.out.symm hb0
  subst hqq
  have f1 := ratB_self q.n q.d
  by_cases htt : t = t'
  case neg =>
    have HV := Lib.hid (sameB_no (T := .node k q t s kids) (U := .node k q t' s' kids') (by intro e; injection e; contradiction))
    have f2 : (t == t') = false := by simpa using htt
    clear htt ih
    obtain ⟨hb0, -, hx, hy⟩ := HB.out
    obtain ⟨c0, c1, c2, c3, c4, c5⟩ := hx.val
    obtain ⟨d0, d1, d2, d3, d4, d5⟩ := hy.val
    clear hx hy HB HL HK HL' HK'
    go_enter Tryd.func12, Tryd.ntmps12
    go_wp2_with fail
    go_ret
    exact ret_bool HV.out.symm hb0
  subst htt
  by_cases hss : s = s'
  case neg =>
    have HV := Lib.hid (sameB_no (T := .node k q t s kids) (U := .node k q t s' kids') (by intro e; injection e; contradiction))
    have f2 := str_neq hss
    clear hss ih
    obtain ⟨hb0, -, hx, hy⟩ := HB.out
    obtain ⟨c0, c1, c2, c3, c4, c5⟩ := hx.val
    obtain ⟨d0, d1, d2, d3, d4, d5⟩ := hy.val
    clear hx hy HB HL HK HL' HK'
    go_enter Tryd.func12, Tryd.ntmps12
    go_wp2_with fail
    go_ret
    exact ret_bool HV.out.symm hb0
  subst hss
  by_cases hll : len = len'
  case neg =>
    have HV := Lib.hid (sameB_no (T := .node k q t s kids) (U := .node k q t s kids') (by intro e; injection e; rename_i h5; apply hll; rw [← HL.out.2.1, ← HL'.out.2, h5]))
    have f2 : ((len : Int) != (len' : Int)) = true := by simp; omega
    clear hll ih
    obtain ⟨hb0, -, hx, hy⟩ := HB.out
    obtain ⟨c0, c1, c2, c3, c4, c5⟩ := hx.val
    obtain ⟨d0, d1, d2, d3, d4, d5⟩ := hy.val
    clear hx hy HB HL HK HL' HK'
    go_enter Tryd.func12, Tryd.ntmps12
    go_wp2_with fail
    go_ret
    exact ret_bool HV.out.symm hb0
  subst hll
  have HB1 := Lib.hid (fun (h : kids ≠ kids') => sameB_no (T := .node k q t s kids) (U := .node k q t s kids') (by intro e; injection e; contradiction))
  have HB2 := Lib.hid (fun (h : kids = kids') => (show sameB (.node k q t s kids) (.node k q t s kids') = true by rw [h]; exact sameB_self _))
  generalize sameB (.node k q t s kids) (.node k q t s kids') = V at *
  go_enter Tryd.func12, Tryd.ntmps12
  obtain ⟨hb0, hz, hx, hy⟩ := HB.out
  obtain ⟨c0, c1, c2, c3, c4, c5⟩ := hx.val
  obtain ⟨d0, d1, d2, d3, d4, d5⟩ := hy.val
  have HZ := Lib.hid hz
  clear hz HB
  go_wp2_with fail
  clear c0 c1 c2 c3 c4 c5 d0 d1 d2 d3 d4 d5
  generalize World.alloc _ _ = w0 at hb0 hx hy HZ ⊢
  go_loopw [44] (fun iv wr => ∃ i : Nat, i ≤ len ∧ iv = .int .i64 i ∧ Hid (kids.take i = kids'.take i) ∧ w.heap.size + 1 + 1 ≤ wr.heap.size ∧ Below w.heap.size w wr ∧ Blk wr w.heap.size 26 (Val.box ⟨k, q, t, s, A, len, cap⟩) ∧ Blk wr (w.heap.size + 1) 26 (Val.box ⟨k, q, t, s, A', len, cap'⟩)) (fun iv _ => len - (intOf iv).toNat)
  case atStart => exact ⟨0, Nat.zero_le _, rfl, rfl, Nat.le_of_eq HZ.out.symm, hb0, hx, hy⟩
  case round =>
    clear hb0 hx hy HZ f1 neq
    obtain ⟨i, hi, rfl, HP, hsz, hb, hx, hy⟩ := hrel
    by_cases hlt : i < len
    · obtain ⟨b, off, u, y, rfl, hB, g1, g2, hru, e0, e1, e2, e3, e4, e5⟩ := val_at HL.out.1 HL.out.2.1 HK.out.1 HK.out.2 hlt
      obtain ⟨b', off', u', y', rfl, hB', g1', g2', hru', e0', e1', e2', e3', e4', e5'⟩ := val_at HL'.out.1 HL'.out.2 HK'.out.1 HK'.out.2 hlt
      have hs0 := hb.size
      have a0 : ∀ W, Below wr.heap.size wr W → W.cell? ⟨b, off + i * 6, none⟩ = some (.int .u8 u.k) := fun W hW => (hW.cell (p := ⟨b, off + i * 6, none⟩) (by simp only; omega)).trans ((hb.cell (p := ⟨b, off + i * 6, none⟩) hB).trans e0)
      have a1 : ∀ W, Below wr.heap.size wr W → W.cell? ⟨b, off + i * 6 + 1, none⟩ = some (.int .i64 u.q.n) := fun W hW => (hW.cell (p := ⟨b, off + i * 6 + 1, none⟩) (by simp only; omega)).trans ((hb.cell (p := ⟨b, off + i * 6 + 1, none⟩) hB).trans e1)
      have a2 : ∀ W, Below wr.heap.size wr W → W.cell? ⟨b, off + i * 6 + 2, none⟩ = some (.int .i64 u.q.d) := fun W hW => (hW.cell (p := ⟨b, off + i * 6 + 2, none⟩) (by simp only; omega)).trans ((hb.cell (p := ⟨b, off + i * 6 + 2, none⟩) hB).trans e2)
      have a3 : ∀ W, Below wr.heap.size wr W → W.cell? ⟨b, off + i * 6 + 3, none⟩ = some (.bool u.t) := fun W hW => (hW.cell (p := ⟨b, off + i * 6 + 3, none⟩) (by simp only; omega)).trans ((hb.cell (p := ⟨b, off + i * 6 + 3, none⟩) hB).trans e3)
      have a4 : ∀ W, Below wr.heap.size wr W → W.cell? ⟨b, off + i * 6 + 4, none⟩ = some (.string u.s) := fun W hW => (hW.cell (p := ⟨b, off + i * 6 + 4, none⟩) (by simp only; omega)).trans ((hb.cell (p := ⟨b, off + i * 6 + 4, none⟩) hB).trans e4)
      have a5 : ∀ W, Below wr.heap.size wr W → W.cell? ⟨b, off + i * 6 + 5, none⟩ = some (.slice u.A u.len u.cap) := fun W hW => (hW.cell (p := ⟨b, off + i * 6 + 5, none⟩) (by simp only; omega)).trans ((hb.cell (p := ⟨b, off + i * 6 + 5, none⟩) hB).trans e5)
      have a0' : ∀ W, Below wr.heap.size wr W → W.cell? ⟨b', off' + i * 6, none⟩ = some (.int .u8 u'.k) := fun W hW => (hW.cell (p := ⟨b', off' + i * 6, none⟩) (by simp only; omega)).trans ((hb.cell (p := ⟨b', off' + i * 6, none⟩) hB').trans e0')
      have a1' : ∀ W, Below wr.heap.size wr W → W.cell? ⟨b', off' + i * 6 + 1, none⟩ = some (.int .i64 u'.q.n) := fun W hW => (hW.cell (p := ⟨b', off' + i * 6 + 1, none⟩) (by simp only; omega)).trans ((hb.cell (p := ⟨b', off' + i * 6 + 1, none⟩) hB').trans e1')
      have a2' : ∀ W, Below wr.heap.size wr W → W.cell? ⟨b', off' + i * 6 + 2, none⟩ = some (.int .i64 u'.q.d) := fun W hW => (hW.cell (p := ⟨b', off' + i * 6 + 2, none⟩) (by simp only; omega)).trans ((hb.cell (p := ⟨b', off' + i * 6 + 2, none⟩) hB').trans e2')
      have a3' : ∀ W, Below wr.heap.size wr W → W.cell? ⟨b', off' + i * 6 + 3, none⟩ = some (.bool u'.t) := fun W hW => (hW.cell (p := ⟨b', off' + i * 6 + 3, none⟩) (by simp only; omega)).trans ((hb.cell (p := ⟨b', off' + i * 6 + 3, none⟩) hB').trans e3')
      have a4' : ∀ W, Below wr.heap.size wr W → W.cell? ⟨b', off' + i * 6 + 4, none⟩ = some (.string u'.s) := fun W hW => (hW.cell (p := ⟨b', off' + i * 6 + 4, none⟩) (by simp only; omega)).trans ((hb.cell (p := ⟨b', off' + i * 6 + 4, none⟩) hB').trans e4')
      have a5' : ∀ W, Below wr.heap.size wr W → W.cell? ⟨b', off' + i * 6 + 5, none⟩ = some (.slice u'.A u'.len u'.cap) := fun W hW => (hW.cell (p := ⟨b', off' + i * 6 + 5, none⟩) (by simp only; omega)).trans ((hb.cell (p := ⟨b', off' + i * 6 + 5, none⟩) hB').trans e5')
      have bx5 : ∀ W, Below wr.heap.size wr W → W.cell? ⟨w.heap.size, 5, none⟩ = some (.slice (some ⟨b, off, none⟩) len cap) := fun W hW => (hx.keep hW).cell rfl
      have by5 : ∀ W, Below wr.heap.size wr W → W.cell? ⟨w.heap.size + 1, 5, none⟩ = some (.slice (some ⟨b', off', none⟩) len cap') := fun W hW => (hy.keep hW).cell rfl
      have hlt2 : (i : Int) < len := by omega
      have HR := Lib.hid (fun W (hW : Below wr.heap.size wr W) => ih y y' u u' W (HL.out.2.2 _ (List.mem_of_getElem? g1)) (hru.in_ (hb.trans (hW.mono hb.size)) (Nat.le_trans hb.size hW.size)) (hru'.in_ (hb.trans (hW.mono hb.size)) (Nat.le_trans hb.size hW.size)))
      have HG := Lib.hid (show _ ∧ _ from ⟨g1, g1'⟩)
      clear e0 e1 e2 e3 e4 e5 e0' e1' e2' e3' e4' e5' g1 g2 g1' g2' hru hru'
      have c5 := bx5 wr (Below.refl _ _)
      have d5 := by5 wr (Below.refl _ _)
      cases hyy : sameB y y'
      all_goals
        rw [hyy] at HR
      case false =>
        have HV := Lib.hid (HB1.out (same_stop HG.out.1 HG.out.2 hyy))
        clear hyy
        go_wp2_with fail
        clear c5 d5
        apply wp_region_head 12 60 (hm := by kernel_rfl) (hN := rfl)
        case h =>
          simp only [List.take_succ_cons, List.take_zero]
          iterate 10 (apply head_still rfl; (intro W hW; go_simp; (try rfl)))
          (apply head_call rfl; (intro W; go_simp; exact ⟨rfl, rfl⟩); (intro W hW; exact HR.out W hW))
          (apply head_still rfl; (intro W hW; go_simp; (try rfl)))
          refine head_nil ?_
          intro W hW hF
          replace hb := hb.trans (hW.mono hb.size)
          clear hW hF a0 a1 a2 a3 a4 a5 a0' a1' a2' a3' a4' a5' bx5 by5
          go_wp2_with fail
          go_ret
          exact ret_bool HV.out.symm hb
        case hB => kernel_rfl
        all_goals rfl
      case true =>
        obtain ⟨hik, hy1⟩ := kid_at HG.out.1
        obtain ⟨hik', hy1'⟩ := kid_at HG.out.2
        have HS := Lib.hid (same_step hik hik' HP.out (by rw [← hy1, ← hy1']; exact sameB_iff.1 hyy))
        clear hyy hy1 hy1' hik hik'
        go_wp2_with fail
        clear c5 d5
        apply wp_region_head 12 60 (hm := by kernel_rfl) (hN := rfl)
        case h =>
          simp only [List.take_succ_cons, List.take_zero]
          iterate 10 (apply head_still rfl; (intro W hW; go_simp; (try rfl)))
          (apply head_call rfl; (intro W; go_simp; exact ⟨rfl, rfl⟩); (intro W hW; exact HR.out W hW))
          (apply head_still rfl; (intro W hW; go_simp; (try rfl)))
          refine head_nil ?_
          intro W hW hF
          have HM := Lib.hid (show _ ∧ _ ∧ _ ∧ _ from ⟨Nat.le_trans hsz hW.size, hb.trans (hW.mono hb.size), hx.keep hW, hy.keep hW⟩)
          clear hW hF a0 a1 a2 a3 a4 a5 a0' a1' a2' a3' a4' a5' bx5 by5 hb hx hy hs0 hsz
          go_wp2_with fail
          go_roundw
          case rel => exact ⟨i + 1, by omega, by go_num, HS, HM.out⟩
          case measure => simp [intOf]; omega
        case hB => kernel_rfl
        all_goals rfl
    · obtain rfl : i = len := by omega
      have HV := Lib.hid (HB2.out (by have := HP.out; rwa [List.take_of_length_le (by rw [HL.out.2.1]; exact Nat.le_refl _), List.take_of_length_le (by rw [HL'.out.2]; exact Nat.le_refl _)] at this))
      have c5 := hx.val.2.2.2.2.2
      go_wp2_with fail
      go_ret
      exact ret_bool HV.out.symm hb
end Go.Proofs.YtjgampkpfjbmdaaDoor
end
section
namespace Go.Proofs.YtjgampkpfjbmdaaDoor
open Go.RowKit Go.Rel
theorem fine1 (q : Rat2) (t : Bool) (s : ByteArray) (kids : List Tree) : fineT (.node 1 q t s kids) = (decide (ratE q = 0) && (!t && (decide (s.size = 0) && decide (kids.length = 0)))) := by
  have : decide (RatOk q) = decide (ratE q = 0) := by unfold ratE; split <;> simp [*]
  unfold fineT; rw [if_pos rfl, this]
theorem fine2 (q : Rat2) (t : Bool) (s : ByteArray) (kids : List Tree) : fineT (.node 2 q t s kids) = (ratB q.n q.d 0 0 && (decide (s.size = 0) && decide (kids.length = 0))) := by
  have := ratB_iff q ⟨0, 0⟩
  unfold fineT; rw [if_neg (by omega), if_pos rfl, ← this]
theorem fine3 (q : Rat2) (t : Bool) (s : ByteArray) (kids : List Tree) : fineT (.node 3 q t s kids) = (okStr s && (ratB q.n q.d 0 0 && (!t && decide (kids.length = 0)))) := by
  have := ratB_iff q ⟨0, 0⟩
  unfold fineT; rw [if_neg (by omega), if_neg (by omega), if_pos rfl, ← this]
theorem fine4 (q : Rat2) (t : Bool) (s : ByteArray) (kids : List Tree) : fineT (.node 4 q t s kids) = (fineL kids && (ratB q.n q.d 0 0 && (!t && decide (s.size = 0)))) := by
  have := ratB_iff q ⟨0, 0⟩
  unfold fineT; rw [if_neg (by omega), if_neg (by omega), if_neg (by omega), if_pos rfl, ← this]
theorem fine_else {k : Int} (h1 : k ≠ 1) (h2 : k ≠ 2) (h3 : k ≠ 3) (h4 : k ≠ 4) (q : Rat2) (t : Bool) (s : ByteArray) (kids : List Tree) : fineT (.node k q t s kids) = false := by
  unfold fineT; rw [if_neg h1, if_neg h2, if_neg h3, if_neg h4]
theorem okByte_iff (c : UInt8) : ((32 ≤ (c.toNat : Int) ∧ (c.toNat : Int) ≤ 126) → okByte c = true) ∧ (((c.toNat : Int) < 32 ∨ 126 < (c.toNat : Int)) → okByte c = false) := by
  unfold okByte
  exact ⟨fun h => decide_eq_true (by omega), fun h => decide_eq_false (by omega)⟩
theorem all_step {α : Type} {l : List α} {p : α → Bool} {i : Nat} {c : α} (h : l[i]? = some c) (ha : (l.take i).all p = true) (hc : p c = true) : (l.take (i + 1)).all p = true := by
  obtain ⟨hi, rfl⟩ := List.getElem?_eq_some_iff.1 h
  rw [take_next hi, List.all_append, ha]; simp [hc]
theorem all_stop {α : Type} {l : List α} {p : α → Bool} {i : Nat} {c : α} (h : l[i]? = some c) (hc : p c = false) : l.all p = false := by
  obtain ⟨hi, rfl⟩ := List.getElem?_eq_some_iff.1 h
  cases ha : l.all p with
  | false => rfl
  | true => rw [List.all_eq_true.1 ha _ (List.getElem_mem hi)] at hc; cases hc
theorem len_beq (n : Nat) : (((n : Int) == 0) : Bool) = decide (n = 0) := by
  by_cases h : n = 0 <;> simp [h]
theorem two_vars (w : World) (e e' : TypeId) (x : Val) (c : Array Value) : Below w.heap.size w ((w.alloc (.cells x.box e)).alloc (.cells c e')) ∧ Blk ((w.alloc (.cells x.box e)).alloc (.cells c e')) w.heap.size e x.box ∧ Blk ((w.alloc (.cells x.box e)).alloc (.cells c e')) (w.heap.size + 1) e' c := by
  obtain ⟨h1, -, h2, h3⟩ := boxes2 w x.box c e e'
  exact ⟨h1, h2, h3⟩
set_option maxHeartbeats 2000000 in
theorem refFineW_any : ∀ (d : Nat) (T : Tree) (x : Val) (w : World), wideT T d = true → RdB w w.heap.size T x →
    Calls Tryd.prog 53 #[x.v] w (Ret w (.bool (fineT T))) := by
  intro d
  induction d with
  | zero => intro T x w h; rw [wideT_zero] at h; cases h
  | succ d ih =>
    intro T x w hf hr
    obtain ⟨kids, ys, rfl, ok, hy, hl, hrec, hk⟩ := hr.open_
    obtain ⟨e, he, hs2, h150, hkf⟩ := wideT_parts hf
    obtain rfl : d = e := by omega
    obtain ⟨k, q, t, s, A, len, cap⟩ := x
    obtain ⟨hk0, hk1, n0, n1, d0, d1, -, -, hc, -⟩ := ok
    dsimp only at hk0 hk1 hy hl hrec hc h150 hs2 n0 n1 d0 d1
    rw [hl] at h150
    have HL := Lib.hid (show _ ∧ _ ∧ _ from ⟨hy, hl, hkf⟩)
    have HK := Lib.hid (show _ ∧ _ from ⟨hrec, hk⟩)
    have HB := Lib.hid (two_vars w 26 23 ⟨k, q, t, s, A, len, cap⟩ #[.int .i64 0, .int .i64 0])
    have neq := ratNeq
    have eql := ratEql
    clear hy hl hkf hrec hk hf hr he
    dsimp only
    by_cases h1 : k = 1
    · subst h1
      have HV := Lib.hid (fine1 q t s kids)
      rw [HL.out.2.1] at HV
      generalize fineT (.node 1 q t s kids) = V at *
      obtain ⟨hb0, hblk0, hnone⟩ := HB.out
      obtain ⟨c0, c1, c2, c3, c4, c5⟩ := hblk0.val
      have z0 := hnone.cell (i := 0) rfl
      have z1 := hnone.cell (i := 1) rfl
      clear ih HL HK
      go_enter Tryd.func53, Tryd.ntmps53
      go_wp2_with fail
      refine (refRatCheck_any q _ n0 n1 d0 d1).mono ?_
      rintro e w2 ⟨rfl, hb2⟩
      have HM := Lib.hid (hb0.trans (hb2.mono hb0.size))
      obtain ⟨e0, e1, e2, e3, e4, e5⟩ := (hblk0.keep hb2).val
      clear hb0 hb2 hblk0 c0 c1 c2 c3 c4 c5
      go_wp2_with fail
      all_goals (go_ret; exact ret_bool (by rw [HV.out]; simp [*, len_beq]) HM.out)
    by_cases h2 : k = 2
    · subst h2
      have HV := Lib.hid (fine2 q t s kids)
      rw [HL.out.2.1] at HV
      generalize fineT (.node 2 q t s kids) = V at *
      obtain ⟨hb0, hblk0, hnone⟩ := HB.out
      obtain ⟨c0, c1, c2, c3, c4, c5⟩ := hblk0.val
      have z0 := hnone.cell (i := 0) rfl
      have z1 := hnone.cell (i := 1) rfl
      clear ih HL HK
      go_enter Tryd.func53, Tryd.ntmps53
      go_wp2_with fail
      all_goals (go_ret; exact ret_bool (by rw [HV.out]; simp [*, len_beq]) ((below_alloc _ _).alloc (by simp) _))
    by_cases h3 : k = 3
    · subst h3
      have HV := Lib.hid (fine3 q t s kids)
      rw [HL.out.2.1] at HV
      generalize fineT (.node 3 q t s kids) = V at *
      by_cases hc : ratB q.n q.d 0 0 = true ∧ t = false ∧ len = 0 ∧ s.size ≤ 60
      case neg =>
        have HC := Lib.hid hc
        have hV : V = false := by
          rw [HV.out]
          cases hv : (okStr s && (ratB q.n q.d 0 0 && (!t && decide (len = 0))))
          · rfl
          · exfalso; apply hc
            simp only [okStr, Bool.and_eq_true, decide_eq_true_eq, Bool.not_eq_true'] at hv
            exact ⟨hv.2.1, hv.2.2.1, hv.2.2.2, hv.1.1⟩
        have HF := Lib.hid hV
        obtain ⟨hb0, hblk0, hnone⟩ := HB.out
        obtain ⟨c0, c1, c2, c3, c4, c5⟩ := hblk0.val
        have z0 := hnone.cell (i := 0) rfl
        have z1 := hnone.cell (i := 1) rfl
        clear ih HL HK HV hV hc
        go_enter Tryd.func53, Tryd.ntmps53
        go_wp2_with fail
        all_goals first
          | (go_ret; exact ret_bool (by rw [HF.out]) ((below_alloc _ _).alloc (by simp) _))
          | (exfalso; apply HC.out; simp_all; try omega)
      obtain ⟨q1, rfl, rfl, hs6⟩ := hc
      have HW := Lib.hid (show V = s.data.toList.all okByte by rw [HV.out, q1]; simp [okStr, hs6])
      clear HV
      obtain ⟨hb0, hblk0, hnone⟩ := HB.out
      obtain ⟨c0, c1, c2, c3, c4, c5⟩ := hblk0.val
      have z0 := hnone.cell (i := 0) rfl
      have z1 := hnone.cell (i := 1) rfl
      clear ih HL HK
      go_enter Tryd.func53, Tryd.ntmps53
      go_wp2_with fail
      clear c0 c1 c2 c3 c5 z0 z1 hnone
      generalize World.alloc _ _ = w0 at hb0 hblk0 c4 ⊢
      go_loop [4] (fun iv => ∃ i : Nat, i ≤ s.size ∧ iv = .int .i64 i ∧ Hid ((s.data.toList.take i).all okByte = true)) (fun iv => s.size - (intOf iv).toNat)
      case atStart => exact ⟨0, Nat.zero_le _, rfl, rfl⟩
      case round =>
        obtain ⟨i, hi, rfl, HA⟩ := hrel
        by_cases hlt : i < s.size
        · have hgi : s.data.toList[i]? = some (s[i]'hlt) := by rw [List.getElem?_eq_getElem (by simpa using hlt)]; rfl
          have hall := all_step hgi HA.out
          have hstop := all_stop (p := okByte) hgi
          have hok := okByte_iff (s[i]'hlt)
          have HS := Lib.hid (show _ ∧ _ ∧ _ from ⟨hok, hall, hstop⟩)
          clear hok hall hstop hgi
          go_wp2_with fail
          all_goals first
            | (go_ret; exact ret_bool (by rw [HW.out]; symm; exact HS.out.2.2 (HS.out.1.2 (by omega))) hb0)
            | (go_round
               case rel => exact ⟨i + 1, by omega, by go_num, HS.out.2.1 (HS.out.1.1 (by omega))⟩
               case measure => simp [intOf]; omega)
        · obtain rfl : i = s.size := by omega
          have HT := Lib.hid (show V = true by rw [HW.out]; have := HA.out; rwa [List.take_of_length_le (by simp)] at this)
          go_wp2_with fail
          go_ret
          exact ret_bool HT.out.symm hb0
    by_cases h4 : k = 4
    · subst h4
      have HV := Lib.hid (fine4 q t s kids)
      generalize fineT (.node 4 q t s kids) = V at *
      by_cases hc : ratB q.n q.d 0 0 = true ∧ t = false ∧ s.size = 0
      case neg =>
        have HC := Lib.hid hc
        have hV : V = false := by
          rw [HV.out]
          cases hv : (fineL kids && (ratB q.n q.d 0 0 && (!t && decide (s.size = 0))))
          · rfl
          · exfalso; apply hc
            simp only [Bool.and_eq_true, decide_eq_true_eq, Bool.not_eq_true'] at hv
            exact ⟨hv.2.1, hv.2.2.1, hv.2.2.2⟩
        have HF := Lib.hid hV
        obtain ⟨hb0, hblk0, hnone⟩ := HB.out
        obtain ⟨c0, c1, c2, c3, c4, c5⟩ := hblk0.val
        have z0 := hnone.cell (i := 0) rfl
        have z1 := hnone.cell (i := 1) rfl
        clear ih HL HK HV hV hc
        go_enter Tryd.func53, Tryd.ntmps53
        go_wp2_with fail
        all_goals first
          | (go_ret; exact ret_bool (by rw [HF.out]) ((below_alloc _ _).alloc (by simp) _))
          | (exfalso; apply HC.out; simp_all; try omega)
      obtain ⟨q1, rfl, hs0⟩ := hc
      have HW := Lib.hid (show V = fineL kids by rw [HV.out, q1, hs0]; simp)
      have q2 : decide (0 < s.size) = false := by rw [hs0]; rfl
      clear HV
      obtain ⟨hb0, hblk0, hnone⟩ := HB.out
      obtain ⟨c0, c1, c2, c3, c4, c5⟩ := hblk0.val
      have z0 := hnone.cell (i := 0) rfl
      have z1 := hnone.cell (i := 1) rfl
      have HS0 := Lib.hid hs0
      clear hs0
      go_enter Tryd.func53, Tryd.ntmps53
      go_wp2_with fail
      clear c0 c1 c2 c3 c4 c5 z0 z1 hnone q2 hblk0 hb0
      have hw0 := two_vars w 26 23 ⟨4, q, false, s, A, len, cap⟩ #[.int .i64 0, .int .i64 0]
      generalize World.alloc _ _ = w0 at hw0 ⊢
      obtain ⟨hb0, hblk0, -⟩ := hw0
      go_loopw [5] (fun iv wr => ∃ i : Nat, i ≤ len ∧ iv = .int .i64 i ∧ Hid (fineL (kids.take i) = true) ∧ Below w.heap.size w wr ∧ Blk wr w.heap.size 26 (Val.box ⟨4, q, false, s, A, len, cap⟩)) (fun iv _ => len - (intOf iv).toNat)
      case atStart => exact ⟨0, Nat.zero_le _, rfl, rfl, hb0, hblk0⟩
      case round =>
        clear hb0 hblk0 HB
        obtain ⟨i, hi, rfl, HF, hb, hblk⟩ := hrel
        obtain ⟨c0, c1, c2, c3, c4, c5⟩ := hblk.val
        by_cases hlt : i < len
        · obtain ⟨b, off, u, y, rfl, hB, g1, g2, hru, e0, e1, e2, e3, e4, e5⟩ := val_at HL.out.1 HL.out.2.1 HK.out.1 HK.out.2 hlt
          rw [← hb.cell (p := ⟨b, _, none⟩) hB] at e0 e1 e2 e3 e4 e5
          obtain ⟨hik, hy⟩ := kid_at g1
          have hstep := fineL_take hik
          have hno := fineL_false hik
          rw [← hy, HF.out] at hstep
          rw [← hy] at hno
          have HR := Lib.hid (ih y u wr (HL.out.2.2 _ (List.mem_of_getElem? g1)) (hru.in_ hb hb.size))
          clear g1 g2 hru hy
          cases hfy : fineT y
          · rw [hfy] at HR
            have HV := Lib.hid (show V = false by rw [HW.out]; exact hno hfy)
            clear hstep hno hfy
            go_wp2_with fail
            refine (HR.out).mono ?_
            rintro e w2 ⟨rfl, hb2⟩
            have HM := Lib.hid (hb.trans (hb2.mono hb.size))
            clear hb hb2 c0 c1 c2 c3 c4 c5 e0 e1 e2 e3 e4 e5
            go_wp2_with fail
            go_ret
            exact ret_bool HV.out.symm HM.out
          · rw [hfy] at HR hstep
            have HS := Lib.hid hstep
            clear hstep hno hfy
            go_wp2_with fail
            refine (HR.out).mono ?_
            rintro e w2 ⟨rfl, hb2⟩
            have HM := Lib.hid (show _ ∧ _ from ⟨hb.trans (hb2.mono hb.size), hblk.keep hb2⟩)
            clear hb hb2 c0 c1 c2 c3 c4 c5 e0 e1 e2 e3 e4 e5 hblk
            go_wp2_with fail
            go_roundw
            case rel => exact ⟨i + 1, by omega, by go_num, HS, HM.out⟩
            case measure => simp [intOf]; omega
        · obtain rfl : i = len := by omega
          have HT := Lib.hid (show V = true by rw [HW.out]; have := HF.out; rwa [List.take_of_length_le (by rw [HL.out.2.1]; exact Nat.le_refl _)] at this)
          go_wp2_with fail
          go_ret
          exact ret_bool HT.out.symm hb
    have HV := Lib.hid (fine_else h1 h2 h3 h4 q t s kids)
    have q1 : (k == 1) = false := by simpa using h1
    have q2 : (k == 2) = false := by simpa using h2
    have q3 : (k == 3) = false := by simpa using h3
    have q4 : (k == 4) = false := by simpa using h4
    obtain ⟨hb0, hblk0, hnone⟩ := HB.out
    obtain ⟨c0, c1, c2, c3, c4, c5⟩ := hblk0.val
    clear ih HL HK h1 h2 h3 h4
    go_enter Tryd.func53, Tryd.ntmps53
    go_wp2_with fail
    go_ret
    exact ret_bool HV.out.symm hb0
theorem refFine_any : ∀ (d : Nat) (T : Tree) (x : Val) (w : World), fitT T d = true → RdB w w.heap.size T x →
    Calls Tryd.prog 53 #[x.v] w (Ret w (.bool (fineT T))) :=
  fun d T x w h2 h3 => refFineW_any d T x w (fit_wide h2) h3

end Go.Proofs.YtjgampkpfjbmdaaDoor
end
