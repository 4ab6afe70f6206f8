/- Same on both sides. -/
import Derived.Test.YtjgampkpfjbmdaaValA
import Derived.Test.YtjgampkpfjbmdaaRatEq
namespace Go.Rel
open Go.RowKit
open Classical in
/-- Two trees are one. -/
noncomputable def sameB (T U : Tree) : Bool := decide (T = U)
theorem sameB_iff {T U : Tree} : sameB T U = true ↔ T = U := by unfold sameB; simp
theorem sameB_self (T : Tree) : sameB T T = true := sameB_iff.2 rfl
theorem sameB_no {T U : Tree} (h : T ≠ U) : sameB T U = false := by
  cases hs : sameB T U with
  | false => rfl
  | true => exact absurd (sameB_iff.1 hs) h
theorem str_neq {s s' : ByteArray} (h : s ≠ s') : (s.toList == s'.toList) = false := by
  rw [beq_eq_false_iff_ne, Lib.toList_data, Lib.toList_data]
  intro e
  apply h
  cases s; cases s'
  simp only [ByteArray.mk.injEq]
  exact Array.ext' e
/-- What two values of one shape still ask. -/
theorem same_step {kids kids' : List Tree} {i : Nat} (hi : i < kids.length) (hi' : i < kids'.length) (h : kids.take i = kids'.take i) (he : kids[i] = kids'[i]) : kids.take (i + 1) = kids'.take (i + 1) := by
  rw [take_next hi, take_next hi', h, he]
theorem same_stop {kids kids' : List Tree} {i : Nat} {y y' : Tree} (hy : kids[i]? = some y) (hy' : kids'[i]? = some y') (h : sameB y y' = false) : kids ≠ kids' := by
  intro e
  subst e
  rw [hy] at hy'
  injection hy' with e
  subst e
  rw [sameB_self] at h
  cases h
theorem two_boxes (w : World) (e : TypeId) (x y : Val) : Below w.heap.size w ((w.alloc (.cells x.box e)).alloc (.cells y.box e)) ∧ ((w.alloc (.cells x.box e)).alloc (.cells y.box e)).heap.size = w.heap.size + 1 + 1 ∧ Blk ((w.alloc (.cells x.box e)).alloc (.cells y.box e)) w.heap.size e x.box ∧ Blk ((w.alloc (.cells x.box e)).alloc (.cells y.box e)) (w.heap.size + 1) e y.box := boxes2 w x.box y.box e e
end Go.Rel
namespace Go.Proofs.Ytjgampkpfjbmdaa
open Go.RowKit Go.Rel

set_option maxHeartbeats 4000000 in
theorem refSame_any : ∀ (d : Nat) (T U : Tree) (x y : Val) (w : World), fitT T d = true → RdB w w.heap.size T x → RdB w w.heap.size U y →
    Calls Try.prog 15 #[x.v, y.v] w (Ret w (.bool (sameB T U))) := by
  intro d
  induction d with
  | zero => intro T U x y w h; rw [fitT_zero] at h; cases h
  | succ d ih =>
  intro T U x y w hf hr hr'
  obtain ⟨kids, ys, rfl, ok, hy, hl, hrec, hk⟩ := hr.open_
  obtain ⟨kids', ys', rfl, ok', hy', hl', hrec', hk'⟩ := hr'.open_
  obtain ⟨e, he, -, h150, hkf⟩ := fitT_parts hf
  obtain rfl : d = e := by omega
  obtain ⟨k, q, t, s, A, len, cap⟩ := x
  obtain ⟨k', q', t', s', A', len', cap'⟩ := y
  obtain ⟨hk0, hk1, -, -, -, -, hs, -, hc, -⟩ := ok
  obtain ⟨hk0', hk1', -, -, -, -, hs', hlc', hc', -⟩ := ok'
  dsimp only at hk0 hk1 hy hl hrec hc h150 hs hk0' hk1' hy' hl' hrec' hc' hs' hlc'
  rw [hl] at h150
  dsimp only
  have HL := Lib.hid (show _ ∧ _ ∧ _ from ⟨hy, hl, hkf⟩)
  have HK := Lib.hid (show _ ∧ _ from ⟨hrec, hk⟩)
  have HL' := Lib.hid (show _ ∧ _ from ⟨hy', hl'⟩)
  have HK' := Lib.hid (show _ ∧ _ from ⟨hrec', hk'⟩)
  have HB := Lib.hid (two_boxes w 26 ⟨k, q, t, s, A, len, cap⟩ ⟨k', q', t', s', A', len', cap'⟩)
  have neq := ratNeq
  clear hy hl hkf hrec hk hf hr he hy' hl' hrec' hk' hr' 
  by_cases hkk : k = k'
  case neg =>
    have HV := Lib.hid (sameB_no (T := .node k q t s kids) (U := .node k' q' t' s' kids') (by intro e; injection e; contradiction))
    have f1 : ((k : Int) != k') = true := by simpa using hkk
    clear hkk ih neq
    obtain ⟨hb0, -, hx, hy⟩ := HB.out
    obtain ⟨c0, c1, c2, c3, c4, c5⟩ := hx.val
    obtain ⟨d0, d1, d2, d3, d4, d5⟩ := hy.val
    clear hx hy HB HL HK HL' HK'
    go_enter Try.func15, Try.ntmps15
    go_wp2_with fail
    go_ret
    exact ret_bool HV.out.symm hb0
  subst hkk
  by_cases hqq : q = q'
  case neg =>
    have HV := Lib.hid (sameB_no (T := .node k q t s kids) (U := .node k q' t' s' kids') (by intro e; injection e; contradiction))
    have f1 : ratB q.n q.d q'.n q'.d = false := by rw [ratB_iff]; exact decide_eq_false hqq
    clear hqq ih
    obtain ⟨hb0, -, hx, hy⟩ := HB.out
    obtain ⟨c0, c1, c2, c3, c4, c5⟩ := hx.val
    obtain ⟨d0, d1, d2, d3, d4, d5⟩ := hy.val
    clear hx hy HB HL HK HL' HK'
    go_enter Try.func15, Try.ntmps15
    go_wp2_with fail
    go_ret
    exact ret_bool HV.out.symm hb0
  subst hqq
  have f1 := ratB_self q.n q.d
  by_cases htt : t = t'
  case neg =>
    have HV := Lib.hid (sameB_no (T := .node k q t s kids) (U := .node k q t' s' kids') (by intro e; injection e; contradiction))
    have f2 : (t == t') = false := by simpa using htt
    clear htt ih
    obtain ⟨hb0, -, hx, hy⟩ := HB.out
    obtain ⟨c0, c1, c2, c3, c4, c5⟩ := hx.val
    obtain ⟨d0, d1, d2, d3, d4, d5⟩ := hy.val
    clear hx hy HB HL HK HL' HK'
    go_enter Try.func15, Try.ntmps15
    go_wp2_with fail
    go_ret
    exact ret_bool HV.out.symm hb0
  subst htt
  by_cases hss : s = s'
  case neg =>
    have HV := Lib.hid (sameB_no (T := .node k q t s kids) (U := .node k q t s' kids') (by intro e; injection e; contradiction))
    have f2 := str_neq hss
    clear hss ih
    obtain ⟨hb0, -, hx, hy⟩ := HB.out
    obtain ⟨c0, c1, c2, c3, c4, c5⟩ := hx.val
    obtain ⟨d0, d1, d2, d3, d4, d5⟩ := hy.val
    clear hx hy HB HL HK HL' HK'
    go_enter Try.func15, Try.ntmps15
    go_wp2_with fail
    go_ret
    exact ret_bool HV.out.symm hb0
  subst hss
  by_cases hll : len = len'
  case neg =>
    have HV := Lib.hid (sameB_no (T := .node k q t s kids) (U := .node k q t s kids') (by intro e; injection e; rename_i h5; apply hll; rw [← HL.out.2.1, ← HL'.out.2, h5]))
    have f2 : ((len : Int) != (len' : Int)) = true := by simp; omega
    clear hll ih
    obtain ⟨hb0, -, hx, hy⟩ := HB.out
    obtain ⟨c0, c1, c2, c3, c4, c5⟩ := hx.val
    obtain ⟨d0, d1, d2, d3, d4, d5⟩ := hy.val
    clear hx hy HB HL HK HL' HK'
    go_enter Try.func15, Try.ntmps15
    go_wp2_with fail
    go_ret
    exact ret_bool HV.out.symm hb0
  subst hll
  have HB1 := Lib.hid (fun (h : kids ≠ kids') => sameB_no (T := .node k q t s kids) (U := .node k q t s kids') (by intro e; injection e; contradiction))
  have HB2 := Lib.hid (fun (h : kids = kids') => (show sameB (.node k q t s kids) (.node k q t s kids') = true by rw [h]; exact sameB_self _))
  generalize sameB (.node k q t s kids) (.node k q t s kids') = V at *
  go_enter Try.func15, Try.ntmps15
  obtain ⟨hb0, hz, hx, hy⟩ := HB.out
  obtain ⟨c0, c1, c2, c3, c4, c5⟩ := hx.val
  obtain ⟨d0, d1, d2, d3, d4, d5⟩ := hy.val
  have HZ := Lib.hid hz
  clear hz HB
  go_wp2_with fail
  clear c0 c1 c2 c3 c4 c5 d0 d1 d2 d3 d4 d5
  generalize World.alloc _ _ = w0 at hb0 hx hy HZ ⊢
  go_loopw [5] (fun iv wr => ∃ i : Nat, i ≤ len ∧ iv = .int .i64 i ∧ Hid (kids.take i = kids'.take i) ∧ w.heap.size + 1 + 1 ≤ wr.heap.size ∧ Below w.heap.size w wr ∧ Blk wr w.heap.size 26 (Val.box ⟨k, q, t, s, A, len, cap⟩) ∧ Blk wr (w.heap.size + 1) 26 (Val.box ⟨k, q, t, s, A', len, cap'⟩)) (fun iv _ => len - (intOf iv).toNat)
  case atStart => exact ⟨0, Nat.zero_le _, rfl, rfl, Nat.le_of_eq HZ.out.symm, hb0, hx, hy⟩
  case round =>
    clear hb0 hx hy HZ f1 neq
    obtain ⟨i, hi, rfl, HP, hsz, hb, hx, hy⟩ := hrel
    by_cases hlt : i < len
    · obtain ⟨b, off, u, y, rfl, hB, g1, g2, hru, e0, e1, e2, e3, e4, e5⟩ := val_at HL.out.1 HL.out.2.1 HK.out.1 HK.out.2 hlt
      obtain ⟨b', off', u', y', rfl, hB', g1', g2', hru', e0', e1', e2', e3', e4', e5'⟩ := val_at HL'.out.1 HL'.out.2 HK'.out.1 HK'.out.2 hlt
      have hs0 := hb.size
      have a0 : ∀ W, Below wr.heap.size wr W → W.cell? ⟨b, off + i * 6, none⟩ = some (.int .u8 u.k) := fun W hW => (hW.cell (p := ⟨b, off + i * 6, none⟩) (by simp only; omega)).trans ((hb.cell (p := ⟨b, off + i * 6, none⟩) hB).trans e0)
      have a1 : ∀ W, Below wr.heap.size wr W → W.cell? ⟨b, off + i * 6 + 1, none⟩ = some (.int .i64 u.q.n) := fun W hW => (hW.cell (p := ⟨b, off + i * 6 + 1, none⟩) (by simp only; omega)).trans ((hb.cell (p := ⟨b, off + i * 6 + 1, none⟩) hB).trans e1)
      have a2 : ∀ W, Below wr.heap.size wr W → W.cell? ⟨b, off + i * 6 + 2, none⟩ = some (.int .i64 u.q.d) := fun W hW => (hW.cell (p := ⟨b, off + i * 6 + 2, none⟩) (by simp only; omega)).trans ((hb.cell (p := ⟨b, off + i * 6 + 2, none⟩) hB).trans e2)
      have a3 : ∀ W, Below wr.heap.size wr W → W.cell? ⟨b, off + i * 6 + 3, none⟩ = some (.bool u.t) := fun W hW => (hW.cell (p := ⟨b, off + i * 6 + 3, none⟩) (by simp only; omega)).trans ((hb.cell (p := ⟨b, off + i * 6 + 3, none⟩) hB).trans e3)
      have a4 : ∀ W, Below wr.heap.size wr W → W.cell? ⟨b, off + i * 6 + 4, none⟩ = some (.string u.s) := fun W hW => (hW.cell (p := ⟨b, off + i * 6 + 4, none⟩) (by simp only; omega)).trans ((hb.cell (p := ⟨b, off + i * 6 + 4, none⟩) hB).trans e4)
      have a5 : ∀ W, Below wr.heap.size wr W → W.cell? ⟨b, off + i * 6 + 5, none⟩ = some (.slice u.A u.len u.cap) := fun W hW => (hW.cell (p := ⟨b, off + i * 6 + 5, none⟩) (by simp only; omega)).trans ((hb.cell (p := ⟨b, off + i * 6 + 5, none⟩) hB).trans e5)
      have a0' : ∀ W, Below wr.heap.size wr W → W.cell? ⟨b', off' + i * 6, none⟩ = some (.int .u8 u'.k) := fun W hW => (hW.cell (p := ⟨b', off' + i * 6, none⟩) (by simp only; omega)).trans ((hb.cell (p := ⟨b', off' + i * 6, none⟩) hB').trans e0')
      have a1' : ∀ W, Below wr.heap.size wr W → W.cell? ⟨b', off' + i * 6 + 1, none⟩ = some (.int .i64 u'.q.n) := fun W hW => (hW.cell (p := ⟨b', off' + i * 6 + 1, none⟩) (by simp only; omega)).trans ((hb.cell (p := ⟨b', off' + i * 6 + 1, none⟩) hB').trans e1')
      have a2' : ∀ W, Below wr.heap.size wr W → W.cell? ⟨b', off' + i * 6 + 2, none⟩ = some (.int .i64 u'.q.d) := fun W hW => (hW.cell (p := ⟨b', off' + i * 6 + 2, none⟩) (by simp only; omega)).trans ((hb.cell (p := ⟨b', off' + i * 6 + 2, none⟩) hB').trans e2')
      have a3' : ∀ W, Below wr.heap.size wr W → W.cell? ⟨b', off' + i * 6 + 3, none⟩ = some (.bool u'.t) := fun W hW => (hW.cell (p := ⟨b', off' + i * 6 + 3, none⟩) (by simp only; omega)).trans ((hb.cell (p := ⟨b', off' + i * 6 + 3, none⟩) hB').trans e3')
      have a4' : ∀ W, Below wr.heap.size wr W → W.cell? ⟨b', off' + i * 6 + 4, none⟩ = some (.string u'.s) := fun W hW => (hW.cell (p := ⟨b', off' + i * 6 + 4, none⟩) (by simp only; omega)).trans ((hb.cell (p := ⟨b', off' + i * 6 + 4, none⟩) hB').trans e4')
      have a5' : ∀ W, Below wr.heap.size wr W → W.cell? ⟨b', off' + i * 6 + 5, none⟩ = some (.slice u'.A u'.len u'.cap) := fun W hW => (hW.cell (p := ⟨b', off' + i * 6 + 5, none⟩) (by simp only; omega)).trans ((hb.cell (p := ⟨b', off' + i * 6 + 5, none⟩) hB').trans e5')
      have bx5 : ∀ W, Below wr.heap.size wr W → W.cell? ⟨w.heap.size, 5, none⟩ = some (.slice (some ⟨b, off, none⟩) len cap) := fun W hW => (hx.keep hW).cell rfl
      have by5 : ∀ W, Below wr.heap.size wr W → W.cell? ⟨w.heap.size + 1, 5, none⟩ = some (.slice (some ⟨b', off', none⟩) len cap') := fun W hW => (hy.keep hW).cell rfl
      have hlt2 : (i : Int) < len := by omega
      have HR := Lib.hid (fun W (hW : Below wr.heap.size wr W) => ih y y' u u' W (HL.out.2.2 _ (List.mem_of_getElem? g1)) (hru.in_ (hb.trans (hW.mono hb.size)) (Nat.le_trans hb.size hW.size)) (hru'.in_ (hb.trans (hW.mono hb.size)) (Nat.le_trans hb.size hW.size)))
      have HG := Lib.hid (show _ ∧ _ from ⟨g1, g1'⟩)
      clear e0 e1 e2 e3 e4 e5 e0' e1' e2' e3' e4' e5' g1 g2 g1' g2' hru hru'
      have c5 := bx5 wr (Below.refl _ _)
      have d5 := by5 wr (Below.refl _ _)
      cases hyy : sameB y y'
      all_goals
        rw [hyy] at HR
      case false =>
        have HV := Lib.hid (HB1.out (same_stop HG.out.1 HG.out.2 hyy))
        clear hyy
        go_wp2_with fail
        clear c5 d5
        apply wp_region_head 12 60 (hm := by kernel_rfl) (hN := rfl)
        case h =>
          simp only [List.take_succ_cons, List.take_zero]
          iterate 10 (apply head_still rfl; (intro W hW; go_simp; (try rfl)))
          (apply head_call rfl; (intro W; go_simp; exact ⟨rfl, rfl⟩); (intro W hW; exact HR.out W hW))
          (apply head_still rfl; (intro W hW; go_simp; (try rfl)))
          refine head_nil ?_
          intro W hW hF
          replace hb := hb.trans (hW.mono hb.size)
          clear hW hF a0 a1 a2 a3 a4 a5 a0' a1' a2' a3' a4' a5' bx5 by5
          go_wp2_with fail
          go_ret
          exact ret_bool HV.out.symm hb
        case hB => kernel_rfl
        all_goals rfl
      case true =>
        obtain ⟨hik, hy1⟩ := kid_at HG.out.1
        obtain ⟨hik', hy1'⟩ := kid_at HG.out.2
        have HS := Lib.hid (same_step hik hik' HP.out (by rw [← hy1, ← hy1']; exact sameB_iff.1 hyy))
        clear hyy hy1 hy1' hik hik'
        go_wp2_with fail
        clear c5 d5
        apply wp_region_head 12 60 (hm := by kernel_rfl) (hN := rfl)
        case h =>
          simp only [List.take_succ_cons, List.take_zero]
          iterate 10 (apply head_still rfl; (intro W hW; go_simp; (try rfl)))
          (apply head_call rfl; (intro W; go_simp; exact ⟨rfl, rfl⟩); (intro W hW; exact HR.out W hW))
          (apply head_still rfl; (intro W hW; go_simp; (try rfl)))
          refine head_nil ?_
          intro W hW hF
          have HM := Lib.hid (show _ ∧ _ ∧ _ ∧ _ from ⟨Nat.le_trans hsz hW.size, hb.trans (hW.mono hb.size), hx.keep hW, hy.keep hW⟩)
          clear hW hF a0 a1 a2 a3 a4 a5 a0' a1' a2' a3' a4' a5' bx5 by5 hb hx hy hs0 hsz
          go_wp2_with fail
          go_roundw
          case rel => exact ⟨i + 1, by omega, by go_num, HS, HM.out⟩
          case measure => simp [intOf]; omega
        case hB => kernel_rfl
        all_goals rfl
    · obtain rfl : i = len := by omega
      have HV := Lib.hid (HB2.out (by have := HP.out; rwa [List.take_of_length_le (by rw [HL.out.2.1]; exact Nat.le_refl _), List.take_of_length_le (by rw [HL'.out.2]; exact Nat.le_refl _)] at this))
      have c5 := hx.val.2.2.2.2.2
      go_wp2_with fail
      go_ret
      exact ret_bool HV.out.symm hb

set_option maxHeartbeats 4000000 in
theorem same_any : ∀ (d : Nat) (T U : Tree) (x y : Val) (w : World), fitT T d = true → RdB w w.heap.size T x → RdB w w.heap.size U y →
    Calls Try.prog 14 #[x.v, y.v] w (Ret w (.bool (sameB T U))) := by
  intro d
  induction d with
  | zero => intro T U x y w h; rw [fitT_zero] at h; cases h
  | succ d ih =>
  intro T U x y w hf hr hr'
  obtain ⟨kids, ys, rfl, ok, hy, hl, hrec, hk⟩ := hr.open_
  obtain ⟨kids', ys', rfl, ok', hy', hl', hrec', hk'⟩ := hr'.open_
  obtain ⟨e, he, -, h150, hkf⟩ := fitT_parts hf
  obtain rfl : d = e := by omega
  obtain ⟨k, q, t, s, A, len, cap⟩ := x
  obtain ⟨k', q', t', s', A', len', cap'⟩ := y
  obtain ⟨hk0, hk1, -, -, -, -, hs, -, hc, -⟩ := ok
  obtain ⟨hk0', hk1', -, -, -, -, hs', hlc', hc', -⟩ := ok'
  dsimp only at hk0 hk1 hy hl hrec hc h150 hs hk0' hk1' hy' hl' hrec' hc' hs' hlc'
  rw [hl] at h150
  dsimp only
  have HL := Lib.hid (show _ ∧ _ ∧ _ from ⟨hy, hl, hkf⟩)
  have HK := Lib.hid (show _ ∧ _ from ⟨hrec, hk⟩)
  have HL' := Lib.hid (show _ ∧ _ from ⟨hy', hl'⟩)
  have HK' := Lib.hid (show _ ∧ _ from ⟨hrec', hk'⟩)
  have HB := Lib.hid (two_boxes w 26 ⟨k, q, t, s, A, len, cap⟩ ⟨k', q', t', s', A', len', cap'⟩)
  have neq := ratNeq
  clear hy hl hkf hrec hk hf hr he hy' hl' hrec' hk' hr' 
  by_cases hkk : k = k'
  case neg =>
    have HV := Lib.hid (sameB_no (T := .node k q t s kids) (U := .node k' q' t' s' kids') (by intro e; injection e; contradiction))
    have f1 : ((k : Int) != k') = true := by simpa using hkk
    clear hkk ih neq
    obtain ⟨hb0, -, hx, hy⟩ := HB.out
    obtain ⟨c0, c1, c2, c3, c4, c5⟩ := hx.val
    obtain ⟨d0, d1, d2, d3, d4, d5⟩ := hy.val
    clear hx hy HB HL HK HL' HK'
    go_enter Try.func14, Try.ntmps14
    go_wp2_with fail
    go_ret
    exact ret_bool HV.out.symm hb0
  subst hkk
  by_cases hqq : q = q'
  case neg =>
    have HV := Lib.hid (sameB_no (T := .node k q t s kids) (U := .node k q' t' s' kids') (by intro e; injection e; contradiction))
    have f1 : ratB q.n q.d q'.n q'.d = false := by rw [ratB_iff]; exact decide_eq_false hqq
    clear hqq ih
    obtain ⟨hb0, -, hx, hy⟩ := HB.out
    obtain ⟨c0, c1, c2, c3, c4, c5⟩ := hx.val
    obtain ⟨d0, d1, d2, d3, d4, d5⟩ := hy.val
    clear hx hy HB HL HK HL' HK'
    go_enter Try.func14, Try.ntmps14
    go_wp2_with fail
    go_ret
    exact ret_bool HV.out.symm hb0
  subst hqq
  have f1 := ratB_self q.n q.d
  by_cases htt : t = t'
  case neg =>
    have HV := Lib.hid (sameB_no (T := .node k q t s kids) (U := .node k q t' s' kids') (by intro e; injection e; contradiction))
    have f2 : (t == t') = false := by simpa using htt
    clear htt ih
    obtain ⟨hb0, -, hx, hy⟩ := HB.out
    obtain ⟨c0, c1, c2, c3, c4, c5⟩ := hx.val
    obtain ⟨d0, d1, d2, d3, d4, d5⟩ := hy.val
    clear hx hy HB HL HK HL' HK'
    go_enter Try.func14, Try.ntmps14
    go_wp2_with fail
    go_ret
    exact ret_bool HV.out.symm hb0
  subst htt
  by_cases hss : s = s'
  case neg =>
    have HV := Lib.hid (sameB_no (T := .node k q t s kids) (U := .node k q t s' kids') (by intro e; injection e; contradiction))
    have f2 := str_neq hss
    clear hss ih
    obtain ⟨hb0, -, hx, hy⟩ := HB.out
    obtain ⟨c0, c1, c2, c3, c4, c5⟩ := hx.val
    obtain ⟨d0, d1, d2, d3, d4, d5⟩ := hy.val
    clear hx hy HB HL HK HL' HK'
    go_enter Try.func14, Try.ntmps14
    go_wp2_with fail
    go_ret
    exact ret_bool HV.out.symm hb0
  subst hss
  by_cases hll : len = len'
  case neg =>
    have HV := Lib.hid (sameB_no (T := .node k q t s kids) (U := .node k q t s kids') (by intro e; injection e; rename_i h5; apply hll; rw [← HL.out.2.1, ← HL'.out.2, h5]))
    have f2 : ((len : Int) != (len' : Int)) = true := by simp; omega
    clear hll ih
    obtain ⟨hb0, -, hx, hy⟩ := HB.out
    obtain ⟨c0, c1, c2, c3, c4, c5⟩ := hx.val
    obtain ⟨d0, d1, d2, d3, d4, d5⟩ := hy.val
    clear hx hy HB HL HK HL' HK'
    go_enter Try.func14, Try.ntmps14
    go_wp2_with fail
    go_ret
    exact ret_bool HV.out.symm hb0
  subst hll
  have HB1 := Lib.hid (fun (h : kids ≠ kids') => sameB_no (T := .node k q t s kids) (U := .node k q t s kids') (by intro e; injection e; contradiction))
  have HB2 := Lib.hid (fun (h : kids = kids') => (show sameB (.node k q t s kids) (.node k q t s kids') = true by rw [h]; exact sameB_self _))
  generalize sameB (.node k q t s kids) (.node k q t s kids') = V at *
  go_enter Try.func14, Try.ntmps14
  obtain ⟨hb0, hz, hx, hy⟩ := HB.out
  obtain ⟨c0, c1, c2, c3, c4, c5⟩ := hx.val
  obtain ⟨d0, d1, d2, d3, d4, d5⟩ := hy.val
  have HZ := Lib.hid hz
  clear hz HB
  go_wp2_with fail
  clear c0 c1 c2 c3 c4 c5 d0 d1 d2 d3 d4 d5
  generalize World.alloc _ _ = w0 at hb0 hx hy HZ ⊢
  go_loopw [44] (fun iv wr => ∃ i : Nat, i ≤ len ∧ iv = .int .i64 i ∧ Hid (kids.take i = kids'.take i) ∧ w.heap.size + 1 + 1 ≤ wr.heap.size ∧ Below w.heap.size w wr ∧ Blk wr w.heap.size 26 (Val.box ⟨k, q, t, s, A, len, cap⟩) ∧ Blk wr (w.heap.size + 1) 26 (Val.box ⟨k, q, t, s, A', len, cap'⟩)) (fun iv _ => len - (intOf iv).toNat)
  case atStart => exact ⟨0, Nat.zero_le _, rfl, rfl, Nat.le_of_eq HZ.out.symm, hb0, hx, hy⟩
  case round =>
    clear hb0 hx hy HZ f1 neq
    obtain ⟨i, hi, rfl, HP, hsz, hb, hx, hy⟩ := hrel
    by_cases hlt : i < len
    · obtain ⟨b, off, u, y, rfl, hB, g1, g2, hru, e0, e1, e2, e3, e4, e5⟩ := val_at HL.out.1 HL.out.2.1 HK.out.1 HK.out.2 hlt
      obtain ⟨b', off', u', y', rfl, hB', g1', g2', hru', e0', e1', e2', e3', e4', e5'⟩ := val_at HL'.out.1 HL'.out.2 HK'.out.1 HK'.out.2 hlt
      have hs0 := hb.size
      have a0 : ∀ W, Below wr.heap.size wr W → W.cell? ⟨b, off + i * 6, none⟩ = some (.int .u8 u.k) := fun W hW => (hW.cell (p := ⟨b, off + i * 6, none⟩) (by simp only; omega)).trans ((hb.cell (p := ⟨b, off + i * 6, none⟩) hB).trans e0)
      have a1 : ∀ W, Below wr.heap.size wr W → W.cell? ⟨b, off + i * 6 + 1, none⟩ = some (.int .i64 u.q.n) := fun W hW => (hW.cell (p := ⟨b, off + i * 6 + 1, none⟩) (by simp only; omega)).trans ((hb.cell (p := ⟨b, off + i * 6 + 1, none⟩) hB).trans e1)
      have a2 : ∀ W, Below wr.heap.size wr W → W.cell? ⟨b, off + i * 6 + 2, none⟩ = some (.int .i64 u.q.d) := fun W hW => (hW.cell (p := ⟨b, off + i * 6 + 2, none⟩) (by simp only; omega)).trans ((hb.cell (p := ⟨b, off + i * 6 + 2, none⟩) hB).trans e2)
      have a3 : ∀ W, Below wr.heap.size wr W → W.cell? ⟨b, off + i * 6 + 3, none⟩ = some (.bool u.t) := fun W hW => (hW.cell (p := ⟨b, off + i * 6 + 3, none⟩) (by simp only; omega)).trans ((hb.cell (p := ⟨b, off + i * 6 + 3, none⟩) hB).trans e3)
      have a4 : ∀ W, Below wr.heap.size wr W → W.cell? ⟨b, off + i * 6 + 4, none⟩ = some (.string u.s) := fun W hW => (hW.cell (p := ⟨b, off + i * 6 + 4, none⟩) (by simp only; omega)).trans ((hb.cell (p := ⟨b, off + i * 6 + 4, none⟩) hB).trans e4)
      have a5 : ∀ W, Below wr.heap.size wr W → W.cell? ⟨b, off + i * 6 + 5, none⟩ = some (.slice u.A u.len u.cap) := fun W hW => (hW.cell (p := ⟨b, off + i * 6 + 5, none⟩) (by simp only; omega)).trans ((hb.cell (p := ⟨b, off + i * 6 + 5, none⟩) hB).trans e5)
      have a0' : ∀ W, Below wr.heap.size wr W → W.cell? ⟨b', off' + i * 6, none⟩ = some (.int .u8 u'.k) := fun W hW => (hW.cell (p := ⟨b', off' + i * 6, none⟩) (by simp only; omega)).trans ((hb.cell (p := ⟨b', off' + i * 6, none⟩) hB').trans e0')
      have a1' : ∀ W, Below wr.heap.size wr W → W.cell? ⟨b', off' + i * 6 + 1, none⟩ = some (.int .i64 u'.q.n) := fun W hW => (hW.cell (p := ⟨b', off' + i * 6 + 1, none⟩) (by simp only; omega)).trans ((hb.cell (p := ⟨b', off' + i * 6 + 1, none⟩) hB').trans e1')
      have a2' : ∀ W, Below wr.heap.size wr W → W.cell? ⟨b', off' + i * 6 + 2, none⟩ = some (.int .i64 u'.q.d) := fun W hW => (hW.cell (p := ⟨b', off' + i * 6 + 2, none⟩) (by simp only; omega)).trans ((hb.cell (p := ⟨b', off' + i * 6 + 2, none⟩) hB').trans e2')
      have a3' : ∀ W, Below wr.heap.size wr W → W.cell? ⟨b', off' + i * 6 + 3, none⟩ = some (.bool u'.t) := fun W hW => (hW.cell (p := ⟨b', off' + i * 6 + 3, none⟩) (by simp only; omega)).trans ((hb.cell (p := ⟨b', off' + i * 6 + 3, none⟩) hB').trans e3')
      have a4' : ∀ W, Below wr.heap.size wr W → W.cell? ⟨b', off' + i * 6 + 4, none⟩ = some (.string u'.s) := fun W hW => (hW.cell (p := ⟨b', off' + i * 6 + 4, none⟩) (by simp only; omega)).trans ((hb.cell (p := ⟨b', off' + i * 6 + 4, none⟩) hB').trans e4')
      have a5' : ∀ W, Below wr.heap.size wr W → W.cell? ⟨b', off' + i * 6 + 5, none⟩ = some (.slice u'.A u'.len u'.cap) := fun W hW => (hW.cell (p := ⟨b', off' + i * 6 + 5, none⟩) (by simp only; omega)).trans ((hb.cell (p := ⟨b', off' + i * 6 + 5, none⟩) hB').trans e5')
      have bx5 : ∀ W, Below wr.heap.size wr W → W.cell? ⟨w.heap.size, 5, none⟩ = some (.slice (some ⟨b, off, none⟩) len cap) := fun W hW => (hx.keep hW).cell rfl
      have by5 : ∀ W, Below wr.heap.size wr W → W.cell? ⟨w.heap.size + 1, 5, none⟩ = some (.slice (some ⟨b', off', none⟩) len cap') := fun W hW => (hy.keep hW).cell rfl
      have hlt2 : (i : Int) < len := by omega
      have HR := Lib.hid (fun W (hW : Below wr.heap.size wr W) => ih y y' u u' W (HL.out.2.2 _ (List.mem_of_getElem? g1)) (hru.in_ (hb.trans (hW.mono hb.size)) (Nat.le_trans hb.size hW.size)) (hru'.in_ (hb.trans (hW.mono hb.size)) (Nat.le_trans hb.size hW.size)))
      have HG := Lib.hid (show _ ∧ _ from ⟨g1, g1'⟩)
      clear e0 e1 e2 e3 e4 e5 e0' e1' e2' e3' e4' e5' g1 g2 g1' g2' hru hru'
      have c5 := bx5 wr (Below.refl _ _)
      have d5 := by5 wr (Below.refl _ _)
      cases hyy : sameB y y'
      all_goals
        rw [hyy] at HR
      case false =>
        have HV := Lib.hid (HB1.out (same_stop HG.out.1 HG.out.2 hyy))
        clear hyy
        go_wp2_with fail
        clear c5 d5
        apply wp_region_head 12 60 (hm := by kernel_rfl) (hN := rfl)
        case h =>
          simp only [List.take_succ_cons, List.take_zero]
          iterate 10 (apply head_still rfl; (intro W hW; go_simp; (try rfl)))
          (apply head_call rfl; (intro W; go_simp; exact ⟨rfl, rfl⟩); (intro W hW; exact HR.out W hW))
          (apply head_still rfl; (intro W hW; go_simp; (try rfl)))
          refine head_nil ?_
          intro W hW hF
          replace hb := hb.trans (hW.mono hb.size)
          clear hW hF a0 a1 a2 a3 a4 a5 a0' a1' a2' a3' a4' a5' bx5 by5
          go_wp2_with fail
          go_ret
          exact ret_bool HV.out.symm hb
        case hB => kernel_rfl
        all_goals rfl
      case true =>
        obtain ⟨hik, hy1⟩ := kid_at HG.out.1
        obtain ⟨hik', hy1'⟩ := kid_at HG.out.2
        have HS := Lib.hid (same_step hik hik' HP.out (by rw [← hy1, ← hy1']; exact sameB_iff.1 hyy))
        clear hyy hy1 hy1' hik hik'
        go_wp2_with fail
        clear c5 d5
        apply wp_region_head 12 60 (hm := by kernel_rfl) (hN := rfl)
        case h =>
          simp only [List.take_succ_cons, List.take_zero]
          iterate 10 (apply head_still rfl; (intro W hW; go_simp; (try rfl)))
          (apply head_call rfl; (intro W; go_simp; exact ⟨rfl, rfl⟩); (intro W hW; exact HR.out W hW))
          (apply head_still rfl; (intro W hW; go_simp; (try rfl)))
          refine head_nil ?_
          intro W hW hF
          have HM := Lib.hid (show _ ∧ _ ∧ _ ∧ _ from ⟨Nat.le_trans hsz hW.size, hb.trans (hW.mono hb.size), hx.keep hW, hy.keep hW⟩)
          clear hW hF a0 a1 a2 a3 a4 a5 a0' a1' a2' a3' a4' a5' bx5 by5 hb hx hy hs0 hsz
          go_wp2_with fail
          go_roundw
          case rel => exact ⟨i + 1, by omega, by go_num, HS, HM.out⟩
          case measure => simp [intOf]; omega
        case hB => kernel_rfl
        all_goals rfl
    · obtain rfl : i = len := by omega
      have HV := Lib.hid (HB2.out (by have := HP.out; rwa [List.take_of_length_le (by rw [HL.out.2.1]; exact Nat.le_refl _), List.take_of_length_le (by rw [HL'.out.2]; exact Nat.le_refl _)] at this))
      have c5 := hx.val.2.2.2.2.2
      go_wp2_with fail
      go_ret
      exact ret_bool HV.out.symm hb
end Go.Proofs.Ytjgampkpfjbmdaa
