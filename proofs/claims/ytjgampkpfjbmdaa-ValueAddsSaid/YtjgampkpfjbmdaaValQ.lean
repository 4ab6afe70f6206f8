/- Comparison on both sides. -/
import Derived.Test.YtjgampkpfjbmdaaValP
import Derived.Test.YtjgampkpfjbmdaaShelf
namespace Go.Proofs.Ytjgampkpfjbmdaa
open Go.RowKit Go.Rel

attribute [local irreducible] Go.Rel.Gives in
set_option maxRecDepth 100000 in
set_option maxHeartbeats 8000000 in
theorem refOrd_any : ∀ (d : Nat) (T U : Tree) (x y : Val) (w : World), fitT T d = true → fineT T = true → fineT U = true → RdB w w.heap.size T x → RdB w w.heap.size U y →
    Calls Try.prog 35 #[x.v, y.v] w (Ret w (.tuple #[.int .i64 (ordT T U).1, .int .i64 (ordT T U).2])) := by
  intro d
  induction d with
  | zero => intro T U x y w h; rw [fitT_zero] at h; cases h
  | succ d ih =>
  intro T U x y w hf hfi hfi' hr hr'
  obtain ⟨kids, ys, rfl, ok, hy1, hl, hrec, hk⟩ := hr.open_
  obtain ⟨kids', ys', rfl, ok', hy1', hl', hrec', hk'⟩ := hr'.open_
  obtain ⟨e, he, -, h150, hkf⟩ := fitT_parts hf
  obtain rfl : d = e := by omega
  obtain ⟨k, q, t, s, A, len, cap⟩ := x
  obtain ⟨k', q', t', s', A', len', cap'⟩ := y
  obtain ⟨hk0, hk1, n0, n1, m0, m1, hs, -, hc, -⟩ := ok
  obtain ⟨hk0', hk1', n0', n1', m0', m1', hs', hlc', hc', -⟩ := ok'
  dsimp only at hk0 hk1 hy1 hl hrec hc h150 hs hk0' hk1' hy1' hl' hrec' hc' hs' hlc' n0 n1 m0 m1 n0' n1' m0' m1' hfi hfi'
  rw [hl] at h150
  dsimp only
  have HL := Lib.hid (show _ ∧ _ ∧ _ from ⟨hy1, hl, hkf⟩)
  have HK := Lib.hid (show _ ∧ _ from ⟨hrec, hk⟩)
  have HL' := Lib.hid (show _ ∧ _ from ⟨hy1', hl'⟩)
  have HK' := Lib.hid (show _ ∧ _ from ⟨hrec', hk'⟩)
  have HB := Lib.hid (two_boxes w 26 ⟨k, q, t, s, A, len, cap⟩ ⟨k', q', t', s', A', len', cap'⟩)
  have hca := fine_cases hfi
  have hcb := fine_cases hfi'
  obtain ⟨hb, hz, hx, hy⟩ := HB.out
  clear hy1 hl hkf hrec hk hf hr he hy1' hl' hrec' hk' hr' hfi hfi'
  by_cases hkk : k = k'
  case neg =>
    have HV := Lib.hid (ord_kind (q := q) (q' := q') (t := t) (t' := t') (s := s) (s' := s') (l := kids) (l' := kids') hkk)
    have q1 : ((k : Int) != k') = true := by simpa using hkk
    clear hkk hca hcb ih HL HK HL' HK'
    obtain ⟨c0, c1, c2, c3, c4, c5⟩ := hx.val
    obtain ⟨d0, d1, d2, d3, d4, d5⟩ := hy.val
    clear hx hy HB
    go_enter Try.func35, Try.ntmps35
    go_wp2_with fail
    go_ret2
    exact ⟨by rw [HV.out]; rfl, hb⟩
  subst hkk
  rcases hca with ⟨rfl, hq, rfl, hs0, rfl⟩ | ⟨rfl, rfl, hs0, rfl⟩ | ⟨rfl, rfl, rfl, rfl, hos⟩ | ⟨rfl, rfl, rfl, hs0, hfl⟩
  · have hq' : RatOk q' := by
      rcases hcb with ⟨-, h, -⟩ | ⟨h, -⟩ | ⟨h, -⟩ | ⟨h, -⟩
      · exact h
      · omega
      · omega
      · omega
    have HV := Lib.hid (@ord_num q q' false t' s s' [] kids')
    have RA := refCmp_any q q'
    rw [or_ok ⟨hq, hq'⟩] at RA
    have HRA := Lib.hid (fun W => RA W ⟨n0, n1, m0, m1⟩ ⟨n0', n1', m0', m1'⟩)
    obtain ⟨C, hC⟩ : ∃ C, cmpR q q' = C := ⟨_, rfl⟩
    rw [hC] at HV HRA
    clear hcb hs0 ih RA hq hq' hC HL HK HL' HK'
    obtain ⟨c0, c1, c2, c3, c4, c5⟩ := hx.val
    obtain ⟨d0, d1, d2, d3, d4, d5⟩ := hy.val
    clear hx hy
    go_enter Try.func35, Try.ntmps35
    go_wp2_with fail
    refine (HRA.out _).mono ?_
    rintro e w2 ⟨rfl, hb1⟩
    have HM := Lib.hid (hb.trans (hb1.mono hb.size))
    clear c0 c1 c2 c3 c4 c5 d0 d1 d2 d3 d4 d5
    clear hb hb1 HRA HB
    go_wp2_with fail
    go_ret2
    exact ⟨by rw [HV.out]; rfl, HM.out⟩
  · have HV := Lib.hid (@ord_truth ⟨0, 0⟩ q' t t' s s' [] kids')
    clear hcb hs0 ih HL HK HL' HK'
    obtain ⟨c0, c1, c2, c3, c4, c5⟩ := hx.val
    obtain ⟨d0, d1, d2, d3, d4, d5⟩ := hy.val
    clear hx hy HB
    have HBB := Lib.hid hb
    cases t <;> cases t'
    all_goals
      go_enter Try.func35, Try.ntmps35
      go_wp2_with fail
      go_ret2
      exact ⟨by rw [HV.out]; rfl, HBB.out⟩
  · have HV := Lib.hid (@ord_str ⟨0, 0⟩ q' false t' s s' [] kids')
    have hcmp := cmpB_cases s.data.toList s'.data.toList
    obtain ⟨C, hC⟩ : ∃ C, Lib.compareBytes s.data.toList s'.data.toList = C := ⟨_, rfl⟩
    rw [hC] at HV hcmp
    have HC := Lib.hid hcmp
    clear hcb hos ih HL HK HL' HK' hcmp
    clear hC
    obtain ⟨c0, c1, c2, c3, c4, c5⟩ := hx.val
    obtain ⟨d0, d1, d2, d3, d4, d5⟩ := hy.val
    clear hx hy HB
    by_cases hss : s.data.toList = s'.data.toList
    · have q1 : (s.toList == s'.toList) = true := by rw [beq_iff_eq, Lib.toList_data, Lib.toList_data]; exact hss
      have HW := Lib.hid (HC.out.1 hss)
      clear hss HC
      go_enter Try.func35, Try.ntmps35
      go_wp2_with fail
      go_ret2
      exact ⟨by rw [HV.out, HW.out]; rfl, hb⟩
    · have q1 : (s.toList == s'.toList) = false := by rw [beq_eq_false_iff_ne, Lib.toList_data, Lib.toList_data]; exact hss
      have HW := Lib.hid (show _ ∧ _ from ⟨HC.out.2.1 hss, HC.out.2.2 hss⟩)
      clear hss HC
      cases hbl : Op.bytesLess s.toList s'.toList
      · have HW2 := Lib.hid (HW.out.2 (by rw [← Lib.toList_data, ← Lib.toList_data]; exact hbl))
        clear HW
        go_enter Try.func35, Try.ntmps35
        go_wp2_with fail
        go_ret2
        exact ⟨by rw [HV.out, HW2.out]; rfl, hb⟩
      · have HW2 := Lib.hid (HW.out.1 (by rw [← Lib.toList_data, ← Lib.toList_data]; exact hbl))
        clear HW
        go_enter Try.func35, Try.ntmps35
        go_wp2_with fail
        go_ret2
        exact ⟨by rw [HV.out, HW2.out]; rfl, hb⟩
  · have hfl' : fineL kids' = true := by
      rcases hcb with ⟨h, -⟩ | ⟨h, -⟩ | ⟨h, -⟩ | ⟨-, -, -, -, h⟩
      · omega
      · omega
      · omega
      · exact h
    have HFI := Lib.hid (show _ ∧ _ from ⟨fineL_mem hfl, fineL_mem hfl'⟩)
    rw [show ordT (.node 4 ⟨0, 0⟩ false s kids) (.node 4 q' t' s' kids') = ordL kids kids' from ord_list]
    clear hcb hs0 hfl hfl'
    have HZ := Lib.hid hz
    have V1 := Lib.hid (show ∀ (i : Nat) (y y' : Tree), kids[i]? = some y → kids'[i]? = some y' → kids.take i = kids'.take i → sameB y y' = false → ordL kids kids' = ordT y y' from fun i y y' => ordL_diff)
    have V2 := Lib.hid (show ∀ i : Nat, i < kids.length → kids'.length = i → kids.take i = kids'.take i → ordL kids kids' = (1, 0) from fun i => ordL_long)
    have V3 := Lib.hid (show ∀ i : Nat, kids.length = i → i < kids'.length → kids.take i = kids'.take i → ordL kids kids' = (-1, 0) from fun i => ordL_short)
    have V4 := Lib.hid (show ∀ i : Nat, kids.length = i → kids'.length = i → kids.take i = kids'.take i → ordL kids kids' = (0, 0) from fun i => ordL_end)
    obtain ⟨O, hO⟩ : ∃ O, ordL kids kids' = O := ⟨_, rfl⟩
    rw [hO] at V1 V2 V3 V4 ⊢
    clear hO
    obtain ⟨c0, c1, c2, c3, c4, c5⟩ := hx.val
    obtain ⟨d0, d1, d2, d3, d4, d5⟩ := hy.val
    go_enter Try.func35, Try.ntmps35
    clear hz HB
    go_wp2_with fail
    clear c0 c1 c2 c3 c4 c5 d0 d1 d2 d3 d4 d5
    generalize World.alloc _ _ = w0 at hb hx hy HZ ⊢
    go_loopw [8] (fun iv wr => ∃ i : Nat, i ≤ len ∧ i ≤ len' ∧ iv = .int .i64 i ∧ Hid (kids.take i = kids'.take i) ∧ w.heap.size + 1 + 1 ≤ wr.heap.size ∧ Below w.heap.size w wr ∧ Blk wr w.heap.size 26 (Val.box ⟨4, ⟨0, 0⟩, false, s, A, len, cap⟩) ∧ Blk wr (w.heap.size + 1) 26 (Val.box ⟨4, q', t', s', A', len', cap'⟩)) (fun iv _ => len - (intOf iv).toNat)
    case atStart => exact ⟨0, Nat.zero_le _, Nat.zero_le _, rfl, rfl, Nat.le_of_eq HZ.out.symm, hb, hx, hy⟩
    case round =>
      clear hb hx hy HZ
      obtain ⟨i, hi, hi', rfl, HP, hsz, hb, hx, hy⟩ := hrel
      by_cases hlt : i < len
      · by_cases hlt' : i < len'
        case neg =>
          obtain rfl : i = len' := by omega
          have HV := Lib.hid (V2.out _ (by rw [HL.out.2.1]; exact hlt) HL'.out.2 HP.out)
          have c5 := hx.val.2.2.2.2.2
          have d5 := hy.val.2.2.2.2.2
          have hlt2 : (i : Int) < len := by omega
          have q1 : decide (i < len) = true := by simpa using hlt
          have q3 : decide (len < i) = false := by simp; omega
          go_wp2_with fail
          go_ret2
          exact ⟨by rw [HV.out]; rfl, hb⟩
        obtain ⟨b, off, u, y, rfl, hB, g1, g2, hru, e0, e1, e2, e3, e4, e5⟩ := val_at HL.out.1 HL.out.2.1 HK.out.1 HK.out.2 hlt
        obtain ⟨b', off', u', y', rfl, hB', g1', g2', hru', f0, f1, f2, f3, f4, f5⟩ := val_at HL'.out.1 HL'.out.2 HK'.out.1 HK'.out.2 hlt'
        rw [← hb.cell (p := ⟨b, _, none⟩) hB] at e0 e1 e2 e3 e4 e5
        rw [← hb.cell (p := ⟨b', _, none⟩) hB'] at f0 f1 f2 f3 f4 f5
        have hs0 := hb.size
        have hlt2 : (i : Int) < len := by omega
        have hlt2' : (i : Int) < len' := by omega
        have q2 : ((i : Int) == (len' : Int)) = false := by simp; omega
        have a0 : ∀ W, Below wr.heap.size wr W → W.cell? ⟨b, off + i * 6, none⟩ = some (.int .u8 u.k) := fun W hW => (hW.cell (p := ⟨b, off + i * 6, none⟩) (by simp only; omega)).trans e0
        have a1 : ∀ W, Below wr.heap.size wr W → W.cell? ⟨b, off + i * 6 + 1, none⟩ = some (.int .i64 u.q.n) := fun W hW => (hW.cell (p := ⟨b, off + i * 6 + 1, none⟩) (by simp only; omega)).trans e1
        have a2 : ∀ W, Below wr.heap.size wr W → W.cell? ⟨b, off + i * 6 + 2, none⟩ = some (.int .i64 u.q.d) := fun W hW => (hW.cell (p := ⟨b, off + i * 6 + 2, none⟩) (by simp only; omega)).trans e2
        have a3 : ∀ W, Below wr.heap.size wr W → W.cell? ⟨b, off + i * 6 + 3, none⟩ = some (.bool u.t) := fun W hW => (hW.cell (p := ⟨b, off + i * 6 + 3, none⟩) (by simp only; omega)).trans e3
        have a4 : ∀ W, Below wr.heap.size wr W → W.cell? ⟨b, off + i * 6 + 4, none⟩ = some (.string u.s) := fun W hW => (hW.cell (p := ⟨b, off + i * 6 + 4, none⟩) (by simp only; omega)).trans e4
        have a5 : ∀ W, Below wr.heap.size wr W → W.cell? ⟨b, off + i * 6 + 5, none⟩ = some (.slice u.A u.len u.cap) := fun W hW => (hW.cell (p := ⟨b, off + i * 6 + 5, none⟩) (by simp only; omega)).trans e5
        have b0 : ∀ W, Below wr.heap.size wr W → W.cell? ⟨b', off' + i * 6, none⟩ = some (.int .u8 u'.k) := fun W hW => (hW.cell (p := ⟨b', off' + i * 6, none⟩) (by simp only; omega)).trans f0
        have b1 : ∀ W, Below wr.heap.size wr W → W.cell? ⟨b', off' + i * 6 + 1, none⟩ = some (.int .i64 u'.q.n) := fun W hW => (hW.cell (p := ⟨b', off' + i * 6 + 1, none⟩) (by simp only; omega)).trans f1
        have b2 : ∀ W, Below wr.heap.size wr W → W.cell? ⟨b', off' + i * 6 + 2, none⟩ = some (.int .i64 u'.q.d) := fun W hW => (hW.cell (p := ⟨b', off' + i * 6 + 2, none⟩) (by simp only; omega)).trans f2
        have b3 : ∀ W, Below wr.heap.size wr W → W.cell? ⟨b', off' + i * 6 + 3, none⟩ = some (.bool u'.t) := fun W hW => (hW.cell (p := ⟨b', off' + i * 6 + 3, none⟩) (by simp only; omega)).trans f3
        have b4 : ∀ W, Below wr.heap.size wr W → W.cell? ⟨b', off' + i * 6 + 4, none⟩ = some (.string u'.s) := fun W hW => (hW.cell (p := ⟨b', off' + i * 6 + 4, none⟩) (by simp only; omega)).trans f4
        have b5 : ∀ W, Below wr.heap.size wr W → W.cell? ⟨b', off' + i * 6 + 5, none⟩ = some (.slice u'.A u'.len u'.cap) := fun W hW => (hW.cell (p := ⟨b', off' + i * 6 + 5, none⟩) (by simp only; omega)).trans f5
        have bx5 : ∀ W, Below wr.heap.size wr W → W.cell? ⟨w.heap.size, 5, none⟩ = some (.slice (some ⟨b, off, none⟩) len cap) := fun W hW => (hx.keep hW).cell rfl
        have by5 : ∀ W, Below wr.heap.size wr W → W.cell? ⟨w.heap.size + 1, 5, none⟩ = some (.slice (some ⟨b', off', none⟩) len' cap') := fun W hW => (hy.keep hW).cell rfl
        have HRS := Lib.hid (fun W (hW : Below wr.heap.size wr W) => refSame_any d y y' u u' W (HL.out.2.2 _ (List.mem_of_getElem? g1)) (hru.in_ (hb.trans (hW.mono hb.size)) (Nat.le_trans hb.size hW.size)) (hru'.in_ (hb.trans (hW.mono hb.size)) (Nat.le_trans hb.size hW.size)))
        have HRO := Lib.hid (fun W (hW : Below wr.heap.size wr W) => ih y y' u u' W (HL.out.2.2 _ (List.mem_of_getElem? g1)) (HFI.out.1 _ (List.mem_of_getElem? g1)) (HFI.out.2 _ (List.mem_of_getElem? g1')) (hru.in_ (hb.trans (hW.mono hb.size)) (Nat.le_trans hb.size hW.size)) (hru'.in_ (hb.trans (hW.mono hb.size)) (Nat.le_trans hb.size hW.size)))
        have HG := Lib.hid (show _ ∧ _ from ⟨g1, g1'⟩)
        have HVV := Lib.hid (fun h => V1.out _ _ _ g1 g1' HP.out h)
        clear g1 g1' g2 g2' hru hru' e0 e1 e2 e3 e4 e5 f0 f1 f2 f3 f4 f5
        have c5 := bx5 wr (Below.refl _ _)
        have d5 := by5 wr (Below.refl _ _)
        go_wp2_with fail
        clear c5 d5
        cases hyy : sameB y y'
        case true =>
          rw [hyy] at HRS
          obtain ⟨hik, hy1⟩ := kid_at HG.out.1
          obtain ⟨hik', hy1'⟩ := kid_at HG.out.2
          have HS := Lib.hid (same_step hik hik' HP.out (by rw [← hy1, ← hy1']; exact sameB_iff.1 hyy))
          clear hyy hy1 hy1' hik hik' HRO HVV
          apply wp_region_head 12 108 (hm := by kernel_rfl) (hN := rfl)
          case h =>
            simp only [List.take_succ_cons, List.take_zero]
            ((apply head_still rfl; (intro W hW; go_simp; (try rfl))); simp only [Act.put, List.setIfInBounds_toArray, List.set_cons_succ, List.set_cons_zero])
            ((apply head_still rfl; (intro W hW; go_simp; (try rfl))); simp only [Act.put, List.setIfInBounds_toArray, List.set_cons_succ, List.set_cons_zero])
            ((apply head_still rfl; (intro W hW; go_simp; (try rfl))); simp only [Act.put, List.setIfInBounds_toArray, List.set_cons_succ, List.set_cons_zero])
            ((apply head_still rfl; (intro W hW; go_simp; (try rfl))); simp only [Act.put, List.setIfInBounds_toArray, List.set_cons_succ, List.set_cons_zero])
            ((apply head_still rfl; (intro W hW; go_simp; (try rfl))); simp only [Act.put, List.setIfInBounds_toArray, List.set_cons_succ, List.set_cons_zero])
            ((apply head_still rfl; (intro W hW; go_simp; (try rfl))); simp only [Act.put, List.setIfInBounds_toArray, List.set_cons_succ, List.set_cons_zero])
            ((apply head_still rfl; (intro W hW; go_simp; (try rfl))); simp only [Act.put, List.setIfInBounds_toArray, List.set_cons_succ, List.set_cons_zero])
            ((apply head_still rfl; (intro W hW; go_simp; (try rfl))); simp only [Act.put, List.setIfInBounds_toArray, List.set_cons_succ, List.set_cons_zero])
            ((apply head_still rfl; (intro W hW; go_simp; (try rfl))); simp only [Act.put, List.setIfInBounds_toArray, List.set_cons_succ, List.set_cons_zero])
            ((apply head_still rfl; (intro W hW; go_simp; (try rfl))); simp only [Act.put, List.setIfInBounds_toArray, List.set_cons_succ, List.set_cons_zero])
            ((apply head_call rfl; (intro W; go_simp; exact ⟨rfl, rfl⟩); (intro W hW; exact HRS.out W hW)); simp only [Act.put, List.setIfInBounds_toArray, List.set_cons_succ, List.set_cons_zero])
            ((apply head_still rfl; (intro W hW; go_simp; (try rfl))); simp only [Act.put, List.setIfInBounds_toArray, List.set_cons_succ, List.set_cons_zero])
            refine head_nil ?_
            intro W hW hF
            simp only [List.drop_succ_cons, List.drop_zero]
            have HM := Lib.hid (show _ ∧ _ ∧ _ ∧ _ from ⟨Nat.le_trans hsz (Nat.le_trans (Nat.le_refl _) hW.size), hb.trans (hW.mono hb.size), hx.keep hW, hy.keep hW⟩)
            clear hW hF a0 a1 a2 a3 a4 a5 b0 b1 b2 b3 b4 b5 by5 bx5 hb hx hy HRS
            go_wp2_with fail
            go_roundw
            case rel => exact ⟨i + 1, by omega, by omega, by go_num, HS, HM.out⟩
            case measure => simp [intOf]; omega
          case hB => kernel_rfl
          all_goals rfl
        case false =>
          rw [hyy] at HRS
          have HV := Lib.hid (HVV.out hyy)
          clear hyy HVV
          obtain ⟨O1, hO1⟩ : ∃ O1, ordT y y' = O1 := ⟨_, rfl⟩
          rw [hO1] at HRO HV
          clear hO1
          apply wp_region_head 12 108 (hm := by kernel_rfl) (hN := rfl)
          case h =>
            simp only [List.take_succ_cons, List.take_zero]
            ((apply head_still rfl; (intro W hW; go_simp; (try rfl))); simp only [Act.put, List.setIfInBounds_toArray, List.set_cons_succ, List.set_cons_zero])
            ((apply head_still rfl; (intro W hW; go_simp; (try rfl))); simp only [Act.put, List.setIfInBounds_toArray, List.set_cons_succ, List.set_cons_zero])
            ((apply head_still rfl; (intro W hW; go_simp; (try rfl))); simp only [Act.put, List.setIfInBounds_toArray, List.set_cons_succ, List.set_cons_zero])
            ((apply head_still rfl; (intro W hW; go_simp; (try rfl))); simp only [Act.put, List.setIfInBounds_toArray, List.set_cons_succ, List.set_cons_zero])
            ((apply head_still rfl; (intro W hW; go_simp; (try rfl))); simp only [Act.put, List.setIfInBounds_toArray, List.set_cons_succ, List.set_cons_zero])
            ((apply head_still rfl; (intro W hW; go_simp; (try rfl))); simp only [Act.put, List.setIfInBounds_toArray, List.set_cons_succ, List.set_cons_zero])
            ((apply head_still rfl; (intro W hW; go_simp; (try rfl))); simp only [Act.put, List.setIfInBounds_toArray, List.set_cons_succ, List.set_cons_zero])
            ((apply head_still rfl; (intro W hW; go_simp; (try rfl))); simp only [Act.put, List.setIfInBounds_toArray, List.set_cons_succ, List.set_cons_zero])
            ((apply head_still rfl; (intro W hW; go_simp; (try rfl))); simp only [Act.put, List.setIfInBounds_toArray, List.set_cons_succ, List.set_cons_zero])
            ((apply head_still rfl; (intro W hW; go_simp; (try rfl))); simp only [Act.put, List.setIfInBounds_toArray, List.set_cons_succ, List.set_cons_zero])
            ((apply head_call rfl; (intro W; go_simp; exact ⟨rfl, rfl⟩); (intro W hW; exact HRS.out W hW)); simp only [Act.put, List.setIfInBounds_toArray, List.set_cons_succ, List.set_cons_zero])
            ((apply head_still rfl; (intro W hW; go_simp; (try rfl))); simp only [Act.put, List.setIfInBounds_toArray, List.set_cons_succ, List.set_cons_zero])
            refine head_nil ?_
            intro W hW hF
            simp only [List.drop_succ_cons, List.drop_zero]
            have hW0 := hW
            have HRO2 := Lib.hid (fun W' (hW' : Below W.heap.size W W') => HRO.out W' (hW0.trans (hW'.mono hW0.size)))
            replace a0 := fun W' (hW' : Below W.heap.size W W') => a0 W' (hW0.trans (hW'.mono hW0.size))
            replace a1 := fun W' (hW' : Below W.heap.size W W') => a1 W' (hW0.trans (hW'.mono hW0.size))
            replace a2 := fun W' (hW' : Below W.heap.size W W') => a2 W' (hW0.trans (hW'.mono hW0.size))
            replace a3 := fun W' (hW' : Below W.heap.size W W') => a3 W' (hW0.trans (hW'.mono hW0.size))
            replace a4 := fun W' (hW' : Below W.heap.size W W') => a4 W' (hW0.trans (hW'.mono hW0.size))
            replace a5 := fun W' (hW' : Below W.heap.size W W') => a5 W' (hW0.trans (hW'.mono hW0.size))
            replace b0 := fun W' (hW' : Below W.heap.size W W') => b0 W' (hW0.trans (hW'.mono hW0.size))
            replace b1 := fun W' (hW' : Below W.heap.size W W') => b1 W' (hW0.trans (hW'.mono hW0.size))
            replace b2 := fun W' (hW' : Below W.heap.size W W') => b2 W' (hW0.trans (hW'.mono hW0.size))
            replace b3 := fun W' (hW' : Below W.heap.size W W') => b3 W' (hW0.trans (hW'.mono hW0.size))
            replace b4 := fun W' (hW' : Below W.heap.size W W') => b4 W' (hW0.trans (hW'.mono hW0.size))
            replace b5 := fun W' (hW' : Below W.heap.size W W') => b5 W' (hW0.trans (hW'.mono hW0.size))
            replace by5 := fun W' (hW' : Below W.heap.size W W') => by5 W' (hW0.trans (hW'.mono hW0.size))
            replace bx5 := fun W' (hW' : Below W.heap.size W W') => bx5 W' (hW0.trans (hW'.mono hW0.size))
            replace hb := hb.trans (hW.mono hb.size)
            clear hW hW0 hF hx hy HRS HRO
            go_wp2_with fail
            apply wp_region_head 16 108 (hm := by kernel_rfl) (hN := rfl)
            case h =>
              simp only [List.take_succ_cons, List.take_zero]
              ((apply head_still rfl; (intro W hW; go_simp; (try rfl))); simp only [Act.put, List.setIfInBounds_toArray, List.set_cons_succ, List.set_cons_zero])
              ((apply head_still rfl; (intro W hW; go_simp; (try rfl))); simp only [Act.put, List.setIfInBounds_toArray, List.set_cons_succ, List.set_cons_zero])
              ((apply head_still rfl; (intro W hW; go_simp; (try rfl))); simp only [Act.put, List.setIfInBounds_toArray, List.set_cons_succ, List.set_cons_zero])
              ((apply head_still rfl; (intro W hW; go_simp; (try rfl))); simp only [Act.put, List.setIfInBounds_toArray, List.set_cons_succ, List.set_cons_zero])
              ((apply head_still rfl; (intro W hW; go_simp; (try rfl))); simp only [Act.put, List.setIfInBounds_toArray, List.set_cons_succ, List.set_cons_zero])
              ((apply head_still rfl; (intro W hW; go_simp; (try rfl))); simp only [Act.put, List.setIfInBounds_toArray, List.set_cons_succ, List.set_cons_zero])
              ((apply head_still rfl; (intro W hW; go_simp; (try rfl))); simp only [Act.put, List.setIfInBounds_toArray, List.set_cons_succ, List.set_cons_zero])
              ((apply head_still rfl; (intro W hW; go_simp; (try rfl))); simp only [Act.put, List.setIfInBounds_toArray, List.set_cons_succ, List.set_cons_zero])
              ((apply head_still rfl; (intro W hW; go_simp; (try rfl))); simp only [Act.put, List.setIfInBounds_toArray, List.set_cons_succ, List.set_cons_zero])
              ((apply head_still rfl; (intro W hW; go_simp; (try rfl))); simp only [Act.put, List.setIfInBounds_toArray, List.set_cons_succ, List.set_cons_zero])
              ((apply head_call rfl; (intro W; go_simp; exact ⟨rfl, rfl⟩); (intro W hW; exact HRO2.out W hW)); simp only [Act.put, List.setIfInBounds_toArray, List.set_cons_succ, List.set_cons_zero])
              ((apply head_still rfl; (intro W hW; go_simp; (try rfl))); simp only [Act.put, List.setIfInBounds_toArray, List.set_cons_succ, List.set_cons_zero])
              ((apply head_still rfl; (intro W hW; go_simp; (try rfl))); simp only [Act.put, List.setIfInBounds_toArray, List.set_cons_succ, List.set_cons_zero])
              ((apply head_still rfl; (intro W hW; go_simp; (try rfl))); simp only [Act.put, List.setIfInBounds_toArray, List.set_cons_succ, List.set_cons_zero])
              ((apply head_still rfl; (intro W hW; go_simp; (try rfl))); simp only [Act.put, List.setIfInBounds_toArray, List.set_cons_succ, List.set_cons_zero])
              ((apply head_still rfl; (intro W hW; go_simp; (try rfl))); simp only [Act.put, List.setIfInBounds_toArray, List.set_cons_succ, List.set_cons_zero])
              refine head_nil ?_
              intro W hW hF
              simp only [List.drop_succ_cons, List.drop_zero]
              have HM := Lib.hid (hb.trans (hW.mono hb.size))
              clear hW hF a0 a1 a2 a3 a4 a5 b0 b1 b2 b3 b4 b5 by5 bx5 hb HRO2
              go_wp2_with fail
              go_ret2
              exact ⟨by rw [HV.out]; rfl, HM.out⟩
            case hB => kernel_rfl
            all_goals rfl
          case hB => kernel_rfl
          all_goals rfl
      · obtain rfl : i = len := by omega
        have c5 := hx.val.2.2.2.2.2
        have d5 := hy.val.2.2.2.2.2
        by_cases hlt' : i < len'
        · have HV := Lib.hid (V3.out _ HL.out.2.1 (by rw [HL'.out.2]; exact hlt') HP.out)
          have q1 : decide (i < len') = true := by simpa using hlt'
          go_wp2_with fail
          go_ret2
          exact ⟨by rw [HV.out]; rfl, hb⟩
        · obtain rfl : i = len' := by omega
          have HV := Lib.hid (V4.out _ HL.out.2.1 HL'.out.2 HP.out)
          go_wp2_with fail
          go_ret2
          exact ⟨by rw [HV.out]; rfl, hb⟩

attribute [local irreducible] Go.Rel.Gives in
set_option maxRecDepth 100000 in
set_option maxHeartbeats 8000000 in
theorem ord_any : ∀ (d : Nat) (T U : Tree) (x y : Val) (w : World), fitT T d = true → fineT T = true → fineT U = true → RdB w w.heap.size T x → RdB w w.heap.size U y →
    Calls Try.prog 34 #[x.v, y.v] w (Ret w (.tuple #[.int .i64 (ordT T U).1, .int .i64 (ordT T U).2])) := by
  intro d
  induction d with
  | zero => intro T U x y w h; rw [fitT_zero] at h; cases h
  | succ d ih =>
  intro T U x y w hf hfi hfi' hr hr'
  obtain ⟨kids, ys, rfl, ok, hy1, hl, hrec, hk⟩ := hr.open_
  obtain ⟨kids', ys', rfl, ok', hy1', hl', hrec', hk'⟩ := hr'.open_
  obtain ⟨e, he, -, h150, hkf⟩ := fitT_parts hf
  obtain rfl : d = e := by omega
  obtain ⟨k, q, t, s, A, len, cap⟩ := x
  obtain ⟨k', q', t', s', A', len', cap'⟩ := y
  obtain ⟨hk0, hk1, n0, n1, m0, m1, hs, -, hc, -⟩ := ok
  obtain ⟨hk0', hk1', n0', n1', m0', m1', hs', hlc', hc', -⟩ := ok'
  dsimp only at hk0 hk1 hy1 hl hrec hc h150 hs hk0' hk1' hy1' hl' hrec' hc' hs' hlc' n0 n1 m0 m1 n0' n1' m0' m1' hfi hfi'
  rw [hl] at h150
  dsimp only
  have HL := Lib.hid (show _ ∧ _ ∧ _ from ⟨hy1, hl, hkf⟩)
  have HK := Lib.hid (show _ ∧ _ from ⟨hrec, hk⟩)
  have HL' := Lib.hid (show _ ∧ _ from ⟨hy1', hl'⟩)
  have HK' := Lib.hid (show _ ∧ _ from ⟨hrec', hk'⟩)
  have HB := Lib.hid (two_boxes w 26 ⟨k, q, t, s, A, len, cap⟩ ⟨k', q', t', s', A', len', cap'⟩)
  have hca := fine_cases hfi
  have hcb := fine_cases hfi'
  obtain ⟨hb, hz, hx, hy⟩ := HB.out
  clear hy1 hl hkf hrec hk hf hr he hy1' hl' hrec' hk' hr' hfi hfi'
  by_cases hkk : k = k'
  case neg =>
    have HV := Lib.hid (ord_kind (q := q) (q' := q') (t := t) (t' := t') (s := s) (s' := s') (l := kids) (l' := kids') hkk)
    have q1 : ((k : Int) != k') = true := by simpa using hkk
    clear hkk hca hcb ih HL HK HL' HK'
    obtain ⟨c0, c1, c2, c3, c4, c5⟩ := hx.val
    obtain ⟨d0, d1, d2, d3, d4, d5⟩ := hy.val
    clear hx hy HB
    go_enter Try.func34, Try.ntmps34
    go_wp2_with fail
    go_ret2
    exact ⟨by rw [HV.out]; rfl, hb⟩
  subst hkk
  rcases hca with ⟨rfl, hq, rfl, hs0, rfl⟩ | ⟨rfl, rfl, hs0, rfl⟩ | ⟨rfl, rfl, rfl, rfl, hos⟩ | ⟨rfl, rfl, rfl, hs0, hfl⟩
  · have hq' : RatOk q' := by
      rcases hcb with ⟨-, h, -⟩ | ⟨h, -⟩ | ⟨h, -⟩ | ⟨h, -⟩
      · exact h
      · omega
      · omega
      · omega
    have HV := Lib.hid (@ord_num q q' false t' s s' [] kids')
    have RA := cmp_any q q'
    rw [or_ok ⟨hq, hq'⟩] at RA
    have HRA := Lib.hid (fun W => RA W ⟨n0, n1, m0, m1⟩ ⟨n0', n1', m0', m1'⟩)
    obtain ⟨C, hC⟩ : ∃ C, cmpR q q' = C := ⟨_, rfl⟩
    rw [hC] at HV HRA
    clear hcb hs0 ih RA hq hq' hC HL HK HL' HK'
    obtain ⟨c0, c1, c2, c3, c4, c5⟩ := hx.val
    obtain ⟨d0, d1, d2, d3, d4, d5⟩ := hy.val
    clear hx hy
    go_enter Try.func34, Try.ntmps34
    go_wp2_with fail
    refine (HRA.out _).mono ?_
    rintro e w2 ⟨rfl, hb1⟩
    have HM := Lib.hid (hb.trans (hb1.mono hb.size))
    clear c0 c1 c2 c3 c4 c5 d0 d1 d2 d3 d4 d5
    clear hb hb1 HRA HB
    go_wp2_with fail
    go_ret2
    exact ⟨by rw [HV.out]; rfl, HM.out⟩
  · have HV := Lib.hid (@ord_truth ⟨0, 0⟩ q' t t' s s' [] kids')
    clear hcb hs0 ih HL HK HL' HK'
    obtain ⟨c0, c1, c2, c3, c4, c5⟩ := hx.val
    obtain ⟨d0, d1, d2, d3, d4, d5⟩ := hy.val
    clear hx hy HB
    have HBB := Lib.hid hb
    cases t <;> cases t'
    all_goals
      go_enter Try.func34, Try.ntmps34
      go_wp2_with fail
      go_ret2
      exact ⟨by rw [HV.out]; rfl, HBB.out⟩
  · have HV := Lib.hid (@ord_str ⟨0, 0⟩ q' false t' s s' [] kids')
    have hcmp := cmpB_cases s.data.toList s'.data.toList
    obtain ⟨C, hC⟩ : ∃ C, Lib.compareBytes s.data.toList s'.data.toList = C := ⟨_, rfl⟩
    rw [hC] at HV hcmp
    have HC := Lib.hid hcmp
    clear hcb hos ih HL HK HL' HK' hcmp
    have HSC := Lib.hid (fun W => Try.strings_Compare s s' W)
    rw [hC] at HSC
    clear hC HC
    obtain ⟨c0, c1, c2, c3, c4, c5⟩ := hx.val
    obtain ⟨d0, d1, d2, d3, d4, d5⟩ := hy.val
    clear hx hy HB
    go_enter Try.func34, Try.ntmps34
    go_wp2_with fail
    refine (HSC.out _).mono ?_
    rintro e w2 ⟨rfl, rfl⟩
    go_wp2_with fail
    go_ret2
    exact ⟨by rw [HV.out]; rfl, hb⟩
  · have hfl' : fineL kids' = true := by
      rcases hcb with ⟨h, -⟩ | ⟨h, -⟩ | ⟨h, -⟩ | ⟨-, -, -, -, h⟩
      · omega
      · omega
      · omega
      · exact h
    have HFI := Lib.hid (show _ ∧ _ from ⟨fineL_mem hfl, fineL_mem hfl'⟩)
    rw [show ordT (.node 4 ⟨0, 0⟩ false s kids) (.node 4 q' t' s' kids') = ordL kids kids' from ord_list]
    clear hcb hs0 hfl hfl'
    have HZ := Lib.hid hz
    have V1 := Lib.hid (show ∀ (i : Nat) (y y' : Tree), kids[i]? = some y → kids'[i]? = some y' → kids.take i = kids'.take i → sameB y y' = false → ordL kids kids' = ordT y y' from fun i y y' => ordL_diff)
    have V2 := Lib.hid (show ∀ i : Nat, i < kids.length → kids'.length = i → kids.take i = kids'.take i → ordL kids kids' = (1, 0) from fun i => ordL_long)
    have V3 := Lib.hid (show ∀ i : Nat, kids.length = i → i < kids'.length → kids.take i = kids'.take i → ordL kids kids' = (-1, 0) from fun i => ordL_short)
    have V4 := Lib.hid (show ∀ i : Nat, kids.length = i → kids'.length = i → kids.take i = kids'.take i → ordL kids kids' = (0, 0) from fun i => ordL_end)
    obtain ⟨O, hO⟩ : ∃ O, ordL kids kids' = O := ⟨_, rfl⟩
    rw [hO] at V1 V2 V3 V4 ⊢
    clear hO
    obtain ⟨c0, c1, c2, c3, c4, c5⟩ := hx.val
    obtain ⟨d0, d1, d2, d3, d4, d5⟩ := hy.val
    go_enter Try.func34, Try.ntmps34
    clear hz HB
    go_wp2_with fail
    clear c0 c1 c2 c3 c4 c5 d0 d1 d2 d3 d4 d5
    generalize World.alloc _ _ = w0 at hb hx hy HZ ⊢
    go_loopw [45] (fun iv wr => ∃ i : Nat, i ≤ len ∧ i ≤ len' ∧ iv = .int .i64 i ∧ Hid (kids.take i = kids'.take i) ∧ w.heap.size + 1 + 1 ≤ wr.heap.size ∧ Below w.heap.size w wr ∧ Blk wr w.heap.size 26 (Val.box ⟨4, ⟨0, 0⟩, false, s, A, len, cap⟩) ∧ Blk wr (w.heap.size + 1) 26 (Val.box ⟨4, q', t', s', A', len', cap'⟩)) (fun iv _ => len - (intOf iv).toNat)
    case atStart => exact ⟨0, Nat.zero_le _, Nat.zero_le _, rfl, rfl, Nat.le_of_eq HZ.out.symm, hb, hx, hy⟩
    case round =>
      clear hb hx hy HZ
      obtain ⟨i, hi, hi', rfl, HP, hsz, hb, hx, hy⟩ := hrel
      by_cases hlt : i < len
      · by_cases hlt' : i < len'
        case neg =>
          obtain rfl : i = len' := by omega
          have HV := Lib.hid (V2.out _ (by rw [HL.out.2.1]; exact hlt) HL'.out.2 HP.out)
          obtain ⟨b, off, u, y, rfl, hB, g1, g2, hru, e0, e1, e2, e3, e4, e5⟩ := val_at HL.out.1 HL.out.2.1 HK.out.1 HK.out.2 hlt
          rw [← hb.cell (p := ⟨b, _, none⟩) hB] at e0 e1 e2 e3 e4 e5
          have hs0 := hb.size
          have hlt3 : w.heap.size + 1 < wr.heap.size := by omega
          have hlt2 : (i : Int) < len := by omega
          have HM := Lib.hid (hb.trans ((below_alloc wr (.cells u.box 26)).mono hb.size))
          obtain ⟨d0, d1, d2, d3, d4, d5⟩ := hy.val
          clear g1 g2 hru
          go_wp2_with fail
          go_ret2
          exact ⟨by rw [HV.out]; rfl, HM.out⟩
        obtain ⟨b, off, u, y, rfl, hB, g1, g2, hru, e0, e1, e2, e3, e4, e5⟩ := val_at HL.out.1 HL.out.2.1 HK.out.1 HK.out.2 hlt
        obtain ⟨b', off', u', y', rfl, hB', g1', g2', hru', f0, f1, f2, f3, f4, f5⟩ := val_at HL'.out.1 HL'.out.2 HK'.out.1 HK'.out.2 hlt'
        rw [← hb.cell (p := ⟨b, _, none⟩) hB] at e0 e1 e2 e3 e4 e5
        rw [← hb.cell (p := ⟨b', _, none⟩) hB'] at f0 f1 f2 f3 f4 f5
        have hs0 := hb.size
        have hlt2 : (i : Int) < len := by omega
        have hlt2' : (i : Int) < len' := by omega
        have q2 : ((i : Int) == (len' : Int)) = false := by simp; omega
        have hba := below_alloc wr (.cells u.box 26)
        have hnew := Blk.new wr 26 u.box
        have HW := Lib.hid (show _ ∧ _ ∧ _ ∧ _ from ⟨hb.trans (hba.mono hb.size), hx.keep hba, hy.keep hba, hnew⟩)
        have hgw : wr.heap.size < (wr.alloc (.cells u.box 26)).heap.size := by simp
        have HE := Lib.hid (show _ ∧ _ ∧ _ ∧ _ ∧ _ ∧ _ from ⟨(hba.cell (p := ⟨b', off' + i * 6, none⟩) (by simp only; omega)).trans f0, (hba.cell (p := ⟨b', off' + i * 6 + 1, none⟩) (by simp only; omega)).trans f1, (hba.cell (p := ⟨b', off' + i * 6 + 2, none⟩) (by simp only; omega)).trans f2, (hba.cell (p := ⟨b', off' + i * 6 + 3, none⟩) (by simp only; omega)).trans f3, (hba.cell (p := ⟨b', off' + i * 6 + 4, none⟩) (by simp only; omega)).trans f4, (hba.cell (p := ⟨b', off' + i * 6 + 5, none⟩) (by simp only; omega)).trans f5⟩)
        have hlt3 : w.heap.size + 1 < wr.heap.size := by omega
        obtain ⟨d0, d1, d2, d3, d4, d5⟩ := hy.val
        clear hba hnew hb hx hy f0 f1 f2 f3 f4 f5
        go_wp2_with fail
        clear d0 d1 d2 d3 d4 d5 e0 e1 e2 e3 e4 e5
        generalize World.alloc _ _ = w5 at HW hgw HE ⊢
        obtain ⟨hb, hx, hy, hnew⟩ := HW.out
        obtain ⟨f0, f1, f2, f3, f4, f5⟩ := HE.out
        have b0 : ∀ W, Below w5.heap.size w5 W → W.cell? ⟨b', off' + i * 6, none⟩ = some (.int .u8 u'.k) := fun W hW => (hW.cell (p := ⟨b', off' + i * 6, none⟩) (by simp only; omega)).trans f0
        have b1 : ∀ W, Below w5.heap.size w5 W → W.cell? ⟨b', off' + i * 6 + 1, none⟩ = some (.int .i64 u'.q.n) := fun W hW => (hW.cell (p := ⟨b', off' + i * 6 + 1, none⟩) (by simp only; omega)).trans f1
        have b2 : ∀ W, Below w5.heap.size w5 W → W.cell? ⟨b', off' + i * 6 + 2, none⟩ = some (.int .i64 u'.q.d) := fun W hW => (hW.cell (p := ⟨b', off' + i * 6 + 2, none⟩) (by simp only; omega)).trans f2
        have b3 : ∀ W, Below w5.heap.size w5 W → W.cell? ⟨b', off' + i * 6 + 3, none⟩ = some (.bool u'.t) := fun W hW => (hW.cell (p := ⟨b', off' + i * 6 + 3, none⟩) (by simp only; omega)).trans f3
        have b4 : ∀ W, Below w5.heap.size w5 W → W.cell? ⟨b', off' + i * 6 + 4, none⟩ = some (.string u'.s) := fun W hW => (hW.cell (p := ⟨b', off' + i * 6 + 4, none⟩) (by simp only; omega)).trans f4
        have b5 : ∀ W, Below w5.heap.size w5 W → W.cell? ⟨b', off' + i * 6 + 5, none⟩ = some (.slice u'.A u'.len u'.cap) := fun W hW => (hW.cell (p := ⟨b', off' + i * 6 + 5, none⟩) (by simp only; omega)).trans f5
        have a0 : ∀ W, Below w5.heap.size w5 W → W.cell? ⟨wr.heap.size, 0, none⟩ = some (.int .u8 u.k) := fun W hW => (hnew.keep hW).cell rfl
        have a1 : ∀ W, Below w5.heap.size w5 W → W.cell? ⟨wr.heap.size, 1, none⟩ = some (.int .i64 u.q.n) := fun W hW => (hnew.keep hW).cell rfl
        have a2 : ∀ W, Below w5.heap.size w5 W → W.cell? ⟨wr.heap.size, 2, none⟩ = some (.int .i64 u.q.d) := fun W hW => (hnew.keep hW).cell rfl
        have a3 : ∀ W, Below w5.heap.size w5 W → W.cell? ⟨wr.heap.size, 3, none⟩ = some (.bool u.t) := fun W hW => (hnew.keep hW).cell rfl
        have a4 : ∀ W, Below w5.heap.size w5 W → W.cell? ⟨wr.heap.size, 4, none⟩ = some (.string u.s) := fun W hW => (hnew.keep hW).cell rfl
        have a5 : ∀ W, Below w5.heap.size w5 W → W.cell? ⟨wr.heap.size, 5, none⟩ = some (.slice u.A u.len u.cap) := fun W hW => (hnew.keep hW).cell rfl
        have by5 : ∀ W, Below w5.heap.size w5 W → W.cell? ⟨w.heap.size + 1, 5, none⟩ = some (.slice (some ⟨b', off', none⟩) len' cap') := fun W hW => (hy.keep hW).cell rfl
        have HRS := Lib.hid (fun W (hW : Below w5.heap.size w5 W) => same_any d y y' u u' W (HL.out.2.2 _ (List.mem_of_getElem? g1)) (hru.in_ (hb.trans (hW.mono hb.size)) (Nat.le_trans hb.size hW.size)) (hru'.in_ (hb.trans (hW.mono hb.size)) (Nat.le_trans hb.size hW.size)))
        have HRO := Lib.hid (fun W (hW : Below w5.heap.size w5 W) => ih y y' u u' W (HL.out.2.2 _ (List.mem_of_getElem? g1)) (HFI.out.1 _ (List.mem_of_getElem? g1)) (HFI.out.2 _ (List.mem_of_getElem? g1')) (hru.in_ (hb.trans (hW.mono hb.size)) (Nat.le_trans hb.size hW.size)) (hru'.in_ (hb.trans (hW.mono hb.size)) (Nat.le_trans hb.size hW.size)))
        have HG := Lib.hid (show _ ∧ _ from ⟨g1, g1'⟩)
        have HVV := Lib.hid (fun h => V1.out _ _ _ g1 g1' HP.out h)
        clear g1 g1' g2 g2' hru hru' f0 f1 f2 f3 f4 f5
        cases hyy : sameB y y'
        case true =>
          rw [hyy] at HRS
          obtain ⟨hik, hy1⟩ := kid_at HG.out.1
          obtain ⟨hik', hy1'⟩ := kid_at HG.out.2
          have HS := Lib.hid (same_step hik hik' HP.out (by rw [← hy1, ← hy1']; exact sameB_iff.1 hyy))
          clear hyy hy1 hy1' hik hik' HRO HVV
          apply wp_region_head 8 80 (hm := by kernel_rfl) (hN := rfl)
          case h =>
            simp only [List.take_succ_cons, List.take_zero]
            ((apply head_still rfl; (intro W hW; go_simp; (try rfl))); simp only [Act.put, List.setIfInBounds_toArray, List.set_cons_succ, List.set_cons_zero])
            ((apply head_still rfl; (intro W hW; go_simp; (try rfl))); simp only [Act.put, List.setIfInBounds_toArray, List.set_cons_succ, List.set_cons_zero])
            ((apply head_still rfl; (intro W hW; go_simp; (try rfl))); simp only [Act.put, List.setIfInBounds_toArray, List.set_cons_succ, List.set_cons_zero])
            ((apply head_still rfl; (intro W hW; go_simp; (try rfl))); simp only [Act.put, List.setIfInBounds_toArray, List.set_cons_succ, List.set_cons_zero])
            ((apply head_still rfl; (intro W hW; go_simp; (try rfl))); simp only [Act.put, List.setIfInBounds_toArray, List.set_cons_succ, List.set_cons_zero])
            ((apply head_still rfl; (intro W hW; go_simp; (try rfl))); simp only [Act.put, List.setIfInBounds_toArray, List.set_cons_succ, List.set_cons_zero])
            ((apply head_call rfl; (intro W; go_simp; exact ⟨rfl, rfl⟩); (intro W hW; exact HRS.out W hW)); simp only [Act.put, List.setIfInBounds_toArray, List.set_cons_succ, List.set_cons_zero])
            ((apply head_still rfl; (intro W hW; go_simp; (try rfl))); simp only [Act.put, List.setIfInBounds_toArray, List.set_cons_succ, List.set_cons_zero])
            refine head_nil ?_
            intro W hW hF
            simp only [List.drop_succ_cons, List.drop_zero]
            have HM := Lib.hid (show _ ∧ _ ∧ _ ∧ _ from ⟨Nat.le_trans hsz (Nat.le_trans (Nat.le_of_lt hgw) hW.size), hb.trans (hW.mono hb.size), hx.keep hW, hy.keep hW⟩)
            clear hW hF a0 a1 a2 a3 a4 a5 b0 b1 b2 b3 b4 b5 by5 hb hx hy hnew HRS
            go_wp2_with fail
            go_roundw
            case rel => exact ⟨i + 1, by omega, by omega, by go_num, HS, HM.out⟩
            case measure => simp [intOf]; omega
          case hB => kernel_rfl
          all_goals rfl
        case false =>
          rw [hyy] at HRS
          have HV := Lib.hid (HVV.out hyy)
          clear hyy HVV
          obtain ⟨O1, hO1⟩ : ∃ O1, ordT y y' = O1 := ⟨_, rfl⟩
          rw [hO1] at HRO HV
          clear hO1
          apply wp_region_head 8 80 (hm := by kernel_rfl) (hN := rfl)
          case h =>
            simp only [List.take_succ_cons, List.take_zero]
            ((apply head_still rfl; (intro W hW; go_simp; (try rfl))); simp only [Act.put, List.setIfInBounds_toArray, List.set_cons_succ, List.set_cons_zero])
            ((apply head_still rfl; (intro W hW; go_simp; (try rfl))); simp only [Act.put, List.setIfInBounds_toArray, List.set_cons_succ, List.set_cons_zero])
            ((apply head_still rfl; (intro W hW; go_simp; (try rfl))); simp only [Act.put, List.setIfInBounds_toArray, List.set_cons_succ, List.set_cons_zero])
            ((apply head_still rfl; (intro W hW; go_simp; (try rfl))); simp only [Act.put, List.setIfInBounds_toArray, List.set_cons_succ, List.set_cons_zero])
            ((apply head_still rfl; (intro W hW; go_simp; (try rfl))); simp only [Act.put, List.setIfInBounds_toArray, List.set_cons_succ, List.set_cons_zero])
            ((apply head_still rfl; (intro W hW; go_simp; (try rfl))); simp only [Act.put, List.setIfInBounds_toArray, List.set_cons_succ, List.set_cons_zero])
            ((apply head_call rfl; (intro W; go_simp; exact ⟨rfl, rfl⟩); (intro W hW; exact HRS.out W hW)); simp only [Act.put, List.setIfInBounds_toArray, List.set_cons_succ, List.set_cons_zero])
            ((apply head_still rfl; (intro W hW; go_simp; (try rfl))); simp only [Act.put, List.setIfInBounds_toArray, List.set_cons_succ, List.set_cons_zero])
            refine head_nil ?_
            intro W hW hF
            simp only [List.drop_succ_cons, List.drop_zero]
            have hW0 := hW
            have HRO2 := Lib.hid (fun W' (hW' : Below W.heap.size W W') => HRO.out W' (hW0.trans (hW'.mono hW0.size)))
            replace a0 := fun W' (hW' : Below W.heap.size W W') => a0 W' (hW0.trans (hW'.mono hW0.size))
            replace a1 := fun W' (hW' : Below W.heap.size W W') => a1 W' (hW0.trans (hW'.mono hW0.size))
            replace a2 := fun W' (hW' : Below W.heap.size W W') => a2 W' (hW0.trans (hW'.mono hW0.size))
            replace a3 := fun W' (hW' : Below W.heap.size W W') => a3 W' (hW0.trans (hW'.mono hW0.size))
            replace a4 := fun W' (hW' : Below W.heap.size W W') => a4 W' (hW0.trans (hW'.mono hW0.size))
            replace a5 := fun W' (hW' : Below W.heap.size W W') => a5 W' (hW0.trans (hW'.mono hW0.size))
            replace b0 := fun W' (hW' : Below W.heap.size W W') => b0 W' (hW0.trans (hW'.mono hW0.size))
            replace b1 := fun W' (hW' : Below W.heap.size W W') => b1 W' (hW0.trans (hW'.mono hW0.size))
            replace b2 := fun W' (hW' : Below W.heap.size W W') => b2 W' (hW0.trans (hW'.mono hW0.size))
            replace b3 := fun W' (hW' : Below W.heap.size W W') => b3 W' (hW0.trans (hW'.mono hW0.size))
            replace b4 := fun W' (hW' : Below W.heap.size W W') => b4 W' (hW0.trans (hW'.mono hW0.size))
            replace b5 := fun W' (hW' : Below W.heap.size W W') => b5 W' (hW0.trans (hW'.mono hW0.size))
            replace by5 := fun W' (hW' : Below W.heap.size W W') => by5 W' (hW0.trans (hW'.mono hW0.size))
            replace hb := hb.trans (hW.mono hb.size)
            clear hW hW0 hF hx hy HRS HRO
            go_wp2_with fail
            apply wp_region_head 11 80 (hm := by kernel_rfl) (hN := rfl)
            case h =>
              simp only [List.take_succ_cons, List.take_zero]
              ((apply head_still rfl; (intro W hW; go_simp; (try rfl))); simp only [Act.put, List.setIfInBounds_toArray, List.set_cons_succ, List.set_cons_zero])
              ((apply head_still rfl; (intro W hW; go_simp; (try rfl))); simp only [Act.put, List.setIfInBounds_toArray, List.set_cons_succ, List.set_cons_zero])
              ((apply head_still rfl; (intro W hW; go_simp; (try rfl))); simp only [Act.put, List.setIfInBounds_toArray, List.set_cons_succ, List.set_cons_zero])
              ((apply head_still rfl; (intro W hW; go_simp; (try rfl))); simp only [Act.put, List.setIfInBounds_toArray, List.set_cons_succ, List.set_cons_zero])
              ((apply head_still rfl; (intro W hW; go_simp; (try rfl))); simp only [Act.put, List.setIfInBounds_toArray, List.set_cons_succ, List.set_cons_zero])
              ((apply head_still rfl; (intro W hW; go_simp; (try rfl))); simp only [Act.put, List.setIfInBounds_toArray, List.set_cons_succ, List.set_cons_zero])
              ((apply head_call rfl; (intro W; go_simp; exact ⟨rfl, rfl⟩); (intro W hW; exact HRO2.out W hW)); simp only [Act.put, List.setIfInBounds_toArray, List.set_cons_succ, List.set_cons_zero])
              ((apply head_still rfl; (intro W hW; go_simp; (try rfl))); simp only [Act.put, List.setIfInBounds_toArray, List.set_cons_succ, List.set_cons_zero])
              ((apply head_still rfl; (intro W hW; go_simp; (try rfl))); simp only [Act.put, List.setIfInBounds_toArray, List.set_cons_succ, List.set_cons_zero])
              ((apply head_still rfl; (intro W hW; go_simp; (try rfl))); simp only [Act.put, List.setIfInBounds_toArray, List.set_cons_succ, List.set_cons_zero])
              ((apply head_still rfl; (intro W hW; go_simp; (try rfl))); simp only [Act.put, List.setIfInBounds_toArray, List.set_cons_succ, List.set_cons_zero])
              refine head_nil ?_
              intro W hW hF
              simp only [List.drop_succ_cons, List.drop_zero]
              have HM := Lib.hid (hb.trans (hW.mono hb.size))
              clear hW hF a0 a1 a2 a3 a4 a5 b0 b1 b2 b3 b4 b5 by5 hb hnew HRO2
              go_wp2_with fail
              go_ret2
              exact ⟨by rw [HV.out]; rfl, HM.out⟩
            case hB => kernel_rfl
            all_goals rfl
          case hB => kernel_rfl
          all_goals rfl
      · obtain rfl : i = len := by omega
        have c5 := hx.val.2.2.2.2.2
        have d5 := hy.val.2.2.2.2.2
        by_cases hlt' : i < len'
        · have HV := Lib.hid (V3.out _ HL.out.2.1 (by rw [HL'.out.2]; exact hlt') HP.out)
          have q1 : decide (i < len') = true := by simpa using hlt'
          go_wp2_with fail
          go_ret2
          exact ⟨by rw [HV.out]; rfl, hb⟩
        · obtain rfl : i = len' := by omega
          have HV := Lib.hid (V4.out _ HL.out.2.1 HL'.out.2 HP.out)
          go_wp2_with fail
          go_ret2
          exact ⟨by rw [HV.out]; rfl, hb⟩

set_option maxHeartbeats 4000000 in
theorem refCompareV_any (T U : Tree) (x y : Val) (w : World) (hf : fitT T 10 = true) (hf' : fitT U 10 = true) (hr : RdB w w.heap.size T x) (hr' : RdB w w.heap.size U y) :
    Calls Try.prog 20 #[x.v, y.v] w (Ret w (.tuple #[.int .i64 (cmpV T U), .int .i64 (cmpE T U)])) := by
  have HR := Lib.hid (show _ ∧ _ from ⟨hr, hr'⟩)
  have HB := Lib.hid (two_boxes w 26 x y)
  have R1 := Lib.hid (fun W h h' => refBothV_any T U x y W hf hf' h h')
  have R2 := Lib.hid (fun W h1 h2 h h' => refOrd_any 10 T U x y W hf h1 h2 h h')
  have V1 := Lib.hid (show bothV T U ≠ 0 → cmpV T U = 0 ∧ cmpE T U = bothV T U from fun h => ⟨if_pos h, if_pos h⟩)
  have V2 := Lib.hid (show bothV T U = 0 → cmpV T U = (ordT T U).1 ∧ cmpE T U = (ordT T U).2 from fun h => ⟨if_neg (fun n => n h), if_neg (fun n => n h)⟩)
  have HFI := Lib.hid (show bothV T U = 0 → fineT T = true ∧ fineT U = true from fun h => ⟨(valid_parts hf (bothV_ok h).1).2.2, (valid_parts hf' (bothV_ok h).2).2.2⟩)
  obtain ⟨k, q, t, s, A, len, cap⟩ := x
  obtain ⟨k', q', t', s', A', len', cap'⟩ := y
  generalize bothV T U = V at *
  generalize cmpV T U = CV at *
  generalize cmpE T U = CE at *
  clear hr hr' hf hf'
  go_enter Try.func20, Try.ntmps20
  obtain ⟨hb, -, hx, hy⟩ := HB.out
  obtain ⟨c0, c1, c2, c3, c4, c5⟩ := hx.val
  obtain ⟨d0, d1, d2, d3, d4, d5⟩ := hy.val
  go_wp2_with fail
  refine (R1.out _ (HR.out.1.in_ hb hb.size) (HR.out.2.in_ hb hb.size)).mono ?_
  rintro e w1 ⟨rfl, hb1⟩
  replace hx := hx.keep hb1
  replace hy := hy.keep hb1
  replace hb := hb.trans (hb1.mono hb.size)
  clear c0 c1 c2 c3 c4 c5 d0 d1 d2 d3 d4 d5
  clear hb1 HB
  by_cases hV : V = 0
  case neg =>
    have HV := Lib.hid (V1.out hV)
    have q1 : (V != 0) = true := by simpa using hV
    clear hV V1 V2 HFI
    obtain ⟨c0, c1, c2, c3, c4, c5⟩ := hx.val
    obtain ⟨d0, d1, d2, d3, d4, d5⟩ := hy.val
    go_wp2_with fail
    refine (R1.out _ (HR.out.1.in_ hb hb.size) (HR.out.2.in_ hb hb.size)).mono ?_
    rintro e w2 ⟨rfl, hb1⟩
    replace hb := hb.trans (hb1.mono hb.size)
    clear c0 c1 c2 c3 c4 c5 d0 d1 d2 d3 d4 d5
    clear hb1 hx hy
    go_wp2_with fail
    go_ret2
    exact ⟨by rw [HV.out.1, HV.out.2]; rfl, hb⟩
  subst hV
  have HV := Lib.hid (V2.out rfl)
  have hff := HFI.out rfl
  have HFF := Lib.hid hff
  clear hff HFI V1 V2 R1
  obtain ⟨c0, c1, c2, c3, c4, c5⟩ := hx.val
  obtain ⟨d0, d1, d2, d3, d4, d5⟩ := hy.val
  go_wp2_with fail
  refine (R2.out _ HFF.out.1 HFF.out.2 (HR.out.1.in_ hb hb.size) (HR.out.2.in_ hb hb.size)).mono ?_
  rintro e w2 ⟨rfl, hb1⟩
  replace hb := hb.trans (hb1.mono hb.size)
  clear c0 c1 c2 c3 c4 c5 d0 d1 d2 d3 d4 d5
  clear hb1 hx hy R2
  generalize ordT T U = O at HV ⊢
  go_wp2_with fail
  go_ret2
  exact ⟨by rw [HV.out.1, HV.out.2]; rfl, hb⟩

set_option maxHeartbeats 4000000 in
theorem compareV_any (T U : Tree) (x y : Val) (w : World) (hf : fitT T 10 = true) (hf' : fitT U 10 = true) (hr : RdB w w.heap.size T x) (hr' : RdB w w.heap.size U y) :
    Calls Try.prog 19 #[x.v, y.v] w (Ret w (.tuple #[.int .i64 (cmpV T U), .int .i64 (cmpE T U)])) := by
  have HR := Lib.hid (show _ ∧ _ from ⟨hr, hr'⟩)
  have HB := Lib.hid (two_boxes w 26 x y)
  have R1 := Lib.hid (fun W h h' => bothV_any T U x y W hf hf' h h')
  have R2 := Lib.hid (fun W h1 h2 h h' => ord_any 10 T U x y W hf h1 h2 h h')
  have V1 := Lib.hid (show bothV T U ≠ 0 → cmpV T U = 0 ∧ cmpE T U = bothV T U from fun h => ⟨if_pos h, if_pos h⟩)
  have V2 := Lib.hid (show bothV T U = 0 → cmpV T U = (ordT T U).1 ∧ cmpE T U = (ordT T U).2 from fun h => ⟨if_neg (fun n => n h), if_neg (fun n => n h)⟩)
  have HFI := Lib.hid (show bothV T U = 0 → fineT T = true ∧ fineT U = true from fun h => ⟨(valid_parts hf (bothV_ok h).1).2.2, (valid_parts hf' (bothV_ok h).2).2.2⟩)
  obtain ⟨k, q, t, s, A, len, cap⟩ := x
  obtain ⟨k', q', t', s', A', len', cap'⟩ := y
  generalize bothV T U = V at *
  generalize cmpV T U = CV at *
  generalize cmpE T U = CE at *
  clear hr hr' hf hf'
  go_enter Try.func19, Try.ntmps19
  obtain ⟨hb, -, hx, hy⟩ := HB.out
  obtain ⟨c0, c1, c2, c3, c4, c5⟩ := hx.val
  obtain ⟨d0, d1, d2, d3, d4, d5⟩ := hy.val
  go_wp2_with fail
  refine (R1.out _ (HR.out.1.in_ hb hb.size) (HR.out.2.in_ hb hb.size)).mono ?_
  rintro e w1 ⟨rfl, hb1⟩
  replace hx := hx.keep hb1
  replace hy := hy.keep hb1
  replace hb := hb.trans (hb1.mono hb.size)
  clear c0 c1 c2 c3 c4 c5 d0 d1 d2 d3 d4 d5
  clear hb1 HB
  by_cases hV : V = 0
  case neg =>
    have HV := Lib.hid (V1.out hV)
    have q1 : (V != 0) = true := by simpa using hV
    clear hV V1 V2 HFI
    go_wp2_with fail
    go_ret2
    exact ⟨by rw [HV.out.1, HV.out.2]; rfl, hb⟩
  subst hV
  have HV := Lib.hid (V2.out rfl)
  have hff := HFI.out rfl
  have HFF := Lib.hid hff
  clear hff HFI V1 V2 R1
  obtain ⟨c0, c1, c2, c3, c4, c5⟩ := hx.val
  obtain ⟨d0, d1, d2, d3, d4, d5⟩ := hy.val
  go_wp2_with fail
  refine (R2.out _ HFF.out.1 HFF.out.2 (HR.out.1.in_ hb hb.size) (HR.out.2.in_ hb hb.size)).mono ?_
  rintro e w2 ⟨rfl, hb1⟩
  replace hb := hb.trans (hb1.mono hb.size)
  clear c0 c1 c2 c3 c4 c5 d0 d1 d2 d3 d4 d5
  clear hb1 hx hy R2
  generalize ordT T U = O at HV ⊢
  go_wp2_with fail
  go_ret2
  exact ⟨by rw [HV.out.1, HV.out.2]; rfl, hb⟩
end Go.Proofs.Ytjgampkpfjbmdaa
