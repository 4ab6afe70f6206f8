/- Add of the program. -/
import Derived.Test.YtjgampkpfjbmdaaValN
namespace Go.Proofs.Ytjgampkpfjbmdaa
open Go.RowKit Go.Rel

attribute [local irreducible] Go.Rel.Gives in
set_option maxRecDepth 100000 in
set_option maxHeartbeats 8000000 in
theorem addV_any (T U : Tree) (x y : Val) (w : World) (hf : fitT T 10 = true) (hf' : fitT U 10 = true) (hr : RdB w w.heap.size T x) (hr' : RdB w w.heap.size U y) :
    Calls Try.prog 17 #[x.v, y.v] w (RetVE 26 w (addT T U) (addE T U)) := by
  obtain ⟨ka, ys, rfl, ok, hy1, hl, -, -⟩ := id hr.open_
  obtain ⟨kb, zs, rfl, ok', hy1', hl', -, -⟩ := id hr'.open_
  obtain ⟨-, -, hs2, h150, -⟩ := fitT_parts hf
  obtain ⟨-, -, hs2', h150', -⟩ := fitT_parts hf'
  obtain ⟨k, q, t, s, A, len, cap⟩ := x
  obtain ⟨k', q', t', s', A', len', cap'⟩ := y
  have HOK := Lib.hid (show _ ∧ _ from ⟨ok, ok'⟩)
  obtain ⟨hk0, hk1, n0, n1, e0, e1, -, -, hc, -⟩ := ok
  obtain ⟨hk0', hk1', n0', n1', e0', e1', -, -, hc', -⟩ := ok'
  dsimp only at hk0 hk1 hl hs2 h150 hc hk0' hk1' hl' hs2' h150' hc' n0 n1 e0 e1 n0' n1' e0' e1'
  rw [hl] at h150
  rw [hl'] at h150'
  have HL := Lib.hid (show _ ∧ _ from ⟨hl, hl'⟩)
  have HR := Lib.hid (show _ ∧ _ ∧ _ ∧ _ from ⟨hf, hf', hr, hr'⟩)
  have HB := Lib.hid (three_vars w 26 (Val.box ⟨k, q, t, s, A, len, cap⟩) (Val.box ⟨k', q', t', s', A', len', cap'⟩) (Val.box noneV))
  have R1 := Lib.hid (fun W h h' => bothV_any (.node k q t s ka) (.node k' q' t' s' kb) ⟨k, q, t, s, A, len, cap⟩ ⟨k', q', t', s', A', len', cap'⟩ W hf hf' h h')
  have B1 := Lib.hid (@add_bad (.node k q t s ka) (.node k' q' t' s' kb))
  have B2 := Lib.hid (@add_kind (.node k q t s ka) (.node k' q' t' s' kb))
  have HF := Lib.hid (show ∀ (x : Val) (w' : World) (E : Int) (T' : Tree), Fresh w' w.heap.size 26 T' x → Below w.heap.size w w' → (addT (.node k q t s ka) (.node k' q' t' s' kb) = T' ∧ addE (.node k q t s ka) (.node k' q' t' s' kb) = E) → RetVE 26 w (addT (.node k q t s ka) (.node k' q' t' s' kb)) (addE (.node k q t s ka) (.node k' q' t' s' kb)) (.returned (.tuple #[x.v, .int .i64 E])) w' from fun x w' E T' h1 h2 h3 => ⟨x, by rw [h3.2], by rw [h3.1]; exact h1, h2⟩)
  obtain ⟨V, hV⟩ : ∃ V, bothV (.node k q t s ka) (.node k' q' t' s' kb) = V := ⟨_, rfl⟩
  rw [hV] at R1 B1 B2
  have HVV := Lib.hid hV
  clear hf hf' hr hr' hy1 hy1' hl hl' hV
  go_enter Try.func17, Try.ntmps17
  obtain ⟨hb, -, hx, hy, hres⟩ := HB.out
  obtain ⟨c0, c1, c2, c3, c4, c5⟩ := hx.val
  obtain ⟨d0, d1, d2, d3, d4, d5⟩ := hy.val
  go_wp2_with fail
  refine (R1.out _ (HR.out.2.2.1.in_ hb hb.size) (HR.out.2.2.2.in_ hb hb.size)).mono ?_
  rintro e w1 ⟨rfl, hb1⟩
  have hw1 : w.heap.size + 1 + 1 < w1.heap.size := by have := hb1.size; simp at this; omega
  have hw1a : w.heap.size < w1.heap.size := by omega
  have hw1b : w.heap.size + 1 < w1.heap.size := by omega
  replace hx := hx.keep hb1
  replace hy := hy.keep hb1
  replace hres := hres.keep hb1
  replace hb := hb.trans (hb1.mono hb.size)
  clear c0 c1 c2 c3 c4 c5 d0 d1 d2 d3 d4 d5
  clear hb1 HB
  by_cases hVV : V = 0
  case neg =>
    have HV := Lib.hid (B1.out hVV)
    have q1 : (V != 0) = true := by simpa using hVV
    clear hVV
    obtain ⟨r0, r1, r2, r3, r4, r5⟩ := hres.val
    have rf := hres.frozen
    have rl := hres.lt
    have n1 := hres.set6 (.int .u8 0) (.int .i64 0) (.int .i64 0) (.bool false) (.string ⟨#[]⟩) (.slice none 0 0)
    have n2 := below_set6 hb (show w.heap.size ≤ w.heap.size + 1 + 1 by omega) (.int .u8 0) (.int .i64 0) (.int .i64 0) (.bool false) (.string ⟨#[]⟩) (.slice none 0 0)
    have n3 := fun W => fresh_leaf W w.heap.size 26 ok_none
    obtain ⟨k0, k1, k2, k3, k4, k5⟩ := Blk.val (x := ⟨0, ⟨0, 0⟩, false, ⟨#[]⟩, none, 0, 0⟩) n1
    have HN := Lib.hid (show _ ∧ _ from ⟨n2, n3⟩)
    have HKS := Lib.hid (show _ ∧ _ ∧ _ ∧ _ ∧ _ ∧ _ from ⟨k0, k1, k2, k3, k4, k5⟩)
    clear n1 n2 n3 hres k0 k1 k2 k3 k4 k5
    go_wp2_with fail
    obtain ⟨k0, k1, k2, k3, k4, k5⟩ := HKS.out
    exact bodyPost_ret (v := .tuple #[Val.v ⟨0, ⟨0, 0⟩, false, ⟨#[]⟩, none, 0, 0⟩, .int .i64 V]) (by simp [results, Try.results17, go_sem, k0, k1, k2, k3, k4, k5]) rfl (HF.out ⟨0, ⟨0, 0⟩, false, ⟨#[]⟩, none, 0, 0⟩ _ V _ (HN.out.2 _) HN.out.1 HV.out)
  subst hVV
  have HVA := Lib.hid (bothV_ok HVV.out)
  have hva := valid_parts HR.out.1 HVA.out.1
  have hvb := valid_parts HR.out.2.1 HVA.out.2
  have HP := Lib.hid (show _ ∧ _ from ⟨hva, hvb⟩)
  have hca := fine_cases hva.2.2
  have hcb := fine_cases hvb.2.2
  clear hva hvb
  by_cases hkk : k = k'
  case neg =>
    have HV := Lib.hid (B2.out rfl (.inl hkk))
    have q1 : ((k : Int) != k') = true := by simpa using hkk
    clear hkk hca hcb
    obtain ⟨c0, c1, c2, c3, c4, c5⟩ := hx.val
    obtain ⟨d0, d1, d2, d3, d4, d5⟩ := hy.val
    obtain ⟨r0, r1, r2, r3, r4, r5⟩ := hres.val
    have rf := hres.frozen
    have rl := hres.lt
    have n1 := hres.set6 (.int .u8 0) (.int .i64 0) (.int .i64 0) (.bool false) (.string ⟨#[]⟩) (.slice none 0 0)
    have n2 := below_set6 hb (show w.heap.size ≤ w.heap.size + 1 + 1 by omega) (.int .u8 0) (.int .i64 0) (.int .i64 0) (.bool false) (.string ⟨#[]⟩) (.slice none 0 0)
    have n3 := fun W => fresh_leaf W w.heap.size 26 ok_none
    obtain ⟨k0, k1, k2, k3, k4, k5⟩ := Blk.val (x := ⟨0, ⟨0, 0⟩, false, ⟨#[]⟩, none, 0, 0⟩) n1
    have HN := Lib.hid (show _ ∧ _ from ⟨n2, n3⟩)
    have HKS := Lib.hid (show _ ∧ _ ∧ _ ∧ _ ∧ _ ∧ _ from ⟨k0, k1, k2, k3, k4, k5⟩)
    clear n1 n2 n3 hres k0 k1 k2 k3 k4 k5
    go_wp2_with fail
    obtain ⟨k0, k1, k2, k3, k4, k5⟩ := HKS.out
    exact bodyPost_ret (v := .tuple #[Val.v ⟨0, ⟨0, 0⟩, false, ⟨#[]⟩, none, 0, 0⟩, .int .i64 20]) (by simp [results, Try.results17, go_sem, k0, k1, k2, k3, k4, k5]) rfl (HF.out ⟨0, ⟨0, 0⟩, false, ⟨#[]⟩, none, 0, 0⟩ _ 20 _ (HN.out.2 _) HN.out.1 HV.out)
  subst hkk
  have HB2 := Lib.hid (fun h => B2.out rfl (.inr h))
  clear B1 B2 R1
  rcases hca with ⟨rfl, hq, rfl, hs0, rfl⟩ | ⟨rfl, -⟩ | ⟨rfl, rfl, rfl, rfl, hos⟩ | ⟨rfl, rfl, rfl, hs0, hfl⟩
  · have HA := Lib.hid (add_num (q := q) (q' := q') (t := false) (t' := t') (s := s) (s' := s') (ka := []) (kb := kb) HVV.out)
    have RA := Lib.hid (fun W => opAdd_any q q' W ⟨n0, n1, e0, e1⟩ ⟨n0', n1', e0', e1'⟩)
    obtain ⟨E, hE⟩ : ∃ E, opAddE q q' = E := ⟨_, rfl⟩
    obtain ⟨r, hr⟩ : ∃ r, opAddR q q' = r := ⟨_, rfl⟩
    have hr64 : Rat64 r := by rw [← hr]; exact runV_64 _ _ _ _
    rw [hE, hr] at HA RA
    clear hE hr hcb hs0
    have hba := below_alloc w1 (.cells (Val.box ⟨1, ⟨0, 0⟩, false, ⟨#[]⟩, none, 0, 0⟩) 26)
    have hout := Blk.new w1 26 (Val.box ⟨1, ⟨0, 0⟩, false, ⟨#[]⟩, none, 0, 0⟩)
    have HW := Lib.hid (show _ ∧ _ ∧ _ ∧ _ ∧ _ from ⟨hb.trans (hba.mono hb.size), hx.keep hba, hy.keep hba, hres.keep hba, hout⟩)
    have hg7 : w1.heap.size < (w1.alloc (.cells (Val.box ⟨1, ⟨0, 0⟩, false, ⟨#[]⟩, none, 0, 0⟩) 26)).heap.size := by simp
    obtain ⟨c0, c1, c2, c3, c4, c5⟩ := hx.val
    obtain ⟨d0, d1, d2, d3, d4, d5⟩ := hy.val
    clear hb hx hy hres hba hout
    go_wp2_with fail
    clear c0 c1 c2 c3 c4 c5 d0 d1 d2 d3 d4 d5
    generalize World.alloc _ _ = w2 at HW hg7 ⊢
    obtain ⟨hb, hx, hy, hres, hout⟩ := HW.out
    refine (RA.out _).mono ?_
    rintro e w3 ⟨rfl, hb1⟩
    have hg3 : w1.heap.size < w3.heap.size := by have := hb1.size; omega
    have hw3 : w.heap.size + 1 + 1 < w3.heap.size := by omega
    replace hx := hx.keep hb1
    replace hy := hy.keep hb1
    replace hres := hres.keep hb1
    replace hb := hb.trans (hb1.mono hb.size)
    replace hout := hout.keep hb1
    clear hb1 RA HW
    by_cases hE : E = 0
    case neg =>
      have HV := Lib.hid (HA.out.1 hE)
      have q1 : (E != 0) = true := by simpa using hE
      clear hE HA hout
      obtain ⟨r0, r1, r2, r3, r4, r5⟩ := hres.val
      have rf := hres.frozen
      have rl := hres.lt
      have n1 := (hres.set6 (.int .u8 0) (.int .i64 0) (.int .i64 0) (.bool false) (.string ⟨#[]⟩) (.slice none 0 0)).alloc (.cells #[.int .i64 r.n, .int .i64 r.d] 23)
      have n2 := (below_set6 hb (show w.heap.size ≤ w.heap.size + 1 + 1 by omega) (.int .u8 0) (.int .i64 0) (.int .i64 0) (.bool false) (.string ⟨#[]⟩) (.slice none 0 0)).alloc (by simp; exact hb.size) (.cells #[.int .i64 r.n, .int .i64 r.d] 23)
      have n3 := fun W => fresh_leaf W w.heap.size 26 ok_none
      obtain ⟨k0, k1, k2, k3, k4, k5⟩ := Blk.val (x := ⟨0, ⟨0, 0⟩, false, ⟨#[]⟩, none, 0, 0⟩) n1
      have HN := Lib.hid (show _ ∧ _ from ⟨n2, n3⟩)
      have HKS := Lib.hid (show _ ∧ _ ∧ _ ∧ _ ∧ _ ∧ _ from ⟨k0, k1, k2, k3, k4, k5⟩)
      clear n1 n2 n3 hres k0 k1 k2 k3 k4 k5
      go_wp2_with fail
      obtain ⟨k0, k1, k2, k3, k4, k5⟩ := HKS.out
      exact bodyPost_ret (v := .tuple #[Val.v ⟨0, ⟨0, 0⟩, false, ⟨#[]⟩, none, 0, 0⟩, .int .i64 E]) (by simp [results, Try.results17, go_sem, k0, k1, k2, k3, k4, k5]) rfl (HF.out ⟨0, ⟨0, 0⟩, false, ⟨#[]⟩, none, 0, 0⟩ _ E _ (HN.out.2 _) HN.out.1 HV.out)
    subst hE
    have HV := Lib.hid (HA.out.2 rfl)
    have hout2 : Blk ((w3.setCell ⟨w1.heap.size, 1, none⟩ (.int .i64 r.n)).setCell ⟨w1.heap.size, 2, none⟩ (.int .i64 r.d)) w1.heap.size 26 (Val.box ⟨1, r, false, ⟨#[]⟩, none, 0, 0⟩) := (hout.set_ 1 (.int .i64 r.n)).set_ 2 (.int .i64 r.d)
    have hres2 := (hres.far (p := ⟨w1.heap.size, 1, none⟩) (by simp only; omega) (.int .i64 r.n)).far (p := ⟨w1.heap.size, 2, none⟩) (by simp only; omega) (.int .i64 r.d)
    have hb2 := (hb.setCell (p := ⟨w1.heap.size, 1, none⟩) (by simp only; omega) (.int .i64 r.n)).setCell (p := ⟨w1.heap.size, 2, none⟩) (by simp only; omega) (.int .i64 r.d)
    obtain ⟨o0, o1, o2, o3, o4, o5⟩ := hout.val
    have of := hout.frozen
    have hne : w.heap.size + 1 + 1 ≠ w1.heap.size := by omega
    have hne' : w1.heap.size ≠ w.heap.size + 1 + 1 := by omega
    obtain ⟨r0, r1, r2, r3, r4, r5⟩ := hres.val
    have rf := hres.frozen
    have rl := hres.lt
    have n1 := (hres2.set6 (.int .u8 1) (.int .i64 r.n) (.int .i64 r.d) (.bool false) (.string ⟨#[]⟩) (.slice none 0 0)).alloc (.cells #[.int .i64 r.n, .int .i64 r.d] 23)
    have n2 := (below_set6 hb2 (show w.heap.size ≤ w.heap.size + 1 + 1 by omega) (.int .u8 1) (.int .i64 r.n) (.int .i64 r.d) (.bool false) (.string ⟨#[]⟩) (.slice none 0 0)).alloc (by simp; exact Nat.le_trans (by omega) hb.size) (.cells #[.int .i64 r.n, .int .i64 r.d] 23)
    have n3 := fun W => fresh_leaf W w.heap.size 26 (ok_num hr64)
    obtain ⟨k0, k1, k2, k3, k4, k5⟩ := Blk.val (x := ⟨1, r, false, ⟨#[]⟩, none, 0, 0⟩) n1
    have HN := Lib.hid (show _ ∧ _ from ⟨n2, n3⟩)
    have HKS := Lib.hid (show _ ∧ _ ∧ _ ∧ _ ∧ _ ∧ _ from ⟨k0, k1, k2, k3, k4, k5⟩)
    clear n1 n2 n3 hres hres2 hb2 hout hout2 hx hy k0 k1 k2 k3 k4 k5
    go_wp2_with fail
    obtain ⟨k0, k1, k2, k3, k4, k5⟩ := HKS.out
    exact bodyPost_ret (v := .tuple #[Val.v ⟨1, r, false, ⟨#[]⟩, none, 0, 0⟩, .int .i64 0]) (by simp [results, Try.results17, go_sem, k0, k1, k2, k3, k4, k5]) rfl (HF.out ⟨1, r, false, ⟨#[]⟩, none, 0, 0⟩ _ 0 _ (HN.out.2 _) HN.out.1 HV.out)
  · have HV := Lib.hid (HB2.out rfl)
    clear hcb
    obtain ⟨c0, c1, c2, c3, c4, c5⟩ := hx.val
    obtain ⟨d0, d1, d2, d3, d4, d5⟩ := hy.val
    obtain ⟨r0, r1, r2, r3, r4, r5⟩ := hres.val
    have rf := hres.frozen
    have rl := hres.lt
    have n1 := (hres.set6 (.int .u8 0) (.int .i64 0) (.int .i64 0) (.bool false) (.string ⟨#[]⟩) (.slice none 0 0)).alloc (.cells (Val.box ⟨2, ⟨0, 0⟩, false, ⟨#[]⟩, none, 0, 0⟩) 26)
    have n2 := (below_set6 hb (show w.heap.size ≤ w.heap.size + 1 + 1 by omega) (.int .u8 0) (.int .i64 0) (.int .i64 0) (.bool false) (.string ⟨#[]⟩) (.slice none 0 0)).alloc (by simp; exact hb.size) (.cells (Val.box ⟨2, ⟨0, 0⟩, false, ⟨#[]⟩, none, 0, 0⟩) 26)
    have n3 := fun W => fresh_leaf W w.heap.size 26 ok_none
    obtain ⟨k0, k1, k2, k3, k4, k5⟩ := Blk.val (x := ⟨0, ⟨0, 0⟩, false, ⟨#[]⟩, none, 0, 0⟩) n1
    have HN := Lib.hid (show _ ∧ _ from ⟨n2, n3⟩)
    have HKS := Lib.hid (show _ ∧ _ ∧ _ ∧ _ ∧ _ ∧ _ from ⟨k0, k1, k2, k3, k4, k5⟩)
    clear n1 n2 n3 hres k0 k1 k2 k3 k4 k5
    go_wp2_with fail
    obtain ⟨k0, k1, k2, k3, k4, k5⟩ := HKS.out
    exact bodyPost_ret (v := .tuple #[Val.v ⟨0, ⟨0, 0⟩, false, ⟨#[]⟩, none, 0, 0⟩, .int .i64 20]) (by simp [results, Try.results17, go_sem, k0, k1, k2, k3, k4, k5]) rfl (HF.out ⟨0, ⟨0, 0⟩, false, ⟨#[]⟩, none, 0, 0⟩ _ 20 _ (HN.out.2 _) HN.out.1 HV.out)
  · have HA := Lib.hid (add_str (q := ⟨0, 0⟩) (q' := q') (t := false) (t' := t') (s := s) (s' := s') (ka := []) (kb := kb) HVV.out)
    clear hcb hos
    have hss : (s ++ s').size = s.size + s'.size := ByteArray.size_append
    by_cases hbig : 60 < s.size + s'.size
    case pos =>
      have HV := Lib.hid (HA.out.1 hbig)
      have q1 : decide ((60 : Int) < (s.size : Int) + (s'.size : Int)) = true := by simp; omega
      have q2 : decide ((60 : Int) < ((s ++ s').size : Int)) = true := by rw [hss]; simp; omega
      clear hbig HA hss
      obtain ⟨c0, c1, c2, c3, c4, c5⟩ := hx.val
      obtain ⟨d0, d1, d2, d3, d4, d5⟩ := hy.val
      obtain ⟨r0, r1, r2, r3, r4, r5⟩ := hres.val
      have rf := hres.frozen
      have rl := hres.lt
      have n1 := (hres.set6 (.int .u8 0) (.int .i64 0) (.int .i64 0) (.bool false) (.string ⟨#[]⟩) (.slice none 0 0)).alloc (.cells (Val.box ⟨3, ⟨0, 0⟩, false, s ++ s', none, 0, 0⟩) 26)
      have n2 := (below_set6 hb (show w.heap.size ≤ w.heap.size + 1 + 1 by omega) (.int .u8 0) (.int .i64 0) (.int .i64 0) (.bool false) (.string ⟨#[]⟩) (.slice none 0 0)).alloc (by simp; exact hb.size) (.cells (Val.box ⟨3, ⟨0, 0⟩, false, s ++ s', none, 0, 0⟩) 26)
      have n3 := fun W => fresh_leaf W w.heap.size 26 ok_none
      obtain ⟨k0, k1, k2, k3, k4, k5⟩ := Blk.val (x := ⟨0, ⟨0, 0⟩, false, ⟨#[]⟩, none, 0, 0⟩) n1
      have HN := Lib.hid (show _ ∧ _ from ⟨n2, n3⟩)
      have HKS := Lib.hid (show _ ∧ _ ∧ _ ∧ _ ∧ _ ∧ _ from ⟨k0, k1, k2, k3, k4, k5⟩)
      clear n1 n2 n3 hres k0 k1 k2 k3 k4 k5
      go_wp2_with fail
      obtain ⟨k0, k1, k2, k3, k4, k5⟩ := HKS.out
      exact bodyPost_ret (v := .tuple #[Val.v ⟨0, ⟨0, 0⟩, false, ⟨#[]⟩, none, 0, 0⟩, .int .i64 4]) (by simp [results, Try.results17, go_sem, k0, k1, k2, k3, k4, k5]) rfl (HF.out ⟨0, ⟨0, 0⟩, false, ⟨#[]⟩, none, 0, 0⟩ _ 4 _ (HN.out.2 _) HN.out.1 HV.out)
    have HV := Lib.hid (HA.out.2 hbig)
    have q1 : decide ((60 : Int) < (s.size : Int) + (s'.size : Int)) = false := by simp; omega
    have q2 : decide ((60 : Int) < ((s ++ s').size : Int)) = false := by rw [hss]; simp; omega
    have HSS := Lib.hid (show (s ++ s').size ≤ 9223372036854775807 by rw [hss]; omega)
    clear hbig HA hss
    obtain ⟨c0, c1, c2, c3, c4, c5⟩ := hx.val
    obtain ⟨d0, d1, d2, d3, d4, d5⟩ := hy.val
    obtain ⟨r0, r1, r2, r3, r4, r5⟩ := hres.val
    have rf := hres.frozen
    have rl := hres.lt
    have n1 := (hres.set6 (.int .u8 3) (.int .i64 0) (.int .i64 0) (.bool false) (.string (s ++ s')) (.slice none 0 0)).alloc (.cells (Val.box ⟨3, ⟨0, 0⟩, false, s ++ s', none, 0, 0⟩) 26)
    have n2 := (below_set6 hb (show w.heap.size ≤ w.heap.size + 1 + 1 by omega) (.int .u8 3) (.int .i64 0) (.int .i64 0) (.bool false) (.string (s ++ s')) (.slice none 0 0)).alloc (by simp; exact Nat.le_trans (by omega) hb.size) (.cells (Val.box ⟨3, ⟨0, 0⟩, false, s ++ s', none, 0, 0⟩) 26)
    have n3 := fun W => fresh_leaf W w.heap.size 26 (ok_str HSS.out)
    obtain ⟨k0, k1, k2, k3, k4, k5⟩ := Blk.val (x := ⟨3, ⟨0, 0⟩, false, s ++ s', none, 0, 0⟩) n1
    have HN := Lib.hid (show _ ∧ _ from ⟨n2, n3⟩)
    have HKS := Lib.hid (show _ ∧ _ ∧ _ ∧ _ ∧ _ ∧ _ from ⟨k0, k1, k2, k3, k4, k5⟩)
    clear n1 n2 n3 hres k0 k1 k2 k3 k4 k5
    go_wp2_with fail
    obtain ⟨k0, k1, k2, k3, k4, k5⟩ := HKS.out
    exact bodyPost_ret (v := .tuple #[Val.v ⟨3, ⟨0, 0⟩, false, s ++ s', none, 0, 0⟩, .int .i64 0]) (by simp [results, Try.results17, go_sem, k0, k1, k2, k3, k4, k5]) rfl (HF.out ⟨3, ⟨0, 0⟩, false, s ++ s', none, 0, 0⟩ _ 0 _ (HN.out.2 _) HN.out.1 HV.out)
  · have HA := Lib.hid (add_list (q := ⟨0, 0⟩) (q' := q') (t := false) (t' := t') (s := s) (s' := s') (ka := ka) (kb := kb) HVV.out)
    obtain rfl : s = ⟨#[]⟩ := str_zero hs0
    have HRT := Lib.hid (fun W h => twin_any 10 (.node 4 ⟨0, 0⟩ false ⟨#[]⟩ ka) ⟨4, ⟨0, 0⟩, false, ⟨#[]⟩, A, len, cap⟩ W HR.out.1 h)
    have HRU := Lib.hid (fun W h => twin_any 10 (.node 4 q' t' s' kb) ⟨4, q', t', s', A', len', cap'⟩ W HR.out.2.1 h)
    have HMT := fun W h => measure_any 10 (.node 4 ⟨0, 0⟩ false ⟨#[]⟩ ka) ⟨4, ⟨0, 0⟩, false, ⟨#[]⟩, A, len, cap⟩ W (Nat.le_refl _) HR.out.1 h
    have HMU := fun W h => measure_any 10 (.node 4 q' t' s' kb) ⟨4, q', t', s', A', len', cap'⟩ W (Nat.le_refl _) HR.out.2.1 h
    obtain ⟨PA, hPA⟩ : ∃ PA, partsL ka = PA := ⟨_, rfl⟩
    obtain ⟨PB, hPB⟩ : ∃ PB, partsL kb = PB := ⟨_, rfl⟩
    have hpa : partsT (.node 4 ⟨0, 0⟩ false ⟨#[]⟩ ka) = PA + 1 := by unfold partsT; rw [if_pos rfl, hPA]; omega
    have hpb : partsT (.node 4 q' t' s' kb) = PB + 1 := by unfold partsT; rw [if_pos rfl, hPB]; omega
    have hPA1 : PA ≤ 99 := by have := HP.out.1.1; omega
    have hPB1 : PB ≤ 99 := by have := HP.out.2.1; omega
    rw [hpa, w64_small (by omega)] at HMT
    rw [hpb, w64_small (by omega)] at HMU
    have HA2 := HA.out
    rw [partsL_append, hPA, hPB] at HA2
    have HAA := Lib.hid HA2
    have HMTT := Lib.hid HMT
    have HMUU := Lib.hid HMU
    clear hcb hfl hs0 HMT HMU hPA hPB hpa hpb HA HA2
    have hba := below_alloc w1 (.cells (Val.box ⟨4, ⟨0, 0⟩, false, ⟨#[]⟩, none, 0, 0⟩) 26)
    have hout := Blk.new w1 26 (Val.box ⟨4, ⟨0, 0⟩, false, ⟨#[]⟩, none, 0, 0⟩)
    have HW := Lib.hid (show _ ∧ _ ∧ _ ∧ _ ∧ _ from ⟨hb.trans (hba.mono hb.size), hx.keep hba, hy.keep hba, hres.keep hba, hout⟩)
    have hg7 : w1.heap.size < (w1.alloc (.cells (Val.box ⟨4, ⟨0, 0⟩, false, ⟨#[]⟩, none, 0, 0⟩) 26)).heap.size := by simp
    obtain ⟨c0, c1, c2, c3, c4, c5⟩ := hx.val
    obtain ⟨d0, d1, d2, d3, d4, d5⟩ := hy.val
    clear hb hx hy hres hba hout
    go_wp2_with fail
    clear c0 c1 c2 c3 c4 c5 d0 d1 d2 d3 d4 d5
    generalize World.alloc _ _ = w2 at HW hg7 ⊢
    obtain ⟨hb, hx, hy, hres, hout⟩ := HW.out
    refine (HMTT.out _ (HR.out.2.2.1.in_ hb hb.size)).mono ?_
    rintro e w3 ⟨rfl, hb1⟩
    have hg3 : w1.heap.size < w3.heap.size := by have := hb1.size; omega
    replace hx := hx.keep hb1
    replace hy := hy.keep hb1
    replace hres := hres.keep hb1
    replace hb := hb.trans (hb1.mono hb.size)
    replace hout := hout.keep hb1
    clear hb1 HW HMTT
    obtain ⟨c0, c1, c2, c3, c4, c5⟩ := hx.val
    obtain ⟨d0, d1, d2, d3, d4, d5⟩ := hy.val
    go_wp2_with fail
    refine (HMUU.out _ (HR.out.2.2.2.in_ hb hb.size)).mono ?_
    rintro e w4 ⟨rfl, hb1⟩
    have hg4 : w1.heap.size < w4.heap.size := by have := hb1.size; omega
    replace hx := hx.keep hb1
    replace hy := hy.keep hb1
    replace hres := hres.keep hb1
    replace hb := hb.trans (hb1.mono hb.size)
    replace hout := hout.keep hb1
    clear hb1 HMUU
    clear c0 c1 c2 c3 c4 c5 d0 d1 d2 d3 d4 d5
    by_cases hbig : 100 < 1 + (PA + PB)
    case pos =>
      have HV := Lib.hid (HAA.out.1 hbig)
      have q1 : decide ((101 : Int) < (PA : Int) + 1 + ((PB : Int) + 1)) = true := by simp; omega
      have q2 : decide ((100 : Int) < (PA : Int) + 1 + ((PB : Int) + 1) - 1) = true := by simp; omega
      clear hbig HAA hout
      obtain ⟨r0, r1, r2, r3, r4, r5⟩ := hres.val
      have rf := hres.frozen
      have rl := hres.lt
      have n1 := hres.set6 (.int .u8 0) (.int .i64 0) (.int .i64 0) (.bool false) (.string ⟨#[]⟩) (.slice none 0 0)
      have n2 := below_set6 hb (show w.heap.size ≤ w.heap.size + 1 + 1 by omega) (.int .u8 0) (.int .i64 0) (.int .i64 0) (.bool false) (.string ⟨#[]⟩) (.slice none 0 0)
      have n3 := fun W => fresh_leaf W w.heap.size 26 ok_none
      obtain ⟨k0, k1, k2, k3, k4, k5⟩ := Blk.val (x := ⟨0, ⟨0, 0⟩, false, ⟨#[]⟩, none, 0, 0⟩) n1
      have HN := Lib.hid (show _ ∧ _ from ⟨n2, n3⟩)
      have HKS := Lib.hid (show _ ∧ _ ∧ _ ∧ _ ∧ _ ∧ _ from ⟨k0, k1, k2, k3, k4, k5⟩)
      clear n1 n2 n3 hres k0 k1 k2 k3 k4 k5
      go_wp2_with fail
      obtain ⟨k0, k1, k2, k3, k4, k5⟩ := HKS.out
      exact bodyPost_ret (v := .tuple #[Val.v ⟨0, ⟨0, 0⟩, false, ⟨#[]⟩, none, 0, 0⟩, .int .i64 4]) (by simp [results, Try.results17, go_sem, k0, k1, k2, k3, k4, k5]) rfl (HF.out ⟨0, ⟨0, 0⟩, false, ⟨#[]⟩, none, 0, 0⟩ _ 4 _ (HN.out.2 _) HN.out.1 HV.out)
    have HV := Lib.hid (HAA.out.2 hbig)
    have q1 : decide ((101 : Int) < (PA : Int) + 1 + ((PB : Int) + 1)) = false := by simp; omega
    have q2 : decide ((100 : Int) < (PA : Int) + 1 + ((PB : Int) + 1) - 1) = false := by simp; omega
    clear hbig HAA
    have cx0 : ∀ W, Below w4.heap.size w4 W → W.cell? ⟨w.heap.size, 0, none⟩ = some (.int .u8 4) := fun W hW => (hx.keep hW).cell rfl
    have cx1 : ∀ W, Below w4.heap.size w4 W → W.cell? ⟨w.heap.size, 1, none⟩ = some (.int .i64 0) := fun W hW => (hx.keep hW).cell rfl
    have cx2 : ∀ W, Below w4.heap.size w4 W → W.cell? ⟨w.heap.size, 2, none⟩ = some (.int .i64 0) := fun W hW => (hx.keep hW).cell rfl
    have cx3 : ∀ W, Below w4.heap.size w4 W → W.cell? ⟨w.heap.size, 3, none⟩ = some (.bool false) := fun W hW => (hx.keep hW).cell rfl
    have cx4 : ∀ W, Below w4.heap.size w4 W → W.cell? ⟨w.heap.size, 4, none⟩ = some (.string ⟨#[]⟩) := fun W hW => (hx.keep hW).cell rfl
    have cx5 : ∀ W, Below w4.heap.size w4 W → W.cell? ⟨w.heap.size, 5, none⟩ = some (.slice A len cap) := fun W hW => (hx.keep hW).cell rfl
    have cy0 : ∀ W, Below w4.heap.size w4 W → W.cell? ⟨w.heap.size + 1, 0, none⟩ = some (.int .u8 4) := fun W hW => (hy.keep hW).cell rfl
    have cy1 : ∀ W, Below w4.heap.size w4 W → W.cell? ⟨w.heap.size + 1, 1, none⟩ = some (.int .i64 q'.n) := fun W hW => (hy.keep hW).cell rfl
    have cy2 : ∀ W, Below w4.heap.size w4 W → W.cell? ⟨w.heap.size + 1, 2, none⟩ = some (.int .i64 q'.d) := fun W hW => (hy.keep hW).cell rfl
    have cy3 : ∀ W, Below w4.heap.size w4 W → W.cell? ⟨w.heap.size + 1, 3, none⟩ = some (.bool t') := fun W hW => (hy.keep hW).cell rfl
    have cy4 : ∀ W, Below w4.heap.size w4 W → W.cell? ⟨w.heap.size + 1, 4, none⟩ = some (.string s') := fun W hW => (hy.keep hW).cell rfl
    have cy5 : ∀ W, Below w4.heap.size w4 W → W.cell? ⟨w.heap.size + 1, 5, none⟩ = some (.slice A' len' cap') := fun W hW => (hy.keep hW).cell rfl
    have HRT2 := Lib.hid (fun W (hW : Below w4.heap.size w4 W) => HRT.out W (HR.out.2.2.1.in_ (hb.trans (hW.mono hb.size)) (Nat.le_trans hb.size hW.size)))
    have HRU2 := Lib.hid (fun W (hW : Below w4.heap.size w4 W) => HRU.out W (HR.out.2.2.2.in_ (hb.trans (hW.mono hb.size)) (Nat.le_trans hb.size hW.size)))
    go_wp2_with fail
    apply wp_region_head 6 89 (hm := by kernel_rfl) (hN := rfl)
    case h =>
      simp only [List.take_succ_cons, List.take_zero]
      ((apply head_still rfl; (intro W hW; go_simp; (try rfl))); simp only [Act.put, List.setIfInBounds_toArray, List.set_cons_succ, List.set_cons_zero])
      apply head_mem [] (TwnV w4.heap.size 26 (.node 4 ⟨0, 0⟩ false ⟨#[]⟩ ka)) (by kernel_rfl) (fun _ _ _ h hb => h.below hb)
      · intro W hW _
        unfold Gives
        go_simp
        exact (HRT2.out W hW).mono fun e W' ⟨x', h1, h2, h3⟩ => ⟨_, h1, ⟨x', rfl, h2.keep hW.size (fun _ _ _ => rfl)⟩, h3⟩
      intro va
      simp only [Act.put, List.setIfInBounds_toArray, List.set_cons_succ, List.set_cons_zero]
      apply head_memU [1] (fun e v _ => v = sliceOf (e 1)) (by kernel_rfl) (fun _ _ _ _ h _ => h)
      · intro W hW hk
        obtain ⟨x', rfl, -⟩ := hk.1 (by simp)
        unfold Gives
        go_simp
        exact ⟨rfl, Below.refl _ _⟩
      intro vsa
      simp only [Act.put, List.setIfInBounds_toArray, List.set_cons_succ, List.set_cons_zero]
      ((apply head_still rfl; (intro W hW; go_simp; (try rfl))); simp only [Act.put, List.setIfInBounds_toArray, List.set_cons_succ, List.set_cons_zero])
      apply head_memU [1] (fun e v W => ∃ (c2 : Nat) (x' : Val), v = x'.v ∧ Twn W c2 26 (.node 4 q' t' s' kb) x' ∧ (∀ b, (sliceOf (e 1)).ownBlock = some b → b < c2) ∧ w4.heap.size ≤ c2 ∧ c2 ≤ W.heap.size) (by kernel_rfl) (fun _ _ _ _ ⟨c2, x', h1, h2, h3, h4, h5⟩ hb => ⟨c2, x', h1, h2.below hb, h3, h4, Nat.le_trans h5 hb.size⟩)
      · intro W hW hk
        obtain ⟨xa, rfl, hta⟩ := hk.2.1 (by simp)
        have hlta : ∀ b, (Value.slice xa.A xa.len xa.cap).ownBlock = some b → b < W.heap.size := by
          obtain ⟨_, _, _, _, h⟩ := hta
          exact fun b hb => (h.lt b hb).2
        unfold Gives
        go_simp
        exact (HRU2.out W hW).mono fun e W' ⟨x', h1, h2, h3⟩ => ⟨_, h1, ⟨W.heap.size, x', rfl, h2, hlta, hW.size, h3.size⟩, h3⟩
      intro vb
      simp only [Act.put, List.setIfInBounds_toArray, List.set_cons_succ, List.set_cons_zero]
      apply head_memU [4] (fun e v _ => v = sliceOf (e 4)) (by kernel_rfl) (fun _ _ _ _ h _ => h)
      · intro W hW hk
        obtain ⟨c2, x', rfl, -⟩ := hk.1 (by simp)
        unfold Gives
        go_simp
        exact ⟨rfl, Below.refl _ _⟩
      intro vsb
      refine head_nil ?_
      intro W hW hF
      obtain ⟨hvsb, ⟨c2, xb, rfl, htb, hsep, hc2, hc3⟩, hvsa, ⟨xa, rfl, hta⟩, -⟩ := hF
      obtain rfl : vsa = Value.slice xa.A xa.len xa.cap := hvsa
      obtain rfl : vsb = Value.slice xb.A xb.len xb.cap := hvsb
      replace hsep : ∀ b, (Value.slice xa.A xa.len xa.cap).ownBlock = some b → b < c2 := hsep
      clear cx0 cx1 cx2 cx3 cx4 cx5 cy0 cy1 cy2 cy3 cy4 cy5
      obtain ⟨k3, q3, t3, s3, A3, m3, cap3⟩ := xa
      obtain ⟨ka3, hT3, ok3, hm3, htw3⟩ := hta
      injection hT3 with j1 j2 j3 j4 j5
      dsimp only at j1 j2 j3 j4 hm3 htw3 hsep
      subst j1 j2 j3 j4 j5
      obtain rfl : m3 = len := by rw [← hm3, HL.out.1]
      obtain ⟨k6, q6, t6, s6, A6, m6, cap6⟩ := xb
      obtain ⟨kb6, hT6, ok6, hm6, htw6⟩ := htb
      injection hT6 with j1 j2 j3 j4 j5
      dsimp only at j1 j2 j3 j4 hm6 htw6
      subst j1 j2 j3 j4 j5
      obtain rfl : m6 = len' := by rw [← hm6, HL.out.2]
      have hlt3 := htw3.lt
      have htq := htw3.q (Q := fun b => w4.heap.size ≤ b) (fun b h _ => h)
      replace hx := hx.keep hW
      replace hy := hy.keep hW
      replace hres := hres.keep hW
      replace hb := hb.trans (hW.mono hb.size)
      replace hout := hout.keep hW
      have hsW := hW.size
      obtain ⟨i0, hi0, hz0, hz1, hz2⟩ := info_parts Try.infoVal
      simp only [List.drop_succ_cons, List.drop_zero, Act.put, List.setIfInBounds_toArray, List.set_cons_succ, List.set_cons_zero]
      refine wpList_append_tw rfl _ _ 24 rfl w4.heap.size c2 (fun b => w4.heap.size ≤ b) 26 i0 noneV.v 72 Try.underlying24 hi0 hz0 hz1 hz2 rfl (.slice A3 m3 cap3) (.slice A6 m6 cap6) m3 m6 ka kb rfl rfl hm3 htq htw6 hsep (fun b h1 _ => Nat.le_trans hc2 h1) hc3 (by unfold maxLen; omega) (by omega) (by omega) ?_
      intro v' w7 htw7 hgrow
      have far : ∀ k, k < w4.heap.size → w7.heap[k]? = W.heap[k]? := fun k hk => hgrow.block k (by omega) (fun h => by have := (hlt3 k h.symm).1; omega)
      have hout7 : Blk w7 _ _ _ := (far _ (by omega)).trans hout
      have hb7 := hb.grown hgrow (by omega) (fun r hr => by have := (hlt3 r hr).1; omega)
      have hres7 : Blk w7 _ _ _ := (far _ (by omega)).trans hres
      have hsz7 := hgrow.size
      have hgl : w1.heap.size < w7.heap.size := by omega
      have htw8 := htw7.keep (w' := w7.setCell ⟨w1.heap.size, 5, none⟩ v') (fun b h _ => Below.heap_setCell _ _ _ _ (by simp only; omega))
      obtain ⟨A7, cap7, rfl, hfr⟩ := htw8.done (base' := w4.heap.size) (by simp [hm3, hm6]) (fun b h => h) ok_list
      have o8 : Blk (w7.setCell ⟨w1.heap.size, 5, none⟩ (.slice A7 (m3 + m6) cap7)) w1.heap.size 26 (Val.box ⟨4, ⟨0, 0⟩, false, ⟨#[]⟩, A7, m3 + m6, cap7⟩) := hout7.set_ 5 _
      replace hb := hb7.setCell (p := ⟨w1.heap.size, 5, none⟩) (by simp only; omega) (.slice A7 (m3 + m6) cap7)
      have hresO := Lib.hid hres7
      replace hres := hres7.far (p := ⟨w1.heap.size, 5, none⟩) (by simp only; omega) (.slice A7 (m3 + m6) cap7)
      obtain ⟨o0, o1, o2, o3, o4, o5⟩ := hout7.val
      have of := hout7.frozen
      obtain ⟨r0, r1, r2, r3, r4, r5⟩ := hres7.val
      have rf := hres7.frozen
      have rl := hres7.lt
      have hne : w.heap.size + 1 + 1 ≠ w1.heap.size := by omega
      have hne' : w1.heap.size ≠ w.heap.size + 1 + 1 := by omega
      have n1 := hres.set6 (.int .u8 4) (.int .i64 0) (.int .i64 0) (.bool false) (.string ⟨#[]⟩) (.slice A7 (m3 + m6) cap7)
      have n2 := below_set6 hb (show w.heap.size ≤ w.heap.size + 1 + 1 by omega) (.int .u8 4) (.int .i64 0) (.int .i64 0) (.bool false) (.string ⟨#[]⟩) (.slice A7 (m3 + m6) cap7)
      have n3 := hfr.keep (w' := _) (show w.heap.size ≤ w4.heap.size by omega) (fun b hb _ => far_set6 (w := w7.setCell ⟨w1.heap.size, 5, none⟩ (.slice A7 (m3 + m6) cap7)) (g := w.heap.size + 1 + 1) (k := b) (by omega) (.int .u8 4) (.int .i64 0) (.int .i64 0) (.bool false) (.string ⟨#[]⟩) (.slice A7 (m3 + m6) cap7))
      obtain ⟨k0, k1, k2, k3, k4, k5⟩ := Blk.val (x := ⟨4, ⟨0, 0⟩, false, ⟨#[]⟩, A7, m3 + m6, cap7⟩) n1
      have HN := Lib.hid (show _ ∧ _ from ⟨n2, n3⟩)
      have HKS := Lib.hid (show _ ∧ _ ∧ _ ∧ _ ∧ _ ∧ _ from ⟨k0, k1, k2, k3, k4, k5⟩)
      clear n1 n2 n3 k0 k1 k2 k3 k4 k5 hb hx hy hres hout htw3 htw6 htw7 htw8 htq hgrow far hout7 hb7 hres7 hfr o8 hi0 hz0 hz1 hz2 HRT HRU HRT2 HRU2 hlt3 hsep
      go_wp2_with fail
      obtain ⟨k0, k1, k2, k3, k4, k5⟩ := HKS.out
      exact bodyPost_ret (v := .tuple #[Val.v ⟨4, ⟨0, 0⟩, false, ⟨#[]⟩, A7, m3 + m6, cap7⟩, .int .i64 0]) (by simp [results, Try.results17, go_sem, k0, k1, k2, k3, k4, k5]) rfl (HF.out ⟨4, ⟨0, 0⟩, false, ⟨#[]⟩, A7, m3 + m6, cap7⟩ _ 0 _ HN.out.2 HN.out.1 HV.out)
    case hB => kernel_rfl
    all_goals rfl
end Go.Proofs.Ytjgampkpfjbmdaa
