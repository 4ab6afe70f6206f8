/- At on both sides. -/
import Derived.Test.YtjgampkpfjbmdaaValI
namespace Go.Proofs.Ytjgampkpfjbmdaa
open Go.RowKit Go.Rel

theorem len_kinds {k : Int} {q : Rat2} {t : Bool} {s : ByteArray} {kids : List Tree} {len : Nat} (h : lenE (.node k q t s kids) = 0) (hl : kids.length = len) : (k = 3 ∧ lenN (.node k q t s kids) = s.size) ∨ (k = 4 ∧ lenN (.node k q t s kids) = len) := by
  subst hl
  have hc : chkT (.node k q t s kids) = 0 := by
    by_cases hc : chkT (.node k q t s kids) = 0
    · exact hc
    · rw [(lenE_bad hc).2] at h; exact absurd h hc
  by_cases h3 : k = 3
  · subst h3; exact .inl ⟨rfl, (lenE_str hc).1⟩
  by_cases h4 : k = 4
  · subst h4; exact .inr ⟨rfl, (lenE_list hc).1⟩
  rw [(lenE_else hc h3 h4).2] at h
  omega

set_option maxHeartbeats 4000000 in
theorem refAt_any (T : Tree) (x : Val) (i : Int) (w : World) (hi0 : -9223372036854775808 ≤ i) (hi1 : i ≤ 9223372036854775807) (hf : fitT T 10 = true) (hr : RdB w w.heap.size T x) :
    Calls Try.prog 10 #[x.v, .int .i64 i] w (RetVE 26 w (atT T i) (atE T i)) := by
  obtain ⟨kids, ys, rfl, ok, hy, hl, hrec, hk⟩ := id hr.open_
  obtain ⟨e, he, hs2, h150, hkf⟩ := fitT_parts hf
  obtain rfl : 9 = e := by omega
  have HR := Lib.hid (show _ ∧ _ from ⟨hf, hr⟩)
  obtain ⟨k, q, t, s, A, len, cap⟩ := x
  obtain ⟨hk0, hk1, -, -, -, -, -, -, hc, -⟩ := ok
  dsimp only at hk0 hk1 hy hl hs2 h150 hc hrec hk
  rw [hl] at h150
  have HL := Lib.hid (show _ ∧ _ ∧ _ from ⟨hy, hl, hkf⟩)
  have HK := Lib.hid (show _ ∧ _ from ⟨hrec, hk⟩)
  have HB := Lib.hid (two_vars w 26 26 ⟨k, q, t, s, A, len, cap⟩ (Val.box noneV))
  have R1 := Lib.hid (fun W h => refLen_any (.node k q t s kids) ⟨k, q, t, s, A, len, cap⟩ W hf h)
  have B1 := Lib.hid (@at_bad (.node k q t s kids) i)
  have B2 := Lib.hid (@at_out (.node k q t s kids) i)
  have B3 := Lib.hid (show lenE (.node k q t s kids) = 0 → (k = 3 ∧ lenN (.node k q t s kids) = s.size) ∨ (k = 4 ∧ lenN (.node k q t s kids) = len) from fun h => len_kinds h (by rw [← hl]))
  have HF := Lib.hid (show ∀ (x : Val) (w' : World) (E : Int) (T' : Tree), Fresh w' w.heap.size 26 T' x → Below w.heap.size w w' → (atT (.node k q t s kids) i = T' ∧ atE (.node k q t s kids) i = E) → RetVE 26 w (atT (.node k q t s kids) i) (atE (.node k q t s kids) i) (.returned (.tuple #[x.v, .int .i64 E])) w' from fun x w' E T' h1 h2 h3 => ⟨x, by rw [h3.2], by rw [h3.1]; exact h1, h2⟩)
  have B4 := Lib.hid (show k = 4 → ∀ (j : Nat) (y : Tree), lenE (.node k q t s kids) = 0 → ¬ (lenN (.node k q t s kids) ≤ j) → kids[j]? = some y → atT (.node k q t s kids) j = y ∧ atE (.node k q t s kids) j = 0 from fun h j y => by subst h; exact at_list)
  have B5 := Lib.hid (show k = 3 → ∀ (j : Nat), lenE (.node k q t s kids) = 0 → ¬ (lenN (.node k q t s kids) ≤ j) → atT (.node k q t s kids) j = tStr (s.extract j (j + 1)) ∧ atE (.node k q t s kids) j = 0 from fun h j => by subst h; exact at_str)
  clear hf hr hy hl hkf hrec hk he
  generalize lenE (.node k q t s kids) = E at *
  generalize lenN (.node k q t s kids) = N at *
  go_enter Try.func10, Try.ntmps10
  obtain ⟨hb0, hblk0, hres0⟩ := HB.out
  obtain ⟨c0, c1, c2, c3, c4, c5⟩ := hblk0.val
  go_wp2_with fail
  refine (R1.out _ (HR.out.2.in_ hb0 hb0.size)).mono ?_
  rintro e w2 ⟨rfl, hb2⟩
  have hb3 := hb0.trans (hb2.mono hb0.size)
  have hblk2 := hblk0.keep hb2
  have hres := hres0.keep hb2
  clear hb0 hb2 hblk0 hres0 c0 c1 c2 c3 c4 c5 HB
  obtain ⟨r0, r1, r2, r3, r4, r5⟩ := hres.val
  have rf := hres.frozen
  have rl := hres.lt
  by_cases hE : E = 0
  case neg =>
    obtain ⟨a1, a2⟩ := B1.out hE
    have HV := Lib.hid (show _ ∧ _ from ⟨a1, a2⟩)
    have q1 : (E != 0) = true := by simpa using hE
    clear hE a1 a2 hblk2
    have n1 := hres.set6 (.int .u8 0) (.int .i64 0) (.int .i64 0) (.bool false) (.string ⟨#[]⟩) (.slice none 0 0)
    have n2 := below_set6 hb3 (show w.heap.size ≤ w.heap.size + 1 by omega) (.int .u8 0) (.int .i64 0) (.int .i64 0) (.bool false) (.string ⟨#[]⟩) (.slice none 0 0)
    have n3 := fresh_leaf (((((((w2.setCell ⟨w.heap.size + 1, 0, none⟩ (.int .u8 0)).setCell ⟨w.heap.size + 1, 1, none⟩ (.int .i64 0)).setCell ⟨w.heap.size + 1, 2, none⟩ (.int .i64 0)).setCell ⟨w.heap.size + 1, 3, none⟩ (.bool false)).setCell ⟨w.heap.size + 1, 4, none⟩ (.string ⟨#[]⟩)).setCell ⟨w.heap.size + 1, 5, none⟩ (.slice none 0 0))) w.heap.size 26 ok_none
    obtain ⟨k0, k1, k2, k3, k4, k5⟩ := Blk.val (x := ⟨0, ⟨0, 0⟩, false, ⟨#[]⟩, none, 0, 0⟩) n1
    have HN := Lib.hid (show _ ∧ _ from ⟨n2, n3⟩)
    clear n1 n2 n3 hres
    go_wp2_with fail
    exact bodyPost_ret (v := .tuple #[Val.v ⟨0, ⟨0, 0⟩, false, ⟨#[]⟩, none, 0, 0⟩, .int .i64 E]) (by simp [results, Try.results10, go_sem, k0, k1, k2, k3, k4, k5]) rfl (HF.out ⟨0, ⟨0, 0⟩, false, ⟨#[]⟩, none, 0, 0⟩ _ E _ HN.out.2 HN.out.1 HV.out)
  subst hE
  by_cases hout : i < 0 ∨ N ≤ i
  case pos =>
    obtain ⟨a1, a2⟩ := B2.out rfl hout
    have HV := Lib.hid (show _ ∧ _ from ⟨a1, a2⟩)
    have hcase : decide (i < 0) = true ∨ (decide (i < 0) = false ∧ decide (N ≤ i) = true) := by
      by_cases h : i < 0
      · exact .inl (by simpa using h)
      · exact .inr ⟨by simpa using h, by simp; omega⟩
    clear hout a1 a2 hblk2 B1 B2 B3 B4 B5
    have n1 := hres.set6 (.int .u8 0) (.int .i64 0) (.int .i64 0) (.bool false) (.string ⟨#[]⟩) (.slice none 0 0)
    have n2 := below_set6 hb3 (show w.heap.size ≤ w.heap.size + 1 by omega) (.int .u8 0) (.int .i64 0) (.int .i64 0) (.bool false) (.string ⟨#[]⟩) (.slice none 0 0)
    have n3 := fresh_leaf ((((((w2.setCell ⟨w.heap.size + 1, 0, none⟩ (.int .u8 0)).setCell ⟨w.heap.size + 1, 1, none⟩ (.int .i64 0)).setCell ⟨w.heap.size + 1, 2, none⟩ (.int .i64 0)).setCell ⟨w.heap.size + 1, 3, none⟩ (.bool false)).setCell ⟨w.heap.size + 1, 4, none⟩ (.string ⟨#[]⟩)).setCell ⟨w.heap.size + 1, 5, none⟩ (.slice none 0 0)) w.heap.size 26 ok_none
    obtain ⟨k0, k1, k2, k3, k4, k5⟩ := Blk.val (x := ⟨0, ⟨0, 0⟩, false, ⟨#[]⟩, none, 0, 0⟩) n1
    have HN := Lib.hid (show _ ∧ _ from ⟨n2, n3⟩)
    clear n1 n2 n3 hres
    rcases hcase with q1 | ⟨q1, q2⟩
    all_goals
      go_wp2_with fail
      exact bodyPost_ret (v := .tuple #[Val.v ⟨0, ⟨0, 0⟩, false, ⟨#[]⟩, none, 0, 0⟩, .int .i64 2]) (by simp [results, Try.results10, go_sem, k0, k1, k2, k3, k4, k5]) rfl (HF.out ⟨0, ⟨0, 0⟩, false, ⟨#[]⟩, none, 0, 0⟩ _ 2 _ HN.out.2 HN.out.1 HV.out)
  have q1 : decide (i < 0) = false := by simp; omega
  have q2 : decide (N ≤ i) = false := by simp; omega
  obtain ⟨j, rfl⟩ := Int.eq_ofNat_of_zero_le (show 0 ≤ i by omega)
  obtain ⟨c0, c1, c2, c3, c4, c5⟩ := hblk2.val
  rcases B3.out rfl with ⟨rfl, hN⟩ | ⟨rfl, hN⟩
  · subst hN
    have hjs : j < s.size := by omega
    obtain ⟨a1, a2⟩ := B5.out rfl j rfl (by omega)
    have HV := Lib.hid (show _ ∧ _ from ⟨a1, a2⟩)
    obtain ⟨SX, hSX⟩ : ∃ SX, s.extract j (j + 1) = SX := ⟨_, rfl⟩
    have hSs : SX.size ≤ 9223372036854775807 := by rw [← hSX, ByteArray.size_extract]; omega
    rw [hSX] at HV
    have HX := Lib.hid hSX
    clear hout a1 a2 hblk2 B1 B2 B3 B4 B5 hSX
    go_wp2_with fail
    rw [HX.out]
    refine (refStr_any SX _).mono ?_
    rintro e w3 ⟨rfl, hb4⟩
    replace hres := hres.keep hb4
    replace hb3 := hb3.trans (hb4.mono hb3.size)
    clear r0 r1 r2 r3 r4 r5 rf rl c0 c1 c2 c3 c4 c5 hb4
    obtain ⟨r0, r1, r2, r3, r4, r5⟩ := hres.val
    have rf := hres.frozen
    have rl := hres.lt
    have n1 := hres.set6 (.int .u8 3) (.int .i64 0) (.int .i64 0) (.bool false) (.string SX) (.slice none 0 0)
    have n2 := below_set6 hb3 (show w.heap.size ≤ w.heap.size + 1 by omega) (.int .u8 3) (.int .i64 0) (.int .i64 0) (.bool false) (.string SX) (.slice none 0 0)
    have n3 := fun W => fresh_leaf W w.heap.size 26 (ok_str hSs)
    obtain ⟨k0, k1, k2, k3, k4, k5⟩ := Blk.val (x := ⟨3, ⟨0, 0⟩, false, SX, none, 0, 0⟩) n1
    have HN := Lib.hid (show _ ∧ _ from ⟨n2, n3⟩)
    clear n1 n2 n3 hres
    go_wp2_with fail
    exact bodyPost_ret (v := .tuple #[Val.v ⟨3, ⟨0, 0⟩, false, SX, none, 0, 0⟩, .int .i64 0]) (by simp [results, Try.results10, go_sem, k0, k1, k2, k3, k4, k5]) rfl (HF.out ⟨3, ⟨0, 0⟩, false, SX, none, 0, 0⟩ _ 0 _ (HN.out.2 _) HN.out.1 HV.out)
  · subst hN
    have hjl : j < len := by omega
    obtain ⟨b, off, u, y, rfl, hB, g1, g2, hru, e0, e1, e2, e3, e4, e5⟩ := val_at HL.out.1 HL.out.2.1 HK.out.1 HK.out.2 hjl
    rw [← hb3.cell (p := ⟨b, _, none⟩) hB] at e0 e1 e2 e3 e4 e5
    obtain ⟨a1, a2⟩ := B4.out rfl j _ rfl (by omega) g1
    have HV := Lib.hid (show _ ∧ _ from ⟨a1, a2⟩)
    have HT := Lib.hid (refTwin_any 9 y u w2 (HL.out.2.2 _ (List.mem_of_getElem? g1)) (hru.in_ hb3 hb3.size))
    have hj2 : (j : Int) < len := by omega
    clear hout a1 a2 hblk2 B1 B2 B3 B4 B5 g1 g2 hru
    go_wp2_with fail
    refine (HT.out).mono ?_
    rintro e w3 ⟨x', rfl, htn, hb4⟩
    replace hres := hres.keep hb4
    have hbs := hb3.size
    replace hb3 := hb3.trans (hb4.mono hb3.size)
    clear r0 r1 r2 r3 r4 r5 rf c0 c1 c2 c3 c4 c5 hb4 e0 e1 e2 e3 e4 e5 HT
    obtain ⟨k', q', t', s', A', n', cap'⟩ := x'
    obtain ⟨r0, r1, r2, r3, r4, r5⟩ := hres.val
    have rf := hres.frozen
    have rl3 := hres.lt
    have n1 := hres.set6 (.int .u8 k') (.int .i64 q'.n) (.int .i64 q'.d) (.bool t') (.string s') (.slice A' n' cap')
    have n2 := below_set6 hb3 (show w.heap.size ≤ w.heap.size + 1 by omega) (.int .u8 k') (.int .i64 q'.n) (.int .i64 q'.d) (.bool t') (.string s') (.slice A' n' cap')
    have n3 := htn.fresh.keep (w' := _) (show w.heap.size ≤ w2.heap.size by omega) (fun b hb _ => far_set6 (w := w3) (g := w.heap.size + 1) (k := b) (by omega) (.int .u8 k') (.int .i64 q'.n) (.int .i64 q'.d) (.bool t') (.string s') (.slice A' n' cap'))
    obtain ⟨k0, k1, k2, k3, k4, k5⟩ := Blk.val (x := ⟨k', q', t', s', A', n', cap'⟩) n1
    have HN := Lib.hid (show _ ∧ _ from ⟨n2, n3⟩)
    clear n1 n2 n3 hres htn
    go_wp2_with fail
    exact bodyPost_ret (v := .tuple #[Val.v ⟨k', q', t', s', A', n', cap'⟩, .int .i64 0]) (by simp [results, Try.results10, go_sem, k0, k1, k2, k3, k4, k5]) rfl (HF.out ⟨k', q', t', s', A', n', cap'⟩ _ 0 _ HN.out.2 HN.out.1 HV.out)

set_option maxHeartbeats 4000000 in
theorem at_any (T : Tree) (x : Val) (i : Int) (w : World) (hi0 : -9223372036854775808 ≤ i) (hi1 : i ≤ 9223372036854775807) (hf : fitT T 10 = true) (hr : RdB w w.heap.size T x) :
    Calls Try.prog 9 #[x.v, .int .i64 i] w (RetVE 26 w (atT T i) (atE T i)) := by
  obtain ⟨kids, ys, rfl, ok, hy, hl, hrec, hk⟩ := id hr.open_
  obtain ⟨e, he, hs2, h150, hkf⟩ := fitT_parts hf
  obtain rfl : 9 = e := by omega
  have HR := Lib.hid (show _ ∧ _ from ⟨hf, hr⟩)
  obtain ⟨k, q, t, s, A, len, cap⟩ := x
  obtain ⟨hk0, hk1, -, -, -, -, -, -, hc, -⟩ := ok
  dsimp only at hk0 hk1 hy hl hs2 h150 hc hrec hk
  rw [hl] at h150
  have HL := Lib.hid (show _ ∧ _ ∧ _ from ⟨hy, hl, hkf⟩)
  have HK := Lib.hid (show _ ∧ _ from ⟨hrec, hk⟩)
  have HB := Lib.hid (two_vars w 26 26 ⟨k, q, t, s, A, len, cap⟩ (Val.box noneV))
  have R1 := Lib.hid (fun W h => len_any (.node k q t s kids) ⟨k, q, t, s, A, len, cap⟩ W hf h)
  have B1 := Lib.hid (@at_bad (.node k q t s kids) i)
  have B2 := Lib.hid (@at_out (.node k q t s kids) i)
  have B3 := Lib.hid (show lenE (.node k q t s kids) = 0 → (k = 3 ∧ lenN (.node k q t s kids) = s.size) ∨ (k = 4 ∧ lenN (.node k q t s kids) = len) from fun h => len_kinds h (by rw [← hl]))
  have HF := Lib.hid (show ∀ (x : Val) (w' : World) (E : Int) (T' : Tree), Fresh w' w.heap.size 26 T' x → Below w.heap.size w w' → (atT (.node k q t s kids) i = T' ∧ atE (.node k q t s kids) i = E) → RetVE 26 w (atT (.node k q t s kids) i) (atE (.node k q t s kids) i) (.returned (.tuple #[x.v, .int .i64 E])) w' from fun x w' E T' h1 h2 h3 => ⟨x, by rw [h3.2], by rw [h3.1]; exact h1, h2⟩)
  have B4 := Lib.hid (show k = 4 → ∀ (j : Nat) (y : Tree), lenE (.node k q t s kids) = 0 → ¬ (lenN (.node k q t s kids) ≤ j) → kids[j]? = some y → atT (.node k q t s kids) j = y ∧ atE (.node k q t s kids) j = 0 from fun h j y => by subst h; exact at_list)
  have B5 := Lib.hid (show k = 3 → ∀ (j : Nat), lenE (.node k q t s kids) = 0 → ¬ (lenN (.node k q t s kids) ≤ j) → atT (.node k q t s kids) j = tStr (s.extract j (j + 1)) ∧ atE (.node k q t s kids) j = 0 from fun h j => by subst h; exact at_str)
  clear hf hr hy hl hkf hrec hk he
  generalize lenE (.node k q t s kids) = E at *
  generalize lenN (.node k q t s kids) = N at *
  go_enter Try.func9, Try.ntmps9
  obtain ⟨hb0, hblk0, hres0⟩ := HB.out
  obtain ⟨c0, c1, c2, c3, c4, c5⟩ := hblk0.val
  go_wp2_with fail
  refine (R1.out _ (HR.out.2.in_ hb0 hb0.size)).mono ?_
  rintro e w2 ⟨rfl, hb2⟩
  have hb3 := hb0.trans (hb2.mono hb0.size)
  have hblk2 := hblk0.keep hb2
  have hres := hres0.keep hb2
  clear hb0 hb2 hblk0 hres0 c0 c1 c2 c3 c4 c5 HB
  obtain ⟨r0, r1, r2, r3, r4, r5⟩ := hres.val
  have rf := hres.frozen
  have rl := hres.lt
  by_cases hE : E = 0
  case neg =>
    obtain ⟨a1, a2⟩ := B1.out hE
    have HV := Lib.hid (show _ ∧ _ from ⟨a1, a2⟩)
    have q1 : (E != 0) = true := by simpa using hE
    clear hE a1 a2 hblk2
    have n1 := hres.set6 (.int .u8 0) (.int .i64 0) (.int .i64 0) (.bool false) (.string ⟨#[]⟩) (.slice none 0 0)
    have n2 := below_set6 hb3 (show w.heap.size ≤ w.heap.size + 1 by omega) (.int .u8 0) (.int .i64 0) (.int .i64 0) (.bool false) (.string ⟨#[]⟩) (.slice none 0 0)
    have n3 := fresh_leaf (((((((w2.setCell ⟨w.heap.size + 1, 0, none⟩ (.int .u8 0)).setCell ⟨w.heap.size + 1, 1, none⟩ (.int .i64 0)).setCell ⟨w.heap.size + 1, 2, none⟩ (.int .i64 0)).setCell ⟨w.heap.size + 1, 3, none⟩ (.bool false)).setCell ⟨w.heap.size + 1, 4, none⟩ (.string ⟨#[]⟩)).setCell ⟨w.heap.size + 1, 5, none⟩ (.slice none 0 0))) w.heap.size 26 ok_none
    obtain ⟨k0, k1, k2, k3, k4, k5⟩ := Blk.val (x := ⟨0, ⟨0, 0⟩, false, ⟨#[]⟩, none, 0, 0⟩) n1
    have HN := Lib.hid (show _ ∧ _ from ⟨n2, n3⟩)
    clear n1 n2 n3 hres
    go_wp2_with fail
    exact bodyPost_ret (v := .tuple #[Val.v ⟨0, ⟨0, 0⟩, false, ⟨#[]⟩, none, 0, 0⟩, .int .i64 E]) (by simp [results, Try.results9, go_sem, k0, k1, k2, k3, k4, k5]) rfl (HF.out ⟨0, ⟨0, 0⟩, false, ⟨#[]⟩, none, 0, 0⟩ _ E _ HN.out.2 HN.out.1 HV.out)
  subst hE
  by_cases hout : i < 0 ∨ N ≤ i
  case pos =>
    obtain ⟨a1, a2⟩ := B2.out rfl hout
    have HV := Lib.hid (show _ ∧ _ from ⟨a1, a2⟩)
    have hcase : decide (i < 0) = true ∨ (decide (i < 0) = false ∧ decide (N ≤ i) = true) := by
      by_cases h : i < 0
      · exact .inl (by simpa using h)
      · exact .inr ⟨by simpa using h, by simp; omega⟩
    clear hout a1 a2 hblk2 B1 B2 B3 B4 B5
    have n1 := hres.set6 (.int .u8 0) (.int .i64 0) (.int .i64 0) (.bool false) (.string ⟨#[]⟩) (.slice none 0 0)
    have n2 := below_set6 hb3 (show w.heap.size ≤ w.heap.size + 1 by omega) (.int .u8 0) (.int .i64 0) (.int .i64 0) (.bool false) (.string ⟨#[]⟩) (.slice none 0 0)
    have n3 := fresh_leaf ((((((w2.setCell ⟨w.heap.size + 1, 0, none⟩ (.int .u8 0)).setCell ⟨w.heap.size + 1, 1, none⟩ (.int .i64 0)).setCell ⟨w.heap.size + 1, 2, none⟩ (.int .i64 0)).setCell ⟨w.heap.size + 1, 3, none⟩ (.bool false)).setCell ⟨w.heap.size + 1, 4, none⟩ (.string ⟨#[]⟩)).setCell ⟨w.heap.size + 1, 5, none⟩ (.slice none 0 0)) w.heap.size 26 ok_none
    obtain ⟨k0, k1, k2, k3, k4, k5⟩ := Blk.val (x := ⟨0, ⟨0, 0⟩, false, ⟨#[]⟩, none, 0, 0⟩) n1
    have HN := Lib.hid (show _ ∧ _ from ⟨n2, n3⟩)
    clear n1 n2 n3 hres
    rcases hcase with q1 | ⟨q1, q2⟩
    all_goals
      go_wp2_with fail
      exact bodyPost_ret (v := .tuple #[Val.v ⟨0, ⟨0, 0⟩, false, ⟨#[]⟩, none, 0, 0⟩, .int .i64 2]) (by simp [results, Try.results9, go_sem, k0, k1, k2, k3, k4, k5]) rfl (HF.out ⟨0, ⟨0, 0⟩, false, ⟨#[]⟩, none, 0, 0⟩ _ 2 _ HN.out.2 HN.out.1 HV.out)
  have q1 : decide (i < 0) = false := by simp; omega
  have q2 : decide (N ≤ i) = false := by simp; omega
  obtain ⟨j, rfl⟩ := Int.eq_ofNat_of_zero_le (show 0 ≤ i by omega)
  obtain ⟨c0, c1, c2, c3, c4, c5⟩ := hblk2.val
  rcases B3.out rfl with ⟨rfl, hN⟩ | ⟨rfl, hN⟩
  · subst hN
    have hjs : j < s.size := by omega
    obtain ⟨a1, a2⟩ := B5.out rfl j rfl (by omega)
    have HV := Lib.hid (show _ ∧ _ from ⟨a1, a2⟩)
    have hSs : (s.extract j (j + 1)).size ≤ 9223372036854775807 := by rw [ByteArray.size_extract]; omega
    have HSS := Lib.hid hSs
    clear hout a1 a2 hblk2 B1 B2 B3 B4 B5 hSs
    have n1 := hres.set6 (.int .u8 3) (.int .i64 0) (.int .i64 0) (.bool false) (.string (s.extract j (j + 1))) (.slice none 0 0)
    have n2 := below_set6 hb3 (show w.heap.size ≤ w.heap.size + 1 by omega) (.int .u8 3) (.int .i64 0) (.int .i64 0) (.bool false) (.string (s.extract j (j + 1))) (.slice none 0 0)
    have n3 := fun W => fresh_leaf W w.heap.size 26 (ok_str HSS.out)
    obtain ⟨k0, k1, k2, k3, k4, k5⟩ := Blk.val (x := ⟨3, ⟨0, 0⟩, false, s.extract j (j + 1), none, 0, 0⟩) n1
    have HN := Lib.hid (show _ ∧ _ from ⟨n2, n3⟩)
    have HKS := Lib.hid (show _ ∧ _ ∧ _ ∧ _ ∧ _ ∧ _ from ⟨k0, k1, k2, k3, k4, k5⟩)
    clear n1 n2 n3 hres k0 k1 k2 k3 k4 k5
    go_wp2_with fail
    obtain ⟨k0, k1, k2, k3, k4, k5⟩ := HKS.out
    exact bodyPost_ret (v := .tuple #[Val.v ⟨3, ⟨0, 0⟩, false, s.extract j (j + 1), none, 0, 0⟩, .int .i64 0]) (by simp [results, Try.results9, go_sem, k0, k1, k2, k3, k4, k5]) rfl (HF.out ⟨3, ⟨0, 0⟩, false, s.extract j (j + 1), none, 0, 0⟩ _ 0 _ (HN.out.2 _) HN.out.1 HV.out)
  · subst hN
    have hjl : j < len := by omega
    obtain ⟨b, off, u, y, rfl, hB, g1, g2, hru, e0, e1, e2, e3, e4, e5⟩ := val_at HL.out.1 HL.out.2.1 HK.out.1 HK.out.2 hjl
    rw [← hb3.cell (p := ⟨b, _, none⟩) hB] at e0 e1 e2 e3 e4 e5
    obtain ⟨a1, a2⟩ := B4.out rfl j _ rfl (by omega) g1
    have HV := Lib.hid (show _ ∧ _ from ⟨a1, a2⟩)
    have HT := Lib.hid (twin_any 9 y u w2 (HL.out.2.2 _ (List.mem_of_getElem? g1)) (hru.in_ hb3 hb3.size))
    have hj2 : (j : Int) < len := by omega
    clear hout a1 a2 hblk2 B1 B2 B3 B4 B5 g1 g2 hru
    go_wp2_with fail
    refine (HT.out).mono ?_
    rintro e w3 ⟨x', rfl, htn, hb4⟩
    replace hres := hres.keep hb4
    have hbs := hb3.size
    replace hb3 := hb3.trans (hb4.mono hb3.size)
    clear r0 r1 r2 r3 r4 r5 rf c0 c1 c2 c3 c4 c5 hb4 e0 e1 e2 e3 e4 e5 HT
    obtain ⟨k', q', t', s', A', n', cap'⟩ := x'
    obtain ⟨r0, r1, r2, r3, r4, r5⟩ := hres.val
    have rf := hres.frozen
    have rl3 := hres.lt
    have n1 := hres.set6 (.int .u8 k') (.int .i64 q'.n) (.int .i64 q'.d) (.bool t') (.string s') (.slice A' n' cap')
    have n2 := below_set6 hb3 (show w.heap.size ≤ w.heap.size + 1 by omega) (.int .u8 k') (.int .i64 q'.n) (.int .i64 q'.d) (.bool t') (.string s') (.slice A' n' cap')
    have n3 := htn.fresh.keep (w' := _) (show w.heap.size ≤ w2.heap.size by omega) (fun b hb _ => far_set6 (w := w3) (g := w.heap.size + 1) (k := b) (by omega) (.int .u8 k') (.int .i64 q'.n) (.int .i64 q'.d) (.bool t') (.string s') (.slice A' n' cap'))
    obtain ⟨k0, k1, k2, k3, k4, k5⟩ := Blk.val (x := ⟨k', q', t', s', A', n', cap'⟩) n1
    have HN := Lib.hid (show _ ∧ _ from ⟨n2, n3⟩)
    clear n1 n2 n3 hres htn
    go_wp2_with fail
    exact bodyPost_ret (v := .tuple #[Val.v ⟨k', q', t', s', A', n', cap'⟩, .int .i64 0]) (by simp [results, Try.results9, go_sem, k0, k1, k2, k3, k4, k5]) rfl (HF.out ⟨k', q', t', s', A', n', cap'⟩ _ 0 _ HN.out.2 HN.out.1 HV.out)
end Go.Proofs.Ytjgampkpfjbmdaa
