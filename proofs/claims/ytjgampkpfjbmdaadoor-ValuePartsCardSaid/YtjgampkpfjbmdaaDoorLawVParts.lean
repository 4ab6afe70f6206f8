/- ValueParts returns true for all values. Condition: the library's tables are laid. -/
import Derived.Test.YtjgampkpfjbmdaaDoorPack21
import Derived.Test.YtjgampkpfjbmdaaDoorPack22
import Derived.Test.YtjgampkpfjbmdaaDoorVFit
namespace Go.Proofs.YtjgampkpfjbmdaaDoor
open Go.RowKit Go.Rel
set_option maxRecDepth 100000
theorem valid_list_any (ts : List Tree) (A : Option Addr) (n cap : Nat) (w : World) (hn : n ≤ 100) (h : RdB w w.heap.size (tList ts) (listX A n cap)) :
    Calls Tryd.prog 9 #[.slice A n cap] w (Ret w (.bool (ts.all vldB))) := by
  obtain ⟨kids, ys, he, -, hy, hl, hr, hk⟩ := h.open_
  have : ts = kids := tList_inj he
  subst this
  exact valid_any A n cap ts ys w hy hl hn hr hk
theorem sum_zero {T : Tree} (hk : T.k = 3 ∨ T.k = 4) (w : World) (base : Nat) (e : TypeId) : Fresh w base e (sumTo T 0) ⟨T.k, ⟨0, 0⟩, false, ⟨#[]⟩, none, 0, 0⟩ := by
  rcases hk with h | h
  · have : sumTo T 0 = tStr ⟨#[]⟩ := by
      unfold sumTo
      rw [if_neg (by omega)]
      congr 1
      apply ByteArray.ext
      simp
    rw [this, h]
    exact fresh_leaf w base e (ok_str (by decide))
  · have : sumTo T 0 = tList [] := by
      unfold sumTo
      rw [if_pos h]; rfl
    rw [this, h]
    exact fresh_leaf w base e ok_list
set_option maxHeartbeats 32000000 in
theorem parts_walkV (T : Tree) (x : Val) (w : World) (hT : RdB w w.heap.size T x) (ht : Tab w) :
    Calls Tryd.prog 4 #[x.v] w (Ret w (.bool true)) := by
  have HB := Lib.hid (box_val w 26 x)
  have HR := Lib.hid (show _ ∧ _ from ⟨hT, ht⟩)
  have hkx : x.k = T.k := by obtain ⟨kids, ys, rfl, -⟩ := Reads.inv hT; rfl
  have HKK := Lib.hid hkx
  have HVV := Lib.hid (fun (W : World) (g : Nat) h => valid_list_any [T] (some ⟨g, 0, none⟩) 1 1 W (by decide) h)
  clear hT ht hkx
  obtain ⟨k, q, t, s, A, len, cap⟩ := x
  obtain ⟨hb, hx1⟩ := HB.out
  have hsz : (w.alloc (.cells (Val.box ⟨k, q, t, s, A, len, cap⟩) 26)).heap.size = w.heap.size + 1 := by simp
  go_enter Tryd.func4, Tryd.ntmps4
  obtain ⟨c0, c1, c2, c3, c4, c5⟩ := hx1.val
  go_wp2_with fail
  clear c0 c1 c2 c3 c4 c5
  generalize w.alloc _ = w1 at hb hsz hx1 ⊢
  have hn := Blk.new w1 26 (box1 ⟨k, q, t, s, A, len, cap⟩)
  have hba := below_alloc w1 (.cells (box1 ⟨k, q, t, s, A, len, cap⟩) 26)
  have hb2 := hb.trans (hba.mono hb.size)
  rw [hsz] at hn
  refine (HVV.out _ _ (rd_list1 hn (HR.out.1.in_ hb2 hb2.size))).mono ?_
  rintro e w2 ⟨rfl, hx⟩
  replace hx1 := (hx1.keep hba).keep hx
  replace hb := hb2.trans (hx.mono hb2.size)
  clear hn hba hb2 hx HVV HB hsz
  have alv : ∀ W, Below w.heap.size w W → Calls Tryd.prog 10 #[] W (Ret W (.bool true)) := fun W h => alive_any W (HR.out.2.keep h)
  have HAL := Lib.hid alv
  clear alv
  cases hv : [T].all vldB with
  | false =>
    clear hv hx1
    go_wp2_with fail
    refine (HAL.out w2 hb).mono ?_
    rintro e w3 ⟨rfl, hx⟩
    replace hb := hb.trans (hx.mono hb.size)
    clear hx
    go_wp2_with fail
    go_ret
    exact ⟨rfl, hb⟩
  | true =>
    have hvT : Valid T := by
      simp only [List.all_cons, List.all_nil, Bool.and_true] at hv
      exact vld_yes hv
    clear hv
    by_cases hk : k = 3 ∨ k = 4
    case neg =>
      have q1 : (k != 4) = true := by
        have : (k == 4) = false := by rw [beq_eq_false_iff_ne]; omega
        unfold bne; rw [this]; rfl
      have q2 : (k != 3) = true := by
        have : (k == 3) = false := by rw [beq_eq_false_iff_ne]; omega
        unfold bne; rw [this]; rfl
      obtain ⟨c0, c1, c2, c3, c4, c5⟩ := hx1.val
      clear hk
      go_wp2_with fail
      refine (HAL.out w2 hb).mono ?_
      rintro e w3 ⟨rfl, hx⟩
      replace hb := hb.trans (hx.mono hb.size)
      clear hx
      go_wp2_with fail
      go_ret
      exact ⟨rfl, hb⟩
    have hTk : T.k = 3 ∨ T.k = 4 := by rw [← HKK.out]; exact hk
    obtain ⟨p1, p2, p3, p4, p5, p6⟩ := parts_step hvT hTk
    obtain ⟨N, hN⟩ : ∃ N, lenN T = N := ⟨_, rfl⟩
    rw [hN] at p2 p3 p4 p6
    have rl := fun x W h => len_any T x W hvT.fit h
    rw [hN, p1] at rl
    have rs := fun x y W h h' => same_any 10 T T x y W hvT.fit h h'
    rw [sameB_self] at rs
    have ra := fun (i : Nat) (hi : (i : Int) < N) x W h => at_any T x i W (by omega) (by omega) hvT.fit h
    have rd := fun (i : Nat) (hi : (i : Int) < N) x y W h h' => addV_any (sumTo T i) (elemOf T i) x y W (p5 i).fit (p6 i hi).2.2.1.fit h h'
    have HZ0 := Lib.hid (fun W base => sum_zero hTk W base 26)
    have RR := Lib.hid (show _ ∧ _ ∧ _ ∧ _ ∧ _ ∧ _ from ⟨rl, rs, ra, rd, p6, p4⟩)
    clear rl rs ra rd p6 p4 p1 p5 hN hTk hvT
    rcases hk with rfl | rfl
    · have hT0 : T.k = 3 := HKK.out.symm
      rw [hT0] at HZ0
      obtain ⟨c0, c1, c2, c3, c4, c5⟩ := hx1.val
      go_wp2_with fail
      clear c0 c1 c2 c3 c4 c5
      refine (RR.out.1 _ _ (HR.out.1.in_ hb hb.size)).mono ?_
      rintro e w3 ⟨rfl, hx⟩
      replace hx1 := hx1.keep hx
      replace hb := hb.trans (hx.mono hb.size)
      clear hx
      obtain ⟨c0, c1, c2, c3, c4, c5⟩ := hx1.val
      have hlt := hx1.lt
      have hba := below_alloc w3 (.cells (Val.box ⟨3, ⟨0, 0⟩, false, ⟨#[]⟩, none, 0, 0⟩) 26)
      have hG0 := Blk.new w3 26 (Val.box ⟨3, ⟨0, 0⟩, false, ⟨#[]⟩, none, 0, 0⟩)
      have hwG := hb.size
      have HL := Lib.hid (show _ ∧ _ ∧ _ ∧ _ from ⟨hb.trans (hba.mono hb.size), hx1.keep hba, hG0, HZ0.out (w3.alloc (.cells (Val.box ⟨3, ⟨0, 0⟩, false, ⟨#[]⟩, none, 0, 0⟩) 26)) (w3.heap.size + 1)⟩)
      clear hba hG0 hb hx1 HZ0
      go_wp2_with fail
      clear c0 c1 c2 c3 c4 c5
      generalize w3.alloc _ = w4 at HL ⊢
      generalize w3.heap.size = G at HL hwG hlt ⊢
      go_loopw [4, 6] (fun ev iv wr => ∃ (i : Nat) (xs : Val), ev = .int .i64 0 ∧ iv = .int .i64 i ∧ (i : Int) ≤ N ∧ Below w.heap.size w wr ∧ Blk wr w.heap.size 26 (Val.box ⟨3, q, t, s, A, len, cap⟩) ∧ Blk wr G 26 xs.box ∧ Fresh wr (G + 1) 26 (sumTo T i) xs) (fun _ iv _ => N.toNat - (intOf iv).toNat)
      case atStart => exact ⟨0, _, rfl, rfl, p2, HL.out.1, HL.out.2.1, HL.out.2.2.1, HL.out.2.2.2⟩
      case round =>
        clear HL
        obtain ⟨i, ⟨k5, q5, t5, s5, A5, len5, cap5⟩, rfl, rfl, hi, hb, hx1, hG, hfs⟩ := hrel
        have h200 : (i : Int) < 200 := by omega
        by_cases hlt2 : (i : Int) < N
        · have hst := RR.out.2.2.2.2.1 i hlt2
          have rA := RR.out.2.2.1 i hlt2 ⟨3, q, t, s, A, len, cap⟩
          have rD := RR.out.2.2.2.1 i hlt2
          rw [hst.1] at rA
          rw [hst.2.2.2.1, hst.2.2.2.2] at rD
          have RA := Lib.hid (show _ ∧ _ from ⟨rA, rD⟩)
          clear rA rD hst
          obtain ⟨c0, c1, c2, c3, c4, c5⟩ := hx1.val
          go_wp2_with fail
          clear c0 c1 c2 c3 c4 c5
          refine (RA.out.1 _ (HR.out.1.in_ hb hb.size)).mono ?_
          rintro e w5 ⟨⟨k7, q7, t7, s7, A7, len7, cap7⟩, rfl, hfr, hx⟩
          have hfs0 := hfs
          have hbt := hx
          have hwr5 := hx.size
          replace hx1 := hx1.keep hx
          replace hG := hG.keep hx
          have hGl := hG.lt
          replace hfs := hfs.below hx
          replace hb := hb.trans (hx.mono hb.size)
          have r7 : RdB w5 w5.heap.size (atT T i) ⟨k7, q7, t7, s7, A7, len7, cap7⟩ := hfr.rd
          clear hx hfr
          obtain ⟨c0, c1, c2, c3, c4, c5⟩ := hx1.val
          obtain ⟨d0, d1, d2, d3, d4, d5⟩ := hG.val
          have hltK := hx1.lt
          have hba := below_alloc w5 (.cells (Val.box ⟨k7, q7, t7, s7, A7, len7, cap7⟩) 26)
          have h7 := Blk.new w5 26 (Val.box ⟨k7, q7, t7, s7, A7, len7, cap7⟩)
          have hw7 : w.heap.size ≤ w5.heap.size := hb.size
          go_wp2_with fail
          clear c0 c1 c2 c3 c4 c5 d0 d1 d2 d3 d4 d5
          replace hx1 := hx1.keep hba
          replace hG := hG.keep hba
          replace hfs := hfs.below hba
          replace hb := hb.trans (hba.mono hb.size)
          replace r7 := r7.below hba hba.size
          clear hba h7
          generalize w5.alloc _ = w6 at hx1 hG hfs hb r7 ⊢
          have hel : atT T i = elemOf T i := (if_neg (by omega)).symm
          rw [hel] at r7
          refine (RA.out.2 _ _ _ hfs.rd r7).mono ?_
          rintro e w7 ⟨⟨k8, q8, t8, s8, A8, len8, cap8⟩, rfl, hfr, hx⟩
          have hG6 := hG.lt
          replace hx1 := hx1.keep hx
          replace hG := hG.keep hx
          replace hb := hb.trans (hx.mono hb.size)
          clear hx hfs r7
          obtain ⟨d0, d1, d2, d3, d4, d5⟩ := hG.val
          have df := hG.frozen
          have nG : Blk _ _ 26 (Val.box ⟨k8, q8, t8, s8, A8, len8, cap8⟩) := hG.set6 (.int .u8 k8) (.int .i64 q8.n) (.int .i64 q8.d) (.bool t8) (.string s8) (.slice A8 len8 cap8)
          have nK : Blk _ _ 26 (Val.box ⟨3, q, t, s, A, len, cap⟩) := (far_set6 (w := w7) (k := w.heap.size) (g := G) (by omega) (.int .u8 k8) (.int .i64 q8.n) (.int .i64 q8.d) (.bool t8) (.string s8) (.slice A8 len8 cap8)).trans hx1
          have nb := below_set6 hb hwG (.int .u8 k8) (.int .i64 q8.n) (.int .i64 q8.d) (.bool t8) (.string s8) (.slice A8 len8 cap8)
          have nf := hfr.keep (w' := _) (base' := G + 1) (by omega) (fun g h1 h2 => far_set6 (w := w7) (k := g) (g := G) (by omega) (.int .u8 k8) (.int .i64 q8.n) (.int .i64 q8.d) (.bool t8) (.string s8) (.slice A8 len8 cap8))
          have HN := Lib.hid (show _ ∧ _ ∧ _ ∧ _ from ⟨nG, nK, nb, nf⟩)
          clear nG nK nb nf hG hx1 hb hfr
          go_wp2_with fail
          go_roundw
          case rel => exact ⟨i + 1, _, rfl, by go_num, by omega, HN.out.2.2.1, HN.out.2.1, HN.out.1, HN.out.2.2.2⟩
          case measure => simp [intOf]; omega
        · obtain rfl : (i : Int) = N := by omega
          have hsm := RR.out.2.2.2.2.2
          rw [Int.toNat_natCast] at hsm
          rw [hsm] at hfs
          obtain ⟨c0, c1, c2, c3, c4, c5⟩ := hx1.val
          obtain ⟨d0, d1, d2, d3, d4, d5⟩ := hG.val
          have hlt3 : ¬ (i : Int) < i := by omega
          clear hx1 hG
          go_wp2_with fail
          clear c0 c1 c2 c3 c4 c5 d0 d1 d2 d3 d4 d5
          refine (RR.out.2.1 _ _ _ hfs.rd (HR.out.1.in_ hb hb.size)).mono ?_
          rintro e w8 ⟨rfl, hx⟩
          replace hb := hb.trans (hx.mono hb.size)
          clear hx hfs
          go_wp2_with fail
          refine (HAL.out _ hb).mono ?_
          rintro e w9 ⟨rfl, hx⟩
          replace hb := hb.trans (hx.mono hb.size)
          clear hx
          go_wp2_with fail
          go_ret
          exact ⟨rfl, hb⟩
    · have hT0 : T.k = 4 := HKK.out.symm
      rw [hT0] at HZ0
      obtain ⟨c0, c1, c2, c3, c4, c5⟩ := hx1.val
      go_wp2_with fail
      clear c0 c1 c2 c3 c4 c5
      refine (RR.out.1 _ _ (HR.out.1.in_ hb hb.size)).mono ?_
      rintro e w3 ⟨rfl, hx⟩
      replace hx1 := hx1.keep hx
      replace hb := hb.trans (hx.mono hb.size)
      clear hx
      obtain ⟨c0, c1, c2, c3, c4, c5⟩ := hx1.val
      have hlt := hx1.lt
      have hba := below_alloc w3 (.cells (Val.box ⟨4, ⟨0, 0⟩, false, ⟨#[]⟩, none, 0, 0⟩) 26)
      have hG0 := Blk.new w3 26 (Val.box ⟨4, ⟨0, 0⟩, false, ⟨#[]⟩, none, 0, 0⟩)
      have hwG := hb.size
      have HL := Lib.hid (show _ ∧ _ ∧ _ ∧ _ from ⟨hb.trans (hba.mono hb.size), hx1.keep hba, hG0, HZ0.out (w3.alloc (.cells (Val.box ⟨4, ⟨0, 0⟩, false, ⟨#[]⟩, none, 0, 0⟩) 26)) (w3.heap.size + 1)⟩)
      clear hba hG0 hb hx1 HZ0
      go_wp2_with fail
      clear c0 c1 c2 c3 c4 c5
      generalize w3.alloc _ = w4 at HL ⊢
      generalize w3.heap.size = G at HL hwG hlt ⊢
      go_loopw [4, 6] (fun ev iv wr => ∃ (i : Nat) (xs : Val), ev = .int .i64 0 ∧ iv = .int .i64 i ∧ (i : Int) ≤ N ∧ Below w.heap.size w wr ∧ Blk wr w.heap.size 26 (Val.box ⟨4, q, t, s, A, len, cap⟩) ∧ Blk wr G 26 xs.box ∧ Fresh wr (G + 1) 26 (sumTo T i) xs) (fun _ iv _ => N.toNat - (intOf iv).toNat)
      case atStart => exact ⟨0, _, rfl, rfl, p2, HL.out.1, HL.out.2.1, HL.out.2.2.1, HL.out.2.2.2⟩
      case round =>
        clear HL
        obtain ⟨i, ⟨k5, q5, t5, s5, A5, len5, cap5⟩, rfl, rfl, hi, hb, hx1, hG, hfs⟩ := hrel
        have h200 : (i : Int) < 200 := by omega
        by_cases hlt2 : (i : Int) < N
        · have hst := RR.out.2.2.2.2.1 i hlt2
          have rA := RR.out.2.2.1 i hlt2 ⟨4, q, t, s, A, len, cap⟩
          have rD := RR.out.2.2.2.1 i hlt2
          rw [hst.1] at rA
          rw [hst.2.2.2.1, hst.2.2.2.2] at rD
          have RA := Lib.hid (show _ ∧ _ from ⟨rA, rD⟩)
          clear rA rD hst
          obtain ⟨c0, c1, c2, c3, c4, c5⟩ := hx1.val
          go_wp2_with fail
          clear c0 c1 c2 c3 c4 c5
          refine (RA.out.1 _ (HR.out.1.in_ hb hb.size)).mono ?_
          rintro e w5 ⟨⟨k7, q7, t7, s7, A7, len7, cap7⟩, rfl, hfr, hx⟩
          have hfs0 := hfs
          have hbt := hx
          have hwr5 := hx.size
          replace hx1 := hx1.keep hx
          replace hG := hG.keep hx
          have hGl := hG.lt
          replace hfs := hfs.below hx
          replace hb := hb.trans (hx.mono hb.size)
          have r7 : RdB w5 w5.heap.size (atT T i) ⟨k7, q7, t7, s7, A7, len7, cap7⟩ := hfr.rd
          clear hx hfr
          obtain ⟨c0, c1, c2, c3, c4, c5⟩ := hx1.val
          obtain ⟨d0, d1, d2, d3, d4, d5⟩ := hG.val
          have hltK := hx1.lt
          have hba := below_alloc w5 (.cells (Val.box ⟨k7, q7, t7, s7, A7, len7, cap7⟩) 26)
          have h7 := Blk.new w5 26 (Val.box ⟨k7, q7, t7, s7, A7, len7, cap7⟩)
          have hw7 : w.heap.size ≤ w5.heap.size := hb.size
          have hs7 : (w5.alloc (.cells (Val.box ⟨k7, q7, t7, s7, A7, len7, cap7⟩) 26)).heap.size = w5.heap.size + 1 := by simp
          have hbb := below_alloc (w5.alloc (.cells (Val.box ⟨k7, q7, t7, s7, A7, len7, cap7⟩) 26)) (.cells (box1 ⟨k7, q7, t7, s7, A7, len7, cap7⟩) 26)
          have hg := Blk.new (w5.alloc (.cells (Val.box ⟨k7, q7, t7, s7, A7, len7, cap7⟩) 26)) 26 (box1 ⟨k7, q7, t7, s7, A7, len7, cap7⟩)
          rw [hs7] at hg
          obtain ⟨f0, f1, f2, f3, f4, f5⟩ := h7.val
          go_wp2_with fail
          clear c0 c1 c2 c3 c4 c5 d0 d1 d2 d3 d4 d5 f0 f1 f2 f3 f4 f5
          refine (llist_any (some ⟨w5.heap.size + 1, 0, none⟩) 1 1 _).mono ?_
          rintro e w6 ⟨rfl, hx⟩
          have h7' := (h7.keep hbb).keep hx
          have hg' := hg.keep hx
          replace r7 := ((r7.below hba (Nat.le_refl _)).below (hbb.mono (by rw [hs7]; omega)) (Nat.le_refl _)).below (hx.mono (by simp; omega)) (Nat.le_refl _)
          replace hx1 := ((hx1.keep hba).keep hbb).keep hx
          replace hG := ((hG.keep hba).keep hbb).keep hx
          replace hfs := ((hfs.below hba).below hbb).below hx
          replace hb := ((hb.trans (hba.mono hb.size)).trans (hbb.mono (by rw [hs7]; omega))).trans (hx.mono (by simp; omega))
          replace hbt := ((hbt.trans (hba.mono hbt.size)).trans (hbb.mono (by rw [hs7]; omega))).trans (hx.mono (by simp; omega))
          clear hx hba hbb h7 hg
          generalize w5.heap.size = n7 at *
          have a7 := h7'.val
          obtain ⟨f0, f1, f2, f3, f4, f5⟩ := a7
          have ff := h7'.frozen
          have fl := h7'.lt
          have m7 : Blk _ _ 26 (Val.box (listX (some ⟨n7 + 1, 0, none⟩) 1 1)) := h7'.set6 (.int .u8 4) (.int .i64 0) (.int .i64 0) (.bool false) (.string ⟨#[]⟩) (.slice (some ⟨n7 + 1, 0, none⟩) 1 1)
          have mg : Blk _ _ 26 (box1 ⟨k7, q7, t7, s7, A7, len7, cap7⟩) := (far_set6 (w := w6) (k := n7 + 1) (g := n7) (by omega) (.int .u8 4) (.int .i64 0) (.int .i64 0) (.bool false) (.string ⟨#[]⟩) (.slice (some ⟨n7 + 1, 0, none⟩) 1 1)).trans hg'
          have mK : Blk _ _ 26 (Val.box ⟨4, q, t, s, A, len, cap⟩) := (far_set6 (w := w6) (k := w.heap.size) (g := n7) (by omega) (.int .u8 4) (.int .i64 0) (.int .i64 0) (.bool false) (.string ⟨#[]⟩) (.slice (some ⟨n7 + 1, 0, none⟩) 1 1)).trans hx1
          have mG : Blk _ _ 26 (Val.box ⟨k5, q5, t5, s5, A5, len5, cap5⟩) := (far_set6 (w := w6) (k := G) (g := n7) (by omega) (.int .u8 4) (.int .i64 0) (.int .i64 0) (.bool false) (.string ⟨#[]⟩) (.slice (some ⟨n7 + 1, 0, none⟩) 1 1)).trans hG
          have mb := below_set6 hb hw7 (.int .u8 4) (.int .i64 0) (.int .i64 0) (.bool false) (.string ⟨#[]⟩) (.slice (some ⟨n7 + 1, 0, none⟩) 1 1)
          have m7r := r7.below (below_set6 (Below.refl n7 w6) (Nat.le_refl _) (.int .u8 4) (.int .i64 0) (.int .i64 0) (.bool false) (.string ⟨#[]⟩) (.slice (some ⟨n7 + 1, 0, none⟩) 1 1)) (Nat.le_refl _)
          have mrd := rd_list1 mg (m7r.more (Nat.le_of_lt m7.lt))
          have hel : tList [atT T i] = elemOf T i := (if_pos hT0).symm
          rw [hel] at mrd
          have mfs := hfs0.below (below_set6 hbt hwr5 (.int .u8 4) (.int .i64 0) (.int .i64 0) (.bool false) (.string ⟨#[]⟩) (.slice (some ⟨n7 + 1, 0, none⟩) 1 1))
          obtain ⟨d0, d1, d2, d3, d4, d5⟩ := hG.val
          have hGn : ¬ G = n7 := by omega
          have HQ := Lib.hid (show _ ∧ _ ∧ _ ∧ _ ∧ _ from ⟨mK, mG, mb, mfs, mrd⟩)
          clear mK mG mb mfs mrd m7 mg m7r hx1 hG hb hfs hfs0 hbt r7 h7' hg' hel
          go_wp2_with fail
          clear d0 d1 d2 d3 d4 d5 f0 f1 f2 f3 f4 f5
          refine (RA.out.2 _ _ _ HQ.out.2.2.2.1.rd HQ.out.2.2.2.2).mono ?_
          rintro e w7 ⟨⟨k8, q8, t8, s8, A8, len8, cap8⟩, rfl, hfr, hx⟩
          have hx1 := HQ.out.1
          have hG := HQ.out.2.1
          have hb := HQ.out.2.2.1
          have hG6 := hG.lt
          replace hx1 := hx1.keep hx
          replace hG := hG.keep hx
          replace hb := hb.trans (hx.mono hb.size)
          clear hx HQ
          obtain ⟨d0, d1, d2, d3, d4, d5⟩ := hG.val
          have df := hG.frozen
          have nG : Blk _ _ 26 (Val.box ⟨k8, q8, t8, s8, A8, len8, cap8⟩) := hG.set6 (.int .u8 k8) (.int .i64 q8.n) (.int .i64 q8.d) (.bool t8) (.string s8) (.slice A8 len8 cap8)
          have nK : Blk _ _ 26 (Val.box ⟨4, q, t, s, A, len, cap⟩) := (far_set6 (w := w7) (k := w.heap.size) (g := G) (by omega) (.int .u8 k8) (.int .i64 q8.n) (.int .i64 q8.d) (.bool t8) (.string s8) (.slice A8 len8 cap8)).trans hx1
          have nb := below_set6 hb hwG (.int .u8 k8) (.int .i64 q8.n) (.int .i64 q8.d) (.bool t8) (.string s8) (.slice A8 len8 cap8)
          have nf := hfr.keep (w' := _) (base' := G + 1) (by omega) (fun g h1 h2 => far_set6 (w := w7) (k := g) (g := G) (by omega) (.int .u8 k8) (.int .i64 q8.n) (.int .i64 q8.d) (.bool t8) (.string s8) (.slice A8 len8 cap8))
          have HN := Lib.hid (show _ ∧ _ ∧ _ ∧ _ from ⟨nG, nK, nb, nf⟩)
          clear nG nK nb nf hG hx1 hb hfr
          go_wp2_with fail
          go_roundw
          case rel => exact ⟨i + 1, _, rfl, by go_num, by omega, HN.out.2.2.1, HN.out.2.1, HN.out.1, HN.out.2.2.2⟩
          case measure => simp [intOf]; omega
        · obtain rfl : (i : Int) = N := by omega
          have hsm := RR.out.2.2.2.2.2
          rw [Int.toNat_natCast] at hsm
          rw [hsm] at hfs
          obtain ⟨c0, c1, c2, c3, c4, c5⟩ := hx1.val
          obtain ⟨d0, d1, d2, d3, d4, d5⟩ := hG.val
          have hlt3 : ¬ (i : Int) < i := by omega
          clear hx1 hG
          go_wp2_with fail
          clear c0 c1 c2 c3 c4 c5 d0 d1 d2 d3 d4 d5
          refine (RR.out.2.1 _ _ _ hfs.rd (HR.out.1.in_ hb hb.size)).mono ?_
          rintro e w8 ⟨rfl, hx⟩
          replace hb := hb.trans (hx.mono hb.size)
          clear hx hfs
          go_wp2_with fail
          refine (HAL.out _ hb).mono ?_
          rintro e w9 ⟨rfl, hx⟩
          replace hb := hb.trans (hx.mono hb.size)
          clear hx
          go_wp2_with fail
          go_ret
          exact ⟨rfl, hb⟩
open Go.ChangeShapes Go.WideShapes Go.ChangeAt Go.Joins
set_option maxRecDepth 100000 in
theorem vparts_lifted (os : Os) (started : os.Started) (H : Type) (enc : TypeId × Value → H) :
    ReturnsInHanded {} Tryd.checked os 4 .any (fun w args => (Rows.valuePartsSpec.pre enc Tryd.prog Tryd.f4 [] false w args ∧ laidMetH Tryd.prog Rows.valuePartsRow.laid w) ∧ sizedMet enc Tryd.prog Tryd.f4 (OpenSpec.ofChange Rows.valuePartsSpec) false w args)
      (Rows.valuePartsSpec.post enc Tryd.prog Tryd.f4 false true false false) := by
  refine returnsInHanded_of_change_and (C := Tryd.checked) (X := fun w _ => laidMetH Tryd.prog Rows.valuePartsRow.laid w) (fun _ _ _ hh h => h.of_heap hh) own started (by kernel_rfl) Tryd.func4
    (ChangeSpec.witness_at (enc := enc) (C := Tryd.checked) (os := os) (X := fun w _ => laidMetH Tryd.prog Rows.valuePartsRow.laid w) false (laidWorld os) #[.agg #[.int .u8 0, .int .i64 0, .int .i64 0, .bool false, .string ⟨#[]⟩, .slice none 0 0]] 8 rfl (by kernel_rfl) (by kernel_rfl) (by kernel_rfl) (by kernel_rfl) (by kernel_rfl) (laid_met os _)) ?_
  intro W base args ds gs before hval0 hW _ _ hLd _
  have hval : ∀ (j : Nat) t v, Tryd.f4.params[j]? = some t → args[j]? = some v → Value.okWide Tryd.prog W .any base t v := hval0
  have hW' := hW
  obtain ⟨p, q, hA0, hV, rfl, hfz, hnd⟩ := hW
  have hA : DataW.TrodAll enc Tryd.prog W 0 (fun _ => true) true Tryd.f4.params.toList args.toList ds p := hA0
  rw [Tryd.params4] at hA hval
  obtain ⟨v0, vs0, d0, ds0, p0, q0, hargs, rfl, rfl, h0, r0⟩ := trodAll_cons hA
  obtain ⟨rfl, rfl, rfl⟩ := trodAll_nil r0
  obtain rfl : args = #[v0] := by cases args; simp_all
  obtain ⟨rfl, rfl⟩ := trodVars_none hV
  obtain ⟨x0, T0, rfl, hT0⟩ := open_val (hval 0 26 v0 rfl rfl) h0
  refine (parts_walkV T0 x0 W hT0 (tab_of_laid hLd)).mono fun e W' ⟨he, hb⟩ => ?_
  exact ⟨_, he, law_post laidOut hW' rfl (by kernel_rfl) rfl Tryd.underlying4 rfl rfl rfl hb⟩

theorem vparts_row : Rows.ValuePartsSaid :=
  OpenClaim.holds_of_wide 4 Tryd.f4 rfl rfl rfl rfl rfl rfl rfl ⟨rfl, rfl, rfl, rfl, rfl⟩ rfl rfl rfl rfl rfl (by kernel_rfl) Tryd.func4 (by kernel_rfl)
    (of_decide_eq_true (by kernel_rfl)) (by unfold Func.isWrapper; first | (rw [if_pos (by decide +kernel)]; kernel_rfl) | (rw [if_neg (by decide +kernel)]; exact ⟨rfl, rfl⟩))
    (fun os started H enc _ => vparts_lifted os started H enc)

theorem vparts_holds : Rows.ValuePartsCardSaid :=
  Claim7.holds_tied_plain_at .later [] [.data, .data, .data] true Rows.valuePartsCard.stood.harness false
    vparts_row (fun _ h => by cases h) (by kernel_rfl) (fun _ h => by cases h) valueParts_row_tie rfl ⟨rfl, rfl⟩ (by kernel_rfl) rfl
    (fun f fn hf hfn => by
      obtain rfl : f = 4 := Option.some.inj ((show Tryd.prog.funcNamed Rows.valuePartsRow.func = some 4 by kernel_rfl).symm.trans hf) |>.symm
      obtain rfl : fn = Tryd.f4 := (Option.some.inj (Tryd.func4.symm.trans hfn)).symm
      exact ⟨by kernel_rfl, fun j t ht => by
        rw [Tryd.params4] at ht
        rcases j with _ | j
        · obtain rfl : t = 26 := by simpa using ht.symm
          exact (show Tryd.prog.wantsStandIn 26 = false by kernel_rfl)
        · simp at ht⟩)
    (by kernel_rfl)
#print axioms vparts_holds
end Go.Proofs.YtjgampkpfjbmdaaDoor
