/- ValueSums returns true for all values and numbers. Condition: the library's tables are laid. -/
import Derived.Test.YtjgampkpfjbmdaaDoorPack21
import Derived.Test.YtjgampkpfjbmdaaDoorPack22
import Derived.Test.YtjgampkpfjbmdaaDoorVFit
namespace Go.Proofs.YtjgampkpfjbmdaaDoor
open Go.RowKit Go.Rel
set_option maxRecDepth 100000
theorem valid_list_any (ts : List Tree) (A : Option Addr) (n cap : Nat) (w : World) (hn : n ≤ 100) (h : RdB w w.heap.size (tList ts) (listX A n cap)) :
    Calls Tryd.prog 9 #[.slice A n cap] w (Ret w (.bool (ts.all vldB))) := by
  obtain ⟨kids, ys, he, -, hy, hl, hr, hk⟩ := h.open_
  have : ts = kids := tList_inj he
  subst this
  exact valid_any A n cap ts ys w hy hl hn hr hk
set_option maxHeartbeats 32000000 in
theorem sums_walk (T U S : Tree) (x y z : Val) (i : Int) (w : World) (hi0 : -9223372036854775808 ≤ i) (hi1 : i ≤ 9223372036854775807) (hT : RdB w w.heap.size T x) (hU : RdB w w.heap.size U y) (hS : RdB w w.heap.size S z) (ht : Tab w) :
    Calls Tryd.prog 3 #[x.v, y.v, z.v, .int .i64 i] w (Ret w (.bool true)) := by
  have HB := Lib.hid (three_vars w 26 x.box y.box z.box)
  have HR := Lib.hid (show _ ∧ _ ∧ _ ∧ _ from ⟨hT, hU, hS, ht⟩)
  have hkx : x.k = T.k := by obtain ⟨kids, ys, rfl, -⟩ := Reads.inv hT; rfl
  have hky : y.k = U.k := by obtain ⟨kids, ys, rfl, -⟩ := Reads.inv hU; rfl
  have HKK := Lib.hid (show _ ∧ _ from ⟨hkx, hky⟩)
  have HVV := Lib.hid (fun (W : World) (g : Nat) h => valid_list_any [T, U, S] (some ⟨g, 0, none⟩) 3 3 W (by decide) h)
  clear hT hU hS ht hkx hky
  obtain ⟨k, q, t, s, A, len, cap⟩ := x
  obtain ⟨k', q', t', s', A', len', cap'⟩ := y
  obtain ⟨k2, q2, t2, s2, A2, len2, cap2⟩ := z
  obtain ⟨hb, hsz, hx1, hy1, hz1⟩ := HB.out
  go_enter Tryd.func3, Tryd.ntmps3
  obtain ⟨c0, c1, c2, c3, c4, c5⟩ := hx1.val
  obtain ⟨d0, d1, d2, d3, d4, d5⟩ := hy1.val
  obtain ⟨e0, e1, e2, e3, e4, e5⟩ := hz1.val
  go_wp2_with fail
  clear c0 c1 c2 c3 c4 c5 d0 d1 d2 d3 d4 d5 e0 e1 e2 e3 e4 e5
  generalize ((w.alloc _).alloc _).alloc _ = w0 at hb hsz hx1 hy1 hz1 ⊢
  have hn := Blk.new w0 26 (box3 ⟨k, q, t, s, A, len, cap⟩ ⟨k', q', t', s', A', len', cap'⟩ ⟨k2, q2, t2, s2, A2, len2, cap2⟩)
  have hba := below_alloc w0 (.cells (box3 ⟨k, q, t, s, A, len, cap⟩ ⟨k', q', t', s', A', len', cap'⟩ ⟨k2, q2, t2, s2, A2, len2, cap2⟩) 26)
  have hb2 := hb.trans (hba.mono hb.size)
  rw [hsz] at hn
  have ra := HR.out.1.in_ hb2 hb2.size
  have rb := HR.out.2.1.in_ hb2 hb2.size
  have rc := HR.out.2.2.1.in_ hb2 hb2.size
  refine (HVV.out _ _ (rd_list3 hn ra rb rc)).mono ?_
  rintro e w1 ⟨rfl, hx⟩
  replace hx1 := (hx1.keep hba).keep hx
  replace hy1 := (hy1.keep hba).keep hx
  replace hz1 := (hz1.keep hba).keep hx
  replace hb := hb2.trans (hx.mono hb2.size)
  replace ra := ra.below hx hx.size
  replace rb := rb.below hx hx.size
  replace rc := rc.below hx hx.size
  clear hn hba hb2 hx HVV HB hsz
  cases hv : [T, U, S].all vldB with
  | false =>
    clear hv hx1 hy1 hz1 HKK ra rb rc
    go_wp2_with fail
    refine (alive_any w1 (HR.out.2.2.2.keep hb)).mono ?_
    rintro e w3 ⟨rfl, hb3⟩
    replace hb := hb.trans (hb3.mono hb.size)
    clear hb3
    go_wp2_with fail
    go_ret
    exact ⟨rfl, hb⟩
  | true =>
    have hall : Valid T ∧ Valid U ∧ Valid S := by
      simp only [List.all_cons, List.all_nil, Bool.and_true, Bool.and_eq_true] at hv
      exact ⟨vld_yes hv.1, vld_yes hv.2.1, vld_yes hv.2.2⟩
    obtain ⟨ab, bc, l, r, E1, E2, E3, E4, f1, f2, f3, f4, f5, f6, f7⟩ := sums_facts hall.1 hall.2.1 hall.2.2
    have r1 := fun x y W h h' => addV_any T U x y W hall.1.fit hall.2.1.fit h h'
    have r2 := fun x y W h h' => addV_any U S x y W hall.2.1.fit hall.2.2.fit h h'
    have r3 := fun x y W h h' => addV_any ab S x y W f5.1 hall.2.2.fit h h'
    have r4 := fun x y W h h' => addV_any T bc x y W hall.1.fit f5.2.1 h h'
    have r5 := fun x y W h h' => same_any 10 l r x y W f5.2.2 h h'
    have r6 := fun x W h => chk_any ab x W f5.1 h
    have rl1 := fun x W h => len_any T x W hall.1.fit h
    have rl2 := fun x W h => len_any U x W hall.2.1.fit h
    have rl3 := fun x W h => len_any ab x W f5.1 h
    have ra1 := fun x W h => at_any T x i W hi0 hi1 hall.1.fit h
    have ra2 := fun j x W h0 h1 h => at_any U x j W h0 h1 hall.2.1.fit h
    have ra3 := fun x W h => at_any ab x i W hi0 hi1 f5.1 h
    rw [f1.1, f1.2] at r1
    rw [f2.1, f2.2] at r2
    rw [f3.1, f3.2] at r3
    rw [f4.1, f4.2] at r4
    have R1 := Lib.hid r1
    have R2 := Lib.hid r2
    have R3 := Lib.hid r3
    have R4 := Lib.hid r4
    have R5 := Lib.hid r5
    have R6 := Lib.hid r6
    have RL := Lib.hid (show _ ∧ _ ∧ _ ∧ _ ∧ _ ∧ _ from ⟨rl1, rl2, rl3, ra1, ra2, ra3⟩)
    have HF := Lib.hid (show _ ∧ _ ∧ _ from ⟨f6, f7, f5.1⟩)
    have HAV := Lib.hid (show _ ∧ _ from ⟨hall.1, hall.2.1⟩)
    clear hv hall f1 f2 f3 f4 f5 f6 f7 r1 r2 r3 r4 r5 r6 rl1 rl2 rl3 ra1 ra2 ra3
    obtain ⟨c0, c1, c2, c3, c4, c5⟩ := hx1.val
    obtain ⟨d0, d1, d2, d3, d4, d5⟩ := hy1.val
    have hlt0 := hx1.lt
    have hlt1 := hy1.lt
    go_wp2_with fail
    clear c0 c1 c2 c3 c4 c5 d0 d1 d2 d3 d4 d5
    clear hlt0 hlt1
    refine (R1.out _ _ _ ra rb).mono ?_
    rintro e w2 ⟨⟨k3, q3, t3, s3, A3, len3, cap3⟩, rfl, hfr, hx⟩
    replace hx1 := hx1.keep hx
    replace hy1 := hy1.keep hx
    replace hz1 := hz1.keep hx
    replace ra := ra.below hx hx.size
    replace rb := rb.below hx hx.size
    replace rc := rc.below hx hx.size
    replace hb := hb.trans (hx.mono hb.size)
    have rab := hfr.rd
    clear hfr hx
    obtain ⟨c0, c1, c2, c3, c4, c5⟩ := hy1.val
    obtain ⟨d0, d1, d2, d3, d4, d5⟩ := hz1.val
    have hlt0 := hy1.lt
    have hlt1 := hz1.lt
    go_wp2_with fail
    clear c0 c1 c2 c3 c4 c5 d0 d1 d2 d3 d4 d5
    clear hlt0 hlt1
    have hx := below_alloc w2 (.cells (Val.box ⟨k3, q3, t3, s3, A3, len3, cap3⟩) 26)
    have hab := Blk.new w2 26 (Val.box ⟨k3, q3, t3, s3, A3, len3, cap3⟩)
    replace hx1 := hx1.keep hx
    replace hy1 := hy1.keep hx
    replace hz1 := hz1.keep hx
    replace ra := ra.below hx hx.size
    replace rb := rb.below hx hx.size
    replace rc := rc.below hx hx.size
    replace rab := rab.below hx hx.size
    replace hb := hb.trans (hx.mono hb.size)
    generalize w2.alloc _ = w3 at hb hx1 hy1 hz1 hab ra rb rc rab ⊢
    clear hx
    refine (R2.out _ _ _ rb rc).mono ?_
    rintro e w4 ⟨⟨k4, q4, t4, s4, A4, len4, cap4⟩, rfl, hfr, hx⟩
    replace hx1 := hx1.keep hx
    replace hy1 := hy1.keep hx
    replace hz1 := hz1.keep hx
    replace hab := hab.keep hx
    replace ra := ra.below hx hx.size
    replace rb := rb.below hx hx.size
    replace rc := rc.below hx hx.size
    replace rab := rab.below hx hx.size
    replace hb := hb.trans (hx.mono hb.size)
    have rbc := hfr.rd
    clear hfr hx
    obtain ⟨c0, c1, c2, c3, c4, c5⟩ := hab.val
    obtain ⟨d0, d1, d2, d3, d4, d5⟩ := hz1.val
    have hlt0 := hab.lt
    have hlt1 := hz1.lt
    go_wp2_with fail
    clear c0 c1 c2 c3 c4 c5 d0 d1 d2 d3 d4 d5
    clear hlt0 hlt1
    have hx := below_alloc w4 (.cells (Val.box ⟨k4, q4, t4, s4, A4, len4, cap4⟩) 26)
    have hbc := Blk.new w4 26 (Val.box ⟨k4, q4, t4, s4, A4, len4, cap4⟩)
    replace hx1 := hx1.keep hx
    replace hy1 := hy1.keep hx
    replace hz1 := hz1.keep hx
    replace hab := hab.keep hx
    replace ra := ra.below hx hx.size
    replace rb := rb.below hx hx.size
    replace rc := rc.below hx hx.size
    replace rab := rab.below hx hx.size
    replace rbc := rbc.below hx hx.size
    replace hb := hb.trans (hx.mono hb.size)
    generalize w4.alloc _ = w5 at hb hx1 hy1 hz1 hab hbc ra rb rc rab rbc ⊢
    clear hx
    refine (R3.out _ _ _ rab rc).mono ?_
    rintro e w6 ⟨⟨k5, q5, t5, s5, A5, len5, cap5⟩, rfl, hfr, hx⟩
    replace hx1 := hx1.keep hx
    replace hy1 := hy1.keep hx
    replace hz1 := hz1.keep hx
    replace hab := hab.keep hx
    replace hbc := hbc.keep hx
    replace ra := ra.below hx hx.size
    replace rb := rb.below hx hx.size
    replace rc := rc.below hx hx.size
    replace rab := rab.below hx hx.size
    replace rbc := rbc.below hx hx.size
    replace hb := hb.trans (hx.mono hb.size)
    have rl := hfr.rd
    clear hfr hx
    obtain ⟨c0, c1, c2, c3, c4, c5⟩ := hx1.val
    obtain ⟨d0, d1, d2, d3, d4, d5⟩ := hbc.val
    have hlt0 := hx1.lt
    have hlt1 := hbc.lt
    go_wp2_with fail
    clear c0 c1 c2 c3 c4 c5 d0 d1 d2 d3 d4 d5
    clear hlt0 hlt1
    have hx := below_alloc w6 (.cells (Val.box ⟨k5, q5, t5, s5, A5, len5, cap5⟩) 26)
    have hl := Blk.new w6 26 (Val.box ⟨k5, q5, t5, s5, A5, len5, cap5⟩)
    replace hx1 := hx1.keep hx
    replace hy1 := hy1.keep hx
    replace hz1 := hz1.keep hx
    replace hab := hab.keep hx
    replace hbc := hbc.keep hx
    replace ra := ra.below hx hx.size
    replace rb := rb.below hx hx.size
    replace rc := rc.below hx hx.size
    replace rab := rab.below hx hx.size
    replace rbc := rbc.below hx hx.size
    replace rl := rl.below hx hx.size
    replace hb := hb.trans (hx.mono hb.size)
    generalize w6.alloc _ = w7 at hb hx1 hy1 hz1 hab hbc hl ra rb rc rab rbc rl ⊢
    clear hx
    refine (R4.out _ _ _ ra rbc).mono ?_
    rintro e w8 ⟨⟨k6, q6, t6, s6, A6, len6, cap6⟩, rfl, hfr, hx⟩
    replace hx1 := hx1.keep hx
    replace hy1 := hy1.keep hx
    replace hz1 := hz1.keep hx
    replace hab := hab.keep hx
    replace hbc := hbc.keep hx
    replace hl := hl.keep hx
    replace ra := ra.below hx hx.size
    replace rb := rb.below hx hx.size
    replace rc := rc.below hx hx.size
    replace rab := rab.below hx hx.size
    replace rbc := rbc.below hx hx.size
    replace rl := rl.below hx hx.size
    replace hb := hb.trans (hx.mono hb.size)
    have rr := hfr.rd
    clear hfr hx
    by_cases hE1 : E1 = 0
    case neg =>
      have q1 : (E1 == 0) = false := by simpa using hE1
      have q1' : (E1 != 0) = true := by simpa using hE1
      clear HF HAV HKK
      go_wp2_with fail
      have hx := below_alloc w8 (.cells (Val.box ⟨k6, q6, t6, s6, A6, len6, cap6⟩) 26)
      have hr := Blk.new w8 26 (Val.box ⟨k6, q6, t6, s6, A6, len6, cap6⟩)
      replace hx1 := hx1.keep hx
      replace hy1 := hy1.keep hx
      replace hz1 := hz1.keep hx
      replace hab := hab.keep hx
      replace hbc := hbc.keep hx
      replace hl := hl.keep hx
      replace ra := ra.below hx hx.size
      replace rb := rb.below hx hx.size
      replace rc := rc.below hx hx.size
      replace rab := rab.below hx hx.size
      replace rbc := rbc.below hx hx.size
      replace rl := rl.below hx hx.size
      replace rr := rr.below hx hx.size
      replace hb := hb.trans (hx.mono hb.size)
      generalize w8.alloc _ = w9 at hb hx1 hy1 hz1 hab hbc hl hr ra rb rc rab rbc rl rr ⊢
      clear hx
      refine (alive_any _ (HR.out.2.2.2.keep hb)).mono ?_
      rintro e w40 ⟨rfl, hx⟩
      replace hb := hb.trans (hx.mono hb.size)
      clear hx
      go_wp2_with fail
      go_ret
      exact ⟨rfl, hb⟩
    subst hE1
    by_cases hE2 : E2 = 0
    case neg =>
      have qE : (E2 == 0) = false := by simpa using hE2
      clear hE2
      obtain ⟨hk1, hk2, hck, hrest⟩ := HF.out.2.1 (by first | rfl | trivial)
      have HRE := Lib.hid hrest
      have hkk : (k != k') = false := by
        have h1 := HKK.out.1
        have h2 := HKK.out.2
        rw [h1, h2, hk1]; simp
      have hk22 : (k == 2) = false := by
        rw [beq_eq_false_iff_ne]
        have h1 := HKK.out.1
        rw [h1]; exact hk2
      have R6' := Lib.hid (fun x W h => hck ▸ R6.out x W h)
      clear hrest hck hk1 hk2
      obtain ⟨c0, c1, c2, c3, c4, c5⟩ := hx1.val
      obtain ⟨d0, d1, d2, d3, d4, d5⟩ := hy1.val
      obtain ⟨e0, e1, e2, e3, e4, e5⟩ := hab.val
      have hlt0 := hx1.lt
      have hlt1 := hy1.lt
      have hlt2 := hab.lt
      go_wp2_with fail
      clear c0 c1 c2 c3 c4 c5 d0 d1 d2 d3 d4 d5 e0 e1 e2 e3 e4 e5
      clear hlt0 hlt1 hlt2
      have hx := below_alloc w8 (.cells (Val.box ⟨k6, q6, t6, s6, A6, len6, cap6⟩) 26)
      have hr := Blk.new w8 26 (Val.box ⟨k6, q6, t6, s6, A6, len6, cap6⟩)
      replace hx1 := hx1.keep hx
      replace hy1 := hy1.keep hx
      replace hz1 := hz1.keep hx
      replace hab := hab.keep hx
      replace hbc := hbc.keep hx
      replace hl := hl.keep hx
      replace ra := ra.below hx hx.size
      replace rb := rb.below hx hx.size
      replace rc := rc.below hx hx.size
      replace rab := rab.below hx hx.size
      replace rbc := rbc.below hx hx.size
      replace rl := rl.below hx hx.size
      replace rr := rr.below hx hx.size
      replace hb := hb.trans (hx.mono hb.size)
      generalize w8.alloc _ = w9 at hb hx1 hy1 hz1 hab hbc hl hr ra rb rc rab rbc rl rr ⊢
      clear hx
      refine (R6'.out _ _ rab).mono ?_
      rintro e w10 ⟨rfl, hx⟩
      replace hx1 := hx1.keep hx
      replace hy1 := hy1.keep hx
      replace hz1 := hz1.keep hx
      replace hab := hab.keep hx
      replace hbc := hbc.keep hx
      replace hl := hl.keep hx
      replace hr := hr.keep hx
      replace ra := ra.below hx hx.size
      replace rb := rb.below hx hx.size
      replace rc := rc.below hx hx.size
      replace rab := rab.below hx hx.size
      replace rbc := rbc.below hx hx.size
      replace rl := rl.below hx hx.size
      replace rr := rr.below hx hx.size
      replace hb := hb.trans (hx.mono hb.size)
      clear hx
      by_cases hk1 : k = 1
      case pos =>
        have hk11 : (k == 1) = true := by simpa using hk1
        obtain ⟨c0, c1, c2, c3, c4, c5⟩ := hx1.val
        have hlt0 := hx1.lt
        go_wp2_with fail
        refine (alive_any _ (HR.out.2.2.2.keep hb)).mono ?_
        rintro e w40 ⟨rfl, hx⟩
        replace hb := hb.trans (hx.mono hb.size)
        clear hx
        go_wp2_with fail
        go_ret
        exact ⟨rfl, hb⟩
      have hk11 : (k == 1) = false := by rw [beq_eq_false_iff_ne]; exact hk1
      obtain ⟨N, M, hN, hM, hNM, hrng, hfit, hge, hlt⟩ := HRE.out (by rw [← HKK.out.1]; exact hk1)
      have hwr : IntKind.i64.wrap (N + M) = N + M := by rw [IntKind.wrap_i64]; omega
      have rL := RL.out
      rw [hN.1, hN.2, hM.1, hM.2, hNM.1, hNM.2] at rL
      have RL := Lib.hid rL
      clear rL hk1
      obtain ⟨c0, c1, c2, c3, c4, c5⟩ := hx1.val
      have hlt0 := hx1.lt
      go_wp2_with fail
      clear c0 c1 c2 c3 c4 c5
      clear hlt0
      refine (RL.out.1 _ _ ra).mono ?_
      rintro e w11 ⟨rfl, hx⟩
      replace hx1 := hx1.keep hx
      replace hy1 := hy1.keep hx
      replace hz1 := hz1.keep hx
      replace hab := hab.keep hx
      replace hbc := hbc.keep hx
      replace hl := hl.keep hx
      replace hr := hr.keep hx
      replace ra := ra.below hx hx.size
      replace rb := rb.below hx hx.size
      replace rc := rc.below hx hx.size
      replace rab := rab.below hx hx.size
      replace rbc := rbc.below hx hx.size
      replace rl := rl.below hx hx.size
      replace rr := rr.below hx hx.size
      replace hb := hb.trans (hx.mono hb.size)
      clear hx
      obtain ⟨c0, c1, c2, c3, c4, c5⟩ := hy1.val
      have hlt0 := hy1.lt
      go_wp2_with fail
      clear c0 c1 c2 c3 c4 c5
      clear hlt0
      refine (RL.out.2.1 _ _ rb).mono ?_
      rintro e w12 ⟨rfl, hx⟩
      replace hx1 := hx1.keep hx
      replace hy1 := hy1.keep hx
      replace hz1 := hz1.keep hx
      replace hab := hab.keep hx
      replace hbc := hbc.keep hx
      replace hl := hl.keep hx
      replace hr := hr.keep hx
      replace ra := ra.below hx hx.size
      replace rb := rb.below hx hx.size
      replace rc := rc.below hx hx.size
      replace rab := rab.below hx hx.size
      replace rbc := rbc.below hx hx.size
      replace rl := rl.below hx hx.size
      replace rr := rr.below hx hx.size
      replace hb := hb.trans (hx.mono hb.size)
      clear hx
      obtain ⟨c0, c1, c2, c3, c4, c5⟩ := hab.val
      have hlt0 := hab.lt
      go_wp2_with fail
      clear c0 c1 c2 c3 c4 c5
      clear hlt0
      refine (RL.out.2.2.1 _ _ rab).mono ?_
      rintro e w13 ⟨rfl, hx⟩
      replace hx1 := hx1.keep hx
      replace hy1 := hy1.keep hx
      replace hz1 := hz1.keep hx
      replace hab := hab.keep hx
      replace hbc := hbc.keep hx
      replace hl := hl.keep hx
      replace hr := hr.keep hx
      replace ra := ra.below hx hx.size
      replace rb := rb.below hx hx.size
      replace rc := rc.below hx hx.size
      replace rab := rab.below hx hx.size
      replace rbc := rbc.below hx hx.size
      replace rl := rl.below hx hx.size
      replace rr := rr.below hx hx.size
      replace hb := hb.trans (hx.mono hb.size)
      clear hx
      by_cases hgi2 : N ≤ i
      · have hgi : ¬ i < N := by omega
        obtain ⟨hg1, hg2⟩ := hge i hgi2
        have rA := RL.out.2.2.2.2.2
        have rB := RL.out.2.2.2.2.1 (i - N)
        have hfx := hfit i
        rw [hg1, hg2] at rA
        rw [hg1] at hfx
        generalize atT U (i - N) = X at rA rB hfx
        generalize atE U (i - N) = EX at rA rB
        have rS := fun x y W h h' => same_any 10 X X x y W hfx h h'
        rw [sameB_self] at rS
        have RA := Lib.hid (show _ ∧ _ ∧ _ from ⟨rA, rB, rS⟩)
        clear rA rB rS hfx hg1 hg2
        obtain ⟨c0, c1, c2, c3, c4, c5⟩ := hab.val
        have hlt0 := hab.lt
        go_wp2_with fail
        clear c0 c1 c2 c3 c4 c5
        clear hlt0
        refine (RA.out.1 _ _ rab).mono ?_
        rintro e w14 ⟨⟨k7, q7, t7, s7, A7, len7, cap7⟩, rfl, hfr, hx⟩
        replace hx1 := hx1.keep hx
        replace hy1 := hy1.keep hx
        replace hz1 := hz1.keep hx
        replace hab := hab.keep hx
        replace hbc := hbc.keep hx
        replace hl := hl.keep hx
        replace hr := hr.keep hx
        replace ra := ra.below hx hx.size
        replace rb := rb.below hx hx.size
        replace rc := rc.below hx hx.size
        replace rab := rab.below hx hx.size
        replace rbc := rbc.below hx hx.size
        replace rl := rl.below hx hx.size
        replace rr := rr.below hx hx.size
        replace hb := hb.trans (hx.mono hb.size)
        have rx7 := hfr.rd
        clear hfr hx
        obtain ⟨c0, c1, c2, c3, c4, c5⟩ := hx1.val
        have hlt0 := hx1.lt
        go_wp2_with fail
        clear c0 c1 c2 c3 c4 c5
        clear hlt0
        have hx := below_alloc w14 (.cells (Val.box ⟨k7, q7, t7, s7, A7, len7, cap7⟩) 26)
        have hx7 := Blk.new w14 26 (Val.box ⟨k7, q7, t7, s7, A7, len7, cap7⟩)
        replace hx1 := hx1.keep hx
        replace hy1 := hy1.keep hx
        replace hz1 := hz1.keep hx
        replace hab := hab.keep hx
        replace hbc := hbc.keep hx
        replace hl := hl.keep hx
        replace hr := hr.keep hx
        replace ra := ra.below hx hx.size
        replace rb := rb.below hx hx.size
        replace rc := rc.below hx hx.size
        replace rab := rab.below hx hx.size
        replace rbc := rbc.below hx hx.size
        replace rl := rl.below hx hx.size
        replace rr := rr.below hx hx.size
        replace rx7 := rx7.below hx hx.size
        replace hb := hb.trans (hx.mono hb.size)
        generalize w14.alloc _ = w15 at hb hx1 hy1 hz1 hab hbc hl hr hx7 ra rb rc rab rbc rl rr rx7 ⊢
        clear hx
        refine (RL.out.2.2.2.1 _ _ ra).mono ?_
        rintro e w16 ⟨⟨k8, q8, t8, s8, A8, len8, cap8⟩, rfl, hfr, hx⟩
        replace hx1 := hx1.keep hx
        replace hy1 := hy1.keep hx
        replace hz1 := hz1.keep hx
        replace hab := hab.keep hx
        replace hbc := hbc.keep hx
        replace hl := hl.keep hx
        replace hr := hr.keep hx
        replace hx7 := hx7.keep hx
        replace ra := ra.below hx hx.size
        replace rb := rb.below hx hx.size
        replace rc := rc.below hx hx.size
        replace rab := rab.below hx hx.size
        replace rbc := rbc.below hx hx.size
        replace rl := rl.below hx hx.size
        replace rr := rr.below hx hx.size
        replace rx7 := rx7.below hx hx.size
        replace hb := hb.trans (hx.mono hb.size)
        have rx8 := hfr.rd
        clear hfr hx
        have hw8 : w.heap.size ≤ w16.heap.size := hb.size
        have h78 : w14.heap.size < w16.heap.size := hx7.lt
        have rx7b : RdB w16 w16.heap.size X _ := rx7
        have hb8 := hb
        have hwi : IntKind.i64.wrap (i - N) = i - N := by rw [IntKind.wrap_i64]; omega
        obtain ⟨c0, c1, c2, c3, c4, c5⟩ := hy1.val
        have hlt0 := hy1.lt
        go_wp2_with fail
        clear c0 c1 c2 c3 c4 c5
        clear hlt0
        have hx := below_alloc w16 (.cells (Val.box ⟨k8, q8, t8, s8, A8, len8, cap8⟩) 26)
        replace rx7b := rx7b.below hx (Nat.le_refl _)
        clear hx
        have hx := below_alloc w16 (.cells (Val.box ⟨k8, q8, t8, s8, A8, len8, cap8⟩) 26)
        have hx8 := Blk.new w16 26 (Val.box ⟨k8, q8, t8, s8, A8, len8, cap8⟩)
        replace hx1 := hx1.keep hx
        replace hy1 := hy1.keep hx
        replace hz1 := hz1.keep hx
        replace hab := hab.keep hx
        replace hbc := hbc.keep hx
        replace hl := hl.keep hx
        replace hr := hr.keep hx
        replace hx7 := hx7.keep hx
        replace ra := ra.below hx hx.size
        replace rb := rb.below hx hx.size
        replace rc := rc.below hx hx.size
        replace rab := rab.below hx hx.size
        replace rbc := rbc.below hx hx.size
        replace rl := rl.below hx hx.size
        replace rr := rr.below hx hx.size
        replace rx7 := rx7.below hx hx.size
        replace rx8 := rx8.below hx hx.size
        replace hb := hb.trans (hx.mono hb.size)
        generalize w16.alloc _ = w17 at hb hx1 hy1 hz1 hab hbc hl hr hx7 hx8 ra rb rc rab rbc rl rr rx7 rx8 rx7b ⊢
        clear hx
        have hlt8 := hx8.lt
        refine (RA.out.2.1 _ w17 (by omega) (by omega) rb).mono ?_
        rintro e w18 ⟨⟨k9, q9, t9, s9, A9, len9, cap9⟩, rfl, hfr, hx⟩
        replace rx7b := rx7b.below (hx.mono (Nat.le_of_lt hlt8)) (Nat.le_refl _)
        replace hx1 := hx1.keep hx
        replace hy1 := hy1.keep hx
        replace hz1 := hz1.keep hx
        replace hab := hab.keep hx
        replace hbc := hbc.keep hx
        replace hl := hl.keep hx
        replace hr := hr.keep hx
        replace hx7 := hx7.keep hx
        replace hx8 := hx8.keep hx
        replace ra := ra.below hx hx.size
        replace rb := rb.below hx hx.size
        replace rc := rc.below hx hx.size
        replace rab := rab.below hx hx.size
        replace rbc := rbc.below hx hx.size
        replace rl := rl.below hx hx.size
        replace rr := rr.below hx hx.size
        replace rx7 := rx7.below hx hx.size
        replace rx8 := rx8.below hx hx.size
        replace hb := hb.trans (hx.mono hb.size)
        clear hx
        obtain ⟨y0, y1, y2, y3, y4, y5⟩ := hx8.val
        have yf := hx8.frozen
        obtain ⟨x0, x1', x2', x3', x4', x5'⟩ := hx7.val
        have hn8 : Blk _ _ 26 (Val.box ⟨k9, q9, t9, s9, A9, len9, cap9⟩) := hx8.set6 (.int .u8 k9) (.int .i64 q9.n) (.int .i64 q9.d) (.bool t9) (.string s9) (.slice A9 len9 cap9)
        have hn7 : Blk _ _ 26 (Val.box ⟨k7, q7, t7, s7, A7, len7, cap7⟩) := (far_set6 (w := w18) (k := w14.heap.size) (g := w16.heap.size) (by omega) (.int .u8 k9) (.int .i64 q9.n) (.int .i64 q9.d) (.bool t9) (.string s9) (.slice A9 len9 cap9)).trans hx7
        have hbn := below_set6 hb hw8 (.int .u8 k9) (.int .i64 q9.n) (.int .i64 q9.d) (.bool t9) (.string s9) (.slice A9 len9 cap9)
        have hr7 := rx7b.below (below_set6 (Below.refl w16.heap.size w18) (Nat.le_refl _) (.int .u8 k9) (.int .i64 q9.n) (.int .i64 q9.d) (.bool t9) (.string s9) (.slice A9 len9 cap9)) (Nat.le_refl _)
        have hr9 := (hfr.keep (w' := _) (Nat.le_refl _) (fun g h1 h2 => far_set6 (w := w18) (k := g) (g := w16.heap.size) (by omega) (.int .u8 k9) (.int .i64 q9.n) (.int .i64 q9.d) (.bool t9) (.string s9) (.slice A9 len9 cap9))).rd
        have h87 : ¬ w14.heap.size = w16.heap.size := by omega
        obtain ⟨z0, z1, z2, z3, z4, z5⟩ := hn8.val
        have HZ := Lib.hid (show _ ∧ _ ∧ _ ∧ _ ∧ _ from ⟨hn8, hn7, hbn, hr7, hr9⟩)
        clear hn8 hn7 hbn hr7 hr9 hfr z0 z1 z2 z3 z4 z5
        go_wp2_with fail
        refine (RA.out.2.2 _ _ _ (HZ.out.2.2.2.1.more (Nat.le_of_lt HZ.out.1.lt)) HZ.out.2.2.2.2).mono ?_
        rintro e w30 ⟨rfl, hx⟩
        replace hb := HZ.out.2.2.1.trans (hx.mono HZ.out.2.2.1.size)
        clear hx
        go_wp2_with fail
        refine (alive_any _ (HR.out.2.2.2.keep hb)).mono ?_
        rintro e w40 ⟨rfl, hx⟩
        replace hb := hb.trans (hx.mono hb.size)
        clear hx
        go_wp2_with fail
        go_ret
        exact ⟨rfl, hb⟩
      · obtain ⟨hg1, hg2⟩ := hlt i (by omega)
        have rA := RL.out.2.2.2.2.2
        have rB := RL.out.2.2.2.1
        have hfx := hfit i
        rw [hg1, hg2] at rA
        rw [hg1] at hfx
        generalize atT T i = X at rA rB hfx
        generalize atE T i = EX at rA rB
        have rS := fun x y W h h' => same_any 10 X X x y W hfx h h'
        rw [sameB_self] at rS
        have RA := Lib.hid (show _ ∧ _ ∧ _ from ⟨rA, rB, rS⟩)
        clear rA rB rS hfx hg1 hg2
        obtain ⟨c0, c1, c2, c3, c4, c5⟩ := hab.val
        have hlt0 := hab.lt
        go_wp2_with fail
        clear c0 c1 c2 c3 c4 c5
        clear hlt0
        refine (RA.out.1 _ _ rab).mono ?_
        rintro e w14 ⟨⟨k7, q7, t7, s7, A7, len7, cap7⟩, rfl, hfr, hx⟩
        replace hx1 := hx1.keep hx
        replace hy1 := hy1.keep hx
        replace hz1 := hz1.keep hx
        replace hab := hab.keep hx
        replace hbc := hbc.keep hx
        replace hl := hl.keep hx
        replace hr := hr.keep hx
        replace ra := ra.below hx hx.size
        replace rb := rb.below hx hx.size
        replace rc := rc.below hx hx.size
        replace rab := rab.below hx hx.size
        replace rbc := rbc.below hx hx.size
        replace rl := rl.below hx hx.size
        replace rr := rr.below hx hx.size
        replace hb := hb.trans (hx.mono hb.size)
        have rx7 := hfr.rd
        clear hfr hx
        obtain ⟨c0, c1, c2, c3, c4, c5⟩ := hx1.val
        have hlt0 := hx1.lt
        go_wp2_with fail
        clear c0 c1 c2 c3 c4 c5
        clear hlt0
        have hx := below_alloc w14 (.cells (Val.box ⟨k7, q7, t7, s7, A7, len7, cap7⟩) 26)
        have hx7 := Blk.new w14 26 (Val.box ⟨k7, q7, t7, s7, A7, len7, cap7⟩)
        replace hx1 := hx1.keep hx
        replace hy1 := hy1.keep hx
        replace hz1 := hz1.keep hx
        replace hab := hab.keep hx
        replace hbc := hbc.keep hx
        replace hl := hl.keep hx
        replace hr := hr.keep hx
        replace ra := ra.below hx hx.size
        replace rb := rb.below hx hx.size
        replace rc := rc.below hx hx.size
        replace rab := rab.below hx hx.size
        replace rbc := rbc.below hx hx.size
        replace rl := rl.below hx hx.size
        replace rr := rr.below hx hx.size
        replace rx7 := rx7.below hx hx.size
        replace hb := hb.trans (hx.mono hb.size)
        generalize w14.alloc _ = w15 at hb hx1 hy1 hz1 hab hbc hl hr hx7 ra rb rc rab rbc rl rr rx7 ⊢
        clear hx
        refine (RA.out.2.1 _ _ ra).mono ?_
        rintro e w16 ⟨⟨k8, q8, t8, s8, A8, len8, cap8⟩, rfl, hfr, hx⟩
        replace hx1 := hx1.keep hx
        replace hy1 := hy1.keep hx
        replace hz1 := hz1.keep hx
        replace hab := hab.keep hx
        replace hbc := hbc.keep hx
        replace hl := hl.keep hx
        replace hr := hr.keep hx
        replace hx7 := hx7.keep hx
        replace ra := ra.below hx hx.size
        replace rb := rb.below hx hx.size
        replace rc := rc.below hx hx.size
        replace rab := rab.below hx hx.size
        replace rbc := rbc.below hx hx.size
        replace rl := rl.below hx hx.size
        replace rr := rr.below hx hx.size
        replace rx7 := rx7.below hx hx.size
        replace hb := hb.trans (hx.mono hb.size)
        have rx8 := hfr.rd
        clear hfr hx
        obtain ⟨c0, c1, c2, c3, c4, c5⟩ := hx7.val
        have hlt0 := hx7.lt
        have hp := Blk.new w16 26 (Val.box ⟨k8, q8, t8, s8, A8, len8, cap8⟩)
        obtain ⟨d0, d1, d2, d3, d4, d5⟩ := hp.val
        have hgl : ¬ N ≤ i := by omega
        go_wp2_with fail
        clear hp d0 d1 d2 d3 d4 d5
        clear c0 c1 c2 c3 c4 c5 hlt0
        have hx := below_alloc w16 (.cells (Val.box ⟨k8, q8, t8, s8, A8, len8, cap8⟩) 26)
        have hx8 := Blk.new w16 26 (Val.box ⟨k8, q8, t8, s8, A8, len8, cap8⟩)
        replace hx1 := hx1.keep hx
        replace hy1 := hy1.keep hx
        replace hz1 := hz1.keep hx
        replace hab := hab.keep hx
        replace hbc := hbc.keep hx
        replace hl := hl.keep hx
        replace hr := hr.keep hx
        replace hx7 := hx7.keep hx
        replace ra := ra.below hx hx.size
        replace rb := rb.below hx hx.size
        replace rc := rc.below hx hx.size
        replace rab := rab.below hx hx.size
        replace rbc := rbc.below hx hx.size
        replace rl := rl.below hx hx.size
        replace rr := rr.below hx hx.size
        replace rx7 := rx7.below hx hx.size
        replace rx8 := rx8.below hx hx.size
        replace hb := hb.trans (hx.mono hb.size)
        generalize w16.alloc _ = w17 at hb hx1 hy1 hz1 hab hbc hl hr hx7 hx8 ra rb rc rab rbc rl rr rx7 rx8 ⊢
        clear hx
        refine (RA.out.2.2 _ _ _ rx7 rx8).mono ?_
        rintro e w18 ⟨rfl, hx⟩
        replace hx1 := hx1.keep hx
        replace hy1 := hy1.keep hx
        replace hz1 := hz1.keep hx
        replace hab := hab.keep hx
        replace hbc := hbc.keep hx
        replace hl := hl.keep hx
        replace hr := hr.keep hx
        replace hx7 := hx7.keep hx
        replace hx8 := hx8.keep hx
        replace ra := ra.below hx hx.size
        replace rb := rb.below hx hx.size
        replace rc := rc.below hx hx.size
        replace rab := rab.below hx hx.size
        replace rbc := rbc.below hx hx.size
        replace rl := rl.below hx hx.size
        replace rr := rr.below hx hx.size
        replace rx7 := rx7.below hx hx.size
        replace rx8 := rx8.below hx hx.size
        replace hb := hb.trans (hx.mono hb.size)
        clear hx
        go_wp2_with fail
        refine (alive_any _ (HR.out.2.2.2.keep hb)).mono ?_
        rintro e w40 ⟨rfl, hx⟩
        replace hb := hb.trans (hx.mono hb.size)
        clear hx
        go_wp2_with fail
        go_ret
        exact ⟨rfl, hb⟩
    subst hE2
    by_cases hE3 : E3 = 0
    case neg =>
      have qE : (E3 == 0) = false := by simpa using hE3
      clear hE3
      obtain ⟨hk1, hk2, hck, hrest⟩ := HF.out.2.1 (by first | rfl | trivial)
      have HRE := Lib.hid hrest
      have hkk : (k != k') = false := by
        have h1 := HKK.out.1
        have h2 := HKK.out.2
        rw [h1, h2, hk1]; simp
      have hk22 : (k == 2) = false := by
        rw [beq_eq_false_iff_ne]
        have h1 := HKK.out.1
        rw [h1]; exact hk2
      have R6' := Lib.hid (fun x W h => hck ▸ R6.out x W h)
      clear hrest hck hk1 hk2
      obtain ⟨c0, c1, c2, c3, c4, c5⟩ := hx1.val
      obtain ⟨d0, d1, d2, d3, d4, d5⟩ := hy1.val
      obtain ⟨e0, e1, e2, e3, e4, e5⟩ := hab.val
      have hlt0 := hx1.lt
      have hlt1 := hy1.lt
      have hlt2 := hab.lt
      go_wp2_with fail
      clear c0 c1 c2 c3 c4 c5 d0 d1 d2 d3 d4 d5 e0 e1 e2 e3 e4 e5
      clear hlt0 hlt1 hlt2
      have hx := below_alloc w8 (.cells (Val.box ⟨k6, q6, t6, s6, A6, len6, cap6⟩) 26)
      have hr := Blk.new w8 26 (Val.box ⟨k6, q6, t6, s6, A6, len6, cap6⟩)
      replace hx1 := hx1.keep hx
      replace hy1 := hy1.keep hx
      replace hz1 := hz1.keep hx
      replace hab := hab.keep hx
      replace hbc := hbc.keep hx
      replace hl := hl.keep hx
      replace ra := ra.below hx hx.size
      replace rb := rb.below hx hx.size
      replace rc := rc.below hx hx.size
      replace rab := rab.below hx hx.size
      replace rbc := rbc.below hx hx.size
      replace rl := rl.below hx hx.size
      replace rr := rr.below hx hx.size
      replace hb := hb.trans (hx.mono hb.size)
      generalize w8.alloc _ = w9 at hb hx1 hy1 hz1 hab hbc hl hr ra rb rc rab rbc rl rr ⊢
      clear hx
      refine (R6'.out _ _ rab).mono ?_
      rintro e w10 ⟨rfl, hx⟩
      replace hx1 := hx1.keep hx
      replace hy1 := hy1.keep hx
      replace hz1 := hz1.keep hx
      replace hab := hab.keep hx
      replace hbc := hbc.keep hx
      replace hl := hl.keep hx
      replace hr := hr.keep hx
      replace ra := ra.below hx hx.size
      replace rb := rb.below hx hx.size
      replace rc := rc.below hx hx.size
      replace rab := rab.below hx hx.size
      replace rbc := rbc.below hx hx.size
      replace rl := rl.below hx hx.size
      replace rr := rr.below hx hx.size
      replace hb := hb.trans (hx.mono hb.size)
      clear hx
      by_cases hk1 : k = 1
      case pos =>
        have hk11 : (k == 1) = true := by simpa using hk1
        obtain ⟨c0, c1, c2, c3, c4, c5⟩ := hx1.val
        have hlt0 := hx1.lt
        go_wp2_with fail
        refine (alive_any _ (HR.out.2.2.2.keep hb)).mono ?_
        rintro e w40 ⟨rfl, hx⟩
        replace hb := hb.trans (hx.mono hb.size)
        clear hx
        go_wp2_with fail
        go_ret
        exact ⟨rfl, hb⟩
      have hk11 : (k == 1) = false := by rw [beq_eq_false_iff_ne]; exact hk1
      obtain ⟨N, M, hN, hM, hNM, hrng, hfit, hge, hlt⟩ := HRE.out (by rw [← HKK.out.1]; exact hk1)
      have hwr : IntKind.i64.wrap (N + M) = N + M := by rw [IntKind.wrap_i64]; omega
      have rL := RL.out
      rw [hN.1, hN.2, hM.1, hM.2, hNM.1, hNM.2] at rL
      have RL := Lib.hid rL
      clear rL hk1
      obtain ⟨c0, c1, c2, c3, c4, c5⟩ := hx1.val
      have hlt0 := hx1.lt
      go_wp2_with fail
      clear c0 c1 c2 c3 c4 c5
      clear hlt0
      refine (RL.out.1 _ _ ra).mono ?_
      rintro e w11 ⟨rfl, hx⟩
      replace hx1 := hx1.keep hx
      replace hy1 := hy1.keep hx
      replace hz1 := hz1.keep hx
      replace hab := hab.keep hx
      replace hbc := hbc.keep hx
      replace hl := hl.keep hx
      replace hr := hr.keep hx
      replace ra := ra.below hx hx.size
      replace rb := rb.below hx hx.size
      replace rc := rc.below hx hx.size
      replace rab := rab.below hx hx.size
      replace rbc := rbc.below hx hx.size
      replace rl := rl.below hx hx.size
      replace rr := rr.below hx hx.size
      replace hb := hb.trans (hx.mono hb.size)
      clear hx
      obtain ⟨c0, c1, c2, c3, c4, c5⟩ := hy1.val
      have hlt0 := hy1.lt
      go_wp2_with fail
      clear c0 c1 c2 c3 c4 c5
      clear hlt0
      refine (RL.out.2.1 _ _ rb).mono ?_
      rintro e w12 ⟨rfl, hx⟩
      replace hx1 := hx1.keep hx
      replace hy1 := hy1.keep hx
      replace hz1 := hz1.keep hx
      replace hab := hab.keep hx
      replace hbc := hbc.keep hx
      replace hl := hl.keep hx
      replace hr := hr.keep hx
      replace ra := ra.below hx hx.size
      replace rb := rb.below hx hx.size
      replace rc := rc.below hx hx.size
      replace rab := rab.below hx hx.size
      replace rbc := rbc.below hx hx.size
      replace rl := rl.below hx hx.size
      replace rr := rr.below hx hx.size
      replace hb := hb.trans (hx.mono hb.size)
      clear hx
      obtain ⟨c0, c1, c2, c3, c4, c5⟩ := hab.val
      have hlt0 := hab.lt
      go_wp2_with fail
      clear c0 c1 c2 c3 c4 c5
      clear hlt0
      refine (RL.out.2.2.1 _ _ rab).mono ?_
      rintro e w13 ⟨rfl, hx⟩
      replace hx1 := hx1.keep hx
      replace hy1 := hy1.keep hx
      replace hz1 := hz1.keep hx
      replace hab := hab.keep hx
      replace hbc := hbc.keep hx
      replace hl := hl.keep hx
      replace hr := hr.keep hx
      replace ra := ra.below hx hx.size
      replace rb := rb.below hx hx.size
      replace rc := rc.below hx hx.size
      replace rab := rab.below hx hx.size
      replace rbc := rbc.below hx hx.size
      replace rl := rl.below hx hx.size
      replace rr := rr.below hx hx.size
      replace hb := hb.trans (hx.mono hb.size)
      clear hx
      by_cases hgi2 : N ≤ i
      · have hgi : ¬ i < N := by omega
        obtain ⟨hg1, hg2⟩ := hge i hgi2
        have rA := RL.out.2.2.2.2.2
        have rB := RL.out.2.2.2.2.1 (i - N)
        have hfx := hfit i
        rw [hg1, hg2] at rA
        rw [hg1] at hfx
        generalize atT U (i - N) = X at rA rB hfx
        generalize atE U (i - N) = EX at rA rB
        have rS := fun x y W h h' => same_any 10 X X x y W hfx h h'
        rw [sameB_self] at rS
        have RA := Lib.hid (show _ ∧ _ ∧ _ from ⟨rA, rB, rS⟩)
        clear rA rB rS hfx hg1 hg2
        obtain ⟨c0, c1, c2, c3, c4, c5⟩ := hab.val
        have hlt0 := hab.lt
        go_wp2_with fail
        clear c0 c1 c2 c3 c4 c5
        clear hlt0
        refine (RA.out.1 _ _ rab).mono ?_
        rintro e w14 ⟨⟨k7, q7, t7, s7, A7, len7, cap7⟩, rfl, hfr, hx⟩
        replace hx1 := hx1.keep hx
        replace hy1 := hy1.keep hx
        replace hz1 := hz1.keep hx
        replace hab := hab.keep hx
        replace hbc := hbc.keep hx
        replace hl := hl.keep hx
        replace hr := hr.keep hx
        replace ra := ra.below hx hx.size
        replace rb := rb.below hx hx.size
        replace rc := rc.below hx hx.size
        replace rab := rab.below hx hx.size
        replace rbc := rbc.below hx hx.size
        replace rl := rl.below hx hx.size
        replace rr := rr.below hx hx.size
        replace hb := hb.trans (hx.mono hb.size)
        have rx7 := hfr.rd
        clear hfr hx
        obtain ⟨c0, c1, c2, c3, c4, c5⟩ := hx1.val
        have hlt0 := hx1.lt
        go_wp2_with fail
        clear c0 c1 c2 c3 c4 c5
        clear hlt0
        have hx := below_alloc w14 (.cells (Val.box ⟨k7, q7, t7, s7, A7, len7, cap7⟩) 26)
        have hx7 := Blk.new w14 26 (Val.box ⟨k7, q7, t7, s7, A7, len7, cap7⟩)
        replace hx1 := hx1.keep hx
        replace hy1 := hy1.keep hx
        replace hz1 := hz1.keep hx
        replace hab := hab.keep hx
        replace hbc := hbc.keep hx
        replace hl := hl.keep hx
        replace hr := hr.keep hx
        replace ra := ra.below hx hx.size
        replace rb := rb.below hx hx.size
        replace rc := rc.below hx hx.size
        replace rab := rab.below hx hx.size
        replace rbc := rbc.below hx hx.size
        replace rl := rl.below hx hx.size
        replace rr := rr.below hx hx.size
        replace rx7 := rx7.below hx hx.size
        replace hb := hb.trans (hx.mono hb.size)
        generalize w14.alloc _ = w15 at hb hx1 hy1 hz1 hab hbc hl hr hx7 ra rb rc rab rbc rl rr rx7 ⊢
        clear hx
        refine (RL.out.2.2.2.1 _ _ ra).mono ?_
        rintro e w16 ⟨⟨k8, q8, t8, s8, A8, len8, cap8⟩, rfl, hfr, hx⟩
        replace hx1 := hx1.keep hx
        replace hy1 := hy1.keep hx
        replace hz1 := hz1.keep hx
        replace hab := hab.keep hx
        replace hbc := hbc.keep hx
        replace hl := hl.keep hx
        replace hr := hr.keep hx
        replace hx7 := hx7.keep hx
        replace ra := ra.below hx hx.size
        replace rb := rb.below hx hx.size
        replace rc := rc.below hx hx.size
        replace rab := rab.below hx hx.size
        replace rbc := rbc.below hx hx.size
        replace rl := rl.below hx hx.size
        replace rr := rr.below hx hx.size
        replace rx7 := rx7.below hx hx.size
        replace hb := hb.trans (hx.mono hb.size)
        have rx8 := hfr.rd
        clear hfr hx
        have hw8 : w.heap.size ≤ w16.heap.size := hb.size
        have h78 : w14.heap.size < w16.heap.size := hx7.lt
        have rx7b : RdB w16 w16.heap.size X _ := rx7
        have hb8 := hb
        have hwi : IntKind.i64.wrap (i - N) = i - N := by rw [IntKind.wrap_i64]; omega
        obtain ⟨c0, c1, c2, c3, c4, c5⟩ := hy1.val
        have hlt0 := hy1.lt
        go_wp2_with fail
        clear c0 c1 c2 c3 c4 c5
        clear hlt0
        have hx := below_alloc w16 (.cells (Val.box ⟨k8, q8, t8, s8, A8, len8, cap8⟩) 26)
        replace rx7b := rx7b.below hx (Nat.le_refl _)
        clear hx
        have hx := below_alloc w16 (.cells (Val.box ⟨k8, q8, t8, s8, A8, len8, cap8⟩) 26)
        have hx8 := Blk.new w16 26 (Val.box ⟨k8, q8, t8, s8, A8, len8, cap8⟩)
        replace hx1 := hx1.keep hx
        replace hy1 := hy1.keep hx
        replace hz1 := hz1.keep hx
        replace hab := hab.keep hx
        replace hbc := hbc.keep hx
        replace hl := hl.keep hx
        replace hr := hr.keep hx
        replace hx7 := hx7.keep hx
        replace ra := ra.below hx hx.size
        replace rb := rb.below hx hx.size
        replace rc := rc.below hx hx.size
        replace rab := rab.below hx hx.size
        replace rbc := rbc.below hx hx.size
        replace rl := rl.below hx hx.size
        replace rr := rr.below hx hx.size
        replace rx7 := rx7.below hx hx.size
        replace rx8 := rx8.below hx hx.size
        replace hb := hb.trans (hx.mono hb.size)
        generalize w16.alloc _ = w17 at hb hx1 hy1 hz1 hab hbc hl hr hx7 hx8 ra rb rc rab rbc rl rr rx7 rx8 rx7b ⊢
        clear hx
        have hlt8 := hx8.lt
        refine (RA.out.2.1 _ w17 (by omega) (by omega) rb).mono ?_
        rintro e w18 ⟨⟨k9, q9, t9, s9, A9, len9, cap9⟩, rfl, hfr, hx⟩
        replace rx7b := rx7b.below (hx.mono (Nat.le_of_lt hlt8)) (Nat.le_refl _)
        replace hx1 := hx1.keep hx
        replace hy1 := hy1.keep hx
        replace hz1 := hz1.keep hx
        replace hab := hab.keep hx
        replace hbc := hbc.keep hx
        replace hl := hl.keep hx
        replace hr := hr.keep hx
        replace hx7 := hx7.keep hx
        replace hx8 := hx8.keep hx
        replace ra := ra.below hx hx.size
        replace rb := rb.below hx hx.size
        replace rc := rc.below hx hx.size
        replace rab := rab.below hx hx.size
        replace rbc := rbc.below hx hx.size
        replace rl := rl.below hx hx.size
        replace rr := rr.below hx hx.size
        replace rx7 := rx7.below hx hx.size
        replace rx8 := rx8.below hx hx.size
        replace hb := hb.trans (hx.mono hb.size)
        clear hx
        obtain ⟨y0, y1, y2, y3, y4, y5⟩ := hx8.val
        have yf := hx8.frozen
        obtain ⟨x0, x1', x2', x3', x4', x5'⟩ := hx7.val
        have hn8 : Blk _ _ 26 (Val.box ⟨k9, q9, t9, s9, A9, len9, cap9⟩) := hx8.set6 (.int .u8 k9) (.int .i64 q9.n) (.int .i64 q9.d) (.bool t9) (.string s9) (.slice A9 len9 cap9)
        have hn7 : Blk _ _ 26 (Val.box ⟨k7, q7, t7, s7, A7, len7, cap7⟩) := (far_set6 (w := w18) (k := w14.heap.size) (g := w16.heap.size) (by omega) (.int .u8 k9) (.int .i64 q9.n) (.int .i64 q9.d) (.bool t9) (.string s9) (.slice A9 len9 cap9)).trans hx7
        have hbn := below_set6 hb hw8 (.int .u8 k9) (.int .i64 q9.n) (.int .i64 q9.d) (.bool t9) (.string s9) (.slice A9 len9 cap9)
        have hr7 := rx7b.below (below_set6 (Below.refl w16.heap.size w18) (Nat.le_refl _) (.int .u8 k9) (.int .i64 q9.n) (.int .i64 q9.d) (.bool t9) (.string s9) (.slice A9 len9 cap9)) (Nat.le_refl _)
        have hr9 := (hfr.keep (w' := _) (Nat.le_refl _) (fun g h1 h2 => far_set6 (w := w18) (k := g) (g := w16.heap.size) (by omega) (.int .u8 k9) (.int .i64 q9.n) (.int .i64 q9.d) (.bool t9) (.string s9) (.slice A9 len9 cap9))).rd
        have h87 : ¬ w14.heap.size = w16.heap.size := by omega
        obtain ⟨z0, z1, z2, z3, z4, z5⟩ := hn8.val
        have HZ := Lib.hid (show _ ∧ _ ∧ _ ∧ _ ∧ _ from ⟨hn8, hn7, hbn, hr7, hr9⟩)
        clear hn8 hn7 hbn hr7 hr9 hfr z0 z1 z2 z3 z4 z5
        go_wp2_with fail
        refine (RA.out.2.2 _ _ _ (HZ.out.2.2.2.1.more (Nat.le_of_lt HZ.out.1.lt)) HZ.out.2.2.2.2).mono ?_
        rintro e w30 ⟨rfl, hx⟩
        replace hb := HZ.out.2.2.1.trans (hx.mono HZ.out.2.2.1.size)
        clear hx
        go_wp2_with fail
        refine (alive_any _ (HR.out.2.2.2.keep hb)).mono ?_
        rintro e w40 ⟨rfl, hx⟩
        replace hb := hb.trans (hx.mono hb.size)
        clear hx
        go_wp2_with fail
        go_ret
        exact ⟨rfl, hb⟩
      · obtain ⟨hg1, hg2⟩ := hlt i (by omega)
        have rA := RL.out.2.2.2.2.2
        have rB := RL.out.2.2.2.1
        have hfx := hfit i
        rw [hg1, hg2] at rA
        rw [hg1] at hfx
        generalize atT T i = X at rA rB hfx
        generalize atE T i = EX at rA rB
        have rS := fun x y W h h' => same_any 10 X X x y W hfx h h'
        rw [sameB_self] at rS
        have RA := Lib.hid (show _ ∧ _ ∧ _ from ⟨rA, rB, rS⟩)
        clear rA rB rS hfx hg1 hg2
        obtain ⟨c0, c1, c2, c3, c4, c5⟩ := hab.val
        have hlt0 := hab.lt
        go_wp2_with fail
        clear c0 c1 c2 c3 c4 c5
        clear hlt0
        refine (RA.out.1 _ _ rab).mono ?_
        rintro e w14 ⟨⟨k7, q7, t7, s7, A7, len7, cap7⟩, rfl, hfr, hx⟩
        replace hx1 := hx1.keep hx
        replace hy1 := hy1.keep hx
        replace hz1 := hz1.keep hx
        replace hab := hab.keep hx
        replace hbc := hbc.keep hx
        replace hl := hl.keep hx
        replace hr := hr.keep hx
        replace ra := ra.below hx hx.size
        replace rb := rb.below hx hx.size
        replace rc := rc.below hx hx.size
        replace rab := rab.below hx hx.size
        replace rbc := rbc.below hx hx.size
        replace rl := rl.below hx hx.size
        replace rr := rr.below hx hx.size
        replace hb := hb.trans (hx.mono hb.size)
        have rx7 := hfr.rd
        clear hfr hx
        obtain ⟨c0, c1, c2, c3, c4, c5⟩ := hx1.val
        have hlt0 := hx1.lt
        go_wp2_with fail
        clear c0 c1 c2 c3 c4 c5
        clear hlt0
        have hx := below_alloc w14 (.cells (Val.box ⟨k7, q7, t7, s7, A7, len7, cap7⟩) 26)
        have hx7 := Blk.new w14 26 (Val.box ⟨k7, q7, t7, s7, A7, len7, cap7⟩)
        replace hx1 := hx1.keep hx
        replace hy1 := hy1.keep hx
        replace hz1 := hz1.keep hx
        replace hab := hab.keep hx
        replace hbc := hbc.keep hx
        replace hl := hl.keep hx
        replace hr := hr.keep hx
        replace ra := ra.below hx hx.size
        replace rb := rb.below hx hx.size
        replace rc := rc.below hx hx.size
        replace rab := rab.below hx hx.size
        replace rbc := rbc.below hx hx.size
        replace rl := rl.below hx hx.size
        replace rr := rr.below hx hx.size
        replace rx7 := rx7.below hx hx.size
        replace hb := hb.trans (hx.mono hb.size)
        generalize w14.alloc _ = w15 at hb hx1 hy1 hz1 hab hbc hl hr hx7 ra rb rc rab rbc rl rr rx7 ⊢
        clear hx
        refine (RA.out.2.1 _ _ ra).mono ?_
        rintro e w16 ⟨⟨k8, q8, t8, s8, A8, len8, cap8⟩, rfl, hfr, hx⟩
        replace hx1 := hx1.keep hx
        replace hy1 := hy1.keep hx
        replace hz1 := hz1.keep hx
        replace hab := hab.keep hx
        replace hbc := hbc.keep hx
        replace hl := hl.keep hx
        replace hr := hr.keep hx
        replace hx7 := hx7.keep hx
        replace ra := ra.below hx hx.size
        replace rb := rb.below hx hx.size
        replace rc := rc.below hx hx.size
        replace rab := rab.below hx hx.size
        replace rbc := rbc.below hx hx.size
        replace rl := rl.below hx hx.size
        replace rr := rr.below hx hx.size
        replace rx7 := rx7.below hx hx.size
        replace hb := hb.trans (hx.mono hb.size)
        have rx8 := hfr.rd
        clear hfr hx
        obtain ⟨c0, c1, c2, c3, c4, c5⟩ := hx7.val
        have hlt0 := hx7.lt
        have hp := Blk.new w16 26 (Val.box ⟨k8, q8, t8, s8, A8, len8, cap8⟩)
        obtain ⟨d0, d1, d2, d3, d4, d5⟩ := hp.val
        have hgl : ¬ N ≤ i := by omega
        go_wp2_with fail
        clear hp d0 d1 d2 d3 d4 d5
        clear c0 c1 c2 c3 c4 c5 hlt0
        have hx := below_alloc w16 (.cells (Val.box ⟨k8, q8, t8, s8, A8, len8, cap8⟩) 26)
        have hx8 := Blk.new w16 26 (Val.box ⟨k8, q8, t8, s8, A8, len8, cap8⟩)
        replace hx1 := hx1.keep hx
        replace hy1 := hy1.keep hx
        replace hz1 := hz1.keep hx
        replace hab := hab.keep hx
        replace hbc := hbc.keep hx
        replace hl := hl.keep hx
        replace hr := hr.keep hx
        replace hx7 := hx7.keep hx
        replace ra := ra.below hx hx.size
        replace rb := rb.below hx hx.size
        replace rc := rc.below hx hx.size
        replace rab := rab.below hx hx.size
        replace rbc := rbc.below hx hx.size
        replace rl := rl.below hx hx.size
        replace rr := rr.below hx hx.size
        replace rx7 := rx7.below hx hx.size
        replace rx8 := rx8.below hx hx.size
        replace hb := hb.trans (hx.mono hb.size)
        generalize w16.alloc _ = w17 at hb hx1 hy1 hz1 hab hbc hl hr hx7 hx8 ra rb rc rab rbc rl rr rx7 rx8 ⊢
        clear hx
        refine (RA.out.2.2 _ _ _ rx7 rx8).mono ?_
        rintro e w18 ⟨rfl, hx⟩
        replace hx1 := hx1.keep hx
        replace hy1 := hy1.keep hx
        replace hz1 := hz1.keep hx
        replace hab := hab.keep hx
        replace hbc := hbc.keep hx
        replace hl := hl.keep hx
        replace hr := hr.keep hx
        replace hx7 := hx7.keep hx
        replace hx8 := hx8.keep hx
        replace ra := ra.below hx hx.size
        replace rb := rb.below hx hx.size
        replace rc := rc.below hx hx.size
        replace rab := rab.below hx hx.size
        replace rbc := rbc.below hx hx.size
        replace rl := rl.below hx hx.size
        replace rr := rr.below hx hx.size
        replace rx7 := rx7.below hx hx.size
        replace rx8 := rx8.below hx hx.size
        replace hb := hb.trans (hx.mono hb.size)
        clear hx
        go_wp2_with fail
        refine (alive_any _ (HR.out.2.2.2.keep hb)).mono ?_
        rintro e w40 ⟨rfl, hx⟩
        replace hb := hb.trans (hx.mono hb.size)
        clear hx
        go_wp2_with fail
        go_ret
        exact ⟨rfl, hb⟩
    subst hE3
    by_cases hE4 : E4 = 0
    case neg =>
      have qE : (E4 == 0) = false := by simpa using hE4
      clear hE4
      obtain ⟨hk1, hk2, hck, hrest⟩ := HF.out.2.1 (by first | rfl | trivial)
      have HRE := Lib.hid hrest
      have hkk : (k != k') = false := by
        have h1 := HKK.out.1
        have h2 := HKK.out.2
        rw [h1, h2, hk1]; simp
      have hk22 : (k == 2) = false := by
        rw [beq_eq_false_iff_ne]
        have h1 := HKK.out.1
        rw [h1]; exact hk2
      have R6' := Lib.hid (fun x W h => hck ▸ R6.out x W h)
      clear hrest hck hk1 hk2
      obtain ⟨c0, c1, c2, c3, c4, c5⟩ := hx1.val
      obtain ⟨d0, d1, d2, d3, d4, d5⟩ := hy1.val
      obtain ⟨e0, e1, e2, e3, e4, e5⟩ := hab.val
      have hlt0 := hx1.lt
      have hlt1 := hy1.lt
      have hlt2 := hab.lt
      go_wp2_with fail
      clear c0 c1 c2 c3 c4 c5 d0 d1 d2 d3 d4 d5 e0 e1 e2 e3 e4 e5
      clear hlt0 hlt1 hlt2
      have hx := below_alloc w8 (.cells (Val.box ⟨k6, q6, t6, s6, A6, len6, cap6⟩) 26)
      have hr := Blk.new w8 26 (Val.box ⟨k6, q6, t6, s6, A6, len6, cap6⟩)
      replace hx1 := hx1.keep hx
      replace hy1 := hy1.keep hx
      replace hz1 := hz1.keep hx
      replace hab := hab.keep hx
      replace hbc := hbc.keep hx
      replace hl := hl.keep hx
      replace ra := ra.below hx hx.size
      replace rb := rb.below hx hx.size
      replace rc := rc.below hx hx.size
      replace rab := rab.below hx hx.size
      replace rbc := rbc.below hx hx.size
      replace rl := rl.below hx hx.size
      replace rr := rr.below hx hx.size
      replace hb := hb.trans (hx.mono hb.size)
      generalize w8.alloc _ = w9 at hb hx1 hy1 hz1 hab hbc hl hr ra rb rc rab rbc rl rr ⊢
      clear hx
      refine (R6'.out _ _ rab).mono ?_
      rintro e w10 ⟨rfl, hx⟩
      replace hx1 := hx1.keep hx
      replace hy1 := hy1.keep hx
      replace hz1 := hz1.keep hx
      replace hab := hab.keep hx
      replace hbc := hbc.keep hx
      replace hl := hl.keep hx
      replace hr := hr.keep hx
      replace ra := ra.below hx hx.size
      replace rb := rb.below hx hx.size
      replace rc := rc.below hx hx.size
      replace rab := rab.below hx hx.size
      replace rbc := rbc.below hx hx.size
      replace rl := rl.below hx hx.size
      replace rr := rr.below hx hx.size
      replace hb := hb.trans (hx.mono hb.size)
      clear hx
      by_cases hk1 : k = 1
      case pos =>
        have hk11 : (k == 1) = true := by simpa using hk1
        obtain ⟨c0, c1, c2, c3, c4, c5⟩ := hx1.val
        have hlt0 := hx1.lt
        go_wp2_with fail
        refine (alive_any _ (HR.out.2.2.2.keep hb)).mono ?_
        rintro e w40 ⟨rfl, hx⟩
        replace hb := hb.trans (hx.mono hb.size)
        clear hx
        go_wp2_with fail
        go_ret
        exact ⟨rfl, hb⟩
      have hk11 : (k == 1) = false := by rw [beq_eq_false_iff_ne]; exact hk1
      obtain ⟨N, M, hN, hM, hNM, hrng, hfit, hge, hlt⟩ := HRE.out (by rw [← HKK.out.1]; exact hk1)
      have hwr : IntKind.i64.wrap (N + M) = N + M := by rw [IntKind.wrap_i64]; omega
      have rL := RL.out
      rw [hN.1, hN.2, hM.1, hM.2, hNM.1, hNM.2] at rL
      have RL := Lib.hid rL
      clear rL hk1
      obtain ⟨c0, c1, c2, c3, c4, c5⟩ := hx1.val
      have hlt0 := hx1.lt
      go_wp2_with fail
      clear c0 c1 c2 c3 c4 c5
      clear hlt0
      refine (RL.out.1 _ _ ra).mono ?_
      rintro e w11 ⟨rfl, hx⟩
      replace hx1 := hx1.keep hx
      replace hy1 := hy1.keep hx
      replace hz1 := hz1.keep hx
      replace hab := hab.keep hx
      replace hbc := hbc.keep hx
      replace hl := hl.keep hx
      replace hr := hr.keep hx
      replace ra := ra.below hx hx.size
      replace rb := rb.below hx hx.size
      replace rc := rc.below hx hx.size
      replace rab := rab.below hx hx.size
      replace rbc := rbc.below hx hx.size
      replace rl := rl.below hx hx.size
      replace rr := rr.below hx hx.size
      replace hb := hb.trans (hx.mono hb.size)
      clear hx
      obtain ⟨c0, c1, c2, c3, c4, c5⟩ := hy1.val
      have hlt0 := hy1.lt
      go_wp2_with fail
      clear c0 c1 c2 c3 c4 c5
      clear hlt0
      refine (RL.out.2.1 _ _ rb).mono ?_
      rintro e w12 ⟨rfl, hx⟩
      replace hx1 := hx1.keep hx
      replace hy1 := hy1.keep hx
      replace hz1 := hz1.keep hx
      replace hab := hab.keep hx
      replace hbc := hbc.keep hx
      replace hl := hl.keep hx
      replace hr := hr.keep hx
      replace ra := ra.below hx hx.size
      replace rb := rb.below hx hx.size
      replace rc := rc.below hx hx.size
      replace rab := rab.below hx hx.size
      replace rbc := rbc.below hx hx.size
      replace rl := rl.below hx hx.size
      replace rr := rr.below hx hx.size
      replace hb := hb.trans (hx.mono hb.size)
      clear hx
      obtain ⟨c0, c1, c2, c3, c4, c5⟩ := hab.val
      have hlt0 := hab.lt
      go_wp2_with fail
      clear c0 c1 c2 c3 c4 c5
      clear hlt0
      refine (RL.out.2.2.1 _ _ rab).mono ?_
      rintro e w13 ⟨rfl, hx⟩
      replace hx1 := hx1.keep hx
      replace hy1 := hy1.keep hx
      replace hz1 := hz1.keep hx
      replace hab := hab.keep hx
      replace hbc := hbc.keep hx
      replace hl := hl.keep hx
      replace hr := hr.keep hx
      replace ra := ra.below hx hx.size
      replace rb := rb.below hx hx.size
      replace rc := rc.below hx hx.size
      replace rab := rab.below hx hx.size
      replace rbc := rbc.below hx hx.size
      replace rl := rl.below hx hx.size
      replace rr := rr.below hx hx.size
      replace hb := hb.trans (hx.mono hb.size)
      clear hx
      by_cases hgi2 : N ≤ i
      · have hgi : ¬ i < N := by omega
        obtain ⟨hg1, hg2⟩ := hge i hgi2
        have rA := RL.out.2.2.2.2.2
        have rB := RL.out.2.2.2.2.1 (i - N)
        have hfx := hfit i
        rw [hg1, hg2] at rA
        rw [hg1] at hfx
        generalize atT U (i - N) = X at rA rB hfx
        generalize atE U (i - N) = EX at rA rB
        have rS := fun x y W h h' => same_any 10 X X x y W hfx h h'
        rw [sameB_self] at rS
        have RA := Lib.hid (show _ ∧ _ ∧ _ from ⟨rA, rB, rS⟩)
        clear rA rB rS hfx hg1 hg2
        obtain ⟨c0, c1, c2, c3, c4, c5⟩ := hab.val
        have hlt0 := hab.lt
        go_wp2_with fail
        clear c0 c1 c2 c3 c4 c5
        clear hlt0
        refine (RA.out.1 _ _ rab).mono ?_
        rintro e w14 ⟨⟨k7, q7, t7, s7, A7, len7, cap7⟩, rfl, hfr, hx⟩
        replace hx1 := hx1.keep hx
        replace hy1 := hy1.keep hx
        replace hz1 := hz1.keep hx
        replace hab := hab.keep hx
        replace hbc := hbc.keep hx
        replace hl := hl.keep hx
        replace hr := hr.keep hx
        replace ra := ra.below hx hx.size
        replace rb := rb.below hx hx.size
        replace rc := rc.below hx hx.size
        replace rab := rab.below hx hx.size
        replace rbc := rbc.below hx hx.size
        replace rl := rl.below hx hx.size
        replace rr := rr.below hx hx.size
        replace hb := hb.trans (hx.mono hb.size)
        have rx7 := hfr.rd
        clear hfr hx
        obtain ⟨c0, c1, c2, c3, c4, c5⟩ := hx1.val
        have hlt0 := hx1.lt
        go_wp2_with fail
        clear c0 c1 c2 c3 c4 c5
        clear hlt0
        have hx := below_alloc w14 (.cells (Val.box ⟨k7, q7, t7, s7, A7, len7, cap7⟩) 26)
        have hx7 := Blk.new w14 26 (Val.box ⟨k7, q7, t7, s7, A7, len7, cap7⟩)
        replace hx1 := hx1.keep hx
        replace hy1 := hy1.keep hx
        replace hz1 := hz1.keep hx
        replace hab := hab.keep hx
        replace hbc := hbc.keep hx
        replace hl := hl.keep hx
        replace hr := hr.keep hx
        replace ra := ra.below hx hx.size
        replace rb := rb.below hx hx.size
        replace rc := rc.below hx hx.size
        replace rab := rab.below hx hx.size
        replace rbc := rbc.below hx hx.size
        replace rl := rl.below hx hx.size
        replace rr := rr.below hx hx.size
        replace rx7 := rx7.below hx hx.size
        replace hb := hb.trans (hx.mono hb.size)
        generalize w14.alloc _ = w15 at hb hx1 hy1 hz1 hab hbc hl hr hx7 ra rb rc rab rbc rl rr rx7 ⊢
        clear hx
        refine (RL.out.2.2.2.1 _ _ ra).mono ?_
        rintro e w16 ⟨⟨k8, q8, t8, s8, A8, len8, cap8⟩, rfl, hfr, hx⟩
        replace hx1 := hx1.keep hx
        replace hy1 := hy1.keep hx
        replace hz1 := hz1.keep hx
        replace hab := hab.keep hx
        replace hbc := hbc.keep hx
        replace hl := hl.keep hx
        replace hr := hr.keep hx
        replace hx7 := hx7.keep hx
        replace ra := ra.below hx hx.size
        replace rb := rb.below hx hx.size
        replace rc := rc.below hx hx.size
        replace rab := rab.below hx hx.size
        replace rbc := rbc.below hx hx.size
        replace rl := rl.below hx hx.size
        replace rr := rr.below hx hx.size
        replace rx7 := rx7.below hx hx.size
        replace hb := hb.trans (hx.mono hb.size)
        have rx8 := hfr.rd
        clear hfr hx
        have hw8 : w.heap.size ≤ w16.heap.size := hb.size
        have h78 : w14.heap.size < w16.heap.size := hx7.lt
        have rx7b : RdB w16 w16.heap.size X _ := rx7
        have hb8 := hb
        have hwi : IntKind.i64.wrap (i - N) = i - N := by rw [IntKind.wrap_i64]; omega
        obtain ⟨c0, c1, c2, c3, c4, c5⟩ := hy1.val
        have hlt0 := hy1.lt
        go_wp2_with fail
        clear c0 c1 c2 c3 c4 c5
        clear hlt0
        have hx := below_alloc w16 (.cells (Val.box ⟨k8, q8, t8, s8, A8, len8, cap8⟩) 26)
        replace rx7b := rx7b.below hx (Nat.le_refl _)
        clear hx
        have hx := below_alloc w16 (.cells (Val.box ⟨k8, q8, t8, s8, A8, len8, cap8⟩) 26)
        have hx8 := Blk.new w16 26 (Val.box ⟨k8, q8, t8, s8, A8, len8, cap8⟩)
        replace hx1 := hx1.keep hx
        replace hy1 := hy1.keep hx
        replace hz1 := hz1.keep hx
        replace hab := hab.keep hx
        replace hbc := hbc.keep hx
        replace hl := hl.keep hx
        replace hr := hr.keep hx
        replace hx7 := hx7.keep hx
        replace ra := ra.below hx hx.size
        replace rb := rb.below hx hx.size
        replace rc := rc.below hx hx.size
        replace rab := rab.below hx hx.size
        replace rbc := rbc.below hx hx.size
        replace rl := rl.below hx hx.size
        replace rr := rr.below hx hx.size
        replace rx7 := rx7.below hx hx.size
        replace rx8 := rx8.below hx hx.size
        replace hb := hb.trans (hx.mono hb.size)
        generalize w16.alloc _ = w17 at hb hx1 hy1 hz1 hab hbc hl hr hx7 hx8 ra rb rc rab rbc rl rr rx7 rx8 rx7b ⊢
        clear hx
        have hlt8 := hx8.lt
        refine (RA.out.2.1 _ w17 (by omega) (by omega) rb).mono ?_
        rintro e w18 ⟨⟨k9, q9, t9, s9, A9, len9, cap9⟩, rfl, hfr, hx⟩
        replace rx7b := rx7b.below (hx.mono (Nat.le_of_lt hlt8)) (Nat.le_refl _)
        replace hx1 := hx1.keep hx
        replace hy1 := hy1.keep hx
        replace hz1 := hz1.keep hx
        replace hab := hab.keep hx
        replace hbc := hbc.keep hx
        replace hl := hl.keep hx
        replace hr := hr.keep hx
        replace hx7 := hx7.keep hx
        replace hx8 := hx8.keep hx
        replace ra := ra.below hx hx.size
        replace rb := rb.below hx hx.size
        replace rc := rc.below hx hx.size
        replace rab := rab.below hx hx.size
        replace rbc := rbc.below hx hx.size
        replace rl := rl.below hx hx.size
        replace rr := rr.below hx hx.size
        replace rx7 := rx7.below hx hx.size
        replace rx8 := rx8.below hx hx.size
        replace hb := hb.trans (hx.mono hb.size)
        clear hx
        obtain ⟨y0, y1, y2, y3, y4, y5⟩ := hx8.val
        have yf := hx8.frozen
        obtain ⟨x0, x1', x2', x3', x4', x5'⟩ := hx7.val
        have hn8 : Blk _ _ 26 (Val.box ⟨k9, q9, t9, s9, A9, len9, cap9⟩) := hx8.set6 (.int .u8 k9) (.int .i64 q9.n) (.int .i64 q9.d) (.bool t9) (.string s9) (.slice A9 len9 cap9)
        have hn7 : Blk _ _ 26 (Val.box ⟨k7, q7, t7, s7, A7, len7, cap7⟩) := (far_set6 (w := w18) (k := w14.heap.size) (g := w16.heap.size) (by omega) (.int .u8 k9) (.int .i64 q9.n) (.int .i64 q9.d) (.bool t9) (.string s9) (.slice A9 len9 cap9)).trans hx7
        have hbn := below_set6 hb hw8 (.int .u8 k9) (.int .i64 q9.n) (.int .i64 q9.d) (.bool t9) (.string s9) (.slice A9 len9 cap9)
        have hr7 := rx7b.below (below_set6 (Below.refl w16.heap.size w18) (Nat.le_refl _) (.int .u8 k9) (.int .i64 q9.n) (.int .i64 q9.d) (.bool t9) (.string s9) (.slice A9 len9 cap9)) (Nat.le_refl _)
        have hr9 := (hfr.keep (w' := _) (Nat.le_refl _) (fun g h1 h2 => far_set6 (w := w18) (k := g) (g := w16.heap.size) (by omega) (.int .u8 k9) (.int .i64 q9.n) (.int .i64 q9.d) (.bool t9) (.string s9) (.slice A9 len9 cap9))).rd
        have h87 : ¬ w14.heap.size = w16.heap.size := by omega
        obtain ⟨z0, z1, z2, z3, z4, z5⟩ := hn8.val
        have HZ := Lib.hid (show _ ∧ _ ∧ _ ∧ _ ∧ _ from ⟨hn8, hn7, hbn, hr7, hr9⟩)
        clear hn8 hn7 hbn hr7 hr9 hfr z0 z1 z2 z3 z4 z5
        go_wp2_with fail
        refine (RA.out.2.2 _ _ _ (HZ.out.2.2.2.1.more (Nat.le_of_lt HZ.out.1.lt)) HZ.out.2.2.2.2).mono ?_
        rintro e w30 ⟨rfl, hx⟩
        replace hb := HZ.out.2.2.1.trans (hx.mono HZ.out.2.2.1.size)
        clear hx
        go_wp2_with fail
        refine (alive_any _ (HR.out.2.2.2.keep hb)).mono ?_
        rintro e w40 ⟨rfl, hx⟩
        replace hb := hb.trans (hx.mono hb.size)
        clear hx
        go_wp2_with fail
        go_ret
        exact ⟨rfl, hb⟩
      · obtain ⟨hg1, hg2⟩ := hlt i (by omega)
        have rA := RL.out.2.2.2.2.2
        have rB := RL.out.2.2.2.1
        have hfx := hfit i
        rw [hg1, hg2] at rA
        rw [hg1] at hfx
        generalize atT T i = X at rA rB hfx
        generalize atE T i = EX at rA rB
        have rS := fun x y W h h' => same_any 10 X X x y W hfx h h'
        rw [sameB_self] at rS
        have RA := Lib.hid (show _ ∧ _ ∧ _ from ⟨rA, rB, rS⟩)
        clear rA rB rS hfx hg1 hg2
        obtain ⟨c0, c1, c2, c3, c4, c5⟩ := hab.val
        have hlt0 := hab.lt
        go_wp2_with fail
        clear c0 c1 c2 c3 c4 c5
        clear hlt0
        refine (RA.out.1 _ _ rab).mono ?_
        rintro e w14 ⟨⟨k7, q7, t7, s7, A7, len7, cap7⟩, rfl, hfr, hx⟩
        replace hx1 := hx1.keep hx
        replace hy1 := hy1.keep hx
        replace hz1 := hz1.keep hx
        replace hab := hab.keep hx
        replace hbc := hbc.keep hx
        replace hl := hl.keep hx
        replace hr := hr.keep hx
        replace ra := ra.below hx hx.size
        replace rb := rb.below hx hx.size
        replace rc := rc.below hx hx.size
        replace rab := rab.below hx hx.size
        replace rbc := rbc.below hx hx.size
        replace rl := rl.below hx hx.size
        replace rr := rr.below hx hx.size
        replace hb := hb.trans (hx.mono hb.size)
        have rx7 := hfr.rd
        clear hfr hx
        obtain ⟨c0, c1, c2, c3, c4, c5⟩ := hx1.val
        have hlt0 := hx1.lt
        go_wp2_with fail
        clear c0 c1 c2 c3 c4 c5
        clear hlt0
        have hx := below_alloc w14 (.cells (Val.box ⟨k7, q7, t7, s7, A7, len7, cap7⟩) 26)
        have hx7 := Blk.new w14 26 (Val.box ⟨k7, q7, t7, s7, A7, len7, cap7⟩)
        replace hx1 := hx1.keep hx
        replace hy1 := hy1.keep hx
        replace hz1 := hz1.keep hx
        replace hab := hab.keep hx
        replace hbc := hbc.keep hx
        replace hl := hl.keep hx
        replace hr := hr.keep hx
        replace ra := ra.below hx hx.size
        replace rb := rb.below hx hx.size
        replace rc := rc.below hx hx.size
        replace rab := rab.below hx hx.size
        replace rbc := rbc.below hx hx.size
        replace rl := rl.below hx hx.size
        replace rr := rr.below hx hx.size
        replace rx7 := rx7.below hx hx.size
        replace hb := hb.trans (hx.mono hb.size)
        generalize w14.alloc _ = w15 at hb hx1 hy1 hz1 hab hbc hl hr hx7 ra rb rc rab rbc rl rr rx7 ⊢
        clear hx
        refine (RA.out.2.1 _ _ ra).mono ?_
        rintro e w16 ⟨⟨k8, q8, t8, s8, A8, len8, cap8⟩, rfl, hfr, hx⟩
        replace hx1 := hx1.keep hx
        replace hy1 := hy1.keep hx
        replace hz1 := hz1.keep hx
        replace hab := hab.keep hx
        replace hbc := hbc.keep hx
        replace hl := hl.keep hx
        replace hr := hr.keep hx
        replace hx7 := hx7.keep hx
        replace ra := ra.below hx hx.size
        replace rb := rb.below hx hx.size
        replace rc := rc.below hx hx.size
        replace rab := rab.below hx hx.size
        replace rbc := rbc.below hx hx.size
        replace rl := rl.below hx hx.size
        replace rr := rr.below hx hx.size
        replace rx7 := rx7.below hx hx.size
        replace hb := hb.trans (hx.mono hb.size)
        have rx8 := hfr.rd
        clear hfr hx
        obtain ⟨c0, c1, c2, c3, c4, c5⟩ := hx7.val
        have hlt0 := hx7.lt
        have hp := Blk.new w16 26 (Val.box ⟨k8, q8, t8, s8, A8, len8, cap8⟩)
        obtain ⟨d0, d1, d2, d3, d4, d5⟩ := hp.val
        have hgl : ¬ N ≤ i := by omega
        go_wp2_with fail
        clear hp d0 d1 d2 d3 d4 d5
        clear c0 c1 c2 c3 c4 c5 hlt0
        have hx := below_alloc w16 (.cells (Val.box ⟨k8, q8, t8, s8, A8, len8, cap8⟩) 26)
        have hx8 := Blk.new w16 26 (Val.box ⟨k8, q8, t8, s8, A8, len8, cap8⟩)
        replace hx1 := hx1.keep hx
        replace hy1 := hy1.keep hx
        replace hz1 := hz1.keep hx
        replace hab := hab.keep hx
        replace hbc := hbc.keep hx
        replace hl := hl.keep hx
        replace hr := hr.keep hx
        replace hx7 := hx7.keep hx
        replace ra := ra.below hx hx.size
        replace rb := rb.below hx hx.size
        replace rc := rc.below hx hx.size
        replace rab := rab.below hx hx.size
        replace rbc := rbc.below hx hx.size
        replace rl := rl.below hx hx.size
        replace rr := rr.below hx hx.size
        replace rx7 := rx7.below hx hx.size
        replace rx8 := rx8.below hx hx.size
        replace hb := hb.trans (hx.mono hb.size)
        generalize w16.alloc _ = w17 at hb hx1 hy1 hz1 hab hbc hl hr hx7 hx8 ra rb rc rab rbc rl rr rx7 rx8 ⊢
        clear hx
        refine (RA.out.2.2 _ _ _ rx7 rx8).mono ?_
        rintro e w18 ⟨rfl, hx⟩
        replace hx1 := hx1.keep hx
        replace hy1 := hy1.keep hx
        replace hz1 := hz1.keep hx
        replace hab := hab.keep hx
        replace hbc := hbc.keep hx
        replace hl := hl.keep hx
        replace hr := hr.keep hx
        replace hx7 := hx7.keep hx
        replace hx8 := hx8.keep hx
        replace ra := ra.below hx hx.size
        replace rb := rb.below hx hx.size
        replace rc := rc.below hx hx.size
        replace rab := rab.below hx hx.size
        replace rbc := rbc.below hx hx.size
        replace rl := rl.below hx hx.size
        replace rr := rr.below hx hx.size
        replace rx7 := rx7.below hx hx.size
        replace rx8 := rx8.below hx hx.size
        replace hb := hb.trans (hx.mono hb.size)
        clear hx
        go_wp2_with fail
        refine (alive_any _ (HR.out.2.2.2.keep hb)).mono ?_
        rintro e w40 ⟨rfl, hx⟩
        replace hb := hb.trans (hx.mono hb.size)
        clear hx
        go_wp2_with fail
        go_ret
        exact ⟨rfl, hb⟩
    subst hE4
    obtain ⟨hk1, hk2, hck, hrest⟩ := HF.out.2.1 (by first | rfl | trivial)
    have HRE := Lib.hid hrest
    have hkk : (k != k') = false := by
      have h1 := HKK.out.1
      have h2 := HKK.out.2
      rw [h1, h2, hk1]; simp
    have hk22 : (k == 2) = false := by
      rw [beq_eq_false_iff_ne]
      have h1 := HKK.out.1
      rw [h1]; exact hk2
    have R6' := Lib.hid (fun x W h => hck ▸ R6.out x W h)
    clear hrest hck hk1 hk2
    have hsm := HF.out.1 (by first | rfl | trivial) (by first | rfl | trivial) (by first | rfl | trivial) (by first | rfl | trivial)
    have R5' := Lib.hid (fun x y W h h' => hsm ▸ R5.out x y W h h')
    clear hsm
    obtain ⟨c0, c1, c2, c3, c4, c5⟩ := hl.val
    have hlt0 := hl.lt
    have hp := Blk.new w8 26 (Val.box ⟨k6, q6, t6, s6, A6, len6, cap6⟩)
    obtain ⟨d0, d1, d2, d3, d4, d5⟩ := hp.val
    go_wp2_with fail
    clear hp d0 d1 d2 d3 d4 d5
    clear c0 c1 c2 c3 c4 c5 hlt0
    have hx := below_alloc w8 (.cells (Val.box ⟨k6, q6, t6, s6, A6, len6, cap6⟩) 26)
    have hr := Blk.new w8 26 (Val.box ⟨k6, q6, t6, s6, A6, len6, cap6⟩)
    replace hx1 := hx1.keep hx
    replace hy1 := hy1.keep hx
    replace hz1 := hz1.keep hx
    replace hab := hab.keep hx
    replace hbc := hbc.keep hx
    replace hl := hl.keep hx
    replace ra := ra.below hx hx.size
    replace rb := rb.below hx hx.size
    replace rc := rc.below hx hx.size
    replace rab := rab.below hx hx.size
    replace rbc := rbc.below hx hx.size
    replace rl := rl.below hx hx.size
    replace rr := rr.below hx hx.size
    replace hb := hb.trans (hx.mono hb.size)
    generalize w8.alloc _ = w9 at hb hx1 hy1 hz1 hab hbc hl hr ra rb rc rab rbc rl rr ⊢
    clear hx
    refine (R5'.out _ _ _ rl rr).mono ?_
    rintro e w10 ⟨rfl, hx⟩
    replace hx1 := hx1.keep hx
    replace hy1 := hy1.keep hx
    replace hz1 := hz1.keep hx
    replace hab := hab.keep hx
    replace hbc := hbc.keep hx
    replace hl := hl.keep hx
    replace hr := hr.keep hx
    replace ra := ra.below hx hx.size
    replace rb := rb.below hx hx.size
    replace rc := rc.below hx hx.size
    replace rab := rab.below hx hx.size
    replace rbc := rbc.below hx hx.size
    replace rl := rl.below hx hx.size
    replace rr := rr.below hx hx.size
    replace hb := hb.trans (hx.mono hb.size)
    clear hx
    obtain ⟨c0, c1, c2, c3, c4, c5⟩ := hx1.val
    obtain ⟨d0, d1, d2, d3, d4, d5⟩ := hy1.val
    obtain ⟨e0, e1, e2, e3, e4, e5⟩ := hab.val
    have hlt0 := hx1.lt
    have hlt1 := hy1.lt
    have hlt2 := hab.lt
    go_wp2_with fail
    clear c0 c1 c2 c3 c4 c5 d0 d1 d2 d3 d4 d5 e0 e1 e2 e3 e4 e5
    clear hlt0 hlt1 hlt2
    refine (R6'.out _ _ rab).mono ?_
    rintro e w11 ⟨rfl, hx⟩
    replace hx1 := hx1.keep hx
    replace hy1 := hy1.keep hx
    replace hz1 := hz1.keep hx
    replace hab := hab.keep hx
    replace hbc := hbc.keep hx
    replace hl := hl.keep hx
    replace hr := hr.keep hx
    replace ra := ra.below hx hx.size
    replace rb := rb.below hx hx.size
    replace rc := rc.below hx hx.size
    replace rab := rab.below hx hx.size
    replace rbc := rbc.below hx hx.size
    replace rl := rl.below hx hx.size
    replace rr := rr.below hx hx.size
    replace hb := hb.trans (hx.mono hb.size)
    clear hx
    by_cases hk1 : k = 1
    case pos =>
      have hk11 : (k == 1) = true := by simpa using hk1
      obtain ⟨c0, c1, c2, c3, c4, c5⟩ := hx1.val
      have hlt0 := hx1.lt
      go_wp2_with fail
      refine (alive_any _ (HR.out.2.2.2.keep hb)).mono ?_
      rintro e w40 ⟨rfl, hx⟩
      replace hb := hb.trans (hx.mono hb.size)
      clear hx
      go_wp2_with fail
      go_ret
      exact ⟨rfl, hb⟩
    have hk11 : (k == 1) = false := by rw [beq_eq_false_iff_ne]; exact hk1
    obtain ⟨N, M, hN, hM, hNM, hrng, hfit, hge, hlt⟩ := HRE.out (by rw [← HKK.out.1]; exact hk1)
    have hwr : IntKind.i64.wrap (N + M) = N + M := by rw [IntKind.wrap_i64]; omega
    have rL := RL.out
    rw [hN.1, hN.2, hM.1, hM.2, hNM.1, hNM.2] at rL
    have RL := Lib.hid rL
    clear rL hk1
    obtain ⟨c0, c1, c2, c3, c4, c5⟩ := hx1.val
    have hlt0 := hx1.lt
    go_wp2_with fail
    clear c0 c1 c2 c3 c4 c5
    clear hlt0
    refine (RL.out.1 _ _ ra).mono ?_
    rintro e w12 ⟨rfl, hx⟩
    replace hx1 := hx1.keep hx
    replace hy1 := hy1.keep hx
    replace hz1 := hz1.keep hx
    replace hab := hab.keep hx
    replace hbc := hbc.keep hx
    replace hl := hl.keep hx
    replace hr := hr.keep hx
    replace ra := ra.below hx hx.size
    replace rb := rb.below hx hx.size
    replace rc := rc.below hx hx.size
    replace rab := rab.below hx hx.size
    replace rbc := rbc.below hx hx.size
    replace rl := rl.below hx hx.size
    replace rr := rr.below hx hx.size
    replace hb := hb.trans (hx.mono hb.size)
    clear hx
    obtain ⟨c0, c1, c2, c3, c4, c5⟩ := hy1.val
    have hlt0 := hy1.lt
    go_wp2_with fail
    clear c0 c1 c2 c3 c4 c5
    clear hlt0
    refine (RL.out.2.1 _ _ rb).mono ?_
    rintro e w13 ⟨rfl, hx⟩
    replace hx1 := hx1.keep hx
    replace hy1 := hy1.keep hx
    replace hz1 := hz1.keep hx
    replace hab := hab.keep hx
    replace hbc := hbc.keep hx
    replace hl := hl.keep hx
    replace hr := hr.keep hx
    replace ra := ra.below hx hx.size
    replace rb := rb.below hx hx.size
    replace rc := rc.below hx hx.size
    replace rab := rab.below hx hx.size
    replace rbc := rbc.below hx hx.size
    replace rl := rl.below hx hx.size
    replace rr := rr.below hx hx.size
    replace hb := hb.trans (hx.mono hb.size)
    clear hx
    obtain ⟨c0, c1, c2, c3, c4, c5⟩ := hab.val
    have hlt0 := hab.lt
    go_wp2_with fail
    clear c0 c1 c2 c3 c4 c5
    clear hlt0
    refine (RL.out.2.2.1 _ _ rab).mono ?_
    rintro e w14 ⟨rfl, hx⟩
    replace hx1 := hx1.keep hx
    replace hy1 := hy1.keep hx
    replace hz1 := hz1.keep hx
    replace hab := hab.keep hx
    replace hbc := hbc.keep hx
    replace hl := hl.keep hx
    replace hr := hr.keep hx
    replace ra := ra.below hx hx.size
    replace rb := rb.below hx hx.size
    replace rc := rc.below hx hx.size
    replace rab := rab.below hx hx.size
    replace rbc := rbc.below hx hx.size
    replace rl := rl.below hx hx.size
    replace rr := rr.below hx hx.size
    replace hb := hb.trans (hx.mono hb.size)
    clear hx
    by_cases hgi2 : N ≤ i
    · have hgi : ¬ i < N := by omega
      obtain ⟨hg1, hg2⟩ := hge i hgi2
      have rA := RL.out.2.2.2.2.2
      have rB := RL.out.2.2.2.2.1 (i - N)
      have hfx := hfit i
      rw [hg1, hg2] at rA
      rw [hg1] at hfx
      generalize atT U (i - N) = X at rA rB hfx
      generalize atE U (i - N) = EX at rA rB
      have rS := fun x y W h h' => same_any 10 X X x y W hfx h h'
      rw [sameB_self] at rS
      have RA := Lib.hid (show _ ∧ _ ∧ _ from ⟨rA, rB, rS⟩)
      clear rA rB rS hfx hg1 hg2
      obtain ⟨c0, c1, c2, c3, c4, c5⟩ := hab.val
      have hlt0 := hab.lt
      go_wp2_with fail
      clear c0 c1 c2 c3 c4 c5
      clear hlt0
      refine (RA.out.1 _ _ rab).mono ?_
      rintro e w15 ⟨⟨k7, q7, t7, s7, A7, len7, cap7⟩, rfl, hfr, hx⟩
      replace hx1 := hx1.keep hx
      replace hy1 := hy1.keep hx
      replace hz1 := hz1.keep hx
      replace hab := hab.keep hx
      replace hbc := hbc.keep hx
      replace hl := hl.keep hx
      replace hr := hr.keep hx
      replace ra := ra.below hx hx.size
      replace rb := rb.below hx hx.size
      replace rc := rc.below hx hx.size
      replace rab := rab.below hx hx.size
      replace rbc := rbc.below hx hx.size
      replace rl := rl.below hx hx.size
      replace rr := rr.below hx hx.size
      replace hb := hb.trans (hx.mono hb.size)
      have rx7 := hfr.rd
      clear hfr hx
      obtain ⟨c0, c1, c2, c3, c4, c5⟩ := hx1.val
      have hlt0 := hx1.lt
      go_wp2_with fail
      clear c0 c1 c2 c3 c4 c5
      clear hlt0
      have hx := below_alloc w15 (.cells (Val.box ⟨k7, q7, t7, s7, A7, len7, cap7⟩) 26)
      have hx7 := Blk.new w15 26 (Val.box ⟨k7, q7, t7, s7, A7, len7, cap7⟩)
      replace hx1 := hx1.keep hx
      replace hy1 := hy1.keep hx
      replace hz1 := hz1.keep hx
      replace hab := hab.keep hx
      replace hbc := hbc.keep hx
      replace hl := hl.keep hx
      replace hr := hr.keep hx
      replace ra := ra.below hx hx.size
      replace rb := rb.below hx hx.size
      replace rc := rc.below hx hx.size
      replace rab := rab.below hx hx.size
      replace rbc := rbc.below hx hx.size
      replace rl := rl.below hx hx.size
      replace rr := rr.below hx hx.size
      replace rx7 := rx7.below hx hx.size
      replace hb := hb.trans (hx.mono hb.size)
      generalize w15.alloc _ = w16 at hb hx1 hy1 hz1 hab hbc hl hr hx7 ra rb rc rab rbc rl rr rx7 ⊢
      clear hx
      refine (RL.out.2.2.2.1 _ _ ra).mono ?_
      rintro e w17 ⟨⟨k8, q8, t8, s8, A8, len8, cap8⟩, rfl, hfr, hx⟩
      replace hx1 := hx1.keep hx
      replace hy1 := hy1.keep hx
      replace hz1 := hz1.keep hx
      replace hab := hab.keep hx
      replace hbc := hbc.keep hx
      replace hl := hl.keep hx
      replace hr := hr.keep hx
      replace hx7 := hx7.keep hx
      replace ra := ra.below hx hx.size
      replace rb := rb.below hx hx.size
      replace rc := rc.below hx hx.size
      replace rab := rab.below hx hx.size
      replace rbc := rbc.below hx hx.size
      replace rl := rl.below hx hx.size
      replace rr := rr.below hx hx.size
      replace rx7 := rx7.below hx hx.size
      replace hb := hb.trans (hx.mono hb.size)
      have rx8 := hfr.rd
      clear hfr hx
      have hw8 : w.heap.size ≤ w17.heap.size := hb.size
      have h78 : w15.heap.size < w17.heap.size := hx7.lt
      have rx7b : RdB w17 w17.heap.size X _ := rx7
      have hb8 := hb
      have hwi : IntKind.i64.wrap (i - N) = i - N := by rw [IntKind.wrap_i64]; omega
      obtain ⟨c0, c1, c2, c3, c4, c5⟩ := hy1.val
      have hlt0 := hy1.lt
      go_wp2_with fail
      clear c0 c1 c2 c3 c4 c5
      clear hlt0
      have hx := below_alloc w17 (.cells (Val.box ⟨k8, q8, t8, s8, A8, len8, cap8⟩) 26)
      replace rx7b := rx7b.below hx (Nat.le_refl _)
      clear hx
      have hx := below_alloc w17 (.cells (Val.box ⟨k8, q8, t8, s8, A8, len8, cap8⟩) 26)
      have hx8 := Blk.new w17 26 (Val.box ⟨k8, q8, t8, s8, A8, len8, cap8⟩)
      replace hx1 := hx1.keep hx
      replace hy1 := hy1.keep hx
      replace hz1 := hz1.keep hx
      replace hab := hab.keep hx
      replace hbc := hbc.keep hx
      replace hl := hl.keep hx
      replace hr := hr.keep hx
      replace hx7 := hx7.keep hx
      replace ra := ra.below hx hx.size
      replace rb := rb.below hx hx.size
      replace rc := rc.below hx hx.size
      replace rab := rab.below hx hx.size
      replace rbc := rbc.below hx hx.size
      replace rl := rl.below hx hx.size
      replace rr := rr.below hx hx.size
      replace rx7 := rx7.below hx hx.size
      replace rx8 := rx8.below hx hx.size
      replace hb := hb.trans (hx.mono hb.size)
      generalize w17.alloc _ = w18 at hb hx1 hy1 hz1 hab hbc hl hr hx7 hx8 ra rb rc rab rbc rl rr rx7 rx8 rx7b ⊢
      clear hx
      have hlt8 := hx8.lt
      refine (RA.out.2.1 _ w18 (by omega) (by omega) rb).mono ?_
      rintro e w19 ⟨⟨k9, q9, t9, s9, A9, len9, cap9⟩, rfl, hfr, hx⟩
      replace rx7b := rx7b.below (hx.mono (Nat.le_of_lt hlt8)) (Nat.le_refl _)
      replace hx1 := hx1.keep hx
      replace hy1 := hy1.keep hx
      replace hz1 := hz1.keep hx
      replace hab := hab.keep hx
      replace hbc := hbc.keep hx
      replace hl := hl.keep hx
      replace hr := hr.keep hx
      replace hx7 := hx7.keep hx
      replace hx8 := hx8.keep hx
      replace ra := ra.below hx hx.size
      replace rb := rb.below hx hx.size
      replace rc := rc.below hx hx.size
      replace rab := rab.below hx hx.size
      replace rbc := rbc.below hx hx.size
      replace rl := rl.below hx hx.size
      replace rr := rr.below hx hx.size
      replace rx7 := rx7.below hx hx.size
      replace rx8 := rx8.below hx hx.size
      replace hb := hb.trans (hx.mono hb.size)
      clear hx
      obtain ⟨y0, y1, y2, y3, y4, y5⟩ := hx8.val
      have yf := hx8.frozen
      obtain ⟨x0, x1', x2', x3', x4', x5'⟩ := hx7.val
      have hn8 : Blk _ _ 26 (Val.box ⟨k9, q9, t9, s9, A9, len9, cap9⟩) := hx8.set6 (.int .u8 k9) (.int .i64 q9.n) (.int .i64 q9.d) (.bool t9) (.string s9) (.slice A9 len9 cap9)
      have hn7 : Blk _ _ 26 (Val.box ⟨k7, q7, t7, s7, A7, len7, cap7⟩) := (far_set6 (w := w19) (k := w15.heap.size) (g := w17.heap.size) (by omega) (.int .u8 k9) (.int .i64 q9.n) (.int .i64 q9.d) (.bool t9) (.string s9) (.slice A9 len9 cap9)).trans hx7
      have hbn := below_set6 hb hw8 (.int .u8 k9) (.int .i64 q9.n) (.int .i64 q9.d) (.bool t9) (.string s9) (.slice A9 len9 cap9)
      have hr7 := rx7b.below (below_set6 (Below.refl w17.heap.size w19) (Nat.le_refl _) (.int .u8 k9) (.int .i64 q9.n) (.int .i64 q9.d) (.bool t9) (.string s9) (.slice A9 len9 cap9)) (Nat.le_refl _)
      have hr9 := (hfr.keep (w' := _) (Nat.le_refl _) (fun g h1 h2 => far_set6 (w := w19) (k := g) (g := w17.heap.size) (by omega) (.int .u8 k9) (.int .i64 q9.n) (.int .i64 q9.d) (.bool t9) (.string s9) (.slice A9 len9 cap9))).rd
      have h87 : ¬ w15.heap.size = w17.heap.size := by omega
      obtain ⟨z0, z1, z2, z3, z4, z5⟩ := hn8.val
      have HZ := Lib.hid (show _ ∧ _ ∧ _ ∧ _ ∧ _ from ⟨hn8, hn7, hbn, hr7, hr9⟩)
      clear hn8 hn7 hbn hr7 hr9 hfr z0 z1 z2 z3 z4 z5
      go_wp2_with fail
      refine (RA.out.2.2 _ _ _ (HZ.out.2.2.2.1.more (Nat.le_of_lt HZ.out.1.lt)) HZ.out.2.2.2.2).mono ?_
      rintro e w30 ⟨rfl, hx⟩
      replace hb := HZ.out.2.2.1.trans (hx.mono HZ.out.2.2.1.size)
      clear hx
      go_wp2_with fail
      refine (alive_any _ (HR.out.2.2.2.keep hb)).mono ?_
      rintro e w40 ⟨rfl, hx⟩
      replace hb := hb.trans (hx.mono hb.size)
      clear hx
      go_wp2_with fail
      go_ret
      exact ⟨rfl, hb⟩
    · obtain ⟨hg1, hg2⟩ := hlt i (by omega)
      have rA := RL.out.2.2.2.2.2
      have rB := RL.out.2.2.2.1
      have hfx := hfit i
      rw [hg1, hg2] at rA
      rw [hg1] at hfx
      generalize atT T i = X at rA rB hfx
      generalize atE T i = EX at rA rB
      have rS := fun x y W h h' => same_any 10 X X x y W hfx h h'
      rw [sameB_self] at rS
      have RA := Lib.hid (show _ ∧ _ ∧ _ from ⟨rA, rB, rS⟩)
      clear rA rB rS hfx hg1 hg2
      obtain ⟨c0, c1, c2, c3, c4, c5⟩ := hab.val
      have hlt0 := hab.lt
      go_wp2_with fail
      clear c0 c1 c2 c3 c4 c5
      clear hlt0
      refine (RA.out.1 _ _ rab).mono ?_
      rintro e w15 ⟨⟨k7, q7, t7, s7, A7, len7, cap7⟩, rfl, hfr, hx⟩
      replace hx1 := hx1.keep hx
      replace hy1 := hy1.keep hx
      replace hz1 := hz1.keep hx
      replace hab := hab.keep hx
      replace hbc := hbc.keep hx
      replace hl := hl.keep hx
      replace hr := hr.keep hx
      replace ra := ra.below hx hx.size
      replace rb := rb.below hx hx.size
      replace rc := rc.below hx hx.size
      replace rab := rab.below hx hx.size
      replace rbc := rbc.below hx hx.size
      replace rl := rl.below hx hx.size
      replace rr := rr.below hx hx.size
      replace hb := hb.trans (hx.mono hb.size)
      have rx7 := hfr.rd
      clear hfr hx
      obtain ⟨c0, c1, c2, c3, c4, c5⟩ := hx1.val
      have hlt0 := hx1.lt
      go_wp2_with fail
      clear c0 c1 c2 c3 c4 c5
      clear hlt0
      have hx := below_alloc w15 (.cells (Val.box ⟨k7, q7, t7, s7, A7, len7, cap7⟩) 26)
      have hx7 := Blk.new w15 26 (Val.box ⟨k7, q7, t7, s7, A7, len7, cap7⟩)
      replace hx1 := hx1.keep hx
      replace hy1 := hy1.keep hx
      replace hz1 := hz1.keep hx
      replace hab := hab.keep hx
      replace hbc := hbc.keep hx
      replace hl := hl.keep hx
      replace hr := hr.keep hx
      replace ra := ra.below hx hx.size
      replace rb := rb.below hx hx.size
      replace rc := rc.below hx hx.size
      replace rab := rab.below hx hx.size
      replace rbc := rbc.below hx hx.size
      replace rl := rl.below hx hx.size
      replace rr := rr.below hx hx.size
      replace rx7 := rx7.below hx hx.size
      replace hb := hb.trans (hx.mono hb.size)
      generalize w15.alloc _ = w16 at hb hx1 hy1 hz1 hab hbc hl hr hx7 ra rb rc rab rbc rl rr rx7 ⊢
      clear hx
      refine (RA.out.2.1 _ _ ra).mono ?_
      rintro e w17 ⟨⟨k8, q8, t8, s8, A8, len8, cap8⟩, rfl, hfr, hx⟩
      replace hx1 := hx1.keep hx
      replace hy1 := hy1.keep hx
      replace hz1 := hz1.keep hx
      replace hab := hab.keep hx
      replace hbc := hbc.keep hx
      replace hl := hl.keep hx
      replace hr := hr.keep hx
      replace hx7 := hx7.keep hx
      replace ra := ra.below hx hx.size
      replace rb := rb.below hx hx.size
      replace rc := rc.below hx hx.size
      replace rab := rab.below hx hx.size
      replace rbc := rbc.below hx hx.size
      replace rl := rl.below hx hx.size
      replace rr := rr.below hx hx.size
      replace rx7 := rx7.below hx hx.size
      replace hb := hb.trans (hx.mono hb.size)
      have rx8 := hfr.rd
      clear hfr hx
      obtain ⟨c0, c1, c2, c3, c4, c5⟩ := hx7.val
      have hlt0 := hx7.lt
      have hp := Blk.new w17 26 (Val.box ⟨k8, q8, t8, s8, A8, len8, cap8⟩)
      obtain ⟨d0, d1, d2, d3, d4, d5⟩ := hp.val
      have hgl : ¬ N ≤ i := by omega
      go_wp2_with fail
      clear hp d0 d1 d2 d3 d4 d5
      clear c0 c1 c2 c3 c4 c5 hlt0
      have hx := below_alloc w17 (.cells (Val.box ⟨k8, q8, t8, s8, A8, len8, cap8⟩) 26)
      have hx8 := Blk.new w17 26 (Val.box ⟨k8, q8, t8, s8, A8, len8, cap8⟩)
      replace hx1 := hx1.keep hx
      replace hy1 := hy1.keep hx
      replace hz1 := hz1.keep hx
      replace hab := hab.keep hx
      replace hbc := hbc.keep hx
      replace hl := hl.keep hx
      replace hr := hr.keep hx
      replace hx7 := hx7.keep hx
      replace ra := ra.below hx hx.size
      replace rb := rb.below hx hx.size
      replace rc := rc.below hx hx.size
      replace rab := rab.below hx hx.size
      replace rbc := rbc.below hx hx.size
      replace rl := rl.below hx hx.size
      replace rr := rr.below hx hx.size
      replace rx7 := rx7.below hx hx.size
      replace rx8 := rx8.below hx hx.size
      replace hb := hb.trans (hx.mono hb.size)
      generalize w17.alloc _ = w18 at hb hx1 hy1 hz1 hab hbc hl hr hx7 hx8 ra rb rc rab rbc rl rr rx7 rx8 ⊢
      clear hx
      refine (RA.out.2.2 _ _ _ rx7 rx8).mono ?_
      rintro e w19 ⟨rfl, hx⟩
      replace hx1 := hx1.keep hx
      replace hy1 := hy1.keep hx
      replace hz1 := hz1.keep hx
      replace hab := hab.keep hx
      replace hbc := hbc.keep hx
      replace hl := hl.keep hx
      replace hr := hr.keep hx
      replace hx7 := hx7.keep hx
      replace hx8 := hx8.keep hx
      replace ra := ra.below hx hx.size
      replace rb := rb.below hx hx.size
      replace rc := rc.below hx hx.size
      replace rab := rab.below hx hx.size
      replace rbc := rbc.below hx hx.size
      replace rl := rl.below hx hx.size
      replace rr := rr.below hx hx.size
      replace rx7 := rx7.below hx hx.size
      replace rx8 := rx8.below hx hx.size
      replace hb := hb.trans (hx.mono hb.size)
      clear hx
      go_wp2_with fail
      refine (alive_any _ (HR.out.2.2.2.keep hb)).mono ?_
      rintro e w40 ⟨rfl, hx⟩
      replace hb := hb.trans (hx.mono hb.size)
      clear hx
      go_wp2_with fail
      go_ret
      exact ⟨rfl, hb⟩
open Go.ChangeShapes Go.WideShapes Go.ChangeAt Go.Joins
set_option maxRecDepth 100000 in
theorem sums_lifted (os : Os) (started : os.Started) (H : Type) (enc : TypeId × Value → H) :
    ReturnsInHanded {} Tryd.checked os 3 .any (fun w args => (Rows.valueSumsSpec.pre enc Tryd.prog Tryd.f3 [] false w args ∧ laidMetH Tryd.prog Rows.valueSumsRow.laid w) ∧ sizedMet enc Tryd.prog Tryd.f3 (OpenSpec.ofChange Rows.valueSumsSpec) false w args)
      (Rows.valueSumsSpec.post enc Tryd.prog Tryd.f3 false true false false) := by
  refine returnsInHanded_of_change_and (C := Tryd.checked) (X := fun w _ => laidMetH Tryd.prog Rows.valueSumsRow.laid w) (fun _ _ _ hh h => h.of_heap hh) own started (by kernel_rfl) Tryd.func3
    (ChangeSpec.witness_at (enc := enc) (C := Tryd.checked) (os := os) (X := fun w _ => laidMetH Tryd.prog Rows.valueSumsRow.laid w) false (laidWorld os) #[.agg #[.int .u8 0, .int .i64 0, .int .i64 0, .bool false, .string ⟨#[]⟩, .slice none 0 0], .agg #[.int .u8 0, .int .i64 0, .int .i64 0, .bool false, .string ⟨#[]⟩, .slice none 0 0], .agg #[.int .u8 0, .int .i64 0, .int .i64 0, .bool false, .string ⟨#[]⟩, .slice none 0 0], .int .i64 0] 8 rfl (by kernel_rfl) (by kernel_rfl) (by kernel_rfl) (by kernel_rfl) (by kernel_rfl) (laid_met os _)) ?_
  intro W base args ds gs before hval0 hW _ _ hLd _
  have hval : ∀ (j : Nat) t v, Tryd.f3.params[j]? = some t → args[j]? = some v → Value.okWide Tryd.prog W .any base t v := hval0
  have hW' := hW
  obtain ⟨p, q, hA0, hV, rfl, hfz, hnd⟩ := hW
  have hA : DataW.TrodAll enc Tryd.prog W 0 (fun _ => true) true Tryd.f3.params.toList args.toList ds p := hA0
  rw [Tryd.params3] at hA hval
  obtain ⟨v0, vs0, d0, ds0, p0, q0, hargs, rfl, rfl, h0, r0⟩ := trodAll_cons hA
  obtain ⟨v1, vs1, d1, ds1, p1, q1, rfl, rfl, rfl, h1, r1⟩ := trodAll_cons r0
  obtain ⟨v2, vs2, d2, ds2, p2, q2, rfl, rfl, rfl, h2, r2⟩ := trodAll_cons r1
  obtain ⟨v3, vs3, d3, ds3, p3, q3, rfl, rfl, rfl, h3, r3⟩ := trodAll_cons r2
  obtain ⟨rfl, rfl, rfl⟩ := trodAll_nil r3
  obtain rfl : args = #[v0, v1, v2, v3] := by cases args; simp_all
  obtain ⟨rfl, rfl⟩ := trodVars_none hV
  obtain ⟨x0, T0, rfl, hT0⟩ := open_val (hval 0 26 v0 rfl rfl) h0
  obtain ⟨x1, T1, rfl, hT1⟩ := open_val (hval 1 26 v1 rfl rfl) h1
  obtain ⟨x2, T2, rfl, hT2⟩ := open_val (hval 2 26 v2 rfl rfl) h2
  obtain ⟨k3, rfl, -, -, hk3⟩ := open_int Tryd.underlying3 (hval 3 3 v3 rfl rfl) h3
  have hw3 := wf_i64 hk3
  refine (sums_walk T0 T1 T2 x0 x1 x2 k3 W hw3.1 hw3.2 hT0 hT1 hT2 (tab_of_laid hLd)).mono fun e W' ⟨he, hb⟩ => ?_
  exact ⟨_, he, law_post laidOut hW' rfl (by kernel_rfl) rfl Tryd.underlying4 rfl rfl rfl hb⟩

theorem sums_row : Rows.ValueSumsSaid :=
  OpenClaim.holds_of_wide 3 Tryd.f3 rfl rfl rfl rfl rfl rfl rfl ⟨rfl, rfl, rfl, rfl, rfl⟩ rfl rfl rfl rfl rfl (by kernel_rfl) Tryd.func3 (by kernel_rfl)
    (of_decide_eq_true (by kernel_rfl)) (by unfold Func.isWrapper; first | (rw [if_pos (by decide +kernel)]; kernel_rfl) | (rw [if_neg (by decide +kernel)]; exact ⟨rfl, rfl⟩))
    (fun os started H enc _ => sums_lifted os started H enc)

theorem sums_holds : Rows.ValueSumsCardSaid :=
  Claim7.holds_tied_plain_at .later [] [.data, .data, .data] true Rows.valueSumsCard.stood.harness false
    sums_row (fun _ h => by cases h) (by kernel_rfl) (fun _ h => by cases h) valueSums_row_tie rfl ⟨rfl, rfl⟩ (by kernel_rfl) rfl
    (fun f fn hf hfn => by
      obtain rfl : f = 3 := Option.some.inj ((show Tryd.prog.funcNamed Rows.valueSumsRow.func = some 3 by kernel_rfl).symm.trans hf) |>.symm
      obtain rfl : fn = Tryd.f3 := (Option.some.inj (Tryd.func3.symm.trans hfn)).symm
      exact ⟨by kernel_rfl, fun j t ht => by
        rw [Tryd.params3] at ht
        rcases j with _ | _ | _ | _ | j
        · obtain rfl : t = 26 := by simpa using ht.symm
          exact (show Tryd.prog.wantsStandIn 26 = false by kernel_rfl)
        · obtain rfl : t = 26 := by simpa using ht.symm
          exact (show Tryd.prog.wantsStandIn 26 = false by kernel_rfl)
        · obtain rfl : t = 26 := by simpa using ht.symm
          exact (show Tryd.prog.wantsStandIn 26 = false by kernel_rfl)
        · obtain rfl : t = 3 := by simpa using ht.symm
          exact (show Tryd.prog.wantsStandIn 3 = false by kernel_rfl)
        · simp at ht⟩)
    (by kernel_rfl)
#print axioms sums_holds
end Go.Proofs.YtjgampkpfjbmdaaDoor
