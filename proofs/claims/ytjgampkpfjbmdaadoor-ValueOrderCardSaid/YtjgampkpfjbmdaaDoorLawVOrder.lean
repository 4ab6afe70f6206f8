/- ValueOrder returns true for all values. Condition: the library's tables are laid. -/
import Derived.Test.YtjgampkpfjbmdaaDoorPack21
import Derived.Test.YtjgampkpfjbmdaaDoorPack22
import Derived.Test.YtjgampkpfjbmdaaDoorPack20
import Derived.Lib.MinMax
namespace Go.Proofs.YtjgampkpfjbmdaaDoor
open Go.RowKit Go.Rel
set_option maxRecDepth 100000
theorem valid_list_any (ts : List Tree) (A : Option Addr) (n cap : Nat) (w : World) (hn : n ≤ 100) (h : RdB w w.heap.size (tList ts) (listX A n cap)) :
    Calls Tryd.prog 9 #[.slice A n cap] w (Ret w (.bool (ts.all vldB))) := by
  obtain ⟨kids, ys, he, -, hy, hl, hr, hk⟩ := h.open_
  have : ts = kids := tList_inj he
  subst this
  exact valid_any A n cap ts ys w hy hl hn hr hk
/-- What the comparisons of three valid values answer. -/
theorem order_facts {T U S : Tree} (hT : Valid T) (hU : Valid U) (hS : Valid S) : ∃ X1 E1 X2 E2 X3 E3 : Int,
    (cmpV T U = X1 ∧ cmpE T U = E1) ∧ (cmpV U S = X2 ∧ cmpE U S = E2) ∧ (cmpV T S = X3 ∧ cmpE T S = E3) ∧ (cmpV U T = -X1 ∧ cmpE U T = E1) ∧
    ((E1 = 20 ∧ X1 = 0 ∧ sameB T U = false) ∨ (E1 = 0 ∧ T.k = U.k ∧ ((X1 = 1 ∧ sameB T U = false) ∨ (X1 = 0 ∧ sameB T U = true) ∨ (X1 = -1 ∧ sameB T U = false)))) ∧
    ((E2 = 20 ∧ X2 = 0) ∨ (E2 = 0 ∧ X2 = 1) ∨ (E2 = 0 ∧ (X2 = 0 ∨ X2 = -1) ∧ (E1 = 0 → X1 ≤ 0 → E3 = 0 ∧ X3 = min X1 X2))) := by
  obtain ⟨⟨a1, a2⟩, a3, a4⟩ := cmp_both (v := (ordT T U).1) (e := (ordT T U).2) hT hU rfl
  obtain ⟨⟨b1, b2⟩, -⟩ := cmp_both (v := (ordT U S).1) (e := (ordT U S).2) hU hS rfl
  obtain ⟨⟨c1, c2⟩, -⟩ := cmp_both (v := (ordT T S).1) (e := (ordT T S).2) hT hS rfl
  refine ⟨_, _, _, _, _, _, ⟨a1, a2⟩, ⟨b1, b2⟩, ⟨c1, c2⟩, ⟨a3, a4⟩, ?_, ?_⟩
  · have hr := ord_rng T U hT.2.2 hU.2.2
    have hz := ord_zero T U hT.2.2 hU.2.2
    have hkk : T.k ≠ U.k → (ordT T U).2 = 20 := fun h => by
      obtain ⟨k, q, t, s, l⟩ := T
      obtain ⟨k', q', t', s', l'⟩ := U
      have : ordT (.node k q t s l) (.node k' q' t' s' l') = (0, 20) := ord_kind h
      rw [this]
    rcases hr.2.2 with h0 | ⟨h20, h0⟩
    · right
      refine ⟨h0, Classical.byContradiction fun h => by have := hkk h; omega, ?_⟩
      by_cases hx : (ordT T U).1 = 0
      · exact .inr (.inl ⟨hx, sameB_iff.2 (hz.1 (Prod.ext hx h0))⟩)
      · have hs : sameB T U = false := sameB_no fun e => hx (by rw [hz.2 e])
        rcases Int.lt_or_lt_of_ne hx with h | h
        · exact .inr (.inr ⟨by omega, hs⟩)
        · exact .inl ⟨by omega, hs⟩
    · exact .inl ⟨h20, h0, sameB_no fun e => by have := hz.2 e; rw [this] at h20; exact absurd h20 (by decide)⟩
  · have hr := ord_rng U S hU.2.2 hS.2.2
    rcases hr.2.2 with h0 | ⟨h20, h1⟩
    · by_cases hx : (ordT U S).1 = 1
      · exact .inr (.inl ⟨h0, hx⟩)
      · refine .inr (.inr ⟨h0, by omega, fun he hle => ?_⟩)
        have := ord_trans T U S hT.2.2 hU.2.2 hS.2.2 he h0 hle (by omega)
        rw [this]
        exact ⟨rfl, rfl⟩
    · exact .inl ⟨h20, h1⟩
set_option maxHeartbeats 16000000 in
theorem order_walk (T U S : Tree) (x y z : Val) (w : World) (hT : RdB w w.heap.size T x) (hU : RdB w w.heap.size U y) (hS : RdB w w.heap.size S z) (ht : Tab w) :
    Calls Tryd.prog 7 #[x.v, y.v, z.v] w (Ret w (.bool true)) := by
  have HB := Lib.hid (three_vars w 26 x.box y.box z.box)
  have HR := Lib.hid (show _ ∧ _ ∧ _ ∧ _ from ⟨hT, hU, hS, ht⟩)
  have hkx : x.k = T.k := by obtain ⟨kids, ys, rfl, -⟩ := Reads.inv hT; rfl
  have hky : y.k = U.k := by obtain ⟨kids, ys, rfl, -⟩ := Reads.inv hU; rfl
  have HKK := Lib.hid (show _ ∧ _ from ⟨hkx, hky⟩)
  have HVV := Lib.hid (fun (W : World) (g : Nat) h => valid_list_any [T, U, S] (some ⟨g, 0, none⟩) 3 3 W (by decide) h)
  clear hT hU hS ht hkx hky
  obtain ⟨k, q, t, s, A, len, cap⟩ := x
  obtain ⟨k', q', t', s', A', len', cap'⟩ := y
  obtain ⟨k2, q2, t2, s2, A2, len2, cap2⟩ := z
  obtain ⟨hb, hsz, hx, hy, hz⟩ := HB.out
  go_enter Tryd.func7, Tryd.ntmps7
  obtain ⟨c0, c1, c2, c3, c4, c5⟩ := hx.val
  obtain ⟨d0, d1, d2, d3, d4, d5⟩ := hy.val
  obtain ⟨e0, e1, e2, e3, e4, e5⟩ := hz.val
  go_wp2_with fail
  clear c0 c1 c2 c3 c4 c5 d0 d1 d2 d3 d4 d5 e0 e1 e2 e3 e4 e5
  generalize ((w.alloc _).alloc _).alloc _ = w1 at hb hsz hx hy hz ⊢
  have hn := Blk.new w1 26 (box3 ⟨k, q, t, s, A, len, cap⟩ ⟨k', q', t', s', A', len', cap'⟩ ⟨k2, q2, t2, s2, A2, len2, cap2⟩)
  have hba := below_alloc w1 (.cells (box3 ⟨k, q, t, s, A, len, cap⟩ ⟨k', q', t', s', A', len', cap'⟩ ⟨k2, q2, t2, s2, A2, len2, cap2⟩) 26)
  have hb2 := hb.trans (hba.mono hb.size)
  rw [hsz] at hn
  refine (HVV.out _ _ (rd_list3 hn (HR.out.1.in_ hb2 hb2.size) (HR.out.2.1.in_ hb2 hb2.size) (HR.out.2.2.1.in_ hb2 hb2.size))).mono ?_
  rintro e w2 ⟨rfl, hb3⟩
  replace hx := (hx.keep hba).keep hb3
  replace hy := (hy.keep hba).keep hb3
  replace hz := (hz.keep hba).keep hb3
  replace hb := hb2.trans (hb3.mono hb2.size)
  clear hn hba hb2 hb3 HVV HB hsz
  cases hv : [T, U, S].all vldB with
  | false =>
    clear hv hx hy hz HKK
    go_wp2_with fail
    refine (alive_any w2 (HR.out.2.2.2.keep hb)).mono ?_
    rintro e w3 ⟨rfl, hb3⟩
    replace hb := hb.trans (hb3.mono hb.size)
    clear hb3
    go_wp2_with fail
    go_ret
    exact ⟨rfl, hb⟩
  | true =>
    have hall : Valid T ∧ Valid U ∧ Valid S := by
      simp only [List.all_cons, List.all_nil, Bool.and_true, Bool.and_eq_true] at hv
      exact ⟨vld_yes hv.1, vld_yes hv.2.1, vld_yes hv.2.2⟩
    obtain ⟨X1, E1, X2, E2, X3, E3, f1, f2, f3, f4, f5, f6⟩ := order_facts hall.1 hall.2.1 hall.2.2
    have r1 := fun x y W h h' => compareV_any T U x y W hall.1.fit hall.2.1.fit h h'
    have r2 := fun x y W h h' => compareV_any U S x y W hall.2.1.fit hall.2.2.fit h h'
    have r3 := fun x y W h h' => compareV_any T S x y W hall.1.fit hall.2.2.fit h h'
    have r4 := fun x y W h h' => compareV_any U T x y W hall.2.1.fit hall.1.fit h h'
    have r5 := fun x y W h h' => same_any 10 T U x y W hall.1.fit h h'
    rw [f1.1, f1.2] at r1
    rw [f2.1, f2.2] at r2
    rw [f3.1, f3.2] at r3
    rw [f4.1, f4.2] at r4
    generalize sameB T U = SB at f5 r5
    have R1 := Lib.hid r1
    have R2 := Lib.hid r2
    have R3 := Lib.hid r3
    have R4 := Lib.hid r4
    have R5 := Lib.hid r5
    have HF := Lib.hid (show _ ∧ _ from ⟨f5, f6⟩)
    clear hv hall f1 f2 f3 f4 f5 f6 r1 r2 r3 r4 r5
    obtain ⟨c0, c1, c2, c3, c4, c5⟩ := hx.val
    obtain ⟨d0, d1, d2, d3, d4, d5⟩ := hy.val
    go_wp2_with fail
    clear c0 c1 c2 c3 c4 c5 d0 d1 d2 d3 d4 d5
    refine (R1.out _ _ _ (HR.out.1.in_ hb hb.size) (HR.out.2.1.in_ hb hb.size)).mono ?_
    rintro e w3 ⟨rfl, hb3⟩
    replace hx := hx.keep hb3
    replace hy := hy.keep hb3
    replace hz := hz.keep hb3
    replace hb := hb.trans (hb3.mono hb.size)
    clear hb3
    obtain ⟨d0, d1, d2, d3, d4, d5⟩ := hy.val
    obtain ⟨e0, e1, e2, e3, e4, e5⟩ := hz.val
    go_wp2_with fail
    clear d0 d1 d2 d3 d4 d5 e0 e1 e2 e3 e4 e5
    refine (R2.out _ _ _ (HR.out.2.1.in_ hb hb.size) (HR.out.2.2.1.in_ hb hb.size)).mono ?_
    rintro e w4 ⟨rfl, hb3⟩
    replace hx := hx.keep hb3
    replace hy := hy.keep hb3
    replace hz := hz.keep hb3
    replace hb := hb.trans (hb3.mono hb.size)
    clear hb3
    obtain ⟨c0, c1, c2, c3, c4, c5⟩ := hx.val
    obtain ⟨e0, e1, e2, e3, e4, e5⟩ := hz.val
    go_wp2_with fail
    clear c0 c1 c2 c3 c4 c5 e0 e1 e2 e3 e4 e5
    refine (R3.out _ _ _ (HR.out.1.in_ hb hb.size) (HR.out.2.2.1.in_ hb hb.size)).mono ?_
    rintro e w5 ⟨rfl, hb3⟩
    replace hx := hx.keep hb3
    replace hy := hy.keep hb3
    replace hz := hz.keep hb3
    replace hb := hb.trans (hb3.mono hb.size)
    clear hb3
    obtain ⟨d0, d1, d2, d3, d4, d5⟩ := hy.val
    obtain ⟨c0, c1, c2, c3, c4, c5⟩ := hx.val
    go_wp2_with fail
    clear d0 d1 d2 d3 d4 d5 c0 c1 c2 c3 c4 c5
    refine (R4.out _ _ _ (HR.out.2.1.in_ hb hb.size) (HR.out.1.in_ hb hb.size)).mono ?_
    rintro e w6 ⟨rfl, hb3⟩
    replace hx := hx.keep hb3
    replace hy := hy.keep hb3
    replace hz := hz.keep hb3
    replace hb := hb.trans (hb3.mono hb.size)
    clear hb3
    have HX := Lib.hid HKK.out
    rcases HF.out with ⟨(⟨rfl, rfl, rfl⟩ | ⟨rfl, hk1, (⟨rfl, rfl⟩ | ⟨rfl, rfl⟩ | ⟨rfl, rfl⟩)⟩), hf2⟩
    · obtain ⟨c0, c1, c2, c3, c4, c5⟩ := hx.val
      obtain ⟨d0, d1, d2, d3, d4, d5⟩ := hy.val
      go_wp2_with fail
      refine (R5.out _ _ _ (HR.out.1.in_ hb hb.size) (HR.out.2.1.in_ hb hb.size)).mono ?_
      rintro e w7 ⟨rfl, hb3⟩
      clear c0 c1 c2 c3 c4 c5 d0 d1 d2 d3 d4 d5
      replace hx := hx.keep hb3
      replace hy := hy.keep hb3
      replace hz := hz.keep hb3
      replace hb := hb.trans (hb3.mono hb.size)
      clear hb3
      obtain ⟨c0, c1, c2, c3, c4, c5⟩ := hx.val
      obtain ⟨d0, d1, d2, d3, d4, d5⟩ := hy.val
      clear hf2 HF
      cases hkk : (k != k')
      all_goals
        go_wp2_with fail
        all_goals
          refine (alive_any _ (HR.out.2.2.2.keep hb)).mono ?_
          rintro e w8 ⟨rfl, hb3⟩
          replace hb := hb.trans (hb3.mono hb.size)
          clear hb3
          go_wp2_with fail
          go_ret
          exact ⟨rfl, hb⟩
    · have hkk : (k != k') = false := by
        have h1 := HKK.out.1
        have h2 := HKK.out.2
        rw [h1, h2, hk1]; simp
      clear hk1
      obtain ⟨c0, c1, c2, c3, c4, c5⟩ := hx.val
      obtain ⟨d0, d1, d2, d3, d4, d5⟩ := hy.val
      go_wp2_with fail
      refine (R5.out _ _ _ (HR.out.1.in_ hb hb.size) (HR.out.2.1.in_ hb hb.size)).mono ?_
      rintro e w7 ⟨rfl, hb3⟩
      clear c0 c1 c2 c3 c4 c5 d0 d1 d2 d3 d4 d5
      replace hx := hx.keep hb3
      replace hy := hy.keep hb3
      replace hz := hz.keep hb3
      replace hb := hb.trans (hb3.mono hb.size)
      clear hb3
      obtain ⟨c0, c1, c2, c3, c4, c5⟩ := hx.val
      obtain ⟨d0, d1, d2, d3, d4, d5⟩ := hy.val
      clear hf2 HF
      go_wp2_with fail
      all_goals
        refine (alive_any _ (HR.out.2.2.2.keep hb)).mono ?_
        rintro e w8 ⟨rfl, hb3⟩
        replace hb := hb.trans (hb3.mono hb.size)
        clear hb3
        go_wp2_with fail
        go_ret
        exact ⟨rfl, hb⟩
    · have hkk : (k != k') = false := by
        have h1 := HKK.out.1
        have h2 := HKK.out.2
        rw [h1, h2, hk1]; simp
      clear hk1
      obtain ⟨c0, c1, c2, c3, c4, c5⟩ := hx.val
      obtain ⟨d0, d1, d2, d3, d4, d5⟩ := hy.val
      go_wp2_with fail
      refine (R5.out _ _ _ (HR.out.1.in_ hb hb.size) (HR.out.2.1.in_ hb hb.size)).mono ?_
      rintro e w7 ⟨rfl, hb3⟩
      clear c0 c1 c2 c3 c4 c5 d0 d1 d2 d3 d4 d5
      replace hx := hx.keep hb3
      replace hy := hy.keep hb3
      replace hz := hz.keep hb3
      replace hb := hb.trans (hb3.mono hb.size)
      clear hb3
      obtain ⟨c0, c1, c2, c3, c4, c5⟩ := hx.val
      obtain ⟨d0, d1, d2, d3, d4, d5⟩ := hy.val
      have HG := Lib.hid hf2
      clear hf2 HF
      rcases HG.out with ⟨rfl, rfl⟩ | ⟨rfl, rfl⟩ | ⟨rfl, (rfl | rfl), h3⟩
      · go_wp2_with fail
        all_goals
          refine (alive_any _ (HR.out.2.2.2.keep hb)).mono ?_
          rintro e w8 ⟨rfl, hb3⟩
          replace hb := hb.trans (hb3.mono hb.size)
          clear hb3
          go_wp2_with fail
          go_ret
          exact ⟨rfl, hb⟩
      · go_wp2_with fail
        all_goals
          refine (alive_any _ (HR.out.2.2.2.keep hb)).mono ?_
          rintro e w8 ⟨rfl, hb3⟩
          replace hb := hb.trans (hb3.mono hb.size)
          clear hb3
          go_wp2_with fail
          go_ret
          exact ⟨rfl, hb⟩
      · obtain ⟨rfl, rfl⟩ := h3 (by first | rfl | trivial) (by decide)
        have hmn : (min (0) (0) : Int) = 0 := by decide
        rw [hmn]
        clear HG
        go_wp2_with fail
        all_goals
          refine (alive_any _ (HR.out.2.2.2.keep hb)).mono ?_
          rintro e w8 ⟨rfl, hb3⟩
          replace hb := hb.trans (hb3.mono hb.size)
          clear hb3
          go_wp2_with fail
          go_ret
          exact ⟨rfl, hb⟩
      · obtain ⟨rfl, rfl⟩ := h3 (by first | rfl | trivial) (by decide)
        have hmn : (min (0) (-1) : Int) = -1 := by decide
        rw [hmn]
        clear HG
        go_wp2_with fail
        all_goals
          refine (alive_any _ (HR.out.2.2.2.keep hb)).mono ?_
          rintro e w8 ⟨rfl, hb3⟩
          replace hb := hb.trans (hb3.mono hb.size)
          clear hb3
          go_wp2_with fail
          go_ret
          exact ⟨rfl, hb⟩
    · have hkk : (k != k') = false := by
        have h1 := HKK.out.1
        have h2 := HKK.out.2
        rw [h1, h2, hk1]; simp
      clear hk1
      obtain ⟨c0, c1, c2, c3, c4, c5⟩ := hx.val
      obtain ⟨d0, d1, d2, d3, d4, d5⟩ := hy.val
      go_wp2_with fail
      refine (R5.out _ _ _ (HR.out.1.in_ hb hb.size) (HR.out.2.1.in_ hb hb.size)).mono ?_
      rintro e w7 ⟨rfl, hb3⟩
      clear c0 c1 c2 c3 c4 c5 d0 d1 d2 d3 d4 d5
      replace hx := hx.keep hb3
      replace hy := hy.keep hb3
      replace hz := hz.keep hb3
      replace hb := hb.trans (hb3.mono hb.size)
      clear hb3
      obtain ⟨c0, c1, c2, c3, c4, c5⟩ := hx.val
      obtain ⟨d0, d1, d2, d3, d4, d5⟩ := hy.val
      have HG := Lib.hid hf2
      clear hf2 HF
      rcases HG.out with ⟨rfl, rfl⟩ | ⟨rfl, rfl⟩ | ⟨rfl, (rfl | rfl), h3⟩
      · go_wp2_with fail
        all_goals
          refine (alive_any _ (HR.out.2.2.2.keep hb)).mono ?_
          rintro e w8 ⟨rfl, hb3⟩
          replace hb := hb.trans (hb3.mono hb.size)
          clear hb3
          go_wp2_with fail
          go_ret
          exact ⟨rfl, hb⟩
      · go_wp2_with fail
        all_goals
          refine (alive_any _ (HR.out.2.2.2.keep hb)).mono ?_
          rintro e w8 ⟨rfl, hb3⟩
          replace hb := hb.trans (hb3.mono hb.size)
          clear hb3
          go_wp2_with fail
          go_ret
          exact ⟨rfl, hb⟩
      · obtain ⟨rfl, rfl⟩ := h3 (by first | rfl | trivial) (by decide)
        have hmn : (min (-1) (0) : Int) = -1 := by decide
        rw [hmn]
        clear HG
        go_wp2_with fail
        all_goals
          refine (alive_any _ (HR.out.2.2.2.keep hb)).mono ?_
          rintro e w8 ⟨rfl, hb3⟩
          replace hb := hb.trans (hb3.mono hb.size)
          clear hb3
          go_wp2_with fail
          go_ret
          exact ⟨rfl, hb⟩
      · obtain ⟨rfl, rfl⟩ := h3 (by first | rfl | trivial) (by decide)
        have hmn : (min (-1) (-1) : Int) = -1 := by decide
        rw [hmn]
        clear HG
        go_wp2_with fail
        all_goals
          refine (alive_any _ (HR.out.2.2.2.keep hb)).mono ?_
          rintro e w8 ⟨rfl, hb3⟩
          replace hb := hb.trans (hb3.mono hb.size)
          clear hb3
          go_wp2_with fail
          go_ret
          exact ⟨rfl, hb⟩
open Go.ChangeShapes Go.WideShapes Go.ChangeAt Go.Joins
set_option maxRecDepth 100000 in
theorem order_lifted (os : Os) (started : os.Started) (H : Type) (enc : TypeId × Value → H) :
    ReturnsInHanded {} Tryd.checked os 7 .any (fun w args => (Rows.valueOrderSpec.pre enc Tryd.prog Tryd.f7 [] false w args ∧ laidMetH Tryd.prog Rows.valueOrderRow.laid w) ∧ sizedMet enc Tryd.prog Tryd.f7 (OpenSpec.ofChange Rows.valueOrderSpec) false w args)
      (Rows.valueOrderSpec.post enc Tryd.prog Tryd.f7 false true false false) := by
  refine returnsInHanded_of_change_and (C := Tryd.checked) (X := fun w _ => laidMetH Tryd.prog Rows.valueOrderRow.laid w) (fun _ _ _ hh h => h.of_heap hh) own started (by kernel_rfl) Tryd.func7
    (ChangeSpec.witness_at (enc := enc) (C := Tryd.checked) (os := os) (X := fun w _ => laidMetH Tryd.prog Rows.valueOrderRow.laid w) false (laidWorld os) #[.agg #[.int .u8 0, .int .i64 0, .int .i64 0, .bool false, .string ⟨#[]⟩, .slice none 0 0], .agg #[.int .u8 0, .int .i64 0, .int .i64 0, .bool false, .string ⟨#[]⟩, .slice none 0 0], .agg #[.int .u8 0, .int .i64 0, .int .i64 0, .bool false, .string ⟨#[]⟩, .slice none 0 0]] 8 rfl (by kernel_rfl) (by kernel_rfl) (by kernel_rfl) (by kernel_rfl) (by kernel_rfl) (laid_met os _)) ?_
  intro W base args ds gs before hval0 hW _ _ hLd _
  have hval : ∀ (j : Nat) t v, Tryd.f7.params[j]? = some t → args[j]? = some v → Value.okWide Tryd.prog W .any base t v := hval0
  have hW' := hW
  obtain ⟨p, q, hA0, hV, rfl, hfz, hnd⟩ := hW
  have hA : DataW.TrodAll enc Tryd.prog W 0 (fun _ => true) true Tryd.f7.params.toList args.toList ds p := hA0
  rw [Tryd.params7] at hA hval
  obtain ⟨v0, vs0, d0, ds0, p0, q0, hargs, rfl, rfl, h0, r0⟩ := trodAll_cons hA
  obtain ⟨v1, vs1, d1, ds1, p1, q1, rfl, rfl, rfl, h1, r1⟩ := trodAll_cons r0
  obtain ⟨v2, vs2, d2, ds2, p2, q2, rfl, rfl, rfl, h2, r2⟩ := trodAll_cons r1
  obtain ⟨rfl, rfl, rfl⟩ := trodAll_nil r2
  obtain rfl : args = #[v0, v1, v2] := by cases args; simp_all
  obtain ⟨rfl, rfl⟩ := trodVars_none hV
  obtain ⟨x0, T0, rfl, hT0⟩ := open_val (hval 0 26 v0 rfl rfl) h0
  obtain ⟨x1, T1, rfl, hT1⟩ := open_val (hval 1 26 v1 rfl rfl) h1
  obtain ⟨x2, T2, rfl, hT2⟩ := open_val (hval 2 26 v2 rfl rfl) h2
  refine (order_walk T0 T1 T2 x0 x1 x2 W hT0 hT1 hT2 (tab_of_laid hLd)).mono fun e W' ⟨he, hb⟩ => ?_
  exact ⟨_, he, law_post laidOut hW' rfl (by kernel_rfl) rfl Tryd.underlying4 rfl rfl rfl hb⟩

theorem order_row : Rows.ValueOrderSaid :=
  OpenClaim.holds_of_wide 7 Tryd.f7 rfl rfl rfl rfl rfl rfl rfl ⟨rfl, rfl, rfl, rfl, rfl⟩ rfl rfl rfl rfl rfl (by kernel_rfl) Tryd.func7 (by kernel_rfl)
    (of_decide_eq_true (by kernel_rfl)) (by unfold Func.isWrapper; first | (rw [if_pos (by decide +kernel)]; kernel_rfl) | (rw [if_neg (by decide +kernel)]; exact ⟨rfl, rfl⟩))
    (fun os started H enc _ => order_lifted os started H enc)

theorem order_holds : Rows.ValueOrderCardSaid :=
  Claim7.holds_tied_plain_at .later [] [.data, .data, .data] true Rows.valueOrderCard.stood.harness false
    order_row (fun _ h => by cases h) (by kernel_rfl) (fun _ h => by cases h) valueOrder_row_tie rfl ⟨rfl, rfl⟩ (by kernel_rfl) rfl
    (fun f fn hf hfn => by
      obtain rfl : f = 7 := Option.some.inj ((show Tryd.prog.funcNamed Rows.valueOrderRow.func = some 7 by kernel_rfl).symm.trans hf) |>.symm
      obtain rfl : fn = Tryd.f7 := (Option.some.inj (Tryd.func7.symm.trans hfn)).symm
      exact ⟨by kernel_rfl, fun j t ht => by
        rw [Tryd.params7] at ht
        rcases j with _ | _ | _ | j
        · obtain rfl : t = 26 := by simpa using ht.symm
          exact (show Tryd.prog.wantsStandIn 26 = false by kernel_rfl)
        · obtain rfl : t = 26 := by simpa using ht.symm
          exact (show Tryd.prog.wantsStandIn 26 = false by kernel_rfl)
        · obtain rfl : t = 26 := by simpa using ht.symm
          exact (show Tryd.prog.wantsStandIn 26 = false by kernel_rfl)
        · simp at ht⟩)
    (by kernel_rfl)
#print axioms order_holds
end Go.Proofs.YtjgampkpfjbmdaaDoor
