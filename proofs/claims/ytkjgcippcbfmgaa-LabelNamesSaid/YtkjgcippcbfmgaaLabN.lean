/- Compare of the program. -/
import Derived.Test.YtkjgcippcbfmgaaLabM
namespace Go.Rel
open Go.RowKit
theorem listCmp_common {α : Type} {c : α → α → Int} (hc : IsCmp c) : ∀ u s t : List α, listCmp c (u ++ s) (u ++ t) = listCmp c s t
  | [], _, _ => rfl
  | x :: u, s, t => by
    rw [List.cons_append, List.cons_append]
    conv => lhs; unfold listCmp; rw [if_neg (by simpa using hc.self x)]
    exact listCmp_common hc u s t
/-- The steps that came, read. -/
def keysS {l : Bs} (p : List (StepOf l)) : List (Bs × Int) := p.map (fun x => readR x.1)
theorem keysP_at {q : Bs} {k : Nat} (h1 : k < (keysP q).length) (h2 : k < (cutP q).length) : (keysP q)[k] = readR (cutP q)[k] := by simp [keysP]
theorem keysS_snoc {l : Bs} (p : List (StepOf l)) (x : StepOf l) : keysS (p ++ [x]) = keysS p ++ [readR x.1] := by simp [keysS]
theorem keysS_len {l : Bs} (p : List (StepOf l)) : (keysS p).length = p.length := by simp [keysS]
theorem keysS_take (l : Bs) (k : Nat) : keysS ((cutP l).attach.take k) = (keysP l).take k := by
  unfold keysS keysP
  rw [List.map_take, show (fun x : StepOf l => readR x.1) = readR ∘ Subtype.val from rfl, ← List.map_map, List.attach_map_subtype_val]
theorem keysS_all (l : Bs) : keysS (cutP l).attach = keysP l := by
  have := keysS_take l (cutP l).length
  rw [List.take_of_length_le (by rw [List.length_attach]; exact Nat.le_refl _), List.take_of_length_le (by unfold keysP; rw [List.length_map]; exact Nat.le_refl _)] at this
  exact this
/-- So far all steps are the same. -/
def SoFar {l : Bs} (K : List (Bs × Int)) (p : List (StepOf l)) : Prop := p.length ≤ K.length ∧ keysS p = K.take p.length
/-- Here they differ, or the second path has ended: r is the answer. -/
def Differ {l : Bs} (K : List (Bs × Int)) (p' : List (StepOf l)) (r : Int) : Prop := ∃ p x, p' = p ++ [x] ∧ SoFar K p ∧ ((p.length = K.length ∧ r = 1) ∨ ∃ h : p.length < K.length, r = cmpS (readR x.1) K[p.length] ∧ r ≠ 0)
theorem soFar_nil {l : Bs} (K : List (Bs × Int)) : SoFar K ([] : List (StepOf l)) := ⟨Nat.zero_le _, rfl⟩
theorem soFar_snoc {l : Bs} {K : List (Bs × Int)} {p : List (StepOf l)} {x : StepOf l} (h : SoFar K p) (hlt : p.length < K.length) (he : cmpS (readR x.1) K[p.length] = 0) : SoFar K (p ++ [x]) := by
  refine ⟨by rw [List.length_append]; exact hlt, ?_⟩
  rw [keysS_snoc, h.2, (isCmp_S.zero _ _).1 he, List.length_append, List.length_singleton, List.take_succ_eq_append_getElem hlt]
theorem differ_val {l : Bs} {K : List (Bs × Int)} {k : Nat} {r : Int} (h : Differ K ((cutP l).attach.take k) r) : listCmp cmpS (keysP l) K = r := by
  obtain ⟨p, x, e, hs, hor⟩ := h
  have hk := congrArg keysS e
  rw [keysS_take, keysS_snoc, hs.2] at hk
  have h1 : keysP l = K.take p.length ++ ([readR x.1] ++ (keysP l).drop k) := by
    rw [← List.append_assoc, ← hk, List.take_append_drop]
  have h2 : K = K.take p.length ++ K.drop p.length := (List.take_append_drop _ _).symm
  rw [h1]
  conv => lhs; arg 3; rw [h2]
  rw [listCmp_common isCmp_S]
  rcases hor with ⟨hl, rfl⟩ | ⟨hl, hr, hne⟩
  · have hd : K.drop p.length = [] := List.drop_eq_nil_of_le (by omega)
    rw [hd]
    rfl
  · rw [List.drop_eq_getElem_cons hl, List.singleton_append]
    unfold listCmp
    rw [if_pos (by rw [← hr]; exact hne), hr]
theorem soFar_end {l : Bs} {K : List (Bs × Int)} (h : SoFar K (cutP l).attach) : listCmp cmpS (keysP l) K = Lib.compareInt (cutP l).length K.length := by
  obtain ⟨h1, h2⟩ := h
  rw [List.length_attach] at h1 h2
  rw [keysS_all] at h2
  have h3 : K = K.take (cutP l).length ++ K.drop (cutP l).length := (List.take_append_drop _ _).symm
  have h4 : listCmp cmpS (keysP l) K = listCmp cmpS [] (K.drop (cutP l).length) := by
    conv => lhs; arg 3; rw [h3]
    rw [h2]
    conv => lhs; arg 2; rw [← List.append_nil (K.take (cutP l).length)]
    exact listCmp_common isCmp_S _ _ _
  rw [h4]
  unfold Lib.compareInt
  by_cases h5 : (cutP l).length < K.length
  · rw [List.drop_eq_getElem_cons h5, if_pos (by omega)]
    rfl
  · rw [List.drop_eq_nil_of_le (by omega), if_neg (by omega), if_neg (by omega)]
    rfl
end Go.Rel
namespace Go.Proofs.Ytkjgcippcbfmgaa
open Go.RowKit Go.Rel Go.Shelf
attribute [local go_sem] Oper.semAt_some

set_option maxRecDepth 100000 in
set_option maxHeartbeats 4000000 in
theorem compare_in (l q : Bs) (w : World) (hl : l.length ≤ 100000) (hq : q.length ≤ 100000) :
    CallsIn Fence.wide 3 Try.prog 28 #[.string (str l), .string (str q)] w (Ret w (.tuple #[.int .i64 (cmpR l q), .int .i64 (bothE l q)])) := by
  have hlm : l.length ≤ maxLen := by unfold maxLen; omega
  have hqm : q.length ≤ maxLen := by unfold maxLen; omega
  have r1 := fun W => both_any (str l) (str q) W hlm hqm
  rw [str_list, str_list] at r1
  have r2 := fun W => steps_all q W hq
  unfold cmpR
  by_cases hE : bothE l q = 0
  case neg =>
    rw [if_neg hE]
    have hE' : (bothE l q != 0) = true := by simpa using hE
    generalize bothE l q = E at *
    have R1 := Lib.hid r1
    obtain ⟨x1, x2, x3, x4⟩ := boxes2 w #[.int .i64 0] #[.int .i64 0] 3 23
    have x5 : Blk _ w.heap.size _ _ := x3
    have x6 : Blk _ (w.heap.size + 1) _ _ := x4
    clear r1 r2 hE x3 x4
    refine callsIn_of_wp Try.func28 rfl trivial ?_ rfl
    simp only [Try.ntmps28, List.size_toArray, List.length_cons, List.length_nil, Nat.reduceAdd, Nat.reduceSub, Array.replicate_succ, Array.replicate_zero, List.push_toArray, List.append_toArray, List.nil_append, List.cons_append]
    gi_wp2
    refine ⟨trivial, ?_⟩
    gi_wp2
    generalize World.alloc _ _ = w0 at x1 x2 x5 x6 ⊢
    refine (callsIn_wide.2 (R1.out _)).mono ?_
    rintro e W ⟨rfl, hb⟩
    replace x5 := x5.keep hb
    replace x6 := x6.keep hb
    replace x1 := x1.trans (hb.mono x1.size)
    have c0 := x5.cell (i := 0) rfl
    have c1 := x6.cell (i := 0) rfl
    have f0 := x5.frozen
    have f1 := x6.frozen
    have l0 := x5.lt
    have l1 := x6.lt
    clear x5 x6 x2 hb
    gi_wp2
    exact bodyPost_ret (v := .tuple #[.int .i64 0, .int .i64 E]) (by simp [results, Try.results28, go_sem, c0, c1]) rfl ⟨rfl, (x1.setCell (p := ⟨w.heap.size, 0, none⟩) (Nat.le_refl _) _).setCell (p := ⟨w.heap.size + 1, 0, none⟩) (Nat.le_succ _) _⟩
  rw [if_pos hE, hE]
  rw [hE] at r1
  obtain ⟨k1, k2⟩ := both_ok hE
  have hsq : stepsL q = cutP q := by unfold stepsL; rw [if_pos k2]
  obtain ⟨V, hV⟩ : ∃ V, cmpV l q = V := ⟨_, rfl⟩
  rw [hV]
  have HV := Lib.hid (show listCmp cmpS (keysP l) (keysP q) = V from hV)
  have hm2 : ∀ x ∈ cutP q, x.length ≤ 100000 := fun x hx => Nat.le_trans (cutP_mem hx) hq
  obtain ⟨m, hm⟩ : ∃ m, (cutP q).length = m := ⟨_, rfl⟩
  have hm40 : m ≤ 40 := by rw [← hm]; exact (check_all k2).2.1
  have hK : (keysP q).length = m := by unfold keysP; rw [List.length_map, hm]
  have HK := Lib.hid (show _ ∧ _ ∧ _ from ⟨hK, hm, hm2⟩)
  have R1 := Lib.hid r1
  have R2 := Lib.hid r2
  have HSQ := Lib.hid hsq
  obtain ⟨x1, x2, x3, x4⟩ := boxes2 w #[.int .i64 0] #[.int .i64 0] 3 23
  have x5 : Blk _ w.heap.size _ _ := x3
  have x6 : Blk _ (w.heap.size + 1) _ _ := x4
  clear r1 r2 hE x3 x4 hV k1 hsq hm hK hm2
  refine callsIn_of_wp_marks Try.func28 rfl trivial ?_ rfl
  simp only [Try.ntmps28, List.size_toArray, List.length_cons, List.length_nil, Nat.reduceAdd, Nat.reduceSub, Array.replicate_succ, Array.replicate_zero, List.push_toArray, List.append_toArray, List.nil_append, List.cons_append]
  gi_wp2
  refine ⟨trivial, ?_⟩
  gi_wp2
  generalize World.alloc _ _ = w0 at x1 x2 x5 x6 ⊢
  refine (callsIn_wide.2 (R1.out _)).mono ?_
  rintro e w2 ⟨rfl, hb⟩
  replace x5 := x5.keep hb
  replace x6 := x6.keep hb
  have hs2 : w.heap.size + 1 + 1 ≤ w2.heap.size := by have := hb.size; omega
  replace x1 := x1.trans (hb.mono x1.size)
  clear hb x2
  gi_wp2
  refine ⟨trivial, ?_⟩
  gi_wp2
  refine (callsIn_wide.2 (R2.out _)).mono ?_
  rintro e w3 ⟨v, rfl, hst, hb⟩
  rw [k2]
  rw [HSQ.out] at hst
  obtain ⟨A, ca, rfl, hca, hnA, hr⟩ := hst
  rw [HK.out.2.1] at hca ⊢
  replace x5 := x5.keep hb
  replace x6 := x6.keep hb
  have hs3 : w.heap.size + 1 + 1 ≤ w3.heap.size := by have := hb.size; omega
  replace x1 := x1.trans (hb.mono x1.size)
  clear hb R1 R2 k2 HSQ
  gi_wp2
  refine ⟨trivial, ?_⟩
  gi_wp2
  refine (steps_any _ l _).mono ?_
  rintro e W ⟨rfl, rfl⟩
  gi_wp2
  obtain ⟨y1, y2, y3, y4, y5⟩ := boxes3 w3 #[.slice A m ca] #[.int .i64 0] #[.string (str l)] 22 3 9
  have y6 : Blk _ w3.heap.size _ _ := y3
  have y7 : Blk _ (w3.heap.size + 1) _ _ := y4
  have y8 : Blk _ (w3.heap.size + 1 + 1) _ _ := y5
  clear y3 y4 y5
  generalize World.alloc (World.alloc (World.alloc _ _) _) _ = w5 at y1 y2 y6 y7 y8 ⊢
  refine wpIn_rangeFunc_ownG rfl (by omega) (gf := 49) (lb := #[.pointer (some ⟨w3.heap.size + 1 + 1, 0, none⟩)]) rfl trivial (enters_of Try.func49 (by kernel_rfl) rfl)
    (steps_stops 2 (by omega) (w3.heap.size + 1 + 1) (cutP l).length l rfl hlm w5 y8) (fun _ _ => trivial) (fun _ _ _ _ _ _ _ _ => trivial) (Below.refl _ _) (fun _ => rfl)
    (fun pre W => (Boxed W w3.heap.size 22 (.slice A m ca) ∧ Boxed W (w3.heap.size + 1) 3 (.int .i64 pre.length)) ∧ (Below w3.heap.size w3 W ∧ SoFar (keysP q) pre))
    (fun c pre W => ∃ r, (W.cell? ⟨w.heap.size, 0, none⟩ = some (.int .i64 r) ∧ W.cell? ⟨w.heap.size + 1, 0, none⟩ = some (.int .i64 0)) ∧ (Below w.heap.size w W ∧ (c = Code.ret ∧ Differ (keysP q) pre r)))
    (OwnFrom.and (OwnFrom.and ((boxed_own w3.heap.size 22 (fun _ : List (StepOf l) => .slice A m ca)).from _) ((boxed_own (w3.heap.size + 1) 3 (fun pre : List (StepOf l) => .int .i64 pre.length)).from _)) (OwnFrom.and (ownFrom_below (Nat.le_refl _) (by omega)) (ownFrom_pure _ _)))
    (fun c s A B row h hg hr => by
      obtain ⟨r, ⟨h1, h2⟩, h3, h4⟩ := h
      exact ⟨r, ⟨cell_kept h1 hg (fun e he => (hr e he).2), cell_kept h2 hg (fun e he => (hr e he).2)⟩, ownFrom_below (β := Unit) (n₀ := w.heap.size) (w₀ := w) (Nat.le_refl _) (by omega) () A B row h3 hg hr, h4⟩)
    ⟨⟨y6, y7⟩, y1, soFar_nil _⟩
    (fun x => { tmps := #[.string (str l), .string (str q), undef, undef, .pointer (some ⟨w.heap.size, 0, none⟩), .pointer (some ⟨w.heap.size + 1, 0, none⟩), .int .i64 0, .pointer (some ⟨w3.heap.size, 0, none⟩), .int .i64 0, .pointer (some ⟨w3.heap.size + 1, 0, none⟩), .string (str x.1), undef, undef, undef, undef, undef, undef, .string (str l), .string (str q), .int .i64 0, .int .i64 0, .bool false, undef, .tuple #[.slice A m ca, .int .i64 0], .string (str q), .tuple #[.slice A m ca, .int .i64 0], .slice A m ca, .int .i64 0, .string (str l), .func (.func 49) #[] #[.pointer (some ⟨w3.heap.size + 1 + 1, 0, none⟩)], .string (str x.1), undef, undef, undef, undef, undef, undef, undef, undef, undef, undef, undef, undef, undef, undef, undef, undef, undef, undef, undef, undef, undef, undef, undef, undef, undef, undef, undef, undef, undef, undef, undef], defers := [] }) ?assign ?body ?done ?stop
  case assign =>
    intro L x W K hK
    gi_wp2
    exact hK
  case body =>
    rintro L pre x W ⟨⟨hb7, hb9⟩, hB, hsf⟩ _
    have a0 := x5.below hB (by omega)
    have a1 := x6.below hB (by omega)
    have c4 := a0.cell (i := 0) rfl
    have c5 := a1.cell (i := 0) rfl
    have f4 := a0.frozen 0
    have f5 := a1.frozen 0
    have c7 := hb7.cell
    have c9 := hb9.cell
    have f9 := hb9.frozen
    have l9 := hb9.lt
    have hple : pre.length ≤ m := by have := hsf.1; rw [HK.out.1] at this; exact this
    have hsz := hB.size
    by_cases hpm : pre.length = m
    · have q1 : ((pre.length : Int) == (m : Int)) = true := by rw [beq_iff_eq]; omega
      have HD := Lib.hid (show Differ (keysP q) (pre ++ [x]) 1 from ⟨pre, x, rfl, hsf, .inl ⟨by rw [HK.out.1]; exact hpm, rfl⟩⟩)
      clear hsf hpm
      gi_wp2
      refine ⟨((KeepsOthers.setCell _ _ _).trans (KeepsOthers.setCell _ _ _)).from _, 1, ⟨?_, ?_⟩, ?_, rfl, HD.out⟩
      · exact ((a0.set_ 0 (.int .i64 1)).far (p := ⟨w.heap.size + 1, 0, none⟩) (by simp) (.int .i64 0)).cell (i := 0) rfl
      · exact ((a1.far (p := ⟨w.heap.size, 0, none⟩) (by simp) (.int .i64 1)).set_ 0 (.int .i64 0)).cell (i := 0) rfl
      · exact ((x1.trans (hB.mono x1.size)).setCell (p := ⟨w.heap.size, 0, none⟩) (by simp) _).setCell (p := ⟨w.heap.size + 1, 0, none⟩) (by simp) _
    · have q1 : ((pre.length : Int) == (m : Int)) = false := by rw [beq_eq_false_iff_ne]; omega
      have hkl : pre.length < (cutP q).length := by rw [HK.out.2.1]; omega
      obtain ⟨b, off, rfl, hbB, c0⟩ := str_at (hr.below hB) hkl
      have hKlt : pre.length < (keysP q).length := by rw [HK.out.1]; omega
      have hkq := keysP_at hKlt hkl
      have hDF := fun r (h1 : r = cmpS (readR x.1) (keysP q)[pre.length]) (h2 : r ≠ 0) => (show Differ (keysP q) (pre ++ [x]) r from ⟨pre, x, rfl, hsf, .inr ⟨hKlt, h1, h2⟩⟩)
      have hSF := fun h => soFar_snoc hsf hKlt (x := x) h
      rw [hkq] at hDF hSF
      have hxl : (str x.1).size ≤ maxLen := Nat.le_trans (cutP_mem x.2) hlm
      have hyl : (str (cutP q)[pre.length]).size ≤ maxLen := by rw [str_size]; have := HK.out.2.2 _ (List.getElem_mem hkl); unfold maxLen; omega
      have e1 := fun W => read_any (str x.1) W hxl
      have e2 := fun W => read_any (str (cutP q)[pre.length]) W hyl
      rw [str_list] at e1 e2
      generalize (cutP q)[pre.length] = y at *
      have e3 := fun W => stepCmp_any (readR x.1) (readR y) W
      generalize readR x.1 = X at *
      generalize readR y = Y at *
      generalize cmpS X Y = r at *
      obtain ⟨X1, X2⟩ := X
      obtain ⟨Y1, Y2⟩ := Y
      have E1 := Lib.hid e1
      have E2 := Lib.hid e2
      have E3 := Lib.hid e3
      have HD := Lib.hid (show _ ∧ _ from ⟨hDF, hSF⟩)
      have hpl : pre.length < m := by omega
      clear hsf hpm e1 e2 e3 hDF hSF hkq hxl hyl hr
      gi_wp2
      refine ⟨trivial, ?_⟩
      gi_wp2
      refine (callsIn_wide.2 (E1.out _)).mono ?_
      rintro e W2 ⟨rfl, hb2⟩
      have st : 63 = 63 := rfl
      have k11 := Blk.new W2 63 #[.string (str X1), .int .i64 X2]
      have hba := below_alloc W2 (.cells #[.string (str X1), .int .i64 X2] 63)
      have hb4 := hb2.trans (hba.mono hb2.size)
      have u7 := (Blk.keep (t := 22) (cs := #[.slice (some ⟨b, off, none⟩) m ca]) hb7 hb2).cell (i := 0) rfl
      have u9 := (Blk.keep (t := 3) (cs := #[.int .i64 pre.length]) hb9 hb2).cell (i := 0) rfl
      have u0 := (hb2.cell (p := ⟨b, off + pre.length, none⟩) (show b < W.heap.size by omega)).trans c0
      have hlW := hb9.lt
      have ul : w3.heap.size + 1 < W2.heap.size := Nat.lt_of_lt_of_le hlW hb2.size
      have ul7 : w3.heap.size < W2.heap.size := by omega
      have ulb : b < W2.heap.size := by omega
      clear hba hb2 c4 c5 c7 c9 f4 f5 f9 l9 st
      have a0' := a0.keep hb4
      have a1' := a1.keep hb4
      have g7 : Blk _ w3.heap.size 22 #[.slice (some ⟨b, off, none⟩) m ca] := Blk.keep hb7 hb4
      have g9 : Blk _ (w3.heap.size + 1) 3 #[.int .i64 pre.length] := Blk.keep hb9 hb4
      have c0' := (hb4.cell (p := ⟨b, off + pre.length, none⟩) (show b < W.heap.size by omega)).trans c0
      have hB4 := hB.trans (hb4.mono hB.size)
      have HKF := Lib.hid (keepsFrom_below (B := w5.heap.size) hb4)
      clear hb4 c0 hb7 hb9 a0 a1 hB
      gi_wp2
      refine ⟨trivial, ?_⟩
      gi_wp2
      clear u7 u9 u0 ul ul7 ulb
      have hl11 := k11.lt
      generalize hg11 : W2.heap.size = g11 at k11 hl11 ⊢
      generalize World.alloc W2 _ = W4 at k11 hl11 a0' a1' g7 g9 c0' hB4 HKF ⊢
      clear hg11
      refine (callsIn_wide.2 (E2.out _)).mono ?_
      rintro e W5 ⟨rfl, hb5⟩
      have k13 := Blk.new W5 63 #[.string (str Y1), .int .i64 Y2]
      have hba := below_alloc W5 (.cells #[.string (str Y1), .int .i64 Y2] 63)
      have hb6 := hb5.trans (hba.mono hb5.size)
      have v0 := (k11.keep hb5).cell (i := 0) rfl
      have v1 := (k11.keep hb5).cell (i := 1) rfl
      have vl : g11 < W5.heap.size := Nat.lt_of_lt_of_le hl11 hb5.size
      have z4 := a0'.keep hb6
      have z5 := a1'.keep hb6
      have z7 := g7.keep hb6
      have z9 := g9.keep hb6
      have hB6 := hB4.trans (hb6.mono hB4.size)
      have HKF2 := Lib.hid (HKF.out.trans (keepsFrom_below (B := w5.heap.size) hb6))
      clear k11 a0' a1' g7 g9 c0' hB4 HKF hba hb6 hb5 hl11
      gi_wp2
      refine ⟨trivial, ?_⟩
      gi_wp2
      clear v0 v1 vl k13
      generalize World.alloc W5 _ = W6 at z4 z5 z7 z9 hB6 HKF2 ⊢
      refine (callsIn_wide.2 (E3.out _)).mono ?_
      rintro e W7 ⟨rfl, hb7⟩
      replace z4 := z4.keep hb7
      replace z5 := z5.keep hb7
      replace z7 := z7.keep hb7
      replace z9 := z9.keep hb7
      replace hB6 := hB6.trans (hb7.mono hB6.size)
      have HKF3 := Lib.hid (HKF2.out.trans (keepsFrom_below (B := w5.heap.size) hb7))
      have c4 := z4.cell (i := 0) rfl
      have c5 := z5.cell (i := 0) rfl
      have c9 := z9.cell (i := 0) rfl
      have f4 := z4.frozen 0
      have f5 := z5.frozen 0
      have f9 := z9.frozen 0
      have l4 := z4.lt
      have l5 := z5.lt
      have l9 := z9.lt
      clear hb7 HKF2 E1 E2 E3
      by_cases hr0 : r = 0
      · subst hr0
        have HS := Lib.hid (HD.out.2 rfl)
        clear HD
        gi_wp2
        refine ⟨HKF3.out.trans ((KeepsOthers.setCell _ _ _).from _), trivial, ⟨?_, ?_⟩, ?_, HS.out⟩
        · exact z7.far (p := ⟨w3.heap.size + 1, 0, none⟩) (by simp) _
        · have := z9.set_ 0 (.int .i64 ((pre.length : Int) + 1))
          rw [List.length_append]
          exact this
        · exact hB6.setCell (p := ⟨w3.heap.size + 1, 0, none⟩) (by simp) _
      · have hr1 : (r != 0) = true := by simpa using hr0
        have HS := Lib.hid (HD.out.1 r rfl hr0)
        clear HD hr0
        gi_wp2
        refine ⟨HKF3.out.trans (((KeepsOthers.setCell _ _ _).trans (KeepsOthers.setCell _ _ _)).from _), r, ⟨?_, ?_⟩, ?_, rfl, HS.out⟩
        · exact ((z4.set_ 0 (.int .i64 r)).far (p := ⟨w.heap.size + 1, 0, none⟩) (by simp) (.int .i64 0)).cell (i := 0) rfl
        · exact ((z5.far (p := ⟨w.heap.size, 0, none⟩) (by simp) (.int .i64 r)).set_ 0 (.int .i64 0)).cell (i := 0) rfl
        · exact ((x1.trans (hB6.mono x1.size)).setCell (p := ⟨w.heap.size, 0, none⟩) (by simp) _).setCell (p := ⟨w.heap.size + 1, 0, none⟩) (by simp) _
  case done =>
    rintro D ys W hD rfl ⟨⟨hb7, hb9⟩, hB, hsf⟩ hK
    have hv : V = Lib.compareInt (cutP l).length m := by rw [← HV.out, soFar_end hsf, HK.out.1]
    have HVV := Lib.hid hv
    have z4 := x5.below hB (by omega)
    have z5 := x6.below hB (by omega)
    have c7 := hb7.cell
    have c9 := hb9.cell
    rw [List.length_attach] at c9
    have c4 := z4.cell (i := 0) rfl
    have c5 := z5.cell (i := 0) rfl
    have f4 := z4.frozen 0
    have f5 := z5.frozen 0
    have l4 := z4.lt
    have l5 := z5.lt
    clear hsf hb7 hb9 hv
    gi_wp2
    refine ⟨trivial, ?_⟩
    gi_wp2
    refine (callsIn_wide.2 (Try.cmp_Compare_int _ _ _)).mono ?_
    rintro e W2 ⟨rfl, rfl⟩
    gi_wp2
    have hDl : w.heap.size + 1 < D := by omega
    have hK1 : (W2.setCell ⟨w.heap.size, 0, none⟩ (.int .i64 (Lib.compareInt (cutP l).length m))).heap[D]? = some (.deferred (some [])) := (Below.heap_setCell _ _ _ _ (by simp only; omega)).trans hK
    have hK2 : ((W2.setCell ⟨w.heap.size, 0, none⟩ (.int .i64 (Lib.compareInt (cutP l).length m))).setCell ⟨w.heap.size + 1, 0, none⟩ (.int .i64 0)).heap[D]? = some (.deferred (some [])) := (Below.heap_setCell _ _ _ _ (by simp only; omega)).trans hK1
    have d4 := ((z4.set_ 0 (.int .i64 (Lib.compareInt (cutP l).length m))).far (p := ⟨w.heap.size + 1, 0, none⟩) (by simp) (.int .i64 0)).cell (i := 0) rfl
    have d5 := ((z5.far (p := ⟨w.heap.size, 0, none⟩) (by simp) (.int .i64 (Lib.compareInt (cutP l).length m))).set_ 0 (.int .i64 0)).cell (i := 0) rfl
    have hB2 : Below w.heap.size w ((W2.setCell ⟨w.heap.size, 0, none⟩ (.int .i64 (Lib.compareInt (cutP l).length m))).setCell ⟨w.heap.size + 1, 0, none⟩ (.int .i64 0)) := ((x1.trans (hB.mono x1.size)).setCell (p := ⟨w.heap.size, 0, none⟩) (by simp) _).setCell (p := ⟨w.heap.size + 1, 0, none⟩) (by simp) _
    clear hK hK1 z4 z5 c4 c5 f4 f5 l4 l5 c7 c9
    generalize World.setCell (World.setCell _ _ _) _ _ = W9 at hK2 d4 d5 hB2 ⊢
    refine ⟨by simp, .inl ⟨_, _, rfl, run_takeDeferred hK2, ?_⟩⟩
    have g4 : (W9.putObj D (.deferred none)).cell? ⟨w.heap.size, 0, none⟩ = some (.int .i64 (Lib.compareInt (cutP l).length m)) := (World.cell?_of_block (World.putObj_heap_other (by simp only; omega))).trans d4
    have g5 : (W9.putObj D (.deferred none)).cell? ⟨w.heap.size + 1, 0, none⟩ = some (.int .i64 0) := (World.cell?_of_block (World.putObj_heap_other (by simp only; omega))).trans d5
    exact ⟨.tuple #[.int .i64 (Lib.compareInt (cutP l).length m), .int .i64 0], by simp [results, Try.results28, go_sem, g4, g5], by rw [HVV.out], hB2.trans (belowK_b (w := w) (Nat.le_refl _) W9 D _ _ (by omega) hK2 rfl rfl)⟩
  case stop =>
    rintro D c pre W hD ⟨k, hk, rfl⟩ ⟨r, ⟨c4, c5⟩, hB, rfl, hdf⟩ hK
    have hv : V = r := by rw [← HV.out, differ_val hdf]
    gi_wp2
    have hDl : w.heap.size + 1 < D := by omega
    refine ⟨by simp, .inl ⟨_, _, rfl, run_takeDeferred hK, ?_⟩⟩
    have d4 : (W.putObj D (.deferred none)).cell? ⟨w.heap.size, 0, none⟩ = some (.int .i64 r) := (World.cell?_of_block (World.putObj_heap_other (by simp only; omega))).trans c4
    have d5 : (W.putObj D (.deferred none)).cell? ⟨w.heap.size + 1, 0, none⟩ = some (.int .i64 0) := (World.cell?_of_block (World.putObj_heap_other (by simp only; omega))).trans c5
    exact ⟨.tuple #[.int .i64 r, .int .i64 0], by simp [results, Try.results28, go_sem, d4, d5], by rw [hv], hB.trans (belowK_b (w := w) (Nat.le_refl _) W D _ _ (by omega) hK rfl rfl)⟩

theorem compare_any (l q : Bs) (w : World) (hl : l.length ≤ 100000) (hq : q.length ≤ 100000) : Calls Try.prog 28 #[.string (str l), .string (str q)] w (Ret w (.tuple #[.int .i64 (cmpR l q), .int .i64 (bothE l q)])) := callsIn_wide.1 (compare_in l q w hl hq)
end Go.Proofs.Ytkjgcippcbfmgaa
