/- compare of two steps; sign and Compare of the reference. -/
import Derived.Test.YtkjgcippcbfmgaaRegion
import Derived.Test.YtkjgcippcbfmgaaLabL
import Derived.Test.YtkjgcippcbfmgaaLabQ
namespace Go.Rel
open Go.RowKit
def orI (a b : Int) : Int := if a = 0 then b else a
theorem orI_cmp (a b : Bs × Int) : orI (Lib.compareBytes a.1 b.1) (Lib.compareInt a.2 b.2) = cmpS a b := by
  unfold orI cmpS pairCmp
  by_cases h : Lib.compareBytes a.1 b.1 = 0 <;> simp [h]
def signV (a b : Bool) : Int := if a then -1 else if b then 1 else 0
theorem stepV_ok {x : Bs} (h : stepOk x = true) : stepV x = .tuple #[.string (str (readR x).1), .int .i64 (readR x).2, .bool true] := by
  unfold stepOk at h
  obtain ⟨p, hp⟩ := Option.isSome_iff_exists.1 h
  rw [readR_some hp]
  unfold stepV
  rw [hp]
theorem both_ok {p q : Bs} (h : bothE p q = 0) : checkP p = 0 ∧ checkP q = 0 := by
  unfold bothE at h
  by_cases h1 : checkP p = 0
  · rw [if_neg (by simpa using h1)] at h; exact ⟨h1, h⟩
  · rw [if_pos h1] at h; exact absurd h h1
theorem sign_int (x y : Int) : signV (decide (x < y)) (decide (y < x)) = Lib.compareInt x y := by
  unfold signV Lib.compareInt
  by_cases h1 : x < y
  · simp [h1]
  · by_cases h2 : y < x <;> simp [h1, h2]
theorem sign_nat (n m : Nat) : signV (decide (n < m)) (decide (m < n)) = if n < m then -1 else if m < n then 1 else 0 := by
  unfold signV
  by_cases h1 : n < m
  · simp [h1]
  · by_cases h2 : m < n <;> simp [h1, h2]
end Go.Rel
namespace Go.Proofs.Ytkjgcippcbfmgaa
open Go.RowKit Go.Rel

set_option maxHeartbeats 400000 in
theorem orInt_any (g : Nat) (e1 e2 : Int) (w : World) (h1 : w.cell? ⟨g, 0, none⟩ = some (.int .i64 e1)) (h2 : w.cell? ⟨g, 1, none⟩ = some (.int .i64 e2)) :
    Calls Try.prog 57 #[.slice (some ⟨g, 0, none⟩) 2 2] w (Same w (.int .i64 (orI e1 e2))) := by
  go_enter Try.func57, Try.ntmps57
  go_wp2
  go_loopw [8] (fun i wr => wr = w ∧ ((i = .int .i64 0) ∨ (i = .int .i64 1 ∧ e1 = 0) ∨ (i = .int .i64 2 ∧ e1 = 0 ∧ e2 = 0))) (fun i _ => 2 - (intOf i).toNat)
  case atStart => exact ⟨rfl, .inl rfl⟩
  case round =>
    obtain ⟨rfl, hrel⟩ := hrel
    rcases hrel with rfl | ⟨rfl, r1⟩ | ⟨rfl, r1, r2⟩
    · by_cases hz : e1 = 0
      · subst hz
        go_wp2
        go_roundw
        case rel => simp
        case measure => simp [intOf]
      · have hz' : (e1 != 0) = true := by simpa using hz
        go_wp2
        go_ret
        exact same_int (if_neg hz).symm
    · subst r1
      by_cases hz : e2 = 0
      · subst hz
        go_wp2
        go_roundw
        case rel => simp
        case measure => simp [intOf]
      · have hz' : (e2 != 0) = true := by simpa using hz
        go_wp2
        go_ret
        exact same_int rfl
    · subst r1; subst r2
      go_wp2
      go_ret
      exact same_int rfl

theorem sign_any (a b : Bool) (w : World) : Calls Try.prog 48 #[.bool a, .bool b] w (Same w (.int .i64 (signV a b))) := by
  cases a <;> cases b
  all_goals
    go_enter Try.func48, Try.ntmps48
    go_wp2
    go_ret
    exact ⟨rfl, rfl⟩

set_option maxRecDepth 100000 in
set_option maxHeartbeats 1000000 in
theorem stepCmp_any (a b : Bs × Int) (w : World) :
    Calls Try.prog 46 #[.agg #[.string (str a.1), .int .i64 a.2], .agg #[.string (str b.1), .int .i64 b.2]] w (Ret w (.int .i64 (cmpS a b))) := by
  obtain ⟨an, ai⟩ := a
  obtain ⟨bn, bi⟩ := b
  rw [← orI_cmp]
  simp only
  have c1 := fun W => Try.strings_Compare (str an) (str bn) W
  rw [str_list, str_list] at c1
  have c2 := fun W => Try.cmp_Compare_int ai bi W
  generalize Lib.compareBytes an bn = X at *
  generalize Lib.compareInt ai bi = Y at *
  obtain ⟨b1, b2, b3, b4⟩ := boxes2 w #[.string (str an), .int .i64 ai] #[.string (str bn), .int .i64 bi] 63 63
  have q0 : Blk _ w.heap.size _ _ := b3
  have q1 : Blk _ (w.heap.size + 1) _ _ := b4
  go_enter Try.func46, Try.ntmps46
  go_wp2_with fail
  generalize World.alloc (World.alloc w _) _ = w1 at b1 b2 q0 q1 ⊢
  have d0 : ∀ W, Below w1.heap.size w1 W → W.cell? ⟨w.heap.size, 0, none⟩ = some (.string (str an)) := fun W hW => (q0.keep hW).cell rfl
  have d1 : ∀ W, Below w1.heap.size w1 W → W.cell? ⟨w.heap.size, 1, none⟩ = some (.int .i64 ai) := fun W hW => (q0.keep hW).cell rfl
  have d2 : ∀ W, Below w1.heap.size w1 W → W.cell? ⟨w.heap.size + 1, 0, none⟩ = some (.string (str bn)) := fun W hW => (q1.keep hW).cell rfl
  have d3 : ∀ W, Below w1.heap.size w1 W → W.cell? ⟨w.heap.size + 1, 1, none⟩ = some (.int .i64 bi) := fun W hW => (q1.keep hW).cell rfl
  clear b2 b3 b4
  apply wp_region_head 13 17 (hm := by kernel_rfl) (hN := rfl)
  case h =>
    simp only [List.take_succ_cons, List.take_zero]
    (apply head_still rfl; (intro W hW; go_simp; (try rfl)))
    (apply head_still rfl; (intro W hW; have h0 := d0 W hW; go_simp; (try rfl)))
    (apply head_still rfl; (intro W hW; go_simp; (try rfl)))
    (apply head_still rfl; (intro W hW; have h0 := d2 W hW; go_simp; (try rfl)))
    (apply head_call rfl; (intro W; go_simp; exact ⟨rfl, rfl⟩); (intro W hW; exact (c1 W).mono fun e W' ⟨he, hw⟩ => ⟨he, hw ▸ Below.refl _ _⟩))
    (apply head_still rfl; (intro W hW; go_simp; (try rfl)))
    (apply head_still rfl; (intro W hW; have h0 := d1 W hW; go_simp; (try rfl)))
    (apply head_still rfl; (intro W hW; go_simp; (try rfl)))
    (apply head_still rfl; (intro W hW; have h0 := d3 W hW; go_simp; (try rfl)))
    (apply head_call rfl; (intro W; go_simp; exact ⟨rfl, rfl⟩); (intro W hW; exact (c2 W).mono fun e W' ⟨he, hw⟩ => ⟨he, hw ▸ Below.refl _ _⟩))
    apply head_mem [] (fun v W => ∃ g, v = .slice (some ⟨g, 0, none⟩) 2 2 ∧ W.heap[g]? = some (.cells #[.int .i64 X, .int .i64 Y] 3 (0, 0))) rfl
    · rintro v W W' ⟨g, hv, hg⟩ hb
      exact ⟨g, hv, (hb.block g (Array.getElem?_eq_some_iff.1 hg).1).trans hg⟩
    · intro W hW _
      unfold Gives
      go_simp
      exact ⟨(Array.getElem?_eq_some_iff.1 (heap_alloc_new W _)).2, below_alloc W _⟩
    · intro v
      apply head_known [10] (.int .i64 (orI X Y)) rfl
      · intro W hW hk
        obtain ⟨g, hv, hg⟩ := hk.1 (by simp)
        subst hv
        unfold Gives
        go_simp
        have hq : Blk W g 3 #[.int .i64 X, .int .i64 Y] := hg
        exact (orInt_any g _ _ W (hq.cell rfl) (hq.cell rfl)).mono fun e W' ⟨he, hw⟩ => ⟨_, he, rfl, hw ▸ Below.refl _ _⟩
      · apply head_still rfl
        · intro W hW; go_simp; rfl
        refine head_nil ?_
        intro W hW hF
        clear hF
        go_wp2_with fail
        go_ret
        exact ⟨rfl, b1.trans (hW.mono b1.size)⟩
  case hB => kernel_rfl
  all_goals rfl

set_option maxRecDepth 100000 in
set_option maxHeartbeats 2000000 in
theorem refCompare_any (s t : ByteArray) (w : World) (hs : s.size ≤ 100000) (ht : t.size ≤ 100000) :
    Calls Try.prog 29 #[.string s, .string t] w (Ret w (.tuple #[.int .i64 (cmpR s.data.toList t.data.toList), .int .i64 (bothE s.data.toList t.data.toList)])) := by
  have R1 := Lib.hid (fun W => refBoth_any s t W (by unfold maxLen; omega) (by unfold maxLen; omega))
  have R2 := Lib.hid (fun W => refCut_any s W hs)
  have R3 := Lib.hid (fun W => refCut_any t W ht)
  unfold cmpR
  by_cases hE : bothE s.data.toList t.data.toList = 0
  case neg =>
    rw [if_neg hE]
    generalize bothE s.data.toList t.data.toList = E at *
    have hE' : (E != 0) = true := by simpa using hE
    clear hE R2 R3
    go_enter Try.func29, Try.ntmps29
    go_wp2_with fail
    refine (R1.out _).mono ?_
    rintro e W ⟨rfl, hb⟩
    go_wp2_with fail
    refine (R1.out _).mono ?_
    rintro e W2 ⟨rfl, hx⟩
    replace hb := hb.trans (hx.mono hb.size)
    clear hx
    go_wp2_with fail
    go_ret2
    exact ⟨rfl, hb⟩
  obtain ⟨k1, k2⟩ := both_ok hE
  obtain ⟨-, l1, o1⟩ := check_all k1
  obtain ⟨-, l2, o2⟩ := check_all k2
  have m1 : ∀ x ∈ cutP s.data.toList, x.length ≤ 100000 := fun x hx => Nat.le_trans (cutP_mem hx) (by rw [← Lib.size_eq]; exact hs)
  have m2 : ∀ x ∈ cutP t.data.toList, x.length ≤ 100000 := fun x hx => Nat.le_trans (cutP_mem hx) (by rw [← Lib.size_eq]; exact ht)
  rw [if_pos hE, hE]
  rw [hE] at R1
  rw [show cmpV s.data.toList t.data.toList = listCmp cmpS ((cutP s.data.toList).map readR) ((cutP t.data.toList).map readR) from rfl]
  generalize cutP s.data.toList = S at *
  generalize cutP t.data.toList = T at *
  obtain ⟨V, hV⟩ : ∃ V, listCmp cmpS (S.map readR) (T.map readR) = V := ⟨_, rfl⟩
  rw [hV]
  obtain ⟨z, hz⟩ : ∃ z, sharedN S T = z := ⟨_, rfl⟩
  have hzl := sharedN_le S T
  have hcs : ((z = S.length ∨ z = T.length) → V = if S.length < T.length then -1 else if T.length < S.length then 1 else 0) ∧ (∀ (h1 : z < S.length) (h2 : z < T.length), V = cmpS (readR S[z]) (readR T[z])) := by
    rw [← hV]; subst hz; exact cmp_shared o1 o2
  rw [hz] at hzl
  obtain ⟨n, hn⟩ : ∃ n, S.length = n := ⟨_, rfl⟩
  obtain ⟨m, hm⟩ : ∃ m, T.length = m := ⟨_, rfl⟩
  have HC := Lib.hid hcs
  have HN := Lib.hid (show _ ∧ _ ∧ _ from ⟨hn, hm, hz⟩)
  have HO := Lib.hid (show _ ∧ _ ∧ _ ∧ _ from ⟨o1, o2, m1, m2⟩)
  rw [hn] at l1
  rw [hm] at l2
  rw [hn, hm] at hzl
  clear k1 k2 o1 o2 m1 m2 hE hcs hV hz hn hm hs ht
  go_enter Try.func29, Try.ntmps29
  go_wp2_with fail
  refine (R1.out _).mono ?_
  rintro e W ⟨rfl, hb⟩
  go_wp2_with fail
  refine (R2.out _).mono ?_
  rintro e W2 ⟨v, rfl, ⟨A, ca, rfl, hca, -, hr1⟩, hx⟩
  replace hb := hb.trans (hx.mono hb.size)
  clear hx
  rw [HN.out.1] at hca ⊢
  go_wp2_with fail
  refine (R3.out _).mono ?_
  rintro e W3 ⟨v, rfl, ⟨B, cb, rfl, hcb, -, hr2⟩, hx⟩
  replace hr1 := (hr1.below hx).more hx.size
  replace hb := hb.trans (hx.mono hb.size)
  clear hx R1 R2 R3
  rw [HN.out.2.1] at hcb ⊢
  have R4 := Lib.hid (shared_any A B _ _ ca cb S T W3 HN.out.1 HN.out.2.1 (by omega) (by omega) hr1 hr2)
  rw [HN.out.2.2] at R4
  go_wp2_with fail
  refine (R4.out).mono ?_
  rintro e W4 ⟨rfl, hx⟩
  replace hr1 := (hr1.below hx).more hx.size
  replace hr2 := (hr2.below hx).more hx.size
  replace hb := hb.trans (hx.mono hb.size)
  clear hx R4
  have hsg : z = n ∨ (z ≠ n ∧ z = m) ∨ (z < n ∧ z < m) := by omega
  have hend : (z = n ∨ z = m) → V = signV (decide (n < m)) (decide (m < n)) := fun h => by
    rw [sign_nat, HC.out.1 (by rw [HN.out.1, HN.out.2.1]; exact h), HN.out.1, HN.out.2.1]
  have R5 := Lib.hid (fun W => sign_any (decide (n < m)) (decide (m < n)) W)
  rcases hsg with h1 | ⟨h1, h2⟩ | ⟨h1, h2⟩
  · have HV := Lib.hid (hend (.inl h1))
    have q1 : ((z : Int) == (n : Int)) = true := by rw [beq_iff_eq]; omega
    clear hend hr1 hr2 h1 HC HN HO hzl
    go_wp2_with fail
    refine (R5.out _).mono ?_
    rintro e W5 ⟨rfl, rfl⟩
    go_wp2_with fail
    go_ret2
    exact ⟨by rw [HV.out]; rfl, hb⟩
  · have HV := Lib.hid (hend (.inr h2))
    have q1 : ((z : Int) == (n : Int)) = false := by rw [beq_eq_false_iff_ne]; omega
    have q2 : ((z : Int) == (m : Int)) = true := by rw [beq_iff_eq]; omega
    clear hend hr1 hr2 h1 h2 HC HN HO hzl
    go_wp2_with fail
    refine (R5.out _).mono ?_
    rintro e W5 ⟨rfl, rfl⟩
    go_wp2_with fail
    go_ret2
    exact ⟨by rw [HV.out]; rfl, hb⟩
  · have q1 : ((z : Int) == (n : Int)) = false := by rw [beq_eq_false_iff_ne]; omega
    have q2 : ((z : Int) == (m : Int)) = false := by rw [beq_eq_false_iff_ne]; omega
    have g1 : z < S.length := by rw [HN.out.1]; exact h1
    have g2 : z < T.length := by rw [HN.out.2.1]; exact h2
    obtain ⟨b, off, rfl, hB, c0⟩ := str_at hr1 g1
    obtain ⟨b', off', rfl, hB', d0⟩ := str_at hr2 g2
    have hv := HC.out.2 g1 g2
    have s1 := refStep_any (str S[z]) W4 (by rw [str_size]; have := HO.out.2.2.1 _ (List.getElem_mem g1); unfold maxLen; omega)
    have s2 := fun W => refStep_any (str T[z]) W (by rw [str_size]; have := HO.out.2.2.2 _ (List.getElem_mem g2); unfold maxLen; omega)
    rw [str_list, stepV_ok (HO.out.1 _ (List.getElem_mem g1))] at s1
    simp only [str_list, stepV_ok (HO.out.2.1 _ (List.getElem_mem g2))] at s2
    generalize S[z] = x at *
    generalize T[z] = y at *
    generalize readR x = X at *
    generalize readR y = Y at *
    obtain ⟨x1, x2⟩ := X
    obtain ⟨y1, y2⟩ := Y
    have S1 := Lib.hid s1
    have S2 := Lib.hid s2
    have HV := Lib.hid hv
    clear hend hr1 hr2 HC HN HO hzl s1 s2 hv R5
    go_wp2_with fail
    refine (S1.out).mono ?_
    rintro e W5 ⟨rfl, rfl⟩
    go_wp2_with fail
    refine (S2.out _).mono ?_
    rintro e W6 ⟨rfl, rfl⟩
    by_cases hxy : x1 = y1
    · have hq : ((str x1).toList == (str y1).toList) = true := by rw [eq_strs]; exact decide_eq_true hxy
      have HW := Lib.hid (show V = signV (decide (x2 < y2)) (decide (y2 < x2)) by
        rw [HV.out, sign_int, hxy]
        unfold cmpS pairCmp
        rw [if_neg (by simpa using isCmp_bytes.self y1)])
      clear HV hxy
      go_wp2_with fail
      refine (sign_any _ _ _).mono ?_
      rintro e W7 ⟨rfl, rfl⟩
      go_wp2_with fail
      go_ret2
      exact ⟨by rw [HW.out]; rfl, hb⟩
    · have hq : ((str x1).toList == (str y1).toList) = false := by rw [eq_strs]; exact decide_eq_false hxy
      have hl : Op.bytesLess (str x1).toList (str y1).toList = Op.bytesLess x1 y1 := by rw [Lib.toList_data, Lib.toList_data]; rfl
      have hg : ∀ ty, binOp .gtr ty (.string (str x1)) (.string (str y1)) = pure (.bool (!Op.bytesLess x1 y1)) := fun ty => by
        rw [show binOp .gtr ty (.string (str x1)) (.string (str y1)) = Op.stringOp .gtr (str x1) (str y1) by simp [binOp]]
        unfold Op.stringOp
        simp only [hq, hl, Bool.or_false]
      have HW := Lib.hid (show V = signV (Op.bytesLess x1 y1) (!Op.bytesLess x1 y1) by
        have hne : Lib.compareBytes x1 y1 ≠ 0 := fun e => hxy ((isCmp_bytes.zero _ _).1 e)
        have hrg := isCmp_bytes.rng x1 y1
        have hls := less_cmp x1 y1
        rw [HV.out]
        unfold cmpS pairCmp signV
        rw [if_pos hne]
        cases hb1 : Op.bytesLess x1 y1
        · have : Lib.compareBytes x1 y1 ≠ -1 := fun e => by rw [hls.2 e] at hb1; cases hb1
          simp only [Bool.false_eq_true, if_false, Bool.not_false, if_true]
          omega
        · simp only [if_true]
          exact hls.1 hb1)
      clear HV hxy
      go_wp2_with fail
      refine (sign_any _ _ _).mono ?_
      rintro e W7 ⟨rfl, rfl⟩
      go_wp2_with fail
      go_ret2
      exact ⟨by rw [HW.out]; rfl, hb⟩
end Go.Proofs.Ytkjgcippcbfmgaa
