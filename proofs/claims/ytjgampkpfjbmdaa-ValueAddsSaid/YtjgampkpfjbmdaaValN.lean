/- Add of the reference. -/
import Derived.Test.YtjgampkpfjbmdaaValM
import Derived.Test.YtjgampkpfjbmdaaRatH
namespace Go.Rel
open Go.RowKit
theorem fitT_more : ∀ (d : Nat) (T : Tree), fitT T d = true → fitT T (d + 1) = true
  | 0, T, h => by rw [fitT_zero] at h; cases h
  | d + 1, .node k q t s kids, h => by
    obtain ⟨e, he, h1, h2, hk⟩ := fitT_parts h
    obtain rfl : d = e := by omega
    have key : ∀ l : List Tree, (∀ x ∈ l, fitT x d = true) → fitL l (d + 1) = true := by
      intro l
      induction l with
      | nil => intro _; rfl
      | cons x r ih =>
        intro hx
        simp only [fitL, Bool.and_eq_true]
        exact ⟨fitT_more d x (hx x (by simp)), ih (fun y hy => hx y (by simp [hy]))⟩
    rw [fitT_succ, decide_eq_true h1, decide_eq_true h2, key kids hk]; rfl
theorem ok_list : Val.Ok ⟨4, ⟨0, 0⟩, false, ⟨#[]⟩, none, 0, 0⟩ := ⟨by simp, by simp, by simp, by simp, by simp, by simp, (show (0 : Nat) ≤ 9223372036854775807 by omega), by simp, by simp, fun _ => rfl⟩
theorem str_zero {s : ByteArray} (h : s.size = 0) : s = ⟨#[]⟩ := by
  cases s with
  | mk a => rw [show a = #[] from Array.eq_empty_of_size_eq_zero h]
/-- A value's list. -/
def sliceOf : Value → Value
  | .agg cs => cs.getD 5 undef
  | _ => undef
/-- The value is a copy that has been made in blocks from c on. -/
def TwnV (c : Nat) (e : TypeId) (T : Tree) (v : Value) (W : World) : Prop := ∃ x : Val, v = x.v ∧ Twn W c e T x
theorem TwnV.below {c : Nat} {e : TypeId} {T : Tree} {v : Value} {W W' : World} (h : TwnV c e T v W) (hb : Below W.heap.size W W') : TwnV c e T v W' := by
  obtain ⟨x, h1, h2⟩ := h
  exact ⟨x, h1, h2.below hb⟩
theorem low_sum {k k' : Int} {q q' : Rat2} {t t' : Bool} {s s' s'' : ByteArray} {q'' : Rat2} {t'' : Bool} {ka kb : List Tree} (h : fitT (.node k q t s ka) 10 = true) (h' : fitT (.node k' q' t' s' kb) 10 = true) : Low 11 (.node 4 q'' t'' s'' (ka ++ kb)) := by
  obtain ⟨e, he, -, h1, h2⟩ := fitT_parts h
  obtain ⟨e', he', -, h1', h2'⟩ := fitT_parts h'
  obtain rfl : 9 = e := by omega
  obtain rfl : 9 = e' := by omega
  refine ⟨?_, fun x hx => ?_⟩
  · simp only [Tree.kids, List.length_append]; omega
  · simp only [Tree.kids, List.mem_append] at hx
    exact fit_low 10 x (fitT_more 9 x (hx.elim (h2 x) (h2' x)))
end Go.Rel
namespace Go.Proofs.Ytjgampkpfjbmdaa
open Go.RowKit Go.Rel
theorem ok_num {r : Rat2} (h : Rat64 r) : Val.Ok ⟨1, r, false, ⟨#[]⟩, none, 0, 0⟩ := ⟨by simp, by simp, h.1, h.2.1, h.2.2.1, h.2.2.2, (show (0 : Nat) ≤ 9223372036854775807 by omega), by simp, by simp, fun _ => rfl⟩

attribute [local irreducible] Go.Rel.Gives in
set_option maxRecDepth 100000 in
set_option maxHeartbeats 8000000 in
theorem refAddV_any (T U : Tree) (x y : Val) (w : World) (hf : fitT T 10 = true) (hf' : fitT U 10 = true) (hr : RdB w w.heap.size T x) (hr' : RdB w w.heap.size U y) :
    Calls Try.prog 18 #[x.v, y.v] w (RetVE 26 w (addT T U) (addE T U)) := by
  obtain ⟨ka, ys, rfl, ok, hy1, hl, -, -⟩ := id hr.open_
  obtain ⟨kb, zs, rfl, ok', hy1', hl', -, -⟩ := id hr'.open_
  obtain ⟨-, -, hs2, h150, -⟩ := fitT_parts hf
  obtain ⟨-, -, hs2', h150', -⟩ := fitT_parts hf'
  obtain ⟨k, q, t, s, A, len, cap⟩ := x
  obtain ⟨k', q', t', s', A', len', cap'⟩ := y
  have HOK := Lib.hid (show _ ∧ _ from ⟨ok, ok'⟩)
  obtain ⟨hk0, hk1, n0, n1, e0, e1, -, -, hc, -⟩ := ok
  obtain ⟨hk0', hk1', n0', n1', e0', e1', -, -, hc', -⟩ := ok'
  dsimp only at hk0 hk1 hl hs2 h150 hc hk0' hk1' hl' hs2' h150' hc' n0 n1 e0 e1 n0' n1' e0' e1'
  rw [hl] at h150
  rw [hl'] at h150'
  have HL := Lib.hid (show _ ∧ _ from ⟨hl, hl'⟩)
  have HR := Lib.hid (show _ ∧ _ ∧ _ ∧ _ from ⟨hf, hf', hr, hr'⟩)
  have HB := Lib.hid (three_vars w 26 (Val.box ⟨k, q, t, s, A, len, cap⟩) (Val.box ⟨k', q', t', s', A', len', cap'⟩) (Val.box noneV))
  have R1 := Lib.hid (fun W h h' => refBothV_any (.node k q t s ka) (.node k' q' t' s' kb) ⟨k, q, t, s, A, len, cap⟩ ⟨k', q', t', s', A', len', cap'⟩ W hf hf' h h')
  have B1 := Lib.hid (@add_bad (.node k q t s ka) (.node k' q' t' s' kb))
  have B2 := Lib.hid (@add_kind (.node k q t s ka) (.node k' q' t' s' kb))
  have HF := Lib.hid (show ∀ (x : Val) (w' : World) (E : Int) (T' : Tree), Fresh w' w.heap.size 26 T' x → Below w.heap.size w w' → (addT (.node k q t s ka) (.node k' q' t' s' kb) = T' ∧ addE (.node k q t s ka) (.node k' q' t' s' kb) = E) → RetVE 26 w (addT (.node k q t s ka) (.node k' q' t' s' kb)) (addE (.node k q t s ka) (.node k' q' t' s' kb)) (.returned (.tuple #[x.v, .int .i64 E])) w' from fun x w' E T' h1 h2 h3 => ⟨x, by rw [h3.2], by rw [h3.1]; exact h1, h2⟩)
  obtain ⟨V, hV⟩ : ∃ V, bothV (.node k q t s ka) (.node k' q' t' s' kb) = V := ⟨_, rfl⟩
  rw [hV] at R1 B1 B2
  have HVV := Lib.hid hV
  clear hf hf' hr hr' hy1 hy1' hl hl' hV
  go_enter Try.func18, Try.ntmps18
  obtain ⟨hb, -, hx, hy, hres⟩ := HB.out
  obtain ⟨c0, c1, c2, c3, c4, c5⟩ := hx.val
  obtain ⟨d0, d1, d2, d3, d4, d5⟩ := hy.val
  go_wp2_with fail
  refine (R1.out _ (HR.out.2.2.1.in_ hb hb.size) (HR.out.2.2.2.in_ hb hb.size)).mono ?_
  rintro e w1 ⟨rfl, hb1⟩
  have hw1 : w.heap.size + 1 + 1 < w1.heap.size := by have := hb1.size; simp at this; omega
  replace hx := hx.keep hb1
  replace hy := hy.keep hb1
  replace hres := hres.keep hb1
  replace hb := hb.trans (hb1.mono hb.size)
  clear c0 c1 c2 c3 c4 c5 d0 d1 d2 d3 d4 d5
  clear hb1 HB
  by_cases hVV : V = 0
  case neg =>
    have HV := Lib.hid (B1.out hVV)
    have q1 : (V != 0) = true := by simpa using hVV
    clear hVV
    obtain ⟨c0, c1, c2, c3, c4, c5⟩ := hx.val
    obtain ⟨d0, d1, d2, d3, d4, d5⟩ := hy.val
    go_wp2_with fail
    refine (R1.out _ (HR.out.2.2.1.in_ hb hb.size) (HR.out.2.2.2.in_ hb hb.size)).mono ?_
    rintro e w2 ⟨rfl, hb1⟩
    replace hx := hx.keep hb1
    replace hy := hy.keep hb1
    replace hres := hres.keep hb1
    replace hb := hb.trans (hb1.mono hb.size)
    clear c0 c1 c2 c3 c4 c5 d0 d1 d2 d3 d4 d5
    clear hb1
    obtain ⟨r0, r1, r2, r3, r4, r5⟩ := hres.val
    have rf := hres.frozen
    have rl := hres.lt
    have n1 := hres.set6 (.int .u8 0) (.int .i64 0) (.int .i64 0) (.bool false) (.string ⟨#[]⟩) (.slice none 0 0)
    have n2 := below_set6 hb (show w.heap.size ≤ w.heap.size + 1 + 1 by omega) (.int .u8 0) (.int .i64 0) (.int .i64 0) (.bool false) (.string ⟨#[]⟩) (.slice none 0 0)
    have n3 := fun W => fresh_leaf W w.heap.size 26 ok_none
    obtain ⟨k0, k1, k2, k3, k4, k5⟩ := Blk.val (x := ⟨0, ⟨0, 0⟩, false, ⟨#[]⟩, none, 0, 0⟩) n1
    have HN := Lib.hid (show _ ∧ _ from ⟨n2, n3⟩)
    have HKS := Lib.hid (show _ ∧ _ ∧ _ ∧ _ ∧ _ ∧ _ from ⟨k0, k1, k2, k3, k4, k5⟩)
    clear n1 n2 n3 hres k0 k1 k2 k3 k4 k5
    go_wp2_with fail
    obtain ⟨k0, k1, k2, k3, k4, k5⟩ := HKS.out
    exact bodyPost_ret (v := .tuple #[Val.v ⟨0, ⟨0, 0⟩, false, ⟨#[]⟩, none, 0, 0⟩, .int .i64 V]) (by simp [results, Try.results18, go_sem, k0, k1, k2, k3, k4, k5]) rfl (HF.out ⟨0, ⟨0, 0⟩, false, ⟨#[]⟩, none, 0, 0⟩ _ V _ (HN.out.2 _) HN.out.1 HV.out)
  subst hVV
  have HVA := Lib.hid (bothV_ok HVV.out)
  have hva := valid_parts HR.out.1 HVA.out.1
  have hvb := valid_parts HR.out.2.1 HVA.out.2
  have HP := Lib.hid (show _ ∧ _ from ⟨hva, hvb⟩)
  have hca := fine_cases hva.2.2
  have hcb := fine_cases hvb.2.2
  clear hva hvb
  by_cases hkk : k ≠ k' ∨ k = 2
  case pos =>
    have HV := Lib.hid (B2.out rfl hkk)
    have hcase : ((k : Int) != k') = true ∨ (((k : Int) != k') = false ∧ ((k : Int) == 2) = true) := by
      by_cases h : k = k'
      · exact .inr ⟨by simpa using h, by simp; omega⟩
      · exact .inl (by simpa using h)
    clear hkk hca hcb
    obtain ⟨c0, c1, c2, c3, c4, c5⟩ := hx.val
    obtain ⟨d0, d1, d2, d3, d4, d5⟩ := hy.val
    rcases hcase with q1 | ⟨q1, q2⟩
    · obtain ⟨r0, r1, r2, r3, r4, r5⟩ := hres.val
      have rf := hres.frozen
      have rl := hres.lt
      have n1 := hres.set6 (.int .u8 0) (.int .i64 0) (.int .i64 0) (.bool false) (.string ⟨#[]⟩) (.slice none 0 0)
      have n2 := below_set6 hb (show w.heap.size ≤ w.heap.size + 1 + 1 by omega) (.int .u8 0) (.int .i64 0) (.int .i64 0) (.bool false) (.string ⟨#[]⟩) (.slice none 0 0)
      have n3 := fun W => fresh_leaf W w.heap.size 26 ok_none
      obtain ⟨k0, k1, k2, k3, k4, k5⟩ := Blk.val (x := ⟨0, ⟨0, 0⟩, false, ⟨#[]⟩, none, 0, 0⟩) n1
      have HN := Lib.hid (show _ ∧ _ from ⟨n2, n3⟩)
      have HKS := Lib.hid (show _ ∧ _ ∧ _ ∧ _ ∧ _ ∧ _ from ⟨k0, k1, k2, k3, k4, k5⟩)
      clear n1 n2 n3 hres k0 k1 k2 k3 k4 k5
      go_wp2_with fail
      obtain ⟨k0, k1, k2, k3, k4, k5⟩ := HKS.out
      exact bodyPost_ret (v := .tuple #[Val.v ⟨0, ⟨0, 0⟩, false, ⟨#[]⟩, none, 0, 0⟩, .int .i64 20]) (by simp [results, Try.results18, go_sem, k0, k1, k2, k3, k4, k5]) rfl (HF.out ⟨0, ⟨0, 0⟩, false, ⟨#[]⟩, none, 0, 0⟩ _ 20 _ (HN.out.2 _) HN.out.1 HV.out)
    · obtain ⟨r0, r1, r2, r3, r4, r5⟩ := hres.val
      have rf := hres.frozen
      have rl := hres.lt
      have n1 := hres.set6 (.int .u8 0) (.int .i64 0) (.int .i64 0) (.bool false) (.string ⟨#[]⟩) (.slice none 0 0)
      have n2 := below_set6 hb (show w.heap.size ≤ w.heap.size + 1 + 1 by omega) (.int .u8 0) (.int .i64 0) (.int .i64 0) (.bool false) (.string ⟨#[]⟩) (.slice none 0 0)
      have n3 := fun W => fresh_leaf W w.heap.size 26 ok_none
      obtain ⟨k0, k1, k2, k3, k4, k5⟩ := Blk.val (x := ⟨0, ⟨0, 0⟩, false, ⟨#[]⟩, none, 0, 0⟩) n1
      have HN := Lib.hid (show _ ∧ _ from ⟨n2, n3⟩)
      have HKS := Lib.hid (show _ ∧ _ ∧ _ ∧ _ ∧ _ ∧ _ from ⟨k0, k1, k2, k3, k4, k5⟩)
      clear n1 n2 n3 hres k0 k1 k2 k3 k4 k5
      go_wp2_with fail
      obtain ⟨k0, k1, k2, k3, k4, k5⟩ := HKS.out
      exact bodyPost_ret (v := .tuple #[Val.v ⟨0, ⟨0, 0⟩, false, ⟨#[]⟩, none, 0, 0⟩, .int .i64 20]) (by simp [results, Try.results18, go_sem, k0, k1, k2, k3, k4, k5]) rfl (HF.out ⟨0, ⟨0, 0⟩, false, ⟨#[]⟩, none, 0, 0⟩ _ 20 _ (HN.out.2 _) HN.out.1 HV.out)
  obtain rfl : k = k' := by omega
  have hk2 : k ≠ 2 := by omega
  clear hkk B1 B2 R1
  rcases hca with ⟨rfl, hq, rfl, hs0, rfl⟩ | ⟨h, -⟩ | ⟨rfl, rfl, rfl, rfl, hos⟩ | ⟨rfl, rfl, rfl, hs0, hfl⟩
  · have HA := Lib.hid (add_num (q := q) (q' := q') (t := false) (t' := t') (s := s) (s' := s') (ka := []) (kb := kb) HVV.out)
    have RA := Lib.hid (fun W => refAdd_any q q' W ⟨n0, n1, e0, e1⟩ ⟨n0', n1', e0', e1'⟩)
    obtain ⟨E, hE⟩ : ∃ E, opAddE q q' = E := ⟨_, rfl⟩
    obtain ⟨r, hr⟩ : ∃ r, opAddR q q' = r := ⟨_, rfl⟩
    have hr64 : Rat64 r := by rw [← hr]; exact runV_64 _ _ _ _
    rw [hE, hr] at HA RA
    clear hE hr hcb hs0
    obtain ⟨c0, c1, c2, c3, c4, c5⟩ := hx.val
    obtain ⟨d0, d1, d2, d3, d4, d5⟩ := hy.val
    go_wp2_with fail
    refine (RA.out _).mono ?_
    rintro e w2 ⟨rfl, hb1⟩
    have hw2 : w.heap.size + 1 + 1 < w2.heap.size := by have := hb1.size; omega
    replace hx := hx.keep hb1
    replace hy := hy.keep hb1
    replace hres := hres.keep hb1
    replace hb := hb.trans (hb1.mono hb.size)
    clear c0 c1 c2 c3 c4 c5 d0 d1 d2 d3 d4 d5
    clear hb1 RA
    have hba := below_alloc w2 (.cells #[.int .i64 r.n, .int .i64 r.d] 23)
    by_cases hE : E = 0
    case neg =>
      have HV := Lib.hid (HA.out.1 hE)
      have q1 : (E != 0) = true := by simpa using hE
      clear hE hba HA
      obtain ⟨r0, r1, r2, r3, r4, r5⟩ := hres.val
      have rf := hres.frozen
      have rl := hres.lt
      have n1 := (hres.set6 (.int .u8 0) (.int .i64 0) (.int .i64 0) (.bool false) (.string ⟨#[]⟩) (.slice none 0 0)).alloc (.cells #[.int .i64 r.n, .int .i64 r.d] 23)
      have n2 := (below_set6 hb (show w.heap.size ≤ w.heap.size + 1 + 1 by omega) (.int .u8 0) (.int .i64 0) (.int .i64 0) (.bool false) (.string ⟨#[]⟩) (.slice none 0 0)).alloc (by simp; exact hb.size) (.cells #[.int .i64 r.n, .int .i64 r.d] 23)
      have n3 := fun W => fresh_leaf W w.heap.size 26 ok_none
      obtain ⟨k0, k1, k2, k3, k4, k5⟩ := Blk.val (x := ⟨0, ⟨0, 0⟩, false, ⟨#[]⟩, none, 0, 0⟩) n1
      have HN := Lib.hid (show _ ∧ _ from ⟨n2, n3⟩)
      have HKS := Lib.hid (show _ ∧ _ ∧ _ ∧ _ ∧ _ ∧ _ from ⟨k0, k1, k2, k3, k4, k5⟩)
      clear n1 n2 n3 hres k0 k1 k2 k3 k4 k5
      go_wp2_with fail
      obtain ⟨k0, k1, k2, k3, k4, k5⟩ := HKS.out
      exact bodyPost_ret (v := .tuple #[Val.v ⟨0, ⟨0, 0⟩, false, ⟨#[]⟩, none, 0, 0⟩, .int .i64 E]) (by simp [results, Try.results18, go_sem, k0, k1, k2, k3, k4, k5]) rfl (HF.out ⟨0, ⟨0, 0⟩, false, ⟨#[]⟩, none, 0, 0⟩ _ E _ (HN.out.2 _) HN.out.1 HV.out)
    subst hE
    have HV := Lib.hid (HA.out.2 rfl)
    replace hx := hx.keep hba
    replace hy := hy.keep hba
    replace hres := hres.keep hba
    replace hb := hb.trans (hba.mono hb.size)
    have hnew := Blk.new w2 23 #[.int .i64 r.n, .int .i64 r.d]
    have HM := Lib.hid (show _ ∧ _ ∧ _ from ⟨hb, hres, hnew⟩)
    clear hb hres hx hy hnew hba HA
    go_wp2_with fail
    refine (of_any r _).mono ?_
    rintro e w3 ⟨rfl, hb1⟩
    obtain ⟨hb, hres, -⟩ := HM.out
    replace hres := hres.keep hb1
    replace hb := hb.trans (hb1.mono hb.size)
    clear hb1 HM
    obtain ⟨r0, r1, r2, r3, r4, r5⟩ := hres.val
    have rf := hres.frozen
    have rl := hres.lt
    have n1 := hres.set6 (.int .u8 1) (.int .i64 r.n) (.int .i64 r.d) (.bool false) (.string ⟨#[]⟩) (.slice none 0 0)
    have n2 := below_set6 hb (show w.heap.size ≤ w.heap.size + 1 + 1 by omega) (.int .u8 1) (.int .i64 r.n) (.int .i64 r.d) (.bool false) (.string ⟨#[]⟩) (.slice none 0 0)
    have n3 := fun W => fresh_leaf W w.heap.size 26 (ok_num hr64)
    obtain ⟨k0, k1, k2, k3, k4, k5⟩ := Blk.val (x := ⟨1, r, false, ⟨#[]⟩, none, 0, 0⟩) n1
    have HN := Lib.hid (show _ ∧ _ from ⟨n2, n3⟩)
    have HKS := Lib.hid (show _ ∧ _ ∧ _ ∧ _ ∧ _ ∧ _ from ⟨k0, k1, k2, k3, k4, k5⟩)
    clear n1 n2 n3 hres k0 k1 k2 k3 k4 k5
    go_wp2_with fail
    obtain ⟨k0, k1, k2, k3, k4, k5⟩ := HKS.out
    exact bodyPost_ret (v := .tuple #[Val.v ⟨1, r, false, ⟨#[]⟩, none, 0, 0⟩, .int .i64 0]) (by simp [results, Try.results18, go_sem, k0, k1, k2, k3, k4, k5]) rfl (HF.out ⟨1, r, false, ⟨#[]⟩, none, 0, 0⟩ _ 0 _ (HN.out.2 _) HN.out.1 HV.out)
  · omega
  · have HA := Lib.hid (add_str (q := ⟨0, 0⟩) (q' := q') (t := false) (t' := t') (s := s) (s' := s') (ka := []) (kb := kb) HVV.out)
    clear hcb hos
    by_cases hbig : 60 < s.size + s'.size
    case pos =>
      have HV := Lib.hid (HA.out.1 hbig)
      have q1 : decide ((60 : Int) < (s.size : Int) + (s'.size : Int)) = true := by simp; omega
      clear hbig HA
      obtain ⟨c0, c1, c2, c3, c4, c5⟩ := hx.val
      obtain ⟨d0, d1, d2, d3, d4, d5⟩ := hy.val
      obtain ⟨r0, r1, r2, r3, r4, r5⟩ := hres.val
      have rf := hres.frozen
      have rl := hres.lt
      have n1 := hres.set6 (.int .u8 0) (.int .i64 0) (.int .i64 0) (.bool false) (.string ⟨#[]⟩) (.slice none 0 0)
      have n2 := below_set6 hb (show w.heap.size ≤ w.heap.size + 1 + 1 by omega) (.int .u8 0) (.int .i64 0) (.int .i64 0) (.bool false) (.string ⟨#[]⟩) (.slice none 0 0)
      have n3 := fun W => fresh_leaf W w.heap.size 26 ok_none
      obtain ⟨k0, k1, k2, k3, k4, k5⟩ := Blk.val (x := ⟨0, ⟨0, 0⟩, false, ⟨#[]⟩, none, 0, 0⟩) n1
      have HN := Lib.hid (show _ ∧ _ from ⟨n2, n3⟩)
      have HKS := Lib.hid (show _ ∧ _ ∧ _ ∧ _ ∧ _ ∧ _ from ⟨k0, k1, k2, k3, k4, k5⟩)
      clear n1 n2 n3 hres k0 k1 k2 k3 k4 k5
      go_wp2_with fail
      obtain ⟨k0, k1, k2, k3, k4, k5⟩ := HKS.out
      exact bodyPost_ret (v := .tuple #[Val.v ⟨0, ⟨0, 0⟩, false, ⟨#[]⟩, none, 0, 0⟩, .int .i64 4]) (by simp [results, Try.results18, go_sem, k0, k1, k2, k3, k4, k5]) rfl (HF.out ⟨0, ⟨0, 0⟩, false, ⟨#[]⟩, none, 0, 0⟩ _ 4 _ (HN.out.2 _) HN.out.1 HV.out)
    have HV := Lib.hid (HA.out.2 hbig)
    have q1 : decide ((60 : Int) < (s.size : Int) + (s'.size : Int)) = false := by simp; omega
    have hss : (s ++ s').size ≤ 9223372036854775807 := by rw [ByteArray.size_append]; omega
    have HSS := Lib.hid hss
    clear hbig HA hss
    obtain ⟨c0, c1, c2, c3, c4, c5⟩ := hx.val
    obtain ⟨d0, d1, d2, d3, d4, d5⟩ := hy.val
    go_wp2_with fail
    refine (refStr_any (s ++ s') _).mono ?_
    rintro e w2 ⟨rfl, hb1⟩
    replace hx := hx.keep hb1
    replace hy := hy.keep hb1
    replace hres := hres.keep hb1
    replace hb := hb.trans (hb1.mono hb.size)
    clear c0 c1 c2 c3 c4 c5 d0 d1 d2 d3 d4 d5
    clear hb1
    obtain ⟨r0, r1, r2, r3, r4, r5⟩ := hres.val
    have rf := hres.frozen
    have rl := hres.lt
    have n1 := hres.set6 (.int .u8 3) (.int .i64 0) (.int .i64 0) (.bool false) (.string (s ++ s')) (.slice none 0 0)
    have n2 := below_set6 hb (show w.heap.size ≤ w.heap.size + 1 + 1 by omega) (.int .u8 3) (.int .i64 0) (.int .i64 0) (.bool false) (.string (s ++ s')) (.slice none 0 0)
    have n3 := fun W => fresh_leaf W w.heap.size 26 (ok_str HSS.out)
    obtain ⟨k0, k1, k2, k3, k4, k5⟩ := Blk.val (x := ⟨3, ⟨0, 0⟩, false, s ++ s', none, 0, 0⟩) n1
    have HN := Lib.hid (show _ ∧ _ from ⟨n2, n3⟩)
    have HKS := Lib.hid (show _ ∧ _ ∧ _ ∧ _ ∧ _ ∧ _ from ⟨k0, k1, k2, k3, k4, k5⟩)
    clear n1 n2 n3 hres k0 k1 k2 k3 k4 k5
    go_wp2_with fail
    obtain ⟨k0, k1, k2, k3, k4, k5⟩ := HKS.out
    exact bodyPost_ret (v := .tuple #[Val.v ⟨3, ⟨0, 0⟩, false, s ++ s', none, 0, 0⟩, .int .i64 0]) (by simp [results, Try.results18, go_sem, k0, k1, k2, k3, k4, k5]) rfl (HF.out ⟨3, ⟨0, 0⟩, false, s ++ s', none, 0, 0⟩ _ 0 _ (HN.out.2 _) HN.out.1 HV.out)
  · have HA := Lib.hid (add_list (q := ⟨0, 0⟩) (q' := q') (t := false) (t' := t') (s := s) (s' := s') (ka := ka) (kb := kb) HVV.out)
    obtain rfl : s = ⟨#[]⟩ := str_zero hs0
    have HRT := Lib.hid (fun W h => refTwin_any 10 (.node 4 ⟨0, 0⟩ false ⟨#[]⟩ ka) ⟨4, ⟨0, 0⟩, false, ⟨#[]⟩, A, len, cap⟩ W HR.out.1 h)
    have HRU := Lib.hid (fun W h => refTwin_any 10 (.node 4 q' t' s' kb) ⟨4, q', t', s', A', len', cap'⟩ W HR.out.2.1 h)
    have hlow : Low 11 (.node 4 ⟨0, 0⟩ false ⟨#[]⟩ (ka ++ kb)) := low_sum HR.out.1 HR.out.2.1
    have hpp : w64 (partsT (.node 4 ⟨0, 0⟩ false ⟨#[]⟩ (ka ++ kb))) = ((1 + partsL (ka ++ kb) : Nat) : Int) := by
      have h1 := HP.out.1.1
      have h2 := HP.out.2.1
      unfold partsT at h1 h2 ⊢
      rw [if_pos rfl] at h1 h2 ⊢
      rw [partsL_append]
      exact w64_small (by omega)
    have HPP := Lib.hid (show _ ∧ _ from ⟨hlow, hpp⟩)
    clear hcb hfl hs0 hlow hpp
    obtain ⟨c0, c1, c2, c3, c4, c5⟩ := hx.val
    obtain ⟨d0, d1, d2, d3, d4, d5⟩ := hy.val
    go_wp2_with fail
    refine (HRT.out _ (HR.out.2.2.1.in_ hb hb.size)).mono ?_
    rintro e w2 ⟨xa, rfl, hta, hb1⟩
    have hw2 : w.heap.size + 1 + 1 < w2.heap.size := by have := hb1.size; omega
    replace hx := hx.keep hb1
    replace hy := hy.keep hb1
    replace hres := hres.keep hb1
    replace hb := hb.trans (hb1.mono hb.size)
    clear c0 c1 c2 c3 c4 c5 d0 d1 d2 d3 d4 d5
    have hbas : w.heap.size + 1 + 1 < w1.heap.size := hw1
    obtain ⟨k3, q3, t3, s3, A3, m3, cap3⟩ := xa
    obtain ⟨ka3, hT3, ok3, hm3, htw3⟩ := hta
    injection hT3 with j1 j2 j3 j4 j5
    dsimp only at j1 j2 j3 j4 hm3 htw3
    subst j1 j2 j3 j4 j5
    obtain rfl : m3 = len := by rw [← hm3, HL.out.1]
    have hba := below_alloc w2 (.cells (Val.box ⟨4, ⟨0, 0⟩, false, ⟨#[]⟩, A3, m3, cap3⟩) 26)
    have hout := Blk.new w2 26 (Val.box ⟨4, ⟨0, 0⟩, false, ⟨#[]⟩, A3, m3, cap3⟩)
    have hsep := htw3.lt
    have hs12 := hb1.size
    replace htw3 := (htw3.q (Q := fun b => w1.heap.size ≤ b ∧ b ≠ w2.heap.size) (fun b h1 h2 => ⟨h1, by omega⟩)).below hba
    replace hx := hx.keep hba
    replace hy := hy.keep hba
    replace hres := hres.keep hba
    replace hb := hb.trans (hba.mono hb.size)
    have hgo : w2.heap.size < (w2.alloc (.cells (Val.box ⟨4, ⟨0, 0⟩, false, ⟨#[]⟩, A3, m3, cap3⟩) 26)).heap.size := by simp
    have HM := Lib.hid (show _ ∧ _ ∧ _ ∧ _ ∧ _ ∧ _ from ⟨hb, hx, hy, hres, hout, htw3⟩)
    have HSEP := Lib.hid hsep
    clear hb hx hy hres hout htw3 hba hb1 hsep
    go_wp2_with fail
    generalize World.alloc _ _ = w4 at HM hgo ⊢
    obtain ⟨hb, hx, hy, hres, hout, htw3⟩ := HM.out
    have cy0 : ∀ W, Below w4.heap.size w4 W → W.cell? ⟨w.heap.size + 1, 0, none⟩ = some (.int .u8 4) := fun W hW => (hy.keep hW).cell rfl
    have cy1 : ∀ W, Below w4.heap.size w4 W → W.cell? ⟨w.heap.size + 1, 1, none⟩ = some (.int .i64 q'.n) := fun W hW => (hy.keep hW).cell rfl
    have cy2 : ∀ W, Below w4.heap.size w4 W → W.cell? ⟨w.heap.size + 1, 2, none⟩ = some (.int .i64 q'.d) := fun W hW => (hy.keep hW).cell rfl
    have cy3 : ∀ W, Below w4.heap.size w4 W → W.cell? ⟨w.heap.size + 1, 3, none⟩ = some (.bool t') := fun W hW => (hy.keep hW).cell rfl
    have cy4 : ∀ W, Below w4.heap.size w4 W → W.cell? ⟨w.heap.size + 1, 4, none⟩ = some (.string s') := fun W hW => (hy.keep hW).cell rfl
    have cy5 : ∀ W, Below w4.heap.size w4 W → W.cell? ⟨w.heap.size + 1, 5, none⟩ = some (.slice A' len' cap') := fun W hW => (hy.keep hW).cell rfl
    have co5 : ∀ W, Below w4.heap.size w4 W → W.cell? ⟨w2.heap.size, 5, none⟩ = some (.slice A3 m3 cap3) := fun W hW => (hout.keep hW).cell rfl
    have HRU2 := Lib.hid (fun W (hW : Below w4.heap.size w4 W) => HRU.out W (HR.out.2.2.2.in_ (hb.trans (hW.mono hb.size)) (Nat.le_trans hb.size hW.size)))
    apply wp_region_head 5 77 (hm := by kernel_rfl) (hN := rfl)
    case h =>
      simp only [List.take_succ_cons, List.take_zero]
      iterate 3 ((apply head_still rfl; (intro W hW; go_simp; (try rfl))); simp only [Act.put, List.setIfInBounds_toArray, List.set_cons_succ, List.set_cons_zero])
      apply head_mem [] (TwnV w4.heap.size 26 (.node 4 q' t' s' kb)) (by kernel_rfl) (fun _ _ _ h hb => h.below hb)
      · intro W hW _
        unfold Gives
        go_simp
        exact (HRU2.out W hW).mono fun e W' ⟨x', h1, h2, h3⟩ => ⟨_, h1, ⟨x', rfl, h2.keep hW.size (fun _ _ _ => rfl)⟩, h3⟩
      intro vb
      simp only [Act.put, List.setIfInBounds_toArray, List.set_cons_succ, List.set_cons_zero]
      apply head_memU [3] (fun e v _ => v = sliceOf (e 3)) (by kernel_rfl) (fun _ _ _ _ h _ => h)
      · intro W hW hk
        obtain ⟨x', rfl, -⟩ := hk.1 (by simp)
        unfold Gives
        go_simp
        exact ⟨rfl, Below.refl _ _⟩
      intro vl
      refine head_nil ?_
      intro W hW hF
      obtain ⟨hvl, ⟨xb, rfl, htb⟩, -⟩ := hF
      obtain rfl : vl = Value.slice xb.A xb.len xb.cap := hvl
      clear cy0 cy1 cy2 cy3 cy4 cy5 co5
      obtain ⟨k6, q6, t6, s6, A6, m6, cap6⟩ := xb
      obtain ⟨kb6, hT6, ok6, hm6, htw6⟩ := htb
      injection hT6 with j1 j2 j3 j4 j5
      dsimp only at j1 j2 j3 j4 hm6 htw6
      subst j1 j2 j3 j4 j5
      obtain rfl : m6 = len' := by rw [← hm6, HL.out.2]
      replace htw3 := htw3.below hW
      replace hx := hx.keep hW
      replace hy := hy.keep hW
      replace hres := hres.keep hW
      replace hb := hb.trans (hW.mono hb.size)
      replace hout := hout.keep hW
      obtain ⟨i0, hi0, hz0, hz1, hz2⟩ := info_parts Try.infoVal
      have hsW := hW.size
      simp only [List.drop_succ_cons, List.drop_zero, Act.put, List.setIfInBounds_toArray, List.set_cons_succ, List.set_cons_zero]
      refine wpList_append_tw rfl _ _ 24 rfl w1.heap.size w4.heap.size (fun b => w1.heap.size ≤ b ∧ b ≠ w2.heap.size) 26 i0 noneV.v 72 Try.underlying24 hi0 hz0 hz1 hz2 rfl (.slice A3 m3 cap3) (.slice A6 m6 cap6) m3 m6 ka kb rfl rfl hm3 htw3 htw6 (fun b h => Nat.lt_trans (HSEP.out b h).2 hgo) (fun b h1 h2 => ⟨by omega, by omega⟩) (by omega) (by unfold maxLen; omega) (by omega) (by omega) ?_
      intro v' w7 htw7 hgrow
      have far : ∀ k, k < w1.heap.size → w7.heap[k]? = W.heap[k]? := fun k hk => hgrow.block k (by omega) (fun h => by have := (HSEP.out k h.symm).1; omega)
      have hout7 : Blk w7 _ _ _ := (hgrow.block w2.heap.size (by omega) (fun h => by have := (HSEP.out _ h.symm).2; omega)).trans hout
      have hb7 := hb.grown hgrow (by omega) (fun r hr => by have := (HSEP.out r hr).1; omega)
      have hy7 : Blk w7 _ _ _ := (far _ (by omega)).trans hy
      have hres7 : Blk w7 _ _ _ := (far _ (by omega)).trans hres
      have hsz7 := hgrow.size
      have hgl : w2.heap.size < w7.heap.size := by omega
      have htw8 := htw7.keep (w' := w7.setCell ⟨w2.heap.size, 5, none⟩ v') (fun b h _ => Below.heap_setCell _ _ _ _ h.2)
      obtain ⟨A7, cap7, rfl, hfr⟩ := htw8.done (base' := w1.heap.size) (by simp [hm3, hm6]) (fun b h => h.1) ok_list
      have o8 : Blk (w7.setCell ⟨w2.heap.size, 5, none⟩ (.slice A7 (m3 + m6) cap7)) w2.heap.size 26 (Val.box ⟨4, ⟨0, 0⟩, false, ⟨#[]⟩, A7, m3 + m6, cap7⟩) := hout7.set_ 5 _
      have HM8 := Lib.hid (show _ ∧ _ ∧ _ ∧ _ from ⟨hb7.setCell (p := ⟨w2.heap.size, 5, none⟩) (by simp only; omega) (.slice A7 (m3 + m6) cap7), hres7.far (p := ⟨w2.heap.size, 5, none⟩) (by simp only; omega) (.slice A7 (m3 + m6) cap7), o8, hfr⟩)
      obtain ⟨o0, o1, o2, o3, o4, o5⟩ := Blk.val (x := ⟨4, ⟨0, 0⟩, false, ⟨#[]⟩, A3, m3, cap3⟩) hout7
      have of := hout7.frozen
      clear hb hx hy hres hout htw3 htw6 htw7 htw8 hgrow far hout7 hb7 hy7 hres7 hfr o8 HM hi0 hz0 hz1 hz2
      go_wp2_with fail
      obtain ⟨hb, hres, hout, hfr⟩ := HM8.out
      generalize World.setCell _ _ _ = w8 at hb hres hout hfr ⊢
      refine (refPartsL_any 11 _ ⟨4, ⟨0, 0⟩, false, ⟨#[]⟩, A7, m3 + m6, cap7⟩ _ HPP.out.1 hfr.rd).mono ?_
      rintro e w9 ⟨rfl, hb9⟩
      rw [HPP.out.2]
      have hA := HA.out
      generalize 1 + partsL (ka ++ kb) = PN at hA ⊢
      replace hres := hres.keep hb9
      replace hout := hout.keep hb9
      replace hfr := hfr.below hb9
      replace hb := hb.trans (hb9.mono hb.size)
      clear hb9 HM8 o0 o1 o2 o3 o4 o5 of HA HPP
      by_cases hbig : 100 < PN
      case pos =>
        have HV := Lib.hid (hA.1 hbig)
        have q1 : decide ((100 : Int) < (PN : Int)) = true := by simp; omega
        clear hA hbig hfr hout
        obtain ⟨r0, r1, r2, r3, r4, r5⟩ := hres.val
        have rf := hres.frozen
        have rl := hres.lt
        have n1 := hres.set6 (.int .u8 0) (.int .i64 0) (.int .i64 0) (.bool false) (.string ⟨#[]⟩) (.slice none 0 0)
        have n2 := below_set6 hb (show w.heap.size ≤ w.heap.size + 1 + 1 by omega) (.int .u8 0) (.int .i64 0) (.int .i64 0) (.bool false) (.string ⟨#[]⟩) (.slice none 0 0)
        have n3 := fun W => fresh_leaf W w.heap.size 26 ok_none
        obtain ⟨k0, k1, k2, k3, k4, k5⟩ := Blk.val (x := ⟨0, ⟨0, 0⟩, false, ⟨#[]⟩, none, 0, 0⟩) n1
        have HN := Lib.hid (show _ ∧ _ from ⟨n2, n3⟩)
        have HKS := Lib.hid (show _ ∧ _ ∧ _ ∧ _ ∧ _ ∧ _ from ⟨k0, k1, k2, k3, k4, k5⟩)
        clear n1 n2 n3 hres k0 k1 k2 k3 k4 k5
        go_wp2_with fail
        obtain ⟨k0, k1, k2, k3, k4, k5⟩ := HKS.out
        exact bodyPost_ret (v := .tuple #[Val.v ⟨0, ⟨0, 0⟩, false, ⟨#[]⟩, none, 0, 0⟩, .int .i64 4]) (by simp [results, Try.results18, go_sem, k0, k1, k2, k3, k4, k5]) rfl (HF.out ⟨0, ⟨0, 0⟩, false, ⟨#[]⟩, none, 0, 0⟩ _ 4 _ (HN.out.2 _) HN.out.1 HV.out)
      have HV := Lib.hid (hA.2 hbig)
      have q1 : decide ((100 : Int) < (PN : Int)) = false := by simp; omega
      obtain ⟨o0, o1, o2, o3, o4, o5⟩ := hout.val
      clear hA hbig hout
      obtain ⟨r0, r1, r2, r3, r4, r5⟩ := hres.val
      have rf := hres.frozen
      have rl := hres.lt
      have n1 := hres.set6 (.int .u8 4) (.int .i64 0) (.int .i64 0) (.bool false) (.string ⟨#[]⟩) (.slice A7 (m3 + m6) cap7)
      have n2 := below_set6 hb (show w.heap.size ≤ w.heap.size + 1 + 1 by omega) (.int .u8 4) (.int .i64 0) (.int .i64 0) (.bool false) (.string ⟨#[]⟩) (.slice A7 (m3 + m6) cap7)
      have n3 := hfr.keep (w' := _) (show w.heap.size ≤ w1.heap.size by omega) (fun b hb _ => far_set6 (w := w9) (g := w.heap.size + 1 + 1) (k := b) (by omega) (.int .u8 4) (.int .i64 0) (.int .i64 0) (.bool false) (.string ⟨#[]⟩) (.slice A7 (m3 + m6) cap7))
      obtain ⟨k0, k1, k2, k3, k4, k5⟩ := Blk.val (x := ⟨4, ⟨0, 0⟩, false, ⟨#[]⟩, A7, m3 + m6, cap7⟩) n1
      have HN := Lib.hid (show _ ∧ _ from ⟨n2, n3⟩)
      have HKS := Lib.hid (show _ ∧ _ ∧ _ ∧ _ ∧ _ ∧ _ from ⟨k0, k1, k2, k3, k4, k5⟩)
      clear n1 n2 n3 hres k0 k1 k2 k3 k4 k5
      go_wp2_with fail
      obtain ⟨k0, k1, k2, k3, k4, k5⟩ := HKS.out
      exact bodyPost_ret (v := .tuple #[Val.v ⟨4, ⟨0, 0⟩, false, ⟨#[]⟩, A7, m3 + m6, cap7⟩, .int .i64 0]) (by simp [results, Try.results18, go_sem, k0, k1, k2, k3, k4, k5]) rfl (HF.out ⟨4, ⟨0, 0⟩, false, ⟨#[]⟩, A7, m3 + m6, cap7⟩ _ 0 _ HN.out.2 HN.out.1 HV.out)
    case hB => kernel_rfl
    all_goals rfl
end Go.Proofs.Ytjgampkpfjbmdaa
