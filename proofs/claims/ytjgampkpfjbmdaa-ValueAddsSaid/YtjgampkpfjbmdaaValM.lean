/- Sums in plain terms; both on both sides; Parts of a sum. -/
import Derived.Test.YtjgampkpfjbmdaaValJ
import Derived.Test.YtjgampkpfjbmdaaValL
import Derived.Test.YtjgampkpfjbmdaaRatG
namespace Go.Rel
open Go.RowKit
def bothV (T U : Tree) : Int := if chkT T ≠ 0 then chkT T else chkT U
theorem bothV_l {T U : Tree} (h : chkT T ≠ 0) : bothV T U = chkT T := if_pos h
theorem bothV_r {T U : Tree} (h : chkT T = 0) : bothV T U = chkT U := if_neg (fun n => n h)
theorem bothV_ok {T U : Tree} (h : bothV T U = 0) : chkT T = 0 ∧ chkT U = 0 := by
  unfold bothV at h
  split at h
  · contradiction
  · rename_i h1; exact ⟨by simpa using h1, h⟩

mutual
theorem parts_pos : ∀ T : Tree, 1 ≤ partsT T
  | .node k q t s kids => by unfold partsT; omega
end
theorem partsL_len : ∀ l : List Tree, l.length ≤ partsL l
  | [] => by simp [partsL]
  | t :: r => by have := parts_pos t; have := partsL_len r; simp only [partsL, List.length_cons]; omega
theorem parts_le : ∀ (d : Nat) (T : Tree), fitT T d = true → partsT T ≤ 151 ^ deepT T
  | 0, T, h => by rw [fitT_zero] at h; cases h
  | d + 1, .node k q t s kids, h => by
    obtain ⟨e, he, -, h150, hk⟩ := fitT_parts h
    obtain rfl : d = e := by omega
    have key : ∀ l : List Tree, (∀ x ∈ l, fitT x d = true) → ∀ D, deepL l ≤ D + 1 → partsL l ≤ l.length * 151 ^ D := by
      intro l
      induction l with
      | nil => intro _ D _; simp [partsL]
      | cons x r ih =>
        intro hx D hD
        simp only [deepL] at hD
        have h1 := parts_le d x (hx x (by simp))
        have h2 : 151 ^ deepT x ≤ 151 ^ D := Nat.pow_le_pow_right (by decide) (by omega)
        have h3 := ih (fun y hy => hx y (by simp [hy])) D (by omega)
        simp only [partsL, List.length_cons, Nat.succ_mul]
        omega
    unfold partsT deepT
    split
    · have hp := deepL_pos kids
      obtain ⟨D, hD⟩ : ∃ D, deepL kids = D + 1 := ⟨deepL kids - 1, by omega⟩
      have h1 := key kids hk D (by omega)
      rw [hD, Nat.pow_succ]
      have h2 : kids.length * 151 ^ D ≤ 150 * 151 ^ D := Nat.mul_le_mul_right _ h150
      have h3 : 1 ≤ 151 ^ D := Nat.one_le_pow _ _ (by decide)
      omega
    · simp
theorem w64_small {n : Nat} (h : n < 9223372036854775808) : w64 n = n := by unfold w64; simp only [IntKind.wrap_i64]; omega
theorem valid_parts {T : Tree} {d : Nat} (hf : fitT T d = true) (h : chkT T = 0) : partsT T ≤ 100 ∧ deepT T ≤ 6 ∧ fineT T = true := by
  unfold chkT at h
  split at h
  · omega
  · rename_i h1
    split at h
    · rename_i h2
      have h3 : partsT T ≤ 151 ^ 6 := Nat.le_trans (parts_le d T hf) (Nat.pow_le_pow_right (by decide) (by omega))
      have h4 : (151 : Nat) ^ 6 = 11853911588401 := by decide
      have h5 := w64_small (n := partsT T) (by omega)
      exact ⟨by omega, by omega, h2⟩
    · omega
theorem fine_cases {k : Int} {q : Rat2} {t : Bool} {s : ByteArray} {kids : List Tree} (h : fineT (.node k q t s kids) = true) :
    (k = 1 ∧ RatOk q ∧ t = false ∧ s.size = 0 ∧ kids = []) ∨ (k = 2 ∧ q = ⟨0, 0⟩ ∧ s.size = 0 ∧ kids = []) ∨ (k = 3 ∧ q = ⟨0, 0⟩ ∧ t = false ∧ kids = [] ∧ okStr s = true) ∨ (k = 4 ∧ q = ⟨0, 0⟩ ∧ t = false ∧ s.size = 0 ∧ fineL kids = true) := by
  unfold fineT at h
  split at h
  · rename_i h1
    simp only [Bool.and_eq_true, decide_eq_true_eq, Bool.not_eq_true'] at h
    exact .inl ⟨h1, h.1, h.2.1, h.2.2.1, List.length_eq_zero_iff.1 h.2.2.2⟩
  · split at h
    · rename_i h1
      simp only [Bool.and_eq_true, decide_eq_true_eq] at h
      exact .inr (.inl ⟨h1, h.1, h.2.1, List.length_eq_zero_iff.1 h.2.2⟩)
    · split at h
      · rename_i h1
        simp only [Bool.and_eq_true, decide_eq_true_eq, Bool.not_eq_true'] at h
        exact .inr (.inr (.inl ⟨h1, h.2.1, h.2.2.1, List.length_eq_zero_iff.1 h.2.2.2, h.1⟩))
      · split at h
        · rename_i h1
          simp only [Bool.and_eq_true, decide_eq_true_eq, Bool.not_eq_true'] at h
          exact .inr (.inr (.inr ⟨h1, h.2.1, h.2.2.1, h.2.2.2, h.1⟩))
        · cases h

end Go.Rel
namespace Go.Proofs.Ytjgampkpfjbmdaa
open Go.RowKit Go.Rel
/-- The sum of two values, and the error. -/
def addT (T U : Tree) : Tree :=
  if bothV T U ≠ 0 then .none_ else if T.k ≠ U.k ∨ T.k = 2 then .none_
  else if T.k = 1 then (if opAddE T.q U.q ≠ 0 then .none_ else tNum (opAddR T.q U.q))
  else if T.k = 3 then (if 60 < T.s.size + U.s.size then .none_ else tStr (T.s ++ U.s))
  else if 100 < 1 + partsL (T.kids ++ U.kids) then .none_ else tList (T.kids ++ U.kids)
def addE (T U : Tree) : Int :=
  if bothV T U ≠ 0 then bothV T U else if T.k ≠ U.k ∨ T.k = 2 then 20
  else if T.k = 1 then opAddE T.q U.q
  else if T.k = 3 then (if 60 < T.s.size + U.s.size then 4 else 0)
  else if 100 < 1 + partsL (T.kids ++ U.kids) then 4 else 0
theorem add_bad {T U : Tree} (h : bothV T U ≠ 0) : addT T U = .none_ ∧ addE T U = bothV T U := by unfold addT addE; exact ⟨if_pos h, if_pos h⟩
theorem add_kind {T U : Tree} (h : bothV T U = 0) (h2 : T.k ≠ U.k ∨ T.k = 2) : addT T U = .none_ ∧ addE T U = 20 := by
  unfold addT addE; exact ⟨(if_neg (fun n => n h)).trans (if_pos h2), (if_neg (fun n => n h)).trans (if_pos h2)⟩
section
variable {q q' : Rat2} {t t' : Bool} {s s' : ByteArray} {ka kb : List Tree}
theorem add_num (h : bothV (.node 1 q t s ka) (.node 1 q' t' s' kb) = 0) : (opAddE q q' ≠ 0 → addT (.node 1 q t s ka) (.node 1 q' t' s' kb) = .none_ ∧ addE (.node 1 q t s ka) (.node 1 q' t' s' kb) = opAddE q q') ∧
    (opAddE q q' = 0 → addT (.node 1 q t s ka) (.node 1 q' t' s' kb) = tNum (opAddR q q') ∧ addE (.node 1 q t s ka) (.node 1 q' t' s' kb) = 0) := by
  have hk : ¬ ((Tree.node 1 q t s ka).k ≠ (Tree.node 1 q' t' s' kb).k ∨ (Tree.node 1 q t s ka).k = 2) := by simp [Tree.k]
  have e1 : addT (.node 1 q t s ka) (.node 1 q' t' s' kb) = if opAddE q q' ≠ 0 then .none_ else tNum (opAddR q q') := by unfold addT; exact (if_neg (fun n => n h)).trans ((if_neg hk).trans (if_pos rfl))
  have e2 : addE (.node 1 q t s ka) (.node 1 q' t' s' kb) = opAddE q q' := by unfold addE; exact (if_neg (fun n => n h)).trans ((if_neg hk).trans (if_pos rfl))
  exact ⟨fun hE => ⟨e1.trans (if_pos hE), e2⟩, fun hE => ⟨e1.trans (if_neg (fun n => n hE)), e2.trans hE⟩⟩
theorem add_str (h : bothV (.node 3 q t s ka) (.node 3 q' t' s' kb) = 0) : (60 < s.size + s'.size → addT (.node 3 q t s ka) (.node 3 q' t' s' kb) = .none_ ∧ addE (.node 3 q t s ka) (.node 3 q' t' s' kb) = 4) ∧
    (¬ 60 < s.size + s'.size → addT (.node 3 q t s ka) (.node 3 q' t' s' kb) = tStr (s ++ s') ∧ addE (.node 3 q t s ka) (.node 3 q' t' s' kb) = 0) := by
  have hk : ¬ ((Tree.node 3 q t s ka).k ≠ (Tree.node 3 q' t' s' kb).k ∨ (Tree.node 3 q t s ka).k = 2) := by simp [Tree.k]
  have e1 : addT (.node 3 q t s ka) (.node 3 q' t' s' kb) = if 60 < s.size + s'.size then .none_ else tStr (s ++ s') := by unfold addT; exact (if_neg (fun n => n h)).trans ((if_neg hk).trans ((if_neg (show ¬ (3 : Int) = 1 by decide)).trans (if_pos rfl)))
  have e2 : addE (.node 3 q t s ka) (.node 3 q' t' s' kb) = if 60 < s.size + s'.size then 4 else 0 := by unfold addE; exact (if_neg (fun n => n h)).trans ((if_neg hk).trans ((if_neg (show ¬ (3 : Int) = 1 by decide)).trans (if_pos rfl)))
  exact ⟨fun hE => ⟨e1.trans (if_pos hE), e2.trans (if_pos hE)⟩, fun hE => ⟨e1.trans (if_neg hE), e2.trans (if_neg hE)⟩⟩
theorem add_list (h : bothV (.node 4 q t s ka) (.node 4 q' t' s' kb) = 0) : (100 < 1 + partsL (ka ++ kb) → addT (.node 4 q t s ka) (.node 4 q' t' s' kb) = .none_ ∧ addE (.node 4 q t s ka) (.node 4 q' t' s' kb) = 4) ∧
    (¬ 100 < 1 + partsL (ka ++ kb) → addT (.node 4 q t s ka) (.node 4 q' t' s' kb) = tList (ka ++ kb) ∧ addE (.node 4 q t s ka) (.node 4 q' t' s' kb) = 0) := by
  have hk : ¬ ((Tree.node 4 q t s ka).k ≠ (Tree.node 4 q' t' s' kb).k ∨ (Tree.node 4 q t s ka).k = 2) := by simp [Tree.k]
  have e1 : addT (.node 4 q t s ka) (.node 4 q' t' s' kb) = if 100 < 1 + partsL (ka ++ kb) then .none_ else tList (ka ++ kb) := by unfold addT; exact (if_neg (fun n => n h)).trans ((if_neg hk).trans ((if_neg (show ¬ (4 : Int) = 1 by decide)).trans (if_neg (show ¬ (4 : Int) = 3 by decide))))
  have e2 : addE (.node 4 q t s ka) (.node 4 q' t' s' kb) = if 100 < 1 + partsL (ka ++ kb) then 4 else 0 := by unfold addE; exact (if_neg (fun n => n h)).trans ((if_neg hk).trans ((if_neg (show ¬ (4 : Int) = 1 by decide)).trans (if_neg (show ¬ (4 : Int) = 3 by decide))))
  exact ⟨fun hE => ⟨e1.trans (if_pos hE), e2.trans (if_pos hE)⟩, fun hE => ⟨e1.trans (if_neg hE), e2.trans (if_neg hE)⟩⟩
end

end Go.Proofs.Ytjgampkpfjbmdaa
namespace Go.Rel
open Go.RowKit
/-- Of at most so great a depth, with lists that are not long. -/
def Low : Nat → Tree → Prop
  | 0, _ => False
  | d + 1, T => T.kids.length ≤ 300 ∧ ∀ x ∈ T.kids, Low d x
theorem fit_low : ∀ (d : Nat) (T : Tree), fitT T d = true → Low d T
  | 0, T, h => by rw [fitT_zero] at h; cases h
  | d + 1, .node k q t s kids, h => by
    obtain ⟨e, he, -, h150, hk⟩ := fitT_parts h
    obtain rfl : d = e := by omega
    exact ⟨Nat.le_trans h150 (by omega), fun x hx => fit_low d x (hk x hx)⟩
end Go.Rel
namespace Go.Proofs.Ytjgampkpfjbmdaa
open Go.RowKit Go.Rel

set_option maxHeartbeats 2000000 in
theorem refPartsL_any : ∀ (d : Nat) (T : Tree) (x : Val) (w : World), Low d T → RdB w w.heap.size T x →
    Calls Try.prog 22 #[x.v] w (Ret w (.int .i64 (w64 (partsT T)))) := by
  intro d
  induction d with
  | zero => intro T x w h; exact h.elim
  | succ d ih =>
    intro T x w hf hr
    obtain ⟨kids, ys, rfl, ok, hy, hl, hrec, hk⟩ := hr.open_
    obtain ⟨h150, hkf⟩ := hf
    have he : True := trivial
    simp only [Tree.kids] at h150 hkf
    obtain ⟨k, q, t, s, A, len, cap⟩ := x
    obtain ⟨hk0, hk1, -, -, -, -, -, -, hc, -⟩ := ok
    dsimp only at hk0 hk1 hy hl hrec hc h150
    rw [hl] at h150
    have HL := Lib.hid (show _ ∧ _ ∧ _ from ⟨hy, hl, hkf⟩)
    have HK := Lib.hid (show _ ∧ _ from ⟨hrec, hk⟩)
    have HB := Lib.hid (box_val w 26 ⟨k, q, t, s, A, len, cap⟩)
    clear hy hl hkf hrec hk hr he
    go_enter Try.func22, Try.ntmps22
    go_wp2_with fail
    obtain ⟨hb0, hblk0⟩ := HB.out
    generalize World.alloc _ _ = w0 at hb0 hblk0 ⊢
    clear HB
    by_cases h4 : k = 4
    · subst h4
      go_loopw [3, 4] (fun nv iv wr => ∃ i : Nat, i ≤ len ∧ iv = .int .i64 i ∧ nv = .int .i64 (w64 (1 + partsL (kids.take i))) ∧ Below w.heap.size w wr ∧ Blk wr w.heap.size 26 (Val.box ⟨4, q, t, s, A, len, cap⟩)) (fun _ iv _ => len - (intOf iv).toNat)
      case atStart => exact ⟨0, Nat.zero_le _, rfl, rfl, hb0, hblk0⟩
      case round =>
        clear hb0 hblk0
        obtain ⟨i, hi, rfl, rfl, hb, hblk⟩ := hrel
        obtain ⟨c0, c1, c2, c3, c4, c5⟩ := hblk.val
        by_cases hlt : i < len
        · obtain ⟨b, off, u, y, rfl, hB, g1, g2, hru, e0, e1, e2, e3, e4, e5⟩ := val_at HL.out.1 HL.out.2.1 HK.out.1 HK.out.2 hlt
          rw [← hb.cell (p := ⟨b, _, none⟩) hB] at e0 e1 e2 e3 e4 e5
          have HG := Lib.hid (show _ ∧ _ ∧ _ from ⟨g1, g2, hru⟩)
          clear g1 g2 hru
          go_wp2_with fail
          refine (ih y u _ (HL.out.2.2 _ (List.mem_of_getElem? HG.out.1)) (HG.out.2.2.in_ hb hb.size)).mono ?_
          rintro e w2 ⟨rfl, hb2⟩
          obtain ⟨hik, hy⟩ := kid_at HG.out.1
          have hp := partsL_take hik
          rw [← hy] at hp
          have hs := w64_add (1 + partsL (kids.take i)) (partsT y)
          rw [show 1 + partsL (kids.take i) + partsT y = 1 + partsL (kids.take (i + 1)) by rw [hp]; omega] at hs
          have HS := Lib.hid hs
          have HM := Lib.hid (show _ ∧ _ from ⟨hb.trans (hb2.mono hb.size), hblk.keep hb2⟩)
          clear hb hb2 hblk hs hp c0 c1 c2 c3 c4 c5 e0 e1 e2 e3 e4 e5 hy
          go_wp2_with fail
          go_roundw
          case rel => exact ⟨i + 1, by omega, by go_num, by rw [HS.out], HM.out⟩
          case measure => simp [intOf]; omega
        · obtain rfl : i = len := by omega
          have HS := Lib.hid (show w64 (1 + partsL (kids.take i)) = w64 (partsT (.node 4 q t s kids)) by rw [← HL.out.2.1, List.take_length]; rfl)
          go_wp2_with fail
          go_ret
          exact ret_int HS.out hb
    · obtain ⟨c0, c1, c2, c3, c4, c5⟩ := hblk0.val
      have q1 : ((k : Int) == 4) = false := by simpa using h4
      have HS := Lib.hid (show w64 1 = w64 (partsT (.node k q t s kids)) by unfold partsT; rw [if_neg h4])
      clear h4
      refine wp_loop_rounds 1 ?_
      rw [rounds_succ]
      by_cases h0 : 0 < len
      · go_wp2_with fail
        go_ret
        exact ret_int HS.out hb0
      · obtain rfl : len = 0 := by omega
        go_wp2_with fail
        go_ret
        exact ret_int HS.out hb0

set_option maxHeartbeats 2000000 in
theorem refBothV_any (T U : Tree) (x y : Val) (w : World) (hf : fitT T 10 = true) (hf' : fitT U 10 = true) (hr : RdB w w.heap.size T x) (hr' : RdB w w.heap.size U y) :
    Calls Try.prog 31 #[x.v, y.v] w (Ret w (.int .i64 (bothV T U))) := by
  have HR := Lib.hid (show _ ∧ _ from ⟨hr, hr'⟩)
  have HB := Lib.hid (two_boxes w 26 x y)
  have R1 := Lib.hid (fun W h => refChk_any T x W hf h)
  have R2 := Lib.hid (fun W h => refChk_any U y W hf' h)
  obtain ⟨k, q, t, s, A, len, cap⟩ := x
  obtain ⟨k', q', t', s', A', len', cap'⟩ := y
  have L1 := Lib.hid (@bothV_l T U)
  have L2 := Lib.hid (@bothV_r T U)
  generalize bothV T U = V at *
  generalize chkT T = C at *
  generalize chkT U = D at *
  clear hr hr' hf hf'
  go_enter Try.func31, Try.ntmps31
  obtain ⟨hb0, -, hx0, hy0⟩ := HB.out
  obtain ⟨c0, c1, c2, c3, c4, c5⟩ := hx0.val
  go_wp2_with fail
  refine (R1.out _ (HR.out.1.in_ hb0 hb0.size)).mono ?_
  rintro e w1 ⟨rfl, hb1⟩
  replace hx0 := hx0.keep hb1
  replace hy0 := hy0.keep hb1
  replace hb0 := hb0.trans (hb1.mono hb0.size)
  clear c0 c1 c2 c3 c4 c5 hb1 HB
  by_cases hC : C = 0
  case neg =>
    have HV := Lib.hid (L1.out hC)
    have q1 : (C != 0) = true := by simpa using hC
    clear hC
    obtain ⟨c0, c1, c2, c3, c4, c5⟩ := hx0.val
    go_wp2_with fail
    refine (R1.out _ (HR.out.1.in_ hb0 hb0.size)).mono ?_
    rintro e w2 ⟨rfl, hb2⟩
    have HM := Lib.hid (hb0.trans (hb2.mono hb0.size))
    clear c0 c1 c2 c3 c4 c5 hb2 hb0 hx0 hy0
    go_wp2_with fail
    go_ret
    exact ret_int HV.out.symm HM.out
  have HV := Lib.hid (L2.out hC)
  subst hC
  obtain ⟨c0, c1, c2, c3, c4, c5⟩ := hy0.val
  go_wp2_with fail
  refine (R2.out _ (HR.out.2.in_ hb0 hb0.size)).mono ?_
  rintro e w2 ⟨rfl, hb2⟩
  have HM := Lib.hid (hb0.trans (hb2.mono hb0.size))
  clear c0 c1 c2 c3 c4 c5 hb2 hb0 hx0 hy0
  go_wp2_with fail
  go_ret
  exact ret_int HV.out.symm HM.out

set_option maxHeartbeats 2000000 in
theorem bothV_any (T U : Tree) (x y : Val) (w : World) (hf : fitT T 10 = true) (hf' : fitT U 10 = true) (hr : RdB w w.heap.size T x) (hr' : RdB w w.heap.size U y) :
    Calls Try.prog 29 #[x.v, y.v] w (Ret w (.int .i64 (bothV T U))) := by
  have HR := Lib.hid (show _ ∧ _ from ⟨hr, hr'⟩)
  have HB := Lib.hid (two_boxes w 26 x y)
  have R1 := Lib.hid (fun W h => chk_any T x W hf h)
  have R2 := Lib.hid (fun W h => chk_any U y W hf' h)
  obtain ⟨k, q, t, s, A, len, cap⟩ := x
  obtain ⟨k', q', t', s', A', len', cap'⟩ := y
  have L1 := Lib.hid (@bothV_l T U)
  have L2 := Lib.hid (@bothV_r T U)
  generalize bothV T U = V at *
  generalize chkT T = C at *
  generalize chkT U = D at *
  clear hr hr' hf hf'
  go_enter Try.func29, Try.ntmps29
  obtain ⟨hb0, -, hx0, hy0⟩ := HB.out
  obtain ⟨c0, c1, c2, c3, c4, c5⟩ := hx0.val
  go_wp2_with fail
  refine (R1.out _ (HR.out.1.in_ hb0 hb0.size)).mono ?_
  rintro e w1 ⟨rfl, hb1⟩
  replace hx0 := hx0.keep hb1
  replace hy0 := hy0.keep hb1
  replace hb0 := hb0.trans (hb1.mono hb0.size)
  clear c0 c1 c2 c3 c4 c5 hb1 HB
  by_cases hC : C = 0
  case neg =>
    have HV := Lib.hid (L1.out hC)
    have q1 : (C != 0) = true := by simpa using hC
    clear hC
    go_wp2_with fail
    go_ret
    exact ret_int HV.out.symm hb0
  have HV := Lib.hid (L2.out hC)
  subst hC
  obtain ⟨c0, c1, c2, c3, c4, c5⟩ := hy0.val
  go_wp2_with fail
  refine (R2.out _ (HR.out.2.in_ hb0 hb0.size)).mono ?_
  rintro e w2 ⟨rfl, hb2⟩
  have HM := Lib.hid (hb0.trans (hb2.mono hb0.size))
  clear c0 c1 c2 c3 c4 c5 hb2 hb0 hx0 hy0
  go_wp2_with fail
  go_ret
  exact ret_int HV.out.symm HM.out

set_option maxHeartbeats 1000000 in
theorem of_any (r : Rat2) (w : World) : Calls Try.prog 33 #[r.v] w (Ret w (Val.v ⟨1, r, false, ⟨#[]⟩, none, 0, 0⟩)) := by
  obtain ⟨b, -, hn⟩ := (show _ ∧ _ ∧ _ from let h := boxes2 w #[.int .i64 r.n, .int .i64 r.d] (Val.box ⟨1, r, false, ⟨#[]⟩, none, 0, 0⟩) 23 26; ⟨h.1, h.2.1, show Blk _ _ _ _ from h.2.2.2⟩)
  obtain ⟨k0, k1, k2, k3, k4, k5⟩ := hn.val
  have HB := Lib.hid b
  clear b
  go_enter Try.func33, Try.ntmps33
  go_wp2_with fail
  exact bodyPost_ret (v := Val.v ⟨1, r, false, ⟨#[]⟩, none, 0, 0⟩) (by simp [results, Try.results33, go_sem, k0, k1, k2, k3, k4, k5]) rfl ⟨rfl, HB.out⟩
end Go.Proofs.Ytjgampkpfjbmdaa
