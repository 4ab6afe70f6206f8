/- Texts put together: RatG, ValM, LabSpec. -/
import Derived.Test.YtjgampkpfjbmdaaDoorPack08
import Derived.Test.YtjgampkpfjbmdaaDoorPack07
import Derived.Lib.Bytealg
import Derived.Lib.Strings
import Derived.Lib.Small
import Derived.Lib.Hide
import Derived.Below
section
/- Add, Sub, Mul, Div on both sides: what they give, for any two ratios of 64 bits. -/
namespace Go.Proofs.YtjgampkpfjbmdaaDoor
open Go.RowKit Go.Rel

theorem mul_bound {x y : Int} (h1 : -1000000000 ≤ x) (h2 : x ≤ 1000000000) (h3 : -1000000000 ≤ y) (h4 : y ≤ 1000000000) : -1000000000000000000 ≤ x * y ∧ x * y ≤ 1000000000000000000 := by
  have h : (x * y).natAbs ≤ 1000000000 * 1000000000 := by
    rw [Int.natAbs_mul]
    exact Nat.mul_le_mul (by omega) (by omega)
  omega

theorem ratOk_bounds {a : Rat2} (h : RatOk a) : -1000000000 ≤ a.n ∧ a.n ≤ 1000000000 ∧ 1 ≤ a.d ∧ a.d ≤ 1000000000 := ⟨h.2.2.1, h.2.2.2.1, h.1, h.2.1⟩

/-- The reference's Make, neither number the least one. -/
theorem refMake_small (n d : Int) (w : World) (hn : -9223372036854775807 ≤ n) (hn' : n ≤ 9223372036854775807) (hd : -9223372036854775807 ≤ d) (hd' : d ≤ 9223372036854775807) :
    Calls Tryd.prog 48 #[.int .i64 n, .int .i64 d] w (Ret w (.tuple #[(makeR n d).v, .int .i64 (makeE n d)])) := by
  rcases Int.lt_trichotomy d 0 with h | h | h
  · exact refMake_neg n d w hn hn' hd hd' h
  · subst h; exact refMake_zero n w
  · exact refMake_pos n d w hn hn' hd hd' h

/-! ### Add -/
set_option maxHeartbeats 1000000 in
theorem opAdd1 (a b : Rat2) (w : World) (ha : RatOk a) (hb : RatOk b) :
    Calls Tryd.prog 55 #[a.v, b.v] w (Ret w (.tuple #[.int .i64 (a.n * b.d + b.n * a.d), .int .i64 (a.d * b.d)])) := by
  obtain ⟨a1, a2, a3, a4⟩ := ratOk_bounds ha
  obtain ⟨b1, b2, b3, b4⟩ := ratOk_bounds hb
  have m1 := mul_bound a1 a2 b1 b2
  have m2 := mul_bound a1 a2 (show -1000000000 ≤ b.d by omega) b4
  have m3 := mul_bound b1 b2 (show -1000000000 ≤ a.d by omega) a4
  have m4 := mul_bound (show -1000000000 ≤ a.d by omega) a4 (show -1000000000 ≤ b.d by omega) b4
  have m5 := mul_bound (show -1000000000 ≤ a.d by omega) a4 b1 b2
  clear ha hb a1 a2 a3 a4 b1 b2 b3 b4
  obtain ⟨m1, m1'⟩ := m1
  obtain ⟨m2, m2'⟩ := m2
  obtain ⟨m3, m3'⟩ := m3
  obtain ⟨m4, m4'⟩ := m4
  obtain ⟨m5, m5'⟩ := m5
  obtain ⟨an, ad⟩ := a
  obtain ⟨bn, bd⟩ := b
  simp only at *
  obtain ⟨x1, x2, x3, x4⟩ := boxes2 w #[.int .i64 an, .int .i64 ad] #[.int .i64 bn, .int .i64 bd] 23 23
  have hx := Lib.hid (show _ ∧ _ ∧ _ ∧ _ from ⟨x1, x2, x3, x4⟩)
  clear x1 x2 x3 x4
  go_enter Tryd.func55, Tryd.ntmps55
  go_wp2_with fail
  obtain ⟨x1, x2, x3, x4⟩ := hx.out
  generalize World.alloc _ _ = w0 at x1 x2 x3 x4 ⊢
  have y0 := Blk.cell (i := 0) x3 rfl
  have y1 := Blk.cell (i := 1) x3 rfl
  have z0 := Blk.cell (i := 0) x4 rfl
  have z1 := Blk.cell (i := 1) x4 rfl
  clear x2 x3 x4
  go_quiet (fail)
  go_wp2_with fail
  go_ret2
  exact ⟨rfl, below_drewN x1 _⟩

def opAddR (a b : Rat2) : Rat2 := runV a b (a.n * b.d + b.n * a.d) (a.d * b.d)
def opAddE (a b : Rat2) : Int := runE a b (a.n * b.d + b.n * a.d) (a.d * b.d)

set_option maxHeartbeats 1000000 in
theorem opAdd_any (a b : Rat2) (w : World) (ha : Rat64 a) (hb : Rat64 b) :
    Calls Tryd.prog 35 #[a.v, b.v] w (Ret w (.tuple #[(opAddR a b).v, .int .i64 (opAddE a b)])) := by
  have hF : RatOk a ∧ RatOk b → (-9223372036854775808 ≤ (a.n * b.d + b.n * a.d) ∧ (a.n * b.d + b.n * a.d) ≤ 9223372036854775807 ∧ -9223372036854775808 ≤ (a.d * b.d) ∧ (a.d * b.d) ≤ 9223372036854775807) ∧ ∀ w, Calls Tryd.prog 55 #[a.v, b.v] w (Ret w (.tuple #[.int .i64 (a.n * b.d + b.n * a.d), .int .i64 (a.d * b.d)])) := fun h => by
    obtain ⟨a1, a2, a3, a4⟩ := ratOk_bounds h.1
    obtain ⟨b1, b2, b3, b4⟩ := ratOk_bounds h.2
    have m1 := mul_bound a1 a2 b1 b2
    have m2 := mul_bound a1 a2 (show -1000000000 ≤ b.d by omega) b4
    have m3 := mul_bound b1 b2 (show -1000000000 ≤ a.d by omega) a4
    have m4 := mul_bound (show -1000000000 ≤ a.d by omega) a4 (show -1000000000 ≤ b.d by omega) b4
    have m5 := mul_bound (show -1000000000 ≤ a.d by omega) a4 b1 b2
    exact ⟨⟨by omega, by omega, by omega, by omega⟩, fun w => opAdd1 a b w h.1 h.2⟩
  have hcf : ∀ (args : Array Value) (w : World), (callFunc 55 args).run Tryd.prog w = .ok (.enter 55 args) w := fun args w => by simp [go_sem]
  have key := fun w => run_any 55 a b (a.n * b.d + b.n * a.d) (a.d * b.d) w ha hb hcf hF
  clear hF hcf
  obtain ⟨x1, x2, x3, x4, x5⟩ := boxes3 w #[.int .i64 a.n, .int .i64 a.d] #[.int .i64 b.n, .int .i64 b.d] #[.int .i64 0, .int .i64 0] 23 23 23
  have hx := Lib.hid (show _ ∧ _ ∧ _ from ⟨x1, x2, x5⟩)
  clear x1 x2 x3 x4 x5
  go_enter Tryd.func35, Tryd.ntmps35
  go_wp2_with fail
  obtain ⟨x1, x2, x5⟩ := hx.out
  generalize World.alloc _ _ = w0 at x1 x2 x5 ⊢
  replace x5 : Blk w0 _ _ _ := x5
  refine (key _).mono ?_
  rintro e w1 ⟨rfl, hb1⟩
  replace x1 := x1.trans (hb1.mono (by omega))
  replace x5 := x5.keep hb1
  have y0 := x5.cell (i := 0) rfl
  have y1 := x5.cell (i := 1) rfl
  have y2 := x5.frozen
  have f0 := x5.set2 (.int .i64 (opAddR a b).n) (.int .i64 (opAddR a b).d)
  have k0 := f0.cell (i := 0) rfl
  have k1 := f0.cell (i := 1) rfl
  clear x2 hb1 hx key
  go_wp2_with fail
  refine bodyPost_ret (v := .tuple #[(opAddR a b).v, .int .i64 (opAddE a b)]) ?_ rfl ⟨rfl, below_set2 x1 (by omega) _ _⟩
  simp only [opAddR] at k0 k1
  simp [results, Tryd.results35, go_sem, k0, k1, opAddR, opAddE]

end Go.Proofs.YtjgampkpfjbmdaaDoor
end
section
/- Sums in plain terms; both on both sides; Parts of a sum. -/
namespace Go.Rel
open Go.RowKit
def bothV (T U : Tree) : Int := if chkT T ≠ 0 then chkT T else chkT U
theorem bothV_l {T U : Tree} (h : chkT T ≠ 0) : bothV T U = chkT T := if_pos h
theorem bothV_r {T U : Tree} (h : chkT T = 0) : bothV T U = chkT U := if_neg (fun n => n h)
theorem bothV_ok {T U : Tree} (h : bothV T U = 0) : chkT T = 0 ∧ chkT U = 0 := by
  unfold bothV at h
  split at h
  · contradiction
  · rename_i h1; exact ⟨by simpa using h1, h⟩

mutual
theorem parts_pos : ∀ T : Tree, 1 ≤ partsT T
  | .node k q t s kids => by unfold partsT; omega
end
theorem partsL_len : ∀ l : List Tree, l.length ≤ partsL l
  | [] => by simp [partsL]
  | t :: r => by have := parts_pos t; have := partsL_len r; simp only [partsL, List.length_cons]; omega
theorem parts_le : ∀ (d : Nat) (T : Tree), fitT T d = true → partsT T ≤ 151 ^ deepT T
  | 0, T, h => by rw [fitT_zero] at h; cases h
  | d + 1, .node k q t s kids, h => by
    obtain ⟨e, he, -, h150, hk⟩ := fitT_parts h
    obtain rfl : d = e := by omega
    have key : ∀ l : List Tree, (∀ x ∈ l, fitT x d = true) → ∀ D, deepL l ≤ D + 1 → partsL l ≤ l.length * 151 ^ D := by
      intro l
      induction l with
      | nil => intro _ D _; simp [partsL]
      | cons x r ih =>
        intro hx D hD
        simp only [deepL] at hD
        have h1 := parts_le d x (hx x (by simp))
        have h2 : 151 ^ deepT x ≤ 151 ^ D := Nat.pow_le_pow_right (by decide) (by omega)
        have h3 := ih (fun y hy => hx y (by simp [hy])) D (by omega)
        simp only [partsL, List.length_cons, Nat.succ_mul]
        omega
    unfold partsT deepT
    split
    · have hp := deepL_pos kids
      obtain ⟨D, hD⟩ : ∃ D, deepL kids = D + 1 := ⟨deepL kids - 1, by omega⟩
      have h1 := key kids hk D (by omega)
      rw [hD, Nat.pow_succ]
      have h2 : kids.length * 151 ^ D ≤ 150 * 151 ^ D := Nat.mul_le_mul_right _ h150
      have h3 : 1 ≤ 151 ^ D := Nat.one_le_pow _ _ (by decide)
      omega
    · simp
theorem w64_small {n : Nat} (h : n < 9223372036854775808) : w64 n = n := by unfold w64; simp only [IntKind.wrap_i64]; omega
theorem valid_parts {T : Tree} {d : Nat} (hf : fitT T d = true) (h : chkT T = 0) : partsT T ≤ 100 ∧ deepT T ≤ 6 ∧ fineT T = true := by
  unfold chkT at h
  split at h
  · omega
  · rename_i h1
    split at h
    · rename_i h2
      have h3 : partsT T ≤ 151 ^ 6 := Nat.le_trans (parts_le d T hf) (Nat.pow_le_pow_right (by decide) (by omega))
      have h4 : (151 : Nat) ^ 6 = 11853911588401 := by decide
      have h5 := w64_small (n := partsT T) (by omega)
      exact ⟨by omega, by omega, h2⟩
    · omega
theorem fine_cases {k : Int} {q : Rat2} {t : Bool} {s : ByteArray} {kids : List Tree} (h : fineT (.node k q t s kids) = true) :
    (k = 1 ∧ RatOk q ∧ t = false ∧ s.size = 0 ∧ kids = []) ∨ (k = 2 ∧ q = ⟨0, 0⟩ ∧ s.size = 0 ∧ kids = []) ∨ (k = 3 ∧ q = ⟨0, 0⟩ ∧ t = false ∧ kids = [] ∧ okStr s = true) ∨ (k = 4 ∧ q = ⟨0, 0⟩ ∧ t = false ∧ s.size = 0 ∧ fineL kids = true) := by
  unfold fineT at h
  split at h
  · rename_i h1
    simp only [Bool.and_eq_true, decide_eq_true_eq, Bool.not_eq_true'] at h
    exact .inl ⟨h1, h.1, h.2.1, h.2.2.1, List.length_eq_zero_iff.1 h.2.2.2⟩
  · split at h
    · rename_i h1
      simp only [Bool.and_eq_true, decide_eq_true_eq] at h
      exact .inr (.inl ⟨h1, h.1, h.2.1, List.length_eq_zero_iff.1 h.2.2⟩)
    · split at h
      · rename_i h1
        simp only [Bool.and_eq_true, decide_eq_true_eq, Bool.not_eq_true'] at h
        exact .inr (.inr (.inl ⟨h1, h.2.1, h.2.2.1, List.length_eq_zero_iff.1 h.2.2.2, h.1⟩))
      · split at h
        · rename_i h1
          simp only [Bool.and_eq_true, decide_eq_true_eq, Bool.not_eq_true'] at h
          exact .inr (.inr (.inr ⟨h1, h.2.1, h.2.2.1, h.2.2.2, h.1⟩))
        · cases h

end Go.Rel
namespace Go.Proofs.YtjgampkpfjbmdaaDoor
open Go.RowKit Go.Rel
/-- The sum of two values, and the error. -/
def addT (T U : Tree) : Tree :=
  if bothV T U ≠ 0 then .none_ else if T.k ≠ U.k ∨ T.k = 2 then .none_
  else if T.k = 1 then (if opAddE T.q U.q ≠ 0 then .none_ else tNum (opAddR T.q U.q))
  else if T.k = 3 then (if 60 < T.s.size + U.s.size then .none_ else tStr (T.s ++ U.s))
  else if 100 < 1 + partsL (T.kids ++ U.kids) then .none_ else tList (T.kids ++ U.kids)
def addE (T U : Tree) : Int :=
  if bothV T U ≠ 0 then bothV T U else if T.k ≠ U.k ∨ T.k = 2 then 20
  else if T.k = 1 then opAddE T.q U.q
  else if T.k = 3 then (if 60 < T.s.size + U.s.size then 4 else 0)
  else if 100 < 1 + partsL (T.kids ++ U.kids) then 4 else 0
theorem add_bad {T U : Tree} (h : bothV T U ≠ 0) : addT T U = .none_ ∧ addE T U = bothV T U := by unfold addT addE; exact ⟨if_pos h, if_pos h⟩
theorem add_kind {T U : Tree} (h : bothV T U = 0) (h2 : T.k ≠ U.k ∨ T.k = 2) : addT T U = .none_ ∧ addE T U = 20 := by
  unfold addT addE; exact ⟨(if_neg (fun n => n h)).trans (if_pos h2), (if_neg (fun n => n h)).trans (if_pos h2)⟩
section
variable {q q' : Rat2} {t t' : Bool} {s s' : ByteArray} {ka kb : List Tree}
theorem add_num (h : bothV (.node 1 q t s ka) (.node 1 q' t' s' kb) = 0) : (opAddE q q' ≠ 0 → addT (.node 1 q t s ka) (.node 1 q' t' s' kb) = .none_ ∧ addE (.node 1 q t s ka) (.node 1 q' t' s' kb) = opAddE q q') ∧
    (opAddE q q' = 0 → addT (.node 1 q t s ka) (.node 1 q' t' s' kb) = tNum (opAddR q q') ∧ addE (.node 1 q t s ka) (.node 1 q' t' s' kb) = 0) := by
  have hk : ¬ ((Tree.node 1 q t s ka).k ≠ (Tree.node 1 q' t' s' kb).k ∨ (Tree.node 1 q t s ka).k = 2) := by simp [Tree.k]
  have e1 : addT (.node 1 q t s ka) (.node 1 q' t' s' kb) = if opAddE q q' ≠ 0 then .none_ else tNum (opAddR q q') := by unfold addT; exact (if_neg (fun n => n h)).trans ((if_neg hk).trans (if_pos rfl))
  have e2 : addE (.node 1 q t s ka) (.node 1 q' t' s' kb) = opAddE q q' := by unfold addE; exact (if_neg (fun n => n h)).trans ((if_neg hk).trans (if_pos rfl))
  exact ⟨fun hE => ⟨e1.trans (if_pos hE), e2⟩, fun hE => ⟨e1.trans (if_neg (fun n => n hE)), e2.trans hE⟩⟩
theorem add_str (h : bothV (.node 3 q t s ka) (.node 3 q' t' s' kb) = 0) : (60 < s.size + s'.size → addT (.node 3 q t s ka) (.node 3 q' t' s' kb) = .none_ ∧ addE (.node 3 q t s ka) (.node 3 q' t' s' kb) = 4) ∧
    (¬ 60 < s.size + s'.size → addT (.node 3 q t s ka) (.node 3 q' t' s' kb) = tStr (s ++ s') ∧ addE (.node 3 q t s ka) (.node 3 q' t' s' kb) = 0) := by
  have hk : ¬ ((Tree.node 3 q t s ka).k ≠ (Tree.node 3 q' t' s' kb).k ∨ (Tree.node 3 q t s ka).k = 2) := by simp [Tree.k]
  have e1 : addT (.node 3 q t s ka) (.node 3 q' t' s' kb) = if 60 < s.size + s'.size then .none_ else tStr (s ++ s') := by unfold addT; exact (if_neg (fun n => n h)).trans ((if_neg hk).trans ((if_neg (show ¬ (3 : Int) = 1 by decide)).trans (if_pos rfl)))
  have e2 : addE (.node 3 q t s ka) (.node 3 q' t' s' kb) = if 60 < s.size + s'.size then 4 else 0 := by unfold addE; exact (if_neg (fun n => n h)).trans ((if_neg hk).trans ((if_neg (show ¬ (3 : Int) = 1 by decide)).trans (if_pos rfl)))
  exact ⟨fun hE => ⟨e1.trans (if_pos hE), e2.trans (if_pos hE)⟩, fun hE => ⟨e1.trans (if_neg hE), e2.trans (if_neg hE)⟩⟩
theorem add_list (h : bothV (.node 4 q t s ka) (.node 4 q' t' s' kb) = 0) : (100 < 1 + partsL (ka ++ kb) → addT (.node 4 q t s ka) (.node 4 q' t' s' kb) = .none_ ∧ addE (.node 4 q t s ka) (.node 4 q' t' s' kb) = 4) ∧
    (¬ 100 < 1 + partsL (ka ++ kb) → addT (.node 4 q t s ka) (.node 4 q' t' s' kb) = tList (ka ++ kb) ∧ addE (.node 4 q t s ka) (.node 4 q' t' s' kb) = 0) := by
  have hk : ¬ ((Tree.node 4 q t s ka).k ≠ (Tree.node 4 q' t' s' kb).k ∨ (Tree.node 4 q t s ka).k = 2) := by simp [Tree.k]
  have e1 : addT (.node 4 q t s ka) (.node 4 q' t' s' kb) = if 100 < 1 + partsL (ka ++ kb) then .none_ else tList (ka ++ kb) := by unfold addT; exact (if_neg (fun n => n h)).trans ((if_neg hk).trans ((if_neg (show ¬ (4 : Int) = 1 by decide)).trans (if_neg (show ¬ (4 : Int) = 3 by decide))))
  have e2 : addE (.node 4 q t s ka) (.node 4 q' t' s' kb) = if 100 < 1 + partsL (ka ++ kb) then 4 else 0 := by unfold addE; exact (if_neg (fun n => n h)).trans ((if_neg hk).trans ((if_neg (show ¬ (4 : Int) = 1 by decide)).trans (if_neg (show ¬ (4 : Int) = 3 by decide))))
  exact ⟨fun hE => ⟨e1.trans (if_pos hE), e2.trans (if_pos hE)⟩, fun hE => ⟨e1.trans (if_neg hE), e2.trans (if_neg hE)⟩⟩
end

end Go.Proofs.YtjgampkpfjbmdaaDoor
namespace Go.Rel
open Go.RowKit
/-- Of at most so great a depth, with lists that are not long. -/
def Low : Nat → Tree → Prop
  | 0, _ => False
  | d + 1, T => T.kids.length ≤ 300 ∧ ∀ x ∈ T.kids, Low d x
theorem fit_low : ∀ (d : Nat) (T : Tree), fitT T d = true → Low d T
  | 0, T, h => by rw [fitT_zero] at h; cases h
  | d + 1, .node k q t s kids, h => by
    obtain ⟨e, he, -, h150, hk⟩ := fitT_parts h
    obtain rfl : d = e := by omega
    exact ⟨Nat.le_trans h150 (by omega), fun x hx => fit_low d x (hk x hx)⟩
end Go.Rel
namespace Go.Proofs.YtjgampkpfjbmdaaDoor
open Go.RowKit Go.Rel

set_option maxHeartbeats 2000000 in
theorem refPartsL_any : ∀ (d : Nat) (T : Tree) (x : Val) (w : World), Low d T → RdB w w.heap.size T x →
    Calls Tryd.prog 40 #[x.v] w (Ret w (.int .i64 (w64 (partsT T)))) := by
  intro d
  induction d with
  | zero => intro T x w h; exact h.elim
  | succ d ih =>
    intro T x w hf hr
    obtain ⟨kids, ys, rfl, ok, hy, hl, hrec, hk⟩ := hr.open_
    obtain ⟨h150, hkf⟩ := hf
    have he : True := trivial
    simp only [Tree.kids] at h150 hkf
    obtain ⟨k, q, t, s, A, len, cap⟩ := x
    obtain ⟨hk0, hk1, -, -, -, -, -, -, hc, -⟩ := ok
    dsimp only at hk0 hk1 hy hl hrec hc h150
    rw [hl] at h150
    have HL := Lib.hid (show _ ∧ _ ∧ _ from ⟨hy, hl, hkf⟩)
    have HK := Lib.hid (show _ ∧ _ from ⟨hrec, hk⟩)
    have HB := Lib.hid (box_val w 26 ⟨k, q, t, s, A, len, cap⟩)
    clear hy hl hkf hrec hk hr he
    go_enter Tryd.func40, Tryd.ntmps40
    go_wp2_with fail
    obtain ⟨hb0, hblk0⟩ := HB.out
    generalize World.alloc _ _ = w0 at hb0 hblk0 ⊢
    clear HB
    by_cases h4 : k = 4
    · subst h4
      go_loopw [3, 4] (fun nv iv wr => ∃ i : Nat, i ≤ len ∧ iv = .int .i64 i ∧ nv = .int .i64 (w64 (1 + partsL (kids.take i))) ∧ Below w.heap.size w wr ∧ Blk wr w.heap.size 26 (Val.box ⟨4, q, t, s, A, len, cap⟩)) (fun _ iv _ => len - (intOf iv).toNat)
      case atStart => exact ⟨0, Nat.zero_le _, rfl, rfl, hb0, hblk0⟩
      case round =>
        clear hb0 hblk0
        obtain ⟨i, hi, rfl, rfl, hb, hblk⟩ := hrel
        obtain ⟨c0, c1, c2, c3, c4, c5⟩ := hblk.val
        by_cases hlt : i < len
        · obtain ⟨b, off, u, y, rfl, hB, g1, g2, hru, e0, e1, e2, e3, e4, e5⟩ := val_at HL.out.1 HL.out.2.1 HK.out.1 HK.out.2 hlt
          rw [← hb.cell (p := ⟨b, _, none⟩) hB] at e0 e1 e2 e3 e4 e5
          have HG := Lib.hid (show _ ∧ _ ∧ _ from ⟨g1, g2, hru⟩)
          clear g1 g2 hru
          go_wp2_with fail
          refine (ih y u _ (HL.out.2.2 _ (List.mem_of_getElem? HG.out.1)) (HG.out.2.2.in_ hb hb.size)).mono ?_
          rintro e w2 ⟨rfl, hb2⟩
          obtain ⟨hik, hy⟩ := kid_at HG.out.1
          have hp := partsL_take hik
          rw [← hy] at hp
          have hs := w64_add (1 + partsL (kids.take i)) (partsT y)
          rw [show 1 + partsL (kids.take i) + partsT y = 1 + partsL (kids.take (i + 1)) by rw [hp]; omega] at hs
          have HS := Lib.hid hs
          have HM := Lib.hid (show _ ∧ _ from ⟨hb.trans (hb2.mono hb.size), hblk.keep hb2⟩)
          clear hb hb2 hblk hs hp c0 c1 c2 c3 c4 c5 e0 e1 e2 e3 e4 e5 hy
          go_wp2_with fail
          go_roundw
          case rel => exact ⟨i + 1, by omega, by go_num, by rw [HS.out], HM.out⟩
          case measure => simp [intOf]; omega
        · obtain rfl : i = len := by omega
          have HS := Lib.hid (show w64 (1 + partsL (kids.take i)) = w64 (partsT (.node 4 q t s kids)) by rw [← HL.out.2.1, List.take_length]; rfl)
          go_wp2_with fail
          go_ret
          exact ret_int HS.out hb
    · obtain ⟨c0, c1, c2, c3, c4, c5⟩ := hblk0.val
      have q1 : ((k : Int) == 4) = false := by simpa using h4
      have HS := Lib.hid (show w64 1 = w64 (partsT (.node k q t s kids)) by unfold partsT; rw [if_neg h4])
      clear h4
      refine wp_loop_rounds 1 ?_
      rw [rounds_succ]
      by_cases h0 : 0 < len
      · go_wp2_with fail
        go_ret
        exact ret_int HS.out hb0
      · obtain rfl : len = 0 := by omega
        go_wp2_with fail
        go_ret
        exact ret_int HS.out hb0

set_option maxHeartbeats 2000000 in
theorem bothV_any (T U : Tree) (x y : Val) (w : World) (hf : fitT T 10 = true) (hf' : fitT U 10 = true) (hr : RdB w w.heap.size T x) (hr' : RdB w w.heap.size U y) :
    Calls Tryd.prog 34 #[x.v, y.v] w (Ret w (.int .i64 (bothV T U))) := by
  have HR := Lib.hid (show _ ∧ _ from ⟨hr, hr'⟩)
  have HB := Lib.hid (two_boxes w 26 x y)
  have R1 := Lib.hid (fun W h => chk_any T x W hf h)
  have R2 := Lib.hid (fun W h => chk_any U y W hf' h)
  obtain ⟨k, q, t, s, A, len, cap⟩ := x
  obtain ⟨k', q', t', s', A', len', cap'⟩ := y
  have L1 := Lib.hid (@bothV_l T U)
  have L2 := Lib.hid (@bothV_r T U)
  generalize bothV T U = V at *
  generalize chkT T = C at *
  generalize chkT U = D at *
  clear hr hr' hf hf'
  go_enter Tryd.func34, Tryd.ntmps34
  obtain ⟨hb0, -, hx0, hy0⟩ := HB.out
  obtain ⟨c0, c1, c2, c3, c4, c5⟩ := hx0.val
  go_wp2_with fail
  refine (R1.out _ (HR.out.1.in_ hb0 hb0.size)).mono ?_
  rintro e w1 ⟨rfl, hb1⟩
  replace hx0 := hx0.keep hb1
  replace hy0 := hy0.keep hb1
  replace hb0 := hb0.trans (hb1.mono hb0.size)
  clear c0 c1 c2 c3 c4 c5 hb1 HB
  by_cases hC : C = 0
  case neg =>
    have HV := Lib.hid (L1.out hC)
    have q1 : (C != 0) = true := by simpa using hC
    clear hC
    go_wp2_with fail
    go_ret
    exact ret_int HV.out.symm hb0
  have HV := Lib.hid (L2.out hC)
  subst hC
  obtain ⟨c0, c1, c2, c3, c4, c5⟩ := hy0.val
  go_wp2_with fail
  refine (R2.out _ (HR.out.2.in_ hb0 hb0.size)).mono ?_
  rintro e w2 ⟨rfl, hb2⟩
  have HM := Lib.hid (hb0.trans (hb2.mono hb0.size))
  clear c0 c1 c2 c3 c4 c5 hb2 hb0 hx0 hy0
  go_wp2_with fail
  go_ret
  exact ret_int HV.out.symm HM.out

set_option maxHeartbeats 1000000 in
theorem of_any (r : Rat2) (w : World) : Calls Tryd.prog 49 #[r.v] w (Ret w (Val.v ⟨1, r, false, ⟨#[]⟩, none, 0, 0⟩)) := by
  obtain ⟨b, -, hn⟩ := (show _ ∧ _ ∧ _ from let h := boxes2 w #[.int .i64 r.n, .int .i64 r.d] (Val.box ⟨1, r, false, ⟨#[]⟩, none, 0, 0⟩) 23 26; ⟨h.1, h.2.1, show Blk _ _ _ _ from h.2.2.2⟩)
  obtain ⟨k0, k1, k2, k3, k4, k5⟩ := hn.val
  have HB := Lib.hid b
  clear b
  go_enter Tryd.func49, Tryd.ntmps49
  go_wp2_with fail
  exact bodyPost_ret (v := Val.v ⟨1, r, false, ⟨#[]⟩, none, 0, 0⟩) (by simp [results, Tryd.results49, go_sem, k0, k1, k2, k3, k4, k5]) rfl ⟨rfl, HB.out⟩
end Go.Proofs.YtjgampkpfjbmdaaDoor
end
section
/- Paths as lists of bytes: names, steps, cutting at slashes (plain Lean, no program). -/
namespace Go.Rel
/-- A string's bytes. -/
abbrev Bs := List UInt8
/-- The string of some bytes. -/
def str (l : Bs) : ByteArray := ⟨l.toArray⟩
def isL (c : UInt8) : Bool := decide (97 ≤ c.toNat ∧ c.toNat ≤ 122)
def isD (c : UInt8) : Bool := decide (48 ≤ c.toNat ∧ c.toNat ≤ 57)
def inN (c : UInt8) : Bool := isL c || decide (c.toNat = 45) || isD c
def headL : Bs → Bool | [] => true | c :: _ => isL c
/-- A string may begin so, if it is a name. -/
def namePre (l : Bs) : Bool := headL l && l.all inN
/-- It is a name. -/
def nameOk (l : Bs) : Bool := namePre l && decide (1 ≤ l.length ∧ l.length ≤ 40)
theorem isL_in {c : UInt8} (h : isL c = true) : inN c = true := by simp [inN, h]
theorem namePre_take {l : Bs} (h : namePre l = true) (m : Nat) : namePre (l.take m) = true := by
  cases m with
  | zero => rfl
  | succ m =>
    cases l with
    | nil => rfl
    | cons c r =>
      simp only [namePre, headL, Bool.and_eq_true, List.take_succ_cons, List.all_cons] at h ⊢
      refine ⟨h.1, h.2.1, ?_⟩
      rw [List.all_eq_true] at h ⊢
      exact fun x hx => h.2.2 x (List.mem_of_mem_take hx)
theorem namePre_succ {l : Bs} {k : Nat} (hk : k < l.length) : namePre (l.take (k + 1)) = (namePre (l.take k) && (if k = 0 then isL l[k] else inN l[k])) := by
  cases k with
  | zero =>
    cases l with
    | nil => simp at hk
    | cons c r =>
      simp only [List.take_succ_cons, List.take_zero, namePre, headL, List.all_cons, List.all_nil, List.getElem_cons_zero, if_true, Bool.and_true, Bool.true_and]
      cases h : isL c
      · rfl
      · simp [isL_in h]
  | succ k =>
    rw [List.take_succ_eq_append_getElem hk, if_neg (by omega)]
    cases l with
    | nil => simp at hk
    | cons c r =>
      simp only [List.take_succ_cons, namePre, List.cons_append, headL, List.all_cons, List.all_append, List.all_nil, Bool.and_true, Bool.and_assoc]
theorem namePre_fail {l : Bs} {k : Nat} (hk : k < l.length) (h : (if k = 0 then isL l[k] else inN l[k]) = false) : nameOk l = false := by
  cases hp : namePre l
  · simp [nameOk, hp]
  · have := namePre_take hp (k + 1)
    rw [namePre_succ hk, h] at this
    simp at this
theorem nameOk_of {l : Bs} (h : namePre l = true) (h1 : 1 ≤ l.length) (h2 : l.length ≤ 40) : nameOk l = true := by simp [nameOk, h, h1, h2]
theorem nameOk_len {l : Bs} (h : ¬ (1 ≤ l.length ∧ l.length ≤ 40)) : nameOk l = false := by simp [nameOk, h]

/-! ### Before and behind the first byte c -/
def bef (c : UInt8) (l : Bs) : Bs := l.takeWhile (fun x => x != c)
def aft (c : UInt8) (l : Bs) : Bs := (l.dropWhile (fun x => x != c)).drop 1
theorem bef_cons (c x : UInt8) (l : Bs) : bef c (x :: l) = if x = c then [] else x :: bef c l := by
  unfold bef
  rw [List.takeWhile_cons]
  by_cases h : x = c <;> simp [h]
theorem aft_cons (c x : UInt8) (l : Bs) : aft c (x :: l) = if x = c then l else aft c l := by
  unfold aft
  rw [List.dropWhile_cons]
  by_cases h : x = c <;> simp [h]
theorem bef_none {c : UInt8} : ∀ {l : Bs}, c ∉ l → bef c l = l ∧ aft c l = []
  | [], _ => ⟨rfl, rfl⟩
  | x :: l, h => by
    have hx : x ≠ c := fun e => h (by simp [e])
    have ih := bef_none (c := c) (l := l) (fun e => h (List.mem_cons_of_mem _ e))
    rw [bef_cons, aft_cons, if_neg hx, if_neg hx, ih.1, ih.2]
    exact ⟨rfl, rfl⟩
theorem bef_some {c : UInt8} : ∀ {l : Bs}, c ∈ l → l = bef c l ++ c :: aft c l
  | [], h => by simp at h
  | x :: l, h => by
    by_cases hx : x = c
    · rw [bef_cons, aft_cons, if_pos hx, if_pos hx, hx]; rfl
    · have : c ∈ l := by
        rcases List.mem_cons.1 h with e | e
        · exact absurd e.symm hx
        · exact e
      rw [bef_cons, aft_cons, if_neg hx, if_neg hx]
      simp only [List.cons_append, List.cons.injEq, true_and]
      exact bef_some this
theorem bef_no (c : UInt8) : ∀ l : Bs, c ∉ bef c l
  | [] => by simp [bef]
  | x :: l => by
    rw [bef_cons]
    split
    · simp
    · rename_i h
      intro e
      rcases List.mem_cons.1 e with e | e
      · exact h e.symm
      · exact bef_no c l e
theorem aft_len {c : UInt8} {l : Bs} (h : c ∈ l) : (aft c l).length < l.length := by
  have := congrArg List.length (bef_some h)
  simp at this
  omega
theorem bef_unique {c : UInt8} {a b : Bs} (h : c ∉ a) : bef c (a ++ c :: b) = a ∧ aft c (a ++ c :: b) = b := by
  induction a with
  | nil => simp [bef_cons, aft_cons]
  | cons x a ih =>
    have hx : x ≠ c := fun e => h (by simp [e])
    have := ih (fun e => h (List.mem_cons_of_mem _ e))
    rw [List.cons_append, bef_cons, aft_cons, if_neg hx, if_neg hx, this.1, this.2]
    exact ⟨rfl, rfl⟩
theorem index_mem (c : UInt8) : ∀ l : Bs, (c ∈ l → Lib.indexByte l c = (bef c l).length) ∧ (c ∉ l → Lib.indexByte l c = -1)
  | [] => ⟨fun h => by simp at h, fun _ => rfl⟩
  | x :: l => by
    obtain ⟨i1, i2⟩ := index_mem c l
    rw [bef_cons]
    unfold Lib.indexByte
    by_cases hx : x = c
    · simp [hx]
    · have hx' : (x == c) = false := by simpa using hx
      rw [if_neg hx]
      simp only [hx', Bool.false_eq_true, if_false, List.mem_cons]
      constructor
      · rintro (e | e)
        · exact absurd e.symm hx
        · rw [i1 e]
          have : (((bef c l).length : Int) == -1) = false := by simp
          simp [this]
      · intro h
        have : c ∉ l := fun e => h (.inr e)
        rw [i2 this]
        rfl

/-! ### A step -/
def numOf : Bs → Nat → Nat
  | [], n => n
  | c :: r, n => numOf r (10 * n + (c.toNat - 48))
def digOk (d : Bs) : Bool := decide (1 ≤ d.length ∧ d.length ≤ 4) && (decide (d.length = 1) || decide (d.head? ≠ some 48)) && d.all isD
/-- The step's name and index (-1: none). -/
def stepOf (l : Bs) : Option (Bs × Int) :=
  if nameOk (bef 91 l) = false then none
  else if 91 ∉ l then some (l, -1)
  else if (aft 91 l).getLast? = some 93 ∧ digOk (aft 91 l).dropLast = true then some (bef 91 l, numOf (aft 91 l).dropLast 0)
  else none
def stepOk (l : Bs) : Bool := (stepOf l).isSome
theorem numOf_append (a b : Bs) (n : Nat) : numOf (a ++ b) n = numOf b (numOf a n) := by
  induction a generalizing n with
  | nil => rfl
  | cons c a ih => exact ih _
theorem numOf_take {d : Bs} {k : Nat} (hk : k < d.length) (n : Nat) : numOf (d.take (k + 1)) n = 10 * numOf (d.take k) n + (d[k].toNat - 48) := by
  rw [List.take_succ_eq_append_getElem hk, numOf_append]
  rfl
theorem numOf_lt {d : Bs} (hd : d.all isD = true) : ∀ n, numOf d n < (n + 1) * 10 ^ d.length := by
  induction d with
  | nil => intro n; simp [numOf]
  | cons c r ih =>
    intro n
    simp only [List.all_cons, Bool.and_eq_true, isD, decide_eq_true_eq] at hd
    have := ih (by simpa [isD] using hd.2) (10 * n + (c.toNat - 48))
    simp only [numOf, List.length_cons, Nat.pow_succ]
    refine Nat.lt_of_lt_of_le this ?_
    rw [Nat.mul_comm (10 ^ r.length) 10, ← Nat.mul_assoc]
    exact Nat.mul_le_mul_right _ (by omega)

theorem str_size (l : Bs) : (str l).size = l.length := rfl
theorem str_list (l : Bs) : (str l).data.toList = l := rfl
theorem str_of (s : ByteArray) : str s.data.toList = s := rfl
/-- What read returns beside the answer. -/
def readR (l : Bs) : Bs × Int :=
  if nameOk (bef 91 l) = false ∨ 91 ∉ l then (bef 91 l, -1)
  else if (aft 91 l).getLast? = some 93 ∧ digOk (aft 91 l).dropLast = true then (bef 91 l, numOf (aft 91 l).dropLast 0)
  else ([], 0)
theorem stepOk_eq (l : Bs) : stepOk l = (nameOk (bef 91 l) && (decide (91 ∉ l) || (decide ((aft 91 l).getLast? = some 93) && digOk (aft 91 l).dropLast))) := by
  unfold stepOk stepOf
  cases nameOk (bef 91 l)
  · rfl
  · by_cases h : 91 ∈ l
    · by_cases h2 : (aft 91 l).getLast? = some 93 ∧ digOk (aft 91 l).dropLast = true
      · simp [h, h2]
      · rw [if_neg (by simp), if_neg (by simpa using h), if_neg h2]
        simp only [Option.isSome_none, Bool.true_and]
        symm
        simp only [h, not_true_eq_false, decide_false, Bool.false_or]
        rw [Bool.and_eq_false_iff]
        by_cases h3 : (aft 91 l).getLast? = some 93
        · right
          cases hd : digOk (aft 91 l).dropLast
          · rfl
          · exact absurd ⟨h3, hd⟩ h2
        · left; simp [h3]
    · simp [h]
theorem readR_some {l : Bs} {p : Bs × Int} (h : stepOf l = some p) : readR l = p := by
  unfold stepOf at h
  unfold readR
  by_cases h1 : nameOk (bef 91 l) = false
  · rw [if_pos h1] at h; simp at h
  · rw [if_neg h1] at h
    by_cases h2 : 91 ∈ l
    · rw [if_neg (by simpa using h2)] at h
      rw [if_neg (by simp [h1, h2])]
      split at h
      · rename_i h3; rw [if_pos h3]; simpa using h
      · simp at h
    · rw [if_pos h2] at h
      rw [if_pos (.inr h2), (bef_none h2).1]
      simpa using h
theorem suffix_one (l : Bs) (c : UInt8) : Lib.hasSuffix l [c] = decide (l.getLast? = some c) := by
  unfold Lib.hasSuffix
  rw [Bool.eq_iff_iff, decide_eq_true_eq, List.isSuffixOf_iff_suffix, List.getLast?_eq_some_iff]
  constructor
  · rintro ⟨t, h⟩; exact ⟨t, h.symm⟩
  · rintro ⟨t, h⟩; exact ⟨t, h.symm⟩
theorem trim_one (l : Bs) (c : UInt8) (h : l.getLast? = some c) : Lib.trimSuffix l [c] = l.dropLast := by
  unfold Lib.trimSuffix
  rw [suffix_one, decide_eq_true h, if_pos rfl, List.dropLast_eq_take]
  rfl

/-! ### Cutting at slashes -/
def segs : Bs → List Bs
  | [] => [[]]
  | c :: r => if c = 47 then [] :: segs r else match segs r with | [] => [[c]] | h :: t => (c :: h) :: t
/-- The steps of a path, as strings. -/
def cutP (l : Bs) : List Bs := if l = [] then [] else segs l
/-- Steps put together. -/
def pathP : List Bs → Bs
  | [] => []
  | [a] => a
  | a :: b :: t => a ++ 47 :: pathP (b :: t)
theorem segs_char {c : UInt8} {r h : Bs} {t : List Bs} (hc : c ≠ 47) (e : segs r = h :: t) : segs (c :: r) = (c :: h) :: t := by
  unfold segs
  rw [if_neg hc, e]
theorem segs_ne : ∀ l, segs l ≠ []
  | [] => by simp [segs]
  | c :: r => by
    unfold segs
    split
    · simp
    · split <;> simp
theorem segs_one : ∀ {l : Bs}, 47 ∉ l → segs l = [l]
  | [], _ => rfl
  | c :: r, h => by
    have hc : c ≠ 47 := fun e => h (by simp [e])
    have := segs_one (l := r) (fun e => h (List.mem_cons_of_mem _ e))
    unfold segs
    rw [if_neg hc, this]
theorem segs_more {a b : Bs} (h : 47 ∉ a) : segs (a ++ 47 :: b) = a :: segs b := by
  induction a with
  | nil => simp [segs]
  | cons c a ih =>
    have hc : c ≠ 47 := fun e => h (by simp [e])
    have := ih (fun e => h (List.mem_cons_of_mem _ e))
    rw [List.cons_append]
    exact segs_char hc this
theorem segs_cut (l : Bs) : segs l = if 47 ∈ l then bef 47 l :: segs (aft 47 l) else [l] := by
  by_cases h : 47 ∈ l
  · rw [if_pos h]
    conv => lhs; rw [bef_some h]
    exact segs_more (bef_no 47 l)
  · rw [if_neg h, segs_one h]
theorem segs_count : ∀ l : Bs, (segs l).length = l.count 47 + 1
  | [] => rfl
  | c :: r => by
    have ih := segs_count r
    unfold segs
    by_cases hc : c = 47
    · simp [hc, ih]
    · rw [if_neg hc, List.count_cons_of_ne hc]
      split
      · rename_i e; exact absurd e (segs_ne r)
      · rename_i h t e; rw [e] at ih; simpa using ih
theorem segs_no : ∀ l : Bs, ∀ x ∈ segs l, 47 ∉ x
  | [], x, hx => by simp [segs] at hx; simp [hx]
  | c :: r, x, hx => by
    have ih := segs_no r
    unfold segs at hx
    by_cases hc : c = 47
    · rw [if_pos hc] at hx
      rcases List.mem_cons.1 hx with rfl | hx
      · simp
      · exact ih x hx
    · rw [if_neg hc] at hx
      split at hx
      · simp at hx; subst hx; simpa using Ne.symm hc
      · rename_i h t e
        rcases List.mem_cons.1 hx with rfl | hx
        · have := ih h (by rw [e]; simp)
          intro e'
          rcases List.mem_cons.1 e' with e' | e'
          · exact hc e'.symm
          · exact this e'
        · exact ih x (by rw [e]; exact List.mem_cons_of_mem _ hx)
theorem pathP_cons (a : Bs) {t : List Bs} (h : t ≠ []) : pathP (a :: t) = a ++ 47 :: pathP t := by
  cases t with
  | nil => exact absurd rfl h
  | cons b t => rfl
theorem path_segs : ∀ l : Bs, pathP (segs l) = l
  | [] => rfl
  | c :: r => by
    have ih := path_segs r
    unfold segs
    by_cases hc : c = 47
    · rw [if_pos hc, pathP_cons _ (segs_ne r), ih, hc]; rfl
    · rw [if_neg hc]
      split
      · rename_i e; exact absurd e (segs_ne r)
      · rename_i h t e
        rw [e] at ih
        cases t with
        | nil => simpa [pathP] using ih
        | cons b t => simpa [pathP] using ih
theorem segs_path : ∀ {t : List Bs}, t ≠ [] → (∀ x ∈ t, 47 ∉ x) → segs (pathP t) = t
  | [], h, _ => absurd rfl h
  | [a], _, h => segs_one (h a (by simp))
  | a :: b :: t, _, h => by
    rw [pathP_cons a (by simp), segs_more (h a (by simp)), segs_path (by simp) (fun x hx => h x (List.mem_cons_of_mem _ hx))]
theorem path_cut (l : Bs) : pathP (cutP l) = l := by
  unfold cutP
  split
  · rename_i h; rw [h]; rfl
  · exact path_segs l
theorem cutP_nil {l : Bs} : cutP l = [] ↔ l = [] := by
  unfold cutP
  split
  · simp [*]
  · simp [segs_ne, *]
theorem cutP_inj {a b : Bs} (h : cutP a = cutP b) : a = b := by rw [← path_cut a, ← path_cut b, h]
theorem path_nil {t : List Bs} (hne : ∀ x ∈ t, x ≠ []) (h : pathP t = []) : t = [] := by
  cases t with
  | nil => rfl
  | cons a t =>
    cases t with
    | nil => exact absurd h (hne a (by simp))
    | cons b t => rw [pathP_cons a (by simp)] at h; simp at h
theorem cut_path {t : List Bs} (hne : ∀ x ∈ t, x ≠ []) (hno : ∀ x ∈ t, 47 ∉ x) : cutP (pathP t) = t := by
  unfold cutP
  split
  · rename_i h; rw [path_nil hne h]
  · rename_i h
    refine segs_path (fun e => h ?_) hno
    rw [e]; rfl

/-! ### A path -/
def checkP (l : Bs) : Int := if 4000 < l.length ∨ 40 < (cutP l).length then 4 else if (cutP l).all stepOk then 0 else 12
theorem cutP_count (l : Bs) : (40 < (cutP l).length) ↔ 39 < l.count 47 := by
  unfold cutP
  split
  · rename_i h; simp [h]
  · rw [segs_count]; omega
end Go.Rel
end
