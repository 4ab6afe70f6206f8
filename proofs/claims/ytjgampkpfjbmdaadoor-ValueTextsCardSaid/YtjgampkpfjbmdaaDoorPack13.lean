/- Texts put together: RatI, RatLaws, RatW. -/
import Derived.Test.YtjgampkpfjbmdaaDoorPack12
import Derived.Test.YtjgampkpfjbmdaaDoorPack10
section
/- Sum of the reference. For every list of ratios of 64 bits. -/
namespace Go.Proofs.YtjgampkpfjbmdaaDoor
open Go.RowKit Go.Rel

end Go.Proofs.YtjgampkpfjbmdaaDoor
end
section
/- The plain laws of ratios: a field, within the range. -/
namespace Go.Proofs.YtjgampkpfjbmdaaDoor
open Go.RowKit Go.Rel

/-- The rational number that a ratio stands for. -/
def qv (a : Rat2) : Rat := Rat.divInt a.n a.d

theorem lowest_q {n d : Int} (h : d ≠ 0) : qv (lowest n d) = Rat.divInt n d ∧ 0 < (lowest n d).d ∧ Int.gcd (lowest n d).n (lowest n d).d = 1 := by
  obtain ⟨g, a, b, e, hg, hn, hd, hc⟩ := parts_of (n := n) h
  have hl := lowest_of hg e hn hd
  have hg' : (g : Int) ≠ 0 := by omega
  have hb0 : b ≠ 0 := fun h0 => h (by rw [hd, h0, Int.mul_zero])
  rw [hl]
  split
  · refine ⟨?_, by dsimp only; omega, by dsimp only; rw [Int.gcd_neg, Int.neg_gcd]; exact hc⟩
    unfold qv
    dsimp only
    rw [Rat.neg_divInt_neg, hn, hd, Rat.divInt_mul_left hg']
  · refine ⟨?_, by dsimp only; omega, hc⟩
    unfold qv
    dsimp only
    rw [hn, hd, Rat.divInt_mul_left hg']

/-- Two fractions in lowest terms that are equal are the same. -/
theorem low_inj {a b : Rat2} (ha : 0 < a.d) (ha' : Int.gcd a.n a.d = 1) (hb : 0 < b.d) (hb' : Int.gcd b.n b.d = 1) (h : qv a = qv b) : a = b := by
  have key : ∀ c : Rat2, 0 < c.d → Int.gcd c.n c.d = 1 → (qv c).num = c.n ∧ ((qv c).den : Int) = c.d := by
    intro c h1 h2
    unfold qv
    rw [Rat.num_divInt, Rat.den_divInt, if_neg (by omega), Int.gcd_comm, h2, Int.sign_eq_one_of_pos h1]
    simp
    omega
  obtain ⟨a1, a2⟩ := key a ha ha'
  obtain ⟨b1, b2⟩ := key b hb hb'
  rw [h] at a1 a2
  cases a; cases b
  simp at *
  omega
theorem ok_low {a : Rat2} (h : RatOk a) : 0 < a.d ∧ Int.gcd a.n a.d = 1 := ⟨by have := h.1; omega, h.2.2.2.2⟩
theorem ok_inj {a b : Rat2} (ha : RatOk a) (hb : RatOk b) (h : qv a = qv b) : a = b := low_inj (ok_low ha).1 (ok_low ha).2 (ok_low hb).1 (ok_low hb).2 h
/-- A fraction that is equal to a valid ratio is made to that one. -/
theorem make_q {n d : Int} {a : Rat2} (h : d ≠ 0) (ha : RatOk a) (hq : Rat.divInt n d = qv a) : makeR n d = a ∧ makeE n d = 0 := by
  obtain ⟨h1, h2, h3⟩ := lowest_q (n := n) h
  have e : lowest n d = a := low_inj h2 h3 (ok_low ha).1 (ok_low ha).2 (h1.trans hq)
  exact make_ok h e ha
theorem makeE_ok {n d : Int} (h : makeE n d = 0) : d ≠ 0 ∧ RatOk (makeR n d) ∧ qv (makeR n d) = Rat.divInt n d := by
  have hd : d ≠ 0 := fun e => by subst e; simp [makeE] at h
  by_cases ho : RatOk (lowest n d)
  · rw [(make_ok hd rfl ho).1]
    exact ⟨hd, ho, (lowest_q hd).1⟩
  · rw [(make_bad hd rfl ho).2] at h; omega
theorem makeE_range {n d : Int} (h : d ≠ 0) : makeE n d = 0 ∨ makeE n d = 16 := by
  unfold makeE; rw [if_neg h]; split <;> simp

theorem runE_ok {a b : Rat2} {p q : Int} (h : runE a b p q = 0) : RatOk a ∧ RatOk b ∧ makeE p q = 0 ∧ runV a b p q = makeR p q := by
  by_cases hab : RatOk a ∧ RatOk b
  · obtain ⟨h1, h2, -⟩ := run_yes p q hab
    rw [h2] at h
    exact ⟨hab.1, hab.2, h, h1⟩
  · rw [(run_no p q hab).2.1] at h; omega

section
variable {a b c : Rat2}
theorem add_q (h : opAddE a b = 0) : RatOk a ∧ RatOk b ∧ RatOk (opAddR a b) ∧ qv (opAddR a b) = qv a + qv b := by
  obtain ⟨ha, hb, hm, hr⟩ := runE_ok h
  obtain ⟨-, ho, hq⟩ := makeE_ok hm
  refine ⟨ha, hb, ?_, ?_⟩
  · unfold opAddR; rw [hr]; exact ho
  · unfold opAddR
    rw [hr, hq]
    unfold qv
    rw [Rat.divInt_add_divInt _ _ (by have := ha.1; omega) (by have := hb.1; omega)]
theorem sub_q (h : opSubE a b = 0) : RatOk a ∧ RatOk b ∧ RatOk (opSubR a b) ∧ qv (opSubR a b) = qv a - qv b := by
  obtain ⟨ha, hb, hm, hr⟩ := runE_ok h
  obtain ⟨-, ho, hq⟩ := makeE_ok hm
  refine ⟨ha, hb, ?_, ?_⟩
  · unfold opSubR; rw [hr]; exact ho
  · unfold opSubR
    rw [hr, hq]
    unfold qv
    rw [Rat.divInt_sub_divInt _ _ (by have := ha.1; omega) (by have := hb.1; omega)]
theorem mul_q (h : opMulE a b = 0) : RatOk a ∧ RatOk b ∧ RatOk (opMulR a b) ∧ qv (opMulR a b) = qv a * qv b := by
  obtain ⟨ha, hb, hm, hr⟩ := runE_ok h
  obtain ⟨-, ho, hq⟩ := makeE_ok hm
  refine ⟨ha, hb, ?_, ?_⟩
  · unfold opMulR; rw [hr]; exact ho
  · unfold opMulR
    rw [hr, hq]
    unfold qv
    rw [Rat.divInt_mul_divInt]
theorem add_comm_v (a b : Rat2) : opAddR a b = opAddR b a ∧ opAddE a b = opAddE b a := by
  have e1 : a.n * b.d + b.n * a.d = b.n * a.d + a.n * b.d := Int.add_comm _ _
  have e2 : a.d * b.d = b.d * a.d := Int.mul_comm _ _
  unfold opAddR opAddE runV runE
  rw [e1, e2]
  by_cases h1 : RatOk a <;> by_cases h2 : RatOk b <;> simp [h1, h2]
theorem mul_comm_v (a b : Rat2) : opMulR a b = opMulR b a ∧ opMulE a b = opMulE b a := by
  have e1 : a.n * b.n = b.n * a.n := Int.mul_comm _ _
  have e2 : a.d * b.d = b.d * a.d := Int.mul_comm _ _
  unfold opMulR opMulE runV runE
  rw [e1, e2]
  by_cases h1 : RatOk a <;> by_cases h2 : RatOk b <;> simp [h1, h2]
/-- A difference added gives the number again. -/
theorem sub_add_v (h : opSubE a b = 0) : opAddE (opSubR a b) b = 0 ∧ opAddR (opSubR a b) b = a := by
  obtain ⟨ha, hb, hs, hq⟩ := sub_q h
  obtain ⟨h1, h2, -⟩ := run_yes ((opSubR a b).n * b.d + b.n * (opSubR a b).d) ((opSubR a b).d * b.d) ⟨hs, hb⟩
  have hne : (opSubR a b).d * b.d ≠ 0 := Int.mul_ne_zero (by have := hs.1; omega) (by have := hb.1; omega)
  have hm := make_q (n := (opSubR a b).n * b.d + b.n * (opSubR a b).d) hne ha (by
    have : Rat.divInt ((opSubR a b).n * b.d + b.n * (opSubR a b).d) ((opSubR a b).d * b.d) = qv (opSubR a b) + qv b := by
      unfold qv
      rw [Rat.divInt_add_divInt _ _ (by have := hs.1; omega) (by have := hb.1; omega)]
    rw [this, hq, Rat.sub_add_cancel])
  exact ⟨h2.trans hm.2, h1.trans hm.1⟩
theorem div_zero_v (ha : RatOk a) (hb : RatOk b) (h0 : b.n = 0) : opDivE a b = 18 := by
  unfold opDivE
  rw [(run_yes _ _ ⟨ha, hb⟩).2.1, h0, Int.mul_zero]
  exact (make_zero _).2
/-- A quotient multiplied gives the number again. -/
theorem div_mul_v (ha : RatOk a) (hb : RatOk b) (h0 : b.n ≠ 0) : opDivE a b = 16 ∨ (opDivE a b = 0 ∧ opMulE (opDivR a b) b = 0 ∧ opMulR (opDivR a b) b = a) := by
  obtain ⟨r1, r2, -⟩ := run_yes (a.n * b.d) (a.d * b.n) ⟨ha, hb⟩
  have had : a.d ≠ 0 := by have := ha.1; omega
  have hbd : b.d ≠ 0 := by have := hb.1; omega
  have hne : a.d * b.n ≠ 0 := Int.mul_ne_zero had h0
  have hE : opDivE a b = makeE (a.n * b.d) (a.d * b.n) := r2
  have hR : opDivR a b = makeR (a.n * b.d) (a.d * b.n) := r1
  rcases makeE_range (n := a.n * b.d) hne with h | h
  · right
    obtain ⟨-, ho, hq⟩ := makeE_ok h
    rw [← hR] at ho hq
    obtain ⟨s1, s2, -⟩ := run_yes ((opDivR a b).n * b.n) ((opDivR a b).d * b.d) ⟨ho, hb⟩
    have hne2 : (opDivR a b).d * b.d ≠ 0 := Int.mul_ne_zero (by have := ho.1; omega) hbd
    have hm := make_q (n := (opDivR a b).n * b.n) hne2 ha (by
      have e1 : Rat.divInt ((opDivR a b).n * b.n) ((opDivR a b).d * b.d) = qv (opDivR a b) * qv b := by
        unfold qv
        rw [Rat.divInt_mul_divInt]
      rw [e1, hq]
      unfold qv
      rw [Rat.divInt_mul_divInt, Rat.divInt_eq_divInt_iff (Int.mul_ne_zero hne hbd) had]
      simp [Int.mul_left_comm, Int.mul_comm])
    exact ⟨hE.trans h, s2.trans hm.2, s1.trans hm.1⟩
  · exact .inl (hE.trans h)

theorem add_assoc_v (h1 : opAddE a b = 0) (h2 : opAddE b c = 0) (h3 : opAddE (opAddR a b) c = 0) (h4 : opAddE a (opAddR b c) = 0) : opAddR (opAddR a b) c = opAddR a (opAddR b c) := by
  obtain ⟨-, -, -, q1⟩ := add_q h1
  obtain ⟨-, -, -, q2⟩ := add_q h2
  obtain ⟨-, -, o3, q3⟩ := add_q h3
  obtain ⟨-, -, o4, q4⟩ := add_q h4
  exact ok_inj o3 o4 (by rw [q3, q4, q1, q2, Rat.add_assoc])
theorem add_mul_v (h1 : opAddE a b = 0) (h2 : opMulE (opAddR a b) c = 0) (h3 : opMulE a c = 0) (h4 : opMulE b c = 0) (h5 : opAddE (opMulR a c) (opMulR b c) = 0) : opMulR (opAddR a b) c = opAddR (opMulR a c) (opMulR b c) := by
  obtain ⟨-, -, -, q1⟩ := add_q h1
  obtain ⟨-, -, o2, q2⟩ := mul_q h2
  obtain ⟨-, -, -, q3⟩ := mul_q h3
  obtain ⟨-, -, -, q4⟩ := mul_q h4
  obtain ⟨-, -, o5, q5⟩ := add_q h5
  exact ok_inj o2 o5 (by rw [q2, q5, q1, q3, q4, Rat.add_mul])

/-! ### Comparison -/
theorem sgn_swap (x y : Int) : sgn x y = -sgn y x := by unfold sgn; repeat' split <;> omega
theorem sgn_zero (x y : Int) : sgn x y = 0 ↔ x = y := by unfold sgn; repeat' split <;> omega
theorem sgn_pos (x y : Int) : 0 < sgn x y ↔ y < x := by unfold sgn; repeat' split <;> omega
theorem cmp_eq_iff (ha : RatOk a) (hb : RatOk b) : sgn (a.n * b.d) (b.n * a.d) = 0 ↔ a = b := by
  rw [sgn_zero]
  constructor
  · intro h
    refine ok_inj ha hb ?_
    unfold qv
    rw [Rat.divInt_eq_divInt_iff (by have := ha.1; omega) (by have := hb.1; omega)]
    exact h
  · rintro rfl; rfl
theorem lowest_sign {n d : Int} (hd : 0 < d) : 0 < (lowest n d).n ↔ 0 < n := by
  obtain ⟨g, a, b, e, hg, hn, hd', hc⟩ := parts_of (n := n) (show d ≠ 0 by omega)
  have hl := lowest_of hg e hn hd'
  have hb : ¬ b < 0 := fun h => by
    have := Int.mul_neg_of_pos_of_neg (show (0 : Int) < g by omega) h
    omega
  rw [hl, if_neg hb, hn]
  dsimp only
  constructor
  · intro h; exact Int.mul_pos (by omega) h
  · intro h
    exact Int.not_le.1 fun h' => absurd (Int.mul_nonneg (show (0 : Int) ≤ g by omega) (show 0 ≤ -a by omega)) (by rw [Int.mul_neg]; omega)
theorem sub_sign (h : opSubE a b = 0) : 0 < (opSubR a b).n ↔ 0 < sgn (a.n * b.d) (b.n * a.d) := by
  obtain ⟨ha, hb, hm, hr⟩ := runE_ok h
  obtain ⟨h1, -, -⟩ := makeE_ok hm
  have hd : 0 < a.d * b.d := Int.mul_pos (by have := ha.1; omega) (by have := hb.1; omega)
  have ho : RatOk (lowest (a.n * b.d - b.n * a.d) (a.d * b.d)) := by
    by_cases ho : RatOk (lowest (a.n * b.d - b.n * a.d) (a.d * b.d))
    · exact ho
    · rw [(make_bad h1 rfl ho).2] at hm; omega
  unfold opSubR
  rw [hr, (make_ok h1 rfl ho).1, lowest_sign hd, sgn_pos]
  omega
/-- Floor and ceiling. -/
theorem floor_ceil (ha : RatOk a) : a.n / a.d ≤ -(-a.n / a.d) ∧ -(-a.n / a.d) - a.n / a.d = (if a.d - 1 < 1 then a.d - 1 else 1) ∧ a.n / a.d * a.d ≤ a.n ∧ a.n ≤ -(-a.n / a.d) * a.d := by
  obtain ⟨h1, h2, h3, h4, h5⟩ := ha
  have e1 := Int.mul_ediv_add_emod a.n a.d
  have e2 := Int.mul_ediv_add_emod (-a.n) a.d
  have r1 := Int.emod_nonneg a.n (show a.d ≠ 0 by omega)
  have r2 := Int.emod_lt_of_pos a.n (show 0 < a.d by omega)
  have r3 := Int.emod_nonneg (-a.n) (show a.d ≠ 0 by omega)
  have r4 := Int.emod_lt_of_pos (-a.n) (show 0 < a.d by omega)
  obtain ⟨q, hq⟩ : ∃ q, a.n / a.d = q := ⟨_, rfl⟩
  obtain ⟨p, hp⟩ : ∃ p, -a.n / a.d = p := ⟨_, rfl⟩
  obtain ⟨r, hr⟩ : ∃ r, a.n % a.d = r := ⟨_, rfl⟩
  obtain ⟨s, hs⟩ : ∃ s, -a.n % a.d = s := ⟨_, rfl⟩
  rw [hq, hr] at e1
  rw [hp, hs] at e2
  rw [hr] at r1 r2
  rw [hs] at r3 r4
  rw [hq, hp]
  have hsum : a.d * (q + p) + (r + s) = 0 := by rw [Int.mul_add]; omega
  have m1 : q * a.d = a.d * q := Int.mul_comm _ _
  have m2 : -p * a.d = -(a.d * p) := by rw [Int.neg_mul, Int.mul_comm]
  have hqp : (q + p = 0 ∧ r + s = 0) ∨ (q + p = -1 ∧ r + s = a.d) := by
    have hlt : q + p = 0 ∨ q + p ≤ -1 ∨ 1 ≤ q + p := by omega
    rcases hlt with h | h | h
    · left; rw [h, Int.mul_zero] at hsum; omega
    · right
      have : a.d * (q + p) ≤ a.d * (-1) := Int.mul_le_mul_of_nonneg_left h (by omega)
      by_cases h' : q + p = -1
      · rw [h'] at hsum; omega
      · have : a.d * (q + p) ≤ a.d * (-2) := Int.mul_le_mul_of_nonneg_left (by omega) (by omega)
        omega
    · have : a.d * 1 ≤ a.d * (q + p) := Int.mul_le_mul_of_nonneg_left h (by omega)
      omega
  refine ⟨by omega, ?_, by omega, by omega⟩
  rcases hqp with ⟨h, h'⟩ | ⟨h, h'⟩
  · have hr0 : r = 0 := by omega
    have hdiv : a.d ∣ a.n := ⟨q, by omega⟩
    have hg : Int.gcd a.n a.d = a.d.natAbs := by rw [Int.gcd_comm]; exact Int.gcd_eq_natAbs_left hdiv
    rw [h5] at hg
    have : a.d = 1 := by omega
    rw [if_pos (by omega)]; omega
  · have : ¬ a.d = 1 := by omega
    rw [if_neg (by omega)]; omega

/-! ### Sums of lists -/
theorem sumP_q : ∀ (l : List Rat2) (s : Rat2), RatOk s → (sumP l s).2 = 0 → RatOk (sumP l s).1 ∧ qv (sumP l s).1 = (l.map qv).foldl (· + ·) (qv s)
  | [], s, hs, _ => ⟨hs, rfl⟩
  | x :: l, s, hs, h => by
    simp only [sumP] at h ⊢
    by_cases he : opAddE s x = 0
    · rw [if_pos he] at h ⊢
      obtain ⟨-, -, h1, h2⟩ := add_q he
      have := sumP_q l _ h1 h
      rw [h2] at this
      exact this
    · rw [if_neg he] at h
      exact absurd h he
theorem foldl_add (l : List Rat) : ∀ s : Rat, l.foldl (· + ·) s = s + l.foldl (· + ·) 0 := by
  induction l with
  | nil => intro s; simp [Rat.add_zero]
  | cons x l ih =>
    intro s
    simp only [List.foldl_cons]
    rw [ih (s + x), ih (0 + x), Rat.zero_add, Rat.add_assoc]
theorem sumP_first : ∀ (l m : List Rat2) (s : Rat2), (sumP (l ++ m) s).2 = 0 → (sumP l s).2 = 0
  | [], m, s, _ => rfl
  | x :: l, m, s, h => by
    simp only [List.cons_append, sumP] at h ⊢
    by_cases he : opAddE s x = 0
    · rw [if_pos he] at h ⊢; exact sumP_first l m _ h
    · rw [if_neg he] at h; exact absurd h he
theorem zero_ok : RatOk ⟨0, 1⟩ := by unfold RatOk; decide
theorem sumR_q {l : List Rat2} (h : sumE l = 0) : RatOk (sumR l) ∧ qv (sumR l) = (l.map qv).foldl (· + ·) 0 := by
  unfold sumE at h
  unfold sumR
  split at h
  · omega
  · rename_i hl
    rw [if_neg hl]
    have := sumP_q l _ zero_ok h
    have e0 : qv ⟨0, 1⟩ = 0 := by unfold qv; simp
    rw [e0] at this
    exact this
theorem sum_first {l : List Rat2} (k : Nat) (h : sumE l = 0) : sumE (l.take k) = 0 := by
  unfold sumE at *
  split at h
  · omega
  · rename_i hl
    rw [if_neg (by rw [List.length_take]; omega)]
    exact sumP_first (l.take k) (l.drop k) _ (by rw [List.take_append_drop]; exact h)
theorem sum_parts {l : List Rat2} (k : Nat) (h : sumE l = 0) (h1 : sumE (l.take k) = 0) (h2 : sumE (l.drop k) = 0) (h3 : opAddE (sumR (l.take k)) (sumR (l.drop k)) = 0) : opAddR (sumR (l.take k)) (sumR (l.drop k)) = sumR l := by
  obtain ⟨o, q⟩ := sumR_q h
  obtain ⟨o1, q1⟩ := sumR_q h1
  obtain ⟨o2, q2⟩ := sumR_q h2
  obtain ⟨-, -, o3, q3⟩ := add_q h3
  refine ok_inj o3 o ?_
  rw [q3, q1, q2, q, ← foldl_add, ← List.foldl_append, ← List.map_append, List.take_append_drop]
end
end Go.Proofs.YtjgampkpfjbmdaaDoor
end
section
/- Parse of Text is the ratio; a ratio made of multiples is the ratio (plain Lean, no program). -/
namespace Go.Rel
open Go.RowKit
theorem dec_small {u : Nat} (h : u < 10) : Lib.decDigits u = [UInt8.ofNat (48 + u)] := by rw [Lib.decDigits, dif_pos h]
theorem dec_big {u : Nat} (h : ¬ u < 10) : Lib.decDigits u = Lib.decDigits (u / 10) ++ [UInt8.ofNat (48 + u % 10)] := by rw [Lib.decDigits, dif_neg h]
theorem dig_nat {k : Nat} (h : k < 10) : (UInt8.ofNat (48 + k)).toNat = 48 + k := by rw [UInt8.toNat_ofNat']; omega
theorem dec_all (u : Nat) : (Lib.decDigits u).all isD = true := by
  induction u using Nat.strongRecOn with
  | ind u ih =>
    by_cases h : u < 10
    · rw [dec_small h]
      simp only [List.all_cons, List.all_nil, Bool.and_true, isD, decide_eq_true_eq]
      rw [dig_nat h]; omega
    · rw [dec_big h, List.all_append, ih (u / 10) (by omega)]
      simp only [List.all_cons, List.all_nil, Bool.and_true, Bool.true_and, isD, decide_eq_true_eq]
      rw [dig_nat (by omega)]; omega
theorem dec_num (u : Nat) : numOf (Lib.decDigits u) 0 = u := by
  induction u using Nat.strongRecOn with
  | ind u ih =>
    by_cases h : u < 10
    · rw [dec_small h]
      simp only [numOf]
      rw [dig_nat h]; omega
    · rw [dec_big h, numOf_append, ih (u / 10) (by omega)]
      simp only [numOf]
      rw [dig_nat (by omega)]; omega
theorem dec_ne (u : Nat) : Lib.decDigits u ≠ [] := by
  by_cases h : u < 10
  · rw [dec_small h]; simp
  · rw [dec_big h]; simp
theorem dec_head {u : Nat} (h1 : 1 ≤ u) : (Lib.decDigits u).head? ≠ some 48 := by
  induction u using Nat.strongRecOn with
  | ind u ih =>
    by_cases h : u < 10
    · rw [dec_small h]
      simp only [List.head?_cons, ne_eq, Option.some.injEq]
      intro e
      have := congrArg UInt8.toNat e
      rw [dig_nat h] at this
      simp at this
      omega
    · rw [dec_big h, List.head?_append]
      have hi := ih (u / 10) (by omega) (by omega)
      have hn := dec_ne (u / 10)
      cases hd : Lib.decDigits (u / 10) with
      | nil => exact absurd hd hn
      | cons x t => rw [hd] at hi; simpa using hi
theorem dec_len : ∀ (k u : Nat), u < 10 ^ (k + 1) → (Lib.decDigits u).length ≤ k + 1
  | 0, u, h => by rw [dec_small (by simpa using h)]; simp
  | k + 1, u, h => by
    by_cases h10 : u < 10
    · rw [dec_small h10]; simp
    · rw [dec_big h10, List.length_append]
      have h2 : u / 10 < 10 ^ (k + 1) := by rw [Nat.pow_succ] at h; omega
      have := dec_len k (u / 10) h2
      simp
      omega
theorem dec_ok {u : Nat} (h : u < 10000000000) : digOkT (Lib.decDigits u) = true ∧ numT (Lib.decDigits u) = u := by
  have hl := dec_len 9 u (by simpa using h)
  have hp := List.length_pos_iff.2 (dec_ne u)
  have ho : digOkT (Lib.decDigits u) = true := by
    unfold digOkT
    rw [dec_all, decide_eq_true (show 1 ≤ (Lib.decDigits u).length ∧ (Lib.decDigits u).length ≤ 10 by omega)]
    by_cases h0 : u = 0
    · subst h0; rw [dec_small (by decide)]; rfl
    · simp [dec_head (show 1 ≤ u by omega)]
  refine ⟨ho, ?_⟩
  unfold numT
  rw [if_pos ho, dec_num]
theorem dec_no {c : UInt8} (hc : isD c = false) (u : Nat) : c ∉ Lib.decDigits u := fun h => by
  have := List.all_eq_true.1 (dec_all u) c h
  rw [this] at hc; cases hc
/-- A text's tail: the denominator, if it is not one. -/
theorem parse_rest {m : Nat} {d : Int} (hm : m < 10000000000) (hd : 1 ≤ d) (hd2 : d ≤ 1000000000) (R : Bs) (hR : R = Lib.decDigits m ++ if d = 1 then [] else 47 :: Lib.itoa d) :
    digOkT (bef 47 R) = true ∧ numT (bef 47 R) = m ∧ digOkT (if 47 ∈ R then aft 47 R else [49]) = true ∧ numT (if 47 ∈ R then aft 47 R else [49]) = d := by
  have h47 := dec_no (c := 47) (by decide) m
  obtain ⟨o1, o2⟩ := dec_ok hm
  by_cases h1 : d = 1
  · rw [if_pos h1, List.append_nil] at hR
    subst hR
    rw [(bef_none h47).1, if_neg h47]
    exact ⟨o1, o2, by decide, by rw [h1]; decide⟩
  · rw [if_neg h1] at hR
    subst hR
    have hi : Lib.itoa d = Lib.decDigits d.toNat := by unfold Lib.itoa; rw [if_neg (by omega)]
    obtain ⟨e1, e2⟩ := dec_ok (u := d.toNat) (by omega)
    have hb := bef_unique (b := Lib.itoa d) h47
    rw [hb.1, if_pos (by simp), hb.2, hi]
    exact ⟨o1, o2, e1, by rw [e2]; omega⟩
theorem parse_text {a : Rat2} (ha : RatOk a) : parseOk (textL a) ∧ outP (textL a) = a := by
  obtain ⟨h1, h2, h3, h4, h5⟩ := id ha
  have key : minusB (textL a) = decide (a.n < 0) ∧ restL (textL a) = Lib.decDigits a.n.natAbs ++ if a.d = 1 then [] else 47 :: Lib.itoa a.d := by
    unfold textL minusB restL Lib.trimPrefix Lib.itoa
    by_cases hn : a.n < 0
    · rw [if_pos hn, decide_eq_true hn]
      simp [Lib.hasPrefix]
    · rw [if_neg hn, decide_eq_false hn]
      have hab : a.n.toNat = a.n.natAbs := by omega
      rw [hab]
      have hne := dec_ne a.n.natAbs
      have h45 := dec_no (c := 45) (by decide) a.n.natAbs
      cases hd : Lib.decDigits a.n.natAbs with
      | nil => exact absurd hd hne
      | cons x t =>
        rw [hd] at h45
        have hx : ¬ (45 : UInt8) = x := fun e => h45 (by rw [e]; simp)
        have hp : Lib.hasPrefix ((x :: t) ++ if a.d = 1 then [] else 47 :: (if a.d < 0 then 45 :: Lib.decDigits a.d.natAbs else Lib.decDigits a.d.toNat)) [45] = false := by
          unfold Lib.hasPrefix
          rw [List.cons_append]
          simp [List.isPrefixOf, hx]
        rw [hp]
        exact ⟨rfl, rfl⟩
  obtain ⟨k1, k2, k3, k4⟩ := parse_rest (m := a.n.natAbs) (by omega) h1 h2 _ key.2
  have ho : outP (textL a) = a := by
    unfold outP numL denL
    rw [key.1, k2, k4]
    by_cases hn : a.n < 0
    · rw [decide_eq_true hn, if_pos rfl]
      have : -((a.n.natAbs : Nat) : Int) = a.n := by omega
      rw [this]
    · rw [decide_eq_false hn, if_neg (by simp)]
      have : ((a.n.natAbs : Nat) : Int) = a.n := by omega
      rw [this]
  refine ⟨⟨k1, k3, by rw [ho]; exact ha, by rw [ho]⟩, ho⟩
end Go.Rel
namespace Go.Proofs.YtjgampkpfjbmdaaDoor
open Go.RowKit Go.Rel
theorem make_times {a : Rat2} {f : Int} (ha : RatOk a) (hf : f ≠ 0) : makeR (a.n * f) (a.d * f) = a ∧ makeE (a.n * f) (a.d * f) = 0 := by
  have hd : a.d ≠ 0 := by have := ha.1; omega
  refine make_q (Int.mul_ne_zero hd hf) ha ?_
  unfold qv
  exact Rat.divInt_mul_right hf
end Go.Proofs.YtjgampkpfjbmdaaDoor
end
