import Derived.Test.YtfdjhiomdimfcaaCurveA
namespace Go.Proofs.Ytfdjhiomdimfcaa
open Go.RowKit Go.Rel

theorem Try.infoVec : (Try.prog.info? 31).map (fun i => (i.zero, i.size, i.bytes)) = some (some (.agg #[.int .i64 0, .int .i64 0, .int .i64 0]), 3, 24) := by kernel_rfl

theorem Try.eqGuard31 : Try.prog.eqGuardType Try.prog.depth 31 = false := by kernel_rfl
theorem Try.stood31 : Try.prog.stoodInHeld 31 = false := by kernel_rfl
theorem Try.fields31 : Try.prog.underlying 31 = some (.struct (Try.prog.fieldsOf 31)) := by kernel_rfl
theorem vecEqIn (x y z x' y' z' : Int) (w : World) : (Op.equalIn 10000 31 (.agg #[.int .i64 x, .int .i64 y, .int .i64 z]) (.agg #[.int .i64 x', .int .i64 y', .int .i64 z'])).run Try.prog w = .ok (sameB x y z x' y' z') w := by
  rw [run_equalIn_agg w 9999 31 _ _ Try.fields31 Try.stood31]
  have : Try.prog.fieldsOf 31 = #[{ name := "X", type := 3, offset := 0, embedded := false, tag := "", pkgPath := "", byteOffset := 0 },
        { name := "Y", type := 3, offset := 1, embedded := false, tag := "", pkgPath := "", byteOffset := 8 },
        { name := "Z", type := 3, offset := 2, embedded := false, tag := "", pkgPath := "", byteOffset := 16 }] := by unfold Program.fieldsOf; rw [Try.underlying31]
  rw [this]
  by_cases h1 : x = x' <;> by_cases h2 : y = y' <;> by_cases h3 : z = z' <;> simp [Op.eqFields, part, go_sem, h1, h2, h3, sameB, Try.underlying3]
theorem vecEql (x y z x' y' z' : Int) (w : World) : (binOp .eql 31 (.agg #[.int .i64 x, .int .i64 y, .int .i64 z]) (.agg #[.int .i64 x', .int .i64 y', .int .i64 z'])).run Try.prog w = .ok (.bool (sameB x y z x' y' z')) w := by
  rw [run_eql_struct, vecEqIn]; rfl
theorem vecNeq (x y z x' y' z' : Int) (w : World) : (binOp .neq 31 (.agg #[.int .i64 x, .int .i64 y, .int .i64 z]) (.agg #[.int .i64 x', .int .i64 y', .int .i64 z'])).run Try.prog w = .ok (.bool (!sameB x y z x' y' z')) w := by
  rw [run_neq_struct, vecEqIn]; rfl

theorem check_n (A : Option Addr) (n cap : Nat) (l : List Vec) (down : Int) (closed : Bool) (w : World) (hn : l.length = n) (hl : n ≤ 4611686018427387904) (hv : Vecs w w.heap.size A l) :
    Calls Try.prog 21 #[.agg #[.slice A n cap, .int .i64 down, .bool closed]] w (Ret w (.int .i64 (checkE l down))) := by
  subst hn
  exact check_any A cap l down closed w hl hv

theorem pow_bounds {k : Nat} (hk : k ≤ 30) : (1 : Int) ≤ 2 ^ k ∧ (2 : Int) ^ k ≤ 1073741824 := by
  have h1 : 0 < 2 ^ k := Nat.two_pow_pos k
  have h2 : 2 ^ k ≤ 2 ^ 30 := Nat.pow_le_pow_right (by omega) hk
  have e : ((2 ^ k : Nat) : Int) = (2 : Int) ^ k := by simp
  omega

/-- The reference's 'near': its quotient, rounded to nought first. -/
theorem tdiv_facts (n B : Int) (h0 : 1 ≤ B) (h1 : B ≤ 1073741824) (hn : -1000000000000 ≤ n) (hn' : n ≤ 1000000000000) :
    -1000000000000 ≤ n.tdiv B ∧ n.tdiv B ≤ 1000000000000 ∧ n - B < n.tdiv B * B ∧ n.tdiv B * B < n + B := by
  rw [tdiv_eq_if]
  split
  · rename_i h
    have e := Int.mul_ediv_add_emod n B
    have r1 := Int.emod_nonneg n (show B ≠ 0 by omega)
    have r2 := Int.emod_lt_of_pos n (show 0 < B by omega)
    have e' : n / B * B = B * (n / B) := Int.mul_comm _ _
    have q1 : 0 ≤ n / B := Int.ediv_nonneg h (by omega)
    have q2 : n / B ≤ n := Int.ediv_le_self _ h
    omega
  · rename_i h
    have e := Int.mul_ediv_add_emod (-n) B
    have r1 := Int.emod_nonneg (-n) (show B ≠ 0 by omega)
    have r2 := Int.emod_lt_of_pos (-n) (show 0 < B by omega)
    have e' : -(-n / B) * B = -(B * (-n / B)) := by rw [Int.neg_mul, Int.mul_comm]
    have q1 : 0 ≤ -n / B := Int.ediv_nonneg (by omega) (by omega)
    have q2 : -n / B ≤ -n := Int.ediv_le_self _ (by omega)
    omega

/-- The quotient rounded down, and what is left over: a half up. -/
theorem near_of {n B q : Int} {d : Nat} (hB : (2 : Int) ^ d = B) (h0 : 1 ≤ B) (hq : q * B ≤ n) (hq' : n < q * B + B) :
    nearI n d = if B ≤ 2 * (n - q * B) then q + 1 else q := by
  unfold nearI
  rw [hB]
  have hE : B = 1 ∨ B % 2 = 0 := by
    cases d with
    | zero => left; simpa using hB.symm
    | succ d => right; rw [← hB, Int.pow_succ]; omega
  have e1 : (q + 1) * B = q * B + B := by rw [Int.add_mul, Int.one_mul]
  split
  · rename_i h
    refine (Int.ediv_eq_iff_of_pos (by omega)).2 ?_
    have e2 : (q + 1 + 1) * B = q * B + B + B := by rw [Int.add_mul, Int.one_mul, e1]
    rw [e1]
    omega
  · rename_i h
    refine (Int.ediv_eq_iff_of_pos (by omega)).2 ?_
    omega

set_option maxHeartbeats 400000 in
theorem near_any (n : Int) (d : Nat) (w : World) (h1 : -1000000000000 ≤ n) (h2 : n ≤ 1000000000000) (hd : d ≤ 30) :
    Calls Try.prog 33 #[.int .i64 n, .int .i64 d] w (Same w (.int .i64 (nearI n d))) := by
  go_enter Try.func33, Try.ntmps33
  go_wp2
  go_loop [5, 6] (fun b i => ∃ k : Nat, k ≤ d ∧ i = .int .i64 k ∧ ∃ B : Int, 2 ^ k = B ∧ b = .int .i64 B) (fun _ i => d - (intOf i).toNat)
  case atStart => exact ⟨0, Nat.zero_le _, rfl, 1, rfl, rfl⟩
  case round =>
    obtain ⟨k, hk, rfl, B, hB, rfl⟩ := hrel
    have hb1 : 1 ≤ B := by rw [← hB]; exact (pow_bounds (by omega)).1
    have hb2 : B ≤ 1073741824 := by rw [← hB]; exact (pow_bounds (by omega)).2
    have HB := Lib.hid hB
    clear hB
    by_cases hlt : k < d
    · go_wp2
      go_round
      case rel => exact ⟨k + 1, by omega, by go_num, 2 * B, by rw [Int.pow_succ, HB.out, Int.mul_comm], rfl⟩
      case measure => simp [intOf]; omega
    · obtain rfl : k = d := by omega
      obtain ⟨q, hq⟩ : ∃ q, n.tdiv B = q := ⟨_, rfl⟩
      obtain ⟨m, hm⟩ : ∃ m, q * B = m := ⟨_, rfl⟩
      have hm' : (q - 1) * B = m - B := by rw [Int.sub_mul, hm, Int.one_mul]
      have hf := tdiv_facts n B hb1 hb2 h1 h2
      rw [hq, hm] at hf
      obtain ⟨f1, f2, f3, f4⟩ := hf
      have HM := Lib.hid hm
      have HM' := Lib.hid hm'
      go_wp2
      all_goals
        go_ret
        refine same_int ?_
      · rw [near_of HB.out hb1 (q := q - 1) (by rw [HM'.out]; omega) (by rw [HM'.out]; omega), HM'.out, if_pos (by omega)]; omega
      · rw [near_of HB.out hb1 (q := q - 1) (by rw [HM'.out]; omega) (by rw [HM'.out]; omega), HM'.out, if_neg (by omega)]
      · rw [near_of HB.out hb1 (q := q) (by rw [HM.out]; omega) (by rw [HM.out]; omega), HM.out, if_pos (by omega)]
      · rw [near_of HB.out hb1 (q := q) (by rw [HM.out]; omega) (by rw [HM.out]; omega), HM.out, if_neg (by omega)]
end Go.Proofs.Ytfdjhiomdimfcaa
