/- size, gcd, common: the absolute value and the greatest common divisor. -/
import Derived.Test.YtjgampkpfjbmdaaRows
import Derived.Test.YtjgampkpfjbmdaaRegion
import Derived.Test.YtjgampkpfjbmdaaRatSpec
import Derived.WalkKit
import Derived.WalkSpells
import Derived.WalkLawsBesides
import Derived.Deep.QuietTactic
import Derived.BigQuiet
import Derived.Laws.Bits64
namespace Go.Proofs.Ytjgampkpfjbmdaa
open Go.RowKit Go.Rel

theorem size_any (a : Int) (w : World) (h1 : -9223372036854775808 ≤ a) (h2 : a ≤ 9223372036854775807) :
    Calls Try.prog 45 #[.int .i64 a] w (Same w (.int .u64 a.natAbs)) := by
  go_enter Try.func45, Try.ntmps45
  go_wp2
  all_goals
    go_ret
    refine same_int ?_
    (try simp only [IntKind.wrap_u64])
    omega

set_option maxHeartbeats 400000 in
theorem gcd_any (a b : Nat) (w : World) (ha : a < 18446744073709551616) (hb : b < 18446744073709551616) :
    Calls Try.prog 46 #[.int .u64 a, .int .u64 b] w (Ret w (.int .u64 (Nat.gcd a b))) := by
  go_enter Try.func46, Try.ntmps46
  go_wp2
  go_loopw [0, 1] (fun x y wr => ∃ p q : Nat, p < 18446744073709551616 ∧ q < 18446744073709551616 ∧ x = .int .u64 p ∧ y = .int .u64 q ∧ Nat.gcd p q = Nat.gcd a b ∧ Below w.heap.size w wr) (fun _ y _ => (intOf y).toNat)
  case atStart => exact ⟨a, b, ha, hb, rfl, rfl, rfl, Below.refl _ _⟩
  case round =>
    obtain ⟨p, q, hp, hq, rfl, rfl, hg, hbl⟩ := hrel
    have HG := Lib.hid hg
    clear hg
    by_cases h0 : q = 0
    · subst h0
      go_wp2_with fail
      go_ret
      exact ret_int (by rw [← HG.out, Nat.gcd_zero_right]) hbl
    · have e0 : ((q : Int) == 0) = false := by simp; omega
      go_wp2_with fail
      go_quiet (fail)
      go_wp2_with fail
      have hlt : p % q < q := Nat.mod_lt _ (by omega)
      go_roundw
      case rel =>
        refine ⟨q, p % q, hq, by omega, by go_num, by go_num, ?_, below_drewN hbl _⟩
        rw [← HG.out, Nat.gcd_comm p q, Nat.gcd_rec q p, Nat.gcd_comm]
      case measure => simp [intOf]; omega

theorem gcd_tmod (p q : Int) : Int.gcd q (p.tmod q) = Int.gcd p q := by
  simp only [Int.gcd, Int.natAbs_tmod]
  rw [Nat.gcd_comm p.natAbs, Nat.gcd_rec q.natAbs p.natAbs, Nat.gcd_comm]

set_option maxHeartbeats 400000 in
theorem common_any (a b : Int) (w : World) (ha : -9223372036854775807 ≤ a) (ha' : a ≤ 9223372036854775807) (hb : -9223372036854775807 ≤ b) (hb' : b ≤ 9223372036854775807) :
    Calls Try.prog 47 #[.int .i64 a, .int .i64 b] w (Ret w (.int .i64 (Int.gcd a b))) := by
  go_enter Try.func47, Try.ntmps47
  go_wp2
  go_loopw [0, 1] (fun x y wr => ∃ p q : Int, -9223372036854775807 ≤ p ∧ p ≤ 9223372036854775807 ∧ -9223372036854775807 ≤ q ∧ q ≤ 9223372036854775807 ∧ x = .int .i64 p ∧ y = .int .i64 q ∧ Int.gcd p q = Int.gcd a b ∧ Below w.heap.size w wr) (fun _ y _ => (intOf y).natAbs)
  case atStart => exact ⟨a, b, ha, ha', hb, hb', rfl, rfl, rfl, Below.refl _ _⟩
  case round =>
    obtain ⟨p, q, hp, hp', hq, hq', rfl, rfl, hg, hbl⟩ := hrel
    have HG := Lib.hid hg
    clear hg
    by_cases h0 : q = 0
    · subst h0
      go_wp2_with fail
      all_goals
        go_ret
        refine ret_int ?_ hbl
        rw [← HG.out, Int.gcd_zero_right]
        omega
    · have e0 : (q == 0) = false := by simp; omega
      obtain ⟨m, hm⟩ : ∃ m, p.tmod q = m := ⟨_, rfl⟩
      have hn : m.natAbs < q.natAbs := by rw [← hm, Int.natAbs_tmod]; exact Nat.mod_lt _ (by omega)
      have hmw : IntKind.i64.wrap m = m := by rw [IntKind.wrap_i64]; omega
      have HM := Lib.hid hm
      go_wp2_with fail
      go_quiet (fail)
      go_wp2_with fail
      go_roundw
      case rel =>
        refine ⟨q, m, hq, hq', by omega, by omega, by go_num, by go_num, ?_, below_drewN hbl _⟩
        rw [← HG.out, ← HM.out, gcd_tmod]
      case measure => simp [intOf]; omega
end Go.Proofs.Ytjgampkpfjbmdaa
