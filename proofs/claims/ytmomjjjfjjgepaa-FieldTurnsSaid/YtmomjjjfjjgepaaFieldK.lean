/- Same: whether two fields are equal. -/
import Derived.Test.YtmomjjjfjjgepaaFieldH
namespace Go.Proofs.Ytmomjjjfjjgepaa
open Go.RowKit Go.Rel

def pullEq (u u' : Pull) : Bool := ptB u.x u.y u'.x u'.y && (decide (u.kind = u'.kind) && (decide (u.weight = u'.weight) && decide (u.reach = u'.reach)))
theorem pullEq_iff (u u' : Pull) : pullEq u u' = decide (u = u') := by
  obtain ⟨a, b, c, d, e⟩ := u
  obtain ⟨a', b', c', d', e'⟩ := u'
  rw [Bool.eq_iff_iff]
  simp [pullEq, ptB, and_assoc]
theorem Try.eqGuardPull : Try.prog.eqGuardType Try.prog.depth 52 = false := by kernel_rfl
theorem Try.stoodPull : Try.prog.stoodInHeld 52 = false := by kernel_rfl
theorem Try.fieldsPull : Try.prog.underlying 52 = some (.struct (Try.prog.fieldsOf 52)) := by kernel_rfl
theorem Try.cellsPt2 : Try.prog.cellsOf 24 = 2 := by kernel_rfl
theorem pullEqIn (u u' : Pull) (w : World) : (Op.equalIn 10000 52 u.v u'.v).run Try.prog w = .ok (pullEq u u') w := by
  obtain ⟨a, b, c, d, e⟩ := u
  obtain ⟨a', b', c', d', e'⟩ := u'
  have hpt := fun w => ptEqIn 9997 a b a' b' w
  rw [run_equalIn_agg w 9999 52 _ _ Try.fieldsPull Try.stoodPull]
  unfold Program.fieldsOf
  rw [Try.underlying52]
  cases h0 : ptB a b a' b' <;> rw [h0] at hpt <;> by_cases h1 : c = c' <;> by_cases h2 : d = d' <;> by_cases h3 : e = e' <;> simp [Op.eqFields, part, go_sem, h0, h1, h2, h3, hpt, pullEq, Try.underlying3, Try.underlying5]

theorem pullEql (u u' : Pull) (w : World) : (binOp .eql 52 u.v u'.v).run Try.prog w = .ok (.bool (pullEq u u')) w := by
  rw [run_eql_struct, pullEqIn]; rfl
theorem pullNeq (a b c d e a' b' c' d' e' : Int) (w : World) : (binOp .neq 52 (.agg #[.int .i64 a, .int .i64 b, .int .u8 c, .int .i64 d, .int .i64 e]) (.agg #[.int .i64 a', .int .i64 b', .int .u8 c', .int .i64 d', .int .i64 e'])).run Try.prog w = .ok (.bool (!pullEq ⟨a, b, c, d, e⟩ ⟨a', b', c', d', e'⟩)) w := by
  have := pullEqIn ⟨a, b, c, d, e⟩ ⟨a', b', c', d', e'⟩ w
  rw [run_neq_struct, this]; rfl

set_option maxHeartbeats 1000000 in
/-- Same: whether two lists are equal. -/
theorem same_any (A A' : Option Addr) (n n' cap cap' : Nat) (l l' : List Pull) (w : World) (hn : l.length = n) (hn' : l'.length = n') (hl : n ≤ 4611686018427387904) (hl' : n' ≤ 4611686018427387904) (hv : Recs Pull.cells 5 w w.heap.size A l) (hv' : Recs Pull.cells 5 w w.heap.size A' l') :
    Calls Try.prog 21 #[.slice A n cap, .slice A' n' cap'] w (Ret w (.bool (decide (l = l')))) := by
  by_cases hne : n = n'
  · subst hne
    have HN := Lib.hid hn
    have HN' := Lib.hid hn'
    clear hn hn'
    have hvn := pullNeq
    have hm31 := Try.eqGuardPull
    go_enter Try.func21, Try.ntmps21
    go_wp2_with fail
    go_loopw [5] (fun i wr => ∃ k : Nat, k ≤ n ∧ i = .int .i64 k ∧ l.take k = l'.take k ∧ Below w.heap.size w wr) (fun i _ => n - (intOf i).toNat)
    case atStart => exact ⟨0, Nat.zero_le _, rfl, rfl, Below.refl _ _⟩
    case round =>
      obtain ⟨k, hk, rfl, heq, hb⟩ := hrel
      have HE := Lib.hid heq
      clear heq
      by_cases hlt : k < n
      · have hlt1 : k < l.length := by rw [HN.out]; exact hlt
        have hlt2 : k < l'.length := by rw [HN'.out]; exact hlt
        obtain ⟨b, off, rfl, hB, c0, c1, c2, c3, c4⟩ := pull_at (hv.below hb) hlt1
        obtain ⟨b', off', rfl, hB', d0, d1, d2, d3, d4⟩ := pull_at (hv'.below hb) hlt2
        have hs := hb.size
        obtain ⟨a, ha⟩ : ∃ a, l[k] = a := ⟨_, rfl⟩
        obtain ⟨a', ha'⟩ : ∃ a', l'[k] = a' := ⟨_, rfl⟩
        rw [ha] at c0 c1 c2 c3 c4
        rw [ha'] at d0 d1 d2 d3 d4
        have HA := Lib.hid ha
        have HA' := Lib.hid ha'
        have hse := pullEq_iff a a'
        clear hv hv' ha ha'
        cases hsm : pullEq a a' with
        | false =>
          have HS := Lib.hid (show a ≠ a' from fun e => by rw [hsm] at hse; simp [e] at hse)
          clear hse
          go_wp2_with fail
          go_quiet (fail)
          go_wp2_with fail
          go_ret
          exact ret_bool (ne_at hlt1 hlt2 HA.out HA'.out HS.out) (below_drewN hb _)
        | true =>
          have HS := Lib.hid (show a = a' by rw [hsm] at hse; simpa using hse.symm)
          clear hse
          go_wp2_with fail
          go_quiet (fail)
          go_wp2_with fail
          go_roundw
          case rel => exact ⟨k + 1, by omega, by go_num, take_eq_succ hlt1 hlt2 HE.out HA.out HA'.out HS.out, below_drewN hb _⟩
          case measure => simp [intOf]; omega
      · obtain rfl : k = n := by omega
        clear hv hv'
        go_wp2_with fail
        go_ret
        exact ret_bool (eq_all HN.out HN'.out HE.out) hb
  · have hd : ¬ l = l' := fun e => hne (by rw [← hn, ← hn', e])
    have hbn : ((n : Int) != (n' : Int)) = true := by rw [bne_iff_ne]; omega
    have hbn' : ((n : Int) == (n' : Int)) = false := by rw [beq_eq_false_iff_ne]; omega
    have HD := Lib.hid hd
    clear hd hn hn' hv hv'
    go_enter Try.func21, Try.ntmps21
    go_wp2_with fail
    go_ret
    exact ret_bool (by symm; rw [decide_eq_false_iff_not]; exact HD.out) (Below.refl _ _)
end Go.Proofs.Ytmomjjjfjjgepaa
