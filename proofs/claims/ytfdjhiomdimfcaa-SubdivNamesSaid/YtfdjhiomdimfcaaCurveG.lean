import Derived.Test.YtfdjhiomdimfcaaCurveB
import Derived.Deep.QuietTactic
import Derived.BigQuiet
namespace Go.Proofs.Ytfdjhiomdimfcaa
open Go.RowKit Go.Rel

set_option maxHeartbeats 400000 in
/-- SameVecs: whether two lists are equal. -/
theorem sameVecs_any (A A' : Option Addr) (n n' cap cap' : Nat) (l l' : List Vec) (w : World) (hn : l.length = n) (hn' : l'.length = n') (hl : n ≤ 4611686018427387904) (hl' : n' ≤ 4611686018427387904) (hv : Vecs w w.heap.size A l) (hv' : Vecs w w.heap.size A' l') :
    Calls Try.prog 15 #[.slice A n cap, .slice A' n' cap'] w (Ret w (.bool (decide (l = l')))) := by
  by_cases hne : n = n'
  · subst hne
    have HN := Lib.hid hn
    have HN' := Lib.hid hn'
    clear hn hn'
    have hvn := vecNeq
    have hm31 := Try.eqGuard31
    go_enter Try.func15, Try.ntmps15
    go_wp2_with fail
    go_loopw [5] (fun i wr => ∃ k : Nat, k ≤ n ∧ i = .int .i64 k ∧ l.take k = l'.take k ∧ Below w.heap.size w wr) (fun i _ => n - (intOf i).toNat)
    case atStart => exact ⟨0, Nat.zero_le _, rfl, rfl, Below.refl _ _⟩
    case round =>
      obtain ⟨k, hk, rfl, heq, hb⟩ := hrel
      have HE := Lib.hid heq
      clear heq
      by_cases hlt : k < n
      · have hlt1 : k < l.length := by rw [HN.out]; exact hlt
        have hlt2 : k < l'.length := by rw [HN'.out]; exact hlt
        obtain ⟨b, off, rfl, hB, c0, c1, c2⟩ := (hv.below hb).at_ hlt1
        obtain ⟨b', off', rfl, hB', d0, d1, d2⟩ := (hv'.below hb).at_ hlt2
        have hs := hb.size
        obtain ⟨a, ha⟩ : ∃ a, l[k] = a := ⟨_, rfl⟩
        obtain ⟨a', ha'⟩ : ∃ a', l'[k] = a' := ⟨_, rfl⟩
        rw [ha] at c0 c1 c2
        rw [ha'] at d0 d1 d2
        have HA := Lib.hid ha
        have HA' := Lib.hid ha'
        clear hv hv' ha ha'
        cases hsm : sameB a.x a.y a.z a'.x a'.y a'.z with
        | false =>
          have HS := Lib.hid hsm
          go_wp2_with fail
          go_quiet (fail)
          go_wp2_with fail
          go_ret
          exact ret_bool (differ_at hlt1 hlt2 HA.out HA'.out HS.out) (below_drewN hb _)
        | true =>
          have HS := Lib.hid hsm
          go_wp2_with fail
          go_quiet (fail)
          go_wp2_with fail
          go_roundw
          case rel => exact ⟨k + 1, by omega, by go_num, take_same hlt1 hlt2 HE.out HA.out HA'.out HS.out, below_drewN hb _⟩
          case measure => simp [intOf]; omega
      · obtain rfl : k = n := by omega
        clear hv hv'
        go_wp2_with fail
        go_ret
        exact ret_bool (same_all HN.out HN'.out HE.out) hb
  · have hd : ¬ l = l' := fun e => hne (by rw [← hn, ← hn', e])
    have hbn : ((n : Int) != (n' : Int)) = true := by rw [bne_iff_ne]; omega
    have hbn' : ((n : Int) == (n' : Int)) = false := by rw [beq_eq_false_iff_ne]; omega
    have HD := Lib.hid hd
    clear hd hn hn' hv hv'
    go_enter Try.func15, Try.ntmps15
    go_wp2_with fail
    go_ret
    exact ret_bool (by symm; rw [decide_eq_false_iff_not]; exact HD.out) (Below.refl _ _)
end Go.Proofs.Ytfdjhiomdimfcaa
