/- SamePoints and Same: whether two lists are equal. -/
import Derived.Test.YtmomjjjfjjgepaaFieldD
namespace Go.Rel
open Go.RowKit
theorem take_eq_succ {α : Type} {l l' : List α} {k : Nat} (h1 : k < l.length) (h2 : k < l'.length) (h : l.take k = l'.take k) {a a' : α} (ha : l[k] = a) (ha' : l'[k] = a') (hs : a = a') : l.take (k + 1) = l'.take (k + 1) := by
  rw [List.take_succ_eq_append_getElem h1, List.take_succ_eq_append_getElem h2, h, ha, ha', hs]
theorem ne_at {α : Type} [DecidableEq α] {l l' : List α} {k : Nat} (h1 : k < l.length) (h2 : k < l'.length) {a a' : α} (ha : l[k] = a) (ha' : l'[k] = a') (hs : a ≠ a') : false = decide (l = l') := by
  symm
  rw [decide_eq_false_iff_not]
  intro e
  subst e
  exact hs (ha.symm.trans ha')
theorem eq_all {α : Type} [DecidableEq α] {l l' : List α} {n : Nat} (h1 : l.length = n) (h2 : l'.length = n) (h : l.take n = l'.take n) : true = decide (l = l') := by
  symm
  rw [decide_eq_true_eq]
  rw [← List.take_length (l := l), ← List.take_length (l := l'), h1, h2, h]
theorem pt_at {w : World} {B : Nat} {A : Option Addr} {l : List Pt} (h : Recs Pt.cells 2 w B A l) {k : Nat} (hk : k < l.length) :
    ∃ b off : Nat, A = some ⟨b, off, none⟩ ∧ b < B ∧ w.cell? ⟨b, off + k * 2, none⟩ = some (.int .i64 l[k].x) ∧ w.cell? ⟨b, off + k * 2 + 1, none⟩ = some (.int .i64 l[k].y) := by
  obtain ⟨b, off, e, hb, hc⟩ := h.at_ hk
  exact ⟨b, off, e, hb, hc 0 _ rfl, hc 1 _ rfl⟩
end Go.Rel
namespace Go.Proofs.Ytmomjjjfjjgepaa
open Go.RowKit Go.Rel

def ptB (a b c d : Int) : Bool := decide (a = c) && decide (b = d)
theorem ptB_self (a b : Int) : ptB a b a b = true := by simp [ptB]
theorem ptB_iff (a b : Pt) : ptB a.x a.y b.x b.y = decide (a = b) := by
  obtain ⟨x, y⟩ := a
  obtain ⟨x', y'⟩ := b
  simp [ptB]
theorem Try.eqGuardPt : Try.prog.eqGuardType Try.prog.depth 24 = false := by kernel_rfl
theorem Try.stoodPt : Try.prog.stoodInHeld 24 = false := by kernel_rfl
theorem Try.fieldsPt : Try.prog.underlying 24 = some (.struct (Try.prog.fieldsOf 24)) := by kernel_rfl
theorem ptEqIn (m : Nat) (x y x' y' : Int) (w : World) : (Op.equalIn (m + 1 + 1) 24 (.agg #[.int .i64 x, .int .i64 y]) (.agg #[.int .i64 x', .int .i64 y'])).run Try.prog w = .ok (ptB x y x' y') w := by
  rw [run_equalIn_agg w (m + 1) 24 _ _ Try.fieldsPt Try.stoodPt]
  unfold Program.fieldsOf
  rw [Try.underlying24]
  by_cases h1 : x = x' <;> by_cases h2 : y = y' <;> simp [Op.eqFields, part, go_sem, h1, h2, ptB, Try.underlying3]
theorem ptEql (x y x' y' : Int) (w : World) : (binOp .eql 24 (.agg #[.int .i64 x, .int .i64 y]) (.agg #[.int .i64 x', .int .i64 y'])).run Try.prog w = .ok (.bool (ptB x y x' y')) w := by
  rw [run_eql_struct, ptEqIn]; rfl
theorem ptNeq (x y x' y' : Int) (w : World) : (binOp .neq 24 (.agg #[.int .i64 x, .int .i64 y]) (.agg #[.int .i64 x', .int .i64 y'])).run Try.prog w = .ok (.bool (!ptB x y x' y')) w := by
  rw [run_neq_struct, ptEqIn]; rfl

set_option maxHeartbeats 1000000 in
/-- SamePoints: whether two lists are equal. -/
theorem samePts_any (A A' : Option Addr) (n n' cap cap' : Nat) (l l' : List Pt) (w : World) (hn : l.length = n) (hn' : l'.length = n') (hl : n ≤ 4611686018427387904) (hl' : n' ≤ 4611686018427387904) (hv : Recs Pt.cells 2 w w.heap.size A l) (hv' : Recs Pt.cells 2 w w.heap.size A' l') :
    Calls Try.prog 12 #[.slice A n cap, .slice A' n' cap'] w (Ret w (.bool (decide (l = l')))) := by
  by_cases hne : n = n'
  · subst hne
    have HN := Lib.hid hn
    have HN' := Lib.hid hn'
    clear hn hn'
    have hvn := ptNeq
    have hm31 := Try.eqGuardPt
    go_enter Try.func12, Try.ntmps12
    go_wp2_with fail
    go_loopw [5] (fun i wr => ∃ k : Nat, k ≤ n ∧ i = .int .i64 k ∧ l.take k = l'.take k ∧ Below w.heap.size w wr) (fun i _ => n - (intOf i).toNat)
    case atStart => exact ⟨0, Nat.zero_le _, rfl, rfl, Below.refl _ _⟩
    case round =>
      obtain ⟨k, hk, rfl, heq, hb⟩ := hrel
      have HE := Lib.hid heq
      clear heq
      by_cases hlt : k < n
      · have hlt1 : k < l.length := by rw [HN.out]; exact hlt
        have hlt2 : k < l'.length := by rw [HN'.out]; exact hlt
        obtain ⟨b, off, rfl, hB, c0, c1⟩ := pt_at (hv.below hb) hlt1
        obtain ⟨b', off', rfl, hB', d0, d1⟩ := pt_at (hv'.below hb) hlt2
        have hs := hb.size
        obtain ⟨a, ha⟩ : ∃ a, l[k] = a := ⟨_, rfl⟩
        obtain ⟨a', ha'⟩ : ∃ a', l'[k] = a' := ⟨_, rfl⟩
        rw [ha] at c0 c1
        rw [ha'] at d0 d1
        have HA := Lib.hid ha
        have HA' := Lib.hid ha'
        have hse := ptB_iff a a'
        clear hv hv' ha ha'
        cases hsm : ptB a.x a.y a'.x a'.y with
        | false =>
          have HS := Lib.hid (show a ≠ a' from fun e => by rw [hsm] at hse; simp [e] at hse)
          clear hse
          go_wp2_with fail
          go_quiet (fail)
          go_wp2_with fail
          go_ret
          exact ret_bool (ne_at hlt1 hlt2 HA.out HA'.out HS.out) (below_drewN hb _)
        | true =>
          have HS := Lib.hid (show a = a' by rw [hsm] at hse; simpa using hse.symm)
          clear hse
          go_wp2_with fail
          go_quiet (fail)
          go_wp2_with fail
          go_roundw
          case rel => exact ⟨k + 1, by omega, by go_num, take_eq_succ hlt1 hlt2 HE.out HA.out HA'.out HS.out, below_drewN hb _⟩
          case measure => simp [intOf]; omega
      · obtain rfl : k = n := by omega
        clear hv hv'
        go_wp2_with fail
        go_ret
        exact ret_bool (eq_all HN.out HN'.out HE.out) hb
  · have hd : ¬ l = l' := fun e => hne (by rw [← hn, ← hn', e])
    have hbn : ((n : Int) != (n' : Int)) = true := by rw [bne_iff_ne]; omega
    have hbn' : ((n : Int) == (n' : Int)) = false := by rw [beq_eq_false_iff_ne]; omega
    have HD := Lib.hid hd
    clear hd hn hn' hv hv'
    go_enter Try.func12, Try.ntmps12
    go_wp2_with fail
    go_ret
    exact ret_bool (by symm; rw [decide_eq_false_iff_not]; exact HD.out) (Below.refl _ _)
end Go.Proofs.Ytmomjjjfjjgepaa
