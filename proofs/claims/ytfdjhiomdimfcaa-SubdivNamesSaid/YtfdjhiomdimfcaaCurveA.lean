import Derived.Test.YtfdjhiomdimfcaaRows
import Derived.Test.YtfdjhiomdimfcaaRegion
import Derived.Test.YtfdjhiomdimfcaaCurveSpec
import Derived.WalkKit
import Derived.WalkSpells
import Derived.WalkLawsBesides
namespace Go.Proofs.Ytfdjhiomdimfcaa
open Go.RowKit Go.Rel

theorem fine_any (x y z n : Int) (w : World) (h1 : 0 ≤ n) (h2 : n ≤ 9000000000000000000) :
    Calls Try.prog 32 #[.agg #[.int .i64 x, .int .i64 y, .int .i64 z], .int .i64 n] w (Ret w (.bool (fineB x y z n))) := by
  go_enter Try.func32, Try.ntmps32
  go_wp2
  all_goals
    go_ret
    refine ret_bool ?_ ((Below.refl _ _).alloc (Nat.le_refl _) _)
    rw [Bool.eq_iff_iff]
    simp [fineB]
    try omega

theorem in_any (x y z n : Int) (w : World) (h1 : 0 ≤ n) (h2 : n ≤ 9000000000000000000) :
    Calls Try.prog 27 #[.agg #[.int .i64 x, .int .i64 y, .int .i64 z], .int .i64 n] w (Ret w (.bool (fineB x y z n))) := by
  go_enter Try.func27, Try.ntmps27
  go_wp2
  all_goals
    go_ret
    refine ret_bool ?_ ((Below.refl _ _).alloc (Nat.le_refl _) _)
    rw [Bool.eq_iff_iff]
    simp [fineB]
    try omega

set_option maxHeartbeats 400000 in
theorem check_any (A : Option Addr) (cap : Nat) (l : List Vec) (down : Int) (closed : Bool) (w : World) (hl : l.length ≤ 4611686018427387904) (hv : Vecs w w.heap.size A l) :
    Calls Try.prog 21 #[.agg #[.slice A l.length cap, .int .i64 down, .bool closed]] w (Ret w (.int .i64 (checkE l down))) := by
  by_cases hok : 1 ≤ l.length ∧ l.length ≤ 1000 ∧ 0 ≤ down ∧ down ≤ 30
  · obtain ⟨h1, h2, h3, h4⟩ := hok
    go_enter Try.func21, Try.ntmps21
    go_wp2_with fail
    go_loopw [28] (fun i wr => ∃ k : Nat, k ≤ l.length ∧ i = .int .i64 k ∧ (l.take k).all (fineV · 1000000000000) = true ∧ Below w.heap.size w wr) (fun i _ => l.length - (intOf i).toNat)
    case atStart => exact ⟨0, Nat.zero_le _, rfl, rfl, (Below.refl _ _).alloc (Nat.le_refl _) _⟩
    case round =>
      obtain ⟨k, hk, rfl, hall, hb⟩ := hrel
      by_cases hlt : k < l.length
      · obtain ⟨b, off, rfl, hB, c0, c1, c2⟩ := (hv.below hb).at_ hlt
        have hs := hb.size
        cases hf : fineV l[k] 1000000000000 with
        | false =>
          have hf' : fineB l[k].x l[k].y l[k].z 1000000000000 = false := hf
          have HF := Lib.hid hf
          clear hf hv
          go_wp2_with (go_at_call 32; refine (fine_any _ _ _ _ _ (by omega) (by omega)).mono ?_; rintro e w1 ⟨rfl, hb1⟩)
          go_ret
          exact ret_int (checkE_bad (fun h => absurd (h.fine hlt) (by rw [HF.out]; simp))).symm ((hb.alloc hs _).trans (hb1.mono (by simp; omega)))
        | true =>
          have hf' : fineB l[k].x l[k].y l[k].z 1000000000000 = true := hf
          have HF := Lib.hid hf
          clear hf hv
          go_wp2_with (go_at_call 32; refine (fine_any _ _ _ _ _ (by omega) (by omega)).mono ?_; rintro e w1 ⟨rfl, hb1⟩)
          go_roundw
          case rel => exact ⟨k + 1, by omega, by go_num, all_take_succ l _ k hlt hall HF.out, (hb.alloc hs _).trans (hb1.mono (by simp; omega))⟩
          case measure => simp [intOf]; omega
      · clear hv
        obtain rfl : k = l.length := by omega
        go_wp2_with fail
        go_ret
        exact ret_int (checkE_ok ⟨h1, h2, h3, h4, by rw [List.take_length] at hall; exact hall⟩).symm hb
  · go_enter Try.func21, Try.ntmps21
    go_wp2_with fail
    all_goals first | (exfalso; apply hok; omega) | skip
    all_goals
      go_ret
      exact ret_int (checkE_bad (fun h => hok ⟨h.1, h.2.1, h.2.2.1, h.2.2.2.1⟩)).symm ((Below.refl _ _).alloc (Nat.le_refl _) _)

set_option maxHeartbeats 400000 in
theorem refCheck_any (A : Option Addr) (n cap : Nat) (l : List Vec) (down : Int) (closed : Bool) (w : World) (hn : l.length = n) (hl : n ≤ 4611686018427387904) (hv : Vecs w w.heap.size A l) :
    Calls Try.prog 22 #[.agg #[.slice A n cap, .int .i64 down, .bool closed]] w (Ret w (.int .i64 (checkE l down))) := by
  by_cases h0 : n = 0
  · have hbad : ¬ Valid l down := fun h => by have := h.1; omega
    have HB := Lib.hid hbad
    clear hbad hv hn
    subst h0
    go_enter Try.func22, Try.ntmps22
    go_wp2_with fail
    go_ret
    exact ret_int (checkE_bad HB.out).symm (below_alloc w _)
  have e0 : ((n : Int) == 0) = false := by simp; omega
  by_cases hok : n ≤ 1000 ∧ 0 ≤ down ∧ down ≤ 30
  · obtain ⟨h2, h3, h4⟩ := hok
    have HN := Lib.hid hn
    clear hn h0
    go_enter Try.func22, Try.ntmps22
    go_wp2_with fail
    go_loopw [3] (fun i wr => ∃ k : Nat, k ≤ n ∧ i = .int .i64 k ∧ (l.take k).all (fineV · 1000000000000) = true ∧ Below (w.heap.size + 1) (w.alloc (.cells #[.slice A n cap, .int .i64 down, .bool closed] 24)) wr) (fun i _ => n - (intOf i).toNat)
    case atStart => exact ⟨0, Nat.zero_le _, rfl, rfl, Below.refl _ _⟩
    case round =>
      obtain ⟨k, hk, rfl, hall, hb⟩ := hrel
      have hs := hb.size
      have p0 := (hb.cell (p := ⟨w.heap.size, 0, none⟩) (by simp)).trans (cell_new w _ 24 rfl)
      have hb0 := (below_alloc w _).trans (hb.mono (Nat.le_succ _))
      by_cases hlt : k < n
      · have hlt' : k < l.length := by rw [HN.out]; exact hlt
        obtain ⟨b, off, rfl, hB, c0, c1, c2⟩ := (hv.below hb0).at_ hlt'
        cases hf : fineV l[k] 1000000000000 with
        | false =>
          have hf' : fineB l[k].x l[k].y l[k].z 1000000000000 = false := hf
          have HF := Lib.hid hf
          clear hf hv
          go_wp2_with (go_at_call 27; refine (in_any _ _ _ _ _ (by omega) (by omega)).mono ?_; rintro e w1 ⟨rfl, hb1⟩)
          go_ret
          exact ret_int (checkE_bad (fun h => absurd (h.fine hlt') (by rw [HF.out]; simp))).symm (hb0.trans (hb1.mono hb0.size))
        | true =>
          have hf' : fineB l[k].x l[k].y l[k].z 1000000000000 = true := hf
          have HF := Lib.hid hf
          clear hf hv
          go_wp2_with (go_at_call 27; refine (in_any _ _ _ _ _ (by omega) (by omega)).mono ?_; rintro e w1 ⟨rfl, hb1⟩)
          go_roundw
          case rel => exact ⟨k + 1, by omega, by go_num, all_take_succ l _ k hlt' hall HF.out, hb.trans (hb1.mono (by simpa using hs))⟩
          case measure => simp [intOf]; omega
      · clear hv
        obtain rfl : k = n := by omega
        go_wp2_with fail
        go_ret
        exact ret_int (checkE_ok ⟨by rw [HN.out]; simp at e0; omega, by rw [HN.out]; exact h2, h3, h4, by rw [← HN.out, List.take_length] at hall; exact hall⟩).symm hb0
  · have hbad : ¬ Valid l down := fun h => hok ⟨by have := h.2.1; omega, h.2.2.1, h.2.2.2.1⟩
    have HB := Lib.hid hbad
    clear hbad hv hn
    go_enter Try.func22, Try.ntmps22
    go_wp2_with fail
    all_goals first | (exfalso; apply hok; omega) | skip
    all_goals
      go_ret
      exact ret_int (checkE_bad HB.out).symm (below_alloc w _)
end Go.Proofs.Ytfdjhiomdimfcaa
