/- Parse of Text is the ratio; a ratio made of multiples is the ratio (plain Lean, no program). -/
import Derived.Test.YtpkcmjiokdpegaaDoorRatV
import Derived.Test.YtpkcmjiokdpegaaDoorRatLaws
namespace Go.Rel
open Go.RowKit
theorem dec_small {u : Nat} (h : u < 10) : Lib.decDigits u = [UInt8.ofNat (48 + u)] := by rw [Lib.decDigits, dif_pos h]
theorem dec_big {u : Nat} (h : ¬ u < 10) : Lib.decDigits u = Lib.decDigits (u / 10) ++ [UInt8.ofNat (48 + u % 10)] := by rw [Lib.decDigits, dif_neg h]
theorem dig_nat {k : Nat} (h : k < 10) : (UInt8.ofNat (48 + k)).toNat = 48 + k := by rw [UInt8.toNat_ofNat']; omega
theorem dec_all (u : Nat) : (Lib.decDigits u).all isD = true := by
  induction u using Nat.strongRecOn with
  | ind u ih =>
    by_cases h : u < 10
    · rw [dec_small h]
      simp only [List.all_cons, List.all_nil, Bool.and_true, isD, decide_eq_true_eq]
      rw [dig_nat h]; omega
    · rw [dec_big h, List.all_append, ih (u / 10) (by omega)]
      simp only [List.all_cons, List.all_nil, Bool.and_true, Bool.true_and, isD, decide_eq_true_eq]
      rw [dig_nat (by omega)]; omega
theorem dec_num (u : Nat) : numOf (Lib.decDigits u) 0 = u := by
  induction u using Nat.strongRecOn with
  | ind u ih =>
    by_cases h : u < 10
    · rw [dec_small h]
      simp only [numOf]
      rw [dig_nat h]; omega
    · rw [dec_big h, numOf_append, ih (u / 10) (by omega)]
      simp only [numOf]
      rw [dig_nat (by omega)]; omega
theorem dec_ne (u : Nat) : Lib.decDigits u ≠ [] := by
  by_cases h : u < 10
  · rw [dec_small h]; simp
  · rw [dec_big h]; simp
theorem dec_head {u : Nat} (h1 : 1 ≤ u) : (Lib.decDigits u).head? ≠ some 48 := by
  induction u using Nat.strongRecOn with
  | ind u ih =>
    by_cases h : u < 10
    · rw [dec_small h]
      simp only [List.head?_cons, ne_eq, Option.some.injEq]
      intro e
      have := congrArg UInt8.toNat e
      rw [dig_nat h] at this
      simp at this
      omega
    · rw [dec_big h, List.head?_append]
      have hi := ih (u / 10) (by omega) (by omega)
      have hn := dec_ne (u / 10)
      cases hd : Lib.decDigits (u / 10) with
      | nil => exact absurd hd hn
      | cons x t => rw [hd] at hi; simpa using hi
theorem dec_len : ∀ (k u : Nat), u < 10 ^ (k + 1) → (Lib.decDigits u).length ≤ k + 1
  | 0, u, h => by rw [dec_small (by simpa using h)]; simp
  | k + 1, u, h => by
    by_cases h10 : u < 10
    · rw [dec_small h10]; simp
    · rw [dec_big h10, List.length_append]
      have h2 : u / 10 < 10 ^ (k + 1) := by rw [Nat.pow_succ] at h; omega
      have := dec_len k (u / 10) h2
      simp
      omega
theorem dec_ok {u : Nat} (h : u < 10000000000) : digOkT (Lib.decDigits u) = true ∧ numT (Lib.decDigits u) = u := by
  have hl := dec_len 9 u (by simpa using h)
  have hp := List.length_pos_iff.2 (dec_ne u)
  have ho : digOkT (Lib.decDigits u) = true := by
    unfold digOkT
    rw [dec_all, decide_eq_true (show 1 ≤ (Lib.decDigits u).length ∧ (Lib.decDigits u).length ≤ 10 by omega)]
    by_cases h0 : u = 0
    · subst h0; rw [dec_small (by decide)]; rfl
    · simp [dec_head (show 1 ≤ u by omega)]
  refine ⟨ho, ?_⟩
  unfold numT
  rw [if_pos ho, dec_num]
theorem dec_no {c : UInt8} (hc : isD c = false) (u : Nat) : c ∉ Lib.decDigits u := fun h => by
  have := List.all_eq_true.1 (dec_all u) c h
  rw [this] at hc; cases hc
/-- A text's tail: the denominator, if it is not one. -/
theorem parse_rest {m : Nat} {d : Int} (hm : m < 10000000000) (hd : 1 ≤ d) (hd2 : d ≤ 1000000000) (R : Bs) (hR : R = Lib.decDigits m ++ if d = 1 then [] else 47 :: Lib.itoa d) :
    digOkT (bef 47 R) = true ∧ numT (bef 47 R) = m ∧ digOkT (if 47 ∈ R then aft 47 R else [49]) = true ∧ numT (if 47 ∈ R then aft 47 R else [49]) = d := by
  have h47 := dec_no (c := 47) (by decide) m
  obtain ⟨o1, o2⟩ := dec_ok hm
  by_cases h1 : d = 1
  · rw [if_pos h1, List.append_nil] at hR
    subst hR
    rw [(bef_none h47).1, if_neg h47]
    exact ⟨o1, o2, by decide, by rw [h1]; decide⟩
  · rw [if_neg h1] at hR
    subst hR
    have hi : Lib.itoa d = Lib.decDigits d.toNat := by unfold Lib.itoa; rw [if_neg (by omega)]
    obtain ⟨e1, e2⟩ := dec_ok (u := d.toNat) (by omega)
    have hb := bef_unique (b := Lib.itoa d) h47
    rw [hb.1, if_pos (by simp), hb.2, hi]
    exact ⟨o1, o2, e1, by rw [e2]; omega⟩
theorem parse_text {a : Rat2} (ha : RatOk a) : parseOk (textL a) ∧ outP (textL a) = a := by
  obtain ⟨h1, h2, h3, h4, h5⟩ := id ha
  have key : minusB (textL a) = decide (a.n < 0) ∧ restL (textL a) = Lib.decDigits a.n.natAbs ++ if a.d = 1 then [] else 47 :: Lib.itoa a.d := by
    unfold textL minusB restL Lib.trimPrefix Lib.itoa
    by_cases hn : a.n < 0
    · rw [if_pos hn, decide_eq_true hn]
      simp [Lib.hasPrefix]
    · rw [if_neg hn, decide_eq_false hn]
      have hab : a.n.toNat = a.n.natAbs := by omega
      rw [hab]
      have hne := dec_ne a.n.natAbs
      have h45 := dec_no (c := 45) (by decide) a.n.natAbs
      cases hd : Lib.decDigits a.n.natAbs with
      | nil => exact absurd hd hne
      | cons x t =>
        rw [hd] at h45
        have hx : ¬ (45 : UInt8) = x := fun e => h45 (by rw [e]; simp)
        have hp : Lib.hasPrefix ((x :: t) ++ if a.d = 1 then [] else 47 :: (if a.d < 0 then 45 :: Lib.decDigits a.d.natAbs else Lib.decDigits a.d.toNat)) [45] = false := by
          unfold Lib.hasPrefix
          rw [List.cons_append]
          simp [List.isPrefixOf, hx]
        rw [hp]
        exact ⟨rfl, rfl⟩
  obtain ⟨k1, k2, k3, k4⟩ := parse_rest (m := a.n.natAbs) (by omega) h1 h2 _ key.2
  have ho : outP (textL a) = a := by
    unfold outP numL denL
    rw [key.1, k2, k4]
    by_cases hn : a.n < 0
    · rw [decide_eq_true hn, if_pos rfl]
      have : -((a.n.natAbs : Nat) : Int) = a.n := by omega
      rw [this]
    · rw [decide_eq_false hn, if_neg (by simp)]
      have : ((a.n.natAbs : Nat) : Int) = a.n := by omega
      rw [this]
  refine ⟨⟨k1, k3, by rw [ho]; exact ha, by rw [ho]⟩, ho⟩
end Go.Rel
namespace Go.Proofs.YtpkcmjiokdpegaaDoor
open Go.RowKit Go.Rel
theorem make_times {a : Rat2} {f : Int} (ha : RatOk a) (hf : f ≠ 0) : makeR (a.n * f) (a.d * f) = a ∧ makeE (a.n * f) (a.d * f) = 0 := by
  have hd : a.d ≠ 0 := by have := ha.1; omega
  refine make_q (Int.mul_ne_zero hd hf) ha ?_
  unfold qv
  exact Rat.divInt_mul_right hf
end Go.Proofs.YtpkcmjiokdpegaaDoor
