/- The reference's Decimal, Text, Number and Parse. -/
import Derived.Test.YtpkcmjiokdpegaaDoorRatW
import Derived.Test.YtpkcmjiokdpegaaDoorRatY
import Derived.Laws.IdiomStrings
namespace Go.Rel
open Go.RowKit
theorem dec_step {N n : Nat} {S : Bs} (h : Lib.decDigits N = Lib.decDigits n ++ S) : (n < 10 → Lib.decDigits N = UInt8.ofNat (48 + n % 10) :: S) ∧ (¬ n < 10 → Lib.decDigits N = Lib.decDigits (n / 10) ++ UInt8.ofNat (48 + n % 10) :: S) := by
  refine ⟨fun hn => ?_, fun hn => ?_⟩
  · rw [h, dec_small hn, show n % 10 = n by omega]; rfl
  · rw [h, dec_big hn, List.append_assoc]; rfl
theorem str_append (a b : Bs) : str a ++ str b = str (a ++ b) := by
  apply ByteArray.ext
  simp [str]
theorem itoa_pos {n : Int} (h : 0 ≤ n) : Lib.itoa n = Lib.decDigits n.toNat := by
  unfold Lib.itoa; rw [if_neg (by omega)]
theorem itoa_neg {n : Int} (h : 0 < n) : Lib.itoa (-n) = 45 :: Lib.itoa n := by
  rw [show Lib.itoa (-n) = 45 :: Lib.decDigits (-n).natAbs from if_pos (by omega), itoa_pos (show 0 ≤ n by omega), show (-n).natAbs = n.toNat by omega]
theorem neg_itoa {n : Int} (h : n < 0) : Lib.itoa n = 45 :: Lib.decDigits n.natAbs := if_pos h
open Classical in
/-- The bytes are what Decimal writes of a number of at most ten digits. -/
noncomputable def numB (l : Bs) : Bool := decide (∃ n : Int, n.natAbs < 10000000000 ∧ l = Lib.itoa n)
open Classical in
theorem numB_true {l : Bs} : numB l = true ↔ ∃ n : Int, n.natAbs < 10000000000 ∧ l = Lib.itoa n := by
  unfold numB; rw [decide_eq_true_iff]
open Classical in
theorem numB_false {l : Bs} : numB l = false ↔ ¬ ∃ n : Int, n.natAbs < 10000000000 ∧ l = Lib.itoa n := by
  unfold numB; rw [decide_eq_false_iff_not]
def frN (l : Bs) : Nat := if l.head? = some 45 then 1 else 0
theorem frN_itoa (n : Int) : frN (Lib.itoa n) = (if n < 0 then 1 else 0) ∧ (Lib.itoa n).drop (frN (Lib.itoa n)) = Lib.decDigits n.natAbs := by
  by_cases h : n < 0
  · rw [neg_itoa h, if_pos h]
    exact ⟨rfl, rfl⟩
  · rw [itoa_pos (by omega), if_neg h, show n.toNat = n.natAbs by omega]
    have h0 : frN (Lib.decDigits n.natAbs) = 0 := by
      unfold frN
      refine if_neg (fun e => ?_)
      exact dec_no (c := 45) (by decide) n.natAbs (List.mem_of_mem_head? e)
    rw [h0]
    exact ⟨rfl, rfl⟩
theorem num_val {l : Bs} {n : Int} (e : l = Lib.itoa n) : (l.drop (frN l)).all isD = true ∧ numOf (l.drop (frN l)) 0 = n.natAbs ∧ (l.drop (frN l)) ≠ [] ∧ n = (if frN l = 1 then -((numOf (l.drop (frN l)) 0 : Nat) : Int) else (numOf (l.drop (frN l)) 0 : Nat)) := by
  subst e
  obtain ⟨h1, h2⟩ := frN_itoa n
  rw [h2, dec_num]
  refine ⟨dec_all _, rfl, dec_ne _, ?_⟩
  rw [h1]
  by_cases h : n < 0
  · rw [if_pos h, if_pos rfl]; omega
  · rw [if_neg h, if_neg (by decide)]; omega
theorem num_len {l : Bs} {n : Int} (h : n.natAbs < 10000000000) (e : l = Lib.itoa n) : (l.drop (frN l)).length ≤ 10 := by
  subst e
  rw [(frN_itoa n).2]
  exact dec_len 9 _ (by simpa using h)
theorem num_not {l : Bs} (h : (l.drop (frN l)).all isD = false) : numB l = false := by
  rw [numB_false]
  rintro ⟨n, hn, e⟩
  rw [(num_val e).1] at h
  cases h
theorem num_long {l : Bs} (h : 10 < (l.drop (frN l)).length) : numB l = false := by
  rw [numB_false]
  rintro ⟨n, hn, e⟩
  have := num_len hn e
  omega
theorem num_none {l : Bs} (h : (l.drop (frN l)).length = 0) : numB l = false := by
  rw [numB_false]
  rintro ⟨n, hn, e⟩
  exact (num_val e).2.2.1 (List.length_eq_zero_iff.1 h)
theorem num_fin {l : Bs} {v : Int} (h1 : (l.drop (frN l)).all isD = true) (h2 : (l.drop (frN l)).length ≤ 10) (hv : v = (if frN l = 1 then -((numOf (l.drop (frN l)) 0 : Nat) : Int) else (numOf (l.drop (frN l)) 0 : Nat))) :
    numB l = decide (Lib.itoa v = l) := by
  by_cases h : Lib.itoa v = l
  · rw [decide_eq_true h, numB_true]
    refine ⟨v, ?_, h.symm⟩
    have h3 := numOf_lt h1 0
    have h4 : 10 ^ (l.drop (frN l)).length ≤ 10 ^ 10 := Nat.pow_le_pow_right (by decide) h2
    have h5 : (10 : Nat) ^ 10 = 10000000000 := by decide
    rw [h5] at h4
    split at hv <;> omega
  · rw [decide_eq_false h, numB_false]
    rintro ⟨n, hn, e⟩
    rw [← (num_val e).2.2.2] at hv
    rw [hv] at h
    exact h e.symm
end Go.Rel
namespace Go.Proofs.YtpkcmjiokdpegaaDoor
open Go.RowKit Go.Rel
theorem wrap_tenth (n : Nat) (h : (n : Int) ≤ 9223372036854775807) : wrap64 ((n : Int) / 10) = (n : Int) / 10 := by
  unfold wrap64; omega
theorem n_len (N : Nat) (h : (N : Int) ≤ 9223372036854775807) : (Lib.decDigits N).length ≤ 19 :=
  dec_len 18 N (Nat.lt_of_le_of_lt (show N ≤ 9223372036854775807 by omega) (by decide +kernel))
def dg (x : Int) : ByteArray := str [UInt8.ofNat x.toNat]
theorem dg_size (x : Int) : (dg x).size = 1 := rfl
theorem dg_conv (W : World) (x : Int) : (convert 76 9 (.slice (some ⟨W.heap.size, 0, none⟩) 1 1)).run Tryd.prog (W.alloc (.cells #[.int .u8 x] 5)) = .ok (.string (dg x)) (W.alloc (.cells #[.int .u8 x] 5)) := by
  rw [run_convert_bytes_string (P := Tryd.prog) _ 76 9 5 _ 1 1 Tryd.underlying76 Tryd.underlying5 Tryd.underlying9]
  have hl := run_loadCells_list (P := Tryd.prog) (W.alloc (.cells #[.int .u8 x] 5)) ⟨W.heap.size, 0, none⟩ ([x].map (Value.int .u8)) (fun j v hj => by
    match j, hj with
    | 0, hj => simp at hj; subst hj; exact cell_new W _ _ rfl)
  rw [run_bytesToString _ ⟨W.heap.size, 0, none⟩ 1 1 [x] hl]
  rfl
set_option maxHeartbeats 1000000 in
theorem decimal_pos (N : Nat) (w : World) (hN : (N : Int) ≤ 9223372036854775807) :
    Calls Tryd.prog 42 #[.int .i64 N] w (Ret w (.string (str (Lib.decDigits N)))) := by
  have hlen := n_len N hN
  have hx : decide ((N : Int) < 0) = false := by simp
  have HN := Lib.hid hlen
  clear hlen
  go_enter Tryd.func42, Tryd.ntmps42
  go_wp2_with fail
  go_loopw [0, 3] (fun nv sv wr => ∃ (n : Nat) (S : Bs), n ≤ N ∧ nv = .int .i64 n ∧ sv = .string (str S) ∧ Lib.decDigits N = Lib.decDigits n ++ S ∧ Below w.heap.size w wr) (fun nv _ _ => (intOf nv).toNat)
  case atStart => exact ⟨N, [], by omega, rfl, rfl, by simp, Below.refl _ _⟩
  case round =>
    obtain ⟨n, S, hn, rfl, rfl, hS, hb⟩ := hrel
    have S1 := Lib.hid (dec_step hS)
    have hb2 := hb.trans ((below_alloc wr (.cells #[.int .u8 (48 + n % 10)] 5)).mono hb.size)
    have hlS : (str S).size ≤ 19 := by
      have h1 := congrArg List.length hS
      rw [List.length_append] at h1
      have := HN.out
      rw [str_size]; omega
    have hcat : dg (48 + (n : Int) % 10) ++ str S = str (UInt8.ofNat (48 + n % 10) :: S) := by
      unfold dg
      rw [show (48 + (n : Int) % 10).toNat = 48 + n % 10 by omega]
      exact str_append [_] S
    have hcv := dg_conv
    have hds := dg_size
    have HC := Lib.hid hcat
    clear hS hcat
    generalize str S = SS at hlS HC ⊢
    have hw := wrap_tenth n (by omega)
    by_cases h10 : n < 10
    · have hz : ((n : Int) / 10 == 0) = true := by simp; omega
      clear hx hN
      go_wp2_with fail
      go_ret
      refine ⟨?_, hb2⟩
      rw [S1.out.1 h10]
      exact congrArg (fun x => Ending.returned (.string x)) HC.out
    · have hz : ((n : Int) / 10 == 0) = false := by simp; omega
      clear hx hN
      go_wp2_with fail
      go_roundw
      case rel => exact ⟨n / 10, _, by omega, by rw [hw]; rfl, congrArg Value.string HC.out, S1.out.2 h10, hb2⟩
      case measure => rw [hw]; simp only [intOf]; omega
theorem decimal_any (n : Int) (w : World) (h1 : -9223372036854775807 ≤ n) (h2 : n ≤ 9223372036854775807) :
    Calls Tryd.prog 42 #[.int .i64 n] w (Ret w (.string (str (Lib.itoa n)))) := by
  by_cases h : n < 0
  · have hc := fun W => decimal_pos n.natAbs W (by omega)
    have hl := n_len n.natAbs (by omega)
    rw [show ((n.natAbs : Nat) : Int) = -n by omega] at hc
    have hz : (str (Lib.decDigits n.natAbs)).size ≤ 19 := hl
    have hcat : (⟨#[45]⟩ : ByteArray) ++ str (Lib.decDigits n.natAbs) = str (Lib.itoa n) := by
      rw [neg_itoa h]; exact str_append [45] _
    have HC := Lib.hid hc
    have HE := Lib.hid hcat
    have hx : decide (n < 0) = true := by simpa using h
    have hw : wrap64 (-n) = -n := by unfold wrap64; omega
    clear hc hl hcat
    generalize str (Lib.decDigits n.natAbs) = D at hz HC HE
    go_enter Tryd.func42, Tryd.ntmps42
    go_wp2_with fail
    refine (HC.out _).mono ?_
    rintro e w1 ⟨rfl, hb⟩
    go_wp2_with fail
    go_ret
    exact ⟨congrArg (fun x => Ending.returned (.string x)) HE.out, hb⟩
  · have := decimal_pos n.toNat w (by omega)
    rwa [show ((n.toNat : Nat) : Int) = n by omega, ← itoa_pos (show 0 ≤ n by omega)] at this
end Go.Proofs.YtpkcmjiokdpegaaDoor
