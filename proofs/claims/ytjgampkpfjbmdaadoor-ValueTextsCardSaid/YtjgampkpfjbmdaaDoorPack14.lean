/- Texts put together: RatY, RatX, ValS. -/
import Derived.Test.YtjgampkpfjbmdaaDoorPack07
import Derived.Test.YtjgampkpfjbmdaaDoorPack13
import Derived.Laws.IdiomStrings
import Derived.Test.YtjgampkpfjbmdaaDoorPack09
section
/- The reference's Make: n / d in lowest terms, or the error, for whatever numbers of 64 bits. -/
namespace Go.Rel
open Go.RowKit
theorem lowest_two {a b : Int} (hb : b ≠ 0) : lowest (2 * a) (2 * b) = lowest a b := by
  obtain ⟨g, x, y, e, hg, rfl, rfl, hc⟩ := parts_of (n := a) (d := b) hb
  rw [lowest_of (n := (g : Int) * x) (d := (g : Int) * y) hg e rfl rfl]
  refine lowest_of (g := 2 * g) (by omega) ?_ (by rw [← Int.mul_assoc]; rfl) (by rw [← Int.mul_assoc]; rfl)
  rw [Int.gcd_mul_left, e]; rfl
theorem make_two {a b : Int} : makeR (2 * a) (2 * b) = makeR a b ∧ makeE (2 * a) (2 * b) = makeE a b := by
  by_cases hb : b = 0
  · subst hb; exact ⟨rfl, rfl⟩
  · unfold makeR makeE
    rw [lowest_two hb, if_neg hb, if_neg hb, if_neg (show ¬ 2 * b = 0 by omega), if_neg (show ¬ 2 * b = 0 by omega)]
    exact ⟨rfl, rfl⟩
theorem odd_pow {k : Nat} (hk : k % 2 = 1) : Nat.gcd 9223372036854775808 k = 1 := by
  have h2 : Nat.Coprime 2 k := by
    unfold Nat.Coprime
    rw [Nat.gcd_rec, hk]
    decide
  have h3 := Nat.Coprime.pow_left 63 h2
  have e : (9223372036854775808 : Nat) = 2 ^ 63 := by decide
  rw [e]
  exact h3
theorem tm2 (d : Int) : d.tmod 2 = 0 ↔ d % 2 = 0 :=
  ⟨fun h => Int.emod_eq_zero_of_dvd (Int.dvd_of_tmod_eq_zero h), fun h => Int.tmod_eq_zero_of_dvd (Int.dvd_of_emod_eq_zero h)⟩
theorem make_odd {n d : Int} (hd : d ≠ 0) (h : (n = -9223372036854775808 ∧ d.natAbs % 2 = 1) ∨ (d = -9223372036854775808 ∧ n.natAbs % 2 = 1)) : makeR n d = ⟨0, 0⟩ ∧ makeE n d = 16 := by
  have hg : Int.gcd n d = 1 := by
    have e : Int.natAbs (-9223372036854775808) = 9223372036854775808 := by simp
    rcases h with ⟨rfl, h⟩ | ⟨rfl, h⟩
    · show Nat.gcd (Int.natAbs _) _ = 1; rw [e]; exact odd_pow h
    · rw [Int.gcd_comm]; show Nat.gcd (Int.natAbs _) _ = 1; rw [e]; exact odd_pow h
  have hl := lowest_of (n := n) (d := d) (a := n) (b := d) (g := 1) (by decide) hg (by simp) (by simp)
  refine make_bad hd hl ?_
  unfold RatOk
  split <;> simp only <;> omega
end Go.Rel
namespace Go.Proofs.YtjgampkpfjbmdaaDoor
open Go.RowKit Go.Rel
theorem refMake_main (n d : Int) (w : World) (hn : -9223372036854775807 ≤ n) (hn' : n ≤ 9223372036854775807) (hd : -9223372036854775807 ≤ d) (hd' : d ≤ 9223372036854775807) :
    Calls Tryd.prog 48 #[.int .i64 n, .int .i64 d] w (Ret w (.tuple #[(makeR n d).v, .int .i64 (makeE n d)])) := by
  rcases Int.lt_trichotomy d 0 with h | h | h
  · exact refMake_neg n d w hn hn' hd hd' h
  · subst h; exact refMake_zero n w
  · exact refMake_pos n d w hn hn' hd hd' h
theorem refMake_both (w : World) : Calls Tryd.prog 48 #[.int .i64 (-9223372036854775808), .int .i64 (-9223372036854775808)] w (Ret w (.tuple #[.agg #[.int .i64 1, .int .i64 1], .int .i64 0])) := by
  have y := (Blk.new w 23 #[.int .i64 1, .int .i64 1])
  have hbw := below_alloc w (.cells #[.int .i64 1, .int .i64 1] 23)
  go_enter Tryd.func48, Tryd.ntmps48
  go_wp2_with fail
  have y0 := y.cell (i := 0) rfl
  have y1 := y.cell (i := 1) rfl
  refine bodyPost_ret (v := .tuple #[.agg #[.int .i64 1, .int .i64 1], .int .i64 0]) (by simp [results, Tryd.results48, go_sem, y0, y1]) rfl ⟨rfl, hbw⟩
set_option maxHeartbeats 1000000 in
theorem refMake_half1 (d : Int) (w : World) (hd0 : (d == (0:Int)) = false) (e2 : (d == -9223372036854775808) = false) (b : Int) (t2 : d.tmod 2 = 0) (t4 : d.tdiv 2 = b) (t6 : IntKind.i64.wrap b = b) (r1 r2 me : Int)
    (hc : ∀ W, Calls Tryd.prog 48 #[.int .i64 (-4611686018427387904), .int .i64 b] W (Ret W (.tuple #[Rat2.v ⟨r1, r2⟩, .int .i64 me]))) :
    Calls Tryd.prog 48 #[.int .i64 (-9223372036854775808), .int .i64 d] w (Ret w (.tuple #[Rat2.v ⟨r1, r2⟩, .int .i64 me])) := by
  have HC := Lib.hid hc
  clear hc
  have hb := below_alloc w (.cells #[.int .i64 0, .int .i64 0] 23)
  have y := (Blk.new w 23 #[.int .i64 0, .int .i64 0])
  go_enter Tryd.func48, Tryd.ntmps48
  go_wp2_with fail
  refine (HC.out _).mono ?_
  rintro e w1 ⟨rfl, hb1⟩
  replace y := y.keep hb1
  replace hb := hb.trans (hb1.mono hb.size)
  clear hb1
  have y0 := y.cell (i := 0) rfl
  have y1 := y.cell (i := 1) rfl
  have y2 := y.frozen
  have HY := Lib.hid (y.set2 (.int .i64 r1) (.int .i64 r2))
  have HB := Lib.hid (below_set2 hb (Nat.le_refl _) (.int .i64 r1) (.int .i64 r2))
  clear y hb
  go_wp2_with fail
  have z := HY.out
  have hb := HB.out
  clear HY HB y0 y1 y2
  generalize World.setCell _ _ _ = w2 at z hb ⊢
  have z0 := z.cell (i := 0) rfl
  have z1 := z.cell (i := 1) rfl
  refine bodyPost_ret (v := .tuple #[.agg #[.int .i64 r1, .int .i64 r2], .int .i64 me]) (by simp [results, Tryd.results48, go_sem, z0, z1]) rfl ⟨rfl, hb⟩
set_option maxHeartbeats 1000000 in
theorem refMake_half2 (n : Int) (w : World) (hd0 : (-9223372036854775808 == (0:Int)) = false) (e2 : (n == -9223372036854775808) = false) (a : Int) (t2 : n.tmod 2 = 0) (t4 : n.tdiv 2 = a) (t6 : IntKind.i64.wrap a = a) (r1 r2 me : Int)
    (hc : ∀ W, Calls Tryd.prog 48 #[.int .i64 a, .int .i64 (-4611686018427387904)] W (Ret W (.tuple #[Rat2.v ⟨r1, r2⟩, .int .i64 me]))) :
    Calls Tryd.prog 48 #[.int .i64 n, .int .i64 (-9223372036854775808)] w (Ret w (.tuple #[Rat2.v ⟨r1, r2⟩, .int .i64 me])) := by
  have HC := Lib.hid hc
  clear hc
  have hb := below_alloc w (.cells #[.int .i64 0, .int .i64 0] 23)
  have y := (Blk.new w 23 #[.int .i64 0, .int .i64 0])
  go_enter Tryd.func48, Tryd.ntmps48
  go_wp2_with fail
  refine (HC.out _).mono ?_
  rintro e w1 ⟨rfl, hb1⟩
  replace y := y.keep hb1
  replace hb := hb.trans (hb1.mono hb.size)
  clear hb1
  have y0 := y.cell (i := 0) rfl
  have y1 := y.cell (i := 1) rfl
  have y2 := y.frozen
  have HY := Lib.hid (y.set2 (.int .i64 r1) (.int .i64 r2))
  have HB := Lib.hid (below_set2 hb (Nat.le_refl _) (.int .i64 r1) (.int .i64 r2))
  clear y hb
  go_wp2_with fail
  have z := HY.out
  have hb := HB.out
  clear HY HB y0 y1 y2
  generalize World.setCell _ _ _ = w2 at z hb ⊢
  have z0 := z.cell (i := 0) rfl
  have z1 := z.cell (i := 1) rfl
  refine bodyPost_ret (v := .tuple #[.agg #[.int .i64 r1, .int .i64 r2], .int .i64 me]) (by simp [results, Tryd.results48, go_sem, z0, z1]) rfl ⟨rfl, hb⟩
set_option maxHeartbeats 1000000 in
theorem refMake_odd1 (d : Int) (w : World) (hd0 : (d == (0:Int)) = false) (e2 : (d == -9223372036854775808) = false) (t2 : (d.tmod 2 == 0) = false) :
    Calls Tryd.prog 48 #[.int .i64 (-9223372036854775808), .int .i64 d] w (Ret w (.tuple #[.agg #[.int .i64 0, .int .i64 0], .int .i64 16])) := by
  have hb := below_alloc w (.cells #[.int .i64 0, .int .i64 0] 23)
  have y := (Blk.new w 23 #[.int .i64 0, .int .i64 0])
  go_enter Tryd.func48, Tryd.ntmps48
  go_wp2_with fail
  have y0 := y.cell (i := 0) rfl
  have y1 := y.cell (i := 1) rfl
  refine bodyPost_ret (v := .tuple #[.agg #[.int .i64 0, .int .i64 0], .int .i64 16]) (by simp [results, Tryd.results48, go_sem, y0, y1]) rfl ⟨rfl, hb⟩
set_option maxHeartbeats 1000000 in
theorem refMake_odd2 (n : Int) (w : World) (e2 : (n == -9223372036854775808) = false) (t2 : (n.tmod 2 == 0) = false) :
    Calls Tryd.prog 48 #[.int .i64 n, .int .i64 (-9223372036854775808)] w (Ret w (.tuple #[.agg #[.int .i64 0, .int .i64 0], .int .i64 16])) := by
  have hb := below_alloc w (.cells #[.int .i64 0, .int .i64 0] 23)
  have y := (Blk.new w 23 #[.int .i64 0, .int .i64 0])
  go_enter Tryd.func48, Tryd.ntmps48
  go_wp2_with fail
  have y0 := y.cell (i := 0) rfl
  have y1 := y.cell (i := 1) rfl
  refine bodyPost_ret (v := .tuple #[.agg #[.int .i64 0, .int .i64 0], .int .i64 16]) (by simp [results, Tryd.results48, go_sem, y0, y1]) rfl ⟨rfl, hb⟩
theorem refMake_any (n d : Int) (w : World) (hn : -9223372036854775808 ≤ n) (hn' : n ≤ 9223372036854775807) (hd : -9223372036854775808 ≤ d) (hd' : d ≤ 9223372036854775807) :
    Calls Tryd.prog 48 #[.int .i64 n, .int .i64 d] w (Ret w (.tuple #[(makeR n d).v, .int .i64 (makeE n d)])) := by
  by_cases h0 : d = 0
  · subst h0; exact refMake_zero n w
  by_cases h1 : n = -9223372036854775808
  · by_cases h2 : d = -9223372036854775808
    · subst h1 h2
      have := refMake_both w
      rwa [show makeR (-9223372036854775808) (-9223372036854775808) = ⟨1, 1⟩ by decide +kernel, show makeE (-9223372036854775808) (-9223372036854775808) = 0 by decide +kernel]
    · subst h1
      by_cases h3 : d.tmod 2 = 0
      · obtain ⟨b, rfl⟩ : ∃ b, d = 2 * b := ⟨d / 2, by rw [tm2] at h3; omega⟩
        have hm := make_two (a := -4611686018427387904) (b := b)
        rw [show (2 : Int) * -4611686018427387904 = -9223372036854775808 by decide] at hm
        rw [hm.1, hm.2]
        exact refMake_half1 (2 * b) w (by simp; omega) (by simp; omega) b h3 (by simp) (by rw [IntKind.wrap_i64]; omega) _ _ _ (fun W => refMake_main _ b W (by omega) (by omega) (by omega) (by omega))
      · obtain ⟨m1, m2⟩ := make_odd (n := -9223372036854775808) (d := d) h0 (.inl ⟨rfl, by rw [tm2] at h3; omega⟩)
        rw [m1, m2]
        exact refMake_odd1 d w (by simpa using h0) (by simpa using h2) (by simpa using h3)
  · by_cases h2 : d = -9223372036854775808
    · subst h2
      by_cases h3 : n.tmod 2 = 0
      · obtain ⟨a, rfl⟩ : ∃ a, n = 2 * a := ⟨n / 2, by rw [tm2] at h3; omega⟩
        have hm := make_two (a := a) (b := -4611686018427387904)
        rw [show (2 : Int) * -4611686018427387904 = -9223372036854775808 by decide] at hm
        rw [hm.1, hm.2]
        exact refMake_half2 (2 * a) w (by decide) (by simp; omega) a h3 (by simp) (by rw [IntKind.wrap_i64]; omega) _ _ _ (fun W => refMake_main a _ W (by omega) (by omega) (by omega) (by omega))
      · obtain ⟨m1, m2⟩ := make_odd (n := n) (d := -9223372036854775808) h0 (.inr ⟨rfl, by rw [tm2] at h3; omega⟩)
        rw [m1, m2]
        exact refMake_odd2 n w (by simpa using h1) (by simpa using h3)
    · exact refMake_main n d w (by omega) (by omega) (by omega) (by omega)
end Go.Proofs.YtjgampkpfjbmdaaDoor
end
section
/- The reference's Decimal, Text, Number and Parse. -/
namespace Go.Rel
open Go.RowKit
theorem dec_step {N n : Nat} {S : Bs} (h : Lib.decDigits N = Lib.decDigits n ++ S) : (n < 10 → Lib.decDigits N = UInt8.ofNat (48 + n % 10) :: S) ∧ (¬ n < 10 → Lib.decDigits N = Lib.decDigits (n / 10) ++ UInt8.ofNat (48 + n % 10) :: S) := by
  refine ⟨fun hn => ?_, fun hn => ?_⟩
  · rw [h, dec_small hn, show n % 10 = n by omega]; rfl
  · rw [h, dec_big hn, List.append_assoc]; rfl
theorem str_append (a b : Bs) : str a ++ str b = str (a ++ b) := by
  apply ByteArray.ext
  simp [str]
theorem itoa_pos {n : Int} (h : 0 ≤ n) : Lib.itoa n = Lib.decDigits n.toNat := by
  unfold Lib.itoa; rw [if_neg (by omega)]
theorem itoa_neg {n : Int} (h : 0 < n) : Lib.itoa (-n) = 45 :: Lib.itoa n := by
  rw [show Lib.itoa (-n) = 45 :: Lib.decDigits (-n).natAbs from if_pos (by omega), itoa_pos (show 0 ≤ n by omega), show (-n).natAbs = n.toNat by omega]
theorem neg_itoa {n : Int} (h : n < 0) : Lib.itoa n = 45 :: Lib.decDigits n.natAbs := if_pos h
open Classical in
/-- The bytes are what Decimal writes of a number of at most ten digits. -/
noncomputable def numB (l : Bs) : Bool := decide (∃ n : Int, n.natAbs < 10000000000 ∧ l = Lib.itoa n)
open Classical in
theorem numB_true {l : Bs} : numB l = true ↔ ∃ n : Int, n.natAbs < 10000000000 ∧ l = Lib.itoa n := by
  unfold numB; rw [decide_eq_true_iff]
open Classical in
theorem numB_false {l : Bs} : numB l = false ↔ ¬ ∃ n : Int, n.natAbs < 10000000000 ∧ l = Lib.itoa n := by
  unfold numB; rw [decide_eq_false_iff_not]
def frN (l : Bs) : Nat := if l.head? = some 45 then 1 else 0
theorem frN_itoa (n : Int) : frN (Lib.itoa n) = (if n < 0 then 1 else 0) ∧ (Lib.itoa n).drop (frN (Lib.itoa n)) = Lib.decDigits n.natAbs := by
  by_cases h : n < 0
  · rw [neg_itoa h, if_pos h]
    exact ⟨rfl, rfl⟩
  · rw [itoa_pos (by omega), if_neg h, show n.toNat = n.natAbs by omega]
    have h0 : frN (Lib.decDigits n.natAbs) = 0 := by
      unfold frN
      refine if_neg (fun e => ?_)
      exact dec_no (c := 45) (by decide) n.natAbs (List.mem_of_mem_head? e)
    rw [h0]
    exact ⟨rfl, rfl⟩
theorem num_val {l : Bs} {n : Int} (e : l = Lib.itoa n) : (l.drop (frN l)).all isD = true ∧ numOf (l.drop (frN l)) 0 = n.natAbs ∧ (l.drop (frN l)) ≠ [] ∧ n = (if frN l = 1 then -((numOf (l.drop (frN l)) 0 : Nat) : Int) else (numOf (l.drop (frN l)) 0 : Nat)) := by
  subst e
  obtain ⟨h1, h2⟩ := frN_itoa n
  rw [h2, dec_num]
  refine ⟨dec_all _, rfl, dec_ne _, ?_⟩
  rw [h1]
  by_cases h : n < 0
  · rw [if_pos h, if_pos rfl]; omega
  · rw [if_neg h, if_neg (by decide)]; omega
theorem num_len {l : Bs} {n : Int} (h : n.natAbs < 10000000000) (e : l = Lib.itoa n) : (l.drop (frN l)).length ≤ 10 := by
  subst e
  rw [(frN_itoa n).2]
  exact dec_len 9 _ (by simpa using h)
theorem num_not {l : Bs} (h : (l.drop (frN l)).all isD = false) : numB l = false := by
  rw [numB_false]
  rintro ⟨n, hn, e⟩
  rw [(num_val e).1] at h
  cases h
theorem num_long {l : Bs} (h : 10 < (l.drop (frN l)).length) : numB l = false := by
  rw [numB_false]
  rintro ⟨n, hn, e⟩
  have := num_len hn e
  omega
theorem num_none {l : Bs} (h : (l.drop (frN l)).length = 0) : numB l = false := by
  rw [numB_false]
  rintro ⟨n, hn, e⟩
  exact (num_val e).2.2.1 (List.length_eq_zero_iff.1 h)
theorem num_fin {l : Bs} {v : Int} (h1 : (l.drop (frN l)).all isD = true) (h2 : (l.drop (frN l)).length ≤ 10) (hv : v = (if frN l = 1 then -((numOf (l.drop (frN l)) 0 : Nat) : Int) else (numOf (l.drop (frN l)) 0 : Nat))) :
    numB l = decide (Lib.itoa v = l) := by
  by_cases h : Lib.itoa v = l
  · rw [decide_eq_true h, numB_true]
    refine ⟨v, ?_, h.symm⟩
    have h3 := numOf_lt h1 0
    have h4 : 10 ^ (l.drop (frN l)).length ≤ 10 ^ 10 := Nat.pow_le_pow_right (by decide) h2
    have h5 : (10 : Nat) ^ 10 = 10000000000 := by decide
    rw [h5] at h4
    split at hv <;> omega
  · rw [decide_eq_false h, numB_false]
    rintro ⟨n, hn, e⟩
    rw [← (num_val e).2.2.2] at hv
    rw [hv] at h
    exact h e.symm
end Go.Rel
namespace Go.Proofs.YtjgampkpfjbmdaaDoor
open Go.RowKit Go.Rel
theorem wrap_tenth (n : Nat) (h : (n : Int) ≤ 9223372036854775807) : wrap64 ((n : Int) / 10) = (n : Int) / 10 := by
  unfold wrap64; omega
theorem n_len (N : Nat) (h : (N : Int) ≤ 9223372036854775807) : (Lib.decDigits N).length ≤ 19 :=
  dec_len 18 N (Nat.lt_of_le_of_lt (show N ≤ 9223372036854775807 by omega) (by decide +kernel))
def dg (x : Int) : ByteArray := str [UInt8.ofNat x.toNat]
theorem dg_size (x : Int) : (dg x).size = 1 := rfl
theorem dg_conv (W : World) (x : Int) : (convert 68 9 (.slice (some ⟨W.heap.size, 0, none⟩) 1 1)).run Tryd.prog (W.alloc (.cells #[.int .u8 x] 5)) = .ok (.string (dg x)) (W.alloc (.cells #[.int .u8 x] 5)) := by
  rw [run_convert_bytes_string (P := Tryd.prog) _ 68 9 5 _ 1 1 Tryd.underlying68 Tryd.underlying5 Tryd.underlying9]
  have hl := run_loadCells_list (P := Tryd.prog) (W.alloc (.cells #[.int .u8 x] 5)) ⟨W.heap.size, 0, none⟩ ([x].map (Value.int .u8)) (fun j v hj => by
    match j, hj with
    | 0, hj => simp at hj; subst hj; exact cell_new W _ _ rfl)
  rw [run_bytesToString _ ⟨W.heap.size, 0, none⟩ 1 1 [x] hl]
  rfl
set_option maxHeartbeats 1000000 in
theorem decimal_pos (N : Nat) (w : World) (hN : (N : Int) ≤ 9223372036854775807) :
    Calls Tryd.prog 82 #[.int .i64 N] w (Ret w (.string (str (Lib.decDigits N)))) := by
  have hlen := n_len N hN
  have hx : decide ((N : Int) < 0) = false := by simp
  have HN := Lib.hid hlen
  clear hlen
  go_enter Tryd.func82, Tryd.ntmps82
  go_wp2_with fail
  go_loopw [0, 3] (fun nv sv wr => ∃ (n : Nat) (S : Bs), n ≤ N ∧ nv = .int .i64 n ∧ sv = .string (str S) ∧ Lib.decDigits N = Lib.decDigits n ++ S ∧ Below w.heap.size w wr) (fun nv _ _ => (intOf nv).toNat)
  case atStart => exact ⟨N, [], by omega, rfl, rfl, by simp, Below.refl _ _⟩
  case round =>
    obtain ⟨n, S, hn, rfl, rfl, hS, hb⟩ := hrel
    have S1 := Lib.hid (dec_step hS)
    have hb2 := hb.trans ((below_alloc wr (.cells #[.int .u8 (48 + n % 10)] 5)).mono hb.size)
    have hlS : (str S).size ≤ 19 := by
      have h1 := congrArg List.length hS
      rw [List.length_append] at h1
      have := HN.out
      rw [str_size]; omega
    have hcat : dg (48 + (n : Int) % 10) ++ str S = str (UInt8.ofNat (48 + n % 10) :: S) := by
      unfold dg
      rw [show (48 + (n : Int) % 10).toNat = 48 + n % 10 by omega]
      exact str_append [_] S
    have hcv := dg_conv
    have hds := dg_size
    have HC := Lib.hid hcat
    clear hS hcat
    generalize str S = SS at hlS HC ⊢
    have hw := wrap_tenth n (by omega)
    by_cases h10 : n < 10
    · have hz : ((n : Int) / 10 == 0) = true := by simp; omega
      clear hx hN
      go_wp2_with fail
      go_ret
      refine ⟨?_, hb2⟩
      rw [S1.out.1 h10]
      exact congrArg (fun x => Ending.returned (.string x)) HC.out
    · have hz : ((n : Int) / 10 == 0) = false := by simp; omega
      clear hx hN
      go_wp2_with fail
      go_roundw
      case rel => exact ⟨n / 10, _, by omega, by rw [hw]; rfl, congrArg Value.string HC.out, S1.out.2 h10, hb2⟩
      case measure => rw [hw]; simp only [intOf]; omega
theorem decimal_any (n : Int) (w : World) (h1 : -9223372036854775807 ≤ n) (h2 : n ≤ 9223372036854775807) :
    Calls Tryd.prog 82 #[.int .i64 n] w (Ret w (.string (str (Lib.itoa n)))) := by
  by_cases h : n < 0
  · have hc := fun W => decimal_pos n.natAbs W (by omega)
    have hl := n_len n.natAbs (by omega)
    rw [show ((n.natAbs : Nat) : Int) = -n by omega] at hc
    have hz : (str (Lib.decDigits n.natAbs)).size ≤ 19 := hl
    have hcat : (⟨#[45]⟩ : ByteArray) ++ str (Lib.decDigits n.natAbs) = str (Lib.itoa n) := by
      rw [neg_itoa h]; exact str_append [45] _
    have HC := Lib.hid hc
    have HE := Lib.hid hcat
    have hx : decide (n < 0) = true := by simpa using h
    have hw : wrap64 (-n) = -n := by unfold wrap64; omega
    clear hc hl hcat
    generalize str (Lib.decDigits n.natAbs) = D at hz HC HE
    go_enter Tryd.func82, Tryd.ntmps82
    go_wp2_with fail
    refine (HC.out _).mono ?_
    rintro e w1 ⟨rfl, hb⟩
    go_wp2_with fail
    go_ret
    exact ⟨congrArg (fun x => Ending.returned (.string x)) HE.out, hb⟩
  · have := decimal_pos n.toNat w (by omega)
    rwa [show ((n.toNat : Nat) : Int) = n by omega, ← itoa_pos (show 0 ≤ n by omega)] at this
end Go.Proofs.YtjgampkpfjbmdaaDoor
end
section
/- The text of a value (plain Lean, no program). -/
namespace Go.Rel
open Go.RowKit
/-- A string's byte as it is written. -/
def escB (c : UInt8) : Bs := if c = 34 ∨ c = 92 then [92, c] else [c]
def escL : Bs → Bs
  | [] => []
  | c :: r => escB c ++ escL r
theorem escL_append : ∀ a b : Bs, escL (a ++ b) = escL a ++ escL b
  | [], b => rfl
  | c :: a, b => by simp [escL, escL_append a b]
theorem escL_len : ∀ a : Bs, (escL a).length ≤ 2 * a.length
  | [] => Nat.le_refl _
  | c :: a => by
    have := escL_len a
    have h2 : (escB c).length ≤ 2 := by unfold escB; split <;> simp
    simp only [escL, List.length_append, List.length_cons]
    omega
def boolL (t : Bool) : Bs := if t then [116, 114, 117, 101] else [102, 97, 108, 115, 101]
mutual
/-- The text of a tree. -/
def wrT : Tree → Bs
  | .node k q t s kids =>
    if k = 1 then textL q else if k = 2 then boolL t else if k = 3 then 34 :: (escL s.data.toList ++ [34]) else 91 :: (wrA false kids ++ [93])
def wrA : Bool → List Tree → Bs
  | _, [] => []
  | b, t :: r => (if b then [44, 32] else []) ++ (wrT t ++ wrA true r)
end
theorem wrA_append : ∀ (b : Bool) (l m : List Tree), wrA b (l ++ m) = wrA b l ++ wrA (b || !l.isEmpty) m
  | b, [], m => by simp [wrA]
  | b, t :: l, m => by simp [wrA, wrA_append true l m]
theorem wrA_take {l : List Tree} {i : Nat} (h : i < l.length) : wrA false (l.take (i + 1)) = wrA false (l.take i) ++ ((if 0 < i then [44, 32] else []) ++ wrT l[i]) := by
  rw [take_next h, wrA_append]
  congr 1
  cases i with
  | zero => simp [wrA]
  | succ i =>
    cases l with
    | nil => simp at h
    | cons t r => simp [wrA]
theorem wrA_take_le (l : List Tree) (b : Bool) (i : Nat) : (wrA b (l.take i)).length ≤ (wrA b l).length := by
  conv => rhs; rw [← List.take_append_drop i l, wrA_append]
  simp
end Go.Rel
end
