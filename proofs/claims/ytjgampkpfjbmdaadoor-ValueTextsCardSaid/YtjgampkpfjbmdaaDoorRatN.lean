/- Text and Parse of the reference. -/
import Derived.Test.YtjgampkpfjbmdaaDoorRatZ
namespace Go.Rel
open Go.RowKit
theorem bef_at {c : UInt8} {l : Bs} {k : Nat} (hk : k < (bef c l).length) (h : k < l.length) : l[k] ≠ c := by
  have hm : (bef c l)[k] ∈ bef c l := List.getElem_mem _
  have he : l[k] = (bef c l)[k] := by
    by_cases hc : c ∈ l
    · have := List.getElem?_append_left (l₂ := c :: aft c l) hk
      rw [← bef_some hc, List.getElem?_eq_getElem h, List.getElem?_eq_getElem hk] at this
      exact Option.some.inj this
    · have := (bef_none hc).1
      simp only [this]
  rw [he]
  intro e
  rw [e] at hm
  exact bef_no c l hm
theorem bef_end {c : UInt8} {l : Bs} (hc : c ∈ l) : l[(bef c l).length]? = some c := by
  conv => lhs; arg 1; rw [bef_some hc]
  simp
theorem bef_le (c : UInt8) (l : Bs) : (bef c l).length ≤ l.length := (List.takeWhile_sublist _).length_le
theorem bef_lt {c : UInt8} {l : Bs} : c ∈ l ↔ (bef c l).length < l.length := by
  constructor
  · intro h
    have := congrArg List.length (bef_some h)
    simp at this
    omega
  · intro h
    by_cases hc : c ∈ l
    · exact hc
    · rw [(bef_none hc).1] at h; omega
theorem bef_take (c : UInt8) (l : Bs) : bef c l = l.take (bef c l).length := by
  by_cases hc : c ∈ l
  · conv => rhs; arg 2; rw [bef_some hc]
    simp
  · rw [(bef_none hc).1]; simp
theorem aft_drop {c : UInt8} {l : Bs} (hc : c ∈ l) : aft c l = l.drop ((bef c l).length + 1) := by
  conv => rhs; arg 2; rw [bef_some hc]
  rw [show bef c l ++ c :: aft c l = (bef c l ++ [c]) ++ aft c l by simp, List.drop_append, List.drop_of_length_le (by simp)]
  simp
theorem bef_str (c : UInt8) (s : ByteArray) : s.extract 0 (bef c s.data.toList).length = str (bef c s.data.toList) := by
  rw [Lib.extract_eq]
  unfold str
  congr 2
  simp only [List.drop_zero, Nat.sub_zero]
  exact (bef_take c _).symm
theorem parse_iff {s : Bs} : parseOk s ↔ ∃ r : Rat2, RatOk r ∧ textL r = s := by
  constructor
  · intro h; exact ⟨outP s, h.2.2.1, h.2.2.2⟩
  · rintro ⟨r, h, rfl⟩; exact (parse_text h).1
theorem itoa_inj {n m : Int} (h : Lib.itoa n = Lib.itoa m) : n = m := by
  have h1 := (num_val (l := Lib.itoa n) rfl).2.2.2
  have h2 := (num_val (l := Lib.itoa n) h).2.2.2
  rw [h1]; exact h2.symm
theorem no_slash (n : Int) : 47 ∉ Lib.itoa n := by
  by_cases h : n < 0
  · rw [neg_itoa h]
    intro h2
    rcases List.mem_cons.1 h2 with e | e
    · exact absurd e (by decide)
    · exact dec_no (by decide) _ e
  · rw [itoa_pos (by omega)]
    exact dec_no (by decide) _
theorem text_cut {r : Rat2} {s : Bs} (h : textL r = s) : bef 47 s = Lib.itoa r.n ∧ ((r.d = 1 ∧ 47 ∉ s) ∨ (r.d ≠ 1 ∧ 47 ∈ s ∧ aft 47 s = Lib.itoa r.d)) := by
  subst h
  unfold textL
  by_cases hd : r.d = 1
  · rw [if_pos hd, List.append_nil]
    exact ⟨(bef_none (no_slash _)).1, .inl ⟨hd, no_slash _⟩⟩
  · rw [if_neg hd]
    obtain ⟨h1, h2⟩ := bef_unique (b := Lib.itoa r.d) (no_slash r.n)
    exact ⟨h1, .inr ⟨hd, by simp, h2⟩⟩
theorem ok_small {r : Rat2} (h : RatOk r) : r.n.natAbs < 10000000000 ∧ r.d.natAbs < 10000000000 := by
  obtain ⟨h1, h2, h3, h4, -⟩ := h
  omega
theorem parse_no1 {s : Bs} (h : numB (bef 47 s) = false) : ¬ parseOk s := by
  rw [parse_iff]
  rintro ⟨r, hr, e⟩
  exact (numB_false.1 h) ⟨r.n, (ok_small hr).1, (text_cut e).1⟩
theorem parse_no2 {s : Bs} (hm : 47 ∈ s) (h : numB (aft 47 s) = false) : ¬ parseOk s := by
  rw [parse_iff]
  rintro ⟨r, hr, e⟩
  rcases (text_cut e).2 with ⟨-, h2⟩ | ⟨-, -, h2⟩
  · exact h2 hm
  · exact (numB_false.1 h) ⟨r.d, (ok_small hr).2, h2⟩
theorem parse_one {s : Bs} {n : Int} (hm : 47 ∉ s) (h : bef 47 s = Lib.itoa n) : (RatOk ⟨n, 1⟩ → parseOk s ∧ outP s = ⟨n, 1⟩) ∧ (¬ RatOk ⟨n, 1⟩ → ¬ parseOk s) := by
  have hs : textL ⟨n, 1⟩ = s := by
    unfold textL; simp only [if_pos]
    rw [List.append_nil, ← h, (bef_none hm).1]
  refine ⟨fun hk => by rw [← hs]; exact parse_text hk, fun hk => ?_⟩
  rw [parse_iff]
  rintro ⟨r, hr, e⟩
  obtain ⟨h1, ⟨h2, -⟩ | ⟨-, h2, -⟩⟩ := text_cut e
  · have : r.n = n := itoa_inj (h1.symm.trans h)
    obtain ⟨rn, rd⟩ := r
    simp only at this h2
    subst this h2
    exact hk hr
  · exact hm h2
theorem parse_two {s : Bs} {n d : Int} (hm : 47 ∈ s) (h : bef 47 s = Lib.itoa n) (h2 : aft 47 s = Lib.itoa d) : (d = 1 → ¬ parseOk s) ∧ (d ≠ 1 → RatOk ⟨n, d⟩ → parseOk s ∧ outP s = ⟨n, d⟩) ∧ (¬ RatOk ⟨n, d⟩ → ¬ parseOk s) := by
  have hu : ∀ r : Rat2, textL r = s → r.n = n ∧ r.d = d ∧ r.d ≠ 1 := fun r e => by
    obtain ⟨h1, ⟨-, h3⟩ | ⟨h3, -, h4⟩⟩ := text_cut e
    · exact absurd hm h3
    · exact ⟨itoa_inj (h1.symm.trans h), itoa_inj (h4.symm.trans h2), h3⟩
  refine ⟨fun hd => ?_, fun hd hk => ?_, fun hk => ?_⟩
  · rw [parse_iff]
    rintro ⟨r, hr, e⟩
    obtain ⟨-, h3, h4⟩ := hu r e
    exact h4 (h3.trans hd)
  · have hs : textL ⟨n, d⟩ = s := by
      unfold textL; simp only [if_neg hd]
      rw [← h, ← h2, ← bef_some hm]
    rw [← hs]; exact parse_text hk
  · rw [parse_iff]
    rintro ⟨r, hr, e⟩
    obtain ⟨h3, h4, -⟩ := hu r e
    obtain ⟨rn, rd⟩ := r
    simp only at h3 h4
    subst h3 h4
    exact hk hr
theorem parse_yes {s : Bs} {r : Rat2} (h : parseOk s ∧ outP s = r) : parseR s = r ∧ parseE s = 0 := ⟨(if_pos h.1).trans h.2, if_pos h.1⟩
theorem parse_nil {s : Bs} (h : ¬ parseOk s) : parseR s = ⟨0, 0⟩ ∧ parseE s = 12 := ⟨if_neg h, if_neg h⟩
end Go.Rel
namespace Go.Proofs.YtjgampkpfjbmdaaDoor
open Go.RowKit Go.Rel
theorem number_any (s : ByteArray) (w : World) (hs : s.size ≤ 100000) :
    Calls Tryd.prog 99 #[.string s] w fun e w' => ∃ v : Int, e = .returned (.tuple #[.int .i64 v, .bool (numB s.data.toList)]) ∧ Below w.heap.size w w' ∧ (-9999999999 ≤ v ∧ v ≤ 9999999999 ∧ (numB s.data.toList = true → s.data.toList = Lib.itoa v)) := by
  by_cases h0 : s.size = 0
  · have hn : s.data.toList.length = 0 := by rw [← h0]; simp
    have hb := num_none (l := s.data.toList) (by rw [List.length_drop]; omega)
    refine (number_nil s w h0).mono ?_
    rintro e w' ⟨rfl, hx⟩
    exact ⟨0, by rw [hb], hx, by decide, by decide, fun h => by rw [hb] at h; cases h⟩
  · have hp : 0 < s.size := by omega
    have hh : s.data.toList.head? = some s[0] := by
      rw [List.head?_eq_getElem?, List.getElem?_eq_getElem (by simpa using hp)]
      rfl
    cases hd : ((s[0].toNat : Nat) : Int) == 45
    · refine number_pos s w hs hp hd ?_
      unfold frN
      rw [hh, if_neg]
      rw [Option.some.injEq, u8_eq]
      simpa using hd
    · refine number_neg s w hs hp hd ?_
      unfold frN
      rw [hh, if_pos]
      rw [Option.some.injEq, u8_eq]
      simpa using hd
set_option maxHeartbeats 1000000 in
theorem refText_any (a : Rat2) (w : World) (ha : Rat64 a) :
    Calls Tryd.prog 62 #[a.v] w (Ret w (.tuple #[.string (textS a), .int .i64 (ratE a)])) := by
  obtain ⟨h1, h2, h3, h4⟩ := ha
  have hb := below_alloc w (.cells #[.int .i64 a.n, .int .i64 a.d] 23)
  have q := Blk.new w 23 #[.int .i64 a.n, .int .i64 a.d]
  have hc := fun W => refRatCheck_any a W h1 h2 h3 h4
  obtain ⟨n, d⟩ := a
  simp only at h1 h2 h3 h4 hb q
  rcases check_split ⟨n, d⟩ with ⟨hok, he⟩ | ⟨hok, he⟩
  · rw [he] at hc
    have hts : textS ⟨n, d⟩ = str (textL ⟨n, d⟩) := if_pos hok
    rw [he, hts]
    have f1 := fun W => decimal_any n W (by have h := hok.2.2.1; simp only at h; omega) h2
    have f2 := fun W => decimal_any d W (by have h := hok.1; simp only at h; omega) h4
    have l1 : (str (Lib.itoa n)).size ≤ 21 := Lib.itoa_length_le n h1 h2
    have l2 : (str (Lib.itoa d)).size ≤ 21 := Lib.itoa_length_le d h3 h4
    have HC := Lib.hid hc
    have F1 := Lib.hid f1
    have F2 := Lib.hid f2
    by_cases hd : d = 1
    · have hd1 : (d == 1) = true := by simpa using hd
      have HT := Lib.hid (show textL ⟨n, d⟩ = Lib.itoa n by unfold textL; simp only [if_pos hd]; exact List.append_nil _)
      clear hc f1 f2 hok he hts hd
      go_enter Tryd.func62, Tryd.ntmps62
      go_wp2_with fail
      generalize World.alloc _ _ = w0 at hb q ⊢
      have c0 := q.cell (i := 0) rfl
      have c1 := q.cell (i := 1) rfl
      go_wp2_with fail
      clear c0 c1
      refine (HC.out _).mono ?_
      rintro e w1 ⟨rfl, hx⟩
      replace q := q.keep hx
      replace hb := hb.trans (hx.mono hb.size)
      clear hx
      have c0 := q.cell (i := 0) rfl
      have c1 := q.cell (i := 1) rfl
      go_wp2_with fail
      clear c0 c1
      refine (F1.out _).mono ?_
      rintro e w2 ⟨rfl, hx⟩
      replace hb := hb.trans (hx.mono hb.size)
      clear hx
      go_wp2_with fail
      go_ret2
      exact ⟨by rw [HT.out]; rfl, hb⟩
    · have hd1 : (d == 1) = false := by simpa using hd
      have HT := Lib.hid (show str (textL ⟨n, d⟩) = (str (Lib.itoa n) ++ ⟨#[47]⟩) ++ str (Lib.itoa d) by
        unfold textL; simp only [if_neg hd]
        rw [show (⟨#[47]⟩ : ByteArray) = str [47] from rfl, str_append, str_append, List.append_assoc]; rfl)
      have l3 : (str (Lib.itoa n) ++ ⟨#[47]⟩).size ≤ 22 := by
        rw [ByteArray.size_append]
        have : (⟨#[47]⟩ : ByteArray).size = 1 := rfl
        omega
      clear hc f1 f2 hok he hts hd
      generalize str (Lib.itoa n) = T1 at *
      generalize str (Lib.itoa d) = T2 at *
      go_enter Tryd.func62, Tryd.ntmps62
      go_wp2_with fail
      generalize World.alloc _ _ = w0 at hb q ⊢
      have c0 := q.cell (i := 0) rfl
      have c1 := q.cell (i := 1) rfl
      go_wp2_with fail
      clear c0 c1
      refine (HC.out _).mono ?_
      rintro e w1 ⟨rfl, hx⟩
      replace q := q.keep hx
      replace hb := hb.trans (hx.mono hb.size)
      clear hx
      have c0 := q.cell (i := 0) rfl
      have c1 := q.cell (i := 1) rfl
      go_wp2_with fail
      clear c0 c1
      have k0 := fun W (hW : Below w1.heap.size w1 W) => (q.keep hW).cell (i := 0) rfl
      have k1 := fun W (hW : Below w1.heap.size w1 W) => (q.keep hW).cell (i := 1) rfl
      have HB := Lib.hid hb
      clear hb q
      apply wp_region_head 8 23 (hm := by kernel_rfl) (hN := rfl)
      case h =>
        simp only [List.take_succ_cons, List.take_zero]
        iterate 2 (apply head_still (by kernel_rfl); (intro W hW; go_simp; (try rfl)))
        (apply head_call (by kernel_rfl); (intro W; go_simp; exact ⟨rfl, rfl⟩); (intro W hW; exact F1.out W))
        (apply head_still (by kernel_rfl); (intro W hW; go_simp; exact if_neg (by omega)))
        iterate 2 (apply head_still (by kernel_rfl); (intro W hW; go_simp; (try rfl)))
        (apply head_call (by kernel_rfl); (intro W; go_simp; exact ⟨rfl, rfl⟩); (intro W hW; exact F2.out W))
        (apply head_still (by kernel_rfl); (intro W hW; go_simp; exact if_neg (by omega)))
        refine head_nil ?_
        intro W hW hF
        clear k0 k1
        go_wp2_with fail
        go_ret2
        exact ⟨by rw [HT.out]; rfl, HB.out.trans (hW.mono HB.out.size)⟩
      case hB => kernel_rfl
      all_goals rfl
  · rw [he] at hc
    have hts : textS ⟨n, d⟩ = ⟨#[]⟩ := if_neg hok
    rw [he, hts]
    have HC := Lib.hid hc
    clear hc hok he hts
    go_enter Tryd.func62, Tryd.ntmps62
    go_wp2_with fail
    generalize World.alloc _ _ = w0 at hb q ⊢
    have c0 := q.cell (i := 0) rfl
    have c1 := q.cell (i := 1) rfl
    go_wp2_with fail
    clear c0 c1
    refine (HC.out _).mono ?_
    rintro e w1 ⟨rfl, hx⟩
    replace q := q.keep hx
    replace hb := hb.trans (hx.mono hb.size)
    clear hx
    have c0 := q.cell (i := 0) rfl
    have c1 := q.cell (i := 1) rfl
    go_wp2_with fail
    refine (HC.out _).mono ?_
    rintro e w2 ⟨rfl, hx⟩
    replace hb := hb.trans (hx.mono hb.size)
    clear hx c0 c1
    go_wp2_with fail
    go_ret2
    exact ⟨rfl, hb⟩
end Go.Proofs.YtjgampkpfjbmdaaDoor
