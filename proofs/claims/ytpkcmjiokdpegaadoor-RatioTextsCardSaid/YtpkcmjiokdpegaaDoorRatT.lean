/- Text of a ratio: its numbers in decimal. Condition: the library's table of the powers of ten is laid. -/
import Derived.Test.YtpkcmjiokdpegaaDoorRatB
import Derived.Test.YtpkcmjiokdpegaaDoorRatL
import Derived.Test.YtpkcmjiokdpegaaDoorShelf
import Derived.Lib.SmallJoins
import Derived.Lib.ItoaLen
namespace Go.Rel
open Go.RowKit
/-- What Text writes. -/
def textL (a : Rat2) : List UInt8 := Lib.itoa a.n ++ if a.d = 1 then [] else 47 :: Lib.itoa a.d
def textS (a : Rat2) : ByteArray := if RatOk a then ⟨(textL a).toArray⟩ else ⟨#[]⟩
theorem text_join {n d : Int} {s s2 : ByteArray} (h : ¬ d = 1) (h1 : (⟨(Lib.itoa n).toArray⟩ : ByteArray) = s) (h2 : (⟨(Lib.itoa d).toArray⟩ : ByteArray) = s2) : s ++ (⟨#[47]⟩ ++ s2) = ⟨(textL ⟨n, d⟩).toArray⟩ := by
  subst h1 h2
  apply ByteArray.ext
  simp [textL, h, ByteArray.data_append]
theorem below_grow (w : World) (q : Nat) (os : Array Obj) : Below w.heap.size w (Sort.grow (w.drewN q) os) :=
  ⟨rfl, rfl, rfl, by first | (simp [Sort.grow]; done) | (simp [Sort.grow]; omega), fun i hi => by
    show ((w.drewN q).heap ++ os)[i]? = _
    rw [Array.getElem?_append_left (by show i < w.heap.size; omega)]
    rfl⟩
end Go.Rel
namespace Go.Proofs.YtpkcmjiokdpegaaDoor
open Go.RowKit Go.Rel

/-- The table of the powers of ten is laid. -/
def Tab (w : World) : Prop := Lib.TabIs Tryd.prog w "internal/strconv.uint64pow10" .u64 Lib.pow10Tab
theorem tabGlobal : (Tryd.prog.globalNamed "internal/strconv.uint64pow10").isSome = true := by kernel_rfl
theorem Tab.keep {w w' : World} (h : Tab w) (hb : Below w.heap.size w w') : Tab w' := by
  obtain ⟨g, hg⟩ := Option.isSome_iff_exists.1 tabGlobal
  exact Joins.tab_stays hg h hb (Nat.le_refl _)
theorem format_any (n : Int) (h0 : -9223372036854775808 ≤ n) (h1 : n ≤ 9223372036854775807) (w : World) (ht : Tab w) :
    Calls Tryd.prog 41 #[.int .i64 n, .int .i64 10] w (Ret w (.string ⟨(Lib.itoa n).toArray⟩)) :=
  (Tryd.strconv_FormatInt_10 n h0 h1 w ht).mono fun _ _ ⟨he, k, os, hw⟩ => ⟨he, hw ▸ below_grow w k os⟩

theorem text_any (a : Rat2) (w : World) (ha : Rat64 a) (ht : Tab w) :
    Calls Tryd.prog 22 #[a.v] w (Ret w (.tuple #[.string (textS a), .int .i64 (ratE a)])) := by
  obtain ⟨h1, h2, h3, h4⟩ := ha
  have hb0 := below_alloc w (.cells #[.int .i64 a.n, .int .i64 a.d] 23)
  have q0 := Blk.new w 23 #[.int .i64 a.n, .int .i64 a.d]
  have hc := fun W => ratCheck_any a W h1 h2 h3 h4
  have hf1 := fun W => format_any a.n h1 h2 W
  have hf2 := fun W => format_any a.d h3 h4 W
  obtain ⟨n, d⟩ := a
  simp only at h1 h2 h3 h4 hb0 q0 hf1 hf2
  rcases check_split ⟨n, d⟩ with ⟨hok, he⟩ | ⟨hok, he⟩
  · rw [he] at hc
    have hts : textS ⟨n, d⟩ = ⟨(textL ⟨n, d⟩).toArray⟩ := if_pos hok
    rw [he, hts]
    have HH := Lib.hid (show _ ∧ _ ∧ _ ∧ _ from ⟨hc, hf1, hf2, ht⟩)
    have hdd : (d = 1 ∧ ((d : Int) == 1) = true) ∨ (¬ d = 1 ∧ ((d : Int) == 1) = false) := by
      by_cases h : d = 1
      · exact .inl ⟨h, by simp [h]⟩
      · exact .inr ⟨h, by simpa using h⟩
    have HD := Lib.hid hdd
    clear hc hf1 hf2 ht hok he hts hdd
    go_enter Tryd.func22, Tryd.ntmps22
    go_wp2_with fail
    generalize World.alloc _ _ = w0 at hb0 q0 ⊢
    obtain ⟨hc, hf1, hf2, ht⟩ := HH.out
    have ht0 := Lib.hid (ht.keep hb0)
    clear ht HH
    refine (hc _).mono ?_
    rintro e w1 ⟨rfl, hb1⟩
    have HF := Lib.hid (show _ ∧ _ ∧ _ from ⟨hf1, hf2, ht0.out.keep hb1⟩)
    clear hf1 hf2 hc ht0
    replace q0 := q0.keep hb1
    replace hb0 := hb0.trans (hb1.mono hb0.size)
    have c0 := q0.cell (i := 0) rfl
    have c1 := q0.cell (i := 1) rfl
    clear hb1
    go_wp2_with fail
    refine (HF.out.1 _ HF.out.2.2).mono ?_
    rintro e w2 ⟨rfl, hb1⟩
    have HG := Lib.hid (show _ ∧ _ from ⟨HF.out.2.1, HF.out.2.2.keep hb1⟩)
    replace q0 := q0.keep hb1
    replace hb0 := hb0.trans (hb1.mono hb0.size)
    replace c1 := q0.cell (i := 1) rfl
    clear hb1 c0 HF
    have hsn : ∃ s : ByteArray, (⟨(Lib.itoa n).toArray⟩ : ByteArray) = s := ⟨_, rfl⟩
    obtain ⟨s, hs⟩ := hsn
    have HS := Lib.hid hs
    have zs : s.size ≤ 21 := by rw [← hs]; exact Lib.itoa_length_le n h1 h2
    rw [hs]
    clear hs
    rcases HD.out with ⟨e1, e2⟩ | ⟨e1, e2⟩
    · subst e1
      clear e2
      go_wp2_with fail
      apply bodyPost_ret (v := .tuple #[.string s, .int .i64 0])
      · simp [results, Tryd.results22, go_sem]
      · rfl
      refine ⟨?_, hb0⟩
      rw [← HS.out]; simp [textL]
    · have HE := Lib.hid e1
      clear e1
      go_wp2_with fail
      refine (HG.out.1 _ HG.out.2).mono ?_
      rintro e w3 ⟨rfl, hb1⟩
      replace hb0 := hb0.trans (hb1.mono hb0.size)
      clear hb1 HG c1 q0
      obtain ⟨s2, hs⟩ : ∃ s2 : ByteArray, (⟨(Lib.itoa d).toArray⟩ : ByteArray) = s2 := ⟨_, rfl⟩
      have HS2 := Lib.hid hs
      have zs2 : s2.size ≤ 21 := by rw [← hs]; exact Lib.itoa_length_le d h3 h4
      rw [hs]
      clear hs
      go_wp2_with fail
      apply bodyPost_ret (v := .tuple #[.string ⟨(textL ⟨n, d⟩).toArray⟩, .int .i64 0])
      · simp [results, Tryd.results22, go_sem]
        exact text_join HE.out HS.out HS2.out
      · rfl
      exact ⟨rfl, hb0⟩
  · rw [he] at hc
    have hts : textS ⟨n, d⟩ = ⟨#[]⟩ := if_neg hok
    rw [he, hts]
    have HH := Lib.hid hc
    clear hc hf1 hf2 ht hok he hts
    go_enter Tryd.func22, Tryd.ntmps22
    go_wp2_with fail
    generalize World.alloc _ _ = w0 at hb0 q0 ⊢
    refine (HH.out _).mono ?_
    rintro e w1 ⟨rfl, hb1⟩
    replace hb0 := hb0.trans (hb1.mono hb0.size)
    clear hb1 q0 HH
    go_wp2_with fail
    apply bodyPost_ret (v := .tuple #[.string ⟨#[]⟩, .int .i64 8])
    · simp [results, Tryd.results22, go_sem]
    · rfl
    exact ⟨rfl, hb0⟩
end Go.Proofs.YtpkcmjiokdpegaaDoor
