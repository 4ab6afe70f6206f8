/- Len and At on both sides; spoil. -/
import Derived.Test.YtjgampkpfjbmdaaValE
import Derived.Test.YtjgampkpfjbmdaaValH
namespace Go.Rel
open Go.RowKit
/-- The length of a value, and the error. -/
def lenN (T : Tree) : Int := if chkT T ≠ 0 then 0 else if T.k = 3 then T.s.size else if T.k = 4 then T.kids.length else 0
def lenE (T : Tree) : Int := if chkT T ≠ 0 then chkT T else if T.k = 3 ∨ T.k = 4 then 0 else 20
/-- An element of a value, and the error. -/
def atT (T : Tree) (i : Int) : Tree := if lenE T ≠ 0 then .none_ else if i < 0 ∨ lenN T ≤ i then .none_ else if T.k = 4 then (T.kids[i.toNat]?).getD .none_ else tStr (T.s.extract i.toNat (i.toNat + 1))
def atE (T : Tree) (i : Int) : Int := if lenE T ≠ 0 then lenE T else if i < 0 ∨ lenN T ≤ i then 2 else 0
/-- A value without a list is of the call's own. -/
theorem fresh_leaf (w : World) (base : Nat) (e : TypeId) {k : Int} {q : Rat2} {t : Bool} {s : ByteArray} (ok : Val.Ok ⟨k, q, t, s, none, 0, 0⟩) : Fresh w base e (.node k q t s []) ⟨k, q, t, s, none, 0, 0⟩ :=
  .mk ⟨k, q, t, s, none, 0, 0⟩ [] [] ok rfl rfl (fun h => by simp at h) (fun i t y h => by simp at h)
theorem ok_none : Val.Ok ⟨0, ⟨0, 0⟩, false, ⟨#[]⟩, none, 0, 0⟩ := ⟨by simp, by simp, by simp, by simp, by simp, by simp, (show (0 : Nat) ≤ 9223372036854775807 by omega), by simp, by simp, fun _ => rfl⟩
theorem ok_str {s : ByteArray} (h : s.size ≤ 9223372036854775807) : Val.Ok ⟨3, ⟨0, 0⟩, false, s, none, 0, 0⟩ := ⟨by simp, by simp, by simp, by simp, by simp, by simp, h, by simp, by simp, fun _ => rfl⟩
/-- A value of the call's own is returned, and an error. -/
def RetVE (e : TypeId) (w : World) (T : Tree) (E : Int) (en : Ending) (w' : World) : Prop := ∃ x : Val, en = .returned (.tuple #[x.v, .int .i64 E]) ∧ Fresh w' w.heap.size e T x ∧ Below w.heap.size w w'
theorem lenE_bad {T : Tree} (h : chkT T ≠ 0) : lenN T = 0 ∧ lenE T = chkT T := by unfold lenN lenE; exact ⟨if_pos h, if_pos h⟩
theorem lenE_str {q : Rat2} {t : Bool} {s : ByteArray} {kids : List Tree} (h : chkT (.node 3 q t s kids) = 0) : lenN (.node 3 q t s kids) = s.size ∧ lenE (.node 3 q t s kids) = 0 := by
  unfold lenN lenE
  exact ⟨(if_neg (fun n => n h)).trans (if_pos rfl), (if_neg (fun n => n h)).trans (if_pos (.inl rfl))⟩
theorem lenE_list {q : Rat2} {t : Bool} {s : ByteArray} {kids : List Tree} (h : chkT (.node 4 q t s kids) = 0) : lenN (.node 4 q t s kids) = kids.length ∧ lenE (.node 4 q t s kids) = 0 := by
  unfold lenN lenE
  exact ⟨(if_neg (fun n => n h)).trans ((if_neg (show ¬ (4 : Int) = 3 by decide)).trans (if_pos rfl)), (if_neg (fun n => n h)).trans (if_pos (.inr rfl))⟩
theorem lenE_else {k : Int} {q : Rat2} {t : Bool} {s : ByteArray} {kids : List Tree} (h : chkT (.node k q t s kids) = 0) (h3 : k ≠ 3) (h4 : k ≠ 4) : lenN (.node k q t s kids) = 0 ∧ lenE (.node k q t s kids) = 20 := by
  unfold lenN lenE
  exact ⟨(if_neg (fun n => n h)).trans ((if_neg h3).trans (if_neg h4)), (if_neg (fun n => n h)).trans (if_neg (fun n => n.elim h3 h4))⟩
theorem at_bad {T : Tree} {i : Int} (h : lenE T ≠ 0) : atT T i = .none_ ∧ atE T i = lenE T := by unfold atT atE; rw [if_pos h, if_pos h]; exact ⟨rfl, rfl⟩
theorem at_out {T : Tree} {i : Int} (h : lenE T = 0) (h2 : i < 0 ∨ lenN T ≤ i) : atT T i = .none_ ∧ atE T i = 2 := by
  unfold atT atE
  exact ⟨by rw [if_neg (fun n => n h), if_pos h2], by rw [if_neg (fun n => n h), if_pos h2]⟩
theorem at_list {q : Rat2} {t : Bool} {s : ByteArray} {kids : List Tree} {i : Nat} {y : Tree} (h : lenE (.node 4 q t s kids) = 0) (h2 : ¬ (lenN (.node 4 q t s kids) ≤ i)) (hy : kids[i]? = some y) : atT (.node 4 q t s kids) i = y ∧ atE (.node 4 q t s kids) i = 0 := by
  have hn : ¬ ((i : Int) < 0 ∨ lenN (.node 4 q t s kids) ≤ i) := by omega
  unfold atT atE
  refine ⟨?_, by rw [if_neg (fun n => n h), if_neg hn]⟩
  refine (if_neg (fun n => n h)).trans ((if_neg hn).trans ((if_pos rfl).trans ?_))
  simp only [Tree.kids, Int.toNat_natCast, hy]
  rfl
theorem at_str {q : Rat2} {t : Bool} {s : ByteArray} {kids : List Tree} {i : Nat} (h : lenE (.node 3 q t s kids) = 0) (h2 : ¬ (lenN (.node 3 q t s kids) ≤ i)) : atT (.node 3 q t s kids) i = tStr (s.extract i (i + 1)) ∧ atE (.node 3 q t s kids) i = 0 := by
  have hn : ¬ ((i : Int) < 0 ∨ lenN (.node 3 q t s kids) ≤ i) := by omega
  unfold atT atE
  refine ⟨?_, by rw [if_neg (fun n => n h), if_neg hn]⟩
  exact (if_neg (fun n => n h)).trans ((if_neg hn).trans ((if_neg (show ¬ (3 : Int) = 4 by decide)).trans rfl))
end Go.Rel
namespace Go.Proofs.Ytjgampkpfjbmdaa
open Go.RowKit Go.Rel

set_option maxHeartbeats 1000000 in
theorem refStr_any (s : ByteArray) (w : World) : Calls Try.prog 23 #[.string s] w (Ret w (Val.v ⟨3, ⟨0, 0⟩, false, s, none, 0, 0⟩)) := by
  have hn := Blk.new w 26 (Val.box ⟨3, ⟨0, 0⟩, false, s, none, 0, 0⟩)
  obtain ⟨k0, k1, k2, k3, k4, k5⟩ := hn.val
  go_enter Try.func23, Try.ntmps23
  go_wp2_with fail
  exact bodyPost_ret (v := Val.v ⟨3, ⟨0, 0⟩, false, s, none, 0, 0⟩) (by simp [results, Try.results23, go_sem, k0, k1, k2, k3, k4, k5]) rfl ⟨rfl, below_alloc _ _⟩

set_option maxHeartbeats 2000000 in
theorem refLen_any (T : Tree) (x : Val) (w : World) (hf : fitT T 10 = true) (hr : RdB w w.heap.size T x) :
    Calls Try.prog 8 #[x.v] w (Ret w (.tuple #[.int .i64 (lenN T), .int .i64 (lenE T)])) := by
  obtain ⟨kids, ys, rfl, ok, hy, hl, -, -⟩ := id hr.open_
  obtain ⟨-, -, hs2, h150, -⟩ := fitT_parts hf
  have HR := Lib.hid (show _ ∧ _ from ⟨hf, hr⟩)
  obtain ⟨k, q, t, s, A, len, cap⟩ := x
  obtain ⟨hk0, hk1, -, -, -, -, -, -, hc, -⟩ := ok
  dsimp only at hk0 hk1 hl hs2 h150 hc
  rw [hl] at h150
  have HL := Lib.hid hl
  have HB := Lib.hid (box_val w 26 ⟨k, q, t, s, A, len, cap⟩)
  have R1 := Lib.hid (fun W h => refChk_any (.node k q t s kids) ⟨k, q, t, s, A, len, cap⟩ W hf h)
  have L1 := Lib.hid (@lenE_bad (.node k q t s kids))
  have L2 := Lib.hid (@lenE_else k q t s kids)
  have L3 := Lib.hid (show k = 3 → chkT (.node k q t s kids) = 0 → lenN (.node k q t s kids) = s.size ∧ lenE (.node k q t s kids) = 0 from fun h => by subst h; exact lenE_str)
  have L4 := Lib.hid (show k = 4 → chkT (.node k q t s kids) = 0 → lenN (.node k q t s kids) = kids.length ∧ lenE (.node k q t s kids) = 0 from fun h => by subst h; exact lenE_list)
  generalize chkT (.node k q t s kids) = C at *
  clear hf hr hy hl
  go_enter Try.func8, Try.ntmps8
  obtain ⟨hb0, hblk0⟩ := HB.out
  obtain ⟨c0, c1, c2, c3, c4, c5⟩ := hblk0.val
  go_wp2_with fail
  refine (R1.out _ (HR.out.2.in_ hb0 hb0.size)).mono ?_
  rintro e w2 ⟨rfl, hb2⟩
  have hb3 := hb0.trans (hb2.mono hb0.size)
  have hblk2 := hblk0.keep hb2
  clear hb0 hb2 hblk0 c0 c1 c2 c3 c4 c5 HB
  by_cases hC : C = 0
  case neg =>
    have HV := Lib.hid (L1.out hC)
    have q1 : (C != 0) = true := by simpa using hC
    obtain ⟨c0, c1, c2, c3, c4, c5⟩ := hblk2.val
    clear hC
    go_wp2_with fail
    refine (R1.out _ (HR.out.2.in_ hb3 hb3.size)).mono ?_
    rintro e w3 ⟨rfl, hb4⟩
    have HM := Lib.hid (hb3.trans (hb4.mono hb3.size))
    clear hb3 hb4 hblk2 c0 c1 c2 c3 c4 c5
    go_wp2_with fail
    go_ret2
    exact ⟨by rw [HV.out.1, HV.out.2]; rfl, HM.out⟩
  subst hC
  obtain ⟨c0, c1, c2, c3, c4, c5⟩ := hblk2.val
  by_cases h3 : k = 3
  · have HV := Lib.hid (L3.out h3 rfl)
    subst h3
    go_wp2_with fail
    go_ret2
    exact ⟨by rw [HV.out.1, HV.out.2]; rfl, hb3⟩
  by_cases h4 : k = 4
  · have HV := Lib.hid (L4.out h4 rfl)
    rw [HL.out] at HV
    subst h4
    go_wp2_with fail
    go_ret2
    exact ⟨by rw [HV.out.1, HV.out.2]; rfl, hb3⟩
  have HV := Lib.hid (L2.out rfl h3 h4)
  have q3 : (k == 3) = false := by simpa using h3
  have q4 : (k == 4) = false := by simpa using h4
  clear h3 h4
  go_wp2_with fail
  go_ret2
  exact ⟨by rw [HV.out.1, HV.out.2]; rfl, hb3⟩

set_option maxHeartbeats 2000000 in
theorem len_any (T : Tree) (x : Val) (w : World) (hf : fitT T 10 = true) (hr : RdB w w.heap.size T x) :
    Calls Try.prog 7 #[x.v] w (Ret w (.tuple #[.int .i64 (lenN T), .int .i64 (lenE T)])) := by
  obtain ⟨kids, ys, rfl, ok, hy, hl, -, -⟩ := id hr.open_
  obtain ⟨-, -, hs2, h150, -⟩ := fitT_parts hf
  have HR := Lib.hid (show _ ∧ _ from ⟨hf, hr⟩)
  obtain ⟨k, q, t, s, A, len, cap⟩ := x
  obtain ⟨hk0, hk1, -, -, -, -, -, -, hc, -⟩ := ok
  dsimp only at hk0 hk1 hl hs2 h150 hc
  rw [hl] at h150
  have HL := Lib.hid hl
  have HB := Lib.hid (box_val w 26 ⟨k, q, t, s, A, len, cap⟩)
  have R1 := Lib.hid (fun W h => chk_any (.node k q t s kids) ⟨k, q, t, s, A, len, cap⟩ W hf h)
  have L1 := Lib.hid (@lenE_bad (.node k q t s kids))
  have L2 := Lib.hid (@lenE_else k q t s kids)
  have L3 := Lib.hid (show k = 3 → chkT (.node k q t s kids) = 0 → lenN (.node k q t s kids) = s.size ∧ lenE (.node k q t s kids) = 0 from fun h => by subst h; exact lenE_str)
  have L4 := Lib.hid (show k = 4 → chkT (.node k q t s kids) = 0 → lenN (.node k q t s kids) = kids.length ∧ lenE (.node k q t s kids) = 0 from fun h => by subst h; exact lenE_list)
  generalize chkT (.node k q t s kids) = C at *
  clear hf hr hy hl
  go_enter Try.func7, Try.ntmps7
  obtain ⟨hb0, hblk0⟩ := HB.out
  obtain ⟨c0, c1, c2, c3, c4, c5⟩ := hblk0.val
  go_wp2_with fail
  refine (R1.out _ (HR.out.2.in_ hb0 hb0.size)).mono ?_
  rintro e w2 ⟨rfl, hb2⟩
  have hb3 := hb0.trans (hb2.mono hb0.size)
  have hblk2 := hblk0.keep hb2
  clear hb0 hb2 hblk0 c0 c1 c2 c3 c4 c5 HB
  by_cases hC : C = 0
  case neg =>
    have HV := Lib.hid (L1.out hC)
    have q1 : (C != 0) = true := by simpa using hC
    clear hC
    go_wp2_with fail
    go_ret2
    exact ⟨by rw [HV.out.1, HV.out.2]; rfl, hb3⟩
  subst hC
  obtain ⟨c0, c1, c2, c3, c4, c5⟩ := hblk2.val
  by_cases h3 : k = 3
  · have HV := Lib.hid (L3.out h3 rfl)
    subst h3
    go_wp2_with fail
    go_ret2
    exact ⟨by rw [HV.out.1, HV.out.2]; rfl, hb3⟩
  by_cases h4 : k = 4
  · have HV := Lib.hid (L4.out h4 rfl)
    rw [HL.out] at HV
    subst h4
    go_wp2_with fail
    go_ret2
    exact ⟨by rw [HV.out.1, HV.out.2]; rfl, hb3⟩
  have HV := Lib.hid (L2.out rfl h3 h4)
  have q3 : (k == 3) = false := by simpa using h3
  have q4 : (k == 4) = false := by simpa using h4
  clear h3 h4
  go_wp2_with fail
  go_ret2
  exact ⟨by rw [HV.out.1, HV.out.2]; rfl, hb3⟩
end Go.Proofs.Ytjgampkpfjbmdaa
