/- Cut of the reference: a path's steps as a slice. -/
import Derived.Test.YtkjgcippcbfmgaaElems
import Derived.Test.YtkjgcippcbfmgaaLabE
namespace Go.Rel
open Go.RowKit
/-- A string in a slice: one cell. -/
def strC (x : Bs) : List Value := [.string (str x)]
theorem strC_len (x : Bs) : (strC x).length = 1 := rfl
theorem strC_one (x : Bs) : ∀ u ∈ strC x, u.oneCell' = true := fun u hu => by
  rcases List.mem_cons.1 hu with rfl | h
  · rfl
  · simp at h
/-- A slice of strings that reads as l. -/
def StrsRet (l : List Bs) (v : Value) (w' : World) : Prop := ∃ A cap, v = .slice A l.length cap ∧ l.length ≤ cap ∧ (A = none → cap = 0) ∧ Recs strC 1 w' w'.heap.size A l
theorem strs_of_own {l : List Bs} {w : World} {n base : Nat} {e : TypeId} {v : Value} (hn : l.length = n) (h : w.ownsRow base e 1 v n (l.flatMap strC)) : StrsRet l v w := by
  obtain ⟨A, cap, rfl, hc, hr⟩ := Recs.of_own strC_len hn h
  subst hn
  refine ⟨A, cap, rfl, hc, ?_, hr⟩
  rintro rfl
  rcases h.2 with ⟨h1, h2⟩ | ⟨g, cap', cur, h1, _⟩
  · simp at h1; exact h1.2
  · simp at h1
theorem strs_nil (w : World) : StrsRet [] (.slice none 0 0) w := ⟨none, 0, rfl, Nat.le_refl _, fun _ => rfl, Recs.nil_⟩
/-- One more byte of Cut. -/
theorem cut_slash {l : Bs} {D : List Bs} {f k : Nat} (hk : k < l.length) (hf : f ≤ k) (h : segs l = D ++ segs (l.drop f)) (hno : 47 ∉ (l.drop f).take (k - f)) (h47 : l[k] = 47) :
    segs l = (D ++ [(l.drop f).take (k - f)]) ++ segs (l.drop (k + 1)) := by
  rw [h, List.append_assoc]
  congr 1
  have e : l.drop f = (l.drop f).take (k - f) ++ 47 :: l.drop (k + 1) := by
    conv => lhs; rw [← List.take_append_drop (k - f) (l.drop f)]
    rw [List.drop_drop, show f + (k - f) = k by omega, List.drop_eq_getElem_cons hk, h47]
  conv => lhs; rw [e]
  exact segs_more hno
theorem cut_char {l : Bs} {f k : Nat} (hk : k < l.length) (hf : f ≤ k) (hno : 47 ∉ (l.drop f).take (k - f)) (h47 : l[k] ≠ 47) : 47 ∉ (l.drop f).take (k + 1 - f) := by
  have hlt : k - f < (l.drop f).length := by rw [List.length_drop]; omega
  rw [show k + 1 - f = k - f + 1 by omega, List.take_succ_eq_append_getElem hlt]
  intro h
  rcases List.mem_append.1 h with h | h
  · exact hno h
  · rw [List.mem_singleton, List.getElem_drop] at h
    simp only [show f + (k - f) = k by omega] at h
    exact h47 h.symm
theorem cut_end {l : Bs} {D : List Bs} {f : Nat} (h : segs l = D ++ segs (l.drop f)) (hno : 47 ∉ (l.drop f).take (l.length - f)) : segs l = D ++ [(l.drop f).take (l.length - f)] := by
  rw [List.take_of_length_le (by rw [List.length_drop]; exact Nat.le_refl _)] at hno ⊢
  rw [h, segs_one hno]
theorem segs_le (l : Bs) : (segs l).length ≤ l.length + 1 := by rw [segs_count]; have := List.count_le_length (a := (47 : UInt8)) (l := l); omega
end Go.Rel
namespace Go.Proofs.Ytkjgcippcbfmgaa
open Go.RowKit Go.Rel

theorem Try.infoStr : (Try.prog.info? 9).map (fun i => (i.zero, i.size, i.bytes)) = some (some (.string ⟨#[]⟩), 1, 16) := by kernel_rfl
theorem cells_new_str (w : World) (x : Bs) (t : TypeId) : ∀ (j : Nat) (u : Value), (strC x)[j]? = some u → (w.alloc (.cells #[.string (str x)] t)).cell? ((⟨w.heap.size, 0, none⟩ : Addr).add j) = some u := fun j u h => by
  match j, h with
  | 0, h =>
    have : u = .string (str x) := by simpa [strC] using h.symm
    subst this
    exact cell_new w #[.string (str x)] t (i := 0) rfl
  | j + 1, h => simp [strC] at h

set_option maxHeartbeats 2000000 in
theorem refCut_any (s : ByteArray) (w : World) (hs : s.size ≤ 100000) :
    Calls Try.prog 35 #[.string s] w (RetM w (StrsRet (cutP s.data.toList))) := by
  have hlen : s.data.toList.length = s.size := by simp
  obtain ⟨i0, hi, hz0, hz1, hz2⟩ := info_parts Try.infoStr
  have HI := Lib.hid (show _ ∧ _ ∧ _ ∧ _ from ⟨hi, hz0, hz1, hz2⟩)
  clear hi hz0 hz1 hz2
  by_cases h0 : s.data.toList = []
  · have hE : s.toList.isEmpty = true := by rw [Lib.toList_data, h0]; rfl
    have hc : cutP s.data.toList = [] := cutP_nil.2 h0
    rw [hc]
    clear h0 hc
    go_enter Try.func35, Try.ntmps35
    go_wp2_with fail
    go_ret
    exact retM (strs_nil w) (Below.refl _ _)
  have hE : s.toList.isEmpty = false := by rw [Lib.toList_data]; simpa using h0
  have hc : cutP s.data.toList = segs s.data.toList := by unfold cutP; rw [if_neg h0]
  rw [hc]
  have HL := Lib.hid hlen
  clear h0 hc hlen
  go_enter Try.func35, Try.ntmps35
  go_wp2_with fail
  clear hE
  go_loopw [3, 4, 5] (fun v fv iv wr => ∃ (D : List Bs) (f k : Nat), fv = .int .i64 f ∧ iv = .int .i64 k ∧ f ≤ s.size + 1 ∧ Hid ((segs s.data.toList).length ≤ s.size + 1) ∧ D.length ≤ s.size + 1 ∧ ((k ≤ s.size ∧ f ≤ k ∧ Hid (segs s.data.toList = D ++ segs (s.data.toList.drop f) ∧ 47 ∉ (s.data.toList.drop f).take (k - f))) ∨ (k = s.size + 1 ∧ Hid (segs s.data.toList = D))) ∧
    wr.ownsRow w.heap.size 9 1 v D.length (D.flatMap strC) ∧ Below w.heap.size w wr) (fun _ _ iv _ => s.size + 1 - (intOf iv).toNat)
  case atStart => exact ⟨[], 0, 0, rfl, rfl, by omega, (by have := segs_le s.data.toList; rw [HL.out] at this; exact this), by simp, .inl ⟨by omega, by omega, rfl, by simp⟩, World.ownsRow_nil _ _ _ _, Below.refl _ _⟩
  case round =>
    obtain ⟨D, f, k, rfl, rfl, hfs, HSL, hDl, hor, hown, hb⟩ := hrel
    have hbs := hb.size
    rcases hor with ⟨hk, hf, HP⟩ | ⟨hk, HP⟩
    · have hDn : D.length + 1 ≤ s.size + 1 := by
        have h1 := congrArg List.length HP.out.1
        have h2 := HSL.out
        have h3 := List.length_pos_iff.2 (segs_ne (s.data.toList.drop f))
        rw [List.length_append] at h1
        omega
      obtain ⟨X, hX⟩ : ∃ X, (s.data.toList.drop f).take (k - f) = X := ⟨_, rfl⟩
      by_cases hkn : k = s.size
      · have HN := Lib.hid (show segs s.data.toList = D ++ [X] by rw [← hX, hkn, ← HL.out]; exact cut_end HP.out.1 (by rw [HL.out, ← hkn]; exact HP.out.2))
        subst hkn
        clear HP
        have hx0 : s.extract f s.size = str X := by rw [Lib.extract_eq, ← hX]; rfl
        have hoX := hown.alloc (.cells #[.string (str X)] 9)
        have HX := Lib.hid hx0
        obtain ⟨hi, hz0, hz1, hz2⟩ := HI.out
        clear hx0 hX
        go_wp2_with (at_builtin; rw [HX.out]; refine wpList_append_own _ rfl _ _ 22 rfl w.heap.size 9 i0 (.string ⟨#[]⟩) 1 16 Try.underlying22 hi hz0 hz1 hz2 rfl (by decide) _ _ _ rfl hoX ⟨wr.heap.size, 0, none⟩ 1 1 (strC X) rfl rfl (cells_new_str wr X 9) (strC_one X) ?c3 ?c4 ?c5 ?_)
        case c3 => unfold maxLen; omega
        case c4 => omega
        case c5 => simp; omega
        intro v' w7 hown3 hgrow _
        have hb6 := ((hb.trans (((Below.refl wr.heap.size wr).alloc (Nat.le_refl _) (.cells #[.string (str X)] 9)).mono hb.size)).grown hgrow (by simp; omega) (fun r hr => (hown.lt r hr).1))
        have HO := Lib.hid (show _ ∧ _ from ⟨hown3, hb6⟩)
        clear hown3 hgrow hown hoX hb6 hi hz0 hz1 hz2
        go_wp2
        go_roundw
        case rel =>
          refine ⟨D ++ [X], s.size + 1, s.size + 1, by go_num, by go_num, by omega, HSL, by simp; omega, .inr ⟨by omega, HN⟩, ?_, HO.out.2⟩
          have h1 := HO.out.1
          rw [← flat_one] at h1
          simpa using h1
        case measure => simp [intOf] <;> omega
      · have hlt : k < s.size := by omega
        have q1 : ((k : Int) == (s.size : Int)) = false := by rw [beq_eq_false_iff_ne]; omega
        have hget : s.data.toList[k]'(by rw [HL.out]; exact hlt) = s[k] := rfl
        by_cases h47 : s[k] = 47
        · have q2 : (((s[k]'hlt).toNat : Int) == 47) = true := by rw [h47]; rfl
          have HN := Lib.hid (show segs s.data.toList = (D ++ [X]) ++ segs (s.data.toList.drop (k + 1)) by rw [← hX]; exact cut_slash (by rw [HL.out]; exact hlt) hf HP.out.1 HP.out.2 (by rw [hget]; exact h47))
          clear HP hget h47 hkn
          have hx0 : s.extract f k = str X := by rw [Lib.extract_eq, ← hX]; rfl
          have hoX := hown.alloc (.cells #[.string (str X)] 9)
          have HX := Lib.hid hx0
          obtain ⟨hi, hz0, hz1, hz2⟩ := HI.out
          clear hx0 hX
          go_wp2_with (at_builtin; rw [HX.out]; refine wpList_append_own _ rfl _ _ 22 rfl w.heap.size 9 i0 (.string ⟨#[]⟩) 1 16 Try.underlying22 hi hz0 hz1 hz2 rfl (by decide) _ _ _ rfl hoX ⟨wr.heap.size, 0, none⟩ 1 1 (strC X) rfl rfl (cells_new_str wr X 9) (strC_one X) ?c3 ?c4 ?c5 ?_)
          case c3 => unfold maxLen; omega
          case c4 => omega
          case c5 => simp; omega
          intro v' w7 hown3 hgrow _
          have hb6 := ((hb.trans (((Below.refl wr.heap.size wr).alloc (Nat.le_refl _) (.cells #[.string (str X)] 9)).mono hb.size)).grown hgrow (by simp; omega) (fun r hr => (hown.lt r hr).1))
          have HO := Lib.hid (show _ ∧ _ from ⟨hown3, hb6⟩)
          clear hown3 hgrow hown hoX hb6 hi hz0 hz1 hz2
          go_wp2
          go_roundw
          case rel =>
            refine ⟨D ++ [X], k + 1, k + 1, by go_num, by go_num, by omega, HSL, by simp; omega, .inl ⟨by omega, by omega, HN.out, by simp⟩, ?_, HO.out.2⟩
            have h1 := HO.out.1
            rw [← flat_one] at h1
            simpa using h1
          case measure => simp [intOf] <;> omega
        · have q2 : (((s[k]'hlt).toNat : Int) == 47) = false := by
            rw [beq_eq_false_iff_ne]; intro h; exact h47 ((u8_eq _ 47).2 h)
          have HN := Lib.hid (cut_char (by rw [HL.out]; exact hlt) hf HP.out.2 (by rw [hget]; exact h47))
          have HS := Lib.hid HP.out.1
          clear HP hget h47 hkn hX
          go_wp2_with fail
          go_roundw
          case rel => exact ⟨D, f, k + 1, rfl, by go_num, by omega, HSL, hDl, .inl ⟨by omega, by omega, HS.out, HN.out⟩, hown, hb⟩
          case measure => simp [intOf] <;> omega
    · subst hk
      have HR := Lib.hid (strs_of_own rfl hown)
      rw [← HP.out] at HR
      have HB := Lib.hid hb
      clear hown hb HP HSL
      go_wp2_with fail
      go_ret
      exact retM HR.out HB.out

theorem str_at {w : World} {B : Nat} {A : Option Addr} {l : List Bs} (h : Recs strC 1 w B A l) {k : Nat} (hk : k < l.length) :
    ∃ b off : Nat, A = some ⟨b, off, none⟩ ∧ b < B ∧ w.cell? ⟨b, off + k, none⟩ = some (.string (str l[k])) := by
  obtain ⟨b, off, e, hb, hc⟩ := h.at_ hk
  have := hc 0 (.string (str l[k])) rfl
  exact ⟨b, off, e, hb, by simpa using this⟩

theorem checkP_more {l : Bs} (_ : ¬ 4000 < l.length) (h2 : 40 < (cutP l).length) : checkP l = 4 := by unfold checkP; rw [if_pos (.inr h2)]
theorem checkP_step {l : Bs} (h : ¬ 4000 < l.length) (h2 : ¬ 40 < (cutP l).length) {k : Nat} (hk : k < (cutP l).length) (h3 : stepOk (cutP l)[k] = false) : checkP l = 12 := by
  unfold checkP
  rw [if_neg (by omega), if_neg]
  intro hall
  rw [List.all_eq_true] at hall
  rw [hall _ (List.getElem_mem hk)] at h3
  cases h3
theorem checkP_all {l : Bs} (h : ¬ 4000 < l.length) (h2 : ¬ 40 < (cutP l).length) (h3 : ((cutP l).take (cutP l).length).all stepOk = true) : checkP l = 0 := by
  rw [List.take_length] at h3
  unfold checkP
  rw [if_neg (by omega), if_pos h3]
/-- What the reference's Step returns, taken apart. -/
theorem stepV_parts (l : Bs) : ∃ a b, stepV l = .tuple #[.string a, .int .i64 b, .bool (stepOk l)] := by
  unfold stepV stepOk
  cases stepOf l
  · exact ⟨_, _, rfl⟩
  · exact ⟨_, _, rfl⟩

set_option maxHeartbeats 2000000 in
theorem refCheck_any (s : ByteArray) (w : World) (hs : s.size ≤ maxLen) :
    Calls Try.prog 20 #[.string s] w (Ret w (.int .i64 (checkP s.data.toList))) := by
  have hlen : s.data.toList.length = s.size := by simp
  have hs' := hs
  unfold maxLen at hs'
  by_cases hbig : 4000 < s.size
  · have HV := Lib.hid (checkP_long (l := s.data.toList) (.inl (by rw [hlen]; exact hbig)))
    have q1 : decide ((4000 : Int) < (s.size : Int)) = true := by rw [decide_eq_true_eq]; omega
    clear hbig hlen
    go_enter Try.func20, Try.ntmps20
    go_wp2_with fail
    go_ret
    exact ret_int HV.out.symm (Below.refl _ _)
  have hno : ¬ 4000 < s.data.toList.length := by rw [hlen]; exact hbig
  have q1 : decide ((4000 : Int) < (s.size : Int)) = false := by rw [decide_eq_false_iff_not]; omega
  have r1 := fun W => refCut_any s W (by omega)
  have hseg : (cutP s.data.toList).length ≤ 4001 := by
    unfold cutP
    split
    · simp
    · have := segs_le s.data.toList; omega
  have hmem : ∀ x ∈ cutP s.data.toList, (str x).size ≤ maxLen := fun x hx => Nat.le_trans (cutP_mem hx) (by unfold maxLen; omega)
  have e4 := checkP_more hno
  have e12 := fun k hk h2 h3 => checkP_step (k := k) hno h2 hk h3
  have e0 := checkP_all hno
  generalize checkP s.data.toList = V at *
  generalize cutP s.data.toList = C at *
  obtain ⟨n, hn⟩ : ∃ n, C.length = n := ⟨_, rfl⟩
  have HR := Lib.hid r1
  have HE := Lib.hid (show _ ∧ _ ∧ _ ∧ _ from ⟨e4, e12, e0, hmem⟩)
  have HN := Lib.hid hn
  rw [hn] at hseg
  clear r1 e4 e12 e0 hmem hno hlen hbig hn
  go_enter Try.func20, Try.ntmps20
  go_wp2_with fail
  refine (HR.out _).mono ?_
  rintro e w1 ⟨v, rfl, ⟨A, cap, rfl, hcap, hnil, hrec⟩, hb⟩
  rw [HN.out] at hcap ⊢
  by_cases h40 : 40 < n
  · have HV := Lib.hid (HE.out.1 (by rw [HN.out]; exact h40))
    have q2 : decide ((40 : Int) < (n : Int)) = true := by rw [decide_eq_true_eq]; omega
    clear HE h40 hrec
    go_wp2_with fail
    go_ret
    exact ret_int HV.out.symm hb
  have q2 : decide ((40 : Int) < (n : Int)) = false := by rw [decide_eq_false_iff_not]; omega
  go_wp2_with fail
  go_loopw [4] (fun iv wr => ∃ k : Nat, k ≤ n ∧ iv = .int .i64 k ∧ wr = w1 ∧ Hid ((C.take k).all stepOk = true)) (fun iv _ => n - (intOf iv).toNat)
  case atStart => exact ⟨0, Nat.zero_le _, rfl, rfl, rfl⟩
  case round =>
    obtain ⟨k, hk, rfl, rfl, HP⟩ := hrel
    by_cases hlt : k < n
    · have hkC : k < C.length := by rw [HN.out]; exact hlt
      obtain ⟨b, off, rfl, hB, c0⟩ := str_at hrec hkC
      have r2 := refStep_any (str C[k]) wr (HE.out.2.2.2 _ (List.getElem_mem hkC))
      obtain ⟨sa, sb, hsv⟩ := stepV_parts C[k]
      rw [str_list, hsv] at r2
      have hnext : (C.take (k + 1)).all stepOk = stepOk C[k] := by
        rw [List.take_succ_eq_append_getElem hkC, List.all_append, HP.out]
        simp
      have h12 := HE.out.2.1 k hkC (by rw [HN.out]; exact h40)
      generalize C[k] = x at *
      cases hx : stepOk x
      · rw [hx] at r2 h12
        have HV := Lib.hid (h12 rfl)
        have R2 := Lib.hid r2
        clear r2 h12 hnext hsv
        go_wp2_with fail
        refine (R2.out).mono ?_
        rintro e W ⟨rfl, rfl⟩
        go_wp2_with fail
        go_ret
        exact ret_int HV.out.symm hb
      · rw [hx] at r2 hnext
        have HX := Lib.hid hnext
        have R2 := Lib.hid r2
        clear r2 h12 hnext hsv
        go_wp2_with fail
        refine (R2.out).mono ?_
        rintro e W ⟨rfl, rfl⟩
        go_wp2_with fail
        go_roundw
        case rel => exact ⟨k + 1, by omega, by go_num, trivial, HX⟩
        case measure => simp [intOf] <;> omega
    · obtain rfl : k = n := by omega
      have HV := Lib.hid (HE.out.2.2.1 (by rw [HN.out]; exact h40) (by rw [HN.out]; exact HP.out))
      clear HE
      go_wp2_with fail
      go_ret
      exact ret_int HV.out.symm hb
end Go.Proofs.Ytkjgcippcbfmgaa
