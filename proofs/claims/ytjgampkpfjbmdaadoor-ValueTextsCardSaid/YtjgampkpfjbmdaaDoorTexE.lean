/- The reference's Parse; what is parsed is valid or no value at all. -/
import Derived.Test.YtjgampkpfjbmdaaDoorTexD
import Derived.Test.YtjgampkpfjbmdaaDoorPack20
namespace Go.Rel
open Go.RowKit
theorem loopL_parts (f : Bs → Tree × Bs × Bool) (hf : ∀ l, partsT (f l).1 + (f l).2.1.length ≤ l.length + 1) : ∀ (n : Nat) (acc : List Tree) (l : Bs), partsL (loopL f n acc l).1 + (loopL f n acc l).2.1.length ≤ partsL acc + l.length + 1
  | 0, acc, l => by show partsL acc + l.length ≤ _; omega
  | n + 1, acc, l => by
    have h1 := hf l
    have h4 : partsL (acc ++ [(f l).1]) = partsL acc + partsT (f l).1 := by rw [partsL_append]; simp [partsL]
    rw [loopL]
    split
    · rename_i r2 he
      have h2 := skipL_len he
      simp only [List.length_cons, List.length_nil] at h2
      split
      · have := loopL_parts f hf n (acc ++ [(f l).1]) r2
        omega
      · dsimp only; omega
    · dsimp only; omega
theorem leaf_parts {k : Int} {q : Rat2} {t : Bool} {s : ByteArray} : partsT (.node k q t s []) = 1 := by unfold partsT; split <;> simp [partsL]
theorem tList_parts (l : List Tree) : partsT (tList l) = 1 + partsL l := by unfold tList partsT; rw [if_pos rfl]
theorem valueL_parts : ∀ (d : Nat) (l : Bs), partsT (valueL d l).1 + (valueL d l).2.1.length ≤ l.length + 1
  | 0, l => by
    have := numV_len l false
    have h : partsT (numV l false).1 = 1 := leaf_parts
    show partsT (numV l false).1 + (numV l false).2.1.length ≤ _
    omega
  | d + 1, l => by
    rw [valueL]
    split
    · rename_i r he; have := skipL_len he; dsimp only; have h : partsT (tBool true) = 1 := leaf_parts; omega
    split
    · rename_i r he; have := skipL_len he; dsimp only; have h : partsT (tBool false) = 1 := leaf_parts; omega
    split
    · rename_i r he
      have := skipL_len he
      have := quotL_len r.length r [] (Nat.le_refl _)
      have h : partsT (tStr (str (quotL r []).1)) = 1 := leaf_parts
      dsimp only; omega
    split
    · rename_i r he; have := skipL_len he; dsimp only; have h : partsT (tList []) = 1 := leaf_parts; omega
    split
    · rename_i r he
      have h1 := skipL_len he
      simp only [List.length_cons, List.length_nil] at h1
      have h2 := loopL_parts (valueL d) (valueL_parts d) (r.length + 1) [] r
      simp only [partsL] at h2
      rw [listV_fst, tList_parts]
      unfold listV
      split
      · rename_i r2 hs
        have := skipL_len hs
        dsimp only; omega
      · dsimp only; omega
    · have := numV_len l true
      have h : partsT (numV l true).1 = 1 := leaf_parts
      omega
theorem parse_valid (l : Bs) : Valid (parseVT l) ∨ parseVT l = .none_ := by
  unfold parseVT
  split
  · rename_i h
    refine .inl ?_
    have h1 := valueL_parts 6 l
    have h2 := w64_small (n := partsT (valueL 6 l).1) (by omega)
    have h3 := h.2.2.1
    unfold chkT at h3
    rw [h2] at h3
    split at h3
    · cases h3
    · rename_i h4
      split at h3
      · rename_i h5
        exact ⟨by omega, by omega, h5⟩
      · cases h3
  · exact .inr rfl
theorem parse_fit (l : Bs) : fitT (parseVT l) 10 = true := by
  rcases parse_valid l with h | h
  · exact h.fit
  · rw [h]; decide
end Go.Rel
namespace Go.Proofs.YtjgampkpfjbmdaaDoor
open Go.RowKit Go.Rel
set_option maxRecDepth 100000
theorem read_any : ∀ d, d ≤ 7 → ReadIs d
  | 0, _ => read_zero
  | d + 1, h => read_succ d (by omega) (read_any d (by omega))
set_option maxHeartbeats 4000000 in
theorem refParseV_any (s : ByteArray) (w : World) (hs : s.size ≤ 100000) :
    Calls Tryd.prog 21 #[.string s] w (RetVE 26 w (parseVT s.data.toList) (parseVE s.data.toList)) := by
  have hlen : s.data.toList.length = s.size := by simp
  have HPC := Lib.hid (parseR_cases s.data.toList)
  have HF := Lib.hid (show ∀ (x : Val) (w' : World) (E : Int) (T' : Tree), Fresh w' w.heap.size 26 T' x → Below w.heap.size w w' → (parseVT s.data.toList = T' ∧ parseVE s.data.toList = E) → RetVE 26 w (parseVT s.data.toList) (parseVE s.data.toList) (.returned (.tuple #[x.v, .int .i64 E])) w' from fun x w' E T' h1 h2 h3 => ⟨x, by rw [h3.2], by rw [h3.1]; exact h1, h2⟩)
  generalize parseVT s.data.toList = PT at *
  generalize parseVE s.data.toList = PE at *
  have HB := Lib.hid (box_val w 26 noneV)
  by_cases h4 : s.size ≤ 4000
  case neg =>
    have hgt : (4000 : Int) < s.size := by omega
    have HV := Lib.hid (HPC.out.1 (by rw [hlen]; omega))
    have HN := Lib.hid (show _ ∧ _ from ⟨HB.out.2, HB.out.1⟩)
    clear HB HPC
    go_enter Tryd.func21, Tryd.ntmps21
    go_wp2_with fail
    obtain ⟨k0, k1, k2, k3, k4, k5⟩ := Blk.val (x := noneV) HN.out.1
    exact bodyPost_ret (v := .tuple #[Val.v noneV, .int .i64 12]) (by simp [results, Tryd.results21, go_sem, k0, k1, k2, k3, k4, k5]) rfl (HF.out noneV _ 12 _ (fresh_leaf _ _ _ ok_none) HN.out.2 HV.out)
  have hle : ¬ (4000 : Int) < s.size := by omega
  go_enter Tryd.func21, Tryd.ntmps21
  go_wp2_with fail
  generalize w.alloc _ = W at HB ⊢
  refine (read_any 6 (by decide) s 0 W (Nat.zero_le _) h4).mono ?_
  rintro e W1 (⟨hnone, x, q, rfl, hb1⟩ | ⟨T, x, q, hsome, rfl, -, hq2, hfr, hb1⟩)
  · rw [List.drop_zero] at hnone
    obtain ⟨xk, ⟨xn, xd⟩, xt, xs, xA, xl, xc⟩ := x
    have HV := Lib.hid (HPC.out.2.1 hnone)
    have hres := HB.out.2.keep hb1
    have hb := HB.out.1.trans (hb1.mono HB.out.1.size)
    have hba := below_alloc W1 (.cells (Val.box ⟨xk, ⟨xn, xd⟩, xt, xs, xA, xl, xc⟩) 26)
    obtain ⟨r0, r1, r2, r3, r4, r5⟩ := hres.val
    have rf := hres.frozen
    have rl := hres.lt
    have HN := Lib.hid (show _ ∧ _ from ⟨(hres.set6 (.int .u8 0) (.int .i64 0) (.int .i64 0) (.bool false) (.string ⟨#[]⟩) (.slice none 0 0)).keep (below_alloc _ (.cells (Val.box ⟨xk, ⟨xn, xd⟩, xt, xs, xA, xl, xc⟩) 26)), (below_set6 hb (Nat.le_refl _) (.int .u8 0) (.int .i64 0) (.int .i64 0) (.bool false) (.string ⟨#[]⟩) (.slice none 0 0)).alloc (by simpa using hb.size) (.cells (Val.box ⟨xk, ⟨xn, xd⟩, xt, xs, xA, xl, xc⟩) 26)⟩)
    clear hres hb hba hb1 hnone HB HPC
    go_wp2_with fail
    obtain ⟨k0, k1, k2, k3, k4, k5⟩ := Blk.val (x := noneV) HN.out.1
    exact bodyPost_ret (v := .tuple #[Val.v noneV, .int .i64 12]) (by simp [results, Tryd.results21, go_sem, k0, k1, k2, k3, k4, k5]) rfl (HF.out noneV _ 12 _ (fresh_leaf _ _ _ ok_none) HN.out.2 HV.out)
  rw [List.drop_zero] at hsome
  have hcs := HPC.out.2.2 _ _ hsome
  obtain ⟨xk, ⟨xn, xd⟩, xt, xs, xA, xl, xc⟩ := x
  have hres := HB.out.2.keep hb1
  have hb := HB.out.1.trans (hb1.mono HB.out.1.size)
  have hWs := HB.out.1.size
  have hKW := HB.out.2.lt
  have hba := below_alloc W1 (.cells (Val.box ⟨xk, ⟨xn, xd⟩, xt, xs, xA, xl, xc⟩) 26)
  have rl := hres.lt
  by_cases hps : q = s.size
  case neg =>
    have HV := Lib.hid (hcs.1 (fun h => by rw [List.drop_eq_nil_iff, hlen] at h; omega))
    have hpn : ((q : Int) != (s.size : Int)) = true := by
      have : ((q : Int) == (s.size : Int)) = false := by rw [beq_eq_false_iff_ne]; omega
      unfold bne; rw [this]; rfl
    obtain ⟨r0, r1, r2, r3, r4, r5⟩ := hres.val
    have rf := hres.frozen
    have HN := Lib.hid (show _ ∧ _ from ⟨(hres.set6 (.int .u8 0) (.int .i64 0) (.int .i64 0) (.bool false) (.string ⟨#[]⟩) (.slice none 0 0)).keep (below_alloc _ (.cells (Val.box ⟨xk, ⟨xn, xd⟩, xt, xs, xA, xl, xc⟩) 26)), (below_set6 hb (Nat.le_refl _) (.int .u8 0) (.int .i64 0) (.int .i64 0) (.bool false) (.string ⟨#[]⟩) (.slice none 0 0)).alloc (by simpa using hb.size) (.cells (Val.box ⟨xk, ⟨xn, xd⟩, xt, xs, xA, xl, xc⟩) 26)⟩)
    clear hres hb hba hb1 hsome HB HPC hfr hcs
    go_wp2_with fail
    obtain ⟨k0, k1, k2, k3, k4, k5⟩ := Blk.val (x := noneV) HN.out.1
    exact bodyPost_ret (v := .tuple #[Val.v noneV, .int .i64 12]) (by simp [results, Tryd.results21, go_sem, k0, k1, k2, k3, k4, k5]) rfl (HF.out noneV _ 12 _ (fresh_leaf _ _ _ ok_none) HN.out.2 HV.out)
  subst hps
  obtain ⟨hwide, hbad, hgood⟩ := hcs.2 (by rw [List.drop_eq_nil_iff, hlen]; omega) (by rw [hlen]; exact h4)
  have hbx := Blk.new W1 26 (Val.box ⟨xk, ⟨xn, xd⟩, xt, xs, xA, xl, xc⟩)
  have hchk := fun W' h => refChkW_any T ⟨xk, ⟨xn, xd⟩, xt, xs, xA, xl, xc⟩ W' hwide h
  have HK := Lib.hid (show _ ∧ _ ∧ _ ∧ _ ∧ _ from ⟨hchk, hfr.below hba, hres.keep hba, hb.alloc hb.size (.cells (Val.box ⟨xk, ⟨xn, xd⟩, xt, xs, xA, xl, xc⟩) 26), hbx⟩)
  obtain ⟨C, hC⟩ : ∃ C, chkT T = C := ⟨_, rfl⟩
  rw [hC] at HK hbad hgood
  have HV := Lib.hid (show _ ∧ _ from ⟨hbad, hgood⟩)
  obtain ⟨d0, d1, d2, d3, d4, d5⟩ := hbx.val
  clear hba hbx hchk hres hb HB HPC hfr hb1 hC hwide hbad hgood hcs hsome
  go_wp2_with fail
  refine (HK.out.1 _ HK.out.2.1.rd).mono ?_
  rintro e W2 ⟨rfl, hb2⟩
  have hres2 := HK.out.2.2.1.keep hb2
  have hbx2 := HK.out.2.2.2.2.keep hb2
  have hbb := HK.out.2.2.2.1.trans (hb2.mono HK.out.2.2.2.1.size)
  have HFR := Lib.hid (HK.out.2.1.below hb2)
  obtain ⟨r0, r1, r2, r3, r4, r5⟩ := hres2.val
  have rf := hres2.frozen
  clear d0 d1 d2 d3 d4 d5
  obtain ⟨d0, d1, d2, d3, d4, d5⟩ := hbx2.val
  by_cases hC0 : C = 0
  case neg =>
    have hCn : (C != 0) = true := by simpa using hC0
    have hv := HV.out.1 hC0
    have HN := Lib.hid (show _ ∧ _ ∧ _ from ⟨hres2.set6 (.int .u8 0) (.int .i64 0) (.int .i64 0) (.bool false) (.string ⟨#[]⟩) (.slice none 0 0), below_set6 hbb (Nat.le_refl _) (.int .u8 0) (.int .i64 0) (.int .i64 0) (.bool false) (.string ⟨#[]⟩) (.slice none 0 0), hv⟩)
    clear hv hres2 hbx2 hbb HV HK hC0 hb2 HFR
    go_wp2_with fail
    obtain ⟨k0, k1, k2, k3, k4, k5⟩ := Blk.val (x := noneV) HN.out.1
    exact bodyPost_ret (v := .tuple #[Val.v noneV, .int .i64 12]) (by simp [results, Tryd.results21, go_sem, k0, k1, k2, k3, k4, k5]) rfl (HF.out noneV _ 12 _ (fresh_leaf _ _ _ ok_none) HN.out.2.1 HN.out.2.2)
  subst hC0
  have hv := HV.out.2 (by first | rfl | trivial)
  have HN := Lib.hid (show _ ∧ _ ∧ _ from ⟨hres2.set6 (.int .u8 xk) (.int .i64 xn) (.int .i64 xd) (.bool xt) (.string xs) (.slice xA xl xc), below_set6 hbb (Nat.le_refl _) (.int .u8 xk) (.int .i64 xn) (.int .i64 xd) (.bool xt) (.string xs) (.slice xA xl xc), hv⟩)
  clear hv hres2 hbx2 hbb HV HK hb2
  go_wp2_with fail
  obtain ⟨k0, k1, k2, k3, k4, k5⟩ := Blk.val (x := ⟨xk, ⟨xn, xd⟩, xt, xs, xA, xl, xc⟩) HN.out.1
  refine bodyPost_ret (v := .tuple #[Val.v ⟨xk, ⟨xn, xd⟩, xt, xs, xA, xl, xc⟩, .int .i64 0]) (by simp [results, Tryd.results21, go_sem, k0, k1, k2, k3, k4, k5]) rfl (HF.out ⟨xk, ⟨xn, xd⟩, xt, xs, xA, xl, xc⟩ _ 0 _ ?_ HN.out.2.1 HN.out.2.2)
  exact HFR.out.keep hWs (fun g h1 h2 => far_set6 (by omega) _ _ _ _ _ _)
end Go.Proofs.YtjgampkpfjbmdaaDoor
