/- The plain laws of chapter 2. -/
import Derived.Test.YtkjgcippcbfmgaaLabN
namespace Go.Rel
open Go.RowKit
theorem check_nil : checkP [] = 0 := by decide
theorem both_iff {p q : Bs} : bothE p q = 0 ↔ checkP p = 0 ∧ checkP q = 0 := by
  unfold bothE
  by_cases h : checkP p = 0
  · rw [if_neg (by simpa using h)]; simp [h]
  · rw [if_pos h]; simp [h]
theorem cmpR_ok {p q : Bs} (hp : checkP p = 0) (hq : checkP q = 0) : cmpR p q = cmpV p q := by unfold cmpR; rw [if_pos (both_iff.2 ⟨hp, hq⟩)]
theorem isCmp_V : IsCmp (listCmp cmpS) := isCmp_list isCmp_S
theorem keys_inj {p q : Bs} (hp : checkP p = 0) (hq : checkP q = 0) (h : keysP p = keysP q) : p = q :=
  cutP_inj (map_inj (check_all hp).2.2 (check_all hq).2.2 h)
theorem cmpV_zero {p q : Bs} (hp : checkP p = 0) (hq : checkP q = 0) : cmpV p q = 0 ↔ p = q := by
  unfold cmpV
  rw [isCmp_V.zero]
  exact ⟨keys_inj hp hq, fun h => by rw [h]⟩
theorem check_of {t : List Bs} (h : ∀ x ∈ t, stepOk x = true) (hl : (pathP t).length ≤ 4000) (hn : t.length ≤ 40) : checkP (pathP t) = 0 := by
  have hc := cut_path (fun x hx => (step_no (h x hx)).1) (fun x hx => (step_no (h x hx)).2)
  unfold checkP
  rw [hc, if_neg (by omega), if_pos (by rw [List.all_eq_true]; exact h)]
theorem check_take {p : Bs} (h : checkP p = 0) {k : Nat} (hk : k ≤ (cutP p).length) : checkP (pathP ((cutP p).take k)) = 0 := by
  obtain ⟨h1, h2, h3⟩ := check_all h
  refine check_of (fun x hx => h3 x (List.mem_of_mem_take hx)) ?_ (by rw [List.length_take]; omega)
  have := path_le (cutP p) hk
  rw [path_cut] at this
  omega
/-! ### The common path -/
theorem common_ok {p q : Bs} (hp : checkP p = 0) (hq : checkP q = 0) :
    checkP (commonS p q) = 0 ∧ commonS q p = commonS p q ∧ underB p (commonS p q) = true ∧ underB q (commonS p q) = true ∧ ∀ o, underB (commonS p q) o = (underB p o && underB q o) := by
  have hle := sharedN_le (cutP p) (cutP q)
  have htk := sharedN_take (cutP p) (cutP q)
  have e1 : commonS p q = pathP ((cutP p).take (sharedN (cutP p) (cutP q))) := by unfold commonS; rw [if_pos (both_iff.2 ⟨hp, hq⟩)]
  have e2 : commonS q p = pathP ((cutP q).take (sharedN (cutP q) (cutP p))) := by unfold commonS; rw [if_pos (both_iff.2 ⟨hq, hp⟩)]
  have hc : cutP (commonS p q) = (cutP p).take (sharedN (cutP p) (cutP q)) := by rw [e1]; exact cut_take hp _
  refine ⟨by rw [e1]; exact check_take hp hle.1, by rw [e1, e2, sharedN_comm (cutP q) (cutP p), htk], ?_, ?_, fun o => ?_⟩
  · unfold underB
    rw [List.isPrefixOf_iff_prefix, hc]
    exact List.take_prefix _ _
  · unfold underB
    rw [List.isPrefixOf_iff_prefix, hc, htk]
    exact List.take_prefix _ _
  · unfold underB
    rw [hc, Bool.eq_iff_iff, Bool.and_eq_true, List.isPrefixOf_iff_prefix, List.isPrefixOf_iff_prefix, List.isPrefixOf_iff_prefix]
    constructor
    · intro h
      exact ⟨h.trans (List.take_prefix _ _), (htk ▸ h).trans (List.take_prefix _ _)⟩
    · rintro ⟨h1, h2⟩
      rw [prefix_iff_take] at h1 h2 ⊢
      have hm := sharedN_max h1.1 h2.1 (h1.2.trans h2.2.symm)
      refine ⟨by rw [List.length_take]; omega, ?_⟩
      rw [List.take_take, Nat.min_eq_left hm]
      exact h1.2
/-! ### What is under a path -/
theorem under_keys {p q : Bs} (h : underB q p = true) : keysP p <+: keysP q := by
  unfold underB at h
  rw [List.isPrefixOf_iff_prefix] at h
  obtain ⟨t, ht⟩ := h
  exact ⟨t.map readR, by unfold keysP; rw [← ht, List.map_append]⟩
theorem keys_under {p q : Bs} (hp : checkP p = 0) (hq : checkP q = 0) (h : keysP p <+: keysP q) : underB q p = true := by
  unfold underB
  rw [List.isPrefixOf_iff_prefix, prefix_iff_take]
  have h' := h.length_le
  unfold keysP at h h'
  rw [List.length_map, List.length_map] at h'
  refine ⟨h', ?_⟩
  have he := List.prefix_iff_eq_take.1 h
  rw [List.length_map, ← List.map_take] at he
  exact (map_inj (check_all hp).2.2 (fun x hx => (check_all hq).2.2 x (List.mem_of_mem_take hx)) he).symm
theorem near_le {p q : Bs} (h : underB q p = true) : cmpV p q ≤ 0 := by
  obtain ⟨t, ht⟩ := under_keys h
  unfold cmpV
  rw [← ht]
  exact listCmp_pre isCmp_S _ _
theorem near_lt {p q r : Bs} (hp : checkP p = 0) (hr : checkP r = 0) (h : underB q p = true) (h2 : underB r p = false) (h3 : cmpV p r ≤ 0) : cmpV q r < 0 := by
  obtain ⟨t, ht⟩ := under_keys h
  unfold cmpV at h3 ⊢
  rw [← ht]
  exact listCmp_near isCmp_S _ _ _ h3 (fun hk => by rw [keys_under hp hr hk] at h2; cases h2)
/-! ### Joining -/
theorem join_steps {p s : Bs} (hp : checkP p = 0) (hs : stepOk s = true) : cutP (joinO p s) = cutP p ++ [s] := by
  unfold joinO
  refine cut_path (fun x hx => ?_) (fun x hx => ?_)
  · rcases List.mem_append.1 hx with h | h
    · exact (step_no ((check_all hp).2.2 x h)).1
    · rw [List.mem_singleton.1 h]; exact (step_no hs).1
  · rcases List.mem_append.1 hx with h | h
    · exact (step_no ((check_all hp).2.2 x h)).2
    · rw [List.mem_singleton.1 h]; exact (step_no hs).2
theorem checkP_vals (p : Bs) : checkP p = 0 ∨ checkP p = 4 ∨ checkP p = 12 := by
  unfold checkP
  split
  · exact .inr (.inl rfl)
  · split
    · exact .inl rfl
    · exact .inr (.inr rfl)
theorem joinE_ok {p s : Bs} (hp : checkP p = 0) : (joinE p s ≠ 0 ∧ (joinE p s = 4 ∨ joinE p s = 12)) ∨ (joinE p s = 0 ∧ stepOk s = true ∧ checkP (joinO p s) = 0 ∧ joinS p s = joinO p s) := by
  unfold joinS joinE
  rw [if_neg (by simpa using hp)]
  cases hs : stepOk s
  · rw [if_pos rfl]; exact .inl ⟨by decide, .inr rfl⟩
  · rw [if_neg (by simp)]
    rcases checkP_vals (joinO p s) with h | h | h
    · exact .inr ⟨h, rfl, h, by rw [if_pos h]⟩
    · exact .inl ⟨by omega, .inl h⟩
    · exact .inl ⟨by omega, .inr h⟩
theorem join_ok {p s : Bs} (hp : checkP p = 0) (hs : stepOk s = true) :
    joinO p s ≠ [] ∧ upS (joinO p s) = p ∧ lastS (joinO p s) = s ∧ underB (joinO p s) p = true ∧ cmpV p (joinO p s) = -1 := by
  have hc := join_steps hp hs
  have hne : joinO p s ≠ [] := fun e => by rw [e] at hc; simp [cutP] at hc
  have hsg : segs (joinO p s) = cutP p ++ [s] := by rw [← cutP_segs hne, hc]
  refine ⟨hne, ?_, ?_, ?_, ?_⟩
  · unfold upS; rw [hsg, List.dropLast_concat, path_cut]
  · unfold lastS; simp only [hsg]; simp
  · unfold underB; rw [List.isPrefixOf_iff_prefix, hc]; exact List.prefix_append _ _
  · unfold cmpV keysP
    rw [hc, List.map_append]
    conv => lhs; arg 2; rw [← List.append_nil (List.map readR (cutP p))]
    rw [listCmp_common isCmp_S]
    rfl
/-- A path is built step by step. -/
theorem whole_step {p : Bs} (hp : checkP p = 0) {k : Nat} (hk : k < (cutP p).length) :
    joinE (pathP ((cutP p).take k)) (cutP p)[k] = 0 ∧ joinS (pathP ((cutP p).take k)) (cutP p)[k] = pathP ((cutP p).take (k + 1)) ∧
    parentE (pathP ((cutP p).take (k + 1))) = 0 ∧ lastR (pathP ((cutP p).take (k + 1))) = readR (cutP p)[k] := by
  have h0 := check_take hp (Nat.le_of_lt hk)
  have h1 := check_take hp hk
  have hs : stepOk (cutP p)[k] = true := (check_all hp).2.2 _ (List.getElem_mem hk)
  have hj : joinO (pathP ((cutP p).take k)) (cutP p)[k] = pathP ((cutP p).take (k + 1)) := by
    unfold joinO
    rw [cut_take hp, List.take_succ_eq_append_getElem hk]
  have hE : joinE (pathP ((cutP p).take k)) (cutP p)[k] = 0 := by
    unfold joinE
    rw [if_neg (by simpa using h0), if_neg (by simp [hs]), hj, h1]
  have hjk := join_ok h0 hs
  rw [hj] at hjk
  refine ⟨hE, by unfold joinS; rw [if_pos hE, hj], ?_, ?_⟩
  · unfold parentE; rw [if_neg (by simpa using h1), if_neg hjk.1]
  · unfold lastR; rw [if_neg (by simp [h1, hjk.1]), hjk.2.2.1]
theorem parent_ok {p : Bs} (hp : checkP p = 0) (h : p ≠ []) : parentS p = upS p ∧ parentE p = 0 := by
  unfold parentS parentE
  rw [if_pos hp, if_neg (by simpa using hp), if_neg h]
  exact ⟨rfl, rfl⟩
theorem steps_ok {p : Bs} (hp : checkP p = 0) : stepsL p = cutP p := by unfold stepsL; rw [if_pos hp]
theorem three {a : Int} (h : -1 ≤ a ∧ a ≤ 1) : a = -1 ∨ a = 0 ∨ a = 1 := by omega
end Go.Rel
