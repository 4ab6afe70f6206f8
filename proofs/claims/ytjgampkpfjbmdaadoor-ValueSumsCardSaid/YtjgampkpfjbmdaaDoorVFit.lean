/- Sums fit (plain). -/
import Derived.Test.YtjgampkpfjbmdaaDoorPack20
namespace Go.Proofs.YtjgampkpfjbmdaaDoor
open Go.RowKit Go.Rel
theorem fit_none_ : fitT .none_ 10 = true := by decide
theorem add_none {T U : Tree} (h : addE T U ≠ 0) : addT T U = .none_ := by
  unfold addE at h
  unfold addT
  split
  · rfl
  · rename_i h1
    rw [if_neg h1] at h
    split
    · rfl
    · rename_i h2
      rw [if_neg h2] at h
      split
      · rename_i h3
        rw [if_pos h3] at h
        rw [if_pos h]
      · rename_i h3
        rw [if_neg h3] at h
        split
        · rename_i h4
          rw [if_pos h4] at h
          split
          · rfl
          · rename_i h5; rw [if_neg h5] at h; exact absurd rfl h
        · rename_i h4
          rw [if_neg h4] at h
          split
          · rfl
          · rename_i h5; rw [if_neg h5] at h; exact absurd rfl h
theorem add_fit {T U : Tree} (hT : Valid T) (hU : Valid U) : fitT (addT T U) 10 = true := by
  by_cases h : addE T U = 0
  · exact (add_valid hT hU h).1.fit
  · rw [add_none h]; exact fit_none_
theorem bad_add {T U : Tree} (h : chkT T ≠ 0 ∨ chkT U ≠ 0) : addT T U = .none_ := by
  have hb : bothV T U ≠ 0 := by
    unfold bothV
    split
    · rename_i h1; exact h1
    · rename_i h1; exact h.resolve_left (fun n => h1 n)
  exact (add_bad hb).1
theorem none_chk : chkT .none_ ≠ 0 := by decide
/-- A sum, valid or none at all. -/
def SumOk (T : Tree) : Prop := Valid T ∨ T = .none_
theorem add_sum {T U : Tree} (hT : SumOk T) (hU : SumOk U) : SumOk (addT T U) := by
  rcases hT with hT | rfl
  · rcases hU with hU | rfl
    · by_cases h : addE T U = 0
      · exact .inl (add_valid hT hU h).1
      · exact .inr (add_none h)
    · exact .inr (bad_add (.inr none_chk))
  · exact .inr (bad_add (.inl none_chk))
theorem SumOk.fit {T : Tree} (h : SumOk T) : fitT T 10 = true := by
  rcases h with h | rfl
  · exact h.fit
  · exact fit_none_
theorem at_fit {T : Tree} (h : Valid T) (i : Int) : fitT (atT T i) 10 = true := by
  unfold atT
  split
  · exact fit_none_
  split
  · exact fit_none_
  split
  · rename_i hk
    rcases h.forms with ⟨q, rfl, -⟩ | ⟨t, rfl⟩ | ⟨s, rfl, -⟩ | ⟨l, rfl, -⟩
    · exact absurd hk (show ¬ (1 : Int) = 4 by decide)
    · exact absurd hk (show ¬ (2 : Int) = 4 by decide)
    · exact absurd hk (show ¬ (3 : Int) = 4 by decide)
    · cases hg : (tList l).kids[i.toNat]? with
      | none => exact fit_none_
      | some y => exact (h.kids y (List.mem_of_getElem? hg)).fit
  · have hs : T.s.size ≤ 200 := by
      obtain ⟨k, q, t, s, kids⟩ := T
      obtain ⟨e, -, h2, -⟩ := fitT_parts h.fit
      exact h2
    unfold tStr
    rw [fitT_succ, ByteArray.size_extract, decide_eq_true (show min (i.toNat + 1) T.s.size - i.toNat ≤ 200 by omega)]
    rfl
/-- What the sums of three valid values are. -/
theorem sums_facts {a b c : Tree} (ha : Valid a) (hb : Valid b) (hc : Valid c) : ∃ (ab bc l r : Tree) (E1 E2 E3 E4 : Int),
    (addT a b = ab ∧ addE a b = E1) ∧ (addT b c = bc ∧ addE b c = E2) ∧ (addT ab c = l ∧ addE ab c = E3) ∧ (addT a bc = r ∧ addE a bc = E4) ∧
    (fitT ab 10 = true ∧ fitT bc 10 = true ∧ fitT l 10 = true) ∧ (E1 = 0 → E2 = 0 → E3 = 0 → E4 = 0 → sameB l r = true) ∧
    (E1 = 0 → a.k = b.k ∧ a.k ≠ 2 ∧ chkT ab = 0 ∧ (a.k ≠ 1 → ∃ N M : Int, (lenN a = N ∧ lenE a = 0) ∧ (lenN b = M ∧ lenE b = 0) ∧ (lenN ab = N + M ∧ lenE ab = 0) ∧ (0 ≤ N ∧ N ≤ 100 ∧ 0 ≤ M ∧ M ≤ 100) ∧ (∀ i : Int, fitT (atT ab i) 10 = true) ∧ (∀ i : Int, N ≤ i → atT ab i = atT b (i - N) ∧ atE ab i = atE b (i - N)) ∧ (∀ i : Int, ¬ N ≤ i → atT ab i = atT a i ∧ atE ab i = atE a i))) := by
  have s1 := add_sum (.inl ha) (.inl hb)
  have s2 := add_sum (.inl hb) (.inl hc)
  have s3 := add_sum s1 (.inl hc)
  refine ⟨_, _, _, _, _, _, _, _, ⟨rfl, rfl⟩, ⟨rfl, rfl⟩, ⟨rfl, rfl⟩, ⟨rfl, rfl⟩, ⟨s1.fit, s2.fit, s3.fit⟩, fun h1 h2 h3 h4 => sameB_iff.2 (sums_assoc ha hb hc h1 h2 h3 h4), fun h1 => ?_⟩
  obtain ⟨v1, v2, v3, v4⟩ := add_valid ha hb h1
  refine ⟨v2, v3, v1.chk, fun hk => ?_⟩
  obtain ⟨l1, l2, l3, l4, l5, l6, l7, l8⟩ := sums_at ha hb h1 hk
  have hM : 0 ≤ lenN b ∧ lenN b ≤ 100 := by
    have hv := v1
    have hp : (addT a b).k = 3 ∨ (addT a b).k = 4 := by
      rw [v4]
      rcases ha.forms with ⟨q, rfl, -⟩ | ⟨t, rfl⟩ | ⟨s, rfl, -⟩ | ⟨l, rfl, -⟩
      · exact absurd rfl hk
      · exact absurd rfl v3
      · exact .inl rfl
      · exact .inr rfl
    have := parts_step v1 hp
    have hb3 : b.k = 3 ∨ b.k = 4 := by rw [← v2, ← v4]; exact hp
    have hpb := parts_step hb hb3
    exact ⟨hpb.2.1, hpb.2.2.1⟩
  exact ⟨lenN a, lenN b, ⟨rfl, l1⟩, ⟨rfl, l2⟩, ⟨l4, l3⟩, ⟨l5, l6, hM.1, hM.2⟩, fun i => at_fit v1 i, l7, l8⟩
end Go.Proofs.YtjgampkpfjbmdaaDoor
