/- The reference's reading of a value (plain Lean, no program), and that it reads what the program reads. -/
import Derived.Test.YtjgampkpfjbmdaaDoorPack18
import Derived.Test.YtjgampkpfjbmdaaDoorPack20
namespace Go.Rel
open Go.RowKit
/-- A digit, or a slash. -/
def isDg (c : UInt8) : Bool := decide (47 ≤ c.toNat ∧ c.toNat ≤ 57)
/-- How a number is cut off. -/
def cutN : Bs → Bs × Bs
  | [] => ([], [])
  | c :: r => if isDig c = true then (c :: r.takeWhile isDg, r.dropWhile isDg) else ([], c :: r)
def numR (l : Bs) : Option (Tree × Bs) := if parseE (cutN l).1 = 0 then some (ratT (parseR (cutN l).1), (cutN l).2) else none
def strR (r : Bs) : Option (Tree × Bs) := if (quotL r []).2.2 = true then some (tStr (str (quotL r []).1), (quotL r []).2.1) else none
def loopR (f : Bs → Option (Tree × Bs)) : Nat → List Tree → Bs → Option (Tree × Bs)
  | 0, _, _ => none
  | n + 1, acc, l =>
    match f l with
    | none => none
    | some (T, r) =>
      match skipL [93] r with
      | some r2 => some (tList (acc ++ [T]), r2)
      | none =>
        match skipL [44, 32] r with
        | some r2 => loopR f n (acc ++ [T]) r2
        | none => none
def listR (f : Bs → Option (Tree × Bs)) (l : Bs) : Option (Tree × Bs) :=
  match skipL [93] l with
  | some r2 => some (tList [], r2)
  | none => loopR f (l.length + 1) [] l
/-- A value of at most so great a depth. -/
def refR : Nat → Bs → Option (Tree × Bs)
  | 0, _ => none
  | d + 1, l =>
    match skipL [116, 114, 117, 101] l with
    | some r => some (tBool true, r)
    | none =>
      match skipL [102, 97, 108, 115, 101] l with
      | some r => some (tBool false, r)
      | none =>
        match skipL [34] l with
        | some r => strR r
        | none =>
          match skipL [91] l with
          | some r => listR (refR d) r
          | none => numR l
theorem isD_ne {l : Bs} (h : l.all isD = true) : ∀ x ∈ l, x ≠ 45 := by
  intro x hx e
  have := List.all_eq_true.1 h x hx
  rw [e] at this
  simp [isD] at this
theorem itoa_plus {n : Int} (h : 0 ≤ n) : ∀ x ∈ Lib.itoa n, x ≠ 45 := by
  unfold Lib.itoa
  rw [if_neg (by omega)]
  exact isD_ne (dec_all _)
theorem textL_front {q : Rat2} (h : RatOk q) {c : UInt8} {r : Bs} (he : textL q = c :: r) : ∀ x ∈ r, x ≠ 45 := by
  have h2 : ∀ x ∈ (if q.d = 1 then [] else 47 :: Lib.itoa q.d : Bs), x ≠ 45 := by
    intro x hx
    split at hx
    · cases hx
    · rcases List.mem_cons.1 hx with rfl | hx
      · decide
      · exact itoa_plus (by obtain ⟨h1, h2, h3, h4, -⟩ := h; omega) x hx
  unfold textL at he
  by_cases hn : q.n < 0
  · have hi : ∃ m, Lib.itoa q.n = 45 :: m ∧ m.all isD = true := by
      unfold Lib.itoa; rw [if_pos hn]; exact ⟨_, rfl, dec_all _⟩
    obtain ⟨m, hm, ha⟩ := hi
    rw [hm, List.cons_append] at he
    injection he with h3 h4
    intro x hx
    rw [← h4] at hx
    rcases List.mem_append.1 hx with hx | hx
    · exact isD_ne ha x hx
    · exact h2 x hx
  · have := itoa_plus (n := q.n) (by omega)
    intro x hx
    have hx2 : x ∈ c :: r := by simp [hx]
    rw [← he] at hx2
    rcases List.mem_append.1 hx2 with hx | hx
    · exact this x hx
    · exact h2 x hx
theorem dg_dig {c : UInt8} (h : isDg c = true) : isDig c = true := by
  unfold isDg at h; unfold isDig
  simp only [decide_eq_true_eq] at h ⊢; omega
theorem dig_dg {c : UInt8} (h : isDig c = true) (hn : c ≠ 45) : isDg c = true := by
  unfold isDig at h; unfold isDg
  simp only [decide_eq_true_eq] at h ⊢
  rcases h with h | h
  · exact h
  · exact absurd (UInt8.toNat_inj.1 h) hn
theorem run_same : ∀ (r : Bs), (r.takeWhile isDg = r.takeWhile isDig ∧ r.dropWhile isDg = r.dropWhile isDig) ∨ ((∃ t, r.dropWhile isDg = 45 :: t) ∧ 45 ∈ r.takeWhile isDig)
  | [] => .inl ⟨rfl, rfl⟩
  | c :: r => by
    by_cases h : isDg c = true
    · have h2 := dg_dig h
      simp only [List.takeWhile, List.dropWhile, h, h2]
      rcases run_same r with ⟨a, b⟩ | ⟨a, b⟩
      · exact .inl ⟨by rw [a], b⟩
      · exact .inr ⟨a, by simp [b]⟩
    · by_cases h2 : isDig c = true
      · have e : c = 45 := Classical.byContradiction fun hn => h (dig_dg h2 hn)
        subst e
        refine .inr ⟨⟨r, ?_⟩, ?_⟩
        · simp [List.dropWhile, h]
        · simp [List.takeWhile, h2]
      · simp [List.takeWhile, List.dropWhile, h, h2]
theorem cutN_ok {l : Bs} (h : parseE (l.takeWhile isDig) = 0) : cutN l = (l.takeWhile isDig, l.dropWhile isDig) := by
  have hp : parseOk (l.takeWhile isDig) := by
    rcases parse_val (l.takeWhile isDig) with h1 | h1
    · exact h1.1
    · rw [h1.2.2] at h; cases h
  cases l with
  | nil => rfl
  | cons c r =>
    rw [cutN]
    by_cases hc : isDig c = true
    · rw [if_pos hc]
      simp only [List.takeWhile, List.dropWhile, hc] at hp ⊢
      have hf := textL_front hp.2.2.1 hp.2.2.2
      rcases run_same r with ⟨a, b⟩ | ⟨-, b⟩
      · rw [a, b]
      · exact absurd rfl (hf 45 b)
    · rw [if_neg hc]
      simp [List.takeWhile, List.dropWhile, hc]
theorem cutN_cases (l : Bs) : cutN l = (l.takeWhile isDig, l.dropWhile isDig) ∨ ∃ t, (cutN l).2 = 45 :: t := by
  cases l with
  | nil => exact .inl rfl
  | cons c r =>
    rw [cutN]
    by_cases hc : isDig c = true
    · rw [if_pos hc]
      simp only [List.takeWhile, List.dropWhile, hc]
      rcases run_same r with ⟨a, b⟩ | ⟨b, -⟩
      · rw [a, b]; exact .inl rfl
      · exact .inr b
    · rw [if_neg hc]
      simp [List.takeWhile, List.dropWhile, hc]
theorem num_fwd {l r : Bs} {T : Tree} {ok : Bool} (h : numV l ok = (T, r, true)) : numR l = some (T, r) := by
  unfold numV at h
  injection h with h1 h2
  injection h2 with h2 h3
  simp only [Bool.and_eq_true, decide_eq_true_eq] at h3
  unfold numR
  rw [cutN_ok h3.2, if_pos h3.2, h1, h2]
theorem num_bwd {l r : Bs} {T : Tree} (h : numR l = some (T, r)) : numV l true = (T, r, true) ∨ ∃ t, r = 45 :: t := by
  unfold numR at h
  split at h
  · rename_i hp
    injection h with h
    injection h with h1 h2
    rcases cutN_cases l with hc | ⟨t, hc⟩
    · rw [hc] at hp h1 h2
      refine .inl ?_
      unfold numV
      rw [hp]
      simp [← h1, ← h2]
    · exact .inr ⟨t, by rw [← h2, hc]⟩
  · cases h
theorem skip_head {a : UInt8} {t l r : Bs} (h : skipL (a :: t) l = some r) : ∃ m, l = a :: m := by
  unfold skipL at h
  split at h
  · rename_i hp
    obtain ⟨m, hm⟩ := List.isPrefixOf_iff_prefix.1 hp
    exact ⟨_, hm.symm⟩
  · cases h
theorem loop_fwd {f : Bs → Tree × Bs × Bool} {g : Bs → Option (Tree × Bs)} (hfg : ∀ l T r, f l = (T, r, true) → g l = some (T, r)) : ∀ (n : Nat) (acc : List Tree) (l : Bs) (ts : List Tree) (r r2 : Bs), loopL f n acc l = (ts, r, true) → skipL [93] r = some r2 → loopR g n acc l = some (tList ts, r2)
  | 0, acc, l, ts, r, r2, h, _ => by rw [loopL] at h; cases h
  | n + 1, acc, l, ts, r, r2, h, h2 => by
    obtain ⟨⟨T, r1, ok⟩, hv⟩ : ∃ p, f l = p := ⟨_, rfl⟩
    rw [loopL, hv] at h
    dsimp only at h
    cases hs : skipL [44, 32] r1 with
    | some r3 =>
      rw [hs] at h
      dsimp only at h
      cases ok with
      | false => rw [if_neg (by decide)] at h; cases h
      | true =>
        rw [if_pos rfl] at h
        have hn : skipL [93] r1 = none := by
          obtain ⟨m, rfl⟩ := skip_head hs
          exact skip_no _ _ (by decide)
        rw [loopR, hfg _ _ _ hv]
        dsimp only
        rw [hn]
        dsimp only
        rw [hs]
        exact loop_fwd hfg n _ _ _ _ _ h h2
    | none =>
      rw [hs] at h
      dsimp only at h
      injection h with h3 h4
      injection h4 with h4 h5
      subst h3 h4 h5
      rw [loopR, hfg _ _ _ hv]
      dsimp only
      rw [h2]
theorem loop_bwd {f : Bs → Tree × Bs × Bool} {g : Bs → Option (Tree × Bs)} (hfg : ∀ l T r, g l = some (T, r) → f l = (T, r, true) ∨ ∃ t, r = 45 :: t) : ∀ (n : Nat) (acc : List Tree) (l : Bs) (T : Tree) (r2 : Bs), loopR g n acc l = some (T, r2) → ∃ ts r, loopL f n acc l = (ts, r, true) ∧ T = tList ts ∧ skipL [93] r = some r2
  | 0, acc, l, T, r2, h => by rw [loopR] at h; cases h
  | n + 1, acc, l, T, r2, h => by
    rw [loopR] at h
    cases hg : g l with
    | none => rw [hg] at h; cases h
    | some p =>
      obtain ⟨T1, r1⟩ := p
      rw [hg] at h
      dsimp only at h
      cases hs : skipL [93] r1 with
      | some r3 =>
        rw [hs] at h
        dsimp only at h
        injection h with h
        injection h with h3 h4
        subst h3 h4
        obtain ⟨m, rfl⟩ := skip_head hs
        rcases hfg _ _ _ hg with hf | ⟨t, ht⟩
        · refine ⟨acc ++ [T1], 93 :: m, ?_, rfl, hs⟩
          rw [loopL, hf, show skipL [44, 32] (93 :: m) = none from skip_no _ _ (by decide)]
        · injection ht with ht; exact absurd ht (by decide)
      | none =>
        rw [hs] at h
        dsimp only at h
        cases hs2 : skipL [44, 32] r1 with
        | none => rw [hs2] at h; cases h
        | some r3 =>
          rw [hs2] at h
          dsimp only at h
          obtain ⟨m, rfl⟩ := skip_head hs2
          rcases hfg _ _ _ hg with hf | ⟨t, ht⟩
          · obtain ⟨ts, r, k1, k2, k3⟩ := loop_bwd hfg n _ _ _ _ h
            refine ⟨ts, r, ?_, k2, k3⟩
            rw [loopL, hf]
            dsimp only
            rw [hs2]
            dsimp only
            rw [if_pos rfl]
            exact k1
          · injection ht with ht; exact absurd ht (by decide)
theorem skip_two (a b : UInt8) (l : Bs) : skipL [a, b] l = match skipL [a] l with | some r => skipL [b] r | none => none := by
  cases l with
  | nil => rfl
  | cons c m =>
    by_cases h : a = c
    · subst h
      rw [show skipL [a] (a :: m) = some m from skip_yes [a] m]
      dsimp only
      cases m with
      | nil => rw [skip_nil]; simp [skipL, List.isPrefixOf]
      | cons e m =>
        by_cases h : b = e
        · subst h
          rw [show skipL [b] (b :: m) = some m from skip_yes [b] m]
          exact skip_yes [a, b] m
        · rw [skip_no _ _ h, skip_no2 _ h]
    · rw [skip_no _ _ h, skip_no _ _ h]
theorem parse_none : parseE [] ≠ 0 := by
  intro h
  rcases parse_val [] with h1 | h1
  · exact textL_ne _ h1.1.2.2.2
  · rw [h1.2.2] at h; cases h
theorem read_fwd : ∀ (d : Nat) (l : Bs) (T : Tree) (r : Bs), valueL d l = (T, r, true) → refR d l = some (T, r)
  | 0, l, T, r, h => by
    rw [valueL] at h
    unfold numV at h
    simp at h
  | d + 1, l, T, r, h => by
    rw [valueL] at h
    rw [refR]
    cases h1 : skipL [116, 114, 117, 101] l with
    | some r1 => rw [h1] at h; dsimp only at h ⊢; injection h with h2 h3; injection h3 with h3; rw [h2, h3]
    | none =>
      rw [h1] at h
      dsimp only at h ⊢
      cases h2 : skipL [102, 97, 108, 115, 101] l with
      | some r1 => rw [h2] at h; dsimp only at h ⊢; injection h with h2 h3; injection h3 with h3; rw [h2, h3]
      | none =>
        rw [h2] at h
        dsimp only at h ⊢
        cases h3 : skipL [34] l with
        | some r1 =>
          rw [h3] at h
          dsimp only at h ⊢
          injection h with h4 h5
          injection h5 with h5 h6
          unfold strR
          rw [if_pos h6, h4, h5]
        | none =>
          rw [h3] at h
          dsimp only at h ⊢
          have h5 := skip_two 91 93 l
          cases h4 : skipL [91] l with
          | none =>
            rw [h4] at h h5
            dsimp only at h h5 ⊢
            rw [h5] at h
            exact num_fwd h
          | some r1 =>
            rw [h4] at h h5
            dsimp only at h h5 ⊢
            rw [h5] at h
            unfold listR
            cases h6 : skipL [93] r1 with
            | some r2 => rw [h6] at h; dsimp only at h ⊢; injection h with h2 h3; injection h3 with h3; rw [h2, h3]
            | none =>
              rw [h6] at h
              dsimp only at h ⊢
              unfold listV at h
              obtain ⟨⟨ts, rr, ok⟩, hv⟩ : ∃ p, loopL (valueL d) (r1.length + 1) [] r1 = p := ⟨_, rfl⟩
              rw [hv] at h
              dsimp only at h
              cases h7 : skipL [93] rr with
              | none => rw [h7] at h; cases h
              | some r3 =>
                rw [h7] at h
                dsimp only at h
                injection h with h8 h9
                injection h9 with h9 h10
                subst h8 h9 h10
                exact loop_fwd (read_fwd d) _ _ _ _ _ _ hv h7
theorem read_bwd : ∀ (d : Nat) (l : Bs) (T : Tree) (r : Bs), refR d l = some (T, r) → valueL d l = (T, r, true) ∨ ∃ t, r = 45 :: t
  | 0, l, T, r, h => by cases h
  | d + 1, l, T, r, h => by
    rw [refR] at h
    rw [valueL]
    cases h1 : skipL [116, 114, 117, 101] l with
    | some r1 => rw [h1] at h; dsimp only at h ⊢; injection h with h; injection h with h2 h3; rw [h2, h3]; exact .inl rfl
    | none =>
      rw [h1] at h
      dsimp only at h ⊢
      cases h2 : skipL [102, 97, 108, 115, 101] l with
      | some r1 => rw [h2] at h; dsimp only at h ⊢; injection h with h; injection h with h2 h3; rw [h2, h3]; exact .inl rfl
      | none =>
        rw [h2] at h
        dsimp only at h ⊢
        cases h3 : skipL [34] l with
        | some r1 =>
          rw [h3] at h
          dsimp only at h ⊢
          unfold strR at h
          split at h
          · rename_i hq
            injection h with h; injection h with h2 h3
            rw [h2, h3, hq]; exact .inl rfl
          · cases h
        | none =>
          rw [h3] at h
          dsimp only at h ⊢
          have h5 := skip_two 91 93 l
          cases h4 : skipL [91] l with
          | none =>
            rw [h4] at h h5
            dsimp only at h h5 ⊢
            rw [h5]
            exact num_bwd h
          | some r1 =>
            rw [h4] at h h5
            dsimp only at h h5 ⊢
            rw [h5]
            unfold listR at h
            cases h6 : skipL [93] r1 with
            | some r2 => rw [h6] at h; dsimp only at h ⊢; injection h with h; injection h with h2 h3; rw [h2, h3]; exact .inl rfl
            | none =>
              rw [h6] at h
              dsimp only at h ⊢
              obtain ⟨ts, rr, k1, k2, k3⟩ := loop_bwd (read_bwd d) _ _ _ _ _ h
              unfold listV
              rw [k1]
              dsimp only
              rw [k3, k2]
              exact .inl rfl
/-- The ways that the reference's Parse goes. -/
theorem parseR_cases (l : Bs) :
    (4000 < l.length → parseVT l = Tree.none_ ∧ parseVE l = 12) ∧ (refR 6 l = none → parseVT l = Tree.none_ ∧ parseVE l = 12) ∧
      ∀ T r, refR 6 l = some (T, r) → (r ≠ [] → parseVT l = Tree.none_ ∧ parseVE l = 12) ∧ (r = [] → l.length ≤ 4000 → wideT T 10 = true ∧ (chkT T ≠ 0 → parseVT l = Tree.none_ ∧ parseVE l = 12) ∧ (chkT T = 0 → parseVT l = T ∧ parseVE l = 0)) := by
  have key : ¬ ((valueL 6 l).2.2 = true ∧ (valueL 6 l).2.1 = [] ∧ chkT (valueL 6 l).1 = 0 ∧ l.length ≤ 4000) → parseVT l = Tree.none_ ∧ parseVE l = 12 := fun h => by
    unfold parseVT parseVE; rw [if_neg h, if_neg h]; exact ⟨rfl, rfl⟩
  refine ⟨fun h => key fun h2 => by omega, fun h => key fun h2 => ?_, fun T r h => ⟨fun hr => key fun h2 => ?_, fun hr hl => ?_⟩⟩
  · have := read_fwd 6 l (valueL 6 l).1 (valueL 6 l).2.1 (by rw [← h2.1])
    rw [h] at this; cases this
  · have := read_fwd 6 l (valueL 6 l).1 (valueL 6 l).2.1 (by rw [← h2.1])
    rw [h] at this
    injection this with this
    injection this with h3 h4
    exact hr (h4.trans h2.2.1)
  · subst hr
    rcases read_bwd 6 l T [] h with hv | ⟨t, ht⟩
    · have hw := valueL_wide 6 l (by omega)
      rw [hv] at hw
      obtain ⟨a, b⟩ := parseV_cases l hv
      exact ⟨wide_more (wide_more (wide_more hw)), fun hc => b (.inr (.inr (.inr hc))), fun hc => a hl rfl rfl hc⟩
    · cases ht
end Go.Rel
