/- Comparing paths: a total order on their steps (plain Lean, no program). -/
import Derived.Test.YtkjgcippcbfmgaaLabP
namespace Go.Rel
open Go.RowKit
/-- A comparison that answers -1, 0 or 1 by a total order. -/
structure IsCmp {α : Type} (c : α → α → Int) : Prop where
  zero : ∀ a b, c a b = 0 ↔ a = b
  anti : ∀ a b, c b a = - c a b
  rng : ∀ a b, -1 ≤ c a b ∧ c a b ≤ 1
  trans : ∀ a b d, c a b ≤ 0 → c b d ≤ 0 → c a d ≤ 0
theorem IsCmp.lt_le {α : Type} {c : α → α → Int} (h : IsCmp c) {a b d : α} (h1 : c a b < 0) (h2 : c b d ≤ 0) : c a d < 0 := by
  have h3 := h.trans a b d (by omega) h2
  by_cases h4 : c a d = 0
  · have := (h.zero a d).1 h4
    subst this
    have := h.anti a b
    omega
  · omega
theorem IsCmp.le_lt {α : Type} {c : α → α → Int} (h : IsCmp c) {a b d : α} (h1 : c a b ≤ 0) (h2 : c b d < 0) : c a d < 0 := by
  have h3 := h.trans a b d h1 (by omega)
  by_cases h4 : c a d = 0
  · have := (h.zero a d).1 h4
    subst this
    have := h.anti a b
    omega
  · omega
def u8Cmp (a b : UInt8) : Int := if a.toNat < b.toNat then -1 else if b.toNat < a.toNat then 1 else 0
theorem u8_lt {a b : UInt8} : a < b ↔ a.toNat < b.toNat := UInt8.lt_iff_toNat_lt
theorem isCmp_u8 : IsCmp u8Cmp where
  zero a b := by
    unfold u8Cmp; rw [← UInt8.toNat_inj]
    split
    · omega
    · split <;> omega
  anti a b := by
    unfold u8Cmp
    split
    · rw [if_neg (by omega)]
    · split <;> rfl
  rng a b := by unfold u8Cmp; split <;> (try split) <;> omega
  trans a b d := by
    unfold u8Cmp
    intro h1 h2
    have h3 : ¬ b.toNat < a.toNat := by
      intro h
      rw [if_neg (by omega), if_pos h] at h1
      omega
    have h4 : ¬ d.toNat < b.toNat := by
      intro h
      rw [if_neg (by omega), if_pos h] at h2
      omega
    split
    · omega
    · rw [if_neg (by omega)]; omega
theorem isCmp_int : IsCmp Lib.compareInt where
  zero a b := by unfold Lib.compareInt; split <;> (try split) <;> omega
  anti a b := by
    unfold Lib.compareInt
    by_cases h1 : a < b
    · simp [h1, show ¬ b < a by omega]
    · by_cases h2 : b < a
      · simp [h1, h2]
      · simp [h1, h2]
  rng a b := by unfold Lib.compareInt; split <;> (try split) <;> omega
  trans a b d := by
    unfold Lib.compareInt
    intro h1 h2
    split at h1 <;> split at h2 <;> split <;> (try split at h1) <;> (try split at h2) <;> (try split) <;> omega
def listCmp {α : Type} (c : α → α → Int) : List α → List α → Int
  | [], [] => 0
  | [], _ :: _ => -1
  | _ :: _, [] => 1
  | a :: s, b :: t => if c a b ≠ 0 then c a b else listCmp c s t
def pairCmp {α β : Type} (c : α → α → Int) (d : β → β → Int) (a b : α × β) : Int := if c a.1 b.1 ≠ 0 then c a.1 b.1 else d a.2 b.2
section
variable {α β : Type} {c : α → α → Int} {d : β → β → Int}
theorem IsCmp.self (h : IsCmp c) (a : α) : c a a = 0 := (h.zero a a).2 rfl
theorem isCmp_pair (hc : IsCmp c) (hd : IsCmp d) : IsCmp (pairCmp c d) where
  zero a b := by
    unfold pairCmp
    split
    · rename_i h
      exact ⟨fun e => absurd e h, fun e => absurd (by rw [e]; exact hc.self _) h⟩
    · rename_i h
      have h1 : c a.1 b.1 = 0 := by simpa using h
      rw [hd.zero]
      constructor
      · intro e; exact Prod.ext ((hc.zero _ _).1 h1) e
      · intro e; rw [e]
  anti a b := by
    unfold pairCmp
    rw [hc.anti a.1 b.1]
    by_cases h : c a.1 b.1 = 0
    · rw [if_neg (by omega), if_neg (by omega), hd.anti]
    · rw [if_pos (by omega), if_pos h]
  rng a b := by
    unfold pairCmp
    split
    · exact hc.rng _ _
    · exact hd.rng _ _
  trans a b e := by
    unfold pairCmp
    intro h1 h2
    by_cases e1 : c a.1 b.1 = 0
    · rw [if_neg (by simpa using e1)] at h1
      have e1' := (hc.zero _ _).1 e1
      rw [e1']
      by_cases e2 : c b.1 e.1 = 0
      · rw [if_neg (by simpa using e2)] at h2 ⊢
        exact hd.trans _ _ _ h1 h2
      · rw [if_pos e2] at h2 ⊢
        exact h2
    · rw [if_pos e1] at h1
      by_cases e2 : c b.1 e.1 = 0
      · have e2' := (hc.zero _ _).1 e2
        rw [← e2', if_pos e1]
        exact h1
      · rw [if_pos e2] at h2
        have := hc.lt_le (a := a.1) (b := b.1) (d := e.1) (by omega) h2
        rw [if_pos (by omega)]
        omega
theorem listCmp_self (hc : IsCmp c) : ∀ a : List α, listCmp c a a = 0
  | [] => rfl
  | x :: a => by unfold listCmp; rw [if_neg (by simpa using hc.self x)]; exact listCmp_self hc a
theorem listCmp_zero (hc : IsCmp c) : ∀ a b : List α, listCmp c a b = 0 → a = b
  | [], [], _ => rfl
  | [], _ :: _, h => by simp [listCmp] at h
  | _ :: _, [], h => by simp [listCmp] at h
  | x :: a, y :: b, h => by
    unfold listCmp at h
    split at h
    · rename_i h1; exact absurd h h1
    · rename_i h1
      have h1 : c x y = 0 := by simpa using h1
      rw [(hc.zero _ _).1 h1, listCmp_zero hc a b h]
theorem listCmp_anti (hc : IsCmp c) : ∀ a b : List α, listCmp c b a = - listCmp c a b
  | [], [] => rfl
  | [], _ :: _ => rfl
  | _ :: _, [] => rfl
  | x :: a, y :: b => by
    unfold listCmp
    rw [hc.anti x y]
    by_cases h : c x y = 0
    · rw [if_neg (by omega), if_neg (by omega), listCmp_anti hc a b]
    · rw [if_pos (by omega), if_pos h]
theorem listCmp_rng (hc : IsCmp c) : ∀ a b : List α, -1 ≤ listCmp c a b ∧ listCmp c a b ≤ 1
  | [], [] => by simp [listCmp]
  | [], _ :: _ => by simp [listCmp]
  | _ :: _, [] => by simp [listCmp]
  | x :: a, y :: b => by
    unfold listCmp
    split
    · exact hc.rng _ _
    · exact listCmp_rng hc a b
theorem listCmp_trans (hc : IsCmp c) : ∀ a b e : List α, listCmp c a b ≤ 0 → listCmp c b e ≤ 0 → listCmp c a e ≤ 0
  | [], _, [], _, _ => by simp [listCmp]
  | [], _, _ :: _, _, _ => by simp [listCmp]
  | _ :: _, [], _, h, _ => by simp [listCmp] at h
  | _ :: _, _ :: _, [], _, h => by simp [listCmp] at h
  | x :: a, y :: b, z :: e, h1, h2 => by
    unfold listCmp at h1 h2 ⊢
    by_cases e1 : c x y = 0
    · rw [if_neg (by simpa using e1)] at h1
      rw [(hc.zero _ _).1 e1]
      by_cases e2 : c y z = 0
      · rw [if_neg (by simpa using e2)] at h2 ⊢
        exact listCmp_trans hc a b e h1 h2
      · rw [if_pos e2] at h2 ⊢
        exact h2
    · rw [if_pos e1] at h1
      by_cases e2 : c y z = 0
      · rw [← (hc.zero _ _).1 e2, if_pos e1]
        exact h1
      · rw [if_pos e2] at h2
        have := hc.lt_le (a := x) (b := y) (d := z) (by omega) h2
        rw [if_pos (by omega)]
        omega
theorem isCmp_list (hc : IsCmp c) : IsCmp (listCmp c) where
  zero a b := ⟨listCmp_zero hc a b, fun e => e ▸ listCmp_self hc a⟩
  anti := listCmp_anti hc
  rng := listCmp_rng hc
  trans := listCmp_trans hc
/-- What begins with a comes after it, or is it. -/
theorem listCmp_pre (hc : IsCmp c) : ∀ a t : List α, listCmp c a (a ++ t) ≤ 0
  | [], [] => by simp [listCmp]
  | [], _ :: _ => by simp [listCmp]
  | x :: a, t => by
    rw [List.cons_append]
    unfold listCmp
    rw [if_neg (by simpa using hc.self x)]
    exact listCmp_pre hc a t
/-- What begins with a comes before all that comes after a and does not begin with it. -/
theorem listCmp_near (hc : IsCmp c) : ∀ a t r : List α, listCmp c a r ≤ 0 → ¬ a <+: r → listCmp c (a ++ t) r < 0
  | [], _, r, _, hp => absurd (List.nil_prefix) hp
  | _ :: _, _, [], h, _ => by simp [listCmp] at h
  | x :: a, t, y :: r, h, hp => by
    rw [List.cons_append]
    unfold listCmp at h ⊢
    by_cases e1 : c x y = 0
    · rw [if_neg (by simpa using e1)] at h ⊢
      have := (hc.zero _ _).1 e1
      subst this
      exact listCmp_near hc a t r h (fun ⟨u, hu⟩ => hp ⟨u, by rw [List.cons_append, hu]⟩)
    · rw [if_pos e1] at h ⊢
      omega
end
theorem bytes_cmp : ∀ a b : Bs, Lib.compareBytes a b = listCmp u8Cmp a b
  | [], [] => rfl
  | [], _ :: _ => rfl
  | _ :: _, [] => rfl
  | x :: a, y :: b => by
    have ih := bytes_cmp a b
    unfold Lib.compareBytes listCmp
    by_cases h1 : x < y
    · rw [if_pos h1, show u8Cmp x y = -1 by unfold u8Cmp; rw [if_pos (u8_lt.1 h1)]]; rfl
    · rw [if_neg h1]
      by_cases h2 : y < x
      · rw [if_pos h2, show u8Cmp x y = 1 by unfold u8Cmp; rw [if_neg (fun h => h1 (u8_lt.2 h)), if_pos (u8_lt.1 h2)]]; rfl
      · rw [if_neg h2, show u8Cmp x y = 0 by unfold u8Cmp; rw [if_neg (fun h => h1 (u8_lt.2 h)), if_neg (fun h => h2 (u8_lt.2 h))], ih]; rfl
theorem isCmp_bytes : IsCmp Lib.compareBytes := by
  have h : Lib.compareBytes = listCmp u8Cmp := by funext a b; exact bytes_cmp a b
  rw [h]
  exact isCmp_list isCmp_u8
/-- Two steps, compared. -/
def cmpS : Bs × Int → Bs × Int → Int := pairCmp Lib.compareBytes Lib.compareInt
theorem isCmp_S : IsCmp cmpS := isCmp_pair isCmp_bytes isCmp_int
/-- A path's steps, read. -/
def keysP (p : Bs) : List (Bs × Int) := (cutP p).map readR
def cmpV (p q : Bs) : Int := listCmp cmpS (keysP p) (keysP q)
def cmpR (p q : Bs) : Int := if bothE p q = 0 then cmpV p q else 0

/-! ### A step is told by its name and its index -/
theorem num_inj : ∀ {d e : Bs}, digOk d = true → digOk e = true → numOf d 0 = numOf e 0 → d = e := by
  intro d e hd he h
  obtain ⟨⟨d1, d2⟩, d3, d4⟩ := digOk_all hd
  obtain ⟨⟨e1, e2⟩, e3, e4⟩ := digOk_all he
  have hb : ∀ c : UInt8, isD c = true → 48 ≤ c.toNat ∧ c.toNat ≤ 57 := fun c hc => by simpa [isD] using hc
  have h48 : ∀ c : UInt8, c.toNat = 48 ↔ c = 48 := fun c => by rw [← UInt8.toNat_inj]; simp
  have inj : ∀ a b : UInt8, a.toNat = b.toNat → a = b := fun a b h => UInt8.toNat_inj.1 h
  rcases d with _ | ⟨a1, _ | ⟨a2, _ | ⟨a3, _ | ⟨a4, _ | ⟨a5, d⟩⟩⟩⟩⟩ <;> (try (simp at d1; done)) <;> (try (simp at d2; done)) <;>
  rcases e with _ | ⟨b1, _ | ⟨b2, _ | ⟨b3, _ | ⟨b4, _ | ⟨b5, e⟩⟩⟩⟩⟩ <;> (try (simp at e1; done)) <;> (try (simp at e2; done))
  all_goals
    simp only [List.mem_cons, List.not_mem_nil, or_false, forall_eq_or_imp, forall_eq] at d4 e4
    simp only [List.length_cons, List.length_nil, List.head?_cons, Option.some.injEq, ne_eq, ← h48] at d3 e3
    simp only [numOf] at h
    simp only [List.cons.injEq, and_true, reduceCtorEq]
    (try have p1 := hb a1 (by first | exact d4 | exact d4.1))
    (try have p2 := hb a2 (by first | exact d4.2 | exact d4.2.1))
    (try have p3 := hb a3 (by first | exact d4.2.2 | exact d4.2.2.1))
    (try have p4 := hb a4 d4.2.2.2)
    (try have q1 := hb b1 (by first | exact e4 | exact e4.1))
    (try have q2 := hb b2 (by first | exact e4.2 | exact e4.2.1))
    (try have q3 := hb b3 (by first | exact e4.2.2 | exact e4.2.2.1))
    (try have q4 := hb b4 e4.2.2.2)
    first
      | omega
      | exact inj _ _ (by omega)
      | exact ⟨inj _ _ (by omega), inj _ _ (by omega)⟩
      | exact ⟨inj _ _ (by omega), inj _ _ (by omega), inj _ _ (by omega)⟩
      | exact ⟨inj _ _ (by omega), inj _ _ (by omega), inj _ _ (by omega), inj _ _ (by omega)⟩
theorem readR_inj {x y : Bs} (hx : stepOk x = true) (hy : stepOk y = true) (h : readR x = readR y) : x = y := by
  unfold stepOk at hx hy
  obtain ⟨p, hp⟩ := Option.isSome_iff_exists.1 hx
  obtain ⟨q, hq⟩ := Option.isSome_iff_exists.1 hy
  rw [readR_some hp, readR_some hq] at h
  subst h
  obtain ⟨-, h1⟩ := stepOf_some hp
  obtain ⟨-, h2⟩ := stepOf_some hq
  rcases h1 with ⟨e1, f1⟩ | ⟨d, e1, hd, f1⟩ <;> rcases h2 with ⟨e2, f2⟩ | ⟨d', e2, hd', f2⟩
  · rw [e1, e2]
  · omega
  · omega
  · rw [e1, e2, num_inj hd hd' (by omega)]
theorem map_inj {a b : List Bs} (ha : ∀ x ∈ a, stepOk x = true) (hb : ∀ x ∈ b, stepOk x = true) (h : a.map readR = b.map readR) : a = b := by
  induction a generalizing b with
  | nil => cases b with
    | nil => rfl
    | cons y b => simp at h
  | cons x a ih => cases b with
    | nil => simp at h
    | cons y b =>
      simp only [List.map_cons, List.cons.injEq] at h
      rw [readR_inj (ha x (by simp)) (hb y (by simp)) h.1, ih (fun x hx => ha x (List.mem_cons_of_mem _ hx)) (fun x hx => hb x (List.mem_cons_of_mem _ hx)) h.2]
/-- As the reference compares: at the first step that differs. -/
theorem cmp_shared : ∀ {a b : List Bs}, (∀ x ∈ a, stepOk x = true) → (∀ x ∈ b, stepOk x = true) →
    ((sharedN a b = a.length ∨ sharedN a b = b.length) → listCmp cmpS (a.map readR) (b.map readR) = if a.length < b.length then -1 else if b.length < a.length then 1 else 0) ∧
    (∀ (h1 : sharedN a b < a.length) (h2 : sharedN a b < b.length), listCmp cmpS (a.map readR) (b.map readR) = cmpS (readR a[sharedN a b]) (readR b[sharedN a b]))
  | [], [], _, _ => ⟨fun _ => rfl, fun h => by simp at h⟩
  | [], _ :: _, _, _ => ⟨fun _ => by simp [listCmp], fun h => by simp at h⟩
  | _ :: _, [], _, _ => ⟨fun _ => by simp [listCmp], fun _ h => by simp at h⟩
  | x :: a, y :: b, ha, hb => by
    have ih := cmp_shared (a := a) (b := b) (fun x hx => ha x (List.mem_cons_of_mem _ hx)) (fun x hx => hb x (List.mem_cons_of_mem _ hx))
    by_cases hxy : x = y
    · subst hxy
      have hs : sharedN (x :: a) (x :: b) = sharedN a b + 1 := by conv => lhs; unfold sharedN; rw [if_pos rfl]
      have hl : listCmp cmpS ((x :: a).map readR) ((x :: b).map readR) = listCmp cmpS (a.map readR) (b.map readR) := by
        rw [List.map_cons, List.map_cons]
        conv => lhs; unfold listCmp; rw [if_neg (by simpa using isCmp_S.self (readR x))]
      rw [hl]
      refine ⟨fun h => ?_, fun h1 h2 => ?_⟩
      · rw [ih.1 (by rw [hs] at h; simpa using h)]
        simp
      · rw [hs] at h1 h2
        rw [ih.2 (by simpa using h1) (by simpa using h2)]
        simp only [hs, List.getElem_cons_succ]
    · have hs : sharedN (x :: a) (y :: b) = 0 := by unfold sharedN; rw [if_neg hxy]
      refine ⟨fun h => by rw [hs] at h; simp at h, fun h1 h2 => ?_⟩
      have hne : cmpS (readR x) (readR y) ≠ 0 := fun e => hxy (readR_inj (ha x (by simp)) (hb y (by simp)) ((isCmp_S.zero _ _).1 e))
      simp only [hs, List.getElem_cons_zero, List.map_cons]
      unfold listCmp
      rw [if_pos hne]
/-- Strings less, equal, greater. -/
theorem less_cmp : ∀ a b : Bs, (Op.bytesLess a b = true ↔ Lib.compareBytes a b = -1)
  | [], [] => by simp [Op.bytesLess, Lib.compareBytes]
  | [], _ :: _ => by simp [Op.bytesLess, Lib.compareBytes]
  | _ :: _, [] => by simp [Op.bytesLess, Lib.compareBytes]
  | x :: a, y :: b => by
    have ih := less_cmp a b
    unfold Op.bytesLess Lib.compareBytes
    by_cases h1 : x < y
    · simp [h1]
    · by_cases h2 : y < x
      · have h3 : x ≠ y := fun e => by subst e; exact UInt8.lt_irrefl x h2
        simp [h1, h2, h3]
      · have h3 : x = y := by
          rw [u8_lt] at h1 h2
          exact UInt8.toNat_inj.1 (by omega)
        simp [h3, ih]
end Go.Rel
