/- Texts put together: VOrd, VLaws, VBack. -/
import Derived.Test.YtjgampkpfjbmdaaDoorPack19
import Derived.Test.YtjgampkpfjbmdaaDoorPack09
import Derived.Test.YtjgampkpfjbmdaaDoorPack13
import Derived.Test.YtjgampkpfjbmdaaDoorPack17
import Derived.Test.YtjgampkpfjbmdaaDoorPack15
section
/- A total order on strings of bytes (plain Lean, no program); from XLabQ. -/
namespace Go.Rel
open Go.RowKit
/-- A comparison that answers -1, 0 or 1 by a total order. -/
structure IsCmp {α : Type} (c : α → α → Int) : Prop where
  zero : ∀ a b, c a b = 0 ↔ a = b
  anti : ∀ a b, c b a = - c a b
  rng : ∀ a b, -1 ≤ c a b ∧ c a b ≤ 1
  trans : ∀ a b d, c a b ≤ 0 → c b d ≤ 0 → c a d ≤ 0
theorem IsCmp.lt_le {α : Type} {c : α → α → Int} (h : IsCmp c) {a b d : α} (h1 : c a b < 0) (h2 : c b d ≤ 0) : c a d < 0 := by
  have h3 := h.trans a b d (by omega) h2
  by_cases h4 : c a d = 0
  · have := (h.zero a d).1 h4
    subst this
    have := h.anti a b
    omega
  · omega
theorem IsCmp.le_lt {α : Type} {c : α → α → Int} (h : IsCmp c) {a b d : α} (h1 : c a b ≤ 0) (h2 : c b d < 0) : c a d < 0 := by
  have h3 := h.trans a b d h1 (by omega)
  by_cases h4 : c a d = 0
  · have := (h.zero a d).1 h4
    subst this
    have := h.anti a b
    omega
  · omega
def u8Cmp (a b : UInt8) : Int := if a.toNat < b.toNat then -1 else if b.toNat < a.toNat then 1 else 0
theorem u8_lt {a b : UInt8} : a < b ↔ a.toNat < b.toNat := UInt8.lt_iff_toNat_lt
theorem isCmp_u8 : IsCmp u8Cmp where
  zero a b := by
    unfold u8Cmp; rw [← UInt8.toNat_inj]
    split
    · omega
    · split <;> omega
  anti a b := by
    unfold u8Cmp
    split
    · rw [if_neg (by omega)]
    · split <;> rfl
  rng a b := by unfold u8Cmp; split <;> (try split) <;> omega
  trans a b d := by
    unfold u8Cmp
    intro h1 h2
    have h3 : ¬ b.toNat < a.toNat := by
      intro h
      rw [if_neg (by omega), if_pos h] at h1
      omega
    have h4 : ¬ d.toNat < b.toNat := by
      intro h
      rw [if_neg (by omega), if_pos h] at h2
      omega
    split
    · omega
    · rw [if_neg (by omega)]; omega
theorem isCmp_int : IsCmp Lib.compareInt where
  zero a b := by unfold Lib.compareInt; split <;> (try split) <;> omega
  anti a b := by
    unfold Lib.compareInt
    by_cases h1 : a < b
    · simp [h1, show ¬ b < a by omega]
    · by_cases h2 : b < a
      · simp [h1, h2]
      · simp [h1, h2]
  rng a b := by unfold Lib.compareInt; split <;> (try split) <;> omega
  trans a b d := by
    unfold Lib.compareInt
    intro h1 h2
    split at h1 <;> split at h2 <;> split <;> (try split at h1) <;> (try split at h2) <;> (try split) <;> omega
def listCmp {α : Type} (c : α → α → Int) : List α → List α → Int
  | [], [] => 0
  | [], _ :: _ => -1
  | _ :: _, [] => 1
  | a :: s, b :: t => if c a b ≠ 0 then c a b else listCmp c s t
def pairCmp {α β : Type} (c : α → α → Int) (d : β → β → Int) (a b : α × β) : Int := if c a.1 b.1 ≠ 0 then c a.1 b.1 else d a.2 b.2
section
variable {α β : Type} {c : α → α → Int} {d : β → β → Int}
theorem IsCmp.self (h : IsCmp c) (a : α) : c a a = 0 := (h.zero a a).2 rfl
theorem isCmp_pair (hc : IsCmp c) (hd : IsCmp d) : IsCmp (pairCmp c d) where
  zero a b := by
    unfold pairCmp
    split
    · rename_i h
      exact ⟨fun e => absurd e h, fun e => absurd (by rw [e]; exact hc.self _) h⟩
    · rename_i h
      have h1 : c a.1 b.1 = 0 := by simpa using h
      rw [hd.zero]
      constructor
      · intro e; exact Prod.ext ((hc.zero _ _).1 h1) e
      · intro e; rw [e]
  anti a b := by
    unfold pairCmp
    rw [hc.anti a.1 b.1]
    by_cases h : c a.1 b.1 = 0
    · rw [if_neg (by omega), if_neg (by omega), hd.anti]
    · rw [if_pos (by omega), if_pos h]
  rng a b := by
    unfold pairCmp
    split
    · exact hc.rng _ _
    · exact hd.rng _ _
  trans a b e := by
    unfold pairCmp
    intro h1 h2
    by_cases e1 : c a.1 b.1 = 0
    · rw [if_neg (by simpa using e1)] at h1
      have e1' := (hc.zero _ _).1 e1
      rw [e1']
      by_cases e2 : c b.1 e.1 = 0
      · rw [if_neg (by simpa using e2)] at h2 ⊢
        exact hd.trans _ _ _ h1 h2
      · rw [if_pos e2] at h2 ⊢
        exact h2
    · rw [if_pos e1] at h1
      by_cases e2 : c b.1 e.1 = 0
      · have e2' := (hc.zero _ _).1 e2
        rw [← e2', if_pos e1]
        exact h1
      · rw [if_pos e2] at h2
        have := hc.lt_le (a := a.1) (b := b.1) (d := e.1) (by omega) h2
        rw [if_pos (by omega)]
        omega
theorem listCmp_self (hc : IsCmp c) : ∀ a : List α, listCmp c a a = 0
  | [] => rfl
  | x :: a => by unfold listCmp; rw [if_neg (by simpa using hc.self x)]; exact listCmp_self hc a
theorem listCmp_zero (hc : IsCmp c) : ∀ a b : List α, listCmp c a b = 0 → a = b
  | [], [], _ => rfl
  | [], _ :: _, h => by simp [listCmp] at h
  | _ :: _, [], h => by simp [listCmp] at h
  | x :: a, y :: b, h => by
    unfold listCmp at h
    split at h
    · rename_i h1; exact absurd h h1
    · rename_i h1
      have h1 : c x y = 0 := by simpa using h1
      rw [(hc.zero _ _).1 h1, listCmp_zero hc a b h]
theorem listCmp_anti (hc : IsCmp c) : ∀ a b : List α, listCmp c b a = - listCmp c a b
  | [], [] => rfl
  | [], _ :: _ => rfl
  | _ :: _, [] => rfl
  | x :: a, y :: b => by
    unfold listCmp
    rw [hc.anti x y]
    by_cases h : c x y = 0
    · rw [if_neg (by omega), if_neg (by omega), listCmp_anti hc a b]
    · rw [if_pos (by omega), if_pos h]
theorem listCmp_rng (hc : IsCmp c) : ∀ a b : List α, -1 ≤ listCmp c a b ∧ listCmp c a b ≤ 1
  | [], [] => by simp [listCmp]
  | [], _ :: _ => by simp [listCmp]
  | _ :: _, [] => by simp [listCmp]
  | x :: a, y :: b => by
    unfold listCmp
    split
    · exact hc.rng _ _
    · exact listCmp_rng hc a b
theorem listCmp_trans (hc : IsCmp c) : ∀ a b e : List α, listCmp c a b ≤ 0 → listCmp c b e ≤ 0 → listCmp c a e ≤ 0
  | [], _, [], _, _ => by simp [listCmp]
  | [], _, _ :: _, _, _ => by simp [listCmp]
  | _ :: _, [], _, h, _ => by simp [listCmp] at h
  | _ :: _, _ :: _, [], _, h => by simp [listCmp] at h
  | x :: a, y :: b, z :: e, h1, h2 => by
    unfold listCmp at h1 h2 ⊢
    by_cases e1 : c x y = 0
    · rw [if_neg (by simpa using e1)] at h1
      rw [(hc.zero _ _).1 e1]
      by_cases e2 : c y z = 0
      · rw [if_neg (by simpa using e2)] at h2 ⊢
        exact listCmp_trans hc a b e h1 h2
      · rw [if_pos e2] at h2 ⊢
        exact h2
    · rw [if_pos e1] at h1
      by_cases e2 : c y z = 0
      · rw [← (hc.zero _ _).1 e2, if_pos e1]
        exact h1
      · rw [if_pos e2] at h2
        have := hc.lt_le (a := x) (b := y) (d := z) (by omega) h2
        rw [if_pos (by omega)]
        omega
theorem isCmp_list (hc : IsCmp c) : IsCmp (listCmp c) where
  zero a b := ⟨listCmp_zero hc a b, fun e => e ▸ listCmp_self hc a⟩
  anti := listCmp_anti hc
  rng := listCmp_rng hc
  trans := listCmp_trans hc
/-- What begins with a comes after it, or is it. -/
theorem listCmp_pre (hc : IsCmp c) : ∀ a t : List α, listCmp c a (a ++ t) ≤ 0
  | [], [] => by simp [listCmp]
  | [], _ :: _ => by simp [listCmp]
  | x :: a, t => by
    rw [List.cons_append]
    unfold listCmp
    rw [if_neg (by simpa using hc.self x)]
    exact listCmp_pre hc a t
/-- What begins with a comes before all that comes after a and does not begin with it. -/
theorem listCmp_near (hc : IsCmp c) : ∀ a t r : List α, listCmp c a r ≤ 0 → ¬ a <+: r → listCmp c (a ++ t) r < 0
  | [], _, r, _, hp => absurd (List.nil_prefix) hp
  | _ :: _, _, [], h, _ => by simp [listCmp] at h
  | x :: a, t, y :: r, h, hp => by
    rw [List.cons_append]
    unfold listCmp at h ⊢
    by_cases e1 : c x y = 0
    · rw [if_neg (by simpa using e1)] at h ⊢
      have := (hc.zero _ _).1 e1
      subst this
      exact listCmp_near hc a t r h (fun ⟨u, hu⟩ => hp ⟨u, by rw [List.cons_append, hu]⟩)
    · rw [if_pos e1] at h ⊢
      omega
end
theorem bytes_cmp : ∀ a b : Bs, Lib.compareBytes a b = listCmp u8Cmp a b
  | [], [] => rfl
  | [], _ :: _ => rfl
  | _ :: _, [] => rfl
  | x :: a, y :: b => by
    have ih := bytes_cmp a b
    unfold Lib.compareBytes listCmp
    by_cases h1 : x < y
    · rw [if_pos h1, show u8Cmp x y = -1 by unfold u8Cmp; rw [if_pos (u8_lt.1 h1)]]; rfl
    · rw [if_neg h1]
      by_cases h2 : y < x
      · rw [if_pos h2, show u8Cmp x y = 1 by unfold u8Cmp; rw [if_neg (fun h => h1 (u8_lt.2 h)), if_pos (u8_lt.1 h2)]]; rfl
      · rw [if_neg h2, show u8Cmp x y = 0 by unfold u8Cmp; rw [if_neg (fun h => h1 (u8_lt.2 h)), if_neg (fun h => h2 (u8_lt.2 h))], ih]; rfl
theorem isCmp_bytes : IsCmp Lib.compareBytes := by
  have h : Lib.compareBytes = listCmp u8Cmp := by funext a b; exact bytes_cmp a b
  rw [h]
  exact isCmp_list isCmp_u8
end Go.Rel
end
section
/- What the laws on values ask (plain Lean, no program). -/
namespace Go.Rel
open Go.RowKit
theorem partsL_mem {l : List Tree} {x : Tree} (h : x ∈ l) : partsT x ≤ partsL l := by
  induction l with
  | nil => simp at h
  | cons t r ih =>
    simp only [partsL]
    rcases List.mem_cons.1 h with rfl | h
    · omega
    · have := ih h; omega
theorem deepL_mem {l : List Tree} {x : Tree} (h : x ∈ l) : 1 + deepT x ≤ deepL l := by
  induction l with
  | nil => simp at h
  | cons t r ih =>
    simp only [deepL]
    rcases List.mem_cons.1 h with rfl | h
    · omega
    · have := ih h; omega
theorem fitL_of {l : List Tree} {d : Nat} (h : ∀ x ∈ l, fitT x d = true) : fitL l d = true := by
  induction l with
  | nil => rfl
  | cons x r ih =>
    simp only [fitL, Bool.and_eq_true]
    exact ⟨h x (by simp), ih fun y hy => h y (by simp [hy])⟩
theorem deep_pos (T : Tree) : 1 ≤ deepT T := by
  cases T with
  | node k q t s kids =>
    unfold deepT
    split
    · exact deepL_pos kids
    · exact Nat.le_refl _
theorem okStr_size {s : ByteArray} (h : okStr s = true) : s.size ≤ 60 := by
  unfold okStr at h
  simp only [Bool.and_eq_true, decide_eq_true_eq] at h
  exact h.1
theorem fine_fit : ∀ (d : Nat) (T : Tree), deepT T ≤ d → partsT T ≤ 150 → fineT T = true → fitT T d = true
  | 0, T, h, _, _ => by have := deep_pos T; omega
  | d + 1, .node k q t s kids, h, hp, hf => by
    rw [fitT_succ]
    unfold deepT at h
    unfold partsT at hp
    rcases fine_cases hf with ⟨-, -, -, h2, rfl⟩ | ⟨-, -, h2, rfl⟩ | ⟨-, -, -, rfl, h2⟩ | ⟨rfl, -, -, h2, h3⟩
    · rw [h2]; rfl
    · rw [h2]; rfl
    · have := okStr_size h2
      rw [decide_eq_true (show s.size ≤ 200 by omega)]; rfl
    · rw [if_pos rfl] at h hp
      have hl := partsL_len kids
      rw [h2, decide_eq_true (show kids.length ≤ 150 by omega), fitL_of fun x hx => fine_fit d x ?_ ?_ (fineL_mem h3 x hx)]
      · rfl
      · have := deepL_mem hx; omega
      · have := partsL_mem hx; omega
/-- A valid value. -/
def Valid (T : Tree) : Prop := partsT T ≤ 100 ∧ deepT T ≤ 6 ∧ fineT T = true
theorem Valid.fit {T : Tree} (h : Valid T) : fitT T 10 = true := fine_fit 10 T (by have := h.2.1; omega) (by have := h.1; omega) h.2.2
theorem Valid.chk {T : Tree} (h : Valid T) : chkT T = 0 := by
  unfold chkT
  rw [w64_small (by have := h.1; omega), if_neg (by have := h.1; have := h.2.1; omega), if_pos h.2.2]
theorem Valid.kids {q : Rat2} {t : Bool} {s : ByteArray} {kids : List Tree} (h : Valid (.node 4 q t s kids)) : ∀ x ∈ kids, Valid x := by
  obtain ⟨h1, h2, h3⟩ := h
  intro x hx
  unfold partsT at h1
  unfold deepT at h2
  rw [if_pos rfl] at h1 h2
  have := partsL_mem hx
  have := deepL_mem hx
  rcases fine_cases h3 with ⟨h, -⟩ | ⟨h, -⟩ | ⟨h, -⟩ | ⟨-, -, -, -, h⟩
  · omega
  · omega
  · omega
  · exact ⟨by omega, by omega, fineL_mem h x hx⟩
theorem valid_of {T : Tree} {d : Nat} (hf : fitT T d = true) (h : chkT T = 0) : Valid T := valid_parts hf h
theorem fineL_of {l : List Tree} (h : ∀ x ∈ l, fineT x = true) : fineL l = true := by
  induction l with
  | nil => rfl
  | cons x r ih => simp only [fineL, Bool.and_eq_true]; exact ⟨h x (by simp), ih fun y hy => h y (by simp [hy])⟩
theorem valid_list {l : List Tree} (h1 : 1 + partsL l ≤ 100) (h2 : deepL l ≤ 6) (h3 : fineL l = true) : Valid (tList l) := by
  refine ⟨?_, ?_, ?_⟩
  · unfold tList partsT; rw [if_pos rfl]; exact h1
  · unfold tList deepT; rw [if_pos rfl]; exact h2
  · unfold tList fineT; rw [if_neg (by decide), if_neg (by decide), if_neg (by decide), if_pos rfl, h3]; rfl
theorem valid_str {s : ByteArray} (h : okStr s = true) : Valid (tStr s) := by
  refine ⟨?_, ?_, ?_⟩
  · unfold tStr partsT; simp
  · unfold tStr deepT; simp
  · unfold tStr fineT; rw [if_neg (by decide), if_neg (by decide), if_pos rfl, h]; rfl
theorem valid_num {q : Rat2} (h : RatOk q) : Valid (tNum q) := by
  refine ⟨?_, ?_, ?_⟩
  · unfold tNum partsT; simp
  · unfold tNum deepT; simp
  · unfold tNum fineT; rw [if_pos rfl, decide_eq_true h]; rfl
/-- The forms of a valid value. -/
theorem Valid.forms {T : Tree} (h : Valid T) : (∃ q, T = tNum q ∧ RatOk q) ∨ (∃ t, T = tBool t) ∨ (∃ s, T = tStr s ∧ okStr s = true) ∨ (∃ l, T = tList l ∧ 1 + partsL l ≤ 100 ∧ deepL l ≤ 6 ∧ fineL l = true) := by
  obtain ⟨h1, h2, h3⟩ := h
  cases T with
  | node k q t s kids =>
    rcases fine_cases h3 with ⟨rfl, a, rfl, b, rfl⟩ | ⟨rfl, rfl, b, rfl⟩ | ⟨rfl, rfl, rfl, rfl, b⟩ | ⟨rfl, rfl, rfl, b, c⟩
    · rw [str_zero b]; exact .inl ⟨q, rfl, a⟩
    · rw [str_zero b]; exact .inr (.inl ⟨t, rfl⟩)
    · exact .inr (.inr (.inl ⟨s, rfl, b⟩))
    · rw [str_zero b]
      unfold partsT at h1
      unfold deepT at h2
      rw [if_pos rfl] at h1 h2
      exact .inr (.inr (.inr ⟨kids, rfl, h1, h2, c⟩))
theorem okStr_append {s u : ByteArray} (h : okStr s = true) (h' : okStr u = true) (hl : s.size + u.size ≤ 60) : okStr (s ++ u) = true := by
  unfold okStr at h h' ⊢
  simp only [Bool.and_eq_true, decide_eq_true_eq] at h h' ⊢
  refine ⟨by rw [ByteArray.size_append]; exact hl, ?_⟩
  have : (s ++ u).data.toList = s.data.toList ++ u.data.toList := by simp
  rw [this, List.all_append, h.2, h'.2]; rfl
end Go.Rel
namespace Go.Proofs.YtjgampkpfjbmdaaDoor
open Go.RowKit Go.Rel
/-! ### Sums -/
/-- What a sum without an error is. -/
theorem add_ok {T U : Tree} (hT : Valid T) (hU : Valid U) (h : addE T U = 0) :
    (∃ q r, T = tNum q ∧ U = tNum r ∧ opAddE q r = 0 ∧ addT T U = tNum (opAddR q r)) ∨ (∃ s u, T = tStr s ∧ U = tStr u ∧ s.size + u.size ≤ 60 ∧ okStr (s ++ u) = true ∧ addT T U = tStr (s ++ u)) ∨
    (∃ l m, T = tList l ∧ U = tList m ∧ 1 + partsL (l ++ m) ≤ 100 ∧ deepL (l ++ m) ≤ 6 ∧ fineL (l ++ m) = true ∧ addT T U = tList (l ++ m)) := by
  have hb : bothV T U = 0 := (bothV_r hT.chk).trans hU.chk
  by_cases hk : T.k ≠ U.k ∨ T.k = 2
  · rw [(add_kind hb hk).2] at h; exact absurd h (by decide)
  rcases hT.forms with ⟨q, rfl, -⟩ | ⟨t, rfl⟩ | ⟨s, rfl, hs⟩ | ⟨l, rfl, a1, a2, a3⟩
  · rcases hU.forms with ⟨r, rfl, -⟩ | ⟨t, rfl⟩ | ⟨u, rfl, hu⟩ | ⟨m, rfl, b1, b2, b3⟩
    · have := add_num hb
      by_cases hz : opAddE q r = 0
      · exact .inl ⟨q, r, rfl, rfl, hz, (this.2 hz).1⟩
      · exact absurd ((this.1 hz).2.symm.trans h) hz
    · exact absurd (.inl (show (1 : Int) ≠ 2 by decide)) hk
    · exact absurd (.inl (show (1 : Int) ≠ 3 by decide)) hk
    · exact absurd (.inl (show (1 : Int) ≠ 4 by decide)) hk
  · exact absurd (.inr rfl) hk
  · rcases hU.forms with ⟨r, rfl, -⟩ | ⟨t, rfl⟩ | ⟨u, rfl, hu⟩ | ⟨m, rfl, b1, b2, b3⟩
    · exact absurd (.inl (show (3 : Int) ≠ 1 by decide)) hk
    · exact absurd (.inl (show (3 : Int) ≠ 2 by decide)) hk
    · have := add_str hb
      by_cases hz : 60 < s.size + u.size
      · rw [show addE (tStr s) (tStr u) = 4 from (this.1 hz).2] at h; exact absurd h (by decide)
      · exact .inr (.inl ⟨s, u, rfl, rfl, by omega, okStr_append hs hu (by omega), (this.2 hz).1⟩)
    · exact absurd (.inl (show (3 : Int) ≠ 4 by decide)) hk
  · rcases hU.forms with ⟨r, rfl, -⟩ | ⟨t, rfl⟩ | ⟨u, rfl, hu⟩ | ⟨m, rfl, b1, b2, b3⟩
    · exact absurd (.inl (show (4 : Int) ≠ 1 by decide)) hk
    · exact absurd (.inl (show (4 : Int) ≠ 2 by decide)) hk
    · exact absurd (.inl (show (4 : Int) ≠ 3 by decide)) hk
    · have := add_list hb
      by_cases hz : 100 < 1 + partsL (l ++ m)
      · rw [show addE (tList l) (tList m) = 4 from (this.1 hz).2] at h; exact absurd h (by decide)
      · exact .inr (.inr ⟨l, m, rfl, rfl, by omega, by rw [deepL_append]; omega, by rw [fineL_append, a3, b3]; rfl, (this.2 hz).1⟩)
theorem add_valid {T U : Tree} (hT : Valid T) (hU : Valid U) (h : addE T U = 0) : Valid (addT T U) ∧ T.k = U.k ∧ T.k ≠ 2 ∧ (addT T U).k = T.k := by
  rcases add_ok hT hU h with ⟨q, r, rfl, rfl, h1, h2⟩ | ⟨s, u, rfl, rfl, h0, h1, h2⟩ | ⟨l, m, rfl, rfl, h1, h3, h4, h2⟩
  · rw [h2]; exact ⟨valid_num (add_q h1).2.2.1, rfl, (by decide : (1 : Int) ≠ 2), rfl⟩
  · rw [h2]; exact ⟨valid_str h1, rfl, (by decide : (3 : Int) ≠ 2), rfl⟩
  · rw [h2]; exact ⟨valid_list h1 h3 h4, rfl, (by decide : (4 : Int) ≠ 2), rfl⟩
theorem tNum_inj {q r : Rat2} (h : tNum q = tNum r) : q = r := by unfold tNum at h; injection h
theorem tStr_inj {q r : ByteArray} (h : tStr q = tStr r) : q = r := by unfold tStr at h; injection h
theorem tList_inj {q r : List Tree} (h : tList q = tList r) : q = r := by unfold tList at h; injection h
theorem kind_ne {a b : Tree} (h : a.k ≠ b.k) : a ≠ b := fun e => h (by rw [e])
theorem sums_assoc {a b c : Tree} (ha : Valid a) (hb : Valid b) (hc : Valid c) (e : addE a b = 0) (f : addE b c = 0) (g : addE (addT a b) c = 0) (h : addE a (addT b c) = 0) : addT (addT a b) c = addT a (addT b c) := by
  have hab := (add_valid ha hb e).1
  have hbc := (add_valid hb hc f).1
  rcases add_ok ha hb e with ⟨q, r, rfl, rfl, h1, h2⟩ | ⟨s, u, rfl, rfl, -, -, h2⟩ | ⟨l, m, rfl, rfl, -, -, -, h2⟩
  all_goals
    rcases add_ok hb hc f with ⟨q', r', k1, rfl, k3, k2⟩ | ⟨s', u', k1, rfl, -, -, k2⟩ | ⟨l', m', k1, rfl, -, -, -, k2⟩
    all_goals first | (exfalso; revert k1; simp [tNum, tStr, tList]; done) | skip
  · have := tNum_inj k1; subst this
    rw [h2] at hab g ⊢
    rw [k2] at hbc h ⊢
    rcases add_ok hab hc g with ⟨x, y, p1, p2, p4, p3⟩ | ⟨x, y, p1, -⟩ | ⟨x, y, p1, -⟩
    · have := tNum_inj p1; subst this
      have := tNum_inj p2; subst this
      rcases add_ok ha hbc h with ⟨x', y', q1, q2, q4, q3⟩ | ⟨x', y', q1, -⟩ | ⟨x', y', q1, -⟩
      · have := tNum_inj q1; subst this
        have := tNum_inj q2; subst this
        rw [p3, q3, add_assoc_v h1 k3 p4 q4]
      · exact absurd q1 (by simp [tNum, tBool, tStr, tList])
      · exact absurd q1 (by simp [tNum, tBool, tStr, tList])
    · exact absurd p1 (by simp [tNum, tBool, tStr, tList])
    · exact absurd p1 (by simp [tNum, tBool, tStr, tList])
  · have := tStr_inj k1; subst this
    rw [h2] at hab g ⊢
    rw [k2] at hbc h ⊢
    rcases add_ok hab hc g with ⟨x, y, p1, -⟩ | ⟨x, y, p1, p2, -, -, p3⟩ | ⟨x, y, p1, -⟩
    · exact absurd p1 (by simp [tNum, tBool, tStr, tList])
    · have := tStr_inj p1; subst this
      have := tStr_inj p2; subst this
      rcases add_ok ha hbc h with ⟨x', y', q1, -⟩ | ⟨x', y', q1, q2, -, -, q3⟩ | ⟨x', y', q1, -⟩
      · exact absurd q1 (by simp [tNum, tBool, tStr, tList])
      · have := tStr_inj q1; subst this
        have := tStr_inj q2; subst this
        rw [p3, q3, ByteArray.append_assoc]
      · exact absurd q1 (by simp [tNum, tBool, tStr, tList])
    · exact absurd p1 (by simp [tNum, tBool, tStr, tList])
  · have := tList_inj k1; subst this
    rw [h2] at hab g ⊢
    rw [k2] at hbc h ⊢
    rcases add_ok hab hc g with ⟨x, y, p1, -⟩ | ⟨x, y, p1, -⟩ | ⟨x, y, p1, p2, -, -, -, p3⟩
    · exact absurd p1 (by simp [tNum, tBool, tStr, tList])
    · exact absurd p1 (by simp [tNum, tBool, tStr, tList])
    · have := tList_inj p1; subst this
      have := tList_inj p2; subst this
      rcases add_ok ha hbc h with ⟨x', y', q1, -⟩ | ⟨x', y', q1, -⟩ | ⟨x', y', q1, q2, -, -, -, q3⟩
      · exact absurd q1 (by simp [tNum, tBool, tStr, tList])
      · exact absurd q1 (by simp [tNum, tBool, tStr, tList])
      · have := tList_inj q1; subst this
        have := tList_inj q2; subst this
        rw [p3, q3, List.append_assoc]
theorem len_str {s : ByteArray} (h : Valid (tStr s)) : lenN (tStr s) = s.size ∧ lenE (tStr s) = 0 := lenE_str h.chk
theorem len_list {l : List Tree} (h : Valid (tList l)) : lenN (tList l) = l.length ∧ lenE (tList l) = 0 := lenE_list h.chk
theorem at_strV {s : ByteArray} {i : Nat} (h : lenE (tStr s) = 0) (h2 : ¬ lenN (tStr s) ≤ i) : atT (tStr s) i = tStr (s.extract i (i + 1)) ∧ atE (tStr s) i = 0 := at_str h h2
theorem at_listV {l : List Tree} {i : Nat} {y : Tree} (h : lenE (tList l) = 0) (h2 : ¬ lenN (tList l) ≤ i) (hy : l[i]? = some y) : atT (tList l) i = y ∧ atE (tList l) i = 0 := at_list h h2 hy
theorem str_cut (s u : ByteArray) (i : Nat) (h : s.size ≤ i) : (s ++ u).extract i (i + 1) = u.extract (i - s.size) (i - s.size + 1) := by
  apply ByteArray.ext
  have h1 : i + 1 - s.data.size = i - s.data.size + 1 := by have : s.data.size = s.size := rfl; omega
  have h2 : s.data.extract i (i + 1) = #[] := by rw [Array.extract_eq_empty_iff]; have : s.data.size = s.size := rfl; omega
  rw [ByteArray.data_extract, ByteArray.data_append, Array.extract_append, h1, h2, ByteArray.data_extract]
  simp
theorem str_cut0 (s u : ByteArray) (i : Nat) (h : i < s.size) : (s ++ u).extract i (i + 1) = s.extract i (i + 1) := by
  apply ByteArray.ext
  simp [Array.extract_append]
  omega
theorem sums_at {a b : Tree} (ha : Valid a) (hb : Valid b) (h : addE a b = 0) (h1 : a.k ≠ 1) :
    lenE a = 0 ∧ lenE b = 0 ∧ lenE (addT a b) = 0 ∧ lenN (addT a b) = lenN a + lenN b ∧ 0 ≤ lenN a ∧ lenN a ≤ 100 ∧ (∀ i : Int, lenN a ≤ i → atT (addT a b) i = atT b (i - lenN a) ∧ atE (addT a b) i = atE b (i - lenN a)) ∧ (∀ i : Int, ¬ lenN a ≤ i → atT (addT a b) i = atT a i ∧ atE (addT a b) i = atE a i) := by
  have hab := (add_valid ha hb h).1
  rcases add_ok ha hb h with ⟨q, r, rfl, rfl, h1', h2⟩ | ⟨s, u, rfl, rfl, -, -, h2⟩ | ⟨l, m, rfl, rfl, -, -, -, h2⟩
  · exact absurd rfl h1
  · rw [h2] at hab ⊢
    obtain ⟨a1, a2⟩ := len_str ha
    obtain ⟨b1, b2⟩ := len_str hb
    obtain ⟨c1, c2⟩ := len_str hab
    have hs : (s ++ u).size = s.size + u.size := ByteArray.size_append
    have hs60 : s.size ≤ 60 := by
      rcases ha.forms with ⟨q, h, -⟩ | ⟨t, h⟩ | ⟨s', h, h'⟩ | ⟨l, h, -⟩
      · exact absurd h (by simp [tNum, tBool, tStr, tList])
      · exact absurd h (by simp [tNum, tBool, tStr, tList])
      · rw [tStr_inj h]; exact okStr_size h'
      · exact absurd h (by simp [tNum, tBool, tStr, tList])
    refine ⟨a2, b2, c2, by rw [c1, a1, b1, hs]; omega, by omega, by omega, fun i hi => ?_, fun i hi => ?_⟩
    · by_cases ho : lenN (tStr (s ++ u)) ≤ i
      · rw [(at_out c2 (.inr ho)).1, (at_out c2 (.inr ho)).2]
        rw [c1, hs] at ho
        have := at_out (T := tStr u) (i := i - lenN (tStr s)) b2 (.inr (by rw [b1, a1]; omega))
        exact ⟨this.1.symm, this.2.symm⟩
      · obtain ⟨n, rfl⟩ : ∃ n : Nat, i = n := ⟨i.toNat, by omega⟩
        have e1 := at_strV (i := n) c2 ho
        rw [c1, hs] at ho
        rw [a1] at hi ⊢
        have e2 := at_strV (i := n - s.size) b2 (show ¬ lenN (tStr u) ≤ ((n - s.size : Nat) : Int) by rw [b1]; omega)
        rw [show ((n - s.size : Nat) : Int) = (n : Int) - s.size by omega] at e2
        exact ⟨e1.1.trans ((congrArg tStr (str_cut s u n (by omega))).trans e2.1.symm), e1.2.trans e2.2.symm⟩
    · by_cases h0 : i < 0
      · rw [(at_out c2 (.inl h0)).1, (at_out c2 (.inl h0)).2, (at_out a2 (.inl h0)).1, (at_out a2 (.inl h0)).2]; exact ⟨rfl, rfl⟩
      · obtain ⟨n, rfl⟩ : ∃ n : Nat, i = n := ⟨i.toNat, by omega⟩
        have e1 := at_strV (i := n) c2 (by rw [c1, hs]; omega)
        have e2 := at_strV (i := n) a2 hi
        rw [a1] at hi
        refine ⟨e1.1.trans ((congrArg tStr ?_).trans e2.1.symm), e1.2.trans e2.2.symm⟩
        exact str_cut0 s u n (by omega)
  · rw [h2] at hab ⊢
    obtain ⟨a1, a2⟩ := len_list ha
    obtain ⟨b1, b2⟩ := len_list hb
    obtain ⟨c1, c2⟩ := len_list hab
    have hs : (l ++ m).length = l.length + m.length := List.length_append
    have hs60 : l.length ≤ 100 := by
      rcases ha.forms with ⟨q, h, -⟩ | ⟨t, h⟩ | ⟨s', h, h'⟩ | ⟨l', h, h', -⟩
      · exact absurd h (by simp [tNum, tBool, tStr, tList])
      · exact absurd h (by simp [tNum, tBool, tStr, tList])
      · exact absurd h (by simp [tNum, tBool, tStr, tList])
      · rw [tList_inj h]; have := partsL_len l'; omega
    refine ⟨a2, b2, c2, by rw [c1, a1, b1, hs]; omega, by omega, by omega, fun i hi => ?_, fun i hi => ?_⟩
    · by_cases ho : lenN (tList (l ++ m)) ≤ i
      · rw [(at_out c2 (.inr ho)).1, (at_out c2 (.inr ho)).2]
        rw [c1, hs] at ho
        have := at_out (T := tList m) (i := i - lenN (tList l)) b2 (.inr (by rw [b1, a1]; omega))
        exact ⟨this.1.symm, this.2.symm⟩
      · obtain ⟨n, rfl⟩ : ∃ n : Nat, i = n := ⟨i.toNat, by omega⟩
        rw [a1] at hi ⊢
        have ho' := ho
        rw [c1, hs] at ho'
        have hm : n - l.length < m.length := by omega
        have e1 := at_listV (i := n) (y := m[n - l.length]) c2 ho (by rw [List.getElem?_append_right (by omega), List.getElem?_eq_getElem hm])
        have e2 := at_listV (i := n - l.length) (y := m[n - l.length]) b2 (show ¬ lenN (tList m) ≤ ((n - l.length : Nat) : Int) by rw [b1]; omega) (List.getElem?_eq_getElem hm)
        rw [show ((n - l.length : Nat) : Int) = (n : Int) - l.length by omega] at e2
        exact ⟨e1.1.trans e2.1.symm, e1.2.trans e2.2.symm⟩
    · by_cases h0 : i < 0
      · rw [(at_out c2 (.inl h0)).1, (at_out c2 (.inl h0)).2, (at_out a2 (.inl h0)).1, (at_out a2 (.inl h0)).2]; exact ⟨rfl, rfl⟩
      · obtain ⟨n, rfl⟩ : ∃ n : Nat, i = n := ⟨i.toNat, by omega⟩
        have hi' := hi
        rw [a1] at hi'
        have hl : n < l.length := by omega
        have e1 := at_listV (i := n) (y := l[n]) c2 (by rw [c1, hs]; omega) (by rw [List.getElem?_append_left hl, List.getElem?_eq_getElem hl])
        have e2 := at_listV (i := n) (y := l[n]) a2 hi (List.getElem?_eq_getElem hl)
        exact ⟨e1.1.trans e2.1.symm, e1.2.trans e2.2.symm⟩

/-! ### Parts -/
/-- What a law has put together of the first i elements. -/
def sumTo (T : Tree) (i : Nat) : Tree := if T.k = 4 then tList (T.kids.take i) else tStr (T.s.extract 0 i)
/-- An element, as the law adds it. -/
def elemOf (T : Tree) (i : Nat) : Tree := if T.k = 4 then tList [atT T i] else atT T i
theorem partsL_take_le (l : List Tree) (i : Nat) : partsL (l.take i) ≤ partsL l := by
  conv => rhs; rw [← List.take_append_drop i l, partsL_append]
  omega
theorem deepL_take_le (l : List Tree) (i : Nat) : deepL (l.take i) ≤ deepL l := by
  conv => rhs; rw [← List.take_append_drop i l, deepL_append]
  omega
theorem fineL_take_ok {l : List Tree} (i : Nat) (h : fineL l = true) : fineL (l.take i) = true := fineL_of fun x hx => fineL_mem h x (List.mem_of_mem_take hx)
theorem okStr_cut {s : ByteArray} (i j : Nat) (h : okStr s = true) : okStr (s.extract i j) = true := by
  unfold okStr at h ⊢
  simp only [Bool.and_eq_true, decide_eq_true_eq, List.all_eq_true] at h ⊢
  refine ⟨by rw [ByteArray.size_extract]; omega, fun x hx => h.2 x ?_⟩
  simp only [ByteArray.data_extract, Array.toList_extract] at hx
  exact List.mem_of_mem_drop (List.mem_of_mem_take hx)
theorem parts_step {T : Tree} (h : Valid T) (hk : T.k = 3 ∨ T.k = 4) :
    lenE T = 0 ∧ 0 ≤ lenN T ∧ lenN T ≤ 100 ∧ sumTo T (lenN T).toNat = T ∧ (∀ i : Nat, Valid (sumTo T i)) ∧ ∀ i : Nat, (i : Int) < lenN T → atE T i = 0 ∧ Valid (atT T i) ∧ Valid (elemOf T i) ∧ addE (sumTo T i) (elemOf T i) = 0 ∧ addT (sumTo T i) (elemOf T i) = sumTo T (i + 1) := by
  rcases h.forms with ⟨q, rfl, -⟩ | ⟨t, rfl⟩ | ⟨s, rfl, h'⟩ | ⟨l, rfl, h1, h2, h3⟩
  · rcases hk with hk | hk <;> (simp [tNum, tBool, Tree.k] at hk)
  · rcases hk with hk | hk <;> (simp [tNum, tBool, Tree.k] at hk)
  · have e : ∀ i, sumTo (tStr s) i = tStr (s.extract 0 i) := fun i => if_neg (show ¬ (3 : Int) = 4 by decide)
    have e' : ∀ i, elemOf (tStr s) i = atT (tStr s) i := fun i => if_neg (show ¬ (3 : Int) = 4 by decide)
    obtain ⟨a1, a2⟩ := len_str h
    have h60 := okStr_size h'
    have hv : ∀ i, Valid (sumTo (tStr s) i) := fun i => by rw [e]; exact valid_str (okStr_cut 0 i h')
    refine ⟨a2, by omega, by omega, ?_, hv, fun i hi => ?_⟩
    · rw [e, a1]
      congr 1
      apply ByteArray.ext
      simp
    · have ha := at_strV (i := i) a2 (by omega)
      have hv2 : Valid (atT (tStr s) i) := by rw [show atT (tStr s) i = _ from ha.1]; exact valid_str (okStr_cut _ _ h')
      refine ⟨ha.2, hv2, by rw [e']; exact hv2, ?_⟩
      have hvi := hv i
      rw [e', e, e, show atT (tStr s) i = _ from ha.1] at *
      have hb : bothV (tStr (s.extract 0 i)) (tStr (s.extract i (i + 1))) = 0 := (bothV_r hvi.chk).trans hv2.chk
      have hadd := (add_str hb).2 (by rw [ByteArray.size_extract, ByteArray.size_extract]; omega)
      refine ⟨hadd.2, hadd.1.trans (congrArg tStr ?_)⟩
      apply ByteArray.ext
      simp
  · have e : ∀ i, sumTo (tList l) i = tList (l.take i) := fun i => if_pos rfl
    have e' : ∀ i, elemOf (tList l) i = tList [atT (tList l) i] := fun i => if_pos rfl
    obtain ⟨a1, a2⟩ := len_list h
    have h60 := partsL_len l
    have hv : ∀ i, Valid (sumTo (tList l) i) := fun i => by
      rw [e]
      have := partsL_take_le l i
      have := deepL_take_le l i
      exact valid_list (by omega) (by omega) (fineL_take_ok i h3)
    refine ⟨a2, by omega, by omega, ?_, hv, fun i hi => ?_⟩
    · rw [e, a1]; simp
    · have hil : i < l.length := by omega
      have ha := at_listV (i := i) (y := l[i]) a2 (by omega) (List.getElem?_eq_getElem hil)
      have hv2 : Valid l[i] := h.kids _ (List.getElem_mem hil)
      have hp := partsL_mem (List.getElem_mem hil)
      have hd := deepL_mem (List.getElem_mem hil)
      have hv3 : Valid (tList [l[i]]) := valid_list (by simp only [partsL]; omega) (by simp only [deepL]; omega) (by simp only [fineL, hv2.2.2]; rfl)
      rw [e', e, e, show atT (tList l) i = _ from ha.1]
      refine ⟨ha.2, hv2, hv3, ?_⟩
      have hvi := hv i
      rw [e] at hvi
      have hb : bothV (tList (l.take i)) (tList [l[i]]) = 0 := (bothV_r hvi.chk).trans hv3.chk
      have hadd := (add_list hb).2 (by rw [← take_next hil]; have := partsL_take_le l (i + 1); omega)
      exact ⟨hadd.2, hadd.1.trans (congrArg tList (take_next hil).symm)⟩
/-! ### Order -/
theorem cmpR_zero {a b : Rat2} (ha : RatOk a) (hb : RatOk b) : cmpR a b = 0 ↔ a = b := by rw [cmpR_ok ⟨ha, hb⟩]; exact cmp_eq_iff ha hb
theorem cmpR_anti {a b : Rat2} (ha : RatOk a) (hb : RatOk b) : cmpR b a = -cmpR a b := by rw [cmpR_ok ⟨ha, hb⟩, cmpR_ok ⟨hb, ha⟩]; exact sgn_swap _ _
theorem sgn_rng (x y : Int) : -1 ≤ sgn x y ∧ sgn x y ≤ 1 := by unfold sgn; repeat' split <;> omega
theorem cmpR_rng (a b : Rat2) : -1 ≤ cmpR a b ∧ cmpR a b ≤ 1 := by
  by_cases h : RatOk a ∧ RatOk b
  · rw [cmpR_ok h]; exact sgn_rng _ _
  · rw [cmpR_bad h]; decide
theorem sgn_le (x y : Int) : sgn x y ≤ 0 ↔ x ≤ y := by unfold sgn; repeat' split <;> omega
theorem cmpR_trans {a b c : Rat2} (ha : RatOk a) (hb : RatOk b) (hc : RatOk c) (h1 : cmpR a b ≤ 0) (h2 : cmpR b c ≤ 0) : cmpR a c ≤ 0 := by
  rw [cmpR_ok ⟨ha, hb⟩, sgn_le] at h1
  rw [cmpR_ok ⟨hb, hc⟩, sgn_le] at h2
  rw [cmpR_ok ⟨ha, hc⟩, sgn_le]
  have pa := (ok_low ha).1
  have pb := (ok_low hb).1
  have pc := (ok_low hc).1
  have s1 := Int.mul_le_mul_of_nonneg_right h1 (Int.le_of_lt pc)
  have s2 := Int.mul_le_mul_of_nonneg_right h2 (Int.le_of_lt pa)
  suffices H : a.n * c.d * b.d ≤ c.n * a.d * b.d from Int.le_of_mul_le_mul_right H pb
  rw [show a.n * c.d * b.d = a.n * b.d * c.d by ac_rfl, show c.n * a.d * b.d = c.n * b.d * a.d by ac_rfl]
  exact Int.le_trans s1 (by rw [show b.n * a.d * c.d = b.n * c.d * a.d by ac_rfl]; exact s2)
theorem sameB_symm (a b : Tree) : sameB b a = sameB a b := by
  by_cases h : a = b
  · rw [h]
  · rw [sameB_no h, sameB_no (Ne.symm h)]
theorem ord_anti : ∀ T U : Tree, fineT T = true → fineT U = true → ordT U T = (-(ordT T U).1, (ordT T U).2) := by
  refine Tree.ind ?_
  intro k q t s kids ih U hT hU
  obtain ⟨k', q', t', s', kids'⟩ := U
  by_cases hk : k = k'
  · subst hk
    rcases fine_cases hT with ⟨rfl, hq, -⟩ | ⟨rfl, -⟩ | ⟨rfl, -⟩ | ⟨rfl, -, -, -, hl⟩
    · rcases fine_cases hU with ⟨-, hq', -⟩ | ⟨h, -⟩ | ⟨h, -⟩ | ⟨h, -⟩
      · rw [ord_num, ord_num, cmpR_anti hq hq']
      all_goals exact absurd h (by decide)
    · rw [ord_truth, ord_truth]; cases t <;> cases t' <;> rfl
    · rw [ord_str, ord_str, isCmp_bytes.anti]
    · rcases fine_cases hU with ⟨h, -⟩ | ⟨h, -⟩ | ⟨h, -⟩ | ⟨-, -, -, -, hl'⟩
      · exact absurd h (by decide)
      · exact absurd h (by decide)
      · exact absurd h (by decide)
      rw [ord_list, ord_list]
      have key : ∀ l, (∀ x ∈ l, ∀ U, fineT x = true → fineT U = true → ordT U x = (-(ordT x U).1, (ordT x U).2)) → fineL l = true → ∀ l', fineL l' = true → ordL l' l = (-(ordL l l').1, (ordL l l').2) := by
        intro l
        induction l with
        | nil => intro _ _ l' _; cases l' <;> simp [ordL]
        | cons a r ihr =>
          intro hx hf l' hf'
          cases l' with
          | nil => simp [ordL]
          | cons b r' =>
            simp only [fineL, Bool.and_eq_true] at hf hf'
            rw [ordL, ordL, sameB_symm a b]
            split
            · exact ihr (fun x h => hx x (by simp [h])) hf.2 r' hf'.2
            · exact hx a (by simp) b hf.1 hf'.1
      exact key kids (fun x hx U h h' => ih x hx U h h') hl kids' hl'
  · rw [ord_kind hk, ord_kind (Ne.symm hk)]; rfl
theorem ord_zero : ∀ T U : Tree, fineT T = true → fineT U = true → (ordT T U = (0, 0) ↔ T = U) := by
  refine Tree.ind ?_
  intro k q t s kids ih U hT hU
  obtain ⟨k', q', t', s', kids'⟩ := U
  by_cases hk : k = k'
  · subst hk
    rcases fine_cases hT with ⟨rfl, hq, rfl, hs, rfl⟩ | ⟨rfl, rfl, hs, rfl⟩ | ⟨rfl, rfl, rfl, rfl, -⟩ | ⟨rfl, rfl, rfl, hs, hl⟩
    · rcases fine_cases hU with ⟨-, hq', rfl, hs', rfl⟩ | ⟨h, -⟩ | ⟨h, -⟩ | ⟨h, -⟩
      · rw [ord_num, str_zero hs, str_zero hs']
        have := cmpR_zero hq hq'
        constructor
        · intro h; injection h with h _; rw [this.1 h]
        · intro h; injection h with _ h; rw [this.2 h]
      all_goals exact absurd h (by decide)
    · rcases fine_cases hU with ⟨h, -⟩ | ⟨-, rfl, hs', rfl⟩ | ⟨h, -⟩ | ⟨h, -⟩
      · exact absurd h (by decide)
      · rw [ord_truth, str_zero hs, str_zero hs']
        cases t <;> cases t' <;> simp [ordB]
      all_goals exact absurd h (by decide)
    · rcases fine_cases hU with ⟨h, -⟩ | ⟨h, -⟩ | ⟨-, rfl, rfl, rfl, -⟩ | ⟨h, -⟩
      · exact absurd h (by decide)
      · exact absurd h (by decide)
      · rw [ord_str]
        have := isCmp_bytes.zero s.data.toList s'.data.toList
        constructor
        · intro h
          injection h with h _
          have := this.1 h
          congr 1
          apply ByteArray.ext
          exact Array.ext' this
        · intro h; injection h with _ _ _ h; rw [h, (isCmp_bytes.zero _ _).2 rfl]
      · exact absurd h (by decide)
    · rcases fine_cases hU with ⟨h, -⟩ | ⟨h, -⟩ | ⟨h, -⟩ | ⟨-, rfl, rfl, hs', hl'⟩
      · exact absurd h (by decide)
      · exact absurd h (by decide)
      · exact absurd h (by decide)
      rw [ord_list, str_zero hs, str_zero hs']
      have key : ∀ l, (∀ x ∈ l, ∀ U, fineT x = true → fineT U = true → (ordT x U = (0, 0) ↔ x = U)) → fineL l = true → ∀ l', fineL l' = true → (ordL l l' = (0, 0) ↔ l = l') := by
        intro l
        induction l with
        | nil => intro _ _ l' _; cases l' <;> simp [ordL]
        | cons a r ihr =>
          intro hx hf l' hf'
          cases l' with
          | nil => simp [ordL]
          | cons b r' =>
            simp only [fineL, Bool.and_eq_true] at hf hf'
            rw [ordL]
            have h1 := hx a (by simp) b hf.1 hf'.1
            have h2 := ihr (fun x h => hx x (by simp [h])) hf.2 r' hf'.2
            by_cases hab : a = b
            · rw [if_pos (sameB_iff.2 hab), h2, List.cons.injEq]; exact ⟨fun h => ⟨hab, h⟩, fun h => h.2⟩
            · rw [sameB_no hab, if_neg (by simp), h1, List.cons.injEq]; exact ⟨fun h => absurd h hab, fun h => h.1⟩
      rw [key kids (fun x hx U h h' => ih x hx U h h') hl kids' hl']
      exact ⟨fun h => by rw [h], fun h => by injection h⟩
  · rw [ord_kind hk]
    exact ⟨fun h => by injection h with _ h; exact absurd h (by decide), fun h => by injection h with h; exact absurd h hk⟩
theorem ord_rng : ∀ T U : Tree, fineT T = true → fineT U = true → -1 ≤ (ordT T U).1 ∧ (ordT T U).1 ≤ 1 ∧ ((ordT T U).2 = 0 ∨ ((ordT T U).2 = 20 ∧ (ordT T U).1 = 0)) := by
  refine Tree.ind ?_
  intro k q t s kids ih U hT hU
  obtain ⟨k', q', t', s', kids'⟩ := U
  by_cases hk : k = k'
  · subst hk
    rcases fine_cases hT with ⟨rfl, -⟩ | ⟨rfl, -⟩ | ⟨rfl, -⟩ | ⟨rfl, -, -, -, hl⟩
    · rw [ord_num]; exact ⟨(cmpR_rng _ _).1, (cmpR_rng _ _).2, .inl rfl⟩
    · rw [ord_truth]; cases t <;> cases t' <;> simp [ordB]
    · rw [ord_str]; exact ⟨(isCmp_bytes.rng _ _).1, (isCmp_bytes.rng _ _).2, .inl rfl⟩
    · rcases fine_cases hU with ⟨h, -⟩ | ⟨h, -⟩ | ⟨h, -⟩ | ⟨-, -, -, -, hl'⟩
      · exact absurd h (by decide)
      · exact absurd h (by decide)
      · exact absurd h (by decide)
      rw [ord_list]
      have key : ∀ l, (∀ x ∈ l, ∀ U, fineT x = true → fineT U = true → -1 ≤ (ordT x U).1 ∧ (ordT x U).1 ≤ 1 ∧ ((ordT x U).2 = 0 ∨ ((ordT x U).2 = 20 ∧ (ordT x U).1 = 0))) → fineL l = true → ∀ l', fineL l' = true → -1 ≤ (ordL l l').1 ∧ (ordL l l').1 ≤ 1 ∧ ((ordL l l').2 = 0 ∨ ((ordL l l').2 = 20 ∧ (ordL l l').1 = 0)) := by
        intro l
        induction l with
        | nil => intro _ _ l' _; cases l' <;> simp [ordL]
        | cons a r ihr =>
          intro hx hf l' hf'
          cases l' with
          | nil => simp [ordL]
          | cons b r' =>
            simp only [fineL, Bool.and_eq_true] at hf hf'
            rw [ordL]
            split
            · exact ihr (fun x h => hx x (by simp [h])) hf.2 r' hf'.2
            · exact hx a (by simp) b hf.1 hf'.1
      exact key kids (fun x hx U h h' => ih x hx U h h') hl kids' hl'
  · rw [ord_kind hk]; exact ⟨by decide, by decide, .inr ⟨rfl, rfl⟩⟩
theorem ord_listrng (l l' : List Tree) (h : fineL l = true) (h' : fineL l' = true) : -1 ≤ (ordL l l').1 ∧ (ordL l l').1 ≤ 1 := by
  have hf : ∀ l, fineL l = true → fineT (tList l) = true := fun l h => by unfold tList fineT; rw [if_neg (by decide), if_neg (by decide), if_neg (by decide), if_pos rfl, h]; rfl
  have := ord_rng (tList l) (tList l') (hf l h) (hf l' h')
  unfold tList at this
  rw [ord_list] at this
  exact ⟨this.1, this.2.1⟩
theorem ordL_same {a : Tree} {r r' : List Tree} : ordL (a :: r) (a :: r') = ordL r r' := by rw [ordL, if_pos (sameB_self a)]
theorem ordL_ne {a b : Tree} {r r' : List Tree} (h : a ≠ b) : ordL (a :: r) (b :: r') = ordT a b := by rw [ordL, sameB_no h, if_neg (by simp)]
/-- What a total order answers about three. -/
theorem three_of {α : Type} {c : α → α → Int} {p : α → Prop} (zero : ∀ a b, p a → p b → (c a b = 0 ↔ a = b)) (anti : ∀ a b, p a → p b → c b a = - c a b) (rng : ∀ a b, -1 ≤ c a b ∧ c a b ≤ 1) (trans : ∀ a b d, p a → p b → p d → c a b ≤ 0 → c b d ≤ 0 → c a d ≤ 0)
    {a b d : α} (ha : p a) (hb : p b) (hd : p d) (h1 : c a b ≤ 0) (h2 : c b d ≤ 0) : c a d = min (c a b) (c b d) := by
  have h3 := trans a b d ha hb hd h1 h2
  have r1 := rng a b
  have r2 := rng b d
  have r3 := rng a d
  by_cases z1 : c a b = 0
  · have := (zero a b ha hb).1 z1
    subst this
    omega
  · by_cases z2 : c b d = 0
    · have := (zero b d hb hd).1 z2
      subst this
      omega
    · have : c a d ≠ 0 := fun z => by
        have := (zero a d ha hd).1 z
        subst this
        have := anti a b ha hb
        omega
      omega
theorem ord_trans : ∀ T U V : Tree, fineT T = true → fineT U = true → fineT V = true → (ordT T U).2 = 0 → (ordT U V).2 = 0 → (ordT T U).1 ≤ 0 → (ordT U V).1 ≤ 0 → ordT T V = (min (ordT T U).1 (ordT U V).1, 0) := by
  refine Tree.ind ?_
  intro k q t s kids ih U V hT hU hV e f x y
  obtain ⟨k', q', t', s', kids'⟩ := U
  obtain ⟨k2, q2, t2, s2, kids2⟩ := V
  by_cases hk : k = k'
  case neg => rw [ord_kind hk] at e; exact absurd e (by decide)
  by_cases hk' : k' = k2
  case neg => rw [ord_kind hk'] at f; exact absurd f (by decide)
  subst hk hk'
  rcases fine_cases hT with ⟨rfl, hq, -⟩ | ⟨rfl, -⟩ | ⟨rfl, -⟩ | ⟨rfl, -, -, -, hl⟩
  · rcases fine_cases hU with ⟨-, hq', -⟩ | ⟨h, -⟩ | ⟨h, -⟩ | ⟨h, -⟩
    · rcases fine_cases hV with ⟨-, hq2, -⟩ | ⟨h, -⟩ | ⟨h, -⟩ | ⟨h, -⟩
      · rw [ord_num] at x y
        rw [ord_num, ord_num, ord_num]
        rw [three_of (c := cmpR) (p := RatOk) (fun a b => cmpR_zero) (fun a b => cmpR_anti) cmpR_rng (fun a b d => cmpR_trans) hq hq' hq2 x y]
      all_goals exact absurd h (by decide)
    all_goals exact absurd h (by decide)
  · rw [ord_truth] at x y
    rw [ord_truth, ord_truth, ord_truth]
    cases t <;> cases t' <;> cases t2 <;> simp [ordB] at x y ⊢ <;> omega
  · rw [ord_str] at x y
    rw [ord_str, ord_str, ord_str]
    rw [three_of (c := Lib.compareBytes) (p := fun _ => True) (fun a b _ _ => isCmp_bytes.zero a b) (fun a b _ _ => isCmp_bytes.anti a b) isCmp_bytes.rng (fun a b d _ _ _ => isCmp_bytes.trans a b d) trivial trivial trivial x y]
  · rcases fine_cases hU with ⟨h, -⟩ | ⟨h, -⟩ | ⟨h, -⟩ | ⟨-, -, -, -, hl'⟩
    · exact absurd h (by decide)
    · exact absurd h (by decide)
    · exact absurd h (by decide)
    rcases fine_cases hV with ⟨h, -⟩ | ⟨h, -⟩ | ⟨h, -⟩ | ⟨-, -, -, -, hl2⟩
    · exact absurd h (by decide)
    · exact absurd h (by decide)
    · exact absurd h (by decide)
    rw [ord_list] at e f x y
    rw [ord_list, ord_list, ord_list]
    have key : ∀ l, (∀ a ∈ l, ∀ U V, fineT a = true → fineT U = true → fineT V = true → (ordT a U).2 = 0 → (ordT U V).2 = 0 → (ordT a U).1 ≤ 0 → (ordT U V).1 ≤ 0 → ordT a V = (min (ordT a U).1 (ordT U V).1, 0)) → fineL l = true → ∀ l', fineL l' = true → ∀ m, fineL m = true → (ordL l l').2 = 0 → (ordL l' m).2 = 0 → (ordL l l').1 ≤ 0 → (ordL l' m).1 ≤ 0 → ordL l m = (min (ordL l l').1 (ordL l' m).1, 0) := by
      intro l
      induction l with
      | nil =>
        intro _ _ l' _ m _ _ _ h1 h2
        cases l' with
        | nil =>
          cases m with
          | nil => rfl
          | cons c r2 => rfl
        | cons b r' =>
          cases m with
          | nil => simp [ordL] at h2
          | cons c r2 =>
            have := ord_listrng (b :: r') (c :: r2) ‹_› ‹_›
            show ((-1, 0) : Int × Int) = (min (-1) (ordL (b :: r') (c :: r2)).1, 0)
            rw [show min (-1) (ordL (b :: r') (c :: r2)).1 = -1 by omega]
      | cons a r ihr =>
        intro hx hf l' hf' m hm he h0 h1 h2
        cases l' with
        | nil => simp [ordL] at h1
        | cons b r' =>
          cases m with
          | nil => simp [ordL] at h2
          | cons c r2 =>
            simp only [fineL, Bool.and_eq_true] at hf hf' hm
            have q1 := ord_rng a b hf.1 hf'.1
            have q2 := ord_rng b c hf'.1 hm.1
            have l1 := ord_listrng r r' hf.2 hf'.2
            have l2 := ord_listrng r' r2 hf'.2 hm.2
            have z1 := ord_zero a b hf.1 hf'.1
            have z2 := ord_zero b c hf'.1 hm.1
            by_cases hab : a = b
            · subst hab
              rw [ordL_same] at he h1 ⊢
              by_cases hac : a = c
              · subst hac
                rw [ordL_same] at h0 h2 ⊢
                rw [ordL_same]
                exact ihr (fun x h => hx x (by simp [h])) hf.2 r' hf'.2 r2 hm.2 he h0 h1 h2
              · rw [ordL_ne hac] at h0 h2 ⊢
                rw [ordL_ne hac]
                have hz : (ordT a c).1 ≠ 0 := fun h => hac (z2.1 (Prod.ext h h0))
                rw [show min (ordL r r').1 (ordT a c).1 = (ordT a c).1 by omega]
                exact Prod.ext rfl h0
            · rw [ordL_ne hab] at he h1 ⊢
              have hz : (ordT a b).1 ≠ 0 := fun h => hab (z1.1 (Prod.ext h he))
              by_cases hbc : b = c
              · subst hbc
                rw [ordL_same] at h2 ⊢
                rw [ordL_ne hab]
                rw [show min (ordT a b).1 (ordL r' r2).1 = (ordT a b).1 by omega]
                exact Prod.ext rfl he
              · rw [ordL_ne hbc] at h0 h2 ⊢
                have h3 := hx a (by simp) b c hf.1 hf'.1 hm.1 he h0 h1 h2
                have hac : a ≠ c := fun e => by
                  subst e
                  rw [(ord_zero a a hf.1 hf.1).2 rfl] at h3
                  injection h3 with h3 _
                  omega
                rw [ordL_ne hac, h3]
    exact key kids (fun x hx U V => ih x hx U V) hl kids' hl' kids2 hl2 e f x y
end Go.Proofs.YtjgampkpfjbmdaaDoor
end
section
/- Parse of the Text of a valid value is the value (plain Lean, no program). -/
namespace Go.Rel
open Go.RowKit
theorem isD_dig {c : UInt8} (h : isD c = true) : isDig c = true := by
  unfold isD at h
  unfold isDig
  simp only [decide_eq_true_eq] at h ⊢
  omega
theorem all_imp {l : Bs} {p q : UInt8 → Bool} (h : ∀ c, p c = true → q c = true) (ha : l.all p = true) : l.all q = true := by
  rw [List.all_eq_true] at ha ⊢
  exact fun x hx => h x (ha x hx)
theorem itoa_dig (n : Int) : (Lib.itoa n).all isDig = true := by
  unfold Lib.itoa
  split
  · rw [List.all_cons, all_imp (fun _ => isD_dig) (dec_all _)]; rfl
  · exact all_imp (fun _ => isD_dig) (dec_all _)
theorem itoa_ne (n : Int) : Lib.itoa n ≠ [] := by
  unfold Lib.itoa
  split
  · simp
  · exact dec_ne _
theorem textL_dig (q : Rat2) : (textL q).all isDig = true := by
  unfold textL
  rw [List.all_append, itoa_dig]
  split
  · rfl
  · rw [List.all_cons, itoa_dig]; rfl
theorem textL_ne (q : Rat2) : textL q ≠ [] := by
  unfold textL
  intro h
  rw [List.append_eq_nil_iff] at h
  exact itoa_ne _ h.1
theorem parse_back {q : Rat2} (h : RatOk q) : parseR (textL q) = q ∧ parseE (textL q) = 0 := by
  obtain ⟨h1, h2⟩ := parse_text h
  exact ⟨(if_pos h1).trans h2, if_pos h1⟩
/-- What may stand behind a value. -/
def Stop (r : Bs) : Prop := ∀ c, r.head? = some c → isDig c = false
theorem take_stop {l r : Bs} (h : l.all isDig = true) (hr : Stop r) : (l ++ r).takeWhile isDig = l ∧ (l ++ r).dropWhile isDig = r := by
  induction l with
  | nil =>
    cases r with
    | nil => exact ⟨rfl, rfl⟩
    | cons c t => have := hr c rfl; simp [List.takeWhile, List.dropWhile, this]
  | cons a l ih =>
    simp only [List.all_cons, Bool.and_eq_true] at h
    have := ih h.2
    simp [List.takeWhile, List.dropWhile, h.1, this.1, this.2]
theorem skip_no {a c : UInt8} (t l : Bs) (h : a ≠ c) : skipL (a :: t) (c :: l) = none := by
  unfold skipL
  have : (a :: t).isPrefixOf (c :: l) = false := by simp [List.isPrefixOf, h]
  rw [this]; rfl
theorem skip_nil (a : UInt8) (t : Bs) : skipL (a :: t) [] = none := rfl
theorem skip_yes (t l : Bs) : skipL t (t ++ l) = some l := by
  unfold skipL
  rw [if_pos (List.isPrefixOf_iff_prefix.2 ⟨l, rfl⟩), List.drop_left']
  rfl
theorem skip_no2 {a b c : UInt8} (l : Bs) (h : b ≠ c) : skipL [a, b] (a :: c :: l) = none := by
  unfold skipL
  have : [a, b].isPrefixOf (a :: c :: l) = false := by simp [List.isPrefixOf, h]
  rw [this]; rfl
theorem quot_back : ∀ (l r acc : Bs), quotL (escL l ++ 34 :: r) acc = (acc ++ l, r, true)
  | [], r, acc => by rw [quotL.eq_def]; simp [escL]
  | c :: l, r, acc => by
    have ih := quot_back l r (acc ++ [c])
    rw [List.append_assoc] at ih
    unfold escL escB
    by_cases h : c = 34 ∨ c = 92
    · rw [if_pos h]
      show quotL (92 :: c :: (escL l ++ 34 :: r)) acc = _
      rw [quotL.eq_def]
      exact (if_neg (by decide)).trans ((if_pos rfl).trans ((if_pos h).trans ih))
    · rw [if_neg h]
      show quotL (c :: (escL l ++ 34 :: r)) acc = _
      rw [quotL.eq_def]
      exact (if_neg (fun e => h (.inl e))).trans ((if_neg (fun e => h (.inr e))).trans ih)
theorem wr_head {T : Tree} (h : fineT T = true) : ∃ c l, wrT T = c :: l ∧ c ≠ 93 := by
  cases T with
  | node k q t s kids =>
    unfold wrT
    rcases fine_cases h with ⟨rfl, -⟩ | ⟨rfl, -⟩ | ⟨rfl, -⟩ | ⟨rfl, -⟩
    · rw [if_pos rfl]
      cases hd : textL q with
      | nil => exact absurd hd (textL_ne q)
      | cons c l =>
        refine ⟨c, l, rfl, fun e => ?_⟩
        have := textL_dig q
        rw [hd, e] at this
        simp [isDig] at this
    · cases t
      · exact ⟨102, _, rfl, by decide⟩
      · exact ⟨116, _, rfl, by decide⟩
    · exact ⟨34, _, rfl, by decide⟩
    · exact ⟨91, _, rfl, by decide⟩
theorem deep_kid {d : Nat} {l : List Tree} (h : deepL l ≤ d + 1) : ∀ x ∈ l, deepT x ≤ d := fun x hx => by have := deepL_mem hx; omega
theorem value_back : ∀ (d : Nat) (T : Tree) (r : Bs), fineT T = true → deepT T ≤ d → Stop r → valueL d (wrT T ++ r) = (T, r, true)
  | 0, T, r, _, h, _ => by have := deep_pos T; omega
  | d + 1, .node k q t s kids, r, hf, hd, hr => by
    unfold wrT
    unfold deepT at hd
    rcases fine_cases hf with ⟨rfl, hq, rfl, hs, rfl⟩ | ⟨rfl, rfl, hs, rfl⟩ | ⟨rfl, rfl, rfl, rfl, -⟩ | ⟨rfl, rfl, rfl, hs, hl⟩
    · rw [if_pos rfl]
      obtain ⟨t1, t2⟩ := take_stop (textL_dig q) hr
      obtain ⟨p1, p2⟩ := parse_back hq
      have hn : numV (textL q ++ r) true = (ratT q, r, true) := by
        unfold numV
        rw [t1, t2, p1, p2]; rfl
      have hdig := textL_dig q
      cases hc : textL q with
      | nil => exact absurd hc (textL_ne q)
      | cons c l =>
        rw [hc] at hn hdig
        simp only [List.all_cons, Bool.and_eq_true] at hdig
        have hne : ∀ x : UInt8, isDig x = false → x ≠ c := fun x hx e => by rw [e, hdig.1] at hx; cases hx
        rw [List.cons_append] at hn ⊢
        rw [valueL, skip_no _ _ (hne 116 (by decide)), skip_no _ _ (hne 102 (by decide)), skip_no _ _ (hne 34 (by decide)), skip_no _ _ (hne 91 (by decide)), skip_no _ _ (hne 91 (by decide))]
        dsimp only
        rw [hn, str_zero hs]; rfl
    · rw [if_neg (by decide), if_pos rfl, str_zero hs]
      cases t
      · show valueL (d + 1) ([102, 97, 108, 115, 101] ++ r) = _
        have e1 : skipL [116, 114, 117, 101] ([102, 97, 108, 115, 101] ++ r) = none := skip_no _ _ (by decide)
        rw [valueL, e1, skip_yes]; rfl
      · show valueL (d + 1) ([116, 114, 117, 101] ++ r) = _
        rw [valueL, skip_yes]; rfl
    · rw [if_neg (by decide), if_neg (by decide), if_pos rfl]
      have h1 : 34 :: (escL s.data.toList ++ [34]) ++ r = 34 :: (escL s.data.toList ++ 34 :: r) := by simp
      rw [h1, valueL, skip_no _ _ (by decide), skip_no _ _ (by decide)]
      have h2 : skipL [34] (34 :: (escL s.data.toList ++ 34 :: r)) = some (escL s.data.toList ++ 34 :: r) := skip_yes [34] _
      rw [h2]
      dsimp only
      rw [quot_back]
      rfl
    · rw [if_neg (by decide), if_neg (by decide), if_neg (by decide), str_zero hs]
      rw [if_pos rfl] at hd
      cases hk : kids with
      | nil =>
        show valueL (d + 1) ([91, 93] ++ r) = _
        have e1 : skipL [116, 114, 117, 101] ([91, 93] ++ r) = none := skip_no _ _ (by decide)
        have e2 : skipL [102, 97, 108, 115, 101] ([91, 93] ++ r) = none := skip_no _ _ (by decide)
        have e3 : skipL [34] ([91, 93] ++ r) = none := skip_no _ _ (by decide)
        rw [valueL, e1, e2, e3, skip_yes]; rfl
      | cons a m =>
        have ha : fineT a = true := fineL_mem hl a (by rw [hk]; simp)
        obtain ⟨c, l, hc, hne⟩ := wr_head ha
        have e4 : skipL [91, 93] (91 :: (wrA false (a :: m) ++ [93]) ++ r) = none := by
          unfold wrA
          rw [hc]
          exact skip_no2 _ (Ne.symm hne)
        have e5 : skipL [91] (91 :: (wrA false (a :: m) ++ [93]) ++ r) = some (wrA false (a :: m) ++ 93 :: r) := by
          rw [show 91 :: (wrA false (a :: m) ++ [93]) ++ r = [91] ++ (wrA false (a :: m) ++ 93 :: r) by simp]
          exact skip_yes _ _
        rw [valueL]
        rw [show skipL [116, 114, 117, 101] (91 :: (wrA false (a :: m) ++ [93]) ++ r) = none from skip_no _ _ (by decide), show skipL [102, 97, 108, 115, 101] (91 :: (wrA false (a :: m) ++ [93]) ++ r) = none from skip_no _ _ (by decide), show skipL [34] (91 :: (wrA false (a :: m) ++ [93]) ++ r) = none from skip_no _ _ (by decide), e4, e5]
        dsimp only
        have key : ∀ (l : List Tree) (n : Nat) (acc : List Tree) (r : Bs), l ≠ [] → (∀ x ∈ l, fineT x = true) → (∀ x ∈ l, deepT x ≤ d) → (wrA false l ++ 93 :: r).length < n → loopL (valueL d) n acc (wrA false l ++ 93 :: r) = (acc ++ l, 93 :: r, true) := by
          intro l
          induction l with
          | nil => intro n acc r h; exact absurd rfl h
          | cons x l ih =>
            intro n acc r _ hf hd hn
            cases n with
            | zero => omega
            | succ n =>
              have hx := hf x (by simp)
              have hdx := hd x (by simp)
              cases l with
              | nil =>
                have e : wrA false [x] ++ 93 :: r = wrT x ++ 93 :: r := by simp [wrA]
                rw [e, loopL, value_back d x (93 :: r) hx hdx (fun c h => by injection h with h; subst h; decide), skip_no _ _ (by decide)]
              | cons y l =>
                have e : wrA false (x :: y :: l) ++ 93 :: r = wrT x ++ ([44, 32] ++ (wrA false (y :: l) ++ 93 :: r)) := by simp [wrA]
                rw [e] at hn ⊢
                have hv := value_back d x ([44, 32] ++ (wrA false (y :: l) ++ 93 :: r)) hx hdx (fun c h => by injection h with h; subst h; decide)
                rw [loopL, hv]
                dsimp only
                rw [skip_yes]
                dsimp only
                rw [if_pos rfl, ih n _ r (by simp) (fun z hz => hf z (by simp [hz])) (fun z hz => hd z (by simp [hz])) (by simp only [List.length_append, List.length_cons] at hn ⊢; omega)]
                simp
        rw [listV, key (a :: m) _ [] r (by simp) (fun x hx => fineL_mem hl x (by rw [hk]; exact hx)) (fun x hx => deep_kid hd x (by rw [hk]; exact hx)) (by omega)]
        dsimp only
        rw [show skipL [93] (93 :: r) = some r from skip_yes [93] r]
        rfl
/-- The text that a value has reads as the value. -/
theorem parse_write {T : Tree} (h : Valid T) (hl : (wrT T).length ≤ 4000) : parseVT (wrT T) = T ∧ parseVE (wrT T) = 0 := by
  have hv := value_back 6 T [] h.2.2 h.2.1 (fun c h => by cases h)
  rw [List.append_nil] at hv
  unfold parseVT parseVE
  rw [hv]
  have hc := h.chk
  rw [if_pos ⟨rfl, rfl, hc, hl⟩, if_pos ⟨rfl, rfl, hc, hl⟩]
  exact ⟨rfl, rfl⟩
end Go.Rel
end
