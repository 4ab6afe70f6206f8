/- The plain laws of refined curves: limit points stay, hulls, moved curves, curves turned round, rounded points. -/
import Derived.Test.YtfdjhiomdimfcaaSubSpec
namespace Go.Rel

theorem per_mod {α : Type} {f : Nat → α} {m : Nat} (h : ∀ k, f (k + m) = f k) : ∀ k, f (k % m) = f k := by
  intro k
  have key : ∀ q r, f (r + m * q) = f r := by
    intro q
    induction q with
    | zero => intro r; rw [Nat.mul_zero, Nat.add_zero]
    | succ q ih => intro r; rw [Nat.mul_succ, ← Nat.add_assoc, h, ih]
  have := key (k / m) (k % m)
  rw [Nat.mod_add_div] at this
  exact this.symm

section
variable {l : List Vec} {down : Int} {closed : Bool}

theorem checkedE_ok (h : Valid l down) {d : Int} (hd : degOk d) : checkedE l down d = 0 := by unfold checkedE; rw [if_pos h, if_pos hd]
theorem limL_ok (h : Valid l down) {d : Int} (hd : degOk d) : limL l down closed d = limPts l d.toNat closed := if_pos (checkedE_ok h hd)
/-- How Refine can end for a valid curve of at most 200 points. -/
theorem refE_cases (h : Valid l down) {d : Int} (hd : degOk d) (hn : l.length ≤ 200) :
    (refE l down closed d = 6 ∧ limPts l d.toNat closed = []) ∨ refE l down closed d = 16 ∨ (refE l down closed d = 0 ∧ 1 ≤ refM l.length d.toNat closed ∧ Valid (refPts l d.toNat closed) (down + d)) := by
  have h1 := h.1
  obtain ⟨d1, d2⟩ := hd
  unfold refE
  rw [if_pos h, if_pos ⟨d1, d2⟩]
  split
  · rename_i hlt
    left
    refine ⟨rfl, ?_⟩
    have : limLen l.length d.toNat closed = 0 := by
      unfold refM at hlt
      unfold limLen
      cases closed with
      | true => simp at hlt; omega
      | false => simp at hlt ⊢; omega
    unfold limPts
    rw [this]; rfl
  · rename_i hge
    rw [if_neg]
    · split
      · right; right; exact ⟨rfl, by omega, by assumption⟩
      · right; left; rfl
    · unfold refM; split <;> omega
theorem refL_ok {d : Int} (h : refE l down closed d = 0) : refL l down closed d = refPts l d.toNat closed ∧ refDown l down closed d = down + d ∧ refClosed l down closed d = closed := by
  unfold refL refDown refClosed
  rw [if_pos h, if_pos h, if_pos h]; exact ⟨rfl, rfl, rfl⟩
theorem refL_bad {d : Int} (h : ¬ refE l down closed d = 0) : refL l down closed d = [] ∧ refDown l down closed d = 0 ∧ refClosed l down closed d = false := by
  unfold refL refDown refClosed
  rw [if_neg h, if_neg h, if_neg h]; exact ⟨rfl, rfl, rfl⟩

/-- A refined point. -/
theorem getM_ref {d j : Nat} (h : closed = true ∨ j < (refM l.length d closed).toNat) (h0 : 0 < l.length) : getM (refPts l d closed) j = binV l d j := by
  by_cases hj : j < (refM l.length d closed).toNat
  · exact getM_map hj
  · have hc : closed = true := by rcases h with h | h <;> simp_all
    subst hc
    have hM : (refM l.length d true).toNat = 2 * l.length := by unfold refM; simp; omega
    have hlen := refPts_length l d true
    rw [← getM_mod, hlen, hM]
    have hlt : j % (2 * l.length) < 2 * l.length := Nat.mod_lt _ (by omega)
    unfold refPts
    rw [hM, getM_map hlt]
    exact per_mod (binV_per l d) j

theorem lim_lt (d : Nat) (h0 : 0 < l.length) {i : Nat} (hd : 1 ≤ d ∧ d ≤ 3) (hi : i < limLen l.length d closed) : closed = true ∨ 2 * i + (d - 1) < (refM l.length d closed).toNat := by
  cases closed with
  | true => left; rfl
  | false => right; simp [limLen] at hi; simp [refM]; omega

/-- Limit points stay where they are. -/
theorem lim_stay {d i : Nat} (h0 : 0 < l.length) (hd : 1 ≤ d ∧ d ≤ 3) (hi : i < limLen l.length d closed) :
    limV (refPts l d closed) d (2 * i) = mulV (2 ^ d) (limV l d i) := by
  have hl := lim_lt d h0 hd hi
  have g0 : getM (refPts l d closed) (2 * i) = binV l d (2 * i) := getM_ref (by rcases hl with h | h; exact .inl h; right; omega) h0
  have g1 : 2 ≤ d → getM (refPts l d closed) (2 * i + 1) = binV l d (2 * i + 1) := fun h2 => getM_ref (by rcases hl with h | h; exact .inl h; right; omega) h0
  have g2 : 3 ≤ d → getM (refPts l d closed) (2 * i + 2) = binV l d (2 * i + 2) := fun h2 => getM_ref (by rcases hl with h | h; exact .inl h; right; omega) h0
  have e0 : 2 * i / 2 = i := by omega
  have e1 : (2 * i + 1) / 2 = i := by omega
  have e2 : (2 * i + 2) / 2 = i + 1 := by omega
  have e3 : (2 * i + 3) / 2 = i + 1 := by omega
  have e4 : (2 * i + 4) / 2 = i + 2 := by omega
  have e5 : (2 * i + 5) / 2 = i + 2 := by omega
  have : d = 1 ∨ d = 2 ∨ d = 3 := by omega
  rcases this with rfl | rfl | rfl
  · unfold limV
    rw [if_pos (by decide), if_pos (by decide), g0]
    simp only [binV, e0, e1]
    apply Vec.ext' <;> simp only [addV, mulV] <;> omega
  · unfold limV
    rw [if_neg (by decide), if_pos rfl, if_neg (by decide), if_pos rfl, g0, g1 (by decide)]
    simp only [binV, Nat.add_assoc, Nat.reduceAdd, e0, e1, e2, e3]
    apply Vec.ext' <;> simp only [addV, mulV, sumV] <;> omega
  · unfold limV
    rw [if_neg (by decide), if_neg (by decide), if_neg (by decide), if_neg (by decide), g0, g1 (by decide), g2 (by decide)]
    simp only [binV, Nat.add_assoc, Nat.reduceAdd, e0, e1, e2, e3, e4, e5]
    apply Vec.ext' <;> simp only [addV, mulV] <;> omega
theorem lim_many {d : Nat} (h0 : 0 < l.length) (hd : 1 ≤ d ∧ d ≤ 3) (hM : 1 ≤ refM l.length d closed) : 2 * limLen l.length d closed ≤ limLen (refPts l d closed).length d closed + 1 := by
  rw [refPts_length]
  unfold limLen refM at *
  cases closed <;> simp at * <;> omega
theorem getElem_lim {d i : Nat} (hi : i < (limPts l d closed).length) : (limPts l d closed)[i] = limV l d i := by simp [limPts]

/-! ### Hulls -/
def leV (a b : Vec) : Prop := a.x ≤ b.x ∧ a.y ≤ b.y ∧ a.z ≤ b.z
def betw (a v b : Vec) : Prop := leV a v ∧ leV v b
theorem foldl_lo (l : List Vec) (a : Vec) : leV (l.foldl lo2 a) a ∧ ∀ v ∈ l, leV (l.foldl lo2 a) v := by
  induction l generalizing a with
  | nil => exact ⟨⟨Int.le_refl _, Int.le_refl _, Int.le_refl _⟩, fun v h => by simp at h⟩
  | cons b l ih =>
    obtain ⟨h1, h2⟩ := ih (lo2 a b)
    have k : leV (lo2 a b) a ∧ leV (lo2 a b) b := by unfold leV lo2 imin; dsimp only; repeat' split <;> omega
    simp only [List.foldl_cons]
    unfold leV at *
    refine ⟨by omega, fun v hv => ?_⟩
    rcases List.mem_cons.1 hv with rfl | hv
    · omega
    · exact h2 v hv
theorem foldl_hi (l : List Vec) (a : Vec) : leV a (l.foldl hi2 a) ∧ ∀ v ∈ l, leV v (l.foldl hi2 a) := by
  induction l generalizing a with
  | nil => exact ⟨⟨Int.le_refl _, Int.le_refl _, Int.le_refl _⟩, fun v h => by simp at h⟩
  | cons b l ih =>
    obtain ⟨h1, h2⟩ := ih (hi2 a b)
    have k : leV a (hi2 a b) ∧ leV b (hi2 a b) := by unfold leV hi2 imax; dsimp only; repeat' split <;> omega
    simp only [List.foldl_cons]
    unfold leV at *
    refine ⟨by omega, fun v hv => ?_⟩
    rcases List.mem_cons.1 hv with rfl | hv
    · omega
    · exact h2 v hv
/-- All points are within the hull. -/
theorem hull_all (l : List Vec) : ∀ v ∈ l, betw (foldK lo2 l l.length) v (foldK hi2 l l.length) := fun v hv => by
  unfold foldK
  rw [List.take_length]
  exact ⟨(foldl_lo l _).2 v hv, (foldl_hi l _).2 v hv⟩
theorem fold_betw {lo hi : Vec} (f : Vec → Vec → Vec) (hf : ∀ a b, betw lo a hi → betw lo b hi → betw lo (f a b) hi) (l : List Vec) (a : Vec) (ha : betw lo a hi) (h : ∀ v ∈ l, betw lo v hi) : betw lo (l.foldl f a) hi := by
  induction l generalizing a with
  | nil => exact ha
  | cons b l ih => exact ih (f a b) (hf a b ha (h b (by simp))) (fun v hv => h v (by simp [hv]))
theorem foldK_betw {lo hi : Vec} (f : Vec → Vec → Vec) (hf : ∀ a b, betw lo a hi → betw lo b hi → betw lo (f a b) hi) (l : List Vec) (h0 : 0 < l.length) (h : ∀ v ∈ l, betw lo v hi) : betw lo (foldK f l l.length) hi := by
  unfold foldK
  rw [List.take_length]
  refine fold_betw f hf l _ ?_ h
  cases l with
  | nil => simp at h0
  | cons a l => exact h a (by simp)
theorem lo2_betw {lo hi : Vec} : ∀ a b, betw lo a hi → betw lo b hi → betw lo (lo2 a b) hi := by
  intro a b ha hb
  unfold betw leV lo2 imin at *
  dsimp only
  repeat' split
  all_goals omega
theorem hi2_betw {lo hi : Vec} : ∀ a b, betw lo a hi → betw lo b hi → betw lo (hi2 a b) hi := by
  intro a b ha hb
  unfold betw leV hi2 imax at *
  dsimp only
  repeat' split
  all_goals omega
theorem mulV_betw {lo v hi : Vec} (h : betw lo v hi) {n : Int} (hn : 0 ≤ n) : betw (mulV n lo) (mulV n v) (mulV n hi) := by
  obtain ⟨⟨h1, h2, h3⟩, h4, h5, h6⟩ := h
  exact ⟨⟨Int.mul_le_mul_of_nonneg_left h1 hn, Int.mul_le_mul_of_nonneg_left h2 hn, Int.mul_le_mul_of_nonneg_left h3 hn⟩, Int.mul_le_mul_of_nonneg_left h4 hn, Int.mul_le_mul_of_nonneg_left h5 hn, Int.mul_le_mul_of_nonneg_left h6 hn⟩
theorem addV_betw {lo v hi lo' v' hi' : Vec} (h : betw lo v hi) (h' : betw lo' v' hi') : betw (addV lo lo') (addV v v') (addV hi hi') := by
  unfold betw leV addV at *
  dsimp only
  omega
theorem binV_betw {lo hi : Vec} (h0 : 0 < l.length) (h : ∀ v ∈ l, betw lo v hi) : ∀ (j k : Nat), betw (mulV (2 ^ j) lo) (binV l j k) (mulV (2 ^ j) hi)
  | 0, k => by simpa [binV, mulV] using h _ (getM_mem h0 (k / 2))
  | j + 1, k => by
    have h1 := addV_betw (binV_betw h0 h j k) (binV_betw h0 h j (k + 1))
    have e : ∀ a : Vec, addV (mulV (2 ^ j) a) (mulV (2 ^ j) a) = mulV (2 ^ (j + 1)) a := fun a => by
      apply Vec.ext' <;> simp only [addV, mulV, Int.pow_succ, Int.mul_comm _ 2, Int.mul_assoc] <;> omega
    rw [e, e] at h1
    exact h1
def limBy (d : Nat) : Int := if d = 2 then 2 else if d = 3 then 6 else 1
theorem lim_betw {lo hi : Vec} (h0 : 0 < l.length) (h : ∀ v ∈ l, betw lo v hi) {d : Nat} (hd : 1 ≤ d ∧ d ≤ 3) (i : Nat) : betw (mulV (limBy d) lo) (limV l d i) (mulV (limBy d) hi) := by
  have a0 := h _ (getM_mem h0 i)
  have a1 := h _ (getM_mem h0 (i + 1))
  have a2 := h _ (getM_mem h0 (i + 2))
  have : d = 1 ∨ d = 2 ∨ d = 3 := by omega
  rcases this with rfl | rfl | rfl <;> simp [limBy, limV, betw, leV, mulV, addV, sumV] at * <;> omega

/-! ### Moved curves -/
def moveV (by_ : Vec) (l : List Vec) : List Vec := l.map (addV · by_)
theorem getM_move (by_ : Vec) (l : List Vec) (h0 : 0 < l.length) (i : Nat) : getM (moveV by_ l) i = addV (getM l i) by_ := by
  unfold getM moveV
  have : i % l.length < l.length := Nat.mod_lt _ h0
  simp [this]
theorem binV_move (by_ : Vec) (h0 : 0 < l.length) : ∀ (j k : Nat), binV (moveV by_ l) j k = addV (binV l j k) (mulV (2 ^ j) by_)
  | 0, k => by simp [binV, getM_move by_ l h0, mulV]
  | j + 1, k => by
    unfold binV
    rw [binV_move by_ h0 j k, binV_move by_ h0 j (k + 1)]
    apply Vec.ext' <;> simp only [addV, mulV, Int.pow_succ, Int.mul_comm _ 2, Int.mul_assoc] <;> omega
theorem move_length (by_ : Vec) (l : List Vec) : (moveV by_ l).length = l.length := by simp [moveV]
theorem refPts_move (by_ : Vec) (h0 : 0 < l.length) (d : Nat) : refPts (moveV by_ l) d closed = moveV (mulV (2 ^ d) by_) (refPts l d closed) := by
  unfold refPts
  rw [move_length]
  unfold moveV
  rw [List.map_map]
  apply List.map_congr_left
  intro k _
  exact binV_move by_ h0 d k

/-! ### Curves turned round -/
theorem getM_rev (l : List Vec) {i : Nat} (h : i < l.length) : getM l.reverse i = getM l (l.length - 1 - i) := by
  rw [getM_lt (by simpa using h), getM_lt (by omega), List.getElem_reverse]
theorem getM_rev_per (l : List Vec) (h0 : 0 < l.length) {i q : Nat} (h : i < q * l.length) : getM l.reverse i = getM l (q * l.length - 1 - i) := by
  have h1 : i % l.length < l.length := Nat.mod_lt _ h0
  have e1 : getM l.reverse i = getM l.reverse (i % l.length) := by
    have := getM_mod l.reverse i
    rw [List.length_reverse] at this
    exact this.symm
  rw [e1, getM_rev l h1]
  have hq : i / l.length < q := (Nat.div_lt_iff_lt_mul h0).2 h
  obtain ⟨t, ht⟩ : ∃ t, q = i / l.length + 1 + t := ⟨q - (i / l.length + 1), by omega⟩
  have e2 : q * l.length - 1 - i = (l.length - 1 - i % l.length) + l.length * t := by
    have hd := Nat.div_add_mod i l.length
    rw [ht, Nat.add_mul, Nat.add_mul, Nat.one_mul, Nat.mul_comm t]
    rw [Nat.mul_comm (i / l.length)]
    omega
  rw [e2]
  have key : ∀ t r, getM l (r + l.length * t) = getM l r := by
    intro t
    induction t with
    | zero => intro r; rw [Nat.mul_zero, Nat.add_zero]
    | succ t ih => intro r; rw [Nat.mul_succ, ← Nat.add_assoc, getM_add, ih]
  exact (key t _).symm
theorem binV_rev (h0 : 0 < l.length) (q : Nat) : ∀ (j k : Nat), k + j < 2 * (q * l.length) → binV l.reverse j k = binV l j (2 * (q * l.length) - 1 - j - k)
  | 0, k, h => by
    unfold binV
    rw [getM_rev_per l h0 (q := q) (by omega)]
    congr 1
    omega
  | j + 1, k, h => by
    unfold binV
    rw [binV_rev h0 q j k (by omega), binV_rev h0 q j (k + 1) (by omega)]
    have e1 : 2 * (q * l.length) - 1 - j - k = (2 * (q * l.length) - 1 - (j + 1) - k) + 1 := by omega
    have e2 : 2 * (q * l.length) - 1 - j - (k + 1) = 2 * (q * l.length) - 1 - (j + 1) - k := by omega
    rw [e1, e2]
    apply Vec.ext' <;> simp only [addV] <;> omega
/-- An open curve: the refined points in the other order. -/
theorem ref_turn_open (h0 : 0 < l.length) (d : Nat) : refPts l.reverse d false = (refPts l d false).reverse := by
  apply List.ext_getElem
  · simp [refPts]
  · intro k h1 h2
    have hM : k < (refM l.length d false).toNat := by simpa [refPts] using h1
    have hM' : (refM l.length d false).toNat = 2 * l.length - d := by simp [refM]; omega
    rw [List.getElem_reverse]
    simp only [refPts, List.getElem_map, List.getElem_range, List.length_map, List.length_range]
    rw [binV_rev h0 1 d k (by omega), hM', Nat.one_mul]
    congr 1
    omega
/-- A list from one of its elements on. -/
def rot (t : List Vec) (k : Nat) : List Vec := t.drop k ++ t.take k
theorem rot_length (t : List Vec) (k : Nat) : (rot t k).length = t.length := by unfold rot; simp; omega
theorem rot_getElem (t : List Vec) {k i : Nat} (hk : k ≤ t.length) (hi : i < t.length) : (rot t k)[i]'(by rw [rot_length]; exact hi) = getM t (i + k) := by
  unfold rot getM
  by_cases h : i < t.length - k
  · rw [List.getElem_append_left (by simpa using h), Nat.mod_eq_of_lt (by omega)]
    simp only [List.getElem_drop]
    rw [List.getElem?_eq_getElem (by omega)]
    simp only [Option.getD_some, Nat.add_comm]
  · rw [List.getElem_append_right (by simp; omega)]
    have : (i + k) % t.length = i - (t.length - k) := by
      rw [Nat.mod_eq_sub_mod (by omega), Nat.mod_eq_of_lt (by omega)]; omega
    rw [this]
    have h3 : i - (t.length - k) < t.length := by omega
    rw [List.getElem?_eq_getElem h3]
    simp
/-- A closed curve: the refined points in the other order, from another one on. -/
theorem ref_turn_closed (h0 : 0 < l.length) (d : Nat) : rot ((refPts l d true).reverse) (d % (2 * l.length)) = refPts l.reverse d true := by
  have hM : (refM l.length d true).toNat = 2 * l.length := by unfold refM; simp; omega
  have hlen : (refPts l d true).length = 2 * l.length := by rw [refPts_length, hM]
  have hk : d % (2 * l.length) < 2 * l.length := Nat.mod_lt _ (by omega)
  apply List.ext_getElem
  · rw [rot_length, List.length_reverse, hlen]; simp [refPts, refM]; omega
  · intro i h1 h2
    have hi : i < 2 * l.length := by rw [rot_length, List.length_reverse, hlen] at h1; exact h1
    rw [rot_getElem _ (by rw [List.length_reverse, hlen]; omega) (by rw [List.length_reverse, hlen]; exact hi)]
    have hr : (refPts l.reverse d true)[i] = binV l.reverse d i := by simp [refPts]
    rw [hr]
    obtain ⟨q, hq⟩ : ∃ q, q = i + d + 2 := ⟨_, rfl⟩
    have hql : i + d + 2 ≤ q * l.length := by rw [hq]; exact Nat.le_mul_of_pos_right _ h0
    rw [binV_rev h0 q d i (by omega)]
    have e3 : q * (2 * l.length) = 2 * (q * l.length) := by rw [Nat.mul_left_comm]
    have hmd := Nat.mod_le d (2 * l.length)
    rw [getM_rev_per (refPts l d true) (by omega) (q := q) (by rw [hlen, e3]; omega), hlen, e3]
    rw [getM_ref (.inl rfl) h0]
    have hp := binV_per l d
    have e4 := Nat.div_add_mod d (2 * l.length)
    have key : ∀ t r, binV l d (r + 2 * l.length * t) = binV l d r := by
      intro t
      induction t with
      | zero => intro r; rw [Nat.mul_zero, Nat.add_zero]
      | succ t ih => intro r; rw [Nat.mul_succ, ← Nat.add_assoc, hp, ih]
    have := key (d / (2 * l.length)) (2 * (q * l.length) - 1 - d - i)
    rw [← this]
    congr 1
    omega
theorem valid_rev (h : Valid l down) : Valid l.reverse down := by
  obtain ⟨h1, h2, h3, h4, h5⟩ := h
  exact ⟨by simpa using h1, by simpa using h2, h3, h4, by rw [List.all_reverse]; exact h5⟩
theorem refPts_perm (h0 : 0 < l.length) (d : Nat) : ∀ v, v ∈ refPts l.reverse d closed → v ∈ refPts l d closed := by
  intro v hv
  cases closed with
  | false => rw [ref_turn_open h0] at hv; simpa using hv
  | true =>
    rw [← ref_turn_closed h0] at hv
    unfold rot at hv
    rcases List.mem_append.1 hv with h | h
    · simpa using List.mem_of_mem_drop h
    · simpa using List.mem_of_mem_take h
theorem refPts_rev_length (d : Nat) : (refPts l.reverse d closed).length = (refPts l d closed).length := by simp [refPts]
theorem valid_turn (h0 : 0 < l.length) (d : Nat) (D : Int) : Valid (refPts l.reverse d closed) D ↔ Valid (refPts l d closed) D := by
  have hsub := refPts_perm (closed := closed) h0 d
  have hsub' := refPts_perm (closed := closed) (l := l.reverse) (by simpa using h0) d
  rw [List.reverse_reverse] at hsub'
  unfold Valid
  rw [refPts_rev_length]
  refine ⟨fun ⟨h1, h2, h3, h4, h5⟩ => ⟨h1, h2, h3, h4, ?_⟩, fun ⟨h1, h2, h3, h4, h5⟩ => ⟨h1, h2, h3, h4, ?_⟩⟩
  · rw [List.all_eq_true] at h5 ⊢; exact fun v hv => h5 v (hsub' v hv)
  · rw [List.all_eq_true] at h5 ⊢; exact fun v hv => h5 v (hsub v hv)
theorem refE_turn (h : Valid l down) (d : Int) : refE l.reverse down closed d = refE l down closed d := by
  unfold refE
  rw [if_pos h, if_pos (valid_rev h)]
  rw [List.length_reverse]
  have hv := valid_turn (closed := closed) (by have := h.1; omega : 0 < l.length) d.toNat (down + d)
  by_cases hV : Valid (refPts l d.toNat closed) (down + d)
  · rw [if_pos (hv.2 hV), if_pos hV]
  · rw [if_neg (fun h' => hV (hv.1 h')), if_neg hV]
end
end Go.Rel
