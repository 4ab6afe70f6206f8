/- The law 'FieldReaches': a pull that does not reach a point does not matter there, and a greater weight makes the value more of what it was. For every field, point and number. -/
import Derived.Test.YtmomjjjfjjgepaaFieldL
import Derived.Test.YtmomjjjfjjgepaaFieldM
import Derived.Test.YtmomjjjfjjgepaaFieldRow
import Derived.Test.YtmomjjjfjjgepaaAppend
namespace Go.Rel
open Go.RowKit
theorem Recs.take {α : Type} {cells : α → List Value} {z : Nat} {w : World} {B : Nat} {A : Option Addr} {l : List α} (h : Recs cells z w B A l) (m : Nat) : Recs cells z w B A (l.take m) := fun hl => by
  obtain ⟨b, off, e, hb, hc⟩ := h (by rw [List.length_take] at hl; omega)
  refine ⟨b, off, e, hb, fun i v hi j u hj => hc i v ?_ j u hj⟩
  rw [List.getElem?_take] at hi
  split at hi
  · exact hi
  · cases hi
theorem Recs.drop {α : Type} {cells : α → List Value} {z : Nat} {w : World} {B b off : Nat} {l : List α} (h : Recs cells z w B (some ⟨b, off, none⟩) l) (m : Nat) : Recs cells z w B (some ⟨b, off + m * z, none⟩) (l.drop m) := fun hl => by
  obtain ⟨b', off', e, hb, hc⟩ := h (by rw [List.length_drop] at hl; omega)
  obtain ⟨rfl, rfl⟩ : b = b' ∧ off = off' := by simpa using e
  refine ⟨b, off + m * z, rfl, hb, fun i v hi j u hj => ?_⟩
  rw [List.getElem?_drop] at hi
  have := hc (m + i) v hi j u hj
  rw [Nat.add_mul] at this
  rw [show off + m * z + i * z + j = off + (m * z + i * z) + j by omega]
  exact this
/-- One field of one record is written. -/
theorem Recs.set {α : Type} {cells : α → List Value} {z : Nat} (hz : ∀ v, (cells v).length = z) {w : World} {B b off : Nat} {l : List α} (h : Recs cells z w B (some ⟨b, off, none⟩) l) {I f : Nat} {u u' : α} (hI : l[I]? = some u) (hf : f < z) {y : Value} (hy : (cells u')[f]? = some y) (hyc : ∀ j, j ≠ f → (cells u')[j]? = (cells u)[j]?) :
    Recs cells z (w.setCell ⟨b, off + I * z + f, none⟩ y) B (some ⟨b, off, none⟩) (l.set I u') := fun hl => by
  obtain ⟨b', off', e, hb, hc⟩ := h (by rw [List.length_set] at hl; exact hl)
  obtain ⟨rfl, rfl⟩ : b = b' ∧ off = off' := by simpa using e
  refine ⟨b, off, rfl, hb, fun i v hi j x hj => ?_⟩
  have hjz : j < z := by rw [← hz v]; exact (List.getElem?_eq_some_iff.1 hj).1
  rw [List.getElem?_set] at hi
  split at hi
  · rename_i hII
    subst hII
    have hlt : I < l.length := (List.getElem?_eq_some_iff.1 hI).1
    rw [if_pos hlt] at hi
    obtain rfl : u' = v := by simpa using hi
    by_cases hjf : j = f
    · subst hjf
      obtain rfl : y = x := by rw [hy] at hj; simpa using hj
      obtain ⟨x0, hx0⟩ : ∃ x0, (cells u)[j]? = some x0 := ⟨_, List.getElem?_eq_getElem (by rw [hz]; exact hjz)⟩
      exact World.cell?_setCell_same _ _ _ (hc I u hI j x0 hx0)
    · have hne : (⟨b, off + I * z + f, none⟩ : Addr) ≠ ⟨b, off + I * z + j, none⟩ := fun e => by
        have := (Addr.mk.injEq .. ▸ e).2.1
        omega
      rw [World.cell?_setCell_other _ _ _ _ hne]
      rw [hyc j hjf] at hj
      exact hc I u hI j x hj
  · rename_i hII
    rw [World.cell?_setCell_other _ _ _ _ ?_]
    · exact hc i v hi j x hj
    · intro e
      have e : off + I * z + f = off + i * z + j := by simpa using e
      rcases Nat.lt_or_gt_of_ne hII with h1 | h1
      · have := Nat.mul_le_mul_right z h1
        rw [Nat.succ_mul] at this
        omega
      · have := Nat.mul_le_mul_right z h1
        rw [Nat.succ_mul] at this
        omega
end Go.Rel
namespace Go.Proofs.Ytmomjjjfjjgepaa
open Go.RowKit Go.Rel

theorem one_cell : ∀ u : Pull, ∀ x ∈ u.cells, x.oneCell' = true := by
  intro u x hx
  simp only [Pull.cells, List.mem_cons, List.not_mem_nil, or_false] at hx
  rcases hx with rfl | rfl | rfl | rfl | rfl <;> rfl
theorem valueE_fine {l : List Pull} {p : Pt} (h : Fine l) (hp : inB p.x p.y = true) : valueE l p = 0 ∧ valueV l p = valueP l p := by
  have he : valueE l p = 0 := by unfold valueE; rw [if_pos (fieldE_ok h), if_pos hp]
  exact ⟨he, by unfold valueV; rw [if_pos he]⟩

theorem take_flat {a b : List Pull} {n : Nat} (hn : a.length = n) : ((a ++ b).flatMap Pull.cells).take (n * 5) = a.flatMap Pull.cells := by
  rw [List.flatMap_append, List.take_append_of_le_length (by rw [flat_len Pull.cells_len, hn]; exact Nat.le_refl _), List.take_of_length_le (by rw [flat_len Pull.cells_len, hn]; exact Nat.le_refl _)]

/-! The plain law. -/
theorem split_at (l : List Pull) {I : Nat} (hI : I < l.length) : l = l.take I ++ l[I] :: l.drop (I + 1) := by
  rw [← List.drop_eq_getElem_cons hI, List.take_append_drop]
theorem value_split (l : List Pull) {I : Nat} (hI : I < l.length) (p : Pt) : valueP l p = valueP (l.take I ++ l.drop (I + 1)) p + oneP l[I] p := by
  conv => lhs; rw [split_at l hI]
  rw [valueP_append, valueP_cons, valueP_append]
  omega
theorem fine_less {l : List Pull} (h : Fine l) (I : Nat) : Fine (l.take I ++ l.drop (I + 1)) := by
  refine ⟨?_, ?_⟩
  · have := h.1; rw [List.length_append, List.length_take, List.length_drop]; omega
  · rw [List.all_eq_true]
    intro x hx
    have hall := List.all_eq_true.1 h.2
    rcases List.mem_append.1 hx with h1 | h1
    · exact hall x (List.mem_of_mem_take h1)
    · exact hall x (List.mem_of_mem_drop h1)
theorem fine_one {l : List Pull} (h : Fine l) {I : Nat} (hI : I < l.length) : Fine [l[I]] := ⟨by simp, by have := h.at_ hI; simp [this]⟩
def twice (u : Pull) : Pull := ⟨u.x, u.y, u.kind, u.weight * 2, u.reach⟩
theorem one_twice (u : Pull) (p : Pt) : oneP (twice u) p = oneP u p + oneP u p := by
  have e1 : far (twice u) p = far u p := rfl
  have e2 : adx (twice u) p = adx u p := rfl
  have e3 : ady (twice u) p = ady u p := rfl
  unfold oneP nearP
  rw [e1, e2, e3]
  show (if u.reach < far u p then 0 else signP u.kind (adx u p) (ady u p) * (u.weight * 2 * (u.reach + 1 - far u p))) = _
  split
  · rfl
  · rw [Int.mul_assoc, Int.mul_left_comm u.weight 2, Int.mul_left_comm _ 2, Int.two_mul]
theorem twice_ok {u : Pull} (h : pullB u = true) (hw : u.weight ≤ 500000) : pullB (twice u) = true := by
  rw [pullB_iff] at h ⊢
  obtain ⟨h1, h2, h3, h4, h5, h6⟩ := h
  exact ⟨h1, h2, by show 1 ≤ u.weight * 2; omega, by show u.weight * 2 ≤ 1000000; omega, h5, h6⟩
theorem fine_twice {l : List Pull} (h : Fine l) {I : Nat} (hI : I < l.length) (hw : l[I].weight ≤ 500000) : Fine (l.set I (twice l[I])) := by
  refine ⟨by rw [List.length_set]; exact h.1, ?_⟩
  rw [List.all_eq_true]
  intro x hx
  rcases List.mem_or_eq_of_mem_set hx with h1 | h1
  · exact List.all_eq_true.1 h.2 x h1
  · rw [h1]; exact twice_ok (h.at_ hI) hw
theorem value_twice (l : List Pull) {I : Nat} (hI : I < l.length) (p : Pt) : valueP (l.set I (twice l[I])) p = valueP l p + oneP l[I] p := by
  rw [List.set_eq_take_append_cons_drop, if_pos hI, valueP_append, valueP_cons, one_twice, value_split l hI p, valueP_append]
  omega
theorem far_imax (u : Pull) (p : Pt) : imax (imax (imax (p.x - u.x) (u.x - p.x)) (p.y - u.y)) (u.y - p.y) = far u p := by
  unfold far adx ady imax
  repeat' split
  all_goals omega
theorem in64_of {u : Pull} (h : pullB u = true) : u.In64 := by
  rw [pullB_iff] at h
  obtain ⟨h1, h2, h3, h4, h5, h6⟩ := h
  rw [inB_iff] at h2
  unfold Pull.In64
  omega

set_option maxRecDepth 100000 in
set_option maxHeartbeats 4000000 in
theorem reaches_bad (A : Option Addr) (n cap : Nat) (l : List Pull) (p : Pt) (i : Int) (w : World) (hn : l.length = n) (hl : n ≤ 9223372036854775807) (hv : Recs Pull.cells 5 w w.heap.size A l) (h64 : ∀ u ∈ l, u.In64) (hp : p.In64)
    (hbad : ¬ (Fine l ∧ inB p.x p.y = true) ∨ ((Fine l ∧ inB p.x p.y = true) ∧ i < 0) ∨ ((Fine l ∧ inB p.x p.y = true) ∧ 0 ≤ i ∧ (n : Int) ≤ i)) :
    Calls Try.prog 7 #[.slice A n cap, p.v, .int .i64 i] w (Ret w (.bool true)) := by
  have c1 := fun w hv => valid_all A n cap l p w hn hl hv h64 hp
  have x1 := below_alloc w (.cells #[.int .i64 p.x, .int .i64 p.y] 24)
  have x3 := Blk.new w 24 #[.int .i64 p.x, .int .i64 p.y]
  have hx := Lib.hid (show _ ∧ _ from ⟨x1, x3⟩)
  clear hn x1 x3 h64 hp
  rcases hbad with hb | ⟨hb, h2⟩ | ⟨hb, h2, h3⟩
  all_goals
    first | rw [decide_eq_false hb] at c1 | rw [decide_eq_true hb] at c1
    clear hb
    go_enter Try.func7, Try.ntmps7
    go_wp2_with fail
    obtain ⟨x1, x3⟩ := hx.out
    generalize World.alloc _ _ = w0 at x1 x3 ⊢
    refine (c1 _ ((hv.below x1).more x1.size)).mono ?_
    rintro e w1 ⟨rfl, hb1⟩
    replace x1 := x1.trans (hb1.mono x1.size)
    clear hb1 hx c1 hv x3
    go_wp2_with fail
    refine (alive_any _).mono ?_
    rintro e w2 ⟨rfl, hb1⟩
    replace x1 := x1.trans (hb1.mono x1.size)
    clear hb1
    go_wp2_with fail
    go_ret
    exact ret_bool rfl x1

set_option maxRecDepth 100000 in
set_option maxHeartbeats 8000000 in
theorem reaches_ok (A : Option Addr) (I J cap : Nat) (l : List Pull) (p : Pt) (w : World) (hn : l.length = I + 1 + J) (hcap : I + 1 + J ≤ cap) (hv : Recs Pull.cells 5 w w.heap.size A l) (hp : p.In64)
    (hf : Fine l) (hi : inB p.x p.y = true) :
    Calls Try.prog 7 #[.slice A (I + 1 + J) cap, p.v, .int .i64 I] w (Ret w (.bool true)) := by
  have hIl : I < l.length := by omega
  have hn60 : I + 1 + J ≤ 60 := hn ▸ hf.1
  have h64 : ∀ u ∈ l, u.In64 := fun u hu => in64_of (List.all_eq_true.1 hf.2 u hu)
  have hfl := fine_less hf I
  have hfo := fine_one hf hIl
  have hpu := hf.at_ hIl
  have hsp := value_split l hIl p
  have htw := value_twice l hIl p
  have hft := fine_twice hf hIl
  have hfar := far_imax l[I] p
  obtain ⟨u, hu⟩ : ∃ u, l[I] = u := ⟨_, rfl⟩
  have hgI : l[I]? = some u := by rw [List.getElem?_eq_getElem hIl, hu]
  rw [hu] at hfo hpu hsp htw hft hfar
  have hlen : (l.take I ++ l.drop (I + 1)).length = I + J := by rw [List.length_append, List.length_take, List.length_drop]; omega
  have hlt1 : (l.take I).length = I := by rw [List.length_take]; omega
  have hlt2 : (l.drop (I + 1)).length = J := by rw [List.length_drop]; omega
  have c1 := fun w hv => valid_any A (I + 1 + J) cap l p w hn (by omega) hv h64 hp
  have c2 := fun w hv => value_any A (I + 1 + J) cap l p w hn (by omega) hv h64 hp
  have c3 := fun E e w hv => value_any E (I + J) e (l.take I ++ l.drop (I + 1)) p w hlen (by omega) hv (fun u hu => in64_of (List.all_eq_true.1 hfl.2 u hu)) hp
  have c4 := fun E e w hv => value_any E 1 e [u] p w rfl (by omega) hv (fun u hu => in64_of (List.all_eq_true.1 hfo.2 u hu)) hp
  have c5 := fun (hw : u.weight ≤ 500000) E e w hv => value_any E (I + 1 + J) e (l.set I (twice u)) p w (by rw [List.length_set]; exact hn) (by omega) hv (fun u hu => in64_of (List.all_eq_true.1 (hft hw).2 u hu)) hp
  rw [decide_eq_true ⟨hf, hi⟩] at c1
  rw [(valueE_fine hf hi).1, (valueE_fine hf hi).2, hsp] at c2
  rw [(valueE_fine hfl hi).1, (valueE_fine hfl hi).2] at c3
  rw [(valueE_fine hfo hi).1, (valueE_fine hfo hi).2, valueP_one] at c4
  have c6 := fun hw : u.weight ≤ 500000 => (valueE_fine (hft hw) hi)
  have b1 := valueP_fine hfl p
  have b2 := oneP_bound hpu p
  have hone : u.reach < far u p → oneP u p = 0 := fun h => by unfold oneP; rw [if_pos h]
  obtain ⟨X, hX⟩ : ∃ X, valueP (l.take I ++ l.drop (I + 1)) p = X := ⟨_, rfl⟩
  obtain ⟨Y, hY⟩ : ∃ Y, oneP u p = Y := ⟨_, rfl⟩
  rw [hsp, hX, hY] at htw
  rw [hX] at b1 c3
  rw [hY] at b2 c4 hone
  rw [hX, hY] at c2
  have c7 : u.weight ≤ 500000 → ∀ E e w, Recs Pull.cells 5 w w.heap.size E (l.set I (twice u)) → Calls Try.prog 13 #[.slice E (I + 1 + J) e, p.v] w (Ret w (.tuple #[.int .i64 (X + Y + Y), .int .i64 0])) := fun hw E e w hv => by
    have := c5 hw E e w hv
    rwa [(c6 hw).1, (c6 hw).2, htw] at this
  clear c5 c6 htw hsp hX hY hft hfl hfo hf
  obtain ⟨b, off, rfl, hB, hcells⟩ := hv.at_ hIl
  rw [hu] at hcells
  rw [pullB_iff] at hpu
  obtain ⟨-, hpu1, hpu2, hpu3, hpu4, hpu5⟩ := hpu
  rw [inB_iff] at hpu1 hi
  have k0 : w.cell? ⟨b, off + I * 5, none⟩ = some (.int .i64 u.x) := hcells 0 _ rfl
  have k1 : w.cell? ⟨b, off + I * 5 + 1, none⟩ = some (.int .i64 u.y) := hcells 1 _ rfl
  have k3 : w.cell? ⟨b, off + I * 5 + 3, none⟩ = some (.int .i64 u.weight) := hcells 3 _ rfl
  have k4 : w.cell? ⟨b, off + I * 5 + 4, none⟩ = some (.int .i64 u.reach) := hcells 4 _ rfl
  have x1 := below_alloc w (.cells #[.int .i64 p.x, .int .i64 p.y] 24)
  have x3 := Blk.new w 24 #[.int .i64 p.x, .int .i64 p.y]
  have hx := Lib.hid (show _ ∧ _ from ⟨x1, x3⟩)
  have HN := Lib.hid (show _ ∧ _ ∧ _ ∧ _ from ⟨hn, hlt1, hlt2, hlen⟩)
  have HG := Lib.hid hgI
  have HF := Lib.hid (show _ ∧ _ from ⟨hfar, hone⟩)
  have HK := Lib.hid (show _ ∧ _ ∧ _ ∧ _ from ⟨k0, k1, k3, k4⟩)
  have hin : (I : Int) < (I : Int) + 1 + (J : Int) := by omega
  have hI0 : (0 : Int) ≤ (I : Int) := by omega
  have hIn : (I : Int).toNat = I := by omega
  obtain ⟨i0, hi0, hz0, hz1, hz2⟩ := info_parts Try.infoPull
  clear hn hlt1 hlt2 hlen hgI hfar hone k0 k1 k3 k4 x1 x3 h64 hp hu hIl hcells
  go_enter Try.func7, Try.ntmps7
  go_wp2_with fail
  obtain ⟨x1, x3⟩ := hx.out
  generalize World.alloc _ _ = w0 at x1 x3 ⊢
  refine (c1 _ ((hv.below x1).more x1.size)).mono ?_
  rintro e w1 ⟨rfl, hb1⟩
  replace x1 := x1.trans (hb1.mono x1.size)
  replace x3 := x3.keep hb1
  clear hb1 hx c1
  go_wp2_with fail
  replace hv := (hv.below x1).more x1.size
  have hvk : ∀ W, Below w1.heap.size w1 W → Recs Pull.cells 5 W W.heap.size (some ⟨b, off, none⟩) l := fun W hW => (hv.below hW).more hW.size
  obtain ⟨F, hF⟩ : ∃ F, (l.take I ++ l.drop (I + 1)).flatMap Pull.cells = F := ⟨_, rfl⟩
  have hf1 : F.take ((0 + I) * 5) = (l.take I).flatMap Pull.cells := by rw [← hF, Nat.zero_add]; exact take_flat HN.out.2.1
  have hf2 : F.take ((0 + I + J) * 5) = (l.take I).flatMap Pull.cells ++ (l.drop (I + 1)).flatMap Pull.cells := by rw [Nat.zero_add, ← hF, List.flatMap_append]; exact List.take_of_length_le (by rw [List.length_append, flat_len Pull.cells_len, flat_len Pull.cells_len, HN.out.2.1, HN.out.2.2.1]; omega)
  clear hF
  have wI : IntKind.i64.wrap ((I : Int) + 1) = (I : Int) + 1 := by rw [IntKind.wrap_i64]; omega
  have hI1 : (0 : Int) ≤ (I : Int) + 1 := by omega
  have hIn1 : ((I : Int) + 1).toNat = I + 1 := by omega
  have hIc : (I : Int) ≤ cap := by omega
  have hIc1 : (I : Int) + 1 ≤ (I : Int) + 1 + (J : Int) := by omega
  have hIc2 : (I : Int) + 1 + (J : Int) ≤ cap := by omega
  obtain ⟨D, hD⟩ : ∃ D : Option Addr, (if cap = I + 1 then some ⟨b, off, none⟩ else some ⟨b, off + (I + 1) * 5, none⟩) = D := ⟨_, rfl⟩
  have hDn : D = none → cap - (I + 1) = 0 := fun h => by rw [h] at hD; split at hD <;> cases hD
  have hDr : ∀ W, Below w1.heap.size w1 W → Recs Pull.cells 5 W W.heap.size D (l.drop (I + 1)) := fun W hW => by
    rw [← hD]
    by_cases hc : cap = I + 1
    · have : l.drop (I + 1) = [] := List.drop_eq_nil_of_le (by have := HN.out.1; omega)
      rw [this]
      exact Recs.nil_
    · rw [if_neg hc]
      exact (hvk W hW).drop (I + 1)
  apply wp_region_headR 10 166 (hR := kpRow_keeps w1.heap.size 52 5 F) (hm := by kernel_rfl) (hN := rfl)
  case h =>
    simp only [List.take_succ_cons, List.take_zero]
    apply head_memR [] (fun v W => W.ownsRow w1.heap.size 52 5 v 0 (F.take (0 * 5))) (by kernel_rfl) (fun v W W' h hW => hW.2.2 v 0 h)
    · intro W hW _
      exact gives_empty_row F _ 52 5 hW.2.1 (by go_simp)
    intro v0
    iterate 3 (apply head_stillR (kpRow_keeps ..) (by kernel_rfl); (intro W hW; go_simp; (try rfl)))
    apply head_memR [0] (fun v W => W.ownsRow w1.heap.size 52 5 v (0 + I) (F.take ((0 + I) * 5))) (by kernel_rfl) (fun v W W' h hW => hW.2.2 v (0 + I) h)
    · intro W hW hf
      refine gives_append_row w1.heap.size _ _ _ rfl 52 i0 _ 5 40 Try.underlying22 hi0 hz0 hz1 hz2 rfl (by omega) v0 0 (by go_simp) (hf.1 (by simp)) Pull.cells_len one_cell (A := some ⟨b, off, none⟩) (m := I) (c := cap) (by go_simp) (fun h => by cases h) HN.out.2.1 ((hvk W hW.1).take I) ?_ (by unfold maxLen; omega) (by omega) hW.2.1
      rw [hf1]; simp
    intro v1
    iterate 4 (apply head_stillR (kpRow_keeps ..) (by kernel_rfl); (intro W hW; go_simp; (try rfl)))
    apply head_memR [4] (fun v W => W.ownsRow w1.heap.size 52 5 v (0 + I + J) (F.take ((0 + I + J) * 5))) (by kernel_rfl) (fun v W W' h hW => hW.2.2 v (0 + I + J) h)
    · intro W hW hf
      refine gives_append_row w1.heap.size _ _ _ rfl 52 i0 _ 5 40 Try.underlying22 hi0 hz0 hz1 hz2 rfl (by omega) v1 (0 + I) (by go_simp) (hf.1 (by simp)) Pull.cells_len one_cell (A := D) (m := J) (c := cap - (I + 1)) (by go_simp) hDn HN.out.2.2.1 (hDr W hW.1) ?_ (by unfold maxLen; omega) (by omega) hW.2.1
      rw [hf1, hf2]
    intro v2
    refine head_nilR ?_
    intro w2 hW hFF
    have ho : w2.ownsRow w1.heap.size 52 5 v2 (0 + I + J) (F.take ((0 + I + J) * 5)) := hFF.1
    rw [hf2, ← List.flatMap_append, Nat.zero_add] at ho
    obtain ⟨E, e, rfl, -, hr⟩ := Recs.of_own Pull.cells_len HN.out.2.2.2 ho
    replace x1 := x1.trans (hW.1.mono x1.size)
    replace x3 := x3.keep hW.1
    replace hv := (hv.below hW.1).more hW.1.size
    clear ho hFF hW hf1 hf2 hvk hD hDn hDr
    have y0 := x3.cell (i := 0) rfl
    have y1 := x3.cell (i := 1) rfl
    go_wp2_with fail
    refine (c2 _ hv).mono ?_
    rintro e1 w3 ⟨rfl, hb1⟩
    replace x1 := x1.trans (hb1.mono x1.size)
    replace x3 := x3.keep hb1
    replace hr := (hr.below hb1).more hb1.size
    replace hv := (hv.below hb1).more hb1.size
    clear hb1 c2 y0 y1
    have y0 := x3.cell (i := 0) rfl
    have y1 := x3.cell (i := 1) rfl
    go_wp2_with fail
    refine (c3 _ _ _ hr).mono ?_
    rintro e1 w4 ⟨rfl, hb1⟩
    replace x1 := x1.trans (hb1.mono x1.size)
    replace x3 := x3.keep hb1
    replace hv := (hv.below hb1).more hb1.size
    clear hb1 c3 hr y0 y1
    go_wp2_with fail
    have e0 : ∀ W, Below w4.heap.size w4 W → W.cell? ⟨w.heap.size, 0, none⟩ = some (.int .i64 p.x) := fun W hW => (x3.keep hW).cell rfl
    have e1 : ∀ W, Below w4.heap.size w4 W → W.cell? ⟨w.heap.size, 1, none⟩ = some (.int .i64 p.y) := fun W hW => (x3.keep hW).cell rfl
    have hcI : ¬ cap = I := by omega
    have c8 : ∀ W, Below w4.heap.size w4 W → Calls Try.prog 13 #[.slice (some ⟨b, off + I * 5, none⟩) 1 (cap - I), p.v] W (Ret W (.tuple #[.int .i64 Y, .int .i64 0])) := fun W hW => by
      refine c4 _ _ W ?_
      have h1 := (((hv.below hW).more hW.size).drop I).take 1
      rw [List.take_one, List.head?_drop, HG.out] at h1
      exact h1
    have hII : I + 1 - I = 1 := by omega
    have hIc3 : (I : Int) + 1 ≤ cap := by omega
    have hIc4 : (I : Int) ≤ (I : Int) + 1 := by omega
    apply wp_region_head 12 166 (hm := by kernel_rfl) (hN := rfl)
    case h =>
      simp only [List.take_succ_cons, List.take_zero]
      iterate 6 (apply head_still (by kernel_rfl); (intro W hW; go_simp; (try rfl)))
      (apply head_call (by kernel_rfl); (intro W; go_simp; exact ⟨rfl, rfl⟩); (intro W hW; exact c8 W hW))
      iterate 5 (apply head_still (by kernel_rfl); (intro W hW; go_simp; (try rfl)))
      refine head_nil ?_
      intro w5 hW hFF
      replace x1 := x1.trans (hW.mono x1.size)
      replace x3 := x3.keep hW
      replace hv := (hv.below hW).more hW.size
      clear e0 e1 c8 hII hcI hW hFF c4
      have wXY : IntKind.i64.wrap (X + Y) = X + Y := by rw [IntKind.wrap_i64]; omega
      go_wp2_with fail
      have e0 : ∀ W, Below w5.heap.size w5 W → W.cell? ⟨w.heap.size, 0, none⟩ = some (.int .i64 p.x) := fun W hW => (x3.keep hW).cell rfl
      have e1 : ∀ W, Below w5.heap.size w5 W → W.cell? ⟨w.heap.size, 1, none⟩ = some (.int .i64 p.y) := fun W hW => (x3.keep hW).cell rfl
      have q0 : ∀ W, Below w5.heap.size w5 W → W.cell? ⟨b, off + I * 5, none⟩ = some (.int .i64 u.x) := fun W hW => ((x1.trans (hW.mono x1.size)).cell (p := ⟨b, off + I * 5, none⟩) hB).trans HK.out.1
      have q1 : ∀ W, Below w5.heap.size w5 W → W.cell? ⟨b, off + I * 5 + 1, none⟩ = some (.int .i64 u.y) := fun W hW => ((x1.trans (hW.mono x1.size)).cell (p := ⟨b, off + I * 5 + 1, none⟩) hB).trans HK.out.2.1
      have q4 : ∀ W, Below w5.heap.size w5 W → W.cell? ⟨b, off + I * 5 + 4, none⟩ = some (.int .i64 u.reach) := fun W hW => ((x1.trans (hW.mono x1.size)).cell (p := ⟨b, off + I * 5 + 4, none⟩) hB).trans HK.out.2.2.2
      have wx1 : IntKind.i64.wrap (p.x - u.x) = p.x - u.x := by rw [IntKind.wrap_i64]; omega
      have wx2 : IntKind.i64.wrap (u.x - p.x) = u.x - p.x := by rw [IntKind.wrap_i64]; omega
      have wy1 : IntKind.i64.wrap (p.y - u.y) = p.y - u.y := by rw [IntKind.wrap_i64]; omega
      have wy2 : IntKind.i64.wrap (u.y - p.y) = u.y - p.y := by rw [IntKind.wrap_i64]; omega
      have hmax4 := @run_imax4 Try.prog
      have hfar := HF.out.1
      obtain ⟨d, hd⟩ : ∃ d : Bool, decide (u.reach < far u p) = d := ⟨_, rfl⟩
      apply wp_region_head 44 166 (hm := by kernel_rfl) (hN := rfl)
      case h =>
        simp only [List.take_succ_cons, List.take_zero]
        iterate 44 (apply head_still (by kernel_rfl); (intro W hW; go_simp; (try rfl)))
        refine head_nil ?_
        intro w6 hW hFF
        replace x1 := x1.trans (hW.mono x1.size)
        replace x3 := x3.keep hW
        replace hv := (hv.below hW).more hW.size
        clear e0 e1 q0 q1 q4 wx1 wx2 wy1 wy2 hfar hW hFF hmax4
        have hdY : d = true → Y = 0 := fun h => HF.out.2 (of_decide_eq_true (hd.trans h))
        have q3 : w6.cell? ⟨b, off + I * 5 + 3, none⟩ = some (.int .i64 u.weight) := (x1.cell (p := ⟨b, off + I * 5 + 3, none⟩) hB).trans HK.out.2.2.1
        have hlt6 := x3.lt
        have hB6 : b < w6.heap.size := by have := x1.size; omega
        clear hd
        have hrest : d = false ∨ (d = true ∧ Y = 0) := by cases d <;> simp_all
        by_cases hwt : u.weight ≤ 500000
        · have hown0 : (w6.alloc (.cells #[] 52)).ownsRow w6.heap.size 52 5 (.slice (some ⟨w6.heap.size, 0, none⟩) 0 0) 0 [] := ⟨by simp, .inr ⟨w6.heap.size, 0, #[], rfl, Nat.le_refl _, by rw [World.alloc]; simp, by omega, by unfold maxLen; omega, by simp, by simp⟩⟩
          have hv' := (hv.below (below_alloc w6 (.cells #[] 52))).more (below_alloc w6 (.cells #[] 52)).size
          have c7' := c7 hwt
          clear c7
          rcases hrest with rfl | ⟨rfl, hY0⟩
          all_goals
            try subst hY0
            go_wp2_with (at_builtin; refine wpList_append_recs rfl _ _ 22 rfl w6.heap.size 52 i0 (.agg #[.int .i64 0, .int .i64 0, .int .u8 0, .int .i64 0, .int .i64 0]) 5 40 Try.underlying22 hi0 hz0 hz1 hz2 rfl (by decide) _ 0 _ rfl hown0 Pull.cells_len one_cell rfl (fun h => by cases h) HN.out.1 hv' (by unfold maxLen; omega) (by omega) (by simp) ?_)
            intro v' w7 hown hgrow
            have hb7 : Below w6.heap.size w6 w7 := (below_alloc w6 (.cells #[] 52)).grown hgrow (by simp) (fun r hr => (hown0.lt r hr).1)
            replace x1 := x1.trans (hb7.mono x1.size)
            replace x3 := x3.keep hb7
            obtain ⟨E2, e2, rfl, hcap2, hr7⟩ := Recs.of_own Pull.cells_len HN.out.1 hown
            have hownb : ∃ g cur, E2 = some ⟨g, 0, none⟩ ∧ w6.heap.size ≤ g ∧ Blk w7 g 52 cur := by
              rcases hown.2 with ⟨h1, h2⟩ | ⟨g, cp, cur, h1, h2, h3, -⟩
              · omega
              · refine ⟨g, cur, ?_, h2, h3⟩
                injection h1
            obtain ⟨g, cur, rfl, hg, hblk⟩ := hownb
            have m3 : w7.cell? ⟨g, I * 5 + 3, none⟩ = some (.int .i64 u.weight) := by
              obtain ⟨b', off', e, -, hat⟩ := hr7 (by rw [HN.out.1]; omega)
              obtain ⟨rfl, rfl⟩ : g = b' ∧ 0 = off' := by simpa using e
              have := hat I u HG.out 3 _ rfl
              rw [Nat.zero_add] at this
              exact this
            have hfz := hblk.frozen (I * 5 + 3)
            have hg7 : g < w7.heap.size := hblk.lt
            have hne : w.heap.size ≠ g := by omega
            have hne' : g ≠ w.heap.size := by omega
            have ww : IntKind.i64.wrap (u.weight * 2) = u.weight * 2 := by rw [IntKind.wrap_i64]; omega
            have hr8 := hr7.set Pull.cells_len HG.out (f := 3) (by omega) (u' := twice u) (y := .int .i64 (u.weight * 2)) rfl (fun j hj => by
              match j, hj with
              | 0, _ => rfl
              | 1, _ => rfl
              | 2, _ => rfl
              | 3, hj => exact absurd rfl hj
              | 4, _ => rfl
              | n + 5, _ => rfl)
            rw [Nat.zero_add] at hr8
            have x8 := x1.setCell (p := ⟨g, I * 5 + 3, none⟩) (show w.heap.size ≤ g by omega) (.int .i64 (u.weight * 2))
            have z8 := x3.far (p := ⟨g, I * 5 + 3, none⟩) hne (.int .i64 (u.weight * 2))
            have hr8' : Recs Pull.cells 5 (w7.setCell ⟨g, I * 5 + 3, none⟩ (.int .i64 (u.weight * 2))) (w7.setCell ⟨g, I * 5 + 3, none⟩ (.int .i64 (u.weight * 2))).heap.size (some ⟨g, 0, none⟩) (l.set I (twice u)) := hr8.more (by rw [World.size_setCell]; exact Nat.le_refl _)
            have y0 := x3.cell (i := 0) rfl
            have y1 := x3.cell (i := 1) rfl
            have K := Lib.hid (show _ ∧ _ ∧ _ from ⟨x8, z8, hr8'⟩)
            clear hown hgrow hb7 hr7 hblk hr8 hr8' x8 z8 x1 x3 hown0 hv' hv q3 hB6 hdY
            go_wp2_with fail
            obtain ⟨x1, x3, hr8⟩ := K.out
            generalize World.setCell _ _ _ = w8 at x1 x3 hr8 ⊢
            refine (c7' _ _ _ hr8).mono ?_
            rintro e3 w9 ⟨rfl, hb1⟩
            replace x1 := x1.trans (hb1.mono x1.size)
            clear hb1
            first | have wXYY : IntKind.i64.wrap (X + Y + Y) = X + Y + Y := by (rw [IntKind.wrap_i64]; omega) | have wXX : IntKind.i64.wrap X = X := by (rw [IntKind.wrap_i64]; omega)
            go_wp2_with fail
            refine (alive_any _).mono ?_
            rintro e3 w10 ⟨rfl, hb1⟩
            replace x1 := x1.trans (hb1.mono x1.size)
            clear hb1
            go_wp2_with fail
            go_ret
            exact ret_bool rfl x1
        · clear c7
          rcases hrest with rfl | ⟨rfl, hY0⟩
          all_goals
            try subst hY0
            go_wp2_with fail
            refine (alive_any _).mono ?_
            rintro e w7 ⟨rfl, hb1⟩
            replace x1 := x1.trans (hb1.mono x1.size)
            clear hb1
            go_wp2_with fail
            go_ret
            exact ret_bool rfl x1
      case hB => kernel_rfl
      all_goals rfl
    case hB => kernel_rfl
    all_goals rfl
  case hB => kernel_rfl
  all_goals rfl

theorem reaches_walk (A : Option Addr) (n cap : Nat) (l : List Pull) (p : Pt) (i : Int) (w : World) (hn : l.length = n) (hl : n ≤ 9223372036854775807) (hcap : n ≤ cap) (hv : Recs Pull.cells 5 w w.heap.size A l) (h64 : ∀ u ∈ l, u.In64) (hp : p.In64) :
    Calls Try.prog 7 #[.slice A n cap, p.v, .int .i64 i] w (Ret w (.bool true)) := by
  by_cases h1 : Fine l ∧ inB p.x p.y = true
  · by_cases h2 : 0 ≤ i
    · by_cases h3 : (n : Int) ≤ i
      · exact reaches_bad A n cap l p i w hn hl hv h64 hp (.inr (.inr ⟨h1, h2, h3⟩))
      · obtain ⟨I, rfl⟩ := Int.eq_ofNat_of_zero_le h2
        obtain ⟨J, rfl⟩ : ∃ J, n = I + 1 + J := ⟨n - (I + 1), by omega⟩
        exact reaches_ok A I J cap l p w hn hcap hv hp h1.1 h1.2
    · exact reaches_bad A n cap l p i w hn hl hv h64 hp (.inr (.inl ⟨h1, by omega⟩))
  · exact reaches_bad A n cap l p i w hn hl hv h64 hp (.inl h1)

open Go.ChangeShapes Go.WideShapes Go.ChangeAt Go.Joins

set_option maxRecDepth 100000 in
theorem reaches_lifted (os : Os) (started : os.Started) (H : Type) (enc : TypeId × Value → H) :
    ReturnsInHanded {} Try.checked os 7 .any (Rows.fieldReachesSpec.pre6 enc Try.prog Try.f7 Rows.fieldReachesRow.domain false) (Rows.fieldReachesSpec.post enc Try.prog Try.f7 false true false false) := by
  refine returnsInHanded_of_change (C := Try.checked) own started (by kernel_rfl) Try.func7
    (ChangeSpec.witness6 (enc := enc) (C := Try.checked) false ⟨#[], #[.slice none 0 0, .agg #[.int .i64 0, .int .i64 0], .int .i64 0], []⟩ 8 (by kernel_rfl) (by kernel_rfl) (by kernel_rfl) (by kernel_rfl)) ?_
  intro W base args ds gs before hval0 hW hcnd _
  have hval : ∀ (j : Nat) t v, Try.f7.params[j]? = some t → args[j]? = some v → Value.okWide Try.prog W .any base t v := hval0
  have hW' := hW
  obtain ⟨p, q, hA0, hV, rfl, hfz, hnd⟩ := hW
  have hA : DataW.TrodAll enc Try.prog W 0 (fun _ => true) true Try.f7.params.toList args.toList ds p := hA0
  rw [Try.params7] at hA hval
  obtain ⟨v0, vs0, d0, ds0, p0, q0, hargs, rfl, rfl, h0, r0⟩ := trodAll_cons hA
  obtain ⟨v1, vs1, d1, ds1, p1, q1, rfl, rfl, rfl, h1, r1⟩ := trodAll_cons r0
  obtain ⟨v2, vs2, d2, ds2, p2, q2, rfl, rfl, rfl, h2, r2⟩ := trodAll_cons r1
  obtain ⟨rfl, rfl, rfl⟩ := trodAll_nil r2
  obtain rfl : args = #[v0, v1, v2] := by cases args; simp_all
  obtain ⟨rfl, rfl⟩ := trodVars_none hV
  obtain ⟨A, n, cap, l, rfl, hn, hl0, hcap, -, hvs, h64⟩ := open_field h0 (okWide_slice Try.underlying22 (hval 0 22 v0 rfl rfl))
  obtain ⟨a, rfl, ha⟩ := open_point (hval 1 24 v1 rfl rfl) h1
  obtain ⟨x, rfl⟩ := okWide_int Try.underlying3 (hval 2 3 v2 rfl rfl)
  refine (reaches_walk A n cap l a x W hn hl0 hcap hvs h64 ha).mono fun e W' ⟨he, hb⟩ => ?_
  exact ⟨_, he, law_post laidOut hW' rfl (by kernel_rfl) rfl Try.underlying4 rfl rfl rfl hb⟩

theorem reaches_holds : Rows.FieldReachesSaid :=
  OpenClaim.holds_of_wide 7 Try.f7 rfl rfl rfl rfl rfl rfl rfl ⟨rfl, rfl, rfl, rfl, rfl⟩ rfl rfl rfl rfl rfl (by kernel_rfl) Try.func7 (by kernel_rfl)
    (of_decide_eq_true (by kernel_rfl)) (by unfold Func.isWrapper; first | (rw [if_pos (by decide +kernel)]; kernel_rfl) | (rw [if_neg (by decide +kernel)]; exact ⟨rfl, rfl⟩))
    (fun os started H enc _ => reaches_lifted os started H enc)
#print axioms reaches_holds
end Go.Proofs.Ytmomjjjfjjgepaa
