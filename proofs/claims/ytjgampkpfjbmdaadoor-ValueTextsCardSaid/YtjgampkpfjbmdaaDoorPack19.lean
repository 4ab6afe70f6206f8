/- Texts put together: ValW, ValP, ValQ. -/
import Derived.Test.YtjgampkpfjbmdaaDoorPack16
import Derived.Test.YtjgampkpfjbmdaaDoorPack18
import Derived.Test.YtjgampkpfjbmdaaDoorPack09
import Derived.Test.YtjgampkpfjbmdaaDoorPack10
import Derived.Lib.Bytealg
import Derived.Test.YtjgampkpfjbmdaaDoorPack11
section
/- Number and Text of the program. -/
namespace Go.Rel
open Go.RowKit
theorem textL_len {q : Rat2} (h : RatOk q) : (textL q).length ≤ 60 := by
  obtain ⟨h1, h2, h3, h4, -⟩ := h
  have l1 : (Lib.itoa q.n).length ≤ 21 := Lib.itoa_length_le q.n (by omega) (by omega)
  have l2 : (Lib.itoa q.d).length ≤ 21 := Lib.itoa_length_le q.d (by omega) (by omega)
  unfold textL
  rw [List.length_append]
  split
  · simp only [List.length_nil]; omega
  · simp only [List.length_cons]; omega
theorem boolL_len (t : Bool) : (boolL t).length ≤ 5 := by cases t <;> decide
theorem wr_len : ∀ T : Tree, fineT T = true → (wrT T).length + 2 ≤ 130 * partsT T := by
  refine Tree.ind ?_
  intro k q t s kids ih hf
  unfold wrT partsT
  rcases fine_cases hf with ⟨rfl, h, -⟩ | ⟨rfl, -⟩ | ⟨rfl, -, -, -, h⟩ | ⟨rfl, -, -, -, h⟩
  · rw [if_pos rfl]; have := textL_len h; omega
  · rw [if_neg (by decide), if_pos rfl]; have := boolL_len t; omega
  · rw [if_neg (by decide), if_neg (by decide), if_pos rfl]
    have h1 := escL_len s.data.toList
    have h2 : s.size ≤ 60 := by
      unfold okStr at h
      simp only [Bool.and_eq_true, decide_eq_true_eq] at h
      exact h.1
    have h3 : s.data.toList.length = s.size := by simp
    simp only [List.length_cons, List.length_append, List.length_nil]
    omega
  · rw [if_neg (by decide), if_neg (by decide), if_neg (by decide), if_pos rfl]
    have key : ∀ l : List Tree, (∀ x ∈ l, fineT x = true → (wrT x).length + 2 ≤ 130 * partsT x) → fineL l = true → ∀ b, (wrA b l).length ≤ 130 * partsL l := by
      intro l
      induction l with
      | nil => intro _ _ b; simp [wrA]
      | cons x r ihr =>
        intro hx hf b
        simp only [fineL, Bool.and_eq_true] at hf
        have h1 := hx x (by simp) hf.1
        have h2 := ihr (fun y hy => hx y (by simp [hy])) hf.2 true
        have h3 : (if b = true then [44, 32] else [] : Bs).length ≤ 2 := by cases b <;> decide
        simp only [wrA, partsL, List.length_append]
        omega
    have := key kids ih h false
    simp only [List.length_cons, List.length_append, List.length_nil]
    omega
end Go.Rel
namespace Go.Proofs.YtjgampkpfjbmdaaDoor
open Go.RowKit Go.Rel
set_option maxRecDepth 100000
/-- A number's value, and the error. -/
def nvV (n d : Int) : Val := if makeE n d = 0 then ⟨1, makeR n d, false, ⟨#[]⟩, none, 0, 0⟩ else noneV
def nvT (n d : Int) : Tree := if makeE n d = 0 then tNum (makeR n d) else .none_
theorem nv_fresh (n d : Int) (w : World) (base : Nat) (e : TypeId) : Fresh w base e (nvT n d) (nvV n d) := by
  unfold nvT nvV
  by_cases h : makeE n d = 0
  · rw [if_pos h, if_pos h]; exact fresh_leaf w base e (ok_num (makeR_64 n d))
  · rw [if_neg h, if_neg h]; exact fresh_leaf w base e ok_none
set_option maxHeartbeats 2000000 in
theorem numberV_any (n d : Int) (w : World) (hn : -9223372036854775808 ≤ n) (hn' : n ≤ 9223372036854775807) (hd : -9223372036854775808 ≤ d) (hd' : d ≤ 9223372036854775807) :
    Calls Tryd.prog 22 #[.int .i64 n, .int .i64 d] w (Ret w (.tuple #[(nvV n d).v, .int .i64 (makeE n d)])) := by
  have R := fun W => make_any n d W hn hn' hd hd'
  have HB := Lib.hid (box_val w 26 noneV)
  have hV1 : makeE n d = 0 → nvV n d = ⟨1, makeR n d, false, ⟨#[]⟩, none, 0, 0⟩ := fun h => if_pos h
  have hV2 : makeE n d ≠ 0 → nvV n d = noneV := fun h => if_neg h
  have HF := Lib.hid (show ∀ (x : Val) (w' : World), nvV n d = x → Below w.heap.size w w' → Ret w (.tuple #[(nvV n d).v, .int .i64 (makeE n d)]) (.returned (.tuple #[x.v, .int .i64 (makeE n d)])) w' from fun x w' h1 h2 => by subst h1; exact ⟨rfl, h2⟩)
  generalize nvV n d = V at *
  generalize makeE n d = E at *
  generalize makeR n d = r at *
  obtain ⟨r1, r2⟩ := r
  have HR := Lib.hid R
  have HV := Lib.hid (show _ ∧ _ from ⟨hV1, hV2⟩)
  clear R hn hn' hd hd' hV1 hV2
  obtain ⟨hb, hres⟩ := HB.out
  go_enter Tryd.func22, Tryd.ntmps22
  go_wp2_with fail
  refine (HR.out _).mono ?_
  rintro e w1 ⟨rfl, hb1⟩
  replace hres := hres.keep hb1
  replace hb := hb.trans (hb1.mono hb.size)
  have hq := Blk.new w1 23 #[.int .i64 r1, .int .i64 r2]
  have hlt := hres.lt
  obtain ⟨r0, r1', r2', r3, r4, r5⟩ := hres.val
  have rf := hres.frozen
  clear hb1 HB HR
  have q0 := hq.cell (i := 0) (v := .int .i64 r1) rfl
  have q1 := hq.cell (i := 1) (v := .int .i64 r2) rfl
  have hsz : w.heap.size ≤ w1.heap.size := hb.size
  by_cases hE : E = 0
  case neg =>
    have hE2 : (E != 0) = true := by simpa using hE
    have n1 := (hres.set6 (.int .u8 0) (.int .i64 0) (.int .i64 0) (.bool false) (.string ⟨#[]⟩) (.slice none 0 0)).keep (below_alloc _ (.cells #[.int .i64 r1, .int .i64 r2] 23))
    have n2 := (below_set6 hb (Nat.le_refl _) (.int .u8 0) (.int .i64 0) (.int .i64 0) (.bool false) (.string ⟨#[]⟩) (.slice none 0 0)).alloc (by simpa using hsz) (.cells #[.int .i64 r1, .int .i64 r2] 23)
    have HN := Lib.hid (show _ ∧ _ ∧ _ from ⟨n1, n2, HV.out.2 hE⟩)
    clear n1 n2 hres hb hE HV
    go_wp2_with fail
    obtain ⟨k0, k1, k2, k3, k4, k5⟩ := Blk.val (x := noneV) HN.out.1
    exact bodyPost_ret (v := .tuple #[Val.v noneV, .int .i64 E]) (by simp [results, Tryd.results22, go_sem, k0, k1, k2, k3, k4, k5]) rfl (HF.out noneV _ HN.out.2.2 HN.out.2.1)
  subst hE
  have n1 := (hres.set6 (.int .u8 1) (.int .i64 r1) (.int .i64 r2) (.bool false) (.string ⟨#[]⟩) (.slice none 0 0)).keep (below_alloc _ (.cells #[.int .i64 r1, .int .i64 r2] 23))
  have n2 := (below_set6 hb (Nat.le_refl _) (.int .u8 1) (.int .i64 r1) (.int .i64 r2) (.bool false) (.string ⟨#[]⟩) (.slice none 0 0)).alloc (by simpa using hsz) (.cells #[.int .i64 r1, .int .i64 r2] 23)
  have HN := Lib.hid (show _ ∧ _ ∧ _ from ⟨n1, n2, HV.out.1 rfl⟩)
  clear n1 n2 hres hb HV
  go_wp2_with fail
  obtain ⟨k0, k1, k2, k3, k4, k5⟩ := Blk.val (x := ⟨1, ⟨r1, r2⟩, false, ⟨#[]⟩, none, 0, 0⟩) HN.out.1
  exact bodyPost_ret (v := .tuple #[Val.v ⟨1, ⟨r1, r2⟩, false, ⟨#[]⟩, none, 0, 0⟩, .int .i64 0]) (by simp [results, Tryd.results22, go_sem, k0, k1, k2, k3, k4, k5]) rfl (HF.out _ _ HN.out.2.2 HN.out.2.1)
/-- Text of a value, and the error. -/
def textVE (T : Tree) : Int := if chkT T ≠ 0 then chkT T else if 4000 < (wrT T).length then 4 else 0
def textVS (T : Tree) : ByteArray := if textVE T = 0 then str (wrT T) else ⟨#[]⟩
theorem textV_cases (T : Tree) : (chkT T ≠ 0 ∧ textVE T = chkT T ∧ textVS T = ⟨#[]⟩) ∨ (chkT T = 0 ∧ 4000 < (wrT T).length ∧ textVE T = 4 ∧ textVS T = ⟨#[]⟩) ∨ (chkT T = 0 ∧ ¬ 4000 < (wrT T).length ∧ textVE T = 0 ∧ textVS T = str (wrT T)) := by
  by_cases h : chkT T = 0
  · by_cases h2 : 4000 < (wrT T).length
    · have e : textVE T = 4 := by unfold textVE; rw [if_neg (fun n => n h), if_pos h2]
      exact .inr (.inl ⟨h, h2, e, by unfold textVS; rw [e]; rfl⟩)
    · have e : textVE T = 0 := by unfold textVE; rw [if_neg (fun n => n h), if_neg h2]
      exact .inr (.inr ⟨h, h2, e, by unfold textVS; rw [e]; rfl⟩)
  · have e : textVE T = chkT T := by unfold textVE; rw [if_pos h]
    exact .inl ⟨h, e, by unfold textVS; rw [e, if_neg h]⟩
set_option maxHeartbeats 2000000 in
theorem textV_any (T : Tree) (x : Val) (w : World) (hf : fitT T 10 = true) (hr : RdB w w.heap.size T x) (ht : Tab w) :
    Calls Tryd.prog 18 #[x.v] w (Ret w (.tuple #[.string (textVS T), .int .i64 (textVE T)])) := by
  have HB := Lib.hid (box_val w 26 x)
  have HC := Lib.hid (fun W h => chk_any T x W hf h)
  have HT := Lib.hid (textV_cases T)
  have HR := Lib.hid (show _ ∧ _ ∧ _ from ⟨hf, hr, ht⟩)
  obtain ⟨C, hC⟩ : ∃ C, chkT T = C := ⟨_, rfl⟩
  rw [hC] at HC HT
  have HCC := Lib.hid hC
  generalize textVE T = E at *
  generalize textVS T = S at *
  obtain ⟨k, q, t, s, A, len, cap⟩ := x
  clear hf hr ht hC
  obtain ⟨hb, hblk⟩ := HB.out
  obtain ⟨c0, c1, c2, c3, c4, c5⟩ := hblk.val
  go_enter Tryd.func18, Tryd.ntmps18
  go_wp2_with fail
  refine (HC.out _ (HR.out.2.1.in_ hb hb.size)).mono ?_
  rintro e w1 ⟨rfl, hb1⟩
  replace hblk := hblk.keep hb1
  replace hb := hb.trans (hb1.mono hb.size)
  clear hb1 HB HC c0 c1 c2 c3 c4 c5
  rcases HT.out with ⟨h1, h2, h3⟩ | ⟨h1, h2, h3, h4⟩ | ⟨h1, h2, h3, h4⟩
  · subst h2 h3
    have q1 : (E != 0) = true := by simpa using h1
    go_wp2_with fail
    go_ret2
    exact ⟨rfl, hb⟩
  all_goals
    subst h1 h3 h4
    have hv := valid_parts HR.out.1 HCC.out
    have hl := wr_len T hv.2.2
    have HL := Lib.hid (show (wrT T).length + 2 ≤ 13000 by omega)
    have HV := Lib.hid hv
    have hnb := Lib.IsBuilderF.of (Lib.fresh_isBuilder 70 5 w1)
    have hba := below_alloc w1 (.cells #[.pointer none, .slice none 0 0] 70)
    have hblt := hblk.lt
    obtain ⟨c0, c1, c2, c3, c4, c5⟩ := hblk.val
    have HW := Lib.hid (show _ ∧ _ ∧ _ from ⟨hb, hnb, hba⟩)
    have H4 := Lib.hid h2
    clear hv hl hnb hba hb h2
    go_wp2_with fail
    have hbb := HW.out.1.trans (HW.out.2.2.mono HW.out.1.size)
    refine (write_any 10 T _ _ w1.heap.size w1.heap.size [] HR.out.1 HV.out.2.2 (RdB.below HR.out.2.1 hbb HW.out.1.size) HW.out.2.1 HW.out.2.2.size (fun W hW => HR.out.2.2.keep (hbb.trans (hW.mono HW.out.1.size))) ?_).mono ?_
    · have := HL.out
      simp only [List.length_nil]
      omega
    rintro e w3 ⟨rfl, hw3⟩
    have hb3 := hbb.trans (hw3.2.1.mono HW.out.1.size)
    rw [List.nil_append] at hw3
    have hlen := Tryd.Builder_Len_f w1.heap.size w1.heap.size _ w3 hw3.is
    rw [Lib.byteCells_length] at hlen
    have hstr := Tryd.Builder_String_any_f w1.heap.size w1.heap.size (wrT T) w3 hw3.is (Nat.le_trans HW.out.2.2.size hw3.2.1.size)
    have HX := Lib.hid (show _ ∧ _ ∧ _ ∧ _ from ⟨hb3, hlen, hstr, HW.out.1.size⟩)
    clear hbb hw3 hb3 hlen hstr hblk hblt HW c0 c1 c2 c3 c4 c5
    have q4 := H4.out
    unfold str at *
    generalize wrT T = L at *
    go_wp2_with fail
    refine HX.out.2.1.mono ?_
    rintro e w4 ⟨rfl, rfl⟩
    go_wp2_with fail
  · go_ret2
    exact ⟨rfl, HX.out.1⟩
  · refine HX.out.2.2.1.mono ?_
    rintro e w5 ⟨rfl, -, hb5⟩
    go_wp2_with fail
    go_ret2
    exact ⟨rfl, HX.out.1.trans (hb5.mono HX.out.2.2.2)⟩
end Go.Proofs.YtjgampkpfjbmdaaDoor
end
section
/- Comparison of values in plain terms. -/
namespace Go.Rel
open Go.RowKit
def ordB (t u : Bool) : Int := if t = u then 0 else if t = true then 1 else -1
theorem cmpB_cases : ∀ (a b : List UInt8), (a = b → Lib.compareBytes a b = 0) ∧ (a ≠ b → Op.bytesLess a b = true → Lib.compareBytes a b = -1) ∧ (a ≠ b → Op.bytesLess a b = false → Lib.compareBytes a b = 1)
  | [], [] => by simp [Lib.compareBytes]
  | [], _ :: _ => by simp [Lib.compareBytes, Op.bytesLess]
  | _ :: _, [] => by simp [Lib.compareBytes, Op.bytesLess]
  | a :: x, b :: y => by
    have ih := cmpB_cases x y
    unfold Lib.compareBytes Op.bytesLess
    by_cases h1 : a < b
    · have h2 : a ≠ b := fun e => by subst e; exact absurd h1 (by simp)
      simp [h1, h2]
    · by_cases h2 : b < a
      · have h3 : a ≠ b := fun e => by subst e; exact h1 h2
        simp [h1, h2, h3]
      · have h3 : a = b := by
          rw [UInt8.lt_iff_toNat_lt] at h1 h2
          exact UInt8.toNat_inj.1 (by omega)
        subst h3
        simp only [h1, if_false, List.cons.injEq, true_and, beq_self_eq_true, Bool.true_and, decide_false, Bool.false_or, ne_eq]
        exact ih
end Go.Rel
namespace Go.Proofs.YtjgampkpfjbmdaaDoor
open Go.RowKit Go.Rel
mutual
/-- The order of two values, and the error. -/
noncomputable def ordT : Tree → Tree → Int × Int
  | .node k q t s l, U => if k ≠ U.k then (0, 20) else if k = 1 then (cmpR q U.q, 0) else if k = 2 then (ordB t U.t, 0) else if k = 3 then (Lib.compareBytes s.data.toList U.s.data.toList, 0) else ordL l U.kids
noncomputable def ordL : List Tree → List Tree → Int × Int
  | [], [] => (0, 0)
  | [], _ :: _ => (-1, 0)
  | _ :: _, [] => (1, 0)
  | a :: r, b :: r' => if sameB a b = true then ordL r r' else ordT a b
end
theorem ord_kind {k k' : Int} {q q' : Rat2} {t t' : Bool} {s s' : ByteArray} {l l' : List Tree} (h : k ≠ k') : ordT (.node k q t s l) (.node k' q' t' s' l') = (0, 20) := by unfold ordT; exact if_pos h
theorem ord_num {q q' : Rat2} {t t' : Bool} {s s' : ByteArray} {l l' : List Tree} : ordT (.node 1 q t s l) (.node 1 q' t' s' l') = (cmpR q q', 0) := by unfold ordT; exact (if_neg (fun n => n rfl)).trans (if_pos rfl)
theorem ord_truth {q q' : Rat2} {t t' : Bool} {s s' : ByteArray} {l l' : List Tree} : ordT (.node 2 q t s l) (.node 2 q' t' s' l') = (ordB t t', 0) := by unfold ordT; exact (if_neg (fun n => n rfl)).trans ((if_neg (show ¬ (2 : Int) = 1 by decide)).trans (if_pos rfl))
theorem ord_str {q q' : Rat2} {t t' : Bool} {s s' : ByteArray} {l l' : List Tree} : ordT (.node 3 q t s l) (.node 3 q' t' s' l') = (Lib.compareBytes s.data.toList s'.data.toList, 0) := by unfold ordT; exact (if_neg (fun n => n rfl)).trans ((if_neg (show ¬ (3 : Int) = 1 by decide)).trans ((if_neg (show ¬ (3 : Int) = 2 by decide)).trans (if_pos rfl)))
theorem ord_list {q q' : Rat2} {t t' : Bool} {s s' : ByteArray} {l l' : List Tree} : ordT (.node 4 q t s l) (.node 4 q' t' s' l') = ordL l l' := by unfold ordT; exact (if_neg (fun n => n rfl)).trans ((if_neg (show ¬ (4 : Int) = 1 by decide)).trans ((if_neg (show ¬ (4 : Int) = 2 by decide)).trans (if_neg (show ¬ (4 : Int) = 3 by decide))))
theorem ordL_drop : ∀ (i : Nat) (l l' : List Tree), i ≤ l.length → i ≤ l'.length → l.take i = l'.take i → ordL l l' = ordL (l.drop i) (l'.drop i)
  | 0, _, _, _, _, _ => rfl
  | i + 1, [], _, h, _, _ => by simp at h
  | i + 1, _ :: _, [], _, h, _ => by simp at h
  | i + 1, a :: r, b :: r', h1, h2, h => by
    simp only [List.take_succ_cons, List.cons.injEq] at h
    obtain ⟨rfl, h⟩ := h
    rw [List.drop_succ_cons, List.drop_succ_cons, ← ordL_drop i r r' (by simpa using h1) (by simpa using h2) h]
    conv => lhs; unfold ordL
    rw [if_pos (sameB_self a)]
theorem ordL_diff {l l' : List Tree} {i : Nat} {y y' : Tree} (hy : l[i]? = some y) (hy' : l'[i]? = some y') (h : l.take i = l'.take i) (hs : sameB y y' = false) : ordL l l' = ordT y y' := by
  obtain ⟨h1, rfl⟩ := kid_at hy
  obtain ⟨h2, rfl⟩ := kid_at hy'
  rw [ordL_drop i l l' (by omega) (by omega) h, List.drop_eq_getElem_cons h1, List.drop_eq_getElem_cons h2]
  unfold ordL
  rw [if_neg (by rw [hs]; decide)]
theorem ordL_long {l l' : List Tree} {i : Nat} (h1 : i < l.length) (h2 : l'.length = i) (h : l.take i = l'.take i) : ordL l l' = (1, 0) := by
  have e : l'.drop i = [] := List.drop_of_length_le (by omega)
  rw [ordL_drop i l l' (by omega) (by omega) h, List.drop_eq_getElem_cons h1, e]
  simp only [ordL]
theorem ordL_short {l l' : List Tree} {i : Nat} (h1 : l.length = i) (h2 : i < l'.length) (h : l.take i = l'.take i) : ordL l l' = (-1, 0) := by
  have e : l.drop i = [] := List.drop_of_length_le (by omega)
  rw [ordL_drop i l l' (by omega) (by omega) h, List.drop_eq_getElem_cons h2, e]
  simp only [ordL]
theorem ordL_end {l l' : List Tree} {i : Nat} (h1 : l.length = i) (h2 : l'.length = i) (h : l.take i = l'.take i) : ordL l l' = (0, 0) := by
  have e : l.drop i = [] := List.drop_of_length_le (by omega)
  have e' : l'.drop i = [] := List.drop_of_length_le (by omega)
  rw [ordL_drop i l l' (by omega) (by omega) h, e, e']
  simp only [ordL]
/-- What Compare returns. -/
noncomputable def cmpV (T U : Tree) : Int := if bothV T U ≠ 0 then 0 else (ordT T U).1
noncomputable def cmpE (T U : Tree) : Int := if bothV T U ≠ 0 then bothV T U else (ordT T U).2
end Go.Proofs.YtjgampkpfjbmdaaDoor
end
section
/- Comparison on both sides. -/
namespace Go.Proofs.YtjgampkpfjbmdaaDoor
open Go.RowKit Go.Rel

attribute [local irreducible] Go.Rel.Gives in
set_option maxRecDepth 100000 in
set_option maxHeartbeats 8000000 in
theorem ord_any : ∀ (d : Nat) (T U : Tree) (x y : Val) (w : World), fitT T d = true → fineT T = true → fineT U = true → RdB w w.heap.size T x → RdB w w.heap.size U y →
    Calls Tryd.prog 50 #[x.v, y.v] w (Ret w (.tuple #[.int .i64 (ordT T U).1, .int .i64 (ordT T U).2])) := by
  intro d
  induction d with
  | zero => intro T U x y w h; rw [fitT_zero] at h; cases h
  | succ d ih =>
  intro T U x y w hf hfi hfi' hr hr'
  obtain ⟨kids, ys, rfl, ok, hy1, hl, hrec, hk⟩ := hr.open_
  obtain ⟨kids', ys', rfl, ok', hy1', hl', hrec', hk'⟩ := hr'.open_
  obtain ⟨e, he, -, h150, hkf⟩ := fitT_parts hf
  obtain rfl : d = e := by omega
  obtain ⟨k, q, t, s, A, len, cap⟩ := x
  obtain ⟨k', q', t', s', A', len', cap'⟩ := y
  obtain ⟨hk0, hk1, n0, n1, m0, m1, hs, -, hc, -⟩ := ok
  obtain ⟨hk0', hk1', n0', n1', m0', m1', hs', hlc', hc', -⟩ := ok'
  dsimp only at hk0 hk1 hy1 hl hrec hc h150 hs hk0' hk1' hy1' hl' hrec' hc' hs' hlc' n0 n1 m0 m1 n0' n1' m0' m1' hfi hfi'
  rw [hl] at h150
  dsimp only
  have HL := Lib.hid (show _ ∧ _ ∧ _ from ⟨hy1, hl, hkf⟩)
  have HK := Lib.hid (show _ ∧ _ from ⟨hrec, hk⟩)
  have HL' := Lib.hid (show _ ∧ _ from ⟨hy1', hl'⟩)
  have HK' := Lib.hid (show _ ∧ _ from ⟨hrec', hk'⟩)
  have HB := Lib.hid (two_boxes w 26 ⟨k, q, t, s, A, len, cap⟩ ⟨k', q', t', s', A', len', cap'⟩)
  have hca := fine_cases hfi
  have hcb := fine_cases hfi'
  obtain ⟨hb, hz, hx, hy⟩ := HB.out
  clear hy1 hl hkf hrec hk hf hr he hy1' hl' hrec' hk' hr' hfi hfi'
  by_cases hkk : k = k'
  case neg =>
    have HV := Lib.hid (ord_kind (q := q) (q' := q') (t := t) (t' := t') (s := s) (s' := s') (l := kids) (l' := kids') hkk)
    have q1 : ((k : Int) != k') = true := by simpa using hkk
    clear hkk hca hcb ih HL HK HL' HK'
    obtain ⟨c0, c1, c2, c3, c4, c5⟩ := hx.val
    obtain ⟨d0, d1, d2, d3, d4, d5⟩ := hy.val
    clear hx hy HB
    go_enter Tryd.func50, Tryd.ntmps50
    go_wp2_with fail
    go_ret2
    exact ⟨by rw [HV.out]; rfl, hb⟩
  subst hkk
  rcases hca with ⟨rfl, hq, rfl, hs0, rfl⟩ | ⟨rfl, rfl, hs0, rfl⟩ | ⟨rfl, rfl, rfl, rfl, hos⟩ | ⟨rfl, rfl, rfl, hs0, hfl⟩
  · have hq' : RatOk q' := by
      rcases hcb with ⟨-, h, -⟩ | ⟨h, -⟩ | ⟨h, -⟩ | ⟨h, -⟩
      · exact h
      · omega
      · omega
      · omega
    have HV := Lib.hid (@ord_num q q' false t' s s' [] kids')
    have RA := cmp_any q q'
    rw [or_ok ⟨hq, hq'⟩] at RA
    have HRA := Lib.hid (fun W => RA W ⟨n0, n1, m0, m1⟩ ⟨n0', n1', m0', m1'⟩)
    obtain ⟨C, hC⟩ : ∃ C, cmpR q q' = C := ⟨_, rfl⟩
    rw [hC] at HV HRA
    clear hcb hs0 ih RA hq hq' hC HL HK HL' HK'
    obtain ⟨c0, c1, c2, c3, c4, c5⟩ := hx.val
    obtain ⟨d0, d1, d2, d3, d4, d5⟩ := hy.val
    clear hx hy
    go_enter Tryd.func50, Tryd.ntmps50
    go_wp2_with fail
    refine (HRA.out _).mono ?_
    rintro e w2 ⟨rfl, hb1⟩
    have HM := Lib.hid (hb.trans (hb1.mono hb.size))
    clear c0 c1 c2 c3 c4 c5 d0 d1 d2 d3 d4 d5
    clear hb hb1 HRA HB
    go_wp2_with fail
    go_ret2
    exact ⟨by rw [HV.out]; rfl, HM.out⟩
  · have HV := Lib.hid (@ord_truth ⟨0, 0⟩ q' t t' s s' [] kids')
    clear hcb hs0 ih HL HK HL' HK'
    obtain ⟨c0, c1, c2, c3, c4, c5⟩ := hx.val
    obtain ⟨d0, d1, d2, d3, d4, d5⟩ := hy.val
    clear hx hy HB
    have HBB := Lib.hid hb
    cases t <;> cases t'
    all_goals
      go_enter Tryd.func50, Tryd.ntmps50
      go_wp2_with fail
      go_ret2
      exact ⟨by rw [HV.out]; rfl, HBB.out⟩
  · have HV := Lib.hid (@ord_str ⟨0, 0⟩ q' false t' s s' [] kids')
    have hcmp := cmpB_cases s.data.toList s'.data.toList
    obtain ⟨C, hC⟩ : ∃ C, Lib.compareBytes s.data.toList s'.data.toList = C := ⟨_, rfl⟩
    rw [hC] at HV hcmp
    have HC := Lib.hid hcmp
    clear hcb hos ih HL HK HL' HK' hcmp
    have HSC := Lib.hid (fun W => Tryd.strings_Compare s s' W)
    rw [hC] at HSC
    clear hC HC
    obtain ⟨c0, c1, c2, c3, c4, c5⟩ := hx.val
    obtain ⟨d0, d1, d2, d3, d4, d5⟩ := hy.val
    clear hx hy HB
    go_enter Tryd.func50, Tryd.ntmps50
    go_wp2_with fail
    refine (HSC.out _).mono ?_
    rintro e w2 ⟨rfl, rfl⟩
    go_wp2_with fail
    go_ret2
    exact ⟨by rw [HV.out]; rfl, hb⟩
  · have hfl' : fineL kids' = true := by
      rcases hcb with ⟨h, -⟩ | ⟨h, -⟩ | ⟨h, -⟩ | ⟨-, -, -, -, h⟩
      · omega
      · omega
      · omega
      · exact h
    have HFI := Lib.hid (show _ ∧ _ from ⟨fineL_mem hfl, fineL_mem hfl'⟩)
    rw [show ordT (.node 4 ⟨0, 0⟩ false s kids) (.node 4 q' t' s' kids') = ordL kids kids' from ord_list]
    clear hcb hs0 hfl hfl'
    have HZ := Lib.hid hz
    have V1 := Lib.hid (show ∀ (i : Nat) (y y' : Tree), kids[i]? = some y → kids'[i]? = some y' → kids.take i = kids'.take i → sameB y y' = false → ordL kids kids' = ordT y y' from fun i y y' => ordL_diff)
    have V2 := Lib.hid (show ∀ i : Nat, i < kids.length → kids'.length = i → kids.take i = kids'.take i → ordL kids kids' = (1, 0) from fun i => ordL_long)
    have V3 := Lib.hid (show ∀ i : Nat, kids.length = i → i < kids'.length → kids.take i = kids'.take i → ordL kids kids' = (-1, 0) from fun i => ordL_short)
    have V4 := Lib.hid (show ∀ i : Nat, kids.length = i → kids'.length = i → kids.take i = kids'.take i → ordL kids kids' = (0, 0) from fun i => ordL_end)
    obtain ⟨O, hO⟩ : ∃ O, ordL kids kids' = O := ⟨_, rfl⟩
    rw [hO] at V1 V2 V3 V4 ⊢
    clear hO
    obtain ⟨c0, c1, c2, c3, c4, c5⟩ := hx.val
    obtain ⟨d0, d1, d2, d3, d4, d5⟩ := hy.val
    go_enter Tryd.func50, Tryd.ntmps50
    clear hz HB
    go_wp2_with fail
    clear c0 c1 c2 c3 c4 c5 d0 d1 d2 d3 d4 d5
    generalize World.alloc _ _ = w0 at hb hx hy HZ ⊢
    go_loopw [45] (fun iv wr => ∃ i : Nat, i ≤ len ∧ i ≤ len' ∧ iv = .int .i64 i ∧ Hid (kids.take i = kids'.take i) ∧ w.heap.size + 1 + 1 ≤ wr.heap.size ∧ Below w.heap.size w wr ∧ Blk wr w.heap.size 26 (Val.box ⟨4, ⟨0, 0⟩, false, s, A, len, cap⟩) ∧ Blk wr (w.heap.size + 1) 26 (Val.box ⟨4, q', t', s', A', len', cap'⟩)) (fun iv _ => len - (intOf iv).toNat)
    case atStart => exact ⟨0, Nat.zero_le _, Nat.zero_le _, rfl, rfl, Nat.le_of_eq HZ.out.symm, hb, hx, hy⟩
    case round =>
      clear hb hx hy HZ
      obtain ⟨i, hi, hi', rfl, HP, hsz, hb, hx, hy⟩ := hrel
      by_cases hlt : i < len
      · by_cases hlt' : i < len'
        case neg =>
          obtain rfl : i = len' := by omega
          have HV := Lib.hid (V2.out _ (by rw [HL.out.2.1]; exact hlt) HL'.out.2 HP.out)
          obtain ⟨b, off, u, y, rfl, hB, g1, g2, hru, e0, e1, e2, e3, e4, e5⟩ := val_at HL.out.1 HL.out.2.1 HK.out.1 HK.out.2 hlt
          rw [← hb.cell (p := ⟨b, _, none⟩) hB] at e0 e1 e2 e3 e4 e5
          have hs0 := hb.size
          have hlt3 : w.heap.size + 1 < wr.heap.size := by omega
          have hlt2 : (i : Int) < len := by omega
          have HM := Lib.hid (hb.trans ((below_alloc wr (.cells u.box 26)).mono hb.size))
          obtain ⟨d0, d1, d2, d3, d4, d5⟩ := hy.val
          clear g1 g2 hru
          go_wp2_with fail
          go_ret2
          exact ⟨by rw [HV.out]; rfl, HM.out⟩
        obtain ⟨b, off, u, y, rfl, hB, g1, g2, hru, e0, e1, e2, e3, e4, e5⟩ := val_at HL.out.1 HL.out.2.1 HK.out.1 HK.out.2 hlt
        obtain ⟨b', off', u', y', rfl, hB', g1', g2', hru', f0, f1, f2, f3, f4, f5⟩ := val_at HL'.out.1 HL'.out.2 HK'.out.1 HK'.out.2 hlt'
        rw [← hb.cell (p := ⟨b, _, none⟩) hB] at e0 e1 e2 e3 e4 e5
        rw [← hb.cell (p := ⟨b', _, none⟩) hB'] at f0 f1 f2 f3 f4 f5
        have hs0 := hb.size
        have hlt2 : (i : Int) < len := by omega
        have hlt2' : (i : Int) < len' := by omega
        have q2 : ((i : Int) == (len' : Int)) = false := by simp; omega
        have hba := below_alloc wr (.cells u.box 26)
        have hnew := Blk.new wr 26 u.box
        have HW := Lib.hid (show _ ∧ _ ∧ _ ∧ _ from ⟨hb.trans (hba.mono hb.size), hx.keep hba, hy.keep hba, hnew⟩)
        have hgw : wr.heap.size < (wr.alloc (.cells u.box 26)).heap.size := by simp
        have HE := Lib.hid (show _ ∧ _ ∧ _ ∧ _ ∧ _ ∧ _ from ⟨(hba.cell (p := ⟨b', off' + i * 6, none⟩) (by simp only; omega)).trans f0, (hba.cell (p := ⟨b', off' + i * 6 + 1, none⟩) (by simp only; omega)).trans f1, (hba.cell (p := ⟨b', off' + i * 6 + 2, none⟩) (by simp only; omega)).trans f2, (hba.cell (p := ⟨b', off' + i * 6 + 3, none⟩) (by simp only; omega)).trans f3, (hba.cell (p := ⟨b', off' + i * 6 + 4, none⟩) (by simp only; omega)).trans f4, (hba.cell (p := ⟨b', off' + i * 6 + 5, none⟩) (by simp only; omega)).trans f5⟩)
        have hlt3 : w.heap.size + 1 < wr.heap.size := by omega
        obtain ⟨d0, d1, d2, d3, d4, d5⟩ := hy.val
        clear hba hnew hb hx hy f0 f1 f2 f3 f4 f5
        go_wp2_with fail
        clear d0 d1 d2 d3 d4 d5 e0 e1 e2 e3 e4 e5
        generalize World.alloc _ _ = w5 at HW hgw HE ⊢
        obtain ⟨hb, hx, hy, hnew⟩ := HW.out
        obtain ⟨f0, f1, f2, f3, f4, f5⟩ := HE.out
        have b0 : ∀ W, Below w5.heap.size w5 W → W.cell? ⟨b', off' + i * 6, none⟩ = some (.int .u8 u'.k) := fun W hW => (hW.cell (p := ⟨b', off' + i * 6, none⟩) (by simp only; omega)).trans f0
        have b1 : ∀ W, Below w5.heap.size w5 W → W.cell? ⟨b', off' + i * 6 + 1, none⟩ = some (.int .i64 u'.q.n) := fun W hW => (hW.cell (p := ⟨b', off' + i * 6 + 1, none⟩) (by simp only; omega)).trans f1
        have b2 : ∀ W, Below w5.heap.size w5 W → W.cell? ⟨b', off' + i * 6 + 2, none⟩ = some (.int .i64 u'.q.d) := fun W hW => (hW.cell (p := ⟨b', off' + i * 6 + 2, none⟩) (by simp only; omega)).trans f2
        have b3 : ∀ W, Below w5.heap.size w5 W → W.cell? ⟨b', off' + i * 6 + 3, none⟩ = some (.bool u'.t) := fun W hW => (hW.cell (p := ⟨b', off' + i * 6 + 3, none⟩) (by simp only; omega)).trans f3
        have b4 : ∀ W, Below w5.heap.size w5 W → W.cell? ⟨b', off' + i * 6 + 4, none⟩ = some (.string u'.s) := fun W hW => (hW.cell (p := ⟨b', off' + i * 6 + 4, none⟩) (by simp only; omega)).trans f4
        have b5 : ∀ W, Below w5.heap.size w5 W → W.cell? ⟨b', off' + i * 6 + 5, none⟩ = some (.slice u'.A u'.len u'.cap) := fun W hW => (hW.cell (p := ⟨b', off' + i * 6 + 5, none⟩) (by simp only; omega)).trans f5
        have a0 : ∀ W, Below w5.heap.size w5 W → W.cell? ⟨wr.heap.size, 0, none⟩ = some (.int .u8 u.k) := fun W hW => (hnew.keep hW).cell rfl
        have a1 : ∀ W, Below w5.heap.size w5 W → W.cell? ⟨wr.heap.size, 1, none⟩ = some (.int .i64 u.q.n) := fun W hW => (hnew.keep hW).cell rfl
        have a2 : ∀ W, Below w5.heap.size w5 W → W.cell? ⟨wr.heap.size, 2, none⟩ = some (.int .i64 u.q.d) := fun W hW => (hnew.keep hW).cell rfl
        have a3 : ∀ W, Below w5.heap.size w5 W → W.cell? ⟨wr.heap.size, 3, none⟩ = some (.bool u.t) := fun W hW => (hnew.keep hW).cell rfl
        have a4 : ∀ W, Below w5.heap.size w5 W → W.cell? ⟨wr.heap.size, 4, none⟩ = some (.string u.s) := fun W hW => (hnew.keep hW).cell rfl
        have a5 : ∀ W, Below w5.heap.size w5 W → W.cell? ⟨wr.heap.size, 5, none⟩ = some (.slice u.A u.len u.cap) := fun W hW => (hnew.keep hW).cell rfl
        have by5 : ∀ W, Below w5.heap.size w5 W → W.cell? ⟨w.heap.size + 1, 5, none⟩ = some (.slice (some ⟨b', off', none⟩) len' cap') := fun W hW => (hy.keep hW).cell rfl
        have HRS := Lib.hid (fun W (hW : Below w5.heap.size w5 W) => same_any d y y' u u' W (HL.out.2.2 _ (List.mem_of_getElem? g1)) (hru.in_ (hb.trans (hW.mono hb.size)) (Nat.le_trans hb.size hW.size)) (hru'.in_ (hb.trans (hW.mono hb.size)) (Nat.le_trans hb.size hW.size)))
        have HRO := Lib.hid (fun W (hW : Below w5.heap.size w5 W) => ih y y' u u' W (HL.out.2.2 _ (List.mem_of_getElem? g1)) (HFI.out.1 _ (List.mem_of_getElem? g1)) (HFI.out.2 _ (List.mem_of_getElem? g1')) (hru.in_ (hb.trans (hW.mono hb.size)) (Nat.le_trans hb.size hW.size)) (hru'.in_ (hb.trans (hW.mono hb.size)) (Nat.le_trans hb.size hW.size)))
        have HG := Lib.hid (show _ ∧ _ from ⟨g1, g1'⟩)
        have HVV := Lib.hid (fun h => V1.out _ _ _ g1 g1' HP.out h)
        clear g1 g1' g2 g2' hru hru' f0 f1 f2 f3 f4 f5
        cases hyy : sameB y y'
        case true =>
          rw [hyy] at HRS
          obtain ⟨hik, hy1⟩ := kid_at HG.out.1
          obtain ⟨hik', hy1'⟩ := kid_at HG.out.2
          have HS := Lib.hid (same_step hik hik' HP.out (by rw [← hy1, ← hy1']; exact sameB_iff.1 hyy))
          clear hyy hy1 hy1' hik hik' HRO HVV
          apply wp_region_head 8 80 (hm := by kernel_rfl) (hN := rfl)
          case h =>
            simp only [List.take_succ_cons, List.take_zero]
            ((apply head_still rfl; (intro W hW; go_simp; (try rfl))); simp only [Act.put, List.setIfInBounds_toArray, List.set_cons_succ, List.set_cons_zero])
            ((apply head_still rfl; (intro W hW; go_simp; (try rfl))); simp only [Act.put, List.setIfInBounds_toArray, List.set_cons_succ, List.set_cons_zero])
            ((apply head_still rfl; (intro W hW; go_simp; (try rfl))); simp only [Act.put, List.setIfInBounds_toArray, List.set_cons_succ, List.set_cons_zero])
            ((apply head_still rfl; (intro W hW; go_simp; (try rfl))); simp only [Act.put, List.setIfInBounds_toArray, List.set_cons_succ, List.set_cons_zero])
            ((apply head_still rfl; (intro W hW; go_simp; (try rfl))); simp only [Act.put, List.setIfInBounds_toArray, List.set_cons_succ, List.set_cons_zero])
            ((apply head_still rfl; (intro W hW; go_simp; (try rfl))); simp only [Act.put, List.setIfInBounds_toArray, List.set_cons_succ, List.set_cons_zero])
            ((apply head_call rfl; (intro W; go_simp; exact ⟨rfl, rfl⟩); (intro W hW; exact HRS.out W hW)); simp only [Act.put, List.setIfInBounds_toArray, List.set_cons_succ, List.set_cons_zero])
            ((apply head_still rfl; (intro W hW; go_simp; (try rfl))); simp only [Act.put, List.setIfInBounds_toArray, List.set_cons_succ, List.set_cons_zero])
            refine head_nil ?_
            intro W hW hF
            simp only [List.drop_succ_cons, List.drop_zero]
            have HM := Lib.hid (show _ ∧ _ ∧ _ ∧ _ from ⟨Nat.le_trans hsz (Nat.le_trans (Nat.le_of_lt hgw) hW.size), hb.trans (hW.mono hb.size), hx.keep hW, hy.keep hW⟩)
            clear hW hF a0 a1 a2 a3 a4 a5 b0 b1 b2 b3 b4 b5 by5 hb hx hy hnew HRS
            go_wp2_with fail
            go_roundw
            case rel => exact ⟨i + 1, by omega, by omega, by go_num, HS, HM.out⟩
            case measure => simp [intOf]; omega
          case hB => kernel_rfl
          all_goals rfl
        case false =>
          rw [hyy] at HRS
          have HV := Lib.hid (HVV.out hyy)
          clear hyy HVV
          obtain ⟨O1, hO1⟩ : ∃ O1, ordT y y' = O1 := ⟨_, rfl⟩
          rw [hO1] at HRO HV
          clear hO1
          apply wp_region_head 8 80 (hm := by kernel_rfl) (hN := rfl)
          case h =>
            simp only [List.take_succ_cons, List.take_zero]
            ((apply head_still rfl; (intro W hW; go_simp; (try rfl))); simp only [Act.put, List.setIfInBounds_toArray, List.set_cons_succ, List.set_cons_zero])
            ((apply head_still rfl; (intro W hW; go_simp; (try rfl))); simp only [Act.put, List.setIfInBounds_toArray, List.set_cons_succ, List.set_cons_zero])
            ((apply head_still rfl; (intro W hW; go_simp; (try rfl))); simp only [Act.put, List.setIfInBounds_toArray, List.set_cons_succ, List.set_cons_zero])
            ((apply head_still rfl; (intro W hW; go_simp; (try rfl))); simp only [Act.put, List.setIfInBounds_toArray, List.set_cons_succ, List.set_cons_zero])
            ((apply head_still rfl; (intro W hW; go_simp; (try rfl))); simp only [Act.put, List.setIfInBounds_toArray, List.set_cons_succ, List.set_cons_zero])
            ((apply head_still rfl; (intro W hW; go_simp; (try rfl))); simp only [Act.put, List.setIfInBounds_toArray, List.set_cons_succ, List.set_cons_zero])
            ((apply head_call rfl; (intro W; go_simp; exact ⟨rfl, rfl⟩); (intro W hW; exact HRS.out W hW)); simp only [Act.put, List.setIfInBounds_toArray, List.set_cons_succ, List.set_cons_zero])
            ((apply head_still rfl; (intro W hW; go_simp; (try rfl))); simp only [Act.put, List.setIfInBounds_toArray, List.set_cons_succ, List.set_cons_zero])
            refine head_nil ?_
            intro W hW hF
            simp only [List.drop_succ_cons, List.drop_zero]
            have hW0 := hW
            have HRO2 := Lib.hid (fun W' (hW' : Below W.heap.size W W') => HRO.out W' (hW0.trans (hW'.mono hW0.size)))
            replace a0 := fun W' (hW' : Below W.heap.size W W') => a0 W' (hW0.trans (hW'.mono hW0.size))
            replace a1 := fun W' (hW' : Below W.heap.size W W') => a1 W' (hW0.trans (hW'.mono hW0.size))
            replace a2 := fun W' (hW' : Below W.heap.size W W') => a2 W' (hW0.trans (hW'.mono hW0.size))
            replace a3 := fun W' (hW' : Below W.heap.size W W') => a3 W' (hW0.trans (hW'.mono hW0.size))
            replace a4 := fun W' (hW' : Below W.heap.size W W') => a4 W' (hW0.trans (hW'.mono hW0.size))
            replace a5 := fun W' (hW' : Below W.heap.size W W') => a5 W' (hW0.trans (hW'.mono hW0.size))
            replace b0 := fun W' (hW' : Below W.heap.size W W') => b0 W' (hW0.trans (hW'.mono hW0.size))
            replace b1 := fun W' (hW' : Below W.heap.size W W') => b1 W' (hW0.trans (hW'.mono hW0.size))
            replace b2 := fun W' (hW' : Below W.heap.size W W') => b2 W' (hW0.trans (hW'.mono hW0.size))
            replace b3 := fun W' (hW' : Below W.heap.size W W') => b3 W' (hW0.trans (hW'.mono hW0.size))
            replace b4 := fun W' (hW' : Below W.heap.size W W') => b4 W' (hW0.trans (hW'.mono hW0.size))
            replace b5 := fun W' (hW' : Below W.heap.size W W') => b5 W' (hW0.trans (hW'.mono hW0.size))
            replace by5 := fun W' (hW' : Below W.heap.size W W') => by5 W' (hW0.trans (hW'.mono hW0.size))
            replace hb := hb.trans (hW.mono hb.size)
            clear hW hW0 hF hx hy HRS HRO
            go_wp2_with fail
            apply wp_region_head 11 80 (hm := by kernel_rfl) (hN := rfl)
            case h =>
              simp only [List.take_succ_cons, List.take_zero]
              ((apply head_still rfl; (intro W hW; go_simp; (try rfl))); simp only [Act.put, List.setIfInBounds_toArray, List.set_cons_succ, List.set_cons_zero])
              ((apply head_still rfl; (intro W hW; go_simp; (try rfl))); simp only [Act.put, List.setIfInBounds_toArray, List.set_cons_succ, List.set_cons_zero])
              ((apply head_still rfl; (intro W hW; go_simp; (try rfl))); simp only [Act.put, List.setIfInBounds_toArray, List.set_cons_succ, List.set_cons_zero])
              ((apply head_still rfl; (intro W hW; go_simp; (try rfl))); simp only [Act.put, List.setIfInBounds_toArray, List.set_cons_succ, List.set_cons_zero])
              ((apply head_still rfl; (intro W hW; go_simp; (try rfl))); simp only [Act.put, List.setIfInBounds_toArray, List.set_cons_succ, List.set_cons_zero])
              ((apply head_still rfl; (intro W hW; go_simp; (try rfl))); simp only [Act.put, List.setIfInBounds_toArray, List.set_cons_succ, List.set_cons_zero])
              ((apply head_call rfl; (intro W; go_simp; exact ⟨rfl, rfl⟩); (intro W hW; exact HRO2.out W hW)); simp only [Act.put, List.setIfInBounds_toArray, List.set_cons_succ, List.set_cons_zero])
              ((apply head_still rfl; (intro W hW; go_simp; (try rfl))); simp only [Act.put, List.setIfInBounds_toArray, List.set_cons_succ, List.set_cons_zero])
              ((apply head_still rfl; (intro W hW; go_simp; (try rfl))); simp only [Act.put, List.setIfInBounds_toArray, List.set_cons_succ, List.set_cons_zero])
              ((apply head_still rfl; (intro W hW; go_simp; (try rfl))); simp only [Act.put, List.setIfInBounds_toArray, List.set_cons_succ, List.set_cons_zero])
              ((apply head_still rfl; (intro W hW; go_simp; (try rfl))); simp only [Act.put, List.setIfInBounds_toArray, List.set_cons_succ, List.set_cons_zero])
              refine head_nil ?_
              intro W hW hF
              simp only [List.drop_succ_cons, List.drop_zero]
              have HM := Lib.hid (hb.trans (hW.mono hb.size))
              clear hW hF a0 a1 a2 a3 a4 a5 b0 b1 b2 b3 b4 b5 by5 hb hnew HRO2
              go_wp2_with fail
              go_ret2
              exact ⟨by rw [HV.out]; rfl, HM.out⟩
            case hB => kernel_rfl
            all_goals rfl
          case hB => kernel_rfl
          all_goals rfl
      · obtain rfl : i = len := by omega
        have c5 := hx.val.2.2.2.2.2
        have d5 := hy.val.2.2.2.2.2
        by_cases hlt' : i < len'
        · have HV := Lib.hid (V3.out _ HL.out.2.1 (by rw [HL'.out.2]; exact hlt') HP.out)
          have q1 : decide (i < len') = true := by simpa using hlt'
          go_wp2_with fail
          go_ret2
          exact ⟨by rw [HV.out]; rfl, hb⟩
        · obtain rfl : i = len' := by omega
          have HV := Lib.hid (V4.out _ HL.out.2.1 HL'.out.2 HP.out)
          go_wp2_with fail
          go_ret2
          exact ⟨by rw [HV.out]; rfl, hb⟩

set_option maxHeartbeats 4000000 in
theorem compareV_any (T U : Tree) (x y : Val) (w : World) (hf : fitT T 10 = true) (hf' : fitT U 10 = true) (hr : RdB w w.heap.size T x) (hr' : RdB w w.heap.size U y) :
    Calls Tryd.prog 25 #[x.v, y.v] w (Ret w (.tuple #[.int .i64 (cmpV T U), .int .i64 (cmpE T U)])) := by
  have HR := Lib.hid (show _ ∧ _ from ⟨hr, hr'⟩)
  have HB := Lib.hid (two_boxes w 26 x y)
  have R1 := Lib.hid (fun W h h' => bothV_any T U x y W hf hf' h h')
  have R2 := Lib.hid (fun W h1 h2 h h' => ord_any 10 T U x y W hf h1 h2 h h')
  have V1 := Lib.hid (show bothV T U ≠ 0 → cmpV T U = 0 ∧ cmpE T U = bothV T U from fun h => ⟨if_pos h, if_pos h⟩)
  have V2 := Lib.hid (show bothV T U = 0 → cmpV T U = (ordT T U).1 ∧ cmpE T U = (ordT T U).2 from fun h => ⟨if_neg (fun n => n h), if_neg (fun n => n h)⟩)
  have HFI := Lib.hid (show bothV T U = 0 → fineT T = true ∧ fineT U = true from fun h => ⟨(valid_parts hf (bothV_ok h).1).2.2, (valid_parts hf' (bothV_ok h).2).2.2⟩)
  obtain ⟨k, q, t, s, A, len, cap⟩ := x
  obtain ⟨k', q', t', s', A', len', cap'⟩ := y
  generalize bothV T U = V at *
  generalize cmpV T U = CV at *
  generalize cmpE T U = CE at *
  clear hr hr' hf hf'
  go_enter Tryd.func25, Tryd.ntmps25
  obtain ⟨hb, -, hx, hy⟩ := HB.out
  obtain ⟨c0, c1, c2, c3, c4, c5⟩ := hx.val
  obtain ⟨d0, d1, d2, d3, d4, d5⟩ := hy.val
  go_wp2_with fail
  refine (R1.out _ (HR.out.1.in_ hb hb.size) (HR.out.2.in_ hb hb.size)).mono ?_
  rintro e w1 ⟨rfl, hb1⟩
  replace hx := hx.keep hb1
  replace hy := hy.keep hb1
  replace hb := hb.trans (hb1.mono hb.size)
  clear c0 c1 c2 c3 c4 c5 d0 d1 d2 d3 d4 d5
  clear hb1 HB
  by_cases hV : V = 0
  case neg =>
    have HV := Lib.hid (V1.out hV)
    have q1 : (V != 0) = true := by simpa using hV
    clear hV V1 V2 HFI
    go_wp2_with fail
    go_ret2
    exact ⟨by rw [HV.out.1, HV.out.2]; rfl, hb⟩
  subst hV
  have HV := Lib.hid (V2.out rfl)
  have hff := HFI.out rfl
  have HFF := Lib.hid hff
  clear hff HFI V1 V2 R1
  obtain ⟨c0, c1, c2, c3, c4, c5⟩ := hx.val
  obtain ⟨d0, d1, d2, d3, d4, d5⟩ := hy.val
  go_wp2_with fail
  refine (R2.out _ HFF.out.1 HFF.out.2 (HR.out.1.in_ hb hb.size) (HR.out.2.in_ hb hb.size)).mono ?_
  rintro e w2 ⟨rfl, hb1⟩
  replace hb := hb.trans (hb1.mono hb.size)
  clear c0 c1 c2 c3 c4 c5 d0 d1 d2 d3 d4 d5
  clear hb1 hx hy R2
  generalize ordT T U = O at HV ⊢
  go_wp2_with fail
  go_ret2
  exact ⟨by rw [HV.out.1, HV.out.2]; rfl, hb⟩
end Go.Proofs.YtjgampkpfjbmdaaDoor
end
