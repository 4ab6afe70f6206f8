/- Texts put together: VHelp, VAliveP, VValid. -/
import Derived.Test.YtjgampkpfjbmdaaDoorPack18
import Derived.Test.YtjgampkpfjbmdaaDoorPack19
import Derived.Test.YtjgampkpfjbmdaaDoorPack20
import Derived.Test.YtjgampkpfjbmdaaDoorPack12
section
/- The law's own helpers: of, str, list, Is; compares, reads. -/
namespace Go.Rel
open Go.RowKit
@[reducible] def numX (r : Rat2) : Val := ⟨1, r, false, ⟨#[]⟩, none, 0, 0⟩
@[reducible] def strX (s : ByteArray) : Val := ⟨3, ⟨0, 0⟩, false, s, none, 0, 0⟩
@[reducible] def boolX (t : Bool) : Val := ⟨2, ⟨0, 0⟩, t, ⟨#[]⟩, none, 0, 0⟩
@[reducible] def listX (A : Option Addr) (n cap : Nat) : Val := ⟨4, ⟨0, 0⟩, false, ⟨#[]⟩, A, n, cap⟩
end Go.Rel
namespace Go.Proofs.YtjgampkpfjbmdaaDoor
open Go.RowKit Go.Rel
set_option maxRecDepth 100000
set_option maxHeartbeats 1000000
theorem lof_any (n d : Int) (w : World) : Calls Tryd.prog 29 #[.int .i64 n, .int .i64 d] w (Ret w (numX ⟨n, d⟩).v) := by
  have HB := Lib.hid (box_val w 26 noneV)
  obtain ⟨hb, hres⟩ := HB.out
  go_enter Tryd.func29, Tryd.ntmps29
  go_wp2_with fail
  refine (of_any ⟨n, d⟩ _).mono ?_
  rintro e w1 ⟨rfl, hb1⟩
  replace hres := hres.keep hb1
  replace hb := hb.trans (hb1.mono hb.size)
  obtain ⟨r0, r1, r2, r3, r4, r5⟩ := hres.val
  have rf := hres.frozen
  have HN := Lib.hid (show _ ∧ _ from ⟨hres.set6 (.int .u8 1) (.int .i64 n) (.int .i64 d) (.bool false) (.string ⟨#[]⟩) (.slice none 0 0), below_set6 hb (Nat.le_refl _) (.int .u8 1) (.int .i64 n) (.int .i64 d) (.bool false) (.string ⟨#[]⟩) (.slice none 0 0)⟩)
  clear hres hb hb1 HB
  go_wp2_with fail
  obtain ⟨k0, k1, k2, k3, k4, k5⟩ := Blk.val (x := numX ⟨n, d⟩) HN.out.1
  exact bodyPost_ret (v := (numX ⟨n, d⟩).v) (by simp [results, Tryd.results29, go_sem, k0, k1, k2, k3, k4, k5]) rfl ⟨rfl, HN.out.2⟩
theorem lstr_any (s : ByteArray) (w : World) : Calls Tryd.prog 30 #[.string s] w (Ret w (strX s).v) := by
  have HB := Lib.hid (box_val w 26 noneV)
  obtain ⟨hb, hres⟩ := HB.out
  go_enter Tryd.func30, Tryd.ntmps30
  go_wp2_with fail
  refine (refStr_any s _).mono ?_
  rintro e w1 ⟨rfl, hb1⟩
  replace hres := hres.keep hb1
  replace hb := hb.trans (hb1.mono hb.size)
  obtain ⟨r0, r1, r2, r3, r4, r5⟩ := hres.val
  have rf := hres.frozen
  have HN := Lib.hid (show _ ∧ _ from ⟨hres.set6 (.int .u8 3) (.int .i64 0) (.int .i64 0) (.bool false) (.string s) (.slice none 0 0), below_set6 hb (Nat.le_refl _) (.int .u8 3) (.int .i64 0) (.int .i64 0) (.bool false) (.string s) (.slice none 0 0)⟩)
  clear hres hb hb1 HB
  go_wp2_with fail
  obtain ⟨k0, k1, k2, k3, k4, k5⟩ := Blk.val (x := strX s) HN.out.1
  exact bodyPost_ret (v := (strX s).v) (by simp [results, Tryd.results30, go_sem, k0, k1, k2, k3, k4, k5]) rfl ⟨rfl, HN.out.2⟩
theorem lis_any (t : Bool) (w : World) : Calls Tryd.prog 31 #[.bool t] w (Ret w (boolX t).v) := by
  have hn := Blk.new w 26 (Val.box (boolX t))
  obtain ⟨k0, k1, k2, k3, k4, k5⟩ := hn.val
  go_enter Tryd.func31, Tryd.ntmps31
  go_wp2_with fail
  exact bodyPost_ret (v := (boolX t).v) (by simp [results, Tryd.results31, go_sem, k0, k1, k2, k3, k4, k5]) rfl ⟨rfl, below_alloc _ _⟩
theorem llist_any (A : Option Addr) (n cap : Nat) (w : World) : Calls Tryd.prog 16 #[.slice A n cap] w (Ret w (listX A n cap).v) := by
  have hn := Blk.new w 26 (Val.box (listX A n cap))
  obtain ⟨k0, k1, k2, k3, k4, k5⟩ := hn.val
  go_enter Tryd.func16, Tryd.ntmps16
  go_wp2_with fail
  exact bodyPost_ret (v := (listX A n cap).v) (by simp [results, Tryd.results16, go_sem, k0, k1, k2, k3, k4, k5]) rfl ⟨rfl, below_alloc _ _⟩
set_option maxHeartbeats 4000000 in
/-- compares, of two values that compare so. -/
theorem compares_any (T U : Tree) (x y : Val) (want err : Int) (w : World) (hf : fitT T 10 = true) (hf' : fitT U 10 = true) (hr : RdB w w.heap.size T x) (hr' : RdB w w.heap.size U y) (hw : -1 ≤ want ∧ want ≤ 1) (h1 : cmpV T U = want ∧ cmpE T U = err) (h2 : cmpV U T = -want ∧ cmpE U T = err) :
    Calls Tryd.prog 32 #[x.v, y.v, .int .i64 want, .int .i64 err] w (Ret w (.bool true)) := by
  have R1 := Lib.hid (fun W h h' => compareV_any T U x y W hf hf' h h')
  have R2 := Lib.hid (fun W h h' => compareV_any U T y x W hf' hf h h')
  rw [h1.1, h1.2] at R1
  rw [h2.1, h2.2] at R2
  have HB := Lib.hid (two_boxes w 26 x y)
  have HR := Lib.hid (show _ ∧ _ from ⟨hr, hr'⟩)
  clear h1 h2 hr hr' hf hf'
  obtain ⟨k, q, t, s, A, len, cap⟩ := x
  obtain ⟨k', q', t', s', A', len', cap'⟩ := y
  obtain ⟨hb, -, hx, hy⟩ := HB.out
  obtain ⟨c0, c1, c2, c3, c4, c5⟩ := hx.val
  obtain ⟨d0, d1, d2, d3, d4, d5⟩ := hy.val
  have hwr : IntKind.i64.wrap (-want) = -want := by rw [IntKind.wrap_i64]; omega
  go_enter Tryd.func32, Tryd.ntmps32
  go_wp2_with fail
  generalize (w.alloc _).alloc _ = w1 at hb hx hy ⊢
  refine (R1.out _ (HR.out.1.in_ hb hb.size) (HR.out.2.in_ hb hb.size)).mono ?_
  rintro e w2 ⟨rfl, hb2⟩
  replace hx := hx.keep hb2
  replace hy := hy.keep hb2
  replace hb := hb.trans (hb2.mono hb.size)
  clear hb2 c0 c1 c2 c3 c4 c5 d0 d1 d2 d3 d4 d5
  obtain ⟨c0, c1, c2, c3, c4, c5⟩ := hx.val
  obtain ⟨d0, d1, d2, d3, d4, d5⟩ := hy.val
  go_wp2_with fail
  refine (R2.out _ (HR.out.2.in_ hb hb.size) (HR.out.1.in_ hb hb.size)).mono ?_
  rintro e w3 ⟨rfl, hb3⟩
  replace hb := hb.trans (hb3.mono hb.size)
  clear hb3 hx hy c0 c1 c2 c3 c4 c5 d0 d1 d2 d3 d4 d5
  go_wp2_with fail
  go_ret
  exact ⟨rfl, hb⟩
set_option maxHeartbeats 4000000 in
/-- reads, of a text and its value. -/
theorem reads_any (s : ByteArray) (T : Tree) (x : Val) (w : World) (hs : s.size ≤ 100000) (hf : fitT T 10 = true) (hr : RdB w w.heap.size T x) (ht : Tab w) (h1 : parseVT s.data.toList = T ∧ parseVE s.data.toList = 0) (h2 : textVS T = s ∧ textVE T = 0) :
    Calls Tryd.prog 27 #[.string s, x.v] w (Ret w (.bool true)) := by
  have R1 := Lib.hid (fun W h => parseV_any s W hs h)
  have R2 := Lib.hid (fun W h h' => textV_any T x W hf h h')
  have R3 := Lib.hid (fun y W h h' => refSame_any 10 T T x y W hf h h')
  rw [h1.1, h1.2] at R1
  rw [h2.1, h2.2] at R2
  rw [sameB_self] at R3
  have HB := Lib.hid (box_val w 26 x)
  have HR := Lib.hid (show _ ∧ _ from ⟨hr, ht⟩)
  clear h1 h2 hr ht hf
  obtain ⟨k, q, t, s0, A, len, cap⟩ := x
  obtain ⟨hb, hx⟩ := HB.out
  have hse : (s.toList == s.toList) = true := by simp
  go_enter Tryd.func27, Tryd.ntmps27
  go_wp2_with fail
  generalize w.alloc _ = w1 at hb hx ⊢
  refine (R1.out _ (HR.out.2.keep hb)).mono ?_
  rintro e w2 ⟨⟨k', q', t', s', A', len', cap'⟩, rfl, hfr, hb2⟩
  have hlt := hx.lt
  replace hx := hx.keep hb2
  replace hb := hb.trans (hb2.mono hb.size)
  have hlt2 := hx.lt
  obtain ⟨c0, c1, c2, c3, c4, c5⟩ := hx.val
  have hba := below_alloc w2 (.cells (Val.box ⟨k', q', t', s', A', len', cap'⟩) 26)
  have hy := Blk.new w2 26 (Val.box ⟨k', q', t', s', A', len', cap'⟩)
  have HW := Lib.hid (show _ ∧ _ ∧ _ ∧ _ from ⟨hx.keep hba, hy, hb.trans (hba.mono hb.size), (hfr.below hba).rd⟩)
  clear hb2 hx hb hba hy hfr
  go_wp2_with fail
  refine (R2.out _ (HR.out.1.in_ HW.out.2.2.1 HW.out.2.2.1.size) (HR.out.2.keep HW.out.2.2.1)).mono ?_
  rintro e w3 ⟨rfl, hb3⟩
  have hx := HW.out.1.keep hb3
  have hy := HW.out.2.1.keep hb3
  have hb := HW.out.2.2.1.trans (hb3.mono HW.out.2.2.1.size)
  have hry := RdB.below HW.out.2.2.2 hb3 hb3.size
  have HZ := Lib.hid (show _ ∧ _ from ⟨hb, hry⟩)
  clear hb hry hb3 HW c0 c1 c2 c3 c4 c5
  obtain ⟨c0, c1, c2, c3, c4, c5⟩ := hx.val
  obtain ⟨d0, d1, d2, d3, d4, d5⟩ := hy.val
  go_wp2_with fail
  refine (R3.out _ _ (HR.out.1.in_ HZ.out.1 HZ.out.1.size) HZ.out.2).mono ?_
  rintro e w4 ⟨rfl, hb4⟩
  go_wp2_with fail
  go_ret
  exact ⟨rfl, HZ.out.1.trans (hb4.mono HZ.out.1.size)⟩
end Go.Proofs.YtjgampkpfjbmdaaDoor
end
section
/- The chapter's examples in plain terms. -/
namespace Go.Rel
open Go.RowKit
/-- A slice of values that has just been made. -/
def IsSl (e : TypeId) (lo : Nat) (cs : Array Value) (n : Nat) (v : Value) (W : World) : Prop := ∃ g, v = .slice (some ⟨g, 0, none⟩) n n ∧ lo ≤ g ∧ Blk W g e cs
theorem IsSl.mono {e : TypeId} {lo : Nat} {cs : Array Value} {n : Nat} {v : Value} {W W' : World} (h : IsSl e lo cs n v W) (hb : Below W.heap.size W W') : IsSl e lo cs n v W' := by
  obtain ⟨g, h1, h2, h3⟩ := h
  exact ⟨g, h1, h2, h3.keep hb⟩
/-- A list over it. -/
def IsLs (e : TypeId) (lo : Nat) (cs : Array Value) (n : Nat) (v : Value) (W : World) : Prop := ∃ g, v = (listX (some ⟨g, 0, none⟩) n n).v ∧ lo ≤ g ∧ Blk W g e cs
theorem IsLs.mono {e : TypeId} {lo : Nat} {cs : Array Value} {n : Nat} {v : Value} {W W' : World} (h : IsLs e lo cs n v W) (hb : Below W.heap.size W W') : IsLs e lo cs n v W' := by
  obtain ⟨g, h1, h2, h3⟩ := h
  exact ⟨g, h1, h2, h3.keep hb⟩
theorem ok_listX (g n : Nat) (h : n ≤ 9223372036854775807) : Val.Ok (listX (some ⟨g, 0, none⟩) n n) := ⟨by simp, by simp, by simp, by simp, by simp, by simp, (show (0 : Nat) ≤ 9223372036854775807 by omega), by simp, h, fun h => by cases h⟩
/-- A list over a block of values reads as the list of what they read as. -/
theorem rd_list {W : World} {g : Nat} {e : TypeId} {xs : List Val} {ts : List Tree} {n : Nat} (hb : Blk W g e (xs.flatMap Val.cells).toArray) (hn : xs.length = n) (hn2 : ts.length = n) (h63 : n ≤ 9223372036854775807) (hx : ∀ (i : Nat) (t : Tree) (y : Val), ts[i]? = some t → xs[i]? = some y → RdB W W.heap.size t y) :
    RdB W W.heap.size (tList ts) (listX (some ⟨g, 0, none⟩) n n) := by
  refine Reads.mk (listX (some ⟨g, 0, none⟩) n n) ts xs (ok_listX g n h63) hn hn2 (fun _ => ⟨g, 0, rfl, hb.lt, fun i v hi j u hj => ?_⟩) hx
  have h6 : j < 6 := by have := (List.getElem?_eq_some_iff.1 hj).1; rwa [Val.cells_len] at this
  have key : ∀ (xs : List Val) (i : Nat), xs[i]? = some v → (xs.flatMap Val.cells)[i * 6 + j]? = some u := by
    intro xs
    induction xs with
    | nil => intro i hi; simp at hi
    | cons x r ih =>
      intro i hi
      cases i with
      | zero =>
        simp at hi
        subst hi
        rw [List.flatMap_cons, Nat.zero_mul, Nat.zero_add, List.getElem?_append_left (by rw [Val.cells_len]; exact h6)]
        exact hj
      | succ i =>
        rw [List.flatMap_cons, List.getElem?_append_right (by rw [Val.cells_len]; omega), Val.cells_len, show (i + 1) * 6 + j - 6 = i * 6 + j by omega]
        exact ih i (by simpa using hi)
  rw [show 0 + i * 6 + j = i * 6 + j by omega]
  exact hb.cell (by rw [List.getElem?_toArray]; exact key xs i hi)
def box1 (x : Val) : Array Value := #[.int .u8 x.k, .int .i64 x.q.n, .int .i64 x.q.d, .bool x.t, .string x.s, .slice x.A x.len x.cap]
theorem rd_list1 {W : World} {g : Nat} {e : TypeId} {x1 : Val} {t1 : Tree} (hb : Blk W g e (box1 x1)) (r1 : RdB W W.heap.size t1 x1) : RdB W W.heap.size (tList [t1]) (listX (some ⟨g, 0, none⟩) 1 1) :=
  rd_list (xs := [x1]) (ts := [t1]) hb rfl rfl (by decide) (fun i t y hi hy => by
    cases i with
    | zero => simp at hi hy; subst hi; subst hy; exact r1
    | succ i => simp at hi)
/-- Two values in a row. -/
def box2 (x y : Val) : Array Value := #[.int .u8 x.k, .int .i64 x.q.n, .int .i64 x.q.d, .bool x.t, .string x.s, .slice x.A x.len x.cap, .int .u8 y.k, .int .i64 y.q.n, .int .i64 y.q.d, .bool y.t, .string y.s, .slice y.A y.len y.cap]
def box3 (x y z : Val) : Array Value := #[.int .u8 x.k, .int .i64 x.q.n, .int .i64 x.q.d, .bool x.t, .string x.s, .slice x.A x.len x.cap, .int .u8 y.k, .int .i64 y.q.n, .int .i64 y.q.d, .bool y.t, .string y.s, .slice y.A y.len y.cap, .int .u8 z.k, .int .i64 z.q.n, .int .i64 z.q.d, .bool z.t, .string z.s, .slice z.A z.len z.cap]
theorem rd_list2 {W : World} {g : Nat} {e : TypeId} {x1 x2 : Val} {t1 t2 : Tree} (hb : Blk W g e (box2 x1 x2)) (r1 : RdB W W.heap.size t1 x1) (r2 : RdB W W.heap.size t2 x2) : RdB W W.heap.size (tList [t1, t2]) (listX (some ⟨g, 0, none⟩) 2 2) :=
  rd_list (xs := [x1, x2]) (ts := [t1, t2]) hb rfl rfl (by decide) (fun i t y hi hy => by
    match i, hi, hy with
    | 0, hi, hy => simp at hi hy; subst hi; subst hy; exact r1
    | 1, hi, hy => simp at hi hy; subst hi; subst hy; exact r2
    | i + 2, hi, hy => simp at hi)
theorem rd_list3 {W : World} {g : Nat} {e : TypeId} {x1 x2 x3 : Val} {t1 t2 t3 : Tree} (hb : Blk W g e (box3 x1 x2 x3)) (r1 : RdB W W.heap.size t1 x1) (r2 : RdB W W.heap.size t2 x2) (r3 : RdB W W.heap.size t3 x3) : RdB W W.heap.size (tList [t1, t2, t3]) (listX (some ⟨g, 0, none⟩) 3 3) :=
  rd_list (xs := [x1, x2, x3]) (ts := [t1, t2, t3]) hb rfl rfl (by decide) (fun i t y hi hy => by
    match i, hi, hy with
    | 0, hi, hy => simp at hi hy; subst hi; subst hy; exact r1
    | 1, hi, hy => simp at hi hy; subst hi; subst hy; exact r2
    | 2, hi, hy => simp at hi hy; subst hi; subst hy; exact r3
    | i + 3, hi, hy => simp at hi)
theorem rd_str (W : World) (s : ByteArray) (h : s.size ≤ 1000) : RdB W W.heap.size (tStr s) (strX s) := (fresh_leaf W 0 0 (ok_str (by omega))).rd
theorem rd_bool (W : World) (t : Bool) : RdB W W.heap.size (tBool t) (boolX t) := (fresh_leaf W 0 0 (k := 2) (q := ⟨0, 0⟩) (t := t) (s := ⟨#[]⟩) ⟨by simp, by simp, by simp, by simp, by simp, by simp, (show (0 : Nat) ≤ 9223372036854775807 by omega), by simp, by simp, fun _ => rfl⟩).rd
theorem valid_bool (t : Bool) : Valid (tBool t) := by
  refine ⟨?_, ?_, ?_⟩
  · unfold tBool partsT; simp
  · unfold tBool deepT; simp
  · unfold tBool fineT; rw [if_neg (by decide), if_pos rfl]; rfl
end Go.Rel
namespace Go.Proofs.YtjgampkpfjbmdaaDoor
open Go.RowKit Go.Rel
theorem rd_num (W : World) (q : Rat2) (h : RatOk q) : RdB W W.heap.size (tNum q) (numX q) := (fresh_leaf W 0 0 (ok_num (by obtain ⟨h1, h2, h3, h4, -⟩ := h; unfold Rat64; omega))).rd
theorem cmp_both {T U : Tree} {v e : Int} (hT : Valid T) (hU : Valid U) (h : ordT T U = (v, e)) : (cmpV T U = v ∧ cmpE T U = e) ∧ (cmpV U T = -v ∧ cmpE U T = e) := by
  have h2 := ord_anti T U hT.2.2 hU.2.2
  rw [h] at h2
  have b1 : bothV T U = 0 := (bothV_r hT.chk).trans hU.chk
  have b2 : bothV U T = 0 := (bothV_r hU.chk).trans hT.chk
  have c1 : cmpV T U = (ordT T U).1 := if_neg (fun n => n b1)
  have c2 : cmpE T U = (ordT T U).2 := if_neg (fun n => n b1)
  have c3 : cmpV U T = (ordT U T).1 := if_neg (fun n => n b2)
  have c4 : cmpE U T = (ordT U T).2 := if_neg (fun n => n b2)
  rw [c1, c2, c3, c4, h2, h]
  exact ⟨⟨rfl, rfl⟩, rfl, rfl⟩
def nT (k : Int) : Tree := tNum ⟨k, 1⟩
theorem ok_small {k : Int} (h1 : 1 ≤ k) (h2 : k ≤ 9) : RatOk ⟨k, 1⟩ := by
  refine ⟨(show (1 : Int) ≤ 1 by decide), (show (1 : Int) ≤ 1000000000 by decide), ?_, ?_, ?_⟩
  · show -1000000000 ≤ k; omega
  · show k ≤ 1000000000; omega
  · show Int.gcd k 1 = 1; exact Int.gcd_one_right k
theorem nT_valid {k : Int} (h1 : 1 ≤ k) (h2 : k ≤ 9) : Valid (nT k) := valid_num (ok_small h1 h2)
theorem nT_ne {k m : Int} (h : k ≠ m) : nT k ≠ nT m := fun e => h (by have := tNum_inj e; injection this)
theorem list_valid {l : List Tree} (hp : 1 + partsL l ≤ 100) (h : ∀ x ∈ l, Valid x) (hd : deepL l ≤ 6) : Valid (tList l) := valid_list hp hd (fineL_of fun x hx => (h x hx).2.2)
theorem ord_n {k m : Int} (h1 : 1 ≤ k) (h2 : k ≤ 9) (h3 : 1 ≤ m) (h4 : m ≤ 9) : ordT (nT k) (nT m) = (sgn k m, 0) := by
  unfold nT tNum
  rw [ord_num, cmpR_ok ⟨ok_small h1 h2, ok_small h3 h4⟩]
  simp
/-- The examples of the order. -/
theorem v12 : Valid (tList [nT 1, nT 2]) := list_valid (by decide +kernel) (by intro x hx; simp at hx; rcases hx with rfl | rfl <;> exact nT_valid (by decide) (by decide)) (by decide +kernel)
theorem v13 : Valid (tList [nT 1, nT 3]) := list_valid (by decide +kernel) (by intro x hx; simp at hx; rcases hx with rfl | rfl <;> exact nT_valid (by decide) (by decide)) (by decide +kernel)
theorem v15 : Valid (tList [nT 1, nT 5]) := list_valid (by decide +kernel) (by intro x hx; simp at hx; rcases hx with rfl | rfl <;> exact nT_valid (by decide) (by decide)) (by decide +kernel)
theorem v2t : Valid (tList [nT 2, tBool true]) := list_valid (by decide +kernel) (by intro x hx; simp at hx; rcases hx with rfl | rfl; exact nT_valid (by decide) (by decide); exact valid_bool true) (by decide +kernel)
def one1 : ByteArray := ⟨#[49]⟩
theorem vs1 : Valid (tStr one1) := valid_str (by decide +kernel)
theorem v1 : Valid (tList [nT 1]) := list_valid (by decide +kernel) (by intro x hx; simp at hx; subst hx; exact nT_valid (by decide) (by decide)) (by decide +kernel)
theorem vs : Valid (tList [tStr one1]) := list_valid (by decide +kernel) (by intro x hx; simp at hx; subst hx; exact vs1) (by decide +kernel)
theorem v11 : Valid (tList [tList [nT 1]]) := list_valid (by decide +kernel) (by intro x hx; simp at hx; subst hx; exact v1) (by decide +kernel)
theorem vss : Valid (tList [tList [tStr one1]]) := list_valid (by decide +kernel) (by intro x hx; simp at hx; subst hx; exact vs) (by decide +kernel)
theorem oL (l m : List Tree) : ordT (tList l) (tList m) = ordL l m := by unfold tList; exact ord_list
theorem al_a : ordT (tList [nT 1, nT 2]) (tList [nT 1, nT 3]) = (-1, 0) := by
  rw [oL, ordL_same, ordL_ne (nT_ne (by decide)), ord_n (by decide) (by decide) (by decide) (by decide)]; rfl
theorem al_b : ordT (tList [nT 1, nT 2]) (tList [nT 1]) = (1, 0) := by
  rw [oL, ordL_same]; rfl
theorem ne_ns : nT 1 ≠ tStr one1 := by simp [nT, tNum, tStr]
theorem al_c : ordT (tList [nT 1]) (tList [tStr one1]) = (0, 20) := by
  rw [oL, ordL_ne ne_ns]
  unfold nT tNum tStr
  rw [ord_kind (by decide)]
theorem al_d : ordT (tList [tList [nT 1]]) (tList [tList [tStr one1]]) = (0, 20) := by
  rw [oL, ordL_ne (fun e => ne_ns (by have := tList_inj e; injection this)), al_c]
theorem al_e : ordT (tList [nT 2, tBool true]) (tList [nT 1, nT 5]) = (1, 0) := by
  rw [oL, ordL_ne (nT_ne (by decide)), ord_n (by decide) (by decide) (by decide) (by decide)]; rfl
theorem al_num : nvV 6 4 = numX ⟨3, 2⟩ ∧ makeE 6 4 = 0 := by
  have h1 : makeE 6 4 = 0 := by decide +kernel
  have h2 : makeR 6 4 = ⟨3, 2⟩ := by decide +kernel
  exact ⟨by unfold nvV; rw [if_pos h1, h2], h1⟩
def sab : ByteArray := ⟨#[97, 98]⟩
def sc : ByteArray := ⟨#[99]⟩
def sabc : ByteArray := ⟨#[97, 98, 99]⟩
theorem al_add : addT (tStr sab) (tStr sc) = tStr sabc ∧ addE (tStr sab) (tStr sc) = 0 := by
  have hb : bothV (tStr sab) (tStr sc) = 0 := (bothV_r (valid_str (by decide +kernel)).chk).trans (valid_str (by decide +kernel)).chk
  have := (add_str hb).2 (by decide)
  exact ⟨this.1, this.2⟩
theorem al_add2 : addT (nT 1) (tStr one1) = .none_ ∧ addE (nT 1) (tStr one1) = 20 :=
  add_kind ((bothV_r (nT_valid (by decide) (by decide)).chk).trans vs1.chk) (.inl (show (1 : Int) ≠ 3 by decide))
def saqb : ByteArray := ⟨#[97, 34, 98]⟩
def sread : ByteArray := ⟨#[91, 49, 47, 50, 44, 32, 116, 114, 117, 101, 44, 32, 34, 97, 92, 34, 98, 34, 93]⟩
def tread : Tree := tList [tNum ⟨1, 2⟩, tBool true, tStr saqb]
theorem tread_valid : Valid tread := list_valid (by decide +kernel) (by
  intro x hx
  simp at hx
  rcases hx with rfl | rfl | rfl
  · exact valid_num (by decide +kernel)
  · exact valid_bool true
  · exact valid_str (by decide +kernel)) (by decide +kernel)
theorem tread_text : wrT tread = sread.data.toList := by
  have h1 : Lib.itoa 1 = [49] := by unfold Lib.itoa; rw [if_neg (by decide), dec_small (by decide)]; rfl
  have h2 : Lib.itoa 2 = [50] := by unfold Lib.itoa; rw [if_neg (by decide), dec_small (by decide)]; rfl
  have ht : textL ⟨1, 2⟩ = [49, 47, 50] := by unfold textL; rw [h1, h2]; rfl
  unfold tread tList tNum tBool tStr
  simp only [wrT, wrA]
  rw [ht]
  rfl
theorem text_of {T : Tree} {s : ByteArray} (h : Valid T) (ht : wrT T = s.data.toList) (hl : s.size ≤ 4000) : (parseVT s.data.toList = T ∧ parseVE s.data.toList = 0) ∧ (textVS T = s ∧ textVE T = 0) := by
  have hlen : (wrT T).length = s.size := by rw [ht]; simp
  have hp := parse_write h (by omega)
  rw [ht] at hp
  refine ⟨hp, ?_⟩
  rcases textV_cases T with ⟨h1, -⟩ | ⟨-, h2, -⟩ | ⟨-, -, h3, h4⟩
  · exact absurd h.chk h1
  · omega
  · exact ⟨by rw [h4, ht]; exact str_of s, h3⟩
theorem al_read : (parseVT sread.data.toList = tread ∧ parseVE sread.data.toList = 0) ∧ (textVS tread = sread ∧ textVE tread = 0) := text_of tread_valid tread_text (by decide)
end Go.Proofs.YtjgampkpfjbmdaaDoor
end
section
/- The law's valid(): whether values are valid and not great. -/
namespace Go.Rel
open Go.RowKit
/-- Valid and not great. -/
def vldB (T : Tree) : Bool := !greatT T && decide (chkT T = 0)
theorem great_fit3 {T : Tree} (h : greatT T = false) : fitT T 10 = true := by
  unfold greatT at h
  cases hf : fitT T 10 with
  | true => rfl
  | false => rw [hf] at h; simp at h
theorem vld_yes {T : Tree} (h : vldB T = true) : Valid T := by
  unfold vldB at h
  simp only [Bool.and_eq_true, Bool.not_eq_true', decide_eq_true_eq] at h
  exact valid_of (great_fit3 h.1) h.2
theorem vld_great {T : Tree} (h : greatT T = true) : vldB T = false := by unfold vldB; rw [h]; rfl
theorem vld_chk {T : Tree} (h : greatT T = false) : vldB T = decide (chkT T = 0) := by unfold vldB; rw [h]; rfl
end Go.Rel
namespace Go.Proofs.YtjgampkpfjbmdaaDoor
open Go.RowKit Go.Rel
set_option maxRecDepth 100000
set_option maxHeartbeats 4000000 in
theorem valid_any (A : Option Addr) (n cap : Nat) (ts : List Tree) (ys : List Val) (w : World) (hy : ys.length = n) (hl : ts.length = n) (hn : n ≤ 100) (hr : Recs Val.cells 6 w w.heap.size A ys) (hk : ∀ (i : Nat) (t : Tree) (y : Val), ts[i]? = some t → ys[i]? = some y → RdB w w.heap.size t y) :
    Calls Tryd.prog 9 #[.slice A n cap] w (Ret w (.bool (ts.all vldB))) := by
  have HL := Lib.hid (show _ ∧ _ ∧ _ ∧ _ from ⟨hy, hl, hr, hk⟩)
  clear hy hl hr hk
  go_enter Tryd.func9, Tryd.ntmps9
  go_wp2_with fail
  go_loopw [3] (fun iv wr => ∃ i : Nat, i ≤ n ∧ iv = .int .i64 i ∧ Below w.heap.size w wr ∧ (ts.take i).all vldB = true) (fun iv _ => n - (intOf iv).toNat)
  case atStart => exact ⟨0, Nat.zero_le _, rfl, Below.refl _ _, rfl⟩
  case round =>
    obtain ⟨i, hi, rfl, hb, hall⟩ := hrel
    have HA := Lib.hid (show _ ∧ _ from ⟨hb, hall⟩)
    by_cases hlt : i < n
    · obtain ⟨bb, off, u, y, rfl, hBB, g1, g2, hru, e0, e1, e2, e3, e4, e5⟩ := val_at HL.out.1 HL.out.2.1 HL.out.2.2.1 HL.out.2.2.2 hlt
      rw [← hb.cell (p := ⟨bb, _, none⟩) hBB] at e0 e1 e2 e3 e4 e5
      obtain ⟨G, hG⟩ : ∃ G, greatT y = G := ⟨_, rfl⟩
      have hgr := fun W h => refGreat_any y u W h
      rw [hG] at hgr
      have HG := Lib.hid (show _ ∧ _ ∧ _ ∧ _ from ⟨hgr, g1, hru, hG⟩)
      clear hgr g1 g2 hru hb hall hG
      have hlt2 : (i : Int) < n := by omega
      have hstep := List.take_succ_eq_append_getElem (l := ts) (i := i) (by have := HL.out.2.1; omega)
      have HS := Lib.hid hstep
      clear hstep
      go_wp2_with fail
      refine (HG.out.1 _ (HG.out.2.2.1.in_ HA.out.1 HA.out.1.size)).mono ?_
      rintro e w1 ⟨rfl, hb1⟩
      rw [← hb1.cell (p := ⟨bb, _, none⟩) (by have := HA.out.1.size; simp only; omega)] at e0 e1 e2 e3 e4 e5
      have hb := HA.out.1.trans (hb1.mono HA.out.1.size)
      have HB := Lib.hid hb
      clear hb1 hb
      have hyi : ts[i]'(by have := HL.out.2.1; omega) = y := by
        have := HG.out.2.1
        rw [List.getElem?_eq_getElem (by have := HL.out.2.1; omega)] at this
        exact Option.some.inj this
      cases G with
      | true =>
        go_wp2_with fail
        go_ret
        have hf : ts.all vldB = false := by
          rw [List.all_eq_false]
          exact ⟨y, List.mem_of_getElem? HG.out.2.1, by rw [vld_great HG.out.2.2.2]; simp⟩
        exact ⟨by rw [hf]; rfl, HB.out⟩
      | false =>
        have hvc := vld_chk HG.out.2.2.2
        have hck := fun W h => refChk_any y u W (great_fit3 HG.out.2.2.2) h
        generalize chkT y = C at hvc hck
        have HC := Lib.hid (show _ ∧ _ from ⟨hvc, hck⟩)
        clear hvc hck
        go_wp2_with fail
        refine (HC.out.2 _ (HG.out.2.2.1.in_ HB.out HB.out.size)).mono ?_
        rintro e w2 ⟨rfl, hb2⟩
        have hb := HB.out.trans (hb2.mono HB.out.size)
        have HD := Lib.hid hb
        clear hb2 hb e0 e1 e2 e3 e4 e5
        by_cases hC : C = 0
        · have hc1 : (C != 0) = false := by simpa using hC
          have hv : vldB y = true := by rw [HC.out.1]; exact decide_eq_true hC
          have HV := Lib.hid hv
          clear hv hC
          go_wp2_with fail
          go_roundw
          case rel => exact ⟨i + 1, hlt, by go_num, HD.out, by rw [HS.out, List.all_append, HA.out.2, hyi]; simp [HV.out]⟩
          case measure => simp [intOf]; omega
        · have hc1 : (C != 0) = true := by simpa using hC
          have hv : vldB y = false := by rw [HC.out.1]; exact decide_eq_false hC
          have HV := Lib.hid hv
          clear hv hC
          go_wp2_with fail
          go_ret
          have hf : ts.all vldB = false := by
            rw [List.all_eq_false]
            exact ⟨y, List.mem_of_getElem? HG.out.2.1, by rw [HV.out]; simp⟩
          exact ⟨by rw [hf]; rfl, HD.out⟩
    · obtain rfl : i = n := by omega
      clear hb hall
      have hlt2 : ¬ (i : Int) < i := by omega
      go_wp2_with fail
      go_ret
      have ht := HA.out.2
      rw [List.take_of_length_le (by have := HL.out.2.1; omega)] at ht
      exact ⟨by rw [ht]; rfl, HA.out.1⟩
end Go.Proofs.YtjgampkpfjbmdaaDoor
end
