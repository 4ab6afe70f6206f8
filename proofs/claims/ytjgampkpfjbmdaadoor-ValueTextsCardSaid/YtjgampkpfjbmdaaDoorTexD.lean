/- The reference's Read. -/
import Derived.Test.YtjgampkpfjbmdaaDoorTexC
import Derived.Test.YtjgampkpfjbmdaaDoorPack21
namespace Go.Rel
open Go.RowKit
theorem refR_nil (d : Nat) : refR (d + 1) [] = none := by
  rw [refR]
  simp only [skip_nil]
  unfold numR
  rw [show (cutN []).1 = [] from rfl, if_neg parse_none]
theorem refR_true {d : Nat} {l r : Bs} (h : skipL [116, 114, 117, 101] l = some r) : refR (d + 1) l = some (tBool true, r) := by rw [refR, h]
theorem refR_false {d : Nat} {l r : Bs} (h0 : skipL [116, 114, 117, 101] l = none) (h : skipL [102, 97, 108, 115, 101] l = some r) : refR (d + 1) l = some (tBool false, r) := by rw [refR, h0, h]
theorem refR_str {d : Nat} {l r : Bs} (h0 : skipL [116, 114, 117, 101] l = none) (h1 : skipL [102, 97, 108, 115, 101] l = none) (h : skipL [34] l = some r) : refR (d + 1) l = strR r := by rw [refR, h0, h1, h]
theorem refR_num {d : Nat} {l : Bs} (h0 : skipL [116, 114, 117, 101] l = none) (h1 : skipL [102, 97, 108, 115, 101] l = none) (h2 : skipL [34] l = none) (h : skipL [91] l = none) : refR (d + 1) l = numR l := by rw [refR, h0, h1, h2, h]
theorem refR_list {d : Nat} {l r : Bs} (h0 : skipL [116, 114, 117, 101] l = none) (h1 : skipL [102, 97, 108, 115, 101] l = none) (h2 : skipL [34] l = none) (h : skipL [91] l = some r) : refR (d + 1) l = listR (refR d) r := by rw [refR, h0, h1, h2, h]
theorem listR_nil {f : Bs → Option (Tree × Bs)} {l r : Bs} (h : skipL [93] l = some r) : listR f l = some (tList [], r) := by unfold listR; rw [h]
theorem listR_loop {f : Bs → Option (Tree × Bs)} {l : Bs} (h : skipL [93] l = none) : listR f l = loopR f (l.length + 1) [] l := by unfold listR; rw [h]
theorem loopR_none {f : Bs → Option (Tree × Bs)} {n : Nat} {acc : List Tree} {l : Bs} (h : f l = none) : loopR f (n + 1) acc l = none := by rw [loopR, h]
theorem loopR_end {f : Bs → Option (Tree × Bs)} {n : Nat} {acc : List Tree} {l r r2 : Bs} {T : Tree} (h : f l = some (T, r)) (h2 : skipL [93] r = some r2) : loopR f (n + 1) acc l = some (tList (acc ++ [T]), r2) := by
  rw [loopR, h]; dsimp only; rw [h2]
theorem loopR_more {f : Bs → Option (Tree × Bs)} {n : Nat} {acc : List Tree} {l r r2 : Bs} {T : Tree} (h : f l = some (T, r)) (h2 : skipL [93] r = none) (h3 : skipL [44, 32] r = some r2) : loopR f (n + 1) acc l = loopR f n (acc ++ [T]) r2 := by
  rw [loopR, h]; dsimp only; rw [h2]; dsimp only; rw [h3]
theorem loopR_bad {f : Bs → Option (Tree × Bs)} {n : Nat} {acc : List Tree} {l r : Bs} {T : Tree} (h : f l = some (T, r)) (h2 : skipL [93] r = none) (h3 : skipL [44, 32] r = none) : loopR f (n + 1) acc l = none := by
  rw [loopR, h]; dsimp only; rw [h2]; dsimp only; rw [h3]
theorem RdR.shape {e : TypeId} {w : World} {s : ByteArray} {p : Nat} {R : Option (Tree × Bs)} {en : Ending} {w' : World} (h : RdR e w s p R en w') : ∃ (x : Val) (q : Nat) (b : Bool), en = .returned (.tuple #[x.v, .int .i64 q, .bool b]) ∧ Below w.heap.size w w' := by
  rcases h with ⟨-, x, q, h1, h2⟩ | ⟨T, x, q, -, h1, -, -, -, h2⟩
  · exact ⟨x, q, false, h1, h2⟩
  · exact ⟨x, q, true, h1, h2⟩
theorem RdR.up {e : TypeId} {w W : World} {s : ByteArray} {p : Nat} {R : Option (Tree × Bs)} {en : Ending} {W' W'' : World} (h : RdR e W s p R en W') (hw : w.heap.size ≤ W.heap.size) (hb : Below w.heap.size w W'') (hk : ∀ k, W.heap.size ≤ k → k < W'.heap.size → W''.heap[k]? = W'.heap[k]?) : RdR e w s p R en W'' := by
  rcases h with ⟨h0, x, q, h1, h2⟩ | ⟨T, x, q, h0, h1, h3, h4, h5, h2⟩
  · exact .inl ⟨h0, x, q, h1, hb⟩
  · exact .inr ⟨T, x, q, h0, h1, h3, h4, h5.keep hw hk, hb⟩
/-- Starts, one way or the other. -/
def StP (w : World) (p : Nat) (s t : ByteArray) (en : Ending) (w' : World) : Prop :=
  ((skipL t.data.toList (s.data.toList.drop p) = some (s.data.toList.drop (p + t.size)) ∧ p + t.size ≤ s.size ∧ en = .returned (.bool true)) ∨ (skipL t.data.toList (s.data.toList.drop p) = none ∧ en = .returned (.bool false))) ∧ Below w.heap.size w w'
end Go.Rel
namespace Go.Proofs.YtjgampkpfjbmdaaDoor
open Go.RowKit Go.Rel
set_option maxRecDepth 100000
theorem starts_two (s t : ByteArray) (p : Nat) (w : World) (hp : p ≤ s.size) (hs : s.size ≤ 100000) (ht : t.size ≤ 100000) :
    Calls Tryd.prog 67 #[.string s, .int .i64 p, .string t] w (StP w p s t) := by
  refine (starts_any s t p w hp hs ht).mono ?_
  rintro e w' ⟨rfl, h3⟩
  refine ⟨?_, h3⟩
  cases hP : t.data.toList.isPrefixOf (s.data.toList.drop p) with
  | true =>
    have h4 : skipL t.data.toList (s.data.toList.drop p) = some (s.data.toList.drop (p + t.size)) := by
      unfold skipL
      rw [if_pos hP, List.drop_drop]
      simp
    have h5 := skipL_len h4
    simp only [List.length_drop] at h5
    have h6 : t.data.toList.length = t.size := by simp
    have h7 : s.data.toList.length = s.size := by simp
    exact .inl ⟨h4, by omega, rfl⟩
  | false => exact .inr ⟨by unfold skipL; rw [hP]; rfl, rfl⟩
def ReadIs (d : Nat) : Prop := ∀ (s : ByteArray) (p : Nat) (w : World), p ≤ s.size → s.size ≤ 4000 →
    Calls Tryd.prog 46 #[.string s, .int .i64 p, .int .i64 d] w (RdR 26 w s p (refR d (s.data.toList.drop p)))
set_option maxHeartbeats 4000000 in
theorem read_zero : ReadIs 0 := by
  intro s p w hp hs
  have HB := Lib.hid (show _ ∧ _ from (box_val w 26 noneV).symm)
  show Calls _ _ #[_, _, .int .i64 0] w _
  go_enter Tryd.func46, Tryd.ntmps46
  go_wp2_with fail
  generalize w.alloc _ = W at HB ⊢
  obtain ⟨r0, r1, r2, r3, r4, r5⟩ := HB.out.1.val
  have rf := HB.out.1.frozen
  have rl := HB.out.1.lt
  go_wp2_with fail
  obtain ⟨k0, k1, k2, k3, k4, k5⟩ := Blk.val (x := noneV) HB.out.1
  exact bodyPost_ret (v := .tuple #[Val.v noneV, .int .i64 0, .bool false]) (by simp [results, Tryd.results46, go_sem, k0, k1, k2, k3, k4, k5]) rfl (.inl ⟨rfl, noneV, 0, rfl, HB.out.2⟩)
set_option maxHeartbeats 16000000 in
theorem read_succ (d : Nat) (hd : d ≤ 6) (ih : ReadIs d) : ReadIs (d + 1) := by
  intro s p w hp hs
  have hlen : s.data.toList.length = s.size := by simp
  have HB := Lib.hid (show _ ∧ _ from (box_val w 26 noneV).symm)
  have hd0 : (((d : Int) + 1) == 0) = false := by rw [beq_eq_false_iff_ne]; omega
  have hcast : ((d + 1 : Nat) : Int) = (d : Int) + 1 := by omega
  rw [hcast]
  clear hcast
  obtain ⟨RR, hRR⟩ : ∃ RR, refR (d + 1) (s.data.toList.drop p) = RR := ⟨_, rfl⟩
  rw [hRR]
  have HR := Lib.hid hRR
  clear hRR
  by_cases hlt : p < s.size
  case neg =>
    have hge : s.size ≤ p := by omega
    have hnone : RR = none := by
      rw [← HR.out, show s.data.toList.drop p = [] from List.drop_eq_nil_iff.2 (by rw [hlen]; omega)]
      exact refR_nil d
    have HNN := Lib.hid hnone
    clear hnone
    go_enter Tryd.func46, Tryd.ntmps46
    go_wp2_with fail
    generalize w.alloc _ = W at HB ⊢
    obtain ⟨r0, r1, r2, r3, r4, r5⟩ := HB.out.1.val
    have rf := HB.out.1.frozen
    have rl := HB.out.1.lt
    go_wp2_with fail
    obtain ⟨k0, k1, k2, k3, k4, k5⟩ := Blk.val (x := noneV) HB.out.1
    exact bodyPost_ret (v := .tuple #[Val.v noneV, .int .i64 0, .bool false]) (by simp [results, Tryd.results46, go_sem, k0, k1, k2, k3, k4, k5]) rfl (.inl ⟨HNN.out, noneV, 0, rfl, HB.out.2⟩)
  have hge : ¬ s.size ≤ p := by omega
  go_enter Tryd.func46, Tryd.ntmps46
  go_wp2_with fail
  generalize w.alloc _ = W at HB ⊢
  refine (starts_two s _ p _ hp (by omega) (by decide)).mono ?_
  rintro e W1 ⟨(⟨h0, hle, rfl⟩ | ⟨h0, rfl⟩), hb1⟩
  · have HB1 := Lib.hid (show _ ∧ _ from ⟨HB.out.1.keep hb1, HB.out.2.trans (hb1.mono HB.out.2.size)⟩)
    have HE := Lib.hid (HR.out.symm.trans (refR_true (d := d) h0))
    replace hle : p + 4 ≤ s.size := hle
    clear hb1 h0 HB
    go_wp2_with fail
    refine (lis_any true _).mono ?_
    rintro e W9 ⟨rfl, hb9⟩
    have n0 := HB1.out.1.keep hb9
    have n3 := HB1.out.2.trans (hb9.mono HB1.out.2.size)
    have HY := Lib.hid (show _ ∧ _ from ⟨n0, n3⟩)
    clear n0 n3 hb9
    obtain ⟨r0, r1, r2, r3, r4, r5⟩ := HY.out.1.val
    have rf := HY.out.1.frozen
    have n1 := HY.out.1.set6 (.int .u8 2) (.int .i64 0) (.int .i64 0) (.bool true) (.string ⟨#[]⟩) (.slice none 0 0)
    have n2 := below_set6 HY.out.2 (Nat.le_refl _) (.int .u8 2) (.int .i64 0) (.int .i64 0) (.bool true) (.string ⟨#[]⟩) (.slice none 0 0)
    have HZ := Lib.hid (show _ ∧ _ from ⟨n1, n2⟩)
    clear n1 n2
    go_wp2_with fail
    obtain ⟨k0, k1, k2, k3, k4, k5⟩ := Blk.val (x := boolX true) HZ.out.1
    exact bodyPost_ret (v := .tuple #[(boolX true).v, .int .i64 ((p + 4 : Nat) : Int), .bool true]) (by simp [results, Tryd.results46, go_sem, k0, k1, k2, k3, k4, k5]) rfl (.inr ⟨_, boolX true, p + 4, HE.out, rfl, by omega, hle, fresh_leaf _ _ _ ok_bool, HZ.out.2⟩)
  have HB1 := Lib.hid (show _ ∧ _ from ⟨HB.out.1.keep hb1, HB.out.2.trans (hb1.mono HB.out.2.size)⟩)
  have HS0 := Lib.hid h0
  clear hb1 h0 HB
  go_wp2_with fail
  refine (starts_two s _ p _ hp (by omega) (by decide)).mono ?_
  rintro e W2 ⟨(⟨h0, hle, rfl⟩ | ⟨h0, rfl⟩), hb1⟩
  · have HB2 := Lib.hid (show _ ∧ _ from ⟨HB1.out.1.keep hb1, HB1.out.2.trans (hb1.mono HB1.out.2.size)⟩)
    have HE := Lib.hid (HR.out.symm.trans (refR_false (d := d) HS0.out h0))
    replace hle : p + 5 ≤ s.size := hle
    clear hb1 h0 HB1
    go_wp2_with fail
    refine (lis_any false _).mono ?_
    rintro e W9 ⟨rfl, hb9⟩
    have n0 := HB2.out.1.keep hb9
    have n3 := HB2.out.2.trans (hb9.mono HB2.out.2.size)
    have HY := Lib.hid (show _ ∧ _ from ⟨n0, n3⟩)
    clear n0 n3 hb9
    obtain ⟨r0, r1, r2, r3, r4, r5⟩ := HY.out.1.val
    have rf := HY.out.1.frozen
    have n1 := HY.out.1.set6 (.int .u8 2) (.int .i64 0) (.int .i64 0) (.bool false) (.string ⟨#[]⟩) (.slice none 0 0)
    have n2 := below_set6 HY.out.2 (Nat.le_refl _) (.int .u8 2) (.int .i64 0) (.int .i64 0) (.bool false) (.string ⟨#[]⟩) (.slice none 0 0)
    have HZ := Lib.hid (show _ ∧ _ from ⟨n1, n2⟩)
    clear n1 n2
    go_wp2_with fail
    obtain ⟨k0, k1, k2, k3, k4, k5⟩ := Blk.val (x := boolX false) HZ.out.1
    exact bodyPost_ret (v := .tuple #[(boolX false).v, .int .i64 ((p + 5 : Nat) : Int), .bool true]) (by simp [results, Tryd.results46, go_sem, k0, k1, k2, k3, k4, k5]) rfl (.inr ⟨_, boolX false, p + 5, HE.out, rfl, by omega, hle, fresh_leaf _ _ _ ok_bool, HZ.out.2⟩)
  have HB2 := Lib.hid (show _ ∧ _ from ⟨HB1.out.1.keep hb1, HB1.out.2.trans (hb1.mono HB1.out.2.size)⟩)
  have HS1 := Lib.hid h0
  clear hb1 h0 HB1
  have hdrop : s.data.toList.drop p = s[p] :: s.data.toList.drop (p + 1) := by
    rw [List.drop_eq_getElem_cons (by simpa using hlt)]; rfl
  by_cases h34 : s[p] = 34
  · have e34 : ((s[p].toNat : Int) == 34) = true := by rw [h34]; rfl
    have hk : skipL [34] (s.data.toList.drop p) = some (s.data.toList.drop (p + 1)) := by rw [hdrop, h34]; exact skip_yes [34] _
    have HE := Lib.hid (HR.out.symm.trans (refR_str (d := d) HS0.out HS1.out hk))
    clear hdrop h34 hk
    go_wp2_with fail
    refine (refQuot_any s p _ hlt (by omega)).mono ?_
    intro e W8 h8
    obtain ⟨x, q, ok, rfl, hb8⟩ := h8.shape
    obtain ⟨xk, ⟨xn, xd⟩, xt, xs, xA, xl, xc⟩ := x
    have H8 := Lib.hid h8
    clear h8
    have n0 := HB2.out.1.keep hb8
    have n3 := HB2.out.2.trans (hb8.mono HB2.out.2.size)
    have hnew := Blk.new W8 26 (Val.box ⟨xk, ⟨xn, xd⟩, xt, xs, xA, xl, xc⟩)
    have hK8 := n0.lt
    obtain ⟨r0, r1, r2, r3, r4, r5⟩ := n0.val
    have rf := n0.frozen
    have n1 := (n0.set6 (.int .u8 xk) (.int .i64 xn) (.int .i64 xd) (.bool xt) (.string xs) (.slice xA xl xc)).keep (below_alloc _ (.cells (Val.box ⟨xk, ⟨xn, xd⟩, xt, xs, xA, xl, xc⟩) 26))
    have n2 := (below_set6 n3 (Nat.le_refl _) (.int .u8 xk) (.int .i64 xn) (.int .i64 xd) (.bool xt) (.string xs) (.slice xA xl xc)).alloc (by simpa using n3.size) (.cells (Val.box ⟨xk, ⟨xn, xd⟩, xt, xs, xA, xl, xc⟩) 26)
    have HZ := Lib.hid (show _ ∧ _ from ⟨n1, n2⟩)
    obtain ⟨d0, d1, d2, d3, d4, d5⟩ := hnew.val
    have hX1 := HB2.out.1.lt
    clear n0 n3 hb8
    clear n1 n2 hnew
    go_wp2_with fail
    obtain ⟨k0, k1, k2, k3, k4, k5⟩ := Blk.val (x := ⟨xk, ⟨xn, xd⟩, xt, xs, xA, xl, xc⟩) HZ.out.1
    refine bodyPost_ret (v := .tuple #[Val.v ⟨xk, ⟨xn, xd⟩, xt, xs, xA, xl, xc⟩, .int .i64 q, .bool ok]) (by simp [results, Tryd.results46, go_sem, k0, k1, k2, k3, k4, k5]) rfl ?_
    rw [HE.out]
    exact H8.out.up HB2.out.2.size HZ.out.2 (fun k h1 h2 => ((below_alloc _ _).block k (by simpa using h2)).trans (far_set6 (by omega) _ _ _ _ _ _))
  have n34 : ((s[p].toNat : Int) == 34) = false := byte_ne (D := 34) h34
  have hk2 : skipL [34] (s.data.toList.drop p) = none := by rw [hdrop]; exact skip_no _ _ (fun h => h34 h.symm)
  have HS2 := Lib.hid hk2
  clear hk2 h34
  by_cases h91 : s[p] = 91
  case neg =>
    have n91 : ((s[p].toNat : Int) != 91) = true := by have h : ((s[p].toNat : Int) == 91) = false := byte_ne (D := 91) h91; unfold bne; rw [h]; rfl
    have hk3 : skipL [91] (s.data.toList.drop p) = none := by rw [hdrop]; exact skip_no _ _ (fun h => h91 h.symm)
    have HE := Lib.hid (HR.out.symm.trans (refR_num (d := d) HS0.out HS1.out HS2.out hk3))
    clear hdrop h91 hk3
    go_wp2_with fail
    refine (refNumL_any s p _ hp (by omega)).mono ?_
    intro e W8 h8
    obtain ⟨x, q, ok, rfl, hb8⟩ := h8.shape
    obtain ⟨xk, ⟨xn, xd⟩, xt, xs, xA, xl, xc⟩ := x
    have H8 := Lib.hid h8
    clear h8
    have n0 := HB2.out.1.keep hb8
    have n3 := HB2.out.2.trans (hb8.mono HB2.out.2.size)
    have hnew := Blk.new W8 26 (Val.box ⟨xk, ⟨xn, xd⟩, xt, xs, xA, xl, xc⟩)
    have hK8 := n0.lt
    obtain ⟨r0, r1, r2, r3, r4, r5⟩ := n0.val
    have rf := n0.frozen
    have n1 := (n0.set6 (.int .u8 xk) (.int .i64 xn) (.int .i64 xd) (.bool xt) (.string xs) (.slice xA xl xc)).keep (below_alloc _ (.cells (Val.box ⟨xk, ⟨xn, xd⟩, xt, xs, xA, xl, xc⟩) 26))
    have n2 := (below_set6 n3 (Nat.le_refl _) (.int .u8 xk) (.int .i64 xn) (.int .i64 xd) (.bool xt) (.string xs) (.slice xA xl xc)).alloc (by simpa using n3.size) (.cells (Val.box ⟨xk, ⟨xn, xd⟩, xt, xs, xA, xl, xc⟩) 26)
    have HZ := Lib.hid (show _ ∧ _ from ⟨n1, n2⟩)
    obtain ⟨d0, d1, d2, d3, d4, d5⟩ := hnew.val
    have hX1 := HB2.out.1.lt
    clear n0 n3 hb8
    clear n1 n2 hnew
    go_wp2_with fail
    obtain ⟨k0, k1, k2, k3, k4, k5⟩ := Blk.val (x := ⟨xk, ⟨xn, xd⟩, xt, xs, xA, xl, xc⟩) HZ.out.1
    refine bodyPost_ret (v := .tuple #[Val.v ⟨xk, ⟨xn, xd⟩, xt, xs, xA, xl, xc⟩, .int .i64 q, .bool ok]) (by simp [results, Tryd.results46, go_sem, k0, k1, k2, k3, k4, k5]) rfl ?_
    rw [HE.out]
    exact H8.out.up HB2.out.2.size HZ.out.2 (fun k h1 h2 => ((below_alloc _ _).block k (by simpa using h2)).trans (far_set6 (by omega) _ _ _ _ _ _))
  have e91 : ((s[p].toNat : Int) != 91) = false := by rw [h91]; rfl
  have hk3 : skipL [91] (s.data.toList.drop p) = some (s.data.toList.drop (p + 1)) := by rw [hdrop, h91]; exact skip_yes [91] _
  have HE := Lib.hid (HR.out.symm.trans (refR_list (d := d) HS0.out HS1.out HS2.out hk3))
  clear hdrop h91 hk3 HS0 HS1 HS2 HR
  have hba := below_alloc W2 (.cells #[.int .u8 4, .int .i64 0, .int .i64 0, .bool false, .string ⟨#[]⟩, .slice none 0 0] 26)
  have hGn := Blk.new W2 26 #[.int .u8 4, .int .i64 0, .int .i64 0, .bool false, .string ⟨#[]⟩, .slice none 0 0]
  have hsz : (W2.alloc (.cells #[.int .u8 4, .int .i64 0, .int .i64 0, .bool false, .string ⟨#[]⟩, .slice none 0 0] 26)).heap.size = W2.heap.size + 1 := by simp
  have htw0 := TwR.nil_ (W2.alloc (.cells #[.int .u8 4, .int .i64 0, .int .i64 0, .bool false, .string ⟨#[]⟩, .slice none 0 0] 26)) (W2.heap.size + 1) 26 []
  have HL := Lib.hid (show _ ∧ _ ∧ _ ∧ _ from ⟨HB2.out.1.keep hba, hGn, htw0, HB2.out.2.alloc HB2.out.2.size (.cells #[.int .u8 4, .int .i64 0, .int .i64 0, .bool false, .string ⟨#[]⟩, .slice none 0 0] 26)⟩)
  have hKG := HB2.out.1.lt
  clear hba hGn htw0 HB2
  go_wp2_with fail
  generalize W2.alloc _ = W3 at HL hsz ⊢
  generalize W2.heap.size = G at HL hsz hKG ⊢
  rw [show (p : Int) + 1 = ((p + 1 : Nat) : Int) by omega]
  refine (starts_two s _ (p + 1) _ hlt (by omega) (by decide)).mono ?_
  rintro e W4 ⟨(⟨h0, hle, rfl⟩ | ⟨h0, rfl⟩), hb1⟩
  · replace hle : p + 1 + 1 ≤ s.size := hle
    have hk4 := HL.out.1.keep hb1
    have hG4 := HL.out.2.1.keep hb1
    have hb4 := HL.out.2.2.2.trans (hb1.mono HL.out.2.2.2.size)
    have HE2 := Lib.hid (HE.out.trans (listR_nil h0))
    obtain ⟨o0, o1, o2, o3, o4, o5⟩ := Blk.val (x := ⟨4, ⟨0, 0⟩, false, ⟨#[]⟩, none, 0, 0⟩) hG4
    obtain ⟨r0, r1, r2, r3, r4, r5⟩ := hk4.val
    have rf := hk4.frozen
    have rl := hk4.lt
    have HZ := Lib.hid (show _ ∧ _ from ⟨hk4.set6 (.int .u8 4) (.int .i64 0) (.int .i64 0) (.bool false) (.string ⟨#[]⟩) (.slice none 0 0), below_set6 hb4 (Nat.le_refl _) (.int .u8 4) (.int .i64 0) (.int .i64 0) (.bool false) (.string ⟨#[]⟩) (.slice none 0 0)⟩)
    clear hk4 hG4 hb4 hb1 h0 HL HE
    go_wp2_with fail
    obtain ⟨k0, k1, k2, k3, k4, k5⟩ := Blk.val (x := ⟨4, ⟨0, 0⟩, false, ⟨#[]⟩, none, 0, 0⟩) HZ.out.1
    exact bodyPost_ret (v := .tuple #[Val.v ⟨4, ⟨0, 0⟩, false, ⟨#[]⟩, none, 0, 0⟩, .int .i64 ((p + 1 + 1 : Nat) : Int), .bool true]) (by simp [results, Tryd.results46, go_sem, k0, k1, k2, k3, k4, k5]) rfl (.inr ⟨_, ⟨4, ⟨0, 0⟩, false, ⟨#[]⟩, none, 0, 0⟩, p + 1 + 1, HE2.out, rfl, by omega, hle, fresh_leaf _ _ _ ok_list, HZ.out.2⟩)
  have HR0 := Lib.hid (HE.out.trans (listR_loop h0))
  have HL4 := Lib.hid (show _ ∧ _ ∧ _ ∧ _ from ⟨HL.out.1.keep hb1, HL.out.2.1.keep hb1, HL.out.2.2.1.below hb1, HL.out.2.2.2.trans (hb1.mono HL.out.2.2.2.size)⟩)
  clear hb1 h0 HL HE hsz
  obtain ⟨i0, hi0, hz0, hz1, hz2⟩ := info_parts Tryd.infoVal
  go_wp2_with fail
  go_loopw [1] (fun iv wr => ∃ (n : Nat) (acc : List Tree) (q : Nat) (v : Value), iv = .int .i64 q ∧ Blk wr w.heap.size 26 (Val.box noneV) ∧ Blk wr G 26 #[.int .u8 4, .int .i64 0, .int .i64 0, .bool false, .string ⟨#[]⟩, v] ∧ TwR wr (G + 1) 26 acc v acc.length ∧ Below w.heap.size w wr ∧ p + 1 ≤ q ∧ q ≤ s.size ∧ acc.length ≤ q ∧ s.size - q < n ∧ RR = loopR (refR d) n acc (s.data.toList.drop q)) (fun iv _ => s.size - (intOf iv).toNat)
  case atStart => exact ⟨_, [], p + 1, _, rfl, HL4.out.1, HL4.out.2.1, HL4.out.2.2.1, HL4.out.2.2.2, Nat.le_refl _, hlt, Nat.zero_le _, by rw [List.length_drop, hlen]; omega, HR0.out⟩
  case round =>
    obtain ⟨n, acc, q, v, rfl, hk, hG, htw, hb, hpq, hqs, hac, hn, hRL⟩ := hrel
    obtain ⟨n, rfl⟩ : ∃ m, n = m + 1 := ⟨n - 1, by omega⟩
    have HB5 := Lib.hid (show _ ∧ _ ∧ _ ∧ _ from ⟨hk, hG, htw, hb⟩)
    have HI := Lib.hid (ih s q wr hqs hs)
    have HRL := Lib.hid hRL
    have hGlt := hG.lt
    clear hk hG htw hb hRL HL4 HR0
    go_wp2_with fail
    refine HI.out.mono ?_
    rintro e W5 (⟨hnone, x, q2, rfl, hb5⟩ | ⟨T, x, q2, hsome, rfl, hqq, hq2, hfr, hb5⟩)
    · obtain ⟨xk, ⟨xn, xd⟩, xt, xs, xA, xl, xc⟩ := x
      have hk5 := HB5.out.1.keep hb5
      have hb6 := HB5.out.2.2.2.trans (hb5.mono HB5.out.2.2.2.size)
      have HNN := Lib.hid (HRL.out.trans (loopR_none hnone))
      obtain ⟨r0, r1, r2, r3, r4, r5⟩ := hk5.val
      have rf := hk5.frozen
      have rl := hk5.lt
      have HZ := Lib.hid (show _ ∧ _ from ⟨(hk5.set6 (.int .u8 0) (.int .i64 0) (.int .i64 0) (.bool false) (.string ⟨#[]⟩) (.slice none 0 0)).keep (below_alloc _ (.cells (Val.box ⟨xk, ⟨xn, xd⟩, xt, xs, xA, xl, xc⟩) 26)), (below_set6 hb6 (Nat.le_refl _) (.int .u8 0) (.int .i64 0) (.int .i64 0) (.bool false) (.string ⟨#[]⟩) (.slice none 0 0)).alloc (by simpa using hb6.size) (.cells (Val.box ⟨xk, ⟨xn, xd⟩, xt, xs, xA, xl, xc⟩) 26)⟩)
      clear hk5 hb6 hnone hb5 HRL HI HB5
      go_wp2_with fail
      obtain ⟨k0, k1, k2, k3, k4, k5⟩ := Blk.val (x := noneV) HZ.out.1
      exact bodyPost_ret (v := .tuple #[Val.v noneV, .int .i64 0, .bool false]) (by simp [results, Tryd.results46, go_sem, k0, k1, k2, k3, k4, k5]) rfl (.inl ⟨HNN.out, noneV, 0, rfl, HZ.out.2⟩)
    · obtain ⟨xk, ⟨xn, xd⟩, xt, xs, xA, xl, xc⟩ := x
      have hk5 := HB5.out.1.keep hb5
      have hG5 : Blk W5 G 26 #[.int .u8 4, .int .i64 0, .int .i64 0, .bool false, .string ⟨#[]⟩, v] := HB5.out.2.1.keep hb5
      have hb6 := HB5.out.2.2.2.trans (hb5.mono HB5.out.2.2.2.size)
      have hvlt := fun b hb' => (HB5.out.2.2.1.lt b hb').2
      have hba := below_alloc W5 (.cells (Val.box ⟨xk, ⟨xn, xd⟩, xt, xs, xA, xl, xc⟩) 26)
      have hbc := below_alloc (W5.alloc (.cells (Val.box ⟨xk, ⟨xn, xd⟩, xt, xs, xA, xl, xc⟩) 26)) (.cells (Val.box ⟨xk, ⟨xn, xd⟩, xt, xs, xA, xl, xc⟩) 26)
      have hbd := hba.trans (hbc.mono hba.size)
      have hnew : Blk ((W5.alloc (.cells (Val.box ⟨xk, ⟨xn, xd⟩, xt, xs, xA, xl, xc⟩) 26)).alloc (.cells (Val.box ⟨xk, ⟨xn, xd⟩, xt, xs, xA, xl, xc⟩) 26)) (W5.heap.size + 1) 26 (Val.box ⟨xk, ⟨xn, xd⟩, xt, xs, xA, xl, xc⟩) := by
        have := Blk.new (W5.alloc (.cells (Val.box ⟨xk, ⟨xn, xd⟩, xt, xs, xA, xl, xc⟩) 26)) 26 (Val.box ⟨xk, ⟨xn, xd⟩, xt, xs, xA, xl, xc⟩)
        simpa using this
      have hd6 := (Blk.new W5 26 (Val.box ⟨xk, ⟨xn, xd⟩, xt, xs, xA, xl, xc⟩)).val
      have htw := ((HB5.out.2.2.1.below hb5).below hbd).more (m := [T]) rfl
      obtain ⟨ys', hyl, hown, hkids⟩ := id htw
      have hu' := hfr.below hbd
      have hyt : (acc ++ [T])[acc.length]? = some T := by simp
      have hGl5 : G < W5.heap.size := hG5.lt
      have hKl5 : w.heap.size < W5.heap.size := hk5.lt
      have hszr : wr.heap.size ≤ W5.heap.size := hb5.size
      have o5 := hG5.cell (i := 5) (v := v) rfl
      have hacc5 : acc.length ≤ 4000 := by omega
      have HM := Lib.hid (show _ ∧ _ ∧ _ ∧ _ ∧ _ ∧ _ ∧ _ ∧ _ from ⟨hk5.keep hbd, hG5.keep hbd, hb6.trans (hbd.mono hb6.size), hyl, hkids, hu', hsome, hvlt⟩)
      obtain ⟨d0, d1, d2, d3, d4, d5⟩ := hd6
      clear hk5 hG5 hb6 hba hbc hbd htw hyl hkids hu' hsome hvlt hfr hb5 HB5 HI
      go_wp2_with (at_builtin; refine wpList_append_lies _ (by rfl) _ _ 24 (by rfl) (G + 1) 26 i0 noneV.v 6 72 Tryd.underlying24 hi0 hz0 hz1 hz2 rfl (by decide) v acc.length (ys'.flatMap Val.cells) (by rfl) hown ⟨W5.heap.size + 1, 0, none⟩ 1 1 (Val.cells ⟨xk, ⟨xn, xd⟩, xt, xs, xA, xl, xc⟩) (by rfl) (by rfl) (cells_val hnew) (cells_val_one ⟨xk, ⟨xn, xd⟩, xt, xs, xA, xl, xc⟩) (by omega) (by unfold maxLen; omega) (by omega) (by simp; omega) (W5.heap.size + 1 + 1) (by simp) ?_)
      intro g7 cap7 w7 hown' hgrow hg' hg7
      obtain ⟨hk6, hG6, hb6, hyl, hkids, hu', hsome, hvlt⟩ := HM.out
      have htw7 := TwR.snoc hyl hkids hvlt (show G + 1 ≤ wr.heap.size from hGlt) hyt hu' hown' hgrow (hg'.imp (fun h => h.symm) (fun h => congrArg some (by simpa using h)))
      have far : ∀ k, k < G + 1 → w7.heap[k]? = _ := fun k hk => hgrow.block k (by simp; omega) (fun h => by have := (hown.lt k h.symm).1; omega)
      have hb7 := hb6.grown hgrow (by have := hb6.size; omega) (fun r hr => by have := (hown.lt r hr).1; omega)
      have hk7 : Blk w7 _ _ _ := (far _ (by omega)).trans hk6
      have hG7 : Blk w7 G 26 #[.int .u8 4, .int .i64 0, .int .i64 0, .bool false, .string ⟨#[]⟩, v] := (far _ (by omega)).trans hG6
      have hfr := hG7.frozen 5
      have hx5 := hG7.cell (i := 5) (v := v) rfl
      have hGl7 := hG7.lt
      have hG8 : Blk (w7.setCell ⟨G, 5, none⟩ (.slice (some ⟨g7, 0, none⟩) (acc.length + 1) cap7)) G 26 #[.int .u8 4, .int .i64 0, .int .i64 0, .bool false, .string ⟨#[]⟩, .slice (some ⟨g7, 0, none⟩) (acc.length + 1) cap7] := hG7.set_ 5 (.slice (some ⟨g7, 0, none⟩) (acc.length + 1) cap7)
      have hk8 := hk7.far (p := ⟨G, 5, none⟩) (by simp only; omega) (.slice (some ⟨g7, 0, none⟩) (acc.length + 1) cap7)
      have hb8 := hb7.setCell (p := ⟨G, 5, none⟩) (by simp only; omega) (.slice (some ⟨g7, 0, none⟩) (acc.length + 1) cap7)
      have htw8 : TwR (w7.setCell ⟨G, 5, none⟩ (.slice (some ⟨g7, 0, none⟩) (acc.length + 1) cap7)) (G + 1) 26 (acc ++ [T]) (.slice (some ⟨g7, 0, none⟩) (acc.length + 1) cap7) (acc.length + 1) := htw7.keep (Nat.le_refl _) (fun b hb _ => Below.heap_setCell _ _ _ _ (by simp only; omega))
      have HM2 := Lib.hid (show _ ∧ _ ∧ _ ∧ _ from ⟨hk8, hG8, htw8, hb8⟩)
      have HSM := Lib.hid hsome
      clear hown hown' hgrow hg' far hb7 hk7 hG7 htw7 hG8 hk8 hb8 htw8 hk6 hG6 hb6 hyl hkids hu' hsome hvlt HM hi0 hz0 hz1 hz2 hnew d0 d1 d2 d3 d4 d5 o5 hyt hg7
      go_wp2_with fail
      generalize World.setCell _ _ _ = w8 at HM2 ⊢
      refine (starts_two s _ q2 _ hq2 (by omega) (by decide)).mono ?_
      rintro e W9 ⟨(⟨h0, hle, rfl⟩ | ⟨h0, rfl⟩), hb9⟩
      · have hle9 : q2 + 1 ≤ s.size := hle
        have hk9 := HM2.out.1.keep hb9
        have hG9 := HM2.out.2.1.keep hb9
        have hb10 := HM2.out.2.2.2.trans (hb9.mono HM2.out.2.2.2.size)
        obtain ⟨A8, cap8, hsl, htn⟩ := (HM2.out.2.2.1.below hb9).done (show (acc ++ [T]).length = acc.length + 1 by simp) (ok_n (n := acc.length + 1) (by omega))
        rw [hsl] at hG9
        obtain ⟨o0, o1, o2, o3, o4, o5⟩ := Blk.val (x := ⟨4, ⟨0, 0⟩, false, ⟨#[]⟩, A8, acc.length + 1, cap8⟩) hG9
        obtain ⟨r0, r1, r2, r3, r4, r5⟩ := hk9.val
        have rf := hk9.frozen
        have rl := hk9.lt
        have htn9 := (htn.keep (w' := _) (show w.heap.size ≤ G + 1 by omega) (fun b hb _ => far_set6 (w := W9) (g := w.heap.size) (k := b) (by omega) (.int .u8 4) (.int .i64 0) (.int .i64 0) (.bool false) (.string ⟨#[]⟩) (.slice A8 (acc.length + 1) cap8))).fresh
        have HZ := Lib.hid (show _ ∧ _ ∧ _ ∧ _ from ⟨hk9.set6 (.int .u8 4) (.int .i64 0) (.int .i64 0) (.bool false) (.string ⟨#[]⟩) (.slice A8 (acc.length + 1) cap8), below_set6 hb10 (Nat.le_refl _) (.int .u8 4) (.int .i64 0) (.int .i64 0) (.bool false) (.string ⟨#[]⟩) (.slice A8 (acc.length + 1) cap8), htn9, HRL.out.trans (loopR_end HSM.out h0)⟩)
        clear hk9 hG9 hb10 htn htn9 hsl h0 hle hb9 HM2 HSM HRL
        go_wp2_with fail
        obtain ⟨k0, k1, k2, k3, k4, k5⟩ := Blk.val (x := ⟨4, ⟨0, 0⟩, false, ⟨#[]⟩, A8, acc.length + 1, cap8⟩) HZ.out.1
        exact bodyPost_ret (v := .tuple #[Val.v ⟨4, ⟨0, 0⟩, false, ⟨#[]⟩, A8, acc.length + 1, cap8⟩, .int .i64 ((q2 + 1 : Nat) : Int), .bool true]) (by simp [results, Tryd.results46, go_sem, k0, k1, k2, k3, k4, k5]) rfl (.inr ⟨_, ⟨4, ⟨0, 0⟩, false, ⟨#[]⟩, A8, acc.length + 1, cap8⟩, q2 + 1, HZ.out.2.2.2, rfl, by omega, hle9, HZ.out.2.2.1, HZ.out.2.1⟩)
      have HM3 := Lib.hid (show _ ∧ _ ∧ _ ∧ _ from ⟨HM2.out.1.keep hb9, HM2.out.2.1.keep hb9, HM2.out.2.2.1.below hb9, HM2.out.2.2.2.trans (hb9.mono HM2.out.2.2.2.size)⟩)
      have HS9 := Lib.hid h0
      clear hb9 h0 HM2
      go_wp2_with fail
      refine (starts_two s _ q2 _ hq2 (by omega) (by decide)).mono ?_
      rintro e W10 ⟨(⟨h0, hle, rfl⟩ | ⟨h0, rfl⟩), hb9⟩
      · have hle9 : q2 + 2 ≤ s.size := hle
        have HM4 := Lib.hid (show _ ∧ _ ∧ _ ∧ _ ∧ _ from ⟨HM3.out.1.keep hb9, HM3.out.2.1.keep hb9, HM3.out.2.2.1.below hb9, HM3.out.2.2.2.trans (hb9.mono HM3.out.2.2.2.size), HRL.out.trans (loopR_more HSM.out HS9.out h0)⟩)
        clear hb9 h0 hle HM3 HS9 HSM HRL
        go_wp2_with fail
        go_roundw
        case rel => exact ⟨n, acc ++ [T], q2 + 2, _, by go_num, HM4.out.1, HM4.out.2.1, by rw [show (acc ++ [T]).length = acc.length + 1 by simp]; exact HM4.out.2.2.1, HM4.out.2.2.2.1, by omega, hle9, by simp only [List.length_append, List.length_cons, List.length_nil]; omega, by omega, HM4.out.2.2.2.2⟩
        case measure => simp [intOf]; omega
      · have hk9 := HM3.out.1.keep hb9
        have hb10 := HM3.out.2.2.2.trans (hb9.mono HM3.out.2.2.2.size)
        have HNN := Lib.hid (HRL.out.trans (loopR_bad HSM.out HS9.out h0))
        obtain ⟨r0, r1, r2, r3, r4, r5⟩ := hk9.val
        have rf := hk9.frozen
        have rl := hk9.lt
        have HZ := Lib.hid (show _ ∧ _ from ⟨hk9.set6 (.int .u8 0) (.int .i64 0) (.int .i64 0) (.bool false) (.string ⟨#[]⟩) (.slice none 0 0), below_set6 hb10 (Nat.le_refl _) (.int .u8 0) (.int .i64 0) (.int .i64 0) (.bool false) (.string ⟨#[]⟩) (.slice none 0 0)⟩)
        clear hk9 hb10 hb9 h0 HM3 HS9 HSM HRL
        go_wp2_with fail
        obtain ⟨k0, k1, k2, k3, k4, k5⟩ := Blk.val (x := noneV) HZ.out.1
        exact bodyPost_ret (v := .tuple #[Val.v noneV, .int .i64 0, .bool false]) (by simp [results, Tryd.results46, go_sem, k0, k1, k2, k3, k4, k5]) rfl (.inl ⟨HNN.out, noneV, 0, rfl, HZ.out.2⟩)
end Go.Proofs.YtjgampkpfjbmdaaDoor
