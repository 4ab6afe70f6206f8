/- Texts put together: ParE, ParF, ValO. -/
import Derived.Test.YtjgampkpfjbmdaaDoorPack17
import Derived.Test.YtjgampkpfjbmdaaDoorPack07
import Derived.Test.YtjgampkpfjbmdaaDoorPack05
section
/- The reader: a value, of a depth more. -/
namespace Go.Rel
open Go.RowKit
theorem skip_drop {t l : Bs} {r : Bs} (h : skipL t l = some r) : r = l.drop t.length := by
  unfold skipL at h
  split at h
  · injection h with h; exact h.symm
  · cases h
theorem valueL_true {d : Nat} {l r : Bs} (h : skipL [116, 114, 117, 101] l = some r) : valueL (d + 1) l = (tBool true, r, true) := by rw [valueL, h]
theorem valueL_false {d : Nat} {l r : Bs} (h0 : skipL [116, 114, 117, 101] l = none) (h : skipL [102, 97, 108, 115, 101] l = some r) : valueL (d + 1) l = (tBool false, r, true) := by rw [valueL, h0, h]
theorem valueL_str {d : Nat} {l r : Bs} (h0 : skipL [116, 114, 117, 101] l = none) (h1 : skipL [102, 97, 108, 115, 101] l = none) (h : skipL [34] l = some r) : valueL (d + 1) l = (tStr (str (quotL r []).1), (quotL r []).2.1, (quotL r []).2.2) := by rw [valueL, h0, h1, h]
theorem valueL_empty {d : Nat} {l r : Bs} (h0 : skipL [116, 114, 117, 101] l = none) (h1 : skipL [102, 97, 108, 115, 101] l = none) (h2 : skipL [34] l = none) (h : skipL [91, 93] l = some r) : valueL (d + 1) l = (tList [], r, true) := by rw [valueL, h0, h1, h2, h]
theorem valueL_list {d : Nat} {l r : Bs} (h0 : skipL [116, 114, 117, 101] l = none) (h1 : skipL [102, 97, 108, 115, 101] l = none) (h2 : skipL [34] l = none) (h3 : skipL [91, 93] l = none) (h : skipL [91] l = some r) : valueL (d + 1) l = listV (valueL d) r := by rw [valueL, h0, h1, h2, h3, h]
theorem valueL_num {d : Nat} {l : Bs} (h0 : skipL [116, 114, 117, 101] l = none) (h1 : skipL [102, 97, 108, 115, 101] l = none) (h2 : skipL [34] l = none) (h3 : skipL [91, 93] l = none) (h : skipL [91] l = none) : valueL (d + 1) l = numV l true := by rw [valueL, h0, h1, h2, h3, h]
/-- One way or the other. -/
def SkipP (w : World) (e : TypeId) (b p : Nat) (s t : ByteArray) (ok : Bool) (en : Ending) (w' : World) : Prop :=
  ((skipL t.data.toList (s.data.toList.drop p) = some (s.data.toList.drop (p + t.size)) ∧ p + t.size ≤ s.size ∧ en = .returned (.bool true) ∧ RdAt w' e b s (p + t.size) ok) ∨ (skipL t.data.toList (s.data.toList.drop p) = none ∧ en = .returned (.bool false) ∧ RdAt w' e b s p ok)) ∧ w.grownBy w' (some b)
theorem KpOne.fresh {b : Nat} {o : Obj} {W W' : World} {c : Nat} {e : TypeId} {T : Tree} {x : Val} (h : KpOne b o W W') (hb : b < c) (hf : Fresh W c e T x) : Fresh W' c e T x :=
  Reads.mono (fun g _ hp => hp.keep (Nat.le_refl _) (h.block g hp.lt (by have := hp.1; omega))) (fun g _ hp => h.block g hp.lt (by have := hp.1; omega)) hf
theorem KpOne.made {b : Nat} {o : Obj} {W W' : World} {c : Nat} {e : TypeId} {t : Tree} {v : Value} (h : KpOne b o W W') (hb : b < c) (hm : MadeOf c e t v W ∧ W.heap[b]? = some o) : MadeOf c e t v W' ∧ W'.heap[b]? = some o := by
  obtain ⟨⟨u, h1, h2⟩, h3⟩ := hm
  exact ⟨⟨u, h1, h.fresh hb h2⟩, h.final h3⟩
theorem KpOne.oneOf {b : Nat} {o : Obj} {W W' : World} {c : Nat} {e : TypeId} {t : Tree} {v : Value} (h : KpOne b o W W') (hb : b < c) (hm : OneOf c e t v W) : OneOf c e t v W' := by
  obtain ⟨u, gg, h1, h2, h3, h4⟩ := hm
  exact ⟨u, gg, h1, h2, h.other (by omega) h3, h.fresh hb h4⟩
theorem KpOne.grown {b : Nat} {o : Obj} {W W' : World} (h : KpOne b o W W') : W.grownBy W' (some b) := ⟨h.os, h.tape, h.output, h.size, fun k hk hne => h.block k hk (fun e => hne (by rw [e]))⟩
theorem KpOne.of_grown {b : Nat} {o : Obj} {W W' : World} (h : W.grownBy W' (some b)) (ho : W'.heap[b]? = some o) : KpOne b o W W' := ⟨h.os, h.tape, h.output, h.size, fun k hk hne => h.block k hk (fun e => hne (Option.some.inj e)), .inr ho⟩
theorem TwR.more {w : World} {base : Nat} {e : TypeId} {kids m : List Tree} {v : Value} {n : Nat} (h : TwR w base e kids v n) (hn : kids.length = n) : TwR w base e (kids ++ m) v n := by
  obtain ⟨ys, h1, h2, h3⟩ := h
  refine ⟨ys, h1, h2, fun i t y hi hy => h3 i t y ?_ hy⟩
  have hlt : i < ys.length := (List.getElem?_eq_some_iff.1 hy).1
  rwa [List.getElem?_append_left (by omega)] at hi
theorem TwR.grown {w w' : World} {base : Nat} {e : TypeId} {kids : List Tree} {v : Value} {n b : Nat} (h : TwR w base e kids v n) (hg : w.grownBy w' (some b)) (hb : b < base) : TwR w' base e kids v n :=
  h.keep (Nat.le_refl _) (fun k h1 h2 => hg.block k h2 (fun e => by have := Option.some.inj e; omega))
/-- Where the list's reading stands. -/
def loopAt (d : Nat) (n : Nat) (acc : List Tree) (l : Bs) (more ok : Bool) : List Tree × Bs × Bool := if more = true ∧ ok = true then loopL (valueL d) n acc l else (acc, l, ok)
theorem loop_yes {d n : Nat} {acc : List Tree} {l r r2 : Bs} {y : Tree} {ok : Bool} (h : valueL d l = (y, r, ok)) (h2 : skipL [44, 32] r = some r2) : loopAt d (n + 1) acc l true true = loopAt d n (acc ++ [y]) r2 true ok := by
  unfold loopAt
  rw [if_pos ⟨rfl, rfl⟩, loopL, h]
  dsimp only
  rw [h2]
  cases ok <;> simp
theorem loop_no {d n : Nat} {acc : List Tree} {l r : Bs} {y : Tree} {ok : Bool} (h : valueL d l = (y, r, ok)) (h2 : skipL [44, 32] r = none) : loopAt d (n + 1) acc l true true = loopAt d n (acc ++ [y]) r false ok := by
  unfold loopAt
  rw [if_pos ⟨rfl, rfl⟩, loopL, h]
  dsimp only
  rw [h2]
  simp
theorem listV_some {d : Nat} {l r r2 : Bs} {ts : List Tree} {ok : Bool} (h : loopAt d (l.length + 1) [] l true true = (ts, r, ok)) (h2 : skipL [93] r = some r2) : listV (valueL d) l = (tList ts, r2, ok) := by
  unfold loopAt at h
  rw [if_pos ⟨rfl, rfl⟩] at h
  unfold listV
  rw [h]
  dsimp only
  rw [h2]
theorem listV_none {d : Nat} {l r : Bs} {ts : List Tree} {ok : Bool} (h : loopAt d (l.length + 1) [] l true true = (ts, r, ok)) (h2 : skipL [93] r = none) : listV (valueL d) l = (tList ts, r, false) := by
  unfold loopAt at h
  rw [if_pos ⟨rfl, rfl⟩] at h
  unfold listV
  rw [h]
  dsimp only
  rw [h2]
theorem ok_n {n : Nat} (h : n ≤ 9223372036854775807) : Val.Ok ⟨4, ⟨0, 0⟩, false, ⟨#[]⟩, some ⟨0, 0, none⟩, n, n⟩ := ⟨by simp, by simp, by simp, by simp, by simp, by simp, (show (0 : Nat) ≤ 9223372036854775807 by omega), by simp, h, fun h => by cases h⟩
def boolN : Value → Nat | .bool true => 1 | _ => 0
theorem grown_grown {w w1 w2 : World} {r row : Option Nat} (h : w.grownBy w1 r) (hg : w1.grownBy w2 row) (hr : ∀ k, row = some k → w.heap.size ≤ k) : w.grownBy w2 r :=
  ⟨hg.os.trans h.os, hg.tape.trans h.tape, hg.output.trans h.output, Nat.le_trans h.size hg.size, fun k hk hne => (hg.block k (Nat.lt_of_lt_of_le hk h.size) (fun e => by have := hr k e.symm; omega)).trans (h.block k hk hne)⟩
end Go.Rel
namespace Go.Proofs.YtjgampkpfjbmdaaDoor
open Go.RowKit Go.Rel
set_option maxRecDepth 100000
theorem skip_two (b p : Nat) (s t : ByteArray) (ok : Bool) (w : World) (hr : RdAt w 77 b s p ok) (hp : p ≤ s.size) (hs : s.size ≤ 100000) (ht : t.size ≤ 100000) :
    Calls Tryd.prog 63 #[.pointer (some ⟨b, 0, none⟩), .string t] w (SkipP w 77 b p s t ok) := by
  refine (skip_any b p s t ok w hr hp hs ht).mono ?_
  rintro e w' ⟨rfl, h2, h3⟩
  refine ⟨?_, h3⟩
  cases hP : t.data.toList.isPrefixOf (s.data.toList.drop p) with
  | true =>
    rw [hP, if_pos rfl] at h2
    have h4 : skipL t.data.toList (s.data.toList.drop p) = some (s.data.toList.drop (p + t.size)) := by
      unfold skipL
      rw [if_pos hP, List.drop_drop]
      simp
    have h5 := skipL_len h4
    simp only [List.length_drop] at h5
    have h6 : t.data.toList.length = t.size := by simp
    have h7 : s.data.toList.length = s.size := by simp
    exact .inl ⟨h4, by omega, rfl, h2⟩
  | false =>
    rw [hP, if_neg (by simp)] at h2
    exact .inr ⟨by unfold skipL; rw [hP]; rfl, rfl, h2⟩
theorem ok_bool {t : Bool} : Val.Ok ⟨2, ⟨0, 0⟩, t, ⟨#[]⟩, none, 0, 0⟩ := ⟨by simp, by simp, by simp, by simp, by simp, by simp, (show (0 : Nat) ≤ 9223372036854775807 by omega), by simp, by simp, fun _ => rfl⟩
set_option maxHeartbeats 16000000 in
theorem value_succ (d : Nat) (hd : d ≤ 6) (ih : ValueIs d) : ValueIs (d + 1) := by
  intro b p s w hr hp hs4 ht
  have hblt : b < w.heap.size := Blk.lt hr
  have hba := below_alloc w (.cells (Val.box noneV) 26)
  have HQ0 := Lib.hid (show _ ∧ _ ∧ _ from ⟨hr.grown hba, Blk.new w 26 (Val.box noneV), grown_below (r := some b) hba⟩)
  have HT := Lib.hid ht
  have hd0 : (((d : Int) + 1) == 0) = false := by rw [beq_eq_false_iff_ne]; omega
  clear hr hba ht
  have hcast : ((d + 1 : Nat) : Int) = (d : Int) + 1 := by omega
  rw [hcast]
  clear hcast
  go_enter Tryd.func45, Tryd.ntmps45
  go_wp2_with fail
  generalize w.alloc _ = W at HQ0 ⊢
  refine (skip_two b p s _ true _ HQ0.out.1 hp (by omega) (by decide)).mono ?_
  rintro e W1 ⟨(⟨h0, hle, rfl, hr1⟩ | ⟨h0, rfl, hr1⟩), hg1⟩
  · have HY := Lib.hid (show _ ∧ _ ∧ _ from ⟨hr1, HQ0.out.2.1.grown hg1 (by omega), HQ0.out.2.2.trans hg1⟩)
    have hle' : p + 4 ≤ s.size := hle
    clear hr1 hg1 hle
    have y1 : RdAt _ 77 b s (p + 4) true := (far_set6 (k := b) (g := w.heap.size) (by omega) (.int .u8 2) (.int .i64 0) (.int .i64 0) (.bool true) (.string ⟨#[]⟩) (.slice none 0 0)).trans HY.out.1
    have y2 := HY.out.2.1.set6 (.int .u8 2) (.int .i64 0) (.int .i64 0) (.bool true) (.string ⟨#[]⟩) (.slice none 0 0)
    have y3 := grown_set6 HY.out.2.2 (Nat.le_refl _) (.int .u8 2) (.int .i64 0) (.int .i64 0) (.bool true) (.string ⟨#[]⟩) (.slice none 0 0)
    obtain ⟨k0, k1, k2, k3, k4, k5⟩ := HY.out.2.1.val
    have kf := HY.out.2.1.frozen
    have HZ := Lib.hid (show _ ∧ _ ∧ _ ∧ _ from ⟨y1, y2, y3, valueL_true (d := d) h0⟩)
    clear y1 y2 y3
    go_wp2_with fail
    obtain ⟨k0, k1, k2, k3, k4, k5⟩ := Blk.val (x := ⟨2, ⟨0, 0⟩, true, ⟨#[]⟩, none, 0, 0⟩) HZ.out.2.1
    refine bodyPost_ret (v := Val.v ⟨2, ⟨0, 0⟩, true, ⟨#[]⟩, none, 0, 0⟩) (by simp [results, Tryd.results45, go_sem, k0, k1, k2, k3, k4, k5]) rfl ?_
    rw [HZ.out.2.2.2]
    exact ⟨_, p + 4, rfl, by omega, hle', rfl, fresh_leaf _ _ _ ok_bool, HZ.out.1, HZ.out.2.2.1⟩
  · have HQ1 := Lib.hid (show _ ∧ _ ∧ _ from ⟨hr1, HQ0.out.2.1.grown hg1 (by omega), HQ0.out.2.2.trans hg1⟩)
    clear hr1 hg1 HQ0
    go_wp2_with fail
    refine (skip_two b p s _ true _ HQ1.out.1 hp (by omega) (by decide)).mono ?_
    rintro e W2 ⟨(⟨h1, hle, rfl, hr1⟩ | ⟨h1, rfl, hr1⟩), hg1⟩
    · have HY := Lib.hid (show _ ∧ _ ∧ _ from ⟨hr1, HQ1.out.2.1.grown hg1 (by omega), HQ1.out.2.2.trans hg1⟩)
      have hle' : p + 5 ≤ s.size := hle
      clear hr1 hg1 hle
      have y1 : RdAt _ 77 b s (p + 5) true := (far_set6 (k := b) (g := w.heap.size) (by omega) (.int .u8 2) (.int .i64 0) (.int .i64 0) (.bool false) (.string ⟨#[]⟩) (.slice none 0 0)).trans HY.out.1
      have y2 := HY.out.2.1.set6 (.int .u8 2) (.int .i64 0) (.int .i64 0) (.bool false) (.string ⟨#[]⟩) (.slice none 0 0)
      have y3 := grown_set6 HY.out.2.2 (Nat.le_refl _) (.int .u8 2) (.int .i64 0) (.int .i64 0) (.bool false) (.string ⟨#[]⟩) (.slice none 0 0)
      obtain ⟨k0, k1, k2, k3, k4, k5⟩ := HY.out.2.1.val
      have kf := HY.out.2.1.frozen
      have HZ := Lib.hid (show _ ∧ _ ∧ _ ∧ _ from ⟨y1, y2, y3, valueL_false (d := d) h0 h1⟩)
      clear y1 y2 y3
      go_wp2_with fail
      obtain ⟨k0, k1, k2, k3, k4, k5⟩ := Blk.val (x := ⟨2, ⟨0, 0⟩, false, ⟨#[]⟩, none, 0, 0⟩) HZ.out.2.1
      refine bodyPost_ret (v := Val.v ⟨2, ⟨0, 0⟩, false, ⟨#[]⟩, none, 0, 0⟩) (by simp [results, Tryd.results45, go_sem, k0, k1, k2, k3, k4, k5]) rfl ?_
      rw [HZ.out.2.2.2]
      exact ⟨_, p + 5, rfl, by omega, hle', rfl, fresh_leaf _ _ _ ok_bool, HZ.out.1, HZ.out.2.2.1⟩
    · have HQ2 := Lib.hid (show _ ∧ _ ∧ _ from ⟨hr1, HQ1.out.2.1.grown hg1 (by omega), HQ1.out.2.2.trans hg1⟩)
      clear hr1 hg1 HQ1
      go_wp2_with fail
      refine (skip_two b p s _ true _ HQ2.out.1 hp (by omega) (by decide)).mono ?_
      rintro e W3 ⟨(⟨h2, hle, rfl, hr1⟩ | ⟨h2, rfl, hr1⟩), hg1⟩
      · have HY := Lib.hid (show _ ∧ _ ∧ _ from ⟨hr1, HQ2.out.2.1.grown hg1 (by omega), HQ2.out.2.2.trans hg1⟩)
        have hle' : p + 1 ≤ s.size := hle
        clear hr1 hg1 hle
        go_wp2_with fail
        refine (quoted_any b (p + 1) s _ HY.out.1 hle' (by omega)).mono ?_
        rintro e W9 ⟨p', rfl, hp', hdr, hr9, hg9⟩
        have hv := valueL_str (d := d) h0 h1 h2
        change valueL (d + 1) (s.data.toList.drop p) = (tStr (str (quotL (s.data.toList.drop (p + 1)) []).1), (quotL (s.data.toList.drop (p + 1)) []).2.1, (quotL (s.data.toList.drop (p + 1)) []).2.2) at hv
        have hlen := quotL_len _ (s.data.toList.drop (p + 1)) [] (Nat.le_refl _)
        have hout := quotL_out _ (s.data.toList.drop (p + 1)) [] (Nat.le_refl _)
        generalize quotL (s.data.toList.drop (p + 1)) [] = Q at *
        obtain ⟨Q1, Q2, Q3⟩ := Q
        dsimp only at hdr hr9 hv hlen hout ⊢
        have hlp : p + 1 ≤ p' := by
          have := congrArg List.length hdr
          simp only [List.length_drop, Array.length_toList, ByteArray.size_data] at this hlen
          omega
        have h63 : (str Q1).size ≤ 9223372036854775807 := by
          rw [str_size]
          simp only [List.length_drop, Array.length_toList, ByteArray.size_data, List.length_nil] at hout
          omega
        have HY9 := Lib.hid (show _ ∧ _ ∧ _ from ⟨hr9, HY.out.2.1.grown hg9 (by omega), HY.out.2.2.trans hg9⟩)
        have HX := Lib.hid (show _ ∧ _ ∧ _ from ⟨hdr, hv, h63⟩)
        clear hr9 hg9 hdr hv hlen hout h63
        generalize str Q1 = S1 at *
        have y1 : RdAt _ 77 b s (p') Q3 := (far_set6 (k := b) (g := w.heap.size) (by omega) (.int .u8 3) (.int .i64 0) (.int .i64 0) (.bool false) (.string S1) (.slice none 0 0)).trans HY9.out.1
        have y2 := HY9.out.2.1.set6 (.int .u8 3) (.int .i64 0) (.int .i64 0) (.bool false) (.string S1) (.slice none 0 0)
        have y3 := grown_set6 HY9.out.2.2 (Nat.le_refl _) (.int .u8 3) (.int .i64 0) (.int .i64 0) (.bool false) (.string S1) (.slice none 0 0)
        obtain ⟨k0, k1, k2, k3, k4, k5⟩ := HY9.out.2.1.val
        have kf := HY9.out.2.1.frozen
        have HZ := Lib.hid (show _ ∧ _ ∧ _ ∧ _ from ⟨y1, y2, y3, HX.out.2.1⟩)
        clear y1 y2 y3
        go_wp2_with fail
        obtain ⟨k0, k1, k2, k3, k4, k5⟩ := Blk.val (x := ⟨3, ⟨0, 0⟩, false, S1, none, 0, 0⟩) HZ.out.2.1
        refine bodyPost_ret (v := Val.v ⟨3, ⟨0, 0⟩, false, S1, none, 0, 0⟩) (by simp [results, Tryd.results45, go_sem, k0, k1, k2, k3, k4, k5]) rfl ?_
        rw [HZ.out.2.2.2]
        exact ⟨_, p', rfl, by omega, hp', HX.out.1, fresh_leaf _ _ _ (ok_str HX.out.2.2), HZ.out.1, HZ.out.2.2.1⟩
      · have HQ3 := Lib.hid (show _ ∧ _ ∧ _ from ⟨hr1, HQ2.out.2.1.grown hg1 (by omega), HQ2.out.2.2.trans hg1⟩)
        clear hr1 hg1 HQ2
        go_wp2_with fail
        refine (skip_two b p s _ true _ HQ3.out.1 hp (by omega) (by decide)).mono ?_
        rintro e W4 ⟨(⟨h3, hle, rfl, hr1⟩ | ⟨h3, rfl, hr1⟩), hg1⟩
        · have HY := Lib.hid (show _ ∧ _ ∧ _ from ⟨hr1, HQ3.out.2.1.grown hg1 (by omega), HQ3.out.2.2.trans hg1⟩)
          have hle' : p + 2 ≤ s.size := hle
          clear hr1 hg1 hle
          have y1 : RdAt _ 77 b s (p + 2) true := (far_set6 (k := b) (g := w.heap.size) (by omega) (.int .u8 4) (.int .i64 0) (.int .i64 0) (.bool false) (.string ⟨#[]⟩) (.slice none 0 0)).trans HY.out.1
          have y2 := HY.out.2.1.set6 (.int .u8 4) (.int .i64 0) (.int .i64 0) (.bool false) (.string ⟨#[]⟩) (.slice none 0 0)
          have y3 := grown_set6 HY.out.2.2 (Nat.le_refl _) (.int .u8 4) (.int .i64 0) (.int .i64 0) (.bool false) (.string ⟨#[]⟩) (.slice none 0 0)
          obtain ⟨k0, k1, k2, k3, k4, k5⟩ := HY.out.2.1.val
          have kf := HY.out.2.1.frozen
          have HZ := Lib.hid (show _ ∧ _ ∧ _ ∧ _ from ⟨y1, y2, y3, valueL_empty (d := d) h0 h1 h2 h3⟩)
          clear y1 y2 y3
          go_wp2_with fail
          obtain ⟨k0, k1, k2, k3, k4, k5⟩ := Blk.val (x := ⟨4, ⟨0, 0⟩, false, ⟨#[]⟩, none, 0, 0⟩) HZ.out.2.1
          refine bodyPost_ret (v := Val.v ⟨4, ⟨0, 0⟩, false, ⟨#[]⟩, none, 0, 0⟩) (by simp [results, Tryd.results45, go_sem, k0, k1, k2, k3, k4, k5]) rfl ?_
          rw [HZ.out.2.2.2]
          exact ⟨_, p + 2, rfl, by omega, hle', rfl, fresh_leaf _ _ _ ok_list, HZ.out.1, HZ.out.2.2.1⟩
        · have HQ4 := Lib.hid (show _ ∧ _ ∧ _ from ⟨hr1, HQ3.out.2.1.grown hg1 (by omega), HQ3.out.2.2.trans hg1⟩)
          clear hr1 hg1 HQ3
          go_wp2_with fail
          refine (skip_two b p s _ true _ HQ4.out.1 hp (by omega) (by decide)).mono ?_
          rintro e W5 ⟨(⟨h4, hle, rfl, hr1⟩ | ⟨h4, rfl, hr1⟩), hg1⟩
          · have HY := Lib.hid (show _ ∧ _ ∧ _ from ⟨hr1, HQ4.out.2.1.grown hg1 (by omega), HQ4.out.2.2.trans hg1⟩)
            have hle' : p + 1 ≤ s.size := hle
            clear hr1 hg1 hle
            have hv := valueL_list (d := d) h0 h1 h2 h3 h4
            change valueL (d + 1) (s.data.toList.drop p) = listV (valueL d) (s.data.toList.drop (p + 1)) at hv
            obtain ⟨RL, hRL0⟩ : ∃ RL, loopAt d ((s.data.toList.drop (p + 1)).length + 1) [] (s.data.toList.drop (p + 1)) true true = RL := ⟨_, rfl⟩
            have hlen0 : (s.data.toList.drop (p + 1)).length = s.size - (p + 1) := by simp
            have hba := below_alloc W5 (.cells #[.int .u8 4, .int .i64 0, .int .i64 0, .bool false, .string ⟨#[]⟩, .slice none 0 0] 26)
            have hGn := Blk.new W5 26 #[.int .u8 4, .int .i64 0, .int .i64 0, .bool false, .string ⟨#[]⟩, .slice none 0 0]
            have hsz : (W5.alloc (.cells #[.int .u8 4, .int .i64 0, .int .i64 0, .bool false, .string ⟨#[]⟩, .slice none 0 0] 26)).heap.size = W5.heap.size + 1 := by simp
            have htw0 := TwR.nil_ (W5.alloc (.cells #[.int .u8 4, .int .i64 0, .int .i64 0, .bool false, .string ⟨#[]⟩, .slice none 0 0] 26)) (W5.heap.size + 1) 26 []
            have HL := Lib.hid (show _ ∧ _ ∧ _ ∧ _ ∧ _ ∧ _ from ⟨HY.out.1.grown hba, HY.out.2.1.keep hba, hGn, htw0, HY.out.2.2.trans (grown_below hba _), hRL0⟩)
            have HV := Lib.hid hv
            have hKG := HY.out.2.1.lt
            clear hba hGn htw0 hRL0 hv HY h0 h1 h2 h3 h4 HQ4
            go_wp2_with fail
            generalize W5.alloc _ = W6 at HL hsz ⊢
            generalize W5.heap.size = G at HL hsz hKG ⊢
            obtain ⟨i0, hi0, hz0, hz1, hz2⟩ := info_parts Tryd.infoVal
            go_loopw [6] (fun iv wr => ∃ (n : Nat) (acc : List Tree) (q : Nat) (v : Value) (ok more : Bool), iv = .bool more ∧ RdAt wr 77 b s q ok ∧ Blk wr w.heap.size 26 (Val.box noneV) ∧ Blk wr G 26 #[.int .u8 4, .int .i64 0, .int .i64 0, .bool false, .string ⟨#[]⟩, v] ∧ TwR wr (G + 1) 26 acc v acc.length ∧ w.grownBy wr (some b) ∧ p + 1 ≤ q ∧ q ≤ s.size ∧ acc.length ≤ q ∧ (more = true → acc.length + 1 ≤ q) ∧ (more = true ∧ ok = true → s.size - q < n) ∧ loopAt d n acc (s.data.toList.drop q) more ok = RL) (fun iv wr => (s.size - rdPos wr b) * 2 + boolN iv)
            case atStart => exact ⟨_, [], p + 1, _, true, true, rfl, HL.out.1, HL.out.2.1, HL.out.2.2.1, HL.out.2.2.2.1, HL.out.2.2.2.2.1, Nat.le_refl _, hle', Nat.zero_le _, fun _ => by simp, fun _ => by rw [hlen0]; omega, HL.out.2.2.2.2.2⟩
            case round =>
              obtain ⟨n, acc, q, v, ok, more, rfl, hr, hk, hG, htw, hg, hpq, hqs, hac, hac2, hn, hRLx⟩ := hrel
              have hGlt := hG.lt
              cases more with
              | false =>
                have hRL := HL.out.2.2.2.2.2.trans hRLx.symm
                rw [show loopAt d n acc (s.data.toList.drop q) false ok = (acc, s.data.toList.drop q, ok) from if_neg (by simp)] at hRL
                clear hRLx hn hac2 hsz HL
                obtain ⟨A', cap', rfl, htn⟩ := htw.done rfl (ok_n (n := acc.length) (by omega))
                have HE := Lib.hid (show _ ∧ _ ∧ _ ∧ _ ∧ _ ∧ _ from ⟨hr, hk, hG, htn, hg, hRL⟩)
                obtain ⟨c0, c1, c2⟩ := hr.cells
                clear hr hk hG htn hg hRL htw
                go_wp2_with fail
                clear c0 c1 c2
                refine (skip_two b q s _ ok wr HE.out.1 hqs (by omega) (by decide)).mono ?_
                rintro e W7 ⟨(⟨hs, hle7, rfl, hr7⟩ | ⟨hs, rfl, hr7⟩), hg7⟩
                · have hle8 : q + 1 ≤ s.size := hle7
                  have hk7 := HE.out.2.1.grown hg7 (by omega)
                  have hG7 := HE.out.2.2.1.grown hg7 (by omega)
                  have htn7 := HE.out.2.2.2.1.keep (w' := W7) (Nat.le_refl _) (fun k h1 h2 => hg7.block k h2 (fun e => by have := Option.some.inj e; omega))
                  have hgr := HE.out.2.2.2.2.1.trans hg7
                  have x1 := hr7.setOk ok
                  have x2 := hk7.far (p := ⟨b, 2, none⟩) (by simp only; omega) (.bool ok)
                  have x3 := hgr.trans (grown_set W7 ⟨b, 2, none⟩ (.bool ok))
                  obtain ⟨o0, o1, o2, o3, o4, o5⟩ := Blk.val (x := ⟨4, ⟨0, 0⟩, false, ⟨#[]⟩, A', acc.length, cap'⟩) hG7
                  obtain ⟨c0, c1, c2⟩ := hr7.cells
                  have cf := Blk.frozen hr7
                  obtain ⟨k0, k1, k2, k3, k4, k5⟩ := hk7.val
                  have kf := hk7.frozen
                  have y1 : RdAt _ 77 b s (q + 1) ok := (far_set6 (k := b) (g := w.heap.size) (by omega) (.int .u8 4) (.int .i64 0) (.int .i64 0) (.bool false) (.string ⟨#[]⟩) (.slice A' acc.length cap')).trans x1
                  have y2 := x2.set6 (.int .u8 4) (.int .i64 0) (.int .i64 0) (.bool false) (.string ⟨#[]⟩) (.slice A' acc.length cap')
                  have y3 := grown_set6 x3 (Nat.le_refl _) (.int .u8 4) (.int .i64 0) (.int .i64 0) (.bool false) (.string ⟨#[]⟩) (.slice A' acc.length cap')
                  have y4 := (htn7.keep (w' := ((((((((W7.setCell ⟨b, 2, none⟩ (.bool ok)).setCell ⟨w.heap.size, 0, none⟩ (.int .u8 4)).setCell ⟨w.heap.size, 1, none⟩ (.int .i64 0)).setCell ⟨w.heap.size, 2, none⟩ (.int .i64 0)).setCell ⟨w.heap.size, 3, none⟩ (.bool false)).setCell ⟨w.heap.size, 4, none⟩ (.string ⟨#[]⟩)).setCell ⟨w.heap.size, 5, none⟩ (.slice A' acc.length cap')))) (show w.heap.size ≤ G + 1 by omega) (fun k h1 h2 => by rw [far_set6 (by omega), Below.heap_setCell _ _ _ _ (by simp only; omega)])).fresh
                  have hv := HV.out.trans (listV_some HE.out.2.2.2.2.2 hs)
                  have hGb : G ≠ b := by omega
                  have hbG : b ≠ G := by omega
                  have hbk : b ≠ w.heap.size := by omega
                  have hkG : w.heap.size ≠ G := by omega
                  have HZ := Lib.hid (show _ ∧ _ ∧ _ ∧ _ ∧ _ from ⟨y1, y2, y3, y4, hv⟩)
                  clear y1 y2 y3 y4 x1 x2 x3 hk7 hG7 htn7 hgr hr7 hg7 hv
                  go_wp2_with fail
                  obtain ⟨k0, k1, k2, k3, k4, k5⟩ := Blk.val (x := ⟨4, ⟨0, 0⟩, false, ⟨#[]⟩, A', acc.length, cap'⟩) HZ.out.2.1
                  refine bodyPost_ret (v := Val.v ⟨4, ⟨0, 0⟩, false, ⟨#[]⟩, A', acc.length, cap'⟩) (by simp [results, Tryd.results45, go_sem, k0, k1, k2, k3, k4, k5]) rfl ?_
                  rw [HZ.out.2.2.2.2]
                  exact ⟨{ k := 4, q := ⟨0, 0⟩, t := false, s := ⟨#[]⟩, A := A', len := acc.length, cap := cap' }, q + 1, rfl, by omega, hle8, rfl, HZ.out.2.2.2.1, HZ.out.1, HZ.out.2.2.1⟩
                · have hk7 := HE.out.2.1.grown hg7 (by omega)
                  have hG7 := HE.out.2.2.1.grown hg7 (by omega)
                  have htn7 := HE.out.2.2.2.1.keep (w' := W7) (Nat.le_refl _) (fun k h1 h2 => hg7.block k h2 (fun e => by have := Option.some.inj e; omega))
                  have hgr := HE.out.2.2.2.2.1.trans hg7
                  have x1 := hr7.setOk false
                  have x2 := hk7.far (p := ⟨b, 2, none⟩) (by simp only; omega) (.bool false)
                  have x3 := hgr.trans (grown_set W7 ⟨b, 2, none⟩ (.bool false))
                  obtain ⟨o0, o1, o2, o3, o4, o5⟩ := Blk.val (x := ⟨4, ⟨0, 0⟩, false, ⟨#[]⟩, A', acc.length, cap'⟩) hG7
                  obtain ⟨c0, c1, c2⟩ := hr7.cells
                  have cf := Blk.frozen hr7
                  obtain ⟨k0, k1, k2, k3, k4, k5⟩ := hk7.val
                  have kf := hk7.frozen
                  have y1 : RdAt _ 77 b s (q) false := (far_set6 (k := b) (g := w.heap.size) (by omega) (.int .u8 4) (.int .i64 0) (.int .i64 0) (.bool false) (.string ⟨#[]⟩) (.slice A' acc.length cap')).trans x1
                  have y2 := x2.set6 (.int .u8 4) (.int .i64 0) (.int .i64 0) (.bool false) (.string ⟨#[]⟩) (.slice A' acc.length cap')
                  have y3 := grown_set6 x3 (Nat.le_refl _) (.int .u8 4) (.int .i64 0) (.int .i64 0) (.bool false) (.string ⟨#[]⟩) (.slice A' acc.length cap')
                  have y4 := (htn7.keep (w' := ((((((((W7.setCell ⟨b, 2, none⟩ (.bool false)).setCell ⟨w.heap.size, 0, none⟩ (.int .u8 4)).setCell ⟨w.heap.size, 1, none⟩ (.int .i64 0)).setCell ⟨w.heap.size, 2, none⟩ (.int .i64 0)).setCell ⟨w.heap.size, 3, none⟩ (.bool false)).setCell ⟨w.heap.size, 4, none⟩ (.string ⟨#[]⟩)).setCell ⟨w.heap.size, 5, none⟩ (.slice A' acc.length cap')))) (show w.heap.size ≤ G + 1 by omega) (fun k h1 h2 => by rw [far_set6 (by omega), Below.heap_setCell _ _ _ _ (by simp only; omega)])).fresh
                  have hv := HV.out.trans (listV_none HE.out.2.2.2.2.2 hs)
                  have hGb : G ≠ b := by omega
                  have hbG : b ≠ G := by omega
                  have hbk : b ≠ w.heap.size := by omega
                  have hkG : w.heap.size ≠ G := by omega
                  have HZ := Lib.hid (show _ ∧ _ ∧ _ ∧ _ ∧ _ from ⟨y1, y2, y3, y4, hv⟩)
                  clear y1 y2 y3 y4 x1 x2 x3 hk7 hG7 htn7 hgr hr7 hg7 hv
                  go_wp2_with fail
                  obtain ⟨k0, k1, k2, k3, k4, k5⟩ := Blk.val (x := ⟨4, ⟨0, 0⟩, false, ⟨#[]⟩, A', acc.length, cap'⟩) HZ.out.2.1
                  refine bodyPost_ret (v := Val.v ⟨4, ⟨0, 0⟩, false, ⟨#[]⟩, A', acc.length, cap'⟩) (by simp [results, Tryd.results45, go_sem, k0, k1, k2, k3, k4, k5]) rfl ?_
                  rw [HZ.out.2.2.2.2]
                  exact ⟨{ k := 4, q := ⟨0, 0⟩, t := false, s := ⟨#[]⟩, A := A', len := acc.length, cap := cap' }, q, rfl, by omega, hqs, rfl, HZ.out.2.2.2.1, HZ.out.1, HZ.out.2.2.1⟩
              | true =>
                cases ok with
                | false =>
                  have hRL := HL.out.2.2.2.2.2.trans hRLx.symm
                  rw [show loopAt d n acc (s.data.toList.drop q) true false = (acc, s.data.toList.drop q, false) from if_neg (by simp)] at hRL
                  clear hRLx hn hac2 hsz HL
                  obtain ⟨A', cap', rfl, htn⟩ := htw.done rfl (ok_n (n := acc.length) (by omega))
                  have HE := Lib.hid (show _ ∧ _ ∧ _ ∧ _ ∧ _ ∧ _ from ⟨hr, hk, hG, htn, hg, hRL⟩)
                  obtain ⟨c0, c1, c2⟩ := hr.cells
                  clear hr hk hG htn hg hRL htw
                  go_wp2_with fail
                  clear c0 c1 c2
                  refine (skip_two b q s _ false wr HE.out.1 hqs (by omega) (by decide)).mono ?_
                  rintro e W7 ⟨(⟨hs, hle7, rfl, hr7⟩ | ⟨hs, rfl, hr7⟩), hg7⟩
                  · have hle8 : q + 1 ≤ s.size := hle7
                    have hk7 := HE.out.2.1.grown hg7 (by omega)
                    have hG7 := HE.out.2.2.1.grown hg7 (by omega)
                    have htn7 := HE.out.2.2.2.1.keep (w' := W7) (Nat.le_refl _) (fun k h1 h2 => hg7.block k h2 (fun e => by have := Option.some.inj e; omega))
                    have hgr := HE.out.2.2.2.2.1.trans hg7
                    have x1 := hr7.setOk false
                    have x2 := hk7.far (p := ⟨b, 2, none⟩) (by simp only; omega) (.bool false)
                    have x3 := hgr.trans (grown_set W7 ⟨b, 2, none⟩ (.bool false))
                    obtain ⟨o0, o1, o2, o3, o4, o5⟩ := Blk.val (x := ⟨4, ⟨0, 0⟩, false, ⟨#[]⟩, A', acc.length, cap'⟩) hG7
                    obtain ⟨c0, c1, c2⟩ := hr7.cells
                    have cf := Blk.frozen hr7
                    obtain ⟨k0, k1, k2, k3, k4, k5⟩ := hk7.val
                    have kf := hk7.frozen
                    have y1 : RdAt _ 77 b s (q + 1) false := (far_set6 (k := b) (g := w.heap.size) (by omega) (.int .u8 4) (.int .i64 0) (.int .i64 0) (.bool false) (.string ⟨#[]⟩) (.slice A' acc.length cap')).trans x1
                    have y2 := x2.set6 (.int .u8 4) (.int .i64 0) (.int .i64 0) (.bool false) (.string ⟨#[]⟩) (.slice A' acc.length cap')
                    have y3 := grown_set6 x3 (Nat.le_refl _) (.int .u8 4) (.int .i64 0) (.int .i64 0) (.bool false) (.string ⟨#[]⟩) (.slice A' acc.length cap')
                    have y4 := (htn7.keep (w' := ((((((((W7.setCell ⟨b, 2, none⟩ (.bool false)).setCell ⟨w.heap.size, 0, none⟩ (.int .u8 4)).setCell ⟨w.heap.size, 1, none⟩ (.int .i64 0)).setCell ⟨w.heap.size, 2, none⟩ (.int .i64 0)).setCell ⟨w.heap.size, 3, none⟩ (.bool false)).setCell ⟨w.heap.size, 4, none⟩ (.string ⟨#[]⟩)).setCell ⟨w.heap.size, 5, none⟩ (.slice A' acc.length cap')))) (show w.heap.size ≤ G + 1 by omega) (fun k h1 h2 => by rw [far_set6 (by omega), Below.heap_setCell _ _ _ _ (by simp only; omega)])).fresh
                    have hv := HV.out.trans (listV_some HE.out.2.2.2.2.2 hs)
                    have hGb : G ≠ b := by omega
                    have hbG : b ≠ G := by omega
                    have hbk : b ≠ w.heap.size := by omega
                    have hkG : w.heap.size ≠ G := by omega
                    have HZ := Lib.hid (show _ ∧ _ ∧ _ ∧ _ ∧ _ from ⟨y1, y2, y3, y4, hv⟩)
                    clear y1 y2 y3 y4 x1 x2 x3 hk7 hG7 htn7 hgr hr7 hg7 hv
                    go_wp2_with fail
                    obtain ⟨k0, k1, k2, k3, k4, k5⟩ := Blk.val (x := ⟨4, ⟨0, 0⟩, false, ⟨#[]⟩, A', acc.length, cap'⟩) HZ.out.2.1
                    refine bodyPost_ret (v := Val.v ⟨4, ⟨0, 0⟩, false, ⟨#[]⟩, A', acc.length, cap'⟩) (by simp [results, Tryd.results45, go_sem, k0, k1, k2, k3, k4, k5]) rfl ?_
                    rw [HZ.out.2.2.2.2]
                    exact ⟨{ k := 4, q := ⟨0, 0⟩, t := false, s := ⟨#[]⟩, A := A', len := acc.length, cap := cap' }, q + 1, rfl, by omega, hle8, rfl, HZ.out.2.2.2.1, HZ.out.1, HZ.out.2.2.1⟩
                  · have hk7 := HE.out.2.1.grown hg7 (by omega)
                    have hG7 := HE.out.2.2.1.grown hg7 (by omega)
                    have htn7 := HE.out.2.2.2.1.keep (w' := W7) (Nat.le_refl _) (fun k h1 h2 => hg7.block k h2 (fun e => by have := Option.some.inj e; omega))
                    have hgr := HE.out.2.2.2.2.1.trans hg7
                    have x1 := hr7.setOk false
                    have x2 := hk7.far (p := ⟨b, 2, none⟩) (by simp only; omega) (.bool false)
                    have x3 := hgr.trans (grown_set W7 ⟨b, 2, none⟩ (.bool false))
                    obtain ⟨o0, o1, o2, o3, o4, o5⟩ := Blk.val (x := ⟨4, ⟨0, 0⟩, false, ⟨#[]⟩, A', acc.length, cap'⟩) hG7
                    obtain ⟨c0, c1, c2⟩ := hr7.cells
                    have cf := Blk.frozen hr7
                    obtain ⟨k0, k1, k2, k3, k4, k5⟩ := hk7.val
                    have kf := hk7.frozen
                    have y1 : RdAt _ 77 b s (q) false := (far_set6 (k := b) (g := w.heap.size) (by omega) (.int .u8 4) (.int .i64 0) (.int .i64 0) (.bool false) (.string ⟨#[]⟩) (.slice A' acc.length cap')).trans x1
                    have y2 := x2.set6 (.int .u8 4) (.int .i64 0) (.int .i64 0) (.bool false) (.string ⟨#[]⟩) (.slice A' acc.length cap')
                    have y3 := grown_set6 x3 (Nat.le_refl _) (.int .u8 4) (.int .i64 0) (.int .i64 0) (.bool false) (.string ⟨#[]⟩) (.slice A' acc.length cap')
                    have y4 := (htn7.keep (w' := ((((((((W7.setCell ⟨b, 2, none⟩ (.bool false)).setCell ⟨w.heap.size, 0, none⟩ (.int .u8 4)).setCell ⟨w.heap.size, 1, none⟩ (.int .i64 0)).setCell ⟨w.heap.size, 2, none⟩ (.int .i64 0)).setCell ⟨w.heap.size, 3, none⟩ (.bool false)).setCell ⟨w.heap.size, 4, none⟩ (.string ⟨#[]⟩)).setCell ⟨w.heap.size, 5, none⟩ (.slice A' acc.length cap')))) (show w.heap.size ≤ G + 1 by omega) (fun k h1 h2 => by rw [far_set6 (by omega), Below.heap_setCell _ _ _ _ (by simp only; omega)])).fresh
                    have hv := HV.out.trans (listV_none HE.out.2.2.2.2.2 hs)
                    have hGb : G ≠ b := by omega
                    have hbG : b ≠ G := by omega
                    have hbk : b ≠ w.heap.size := by omega
                    have hkG : w.heap.size ≠ G := by omega
                    have HZ := Lib.hid (show _ ∧ _ ∧ _ ∧ _ ∧ _ from ⟨y1, y2, y3, y4, hv⟩)
                    clear y1 y2 y3 y4 x1 x2 x3 hk7 hG7 htn7 hgr hr7 hg7 hv
                    go_wp2_with fail
                    obtain ⟨k0, k1, k2, k3, k4, k5⟩ := Blk.val (x := ⟨4, ⟨0, 0⟩, false, ⟨#[]⟩, A', acc.length, cap'⟩) HZ.out.2.1
                    refine bodyPost_ret (v := Val.v ⟨4, ⟨0, 0⟩, false, ⟨#[]⟩, A', acc.length, cap'⟩) (by simp [results, Tryd.results45, go_sem, k0, k1, k2, k3, k4, k5]) rfl ?_
                    rw [HZ.out.2.2.2.2]
                    exact ⟨{ k := 4, q := ⟨0, 0⟩, t := false, s := ⟨#[]⟩, A := A', len := acc.length, cap := cap' }, q, rfl, by omega, hqs, rfl, HZ.out.2.2.2.1, HZ.out.1, HZ.out.2.2.1⟩
                | true =>
                  have hn1 := hn ⟨rfl, rfl⟩
                  have hac3 := hac2 rfl
                  obtain ⟨n, rfl⟩ : ∃ m, n = m + 1 := ⟨n - 1, by omega⟩
                  obtain ⟨Rv, hRv0⟩ : ∃ Rv, valueL d (s.data.toList.drop q) = Rv := ⟨_, rfl⟩
                  obtain ⟨y, r, ok'⟩ := Rv
                  have hRv := Lib.hid hRv0
                  have hRL := Lib.hid hRLx
                  have HPOS := Lib.hid hr.pos
                  clear hRLx hn hac2 hsz HL hRv0
                  have hlenS : s.data.toList.length = s.size := by simp
                  obtain ⟨p2, hp2⟩ : ∃ p2, s.size - r.length = p2 := ⟨_, rfl⟩
                  obtain ⟨o, ho⟩ : ∃ o : Obj, Obj.cells (rdBox s p2 ok') 77 (0, 0) = o := ⟨_, rfl⟩
                  have hbG : b < G := by omega
                  have hGb : G ≠ b := by omega
                  have bo5 : ∀ W, KpOne b o wr W → W.cell? ⟨G, 5, none⟩ = some v := fun W hW => Blk.cell (i := 5) (show Blk W G 26 #[.int .u8 4, .int .i64 0, .int .i64 0, .bool false, .string ⟨#[]⟩, v] from hW.other hGb hG) rfl
                  have HO := Lib.hid (show _ ∧ _ from ⟨ho, hp2⟩)
                  have HB := Lib.hid (show _ ∧ _ ∧ _ ∧ _ ∧ _ from ⟨hr, hk, hG, htw, hg⟩)
                  have hcall := fun (W : World) (hW : KpOne b o wr W) (hs : W.heap[b]? = wr.heap[b]?) => ih b q s W (hs.trans hr) hqs hs4 (fun W' hW' => HT.out W' ((hg.trans hW.grown).trans hW'))
                  have HC := Lib.hid hcall
                  obtain ⟨c0, c1, c2⟩ := hr.cells
                  clear hcall hr hk hG htw hg ho hp2
                  go_wp2_with fail
                  clear c0 c1 c2
                  apply wp_region_headS0 7 122 (R := KpOne b o) (S := fun W => W.heap[b]? = wr.heap[b]?) (j0 := 5) (hR := kpOne_keeps b o) (hS0 := rfl) (hm := by kernel_rfl) (hN := rfl)
                  case hB => kernel_rfl
                  case h =>
                    simp only [List.take_succ_cons, List.take_zero]
                    iterate 4 (apply headS_still (kpOne_keeps _ _) rfl; (intro W hW; have q0 := bo5 W hW; go_simp; (try rfl)))
                    (apply headS_still (kpOne_keeps _ _) (c := .int .i64 (d : Int)) rfl; (intro W hW; have q0 := bo5 W hW; go_simp; (rw [IntKind.wrap_i64]; omega)))
                    apply headS_one (fun v W => (MadeOf wr.heap.size 26 y v W ∧ W.heap[b]? = some o) ∧ (q ≤ p2 ∧ p2 ≤ s.size ∧ s.data.toList.drop p2 = r)) rfl (by kernel_rfl) (fun _ _ _ h hb => ⟨hb.made (by omega) h.1, h.2⟩)
                    · intro W hW hs
                      unfold Gives
                      go_simp
                      refine (HC.out W hW hs).mono ?_
                      rintro e W' ⟨x', p', rfl, h1, h2, h3, h4, h5, h6⟩
                      rw [hRv.out] at h3 h4 h5
                      dsimp only at h3 h4 h5
                      have hp' : p' = p2 := by
                        have := congrArg List.length h3
                        rw [List.length_drop, hlenS] at this
                        have := HO.out.2
                        omega
                      subst hp'
                      have h7 : W'.heap[b]? = some o := by rw [← HO.out.1]; exact h5
                      exact ⟨_, rfl, ⟨⟨⟨x', rfl, h4.keep hW.size (fun _ _ _ => rfl)⟩, h7⟩, h1, h2, h3⟩, KpOne.of_grown h6 h7⟩
                    intro v5
                    apply headS_mem [5] (OneOf wr.heap.size 26 y) (by kernel_rfl) (fun _ _ _ h hb => hb.oneOf (by omega) h)
                    · intro W hW hk
                      obtain ⟨⟨⟨u', rfl, hu'⟩, ho'⟩, -⟩ := hk.1 (by simp)
                      have hnew := Blk.new W 26 u'.box
                      have hbl := below_alloc W (.cells u'.box 26)
                      unfold Gives
                      go_simp
                      have hbW : b < W.heap.size := by have := hW.size; omega
                      exact ⟨⟨u', W.heap.size, rfl, hW.size, hnew, hu'.below hbl⟩, KpOne.of_below hbl hbW, fun hs => (hbl.block b hbW).trans (ho'.trans hs)⟩
                    intro v6
                    refine headS_nil ?_
                    intro W hW hF
                    obtain ⟨⟨u', gg, rfl, hgg, hbg, hu'⟩, ⟨⟨-, ho'⟩, hpp⟩, -⟩ := hF
                    have HP := Lib.hid hpp
                    have hsW := hW.size
                    have hr : RdAt W 77 b s p2 ok' := by rw [← HO.out.1] at ho'; exact ho'
                    have hk : Blk W w.heap.size 26 (Val.box noneV) := hW.other (by omega) HB.out.2.1
                    have hG : Blk W G 26 #[.int .u8 4, .int .i64 0, .int .i64 0, .bool false, .string ⟨#[]⟩, v] := hW.other hGb HB.out.2.2.1
                    have htw0 := HB.out.2.2.2.1
                    have hvlt := fun b' hb' => (htw0.lt b' hb').2
                    have htw := (htw0.keep (w' := W) (Nat.le_refl _) (fun k h1 h2 => hW.block k h2 (by omega))).more (m := [y]) rfl
                    have hg := HB.out.2.2.2.2.trans hW.grown
                    obtain ⟨ys', hyl, hown, hkids⟩ := id htw
                    have hyt : (acc ++ [y])[acc.length]? = some y := by simp
                    clear hW ho' hpp htw0 htw bo5
                    simp only [List.drop_succ_cons, List.drop_zero, Act.put, List.setIfInBounds_toArray, List.set_cons_succ, List.set_cons_zero]
                    refine wpList_append_lies _ rfl _ _ 24 rfl (G + 1) 26 i0 noneV.v 6 72 Tryd.underlying24 hi0 hz0 hz1 hz2 rfl (by decide) v acc.length (ys'.flatMap Val.cells) rfl hown ⟨gg, 0, none⟩ 1 1 u'.cells rfl rfl (cells_val hbg) (cells_val_one u') (by omega) (by unfold maxLen; omega) (by omega) (by omega) W.heap.size rfl ?_
                    intro g' cap' w7 hown' hgrow hg' hg7
                    have htw7 := TwR.snoc hyl hkids hvlt (show G + 1 ≤ wr.heap.size by omega) hyt hu' hown' hgrow (hg'.imp (fun h => h.symm) (fun h => congrArg some h))
                    have far : ∀ k, k < G + 1 → w7.heap[k]? = W.heap[k]? := fun k hk => hgrow.block k (by omega) (fun h => by have := (hown.lt k h.symm).1; omega)
                    have hr7 : RdAt w7 77 b s p2 ok' := (far b (by omega)).trans hr
                    have hk7 : Blk w7 w.heap.size 26 (Val.box noneV) := (far _ (by omega)).trans hk
                    have hG7 : Blk w7 G 26 #[.int .u8 4, .int .i64 0, .int .i64 0, .bool false, .string ⟨#[]⟩, v] := (far _ (by omega)).trans hG
                    have hgr7 := grown_grown hg hgrow (fun k hk => by have := (hown.lt k hk).1; omega)
                    have hfr := hG7.frozen 5
                    have ho5 := hG7.cell (i := 5) rfl
                    have hG8 := hG7.set_ 5 (.slice (some ⟨g', 0, none⟩) (acc.length + 1) cap')
                    have hr8 : RdAt _ 77 b s p2 ok' := Blk.far (p := ⟨G, 5, none⟩) hr7 (by simp only; omega) (.slice (some ⟨g', 0, none⟩) (acc.length + 1) cap')
                    have hk8 := hk7.far (p := ⟨G, 5, none⟩) (by simp only; omega) (.slice (some ⟨g', 0, none⟩) (acc.length + 1) cap')
                    have htw8 := htw7.keep (w' := w7.setCell ⟨G, 5, none⟩ (.slice (some ⟨g', 0, none⟩) (acc.length + 1) cap')) (Nat.le_refl _) (fun k hk _ => Below.heap_setCell _ _ _ _ (by simp only; omega))
                    have hgr8 := grown_new hgr7 (p := ⟨G, 5, none⟩) (by simp only; omega) (.slice (some ⟨g', 0, none⟩) (acc.length + 1) cap')
                    have HM := Lib.hid (show _ ∧ _ ∧ _ ∧ _ ∧ _ from ⟨hr8, hk8, hG8, htw8, hgr8⟩)
                    clear hr8 hk8 hG8 htw8 hgr8 hr7 hk7 hG7 hgr7 htw7 far hown' hgrow hg' hg7 hown hkids hyl hr hk hG hg hvlt hu' hbg hyt
                    go_wp2_with fail
                    generalize w7.setCell _ _ = w8 at HM ⊢
                    refine (skip_two b p2 s _ ok' w8 HM.out.1 HP.out.2.1 (by omega) (by decide)).mono ?_
                    rintro e w9 ⟨(⟨hs9, hle9, rfl, hr9⟩ | ⟨hs9, rfl, hr9⟩), hg9⟩
                    · have hle9' : p2 + 2 ≤ s.size := hle9
                      replace hr9 : RdAt w9 77 b s (p2 + 2) ok' := hr9
                      have hk9 := HM.out.2.1.grown hg9 (by omega)
                      have hG9 := HM.out.2.2.1.grown hg9 (by omega)
                      have htw9 := HM.out.2.2.2.1.grown hg9 (by omega)
                      have hgr9 := HM.out.2.2.2.2.trans hg9
                      have hln : (acc ++ [y]).length = acc.length + 1 := by simp
                      have HN := Lib.hid (show _ ∧ _ ∧ _ ∧ _ ∧ _ from ⟨hr9, hk9, hG9, htw9, hgr9⟩)
                      have hR9 := hRL.out.symm.trans (loop_yes (n := n) hRv.out (by rw [← HP.out.2.2]; exact hs9))
                      have HR9 := Lib.hid hR9
                      clear hk9 hG9 htw9 hgr9 hr9 hg9 hR9 HM
                      go_wp2_with fail
                      go_roundw
                      case rel => exact ⟨n, acc ++ [y], p2 + 2, _, ok', true, rfl, HN.out.1, HN.out.2.1, HN.out.2.2.1, by rw [hln]; exact HN.out.2.2.2.1, HN.out.2.2.2.2, by have := HP.out.1; omega, hle9', by rw [hln]; have := HP.out.1; omega, fun _ => by rw [hln]; have := HP.out.1; omega, fun _ => by have := HP.out.1; omega, HR9.out.symm⟩
                      case measure => rw [HN.out.1.pos, HPOS.out]; have := HP.out.1; simp only [boolN]; (first | omega | (trace_state; omega))
                    · replace hr9 : RdAt w9 77 b s (p2) ok' := hr9
                      have hk9 := HM.out.2.1.grown hg9 (by omega)
                      have hG9 := HM.out.2.2.1.grown hg9 (by omega)
                      have htw9 := HM.out.2.2.2.1.grown hg9 (by omega)
                      have hgr9 := HM.out.2.2.2.2.trans hg9
                      have hln : (acc ++ [y]).length = acc.length + 1 := by simp
                      have HN := Lib.hid (show _ ∧ _ ∧ _ ∧ _ ∧ _ from ⟨hr9, hk9, hG9, htw9, hgr9⟩)
                      have hR9 := hRL.out.symm.trans (loop_no (n := n) hRv.out (by rw [← HP.out.2.2]; exact hs9))
                      have HR9 := Lib.hid hR9
                      clear hk9 hG9 htw9 hgr9 hr9 hg9 hR9 HM
                      go_wp2_with fail
                      go_roundw
                      case rel => exact ⟨n, acc ++ [y], p2, _, ok', false, rfl, HN.out.1, HN.out.2.1, HN.out.2.2.1, by rw [hln]; exact HN.out.2.2.2.1, HN.out.2.2.2.2, by have := HP.out.1; omega, HP.out.2.1, by rw [hln]; have := HP.out.1; omega, (fun h => by cases h), (fun h => by cases h.1), by rw [HP.out.2.2]; exact HR9.out.symm⟩
                      case measure => rw [HN.out.1.pos, HPOS.out]; have := HP.out.1; simp only [boolN]; (first | omega | (trace_state; omega))
                  all_goals rfl
          · have HQ5 := Lib.hid (show _ ∧ _ ∧ _ from ⟨hr1, HQ4.out.2.1.grown hg1 (by omega), HQ4.out.2.2.trans hg1⟩)
            clear hr1 hg1 HQ4
            have HRV := Lib.hid (valueL_num (d := d) h0 h1 h2 h3 h4)
            obtain ⟨c0, c1, c2⟩ := HQ5.out.1.cells
            have HQ := HQ5
            clear HQ5
            go_wp2_with fail
            clear c0 c1 c2
            go_loopw [7] (fun iv wr => ∃ q : Nat, (RdAt wr 77 b s p true ∧ Blk wr w.heap.size 26 (Val.box noneV) ∧ w.grownBy wr (some b)) ∧ p ≤ q ∧ q ≤ s.size ∧ iv = .int .i64 q ∧ ((s.data.toList.drop p).take (q - p)).all isDig = true) (fun iv _ => s.size - (intOf iv).toNat)
            case atStart => exact ⟨p, HQ.out, Nat.le_refl _, hp, rfl, by simp⟩
            case round =>
              clear HQ
              obtain ⟨q, hq3, hpq, hqs, rfl, hall⟩ := hrel
              have HQ := Lib.hid hq3
              clear hq3
              obtain ⟨c0, c1, c2⟩ := HQ.out.1.cells
              have cf := Blk.frozen HQ.out.1
              have HA := Lib.hid hall
              clear hall
              by_cases hlt : q < s.size
              · have hlt2 : (q : Int) < s.size := by omega
                obtain ⟨X, hX, hix⟩ := index_byte s[q] wr
                have HX := Lib.hid hix
                clear hix
                cases hdg : isDig s[q] with
                | true =>
                  have hx0 : 0 ≤ X := by rw [hdg] at hX; simpa using hX
                  have hnx := span_dig (l := s.data.toList.drop p) (q := q - p) (c := s[q]) (by rw [List.getElem?_drop, show p + (q - p) = q by omega]; exact List.getElem?_eq_getElem (by simpa using hlt)) hdg HA.out
                  have HS := Lib.hid hnx
                  clear hX hdg hnx
                  go_wp2_with fail
                  refine HX.out.mono ?_
                  rintro e w2 ⟨rfl, hw2⟩
                  rw [hw2]
                  clear hw2 w2
                  go_wp2_with fail
                  go_roundw
                  case rel => exact ⟨q + 1, HQ.out, by omega, hlt, by go_num, by rw [show q + 1 - p = q - p + 1 by omega]; exact HS.out⟩
                  case measure => simp [intOf]; omega
                | false =>
                  have hx0 : ¬ 0 ≤ X := by rw [hdg] at hX; simpa using hX
                  have HE := Lib.hid (show q = s.size ∨ ∃ h : q < s.size, isDig s[q] = false from .inr ⟨hlt, hdg⟩)
                  clear hX hdg
                  go_wp2_with fail
                  refine HX.out.mono ?_
                  rintro e w2 ⟨rfl, hw2⟩
                  rw [hw2]
                  clear hw2 w2
                  go_wp2_with fail
                  have hn := HRV.out.trans (num_end hpq hqs HA.out HE.out)
                  have hpa := fun W' hT => parse_any (s.extract p q) W' (by rw [ByteArray.size_extract]; omega) hT
                  have h64 := parseR_64 (s.extract p q).data.toList
                  have hE12 : parseE (s.extract p q).data.toList = 0 ∨ parseE (s.extract p q).data.toList = 12 := (parse_val (s.extract p q).data.toList).elim (fun h => .inl h.2.2) (fun h => .inr h.2.2)
                  generalize parseR (s.extract p q).data.toList = PR at hn hpa h64
                  generalize parseE (s.extract p q).data.toList = PE at hn hpa hE12
                  obtain ⟨r1, r2⟩ := PR
                  have HN := Lib.hid (show _ ∧ _ ∧ _ ∧ _ from ⟨hn, hpa, h64, hE12⟩)
                  clear hn hpa h64 hE12
                  have a0 : ∀ W', Below wr.heap.size wr W' → W'.cell? ⟨b, 0, none⟩ = some (.string s) := fun W' hW => (HQ.out.1.grown hW).cells.1
                  have a1 : ∀ W', Below wr.heap.size wr W' → W'.cell? ⟨b, 1, none⟩ = some (.int .i64 p) := fun W' hW => (HQ.out.1.grown hW).cells.2.1
                  have hpq2 : (p : Int) ≤ q := by omega
                  have hqs2 : (q : Int) ≤ s.size := by omega
                  clear c0 c1 c2 cf
                  apply wp_region_headR 16 122 (hR := kpNew_keeps wr.heap.size (.cells #[.int .i64 0, .int .i64 0] 23 (0, 0)) (.cells #[.int .i64 r1, .int .i64 r2] 23 (0, 0))) (hm := by kernel_rfl) (hN := rfl)
                  case hB => kernel_rfl
                  case h =>
                    simp only [List.take_succ_cons, List.take_zero]
                    iterate 10 (apply headN_still rfl; (intro W' hW; have q0 := a0 W' hW; have q1 := a1 W' hW; go_simp; (try rfl)))
                    (apply headN_call (Nat.le_refl _) rfl; (intro W'; go_simp; exact ⟨rfl, rfl⟩); (intro W' hW; exact (HN.out.2.1 W' (HT.out W' (HQ.out.2.2.trans (grown_below hW _)))).mono fun e W'' h => h))
                    iterate 3 (apply headN_still rfl; (intro W' hW; go_simp; (try rfl)))
                    apply headN_alloc (Nat.le_refl _) rfl
                    · intro W'; go_simp
                    intro v
                    apply headN_store2 (j := 14) (v := v) rfl rfl
                    · intro W' hk
                      exact hk.1 (by simp)
                    · intro W' g x' y' hv h1 h2 h3
                      subst hv
                      unfold Gives
                      go_simp
                    intro _
                    refine head_nilR ?_
                    intro W2 hW2 hF
                    obtain ⟨⟨g, rfl, hg, hgc⟩, -⟩ := hF
                    replace hgc : Blk W2 g 23 #[.int .i64 r1, .int .i64 r2] := hgc
                    have hr2 := HQ.out.1.grown hW2.below
                    have hk2 := HQ.out.2.1.keep hW2.below
                    have hg2 := HQ.out.2.2.trans (grown_below hW2.below _)
                    have hKlt : w.heap.size < g := Nat.lt_of_lt_of_le HQ.out.2.1.lt hg
                    have hbg : b < g := Nat.lt_trans hblt hKlt
                    clear hW2 a0 a1
                    obtain ⟨c0, c1, c2⟩ := hr2.cells
                    have cf := Blk.frozen hr2
                    obtain ⟨k0, k1, k2, k3, k4, k5⟩ := hk2.val
                    have kf := hk2.frozen
                    have g0 := hgc.cell (i := 0) (v := .int .i64 r1) rfl
                    have g1 := hgc.cell (i := 1) (v := .int .i64 r2) rfl
                    have hgl := hgc.lt
                    have hnn := HN.out.1
                    have hbk : b ≠ w.heap.size := by omega
                    have h64 := HN.out.2.2.1
                    clear HQ HE HA
                    rcases HN.out.2.2.2 with hE | hE
                    · subst hE
                      have x1 := (hr2.setOk true).setAt q
                      have x2 := (hk2.far (p := ⟨b, 2, none⟩) (by simp only; omega) (.bool true)).far (p := ⟨b, 1, none⟩) (by simp only; omega) (.int .i64 q)
                      have x3 := (hg2.trans (grown_set W2 ⟨b, 2, none⟩ (.bool true))).trans (grown_set _ ⟨b, 1, none⟩ (.int .i64 q))
                      have y1 : RdAt _ 77 b s q true := (far_set6 (k := b) (g := w.heap.size) hbk (.int .u8 1) (.int .i64 r1) (.int .i64 r2) (.bool false) (.string ⟨#[]⟩) (.slice none 0 0)).trans x1
                      have y2 := x2.set6 (.int .u8 1) (.int .i64 r1) (.int .i64 r2) (.bool false) (.string ⟨#[]⟩) (.slice none 0 0)
                      have y3 := grown_set6 x3 (Nat.le_refl _) (.int .u8 1) (.int .i64 r1) (.int .i64 r2) (.bool false) (.string ⟨#[]⟩) (.slice none 0 0)
                      have HZ := Lib.hid (show _ ∧ _ ∧ _ ∧ _ from ⟨y1, y2, y3, hnn⟩)
                      clear x1 x2 x3 y1 y2 y3 hr2 hk2 hg2 hgc hnn HN HRV
                      go_wp2_with fail
                      obtain ⟨k0, k1, k2, k3, k4, k5⟩ := Blk.val (x := ⟨1, ⟨r1, r2⟩, false, ⟨#[]⟩, none, 0, 0⟩) HZ.out.2.1
                      refine bodyPost_ret (v := Val.v ⟨1, ⟨r1, r2⟩, false, ⟨#[]⟩, none, 0, 0⟩) (by simp [results, Tryd.results45, go_sem, k0, k1, k2, k3, k4, k5]) rfl ?_
                      rw [HZ.out.2.2.2]
                      exact ⟨⟨1, ⟨r1, r2⟩, false, ⟨#[]⟩, none, 0, 0⟩, q, rfl, hpq, hqs, rfl, fresh_leaf _ _ _ (ok_num h64), HZ.out.1, HZ.out.2.2.1⟩
                    · subst hE
                      have x1 := (hr2.setOk false).setAt q
                      have x2 := (hk2.far (p := ⟨b, 2, none⟩) (by simp only; omega) (.bool false)).far (p := ⟨b, 1, none⟩) (by simp only; omega) (.int .i64 q)
                      have x3 := (hg2.trans (grown_set W2 ⟨b, 2, none⟩ (.bool false))).trans (grown_set _ ⟨b, 1, none⟩ (.int .i64 q))
                      have y1 : RdAt _ 77 b s q false := (far_set6 (k := b) (g := w.heap.size) hbk (.int .u8 1) (.int .i64 r1) (.int .i64 r2) (.bool false) (.string ⟨#[]⟩) (.slice none 0 0)).trans x1
                      have y2 := x2.set6 (.int .u8 1) (.int .i64 r1) (.int .i64 r2) (.bool false) (.string ⟨#[]⟩) (.slice none 0 0)
                      have y3 := grown_set6 x3 (Nat.le_refl _) (.int .u8 1) (.int .i64 r1) (.int .i64 r2) (.bool false) (.string ⟨#[]⟩) (.slice none 0 0)
                      have HZ := Lib.hid (show _ ∧ _ ∧ _ ∧ _ from ⟨y1, y2, y3, hnn⟩)
                      clear x1 x2 x3 y1 y2 y3 hr2 hk2 hg2 hgc hnn HN HRV
                      go_wp2_with fail
                      obtain ⟨k0, k1, k2, k3, k4, k5⟩ := Blk.val (x := ⟨1, ⟨r1, r2⟩, false, ⟨#[]⟩, none, 0, 0⟩) HZ.out.2.1
                      refine bodyPost_ret (v := Val.v ⟨1, ⟨r1, r2⟩, false, ⟨#[]⟩, none, 0, 0⟩) (by simp [results, Tryd.results45, go_sem, k0, k1, k2, k3, k4, k5]) rfl ?_
                      rw [HZ.out.2.2.2]
                      exact ⟨⟨1, ⟨r1, r2⟩, false, ⟨#[]⟩, none, 0, 0⟩, q, rfl, hpq, hqs, rfl, fresh_leaf _ _ _ (ok_num h64), HZ.out.1, HZ.out.2.2.1⟩
                  all_goals rfl
              · have hlt2 : ¬ (q : Int) < s.size := by omega
                have HE := Lib.hid (show q = s.size ∨ ∃ h : q < s.size, isDig s[q] = false from .inl (by omega))
                go_wp2_with fail
                have hn := HRV.out.trans (num_end hpq hqs HA.out HE.out)
                have hpa := fun W' hT => parse_any (s.extract p q) W' (by rw [ByteArray.size_extract]; omega) hT
                have h64 := parseR_64 (s.extract p q).data.toList
                have hE12 : parseE (s.extract p q).data.toList = 0 ∨ parseE (s.extract p q).data.toList = 12 := (parse_val (s.extract p q).data.toList).elim (fun h => .inl h.2.2) (fun h => .inr h.2.2)
                generalize parseR (s.extract p q).data.toList = PR at hn hpa h64
                generalize parseE (s.extract p q).data.toList = PE at hn hpa hE12
                obtain ⟨r1, r2⟩ := PR
                have HN := Lib.hid (show _ ∧ _ ∧ _ ∧ _ from ⟨hn, hpa, h64, hE12⟩)
                clear hn hpa h64 hE12
                have a0 : ∀ W', Below wr.heap.size wr W' → W'.cell? ⟨b, 0, none⟩ = some (.string s) := fun W' hW => (HQ.out.1.grown hW).cells.1
                have a1 : ∀ W', Below wr.heap.size wr W' → W'.cell? ⟨b, 1, none⟩ = some (.int .i64 p) := fun W' hW => (HQ.out.1.grown hW).cells.2.1
                have hpq2 : (p : Int) ≤ q := by omega
                have hqs2 : (q : Int) ≤ s.size := by omega
                clear c0 c1 c2 cf
                apply wp_region_headR 16 122 (hR := kpNew_keeps wr.heap.size (.cells #[.int .i64 0, .int .i64 0] 23 (0, 0)) (.cells #[.int .i64 r1, .int .i64 r2] 23 (0, 0))) (hm := by kernel_rfl) (hN := rfl)
                case hB => kernel_rfl
                case h =>
                  simp only [List.take_succ_cons, List.take_zero]
                  iterate 10 (apply headN_still rfl; (intro W' hW; have q0 := a0 W' hW; have q1 := a1 W' hW; go_simp; (try rfl)))
                  (apply headN_call (Nat.le_refl _) rfl; (intro W'; go_simp; exact ⟨rfl, rfl⟩); (intro W' hW; exact (HN.out.2.1 W' (HT.out W' (HQ.out.2.2.trans (grown_below hW _)))).mono fun e W'' h => h))
                  iterate 3 (apply headN_still rfl; (intro W' hW; go_simp; (try rfl)))
                  apply headN_alloc (Nat.le_refl _) rfl
                  · intro W'; go_simp
                  intro v
                  apply headN_store2 (j := 14) (v := v) rfl rfl
                  · intro W' hk
                    exact hk.1 (by simp)
                  · intro W' g x' y' hv h1 h2 h3
                    subst hv
                    unfold Gives
                    go_simp
                  intro _
                  refine head_nilR ?_
                  intro W2 hW2 hF
                  obtain ⟨⟨g, rfl, hg, hgc⟩, -⟩ := hF
                  replace hgc : Blk W2 g 23 #[.int .i64 r1, .int .i64 r2] := hgc
                  have hr2 := HQ.out.1.grown hW2.below
                  have hk2 := HQ.out.2.1.keep hW2.below
                  have hg2 := HQ.out.2.2.trans (grown_below hW2.below _)
                  have hKlt : w.heap.size < g := Nat.lt_of_lt_of_le HQ.out.2.1.lt hg
                  have hbg : b < g := Nat.lt_trans hblt hKlt
                  clear hW2 a0 a1
                  obtain ⟨c0, c1, c2⟩ := hr2.cells
                  have cf := Blk.frozen hr2
                  obtain ⟨k0, k1, k2, k3, k4, k5⟩ := hk2.val
                  have kf := hk2.frozen
                  have g0 := hgc.cell (i := 0) (v := .int .i64 r1) rfl
                  have g1 := hgc.cell (i := 1) (v := .int .i64 r2) rfl
                  have hgl := hgc.lt
                  have hnn := HN.out.1
                  have hbk : b ≠ w.heap.size := by omega
                  have h64 := HN.out.2.2.1
                  clear HQ HE HA
                  rcases HN.out.2.2.2 with hE | hE
                  · subst hE
                    have x1 := (hr2.setOk true).setAt q
                    have x2 := (hk2.far (p := ⟨b, 2, none⟩) (by simp only; omega) (.bool true)).far (p := ⟨b, 1, none⟩) (by simp only; omega) (.int .i64 q)
                    have x3 := (hg2.trans (grown_set W2 ⟨b, 2, none⟩ (.bool true))).trans (grown_set _ ⟨b, 1, none⟩ (.int .i64 q))
                    have y1 : RdAt _ 77 b s q true := (far_set6 (k := b) (g := w.heap.size) hbk (.int .u8 1) (.int .i64 r1) (.int .i64 r2) (.bool false) (.string ⟨#[]⟩) (.slice none 0 0)).trans x1
                    have y2 := x2.set6 (.int .u8 1) (.int .i64 r1) (.int .i64 r2) (.bool false) (.string ⟨#[]⟩) (.slice none 0 0)
                    have y3 := grown_set6 x3 (Nat.le_refl _) (.int .u8 1) (.int .i64 r1) (.int .i64 r2) (.bool false) (.string ⟨#[]⟩) (.slice none 0 0)
                    have HZ := Lib.hid (show _ ∧ _ ∧ _ ∧ _ from ⟨y1, y2, y3, hnn⟩)
                    clear x1 x2 x3 y1 y2 y3 hr2 hk2 hg2 hgc hnn HN HRV
                    go_wp2_with fail
                    obtain ⟨k0, k1, k2, k3, k4, k5⟩ := Blk.val (x := ⟨1, ⟨r1, r2⟩, false, ⟨#[]⟩, none, 0, 0⟩) HZ.out.2.1
                    refine bodyPost_ret (v := Val.v ⟨1, ⟨r1, r2⟩, false, ⟨#[]⟩, none, 0, 0⟩) (by simp [results, Tryd.results45, go_sem, k0, k1, k2, k3, k4, k5]) rfl ?_
                    rw [HZ.out.2.2.2]
                    exact ⟨⟨1, ⟨r1, r2⟩, false, ⟨#[]⟩, none, 0, 0⟩, q, rfl, hpq, hqs, rfl, fresh_leaf _ _ _ (ok_num h64), HZ.out.1, HZ.out.2.2.1⟩
                  · subst hE
                    have x1 := (hr2.setOk false).setAt q
                    have x2 := (hk2.far (p := ⟨b, 2, none⟩) (by simp only; omega) (.bool false)).far (p := ⟨b, 1, none⟩) (by simp only; omega) (.int .i64 q)
                    have x3 := (hg2.trans (grown_set W2 ⟨b, 2, none⟩ (.bool false))).trans (grown_set _ ⟨b, 1, none⟩ (.int .i64 q))
                    have y1 : RdAt _ 77 b s q false := (far_set6 (k := b) (g := w.heap.size) hbk (.int .u8 1) (.int .i64 r1) (.int .i64 r2) (.bool false) (.string ⟨#[]⟩) (.slice none 0 0)).trans x1
                    have y2 := x2.set6 (.int .u8 1) (.int .i64 r1) (.int .i64 r2) (.bool false) (.string ⟨#[]⟩) (.slice none 0 0)
                    have y3 := grown_set6 x3 (Nat.le_refl _) (.int .u8 1) (.int .i64 r1) (.int .i64 r2) (.bool false) (.string ⟨#[]⟩) (.slice none 0 0)
                    have HZ := Lib.hid (show _ ∧ _ ∧ _ ∧ _ from ⟨y1, y2, y3, hnn⟩)
                    clear x1 x2 x3 y1 y2 y3 hr2 hk2 hg2 hgc hnn HN HRV
                    go_wp2_with fail
                    obtain ⟨k0, k1, k2, k3, k4, k5⟩ := Blk.val (x := ⟨1, ⟨r1, r2⟩, false, ⟨#[]⟩, none, 0, 0⟩) HZ.out.2.1
                    refine bodyPost_ret (v := Val.v ⟨1, ⟨r1, r2⟩, false, ⟨#[]⟩, none, 0, 0⟩) (by simp [results, Tryd.results45, go_sem, k0, k1, k2, k3, k4, k5]) rfl ?_
                    rw [HZ.out.2.2.2]
                    exact ⟨⟨1, ⟨r1, r2⟩, false, ⟨#[]⟩, none, 0, 0⟩, q, rfl, hpq, hqs, rfl, fresh_leaf _ _ _ (ok_num h64), HZ.out.1, HZ.out.2.2.1⟩
                all_goals rfl
end Go.Proofs.YtjgampkpfjbmdaaDoor
end
section
/- Parse of the program. -/
namespace Go.Rel
open Go.RowKit
theorem wide_more : ∀ {d : Nat} {T : Tree}, wideT T d = true → wideT T (d + 1) = true
  | 0, T, h => by rw [wideT_zero] at h; cases h
  | d + 1, .node k q t s kids, h => by
    obtain ⟨e, he, h1, h2, hk⟩ := wideT_parts h
    obtain rfl : d = e := by omega
    exact wide_node h1 h2 fun x hx => wide_more (hk x hx)
/-- The ways that Parse goes. -/
theorem parseV_cases (l : Bs) {T : Tree} {r : Bs} {ok : Bool} (h : valueL 6 l = (T, r, ok)) :
    (l.length ≤ 4000 → ok = true → r = [] → chkT T = 0 → parseVT l = T ∧ parseVE l = 0) ∧ ((4000 < l.length ∨ ok = false ∨ r ≠ [] ∨ chkT T ≠ 0) → parseVT l = Tree.none_ ∧ parseVE l = 12) := by
  unfold parseVT parseVE
  rw [h]
  refine ⟨fun a b c d => ?_, fun hx => ?_⟩
  · rw [if_pos ⟨b, c, d, a⟩, if_pos ⟨b, c, d, a⟩]; exact ⟨rfl, rfl⟩
  · have hn : ¬ (ok = true ∧ r = [] ∧ chkT T = 0 ∧ l.length ≤ 4000) := by
      rintro ⟨b, c, d, a⟩
      rcases hx with hx | hx | hx | hx
      · omega
      · rw [b] at hx; cases hx
      · exact hx c
      · exact hx d
    rw [if_neg hn, if_neg hn]; exact ⟨rfl, rfl⟩
end Go.Rel
namespace Go.Proofs.YtjgampkpfjbmdaaDoor
open Go.RowKit Go.Rel
set_option maxRecDepth 100000
theorem value_any : ∀ d, d ≤ 7 → ValueIs d
  | 0, _ => value_zero
  | d + 1, h => value_succ d (by omega) (value_any d (by omega))
set_option maxHeartbeats 4000000 in
theorem parseV_any (s : ByteArray) (w : World) (hs : s.size ≤ 100000) (ht : Tab w) :
    Calls Tryd.prog 20 #[.string s] w (RetVE 26 w (parseVT s.data.toList) (parseVE s.data.toList)) := by
  have hlen : s.data.toList.length = s.size := by simp
  obtain ⟨R, hR⟩ : ∃ R, valueL 6 s.data.toList = R := ⟨_, rfl⟩
  obtain ⟨T, r, ok⟩ := R
  have hwide : s.size ≤ 4000 → wideT T 10 = true := fun h => by
    have := valueL_wide 6 s.data.toList (by omega)
    rw [hR] at this
    exact wide_more (wide_more (wide_more this))
  have HPC := Lib.hid (show _ ∧ _ from ⟨parseV_cases s.data.toList hR, hwide⟩)
  have HRR := Lib.hid hR
  have HF := Lib.hid (show ∀ (x : Val) (w' : World) (E : Int) (T' : Tree), Fresh w' w.heap.size 26 T' x → Below w.heap.size w w' → (parseVT s.data.toList = T' ∧ parseVE s.data.toList = E) → RetVE 26 w (parseVT s.data.toList) (parseVE s.data.toList) (.returned (.tuple #[x.v, .int .i64 E])) w' from fun x w' E T' h1 h2 h3 => ⟨x, by rw [h3.2], by rw [h3.1]; exact h1, h2⟩)
  have HT := Lib.hid ht
  generalize parseVT s.data.toList = PT at *
  generalize parseVE s.data.toList = PE at *
  clear hR hwide ht
  have HB := Lib.hid (box_val w 26 noneV)
  obtain ⟨hb, hres⟩ := HB.out
  by_cases h4 : s.size ≤ 4000
  case neg =>
    have hgt : (4000 : Int) < s.size := by omega
    have HV := Lib.hid (HPC.out.1.2 (.inl (by omega)))
    have HN := Lib.hid (show _ ∧ _ from ⟨hres, hb⟩)
    clear hres hb HB HPC HRR
    go_enter Tryd.func20, Tryd.ntmps20
    go_wp2_with fail
    obtain ⟨k0, k1, k2, k3, k4, k5⟩ := Blk.val (x := noneV) HN.out.1
    exact bodyPost_ret (v := .tuple #[Val.v noneV, .int .i64 12]) (by simp [results, Tryd.results20, go_sem, k0, k1, k2, k3, k4, k5]) rfl (HF.out noneV _ 12 _ (fresh_leaf _ _ _ ok_none) HN.out.2 HV.out)
  have hle : ¬ (4000 : Int) < s.size := by omega
  clear hb hres HB
  have HB := Lib.hid (two_vars w 26 77 noneV #[.string s, .int .i64 0, .bool true])
  go_enter Tryd.func20, Tryd.ntmps20
  go_wp2_with fail
  generalize (w.alloc _).alloc _ = W at HB ⊢
  have hrd : RdAt W 77 (w.heap.size + 1) s 0 true := HB.out.2.2
  refine (value_any 6 (by decide) (w.heap.size + 1) 0 s W hrd (Nat.zero_le _) h4 (fun W' hW' => HT.out.keep (HB.out.1.grown hW' HB.out.1.size (fun k hk => by have := Option.some.inj hk; omega)))).mono ?_
  rintro e W1 ⟨x, p', rfl, -, hp', hdr, hfr, hr1, hg1⟩
  rw [List.drop_zero, HRR.out] at hdr hfr hr1
  dsimp only at hdr hfr hr1
  have hb1 := HB.out.1.grown hg1 HB.out.1.size (fun k hk => by have := Option.some.inj hk; omega)
  have hres1 := HB.out.2.1.grown hg1 (by omega)
  have hwl := HB.out.2.1.lt
  obtain ⟨k, q, t, s', A, len, cap⟩ := x
  have hrc : r = [] ↔ p' = s.size := by
    rw [← hdr, List.drop_eq_nil_iff, hlen]; omega
  obtain ⟨c0, c1, c2⟩ := hr1.cells
  have hrl := Blk.lt hr1
  obtain ⟨r0, r1, r2, r3, r4, r5⟩ := hres1.val
  have rf := hres1.frozen
  have rl := hres1.lt
  have hne : w.heap.size + 1 ≠ w.heap.size := by omega
  cases ok with
  | false =>
    have HV := Lib.hid (HPC.out.1.2 (.inr (.inl rfl)))
    have n1 := (hres1.set6 (.int .u8 0) (.int .i64 0) (.int .i64 0) (.bool false) (.string ⟨#[]⟩) (.slice none 0 0)).keep (below_alloc _ (.cells (Val.box ⟨k, q, t, s', A, len, cap⟩) 26))
    have n2 := (below_set6 hb1 (Nat.le_refl _) (.int .u8 0) (.int .i64 0) (.int .i64 0) (.bool false) (.string ⟨#[]⟩) (.slice none 0 0)).alloc (by simpa using hb1.size) (.cells (Val.box ⟨k, q, t, s', A, len, cap⟩) 26)
    have HN := Lib.hid (show _ ∧ _ from ⟨n1, n2⟩)
    clear n1 n2 hres1 hb1 HB HPC HRR hfr hr1 hg1 hdr hrc hrd
    go_wp2_with fail
    obtain ⟨k0, k1, k2, k3, k4, k5⟩ := Blk.val (x := noneV) HN.out.1
    exact bodyPost_ret (v := .tuple #[Val.v noneV, .int .i64 12]) (by simp [results, Tryd.results20, go_sem, k0, k1, k2, k3, k4, k5]) rfl (HF.out noneV _ 12 _ (fresh_leaf _ _ _ ok_none) HN.out.2 HV.out)
  | true =>
    by_cases hps : p' = s.size
    case neg =>
      have HV := Lib.hid (HPC.out.1.2 (.inr (.inr (.inl (fun h => hps (hrc.1 h))))))
      have hpn : ((p' : Int) != (s.size : Int)) = true := by
        have : ((p' : Int) == (s.size : Int)) = false := by rw [beq_eq_false_iff_ne]; omega
        unfold bne; rw [this]; rfl
      have n1 := (hres1.set6 (.int .u8 0) (.int .i64 0) (.int .i64 0) (.bool false) (.string ⟨#[]⟩) (.slice none 0 0)).keep (below_alloc _ (.cells (Val.box ⟨k, q, t, s', A, len, cap⟩) 26))
      have n2 := (below_set6 hb1 (Nat.le_refl _) (.int .u8 0) (.int .i64 0) (.int .i64 0) (.bool false) (.string ⟨#[]⟩) (.slice none 0 0)).alloc (by simpa using hb1.size) (.cells (Val.box ⟨k, q, t, s', A, len, cap⟩) 26)
      have HN := Lib.hid (show _ ∧ _ from ⟨n1, n2⟩)
      clear n1 n2 hres1 hb1 HB HPC HRR hfr hr1 hg1 hdr hrc hrd
      go_wp2_with fail
      obtain ⟨k0, k1, k2, k3, k4, k5⟩ := Blk.val (x := noneV) HN.out.1
      exact bodyPost_ret (v := .tuple #[Val.v noneV, .int .i64 12]) (by simp [results, Tryd.results20, go_sem, k0, k1, k2, k3, k4, k5]) rfl (HF.out noneV _ 12 _ (fresh_leaf _ _ _ ok_none) HN.out.2 HV.out)
    subst hps
    have hrn := hrc.2 rfl
    have hba := below_alloc W1 (.cells (Val.box ⟨k, q, t, s', A, len, cap⟩) 26)
    have hbx := Blk.new W1 26 (Val.box ⟨k, q, t, s', A, len, cap⟩)
    have hchk := fun W h => chkW_any T ⟨k, q, t, s', A, len, cap⟩ W (HPC.out.2 h4) h
    have hfr2 := (hfr.below hba).keep (base' := w.heap.size + 1) (by omega) (fun _ _ _ => rfl)
    have HK := Lib.hid (show _ ∧ _ ∧ _ ∧ _ ∧ _ from ⟨hchk, hfr2, hres1.keep hba, hb1.alloc hb1.size (.cells (Val.box ⟨k, q, t, s', A, len, cap⟩) 26), hbx⟩)
    have HV := Lib.hid HPC.out.1
    obtain ⟨C, hC⟩ : ∃ C, chkT T = C := ⟨_, rfl⟩
    rw [hC] at HK HV
    obtain ⟨d0, d1, d2, d3, d4, d5⟩ := hbx.val
    clear hba hbx hchk hfr2 hres1 hb1 HB HPC HRR hfr hr1 hg1 hdr hrd hC hrc
    go_wp2_with fail
    refine (HK.out.1 _ HK.out.2.1.rd).mono ?_
    rintro e W2 ⟨rfl, hb2⟩
    have hres2 := HK.out.2.2.1.keep hb2
    have hbx2 := HK.out.2.2.2.2.keep hb2
    have hfr2 := HK.out.2.1.below hb2
    have hbb := HK.out.2.2.2.1.trans (hb2.mono HK.out.2.2.2.1.size)
    have hKN : w.heap.size < W1.heap.size := rl
    obtain ⟨r0, r1, r2, r3, r4, r5⟩ := hres2.val
    have rf := hres2.frozen
    obtain ⟨d0, d1, d2, d3, d4, d5⟩ := hbx2.val
    clear c0 c1 c2
    by_cases hC0 : C = 0
    case neg =>
      have hCn : (C != 0) = true := by simpa using hC0
      have hv := HV.out.2 (.inr (.inr (.inr hC0)))
      have n1 := hres2.set6 (.int .u8 0) (.int .i64 0) (.int .i64 0) (.bool false) (.string ⟨#[]⟩) (.slice none 0 0)
      have n2 := below_set6 hbb (Nat.le_refl _) (.int .u8 0) (.int .i64 0) (.int .i64 0) (.bool false) (.string ⟨#[]⟩) (.slice none 0 0)
      have HN := Lib.hid (show _ ∧ _ ∧ _ from ⟨n1, n2, hv⟩)
      clear n1 n2 hv hres2 hbx2 hfr2 hbb HV HK hC0 hb2
      go_wp2_with fail
      obtain ⟨k0, k1, k2, k3, k4, k5⟩ := Blk.val (x := noneV) HN.out.1
      exact bodyPost_ret (v := .tuple #[Val.v noneV, .int .i64 12]) (by simp [results, Tryd.results20, go_sem, k0, k1, k2, k3, k4, k5]) rfl (HF.out noneV _ 12 _ (fresh_leaf _ _ _ ok_none) HN.out.2.1 HN.out.2.2)
    subst hC0
    have hv := HV.out.1 (by omega) (by first | rfl | trivial) hrn (by first | rfl | trivial)
    have n1 := hres2.set6 (.int .u8 k) (.int .i64 q.n) (.int .i64 q.d) (.bool t) (.string s') (.slice A len cap)
    have n2 := below_set6 hbb (Nat.le_refl _) (.int .u8 k) (.int .i64 q.n) (.int .i64 q.d) (.bool t) (.string s') (.slice A len cap)
    have HN := Lib.hid (show _ ∧ _ ∧ _ from ⟨n1, n2, hv⟩)
    have HFR := Lib.hid hfr2
    clear n1 n2 hv hres2 hbx2 hfr2 hbb HV HK hb2
    go_wp2_with fail
    obtain ⟨k0, k1, k2, k3, k4, k5⟩ := Blk.val (x := ⟨k, q, t, s', A, len, cap⟩) HN.out.1
    refine bodyPost_ret (v := .tuple #[Val.v ⟨k, q, t, s', A, len, cap⟩, .int .i64 0]) (by simp [results, Tryd.results20, go_sem, k0, k1, k2, k3, k4, k5]) rfl (HF.out ⟨k, q, t, s', A, len, cap⟩ _ 0 _ ?_ HN.out.2.1 HN.out.2.2)
    exact HFR.out.keep (by omega) (fun g h1 h2 => far_set6 (by omega) _ _ _ _ _ _)
end Go.Proofs.YtjgampkpfjbmdaaDoor
end
section
/- Add of the program. -/
namespace Go.Proofs.YtjgampkpfjbmdaaDoor
open Go.RowKit Go.Rel

attribute [local irreducible] Go.Rel.Gives in
set_option maxRecDepth 100000 in
set_option maxHeartbeats 8000000 in
theorem addV_any (T U : Tree) (x y : Val) (w : World) (hf : fitT T 10 = true) (hf' : fitT U 10 = true) (hr : RdB w w.heap.size T x) (hr' : RdB w w.heap.size U y) :
    Calls Tryd.prog 11 #[x.v, y.v] w (RetVE 26 w (addT T U) (addE T U)) := by
  obtain ⟨ka, ys, rfl, ok, hy1, hl, -, -⟩ := id hr.open_
  obtain ⟨kb, zs, rfl, ok', hy1', hl', -, -⟩ := id hr'.open_
  obtain ⟨-, -, hs2, h150, -⟩ := fitT_parts hf
  obtain ⟨-, -, hs2', h150', -⟩ := fitT_parts hf'
  obtain ⟨k, q, t, s, A, len, cap⟩ := x
  obtain ⟨k', q', t', s', A', len', cap'⟩ := y
  have HOK := Lib.hid (show _ ∧ _ from ⟨ok, ok'⟩)
  obtain ⟨hk0, hk1, n0, n1, e0, e1, -, -, hc, -⟩ := ok
  obtain ⟨hk0', hk1', n0', n1', e0', e1', -, -, hc', -⟩ := ok'
  dsimp only at hk0 hk1 hl hs2 h150 hc hk0' hk1' hl' hs2' h150' hc' n0 n1 e0 e1 n0' n1' e0' e1'
  rw [hl] at h150
  rw [hl'] at h150'
  have HL := Lib.hid (show _ ∧ _ from ⟨hl, hl'⟩)
  have HR := Lib.hid (show _ ∧ _ ∧ _ ∧ _ from ⟨hf, hf', hr, hr'⟩)
  have HB := Lib.hid (three_vars w 26 (Val.box ⟨k, q, t, s, A, len, cap⟩) (Val.box ⟨k', q', t', s', A', len', cap'⟩) (Val.box noneV))
  have R1 := Lib.hid (fun W h h' => bothV_any (.node k q t s ka) (.node k' q' t' s' kb) ⟨k, q, t, s, A, len, cap⟩ ⟨k', q', t', s', A', len', cap'⟩ W hf hf' h h')
  have B1 := Lib.hid (@add_bad (.node k q t s ka) (.node k' q' t' s' kb))
  have B2 := Lib.hid (@add_kind (.node k q t s ka) (.node k' q' t' s' kb))
  have HF := Lib.hid (show ∀ (x : Val) (w' : World) (E : Int) (T' : Tree), Fresh w' w.heap.size 26 T' x → Below w.heap.size w w' → (addT (.node k q t s ka) (.node k' q' t' s' kb) = T' ∧ addE (.node k q t s ka) (.node k' q' t' s' kb) = E) → RetVE 26 w (addT (.node k q t s ka) (.node k' q' t' s' kb)) (addE (.node k q t s ka) (.node k' q' t' s' kb)) (.returned (.tuple #[x.v, .int .i64 E])) w' from fun x w' E T' h1 h2 h3 => ⟨x, by rw [h3.2], by rw [h3.1]; exact h1, h2⟩)
  obtain ⟨V, hV⟩ : ∃ V, bothV (.node k q t s ka) (.node k' q' t' s' kb) = V := ⟨_, rfl⟩
  rw [hV] at R1 B1 B2
  have HVV := Lib.hid hV
  clear hf hf' hr hr' hy1 hy1' hl hl' hV
  go_enter Tryd.func11, Tryd.ntmps11
  obtain ⟨hb, -, hx, hy, hres⟩ := HB.out
  obtain ⟨c0, c1, c2, c3, c4, c5⟩ := hx.val
  obtain ⟨d0, d1, d2, d3, d4, d5⟩ := hy.val
  go_wp2_with fail
  refine (R1.out _ (HR.out.2.2.1.in_ hb hb.size) (HR.out.2.2.2.in_ hb hb.size)).mono ?_
  rintro e w1 ⟨rfl, hb1⟩
  have hw1 : w.heap.size + 1 + 1 < w1.heap.size := by have := hb1.size; simp at this; omega
  have hw1a : w.heap.size < w1.heap.size := by omega
  have hw1b : w.heap.size + 1 < w1.heap.size := by omega
  replace hx := hx.keep hb1
  replace hy := hy.keep hb1
  replace hres := hres.keep hb1
  replace hb := hb.trans (hb1.mono hb.size)
  clear c0 c1 c2 c3 c4 c5 d0 d1 d2 d3 d4 d5
  clear hb1 HB
  by_cases hVV : V = 0
  case neg =>
    have HV := Lib.hid (B1.out hVV)
    have q1 : (V != 0) = true := by simpa using hVV
    clear hVV
    obtain ⟨r0, r1, r2, r3, r4, r5⟩ := hres.val
    have rf := hres.frozen
    have rl := hres.lt
    have n1 := hres.set6 (.int .u8 0) (.int .i64 0) (.int .i64 0) (.bool false) (.string ⟨#[]⟩) (.slice none 0 0)
    have n2 := below_set6 hb (show w.heap.size ≤ w.heap.size + 1 + 1 by omega) (.int .u8 0) (.int .i64 0) (.int .i64 0) (.bool false) (.string ⟨#[]⟩) (.slice none 0 0)
    have n3 := fun W => fresh_leaf W w.heap.size 26 ok_none
    obtain ⟨k0, k1, k2, k3, k4, k5⟩ := Blk.val (x := ⟨0, ⟨0, 0⟩, false, ⟨#[]⟩, none, 0, 0⟩) n1
    have HN := Lib.hid (show _ ∧ _ from ⟨n2, n3⟩)
    have HKS := Lib.hid (show _ ∧ _ ∧ _ ∧ _ ∧ _ ∧ _ from ⟨k0, k1, k2, k3, k4, k5⟩)
    clear n1 n2 n3 hres k0 k1 k2 k3 k4 k5
    go_wp2_with fail
    obtain ⟨k0, k1, k2, k3, k4, k5⟩ := HKS.out
    exact bodyPost_ret (v := .tuple #[Val.v ⟨0, ⟨0, 0⟩, false, ⟨#[]⟩, none, 0, 0⟩, .int .i64 V]) (by simp [results, Tryd.results11, go_sem, k0, k1, k2, k3, k4, k5]) rfl (HF.out ⟨0, ⟨0, 0⟩, false, ⟨#[]⟩, none, 0, 0⟩ _ V _ (HN.out.2 _) HN.out.1 HV.out)
  subst hVV
  have HVA := Lib.hid (bothV_ok HVV.out)
  have hva := valid_parts HR.out.1 HVA.out.1
  have hvb := valid_parts HR.out.2.1 HVA.out.2
  have HP := Lib.hid (show _ ∧ _ from ⟨hva, hvb⟩)
  have hca := fine_cases hva.2.2
  have hcb := fine_cases hvb.2.2
  clear hva hvb
  by_cases hkk : k = k'
  case neg =>
    have HV := Lib.hid (B2.out rfl (.inl hkk))
    have q1 : ((k : Int) != k') = true := by simpa using hkk
    clear hkk hca hcb
    obtain ⟨c0, c1, c2, c3, c4, c5⟩ := hx.val
    obtain ⟨d0, d1, d2, d3, d4, d5⟩ := hy.val
    obtain ⟨r0, r1, r2, r3, r4, r5⟩ := hres.val
    have rf := hres.frozen
    have rl := hres.lt
    have n1 := hres.set6 (.int .u8 0) (.int .i64 0) (.int .i64 0) (.bool false) (.string ⟨#[]⟩) (.slice none 0 0)
    have n2 := below_set6 hb (show w.heap.size ≤ w.heap.size + 1 + 1 by omega) (.int .u8 0) (.int .i64 0) (.int .i64 0) (.bool false) (.string ⟨#[]⟩) (.slice none 0 0)
    have n3 := fun W => fresh_leaf W w.heap.size 26 ok_none
    obtain ⟨k0, k1, k2, k3, k4, k5⟩ := Blk.val (x := ⟨0, ⟨0, 0⟩, false, ⟨#[]⟩, none, 0, 0⟩) n1
    have HN := Lib.hid (show _ ∧ _ from ⟨n2, n3⟩)
    have HKS := Lib.hid (show _ ∧ _ ∧ _ ∧ _ ∧ _ ∧ _ from ⟨k0, k1, k2, k3, k4, k5⟩)
    clear n1 n2 n3 hres k0 k1 k2 k3 k4 k5
    go_wp2_with fail
    obtain ⟨k0, k1, k2, k3, k4, k5⟩ := HKS.out
    exact bodyPost_ret (v := .tuple #[Val.v ⟨0, ⟨0, 0⟩, false, ⟨#[]⟩, none, 0, 0⟩, .int .i64 20]) (by simp [results, Tryd.results11, go_sem, k0, k1, k2, k3, k4, k5]) rfl (HF.out ⟨0, ⟨0, 0⟩, false, ⟨#[]⟩, none, 0, 0⟩ _ 20 _ (HN.out.2 _) HN.out.1 HV.out)
  subst hkk
  have HB2 := Lib.hid (fun h => B2.out rfl (.inr h))
  clear B1 B2 R1
  rcases hca with ⟨rfl, hq, rfl, hs0, rfl⟩ | ⟨rfl, -⟩ | ⟨rfl, rfl, rfl, rfl, hos⟩ | ⟨rfl, rfl, rfl, hs0, hfl⟩
  · have HA := Lib.hid (add_num (q := q) (q' := q') (t := false) (t' := t') (s := s) (s' := s') (ka := []) (kb := kb) HVV.out)
    have RA := Lib.hid (fun W => opAdd_any q q' W ⟨n0, n1, e0, e1⟩ ⟨n0', n1', e0', e1'⟩)
    obtain ⟨E, hE⟩ : ∃ E, opAddE q q' = E := ⟨_, rfl⟩
    obtain ⟨r, hr⟩ : ∃ r, opAddR q q' = r := ⟨_, rfl⟩
    have hr64 : Rat64 r := by rw [← hr]; exact runV_64 _ _ _ _
    rw [hE, hr] at HA RA
    clear hE hr hcb hs0
    have hba := below_alloc w1 (.cells (Val.box ⟨1, ⟨0, 0⟩, false, ⟨#[]⟩, none, 0, 0⟩) 26)
    have hout := Blk.new w1 26 (Val.box ⟨1, ⟨0, 0⟩, false, ⟨#[]⟩, none, 0, 0⟩)
    have HW := Lib.hid (show _ ∧ _ ∧ _ ∧ _ ∧ _ from ⟨hb.trans (hba.mono hb.size), hx.keep hba, hy.keep hba, hres.keep hba, hout⟩)
    have hg7 : w1.heap.size < (w1.alloc (.cells (Val.box ⟨1, ⟨0, 0⟩, false, ⟨#[]⟩, none, 0, 0⟩) 26)).heap.size := by simp
    obtain ⟨c0, c1, c2, c3, c4, c5⟩ := hx.val
    obtain ⟨d0, d1, d2, d3, d4, d5⟩ := hy.val
    clear hb hx hy hres hba hout
    go_wp2_with fail
    clear c0 c1 c2 c3 c4 c5 d0 d1 d2 d3 d4 d5
    generalize World.alloc _ _ = w2 at HW hg7 ⊢
    obtain ⟨hb, hx, hy, hres, hout⟩ := HW.out
    refine (RA.out _).mono ?_
    rintro e w3 ⟨rfl, hb1⟩
    have hg3 : w1.heap.size < w3.heap.size := by have := hb1.size; omega
    have hw3 : w.heap.size + 1 + 1 < w3.heap.size := by omega
    replace hx := hx.keep hb1
    replace hy := hy.keep hb1
    replace hres := hres.keep hb1
    replace hb := hb.trans (hb1.mono hb.size)
    replace hout := hout.keep hb1
    clear hb1 RA HW
    by_cases hE : E = 0
    case neg =>
      have HV := Lib.hid (HA.out.1 hE)
      have q1 : (E != 0) = true := by simpa using hE
      clear hE HA hout
      obtain ⟨r0, r1, r2, r3, r4, r5⟩ := hres.val
      have rf := hres.frozen
      have rl := hres.lt
      have n1 := (hres.set6 (.int .u8 0) (.int .i64 0) (.int .i64 0) (.bool false) (.string ⟨#[]⟩) (.slice none 0 0)).alloc (.cells #[.int .i64 r.n, .int .i64 r.d] 23)
      have n2 := (below_set6 hb (show w.heap.size ≤ w.heap.size + 1 + 1 by omega) (.int .u8 0) (.int .i64 0) (.int .i64 0) (.bool false) (.string ⟨#[]⟩) (.slice none 0 0)).alloc (by simp; exact hb.size) (.cells #[.int .i64 r.n, .int .i64 r.d] 23)
      have n3 := fun W => fresh_leaf W w.heap.size 26 ok_none
      obtain ⟨k0, k1, k2, k3, k4, k5⟩ := Blk.val (x := ⟨0, ⟨0, 0⟩, false, ⟨#[]⟩, none, 0, 0⟩) n1
      have HN := Lib.hid (show _ ∧ _ from ⟨n2, n3⟩)
      have HKS := Lib.hid (show _ ∧ _ ∧ _ ∧ _ ∧ _ ∧ _ from ⟨k0, k1, k2, k3, k4, k5⟩)
      clear n1 n2 n3 hres k0 k1 k2 k3 k4 k5
      go_wp2_with fail
      obtain ⟨k0, k1, k2, k3, k4, k5⟩ := HKS.out
      exact bodyPost_ret (v := .tuple #[Val.v ⟨0, ⟨0, 0⟩, false, ⟨#[]⟩, none, 0, 0⟩, .int .i64 E]) (by simp [results, Tryd.results11, go_sem, k0, k1, k2, k3, k4, k5]) rfl (HF.out ⟨0, ⟨0, 0⟩, false, ⟨#[]⟩, none, 0, 0⟩ _ E _ (HN.out.2 _) HN.out.1 HV.out)
    subst hE
    have HV := Lib.hid (HA.out.2 rfl)
    have hout2 : Blk ((w3.setCell ⟨w1.heap.size, 1, none⟩ (.int .i64 r.n)).setCell ⟨w1.heap.size, 2, none⟩ (.int .i64 r.d)) w1.heap.size 26 (Val.box ⟨1, r, false, ⟨#[]⟩, none, 0, 0⟩) := (hout.set_ 1 (.int .i64 r.n)).set_ 2 (.int .i64 r.d)
    have hres2 := (hres.far (p := ⟨w1.heap.size, 1, none⟩) (by simp only; omega) (.int .i64 r.n)).far (p := ⟨w1.heap.size, 2, none⟩) (by simp only; omega) (.int .i64 r.d)
    have hb2 := (hb.setCell (p := ⟨w1.heap.size, 1, none⟩) (by simp only; omega) (.int .i64 r.n)).setCell (p := ⟨w1.heap.size, 2, none⟩) (by simp only; omega) (.int .i64 r.d)
    obtain ⟨o0, o1, o2, o3, o4, o5⟩ := hout.val
    have of := hout.frozen
    have hne : w.heap.size + 1 + 1 ≠ w1.heap.size := by omega
    have hne' : w1.heap.size ≠ w.heap.size + 1 + 1 := by omega
    obtain ⟨r0, r1, r2, r3, r4, r5⟩ := hres.val
    have rf := hres.frozen
    have rl := hres.lt
    have n1 := (hres2.set6 (.int .u8 1) (.int .i64 r.n) (.int .i64 r.d) (.bool false) (.string ⟨#[]⟩) (.slice none 0 0)).alloc (.cells #[.int .i64 r.n, .int .i64 r.d] 23)
    have n2 := (below_set6 hb2 (show w.heap.size ≤ w.heap.size + 1 + 1 by omega) (.int .u8 1) (.int .i64 r.n) (.int .i64 r.d) (.bool false) (.string ⟨#[]⟩) (.slice none 0 0)).alloc (by simp; exact Nat.le_trans (by omega) hb.size) (.cells #[.int .i64 r.n, .int .i64 r.d] 23)
    have n3 := fun W => fresh_leaf W w.heap.size 26 (ok_num hr64)
    obtain ⟨k0, k1, k2, k3, k4, k5⟩ := Blk.val (x := ⟨1, r, false, ⟨#[]⟩, none, 0, 0⟩) n1
    have HN := Lib.hid (show _ ∧ _ from ⟨n2, n3⟩)
    have HKS := Lib.hid (show _ ∧ _ ∧ _ ∧ _ ∧ _ ∧ _ from ⟨k0, k1, k2, k3, k4, k5⟩)
    clear n1 n2 n3 hres hres2 hb2 hout hout2 hx hy k0 k1 k2 k3 k4 k5
    go_wp2_with fail
    obtain ⟨k0, k1, k2, k3, k4, k5⟩ := HKS.out
    exact bodyPost_ret (v := .tuple #[Val.v ⟨1, r, false, ⟨#[]⟩, none, 0, 0⟩, .int .i64 0]) (by simp [results, Tryd.results11, go_sem, k0, k1, k2, k3, k4, k5]) rfl (HF.out ⟨1, r, false, ⟨#[]⟩, none, 0, 0⟩ _ 0 _ (HN.out.2 _) HN.out.1 HV.out)
  · have HV := Lib.hid (HB2.out rfl)
    clear hcb
    obtain ⟨c0, c1, c2, c3, c4, c5⟩ := hx.val
    obtain ⟨d0, d1, d2, d3, d4, d5⟩ := hy.val
    obtain ⟨r0, r1, r2, r3, r4, r5⟩ := hres.val
    have rf := hres.frozen
    have rl := hres.lt
    have n1 := (hres.set6 (.int .u8 0) (.int .i64 0) (.int .i64 0) (.bool false) (.string ⟨#[]⟩) (.slice none 0 0)).alloc (.cells (Val.box ⟨2, ⟨0, 0⟩, false, ⟨#[]⟩, none, 0, 0⟩) 26)
    have n2 := (below_set6 hb (show w.heap.size ≤ w.heap.size + 1 + 1 by omega) (.int .u8 0) (.int .i64 0) (.int .i64 0) (.bool false) (.string ⟨#[]⟩) (.slice none 0 0)).alloc (by simp; exact hb.size) (.cells (Val.box ⟨2, ⟨0, 0⟩, false, ⟨#[]⟩, none, 0, 0⟩) 26)
    have n3 := fun W => fresh_leaf W w.heap.size 26 ok_none
    obtain ⟨k0, k1, k2, k3, k4, k5⟩ := Blk.val (x := ⟨0, ⟨0, 0⟩, false, ⟨#[]⟩, none, 0, 0⟩) n1
    have HN := Lib.hid (show _ ∧ _ from ⟨n2, n3⟩)
    have HKS := Lib.hid (show _ ∧ _ ∧ _ ∧ _ ∧ _ ∧ _ from ⟨k0, k1, k2, k3, k4, k5⟩)
    clear n1 n2 n3 hres k0 k1 k2 k3 k4 k5
    go_wp2_with fail
    obtain ⟨k0, k1, k2, k3, k4, k5⟩ := HKS.out
    exact bodyPost_ret (v := .tuple #[Val.v ⟨0, ⟨0, 0⟩, false, ⟨#[]⟩, none, 0, 0⟩, .int .i64 20]) (by simp [results, Tryd.results11, go_sem, k0, k1, k2, k3, k4, k5]) rfl (HF.out ⟨0, ⟨0, 0⟩, false, ⟨#[]⟩, none, 0, 0⟩ _ 20 _ (HN.out.2 _) HN.out.1 HV.out)
  · have HA := Lib.hid (add_str (q := ⟨0, 0⟩) (q' := q') (t := false) (t' := t') (s := s) (s' := s') (ka := []) (kb := kb) HVV.out)
    clear hcb hos
    have hss : (s ++ s').size = s.size + s'.size := ByteArray.size_append
    by_cases hbig : 60 < s.size + s'.size
    case pos =>
      have HV := Lib.hid (HA.out.1 hbig)
      have q1 : decide ((60 : Int) < (s.size : Int) + (s'.size : Int)) = true := by simp; omega
      have q2 : decide ((60 : Int) < ((s ++ s').size : Int)) = true := by rw [hss]; simp; omega
      clear hbig HA hss
      obtain ⟨c0, c1, c2, c3, c4, c5⟩ := hx.val
      obtain ⟨d0, d1, d2, d3, d4, d5⟩ := hy.val
      obtain ⟨r0, r1, r2, r3, r4, r5⟩ := hres.val
      have rf := hres.frozen
      have rl := hres.lt
      have n1 := (hres.set6 (.int .u8 0) (.int .i64 0) (.int .i64 0) (.bool false) (.string ⟨#[]⟩) (.slice none 0 0)).alloc (.cells (Val.box ⟨3, ⟨0, 0⟩, false, s ++ s', none, 0, 0⟩) 26)
      have n2 := (below_set6 hb (show w.heap.size ≤ w.heap.size + 1 + 1 by omega) (.int .u8 0) (.int .i64 0) (.int .i64 0) (.bool false) (.string ⟨#[]⟩) (.slice none 0 0)).alloc (by simp; exact hb.size) (.cells (Val.box ⟨3, ⟨0, 0⟩, false, s ++ s', none, 0, 0⟩) 26)
      have n3 := fun W => fresh_leaf W w.heap.size 26 ok_none
      obtain ⟨k0, k1, k2, k3, k4, k5⟩ := Blk.val (x := ⟨0, ⟨0, 0⟩, false, ⟨#[]⟩, none, 0, 0⟩) n1
      have HN := Lib.hid (show _ ∧ _ from ⟨n2, n3⟩)
      have HKS := Lib.hid (show _ ∧ _ ∧ _ ∧ _ ∧ _ ∧ _ from ⟨k0, k1, k2, k3, k4, k5⟩)
      clear n1 n2 n3 hres k0 k1 k2 k3 k4 k5
      go_wp2_with fail
      obtain ⟨k0, k1, k2, k3, k4, k5⟩ := HKS.out
      exact bodyPost_ret (v := .tuple #[Val.v ⟨0, ⟨0, 0⟩, false, ⟨#[]⟩, none, 0, 0⟩, .int .i64 4]) (by simp [results, Tryd.results11, go_sem, k0, k1, k2, k3, k4, k5]) rfl (HF.out ⟨0, ⟨0, 0⟩, false, ⟨#[]⟩, none, 0, 0⟩ _ 4 _ (HN.out.2 _) HN.out.1 HV.out)
    have HV := Lib.hid (HA.out.2 hbig)
    have q1 : decide ((60 : Int) < (s.size : Int) + (s'.size : Int)) = false := by simp; omega
    have q2 : decide ((60 : Int) < ((s ++ s').size : Int)) = false := by rw [hss]; simp; omega
    have HSS := Lib.hid (show (s ++ s').size ≤ 9223372036854775807 by rw [hss]; omega)
    clear hbig HA hss
    obtain ⟨c0, c1, c2, c3, c4, c5⟩ := hx.val
    obtain ⟨d0, d1, d2, d3, d4, d5⟩ := hy.val
    obtain ⟨r0, r1, r2, r3, r4, r5⟩ := hres.val
    have rf := hres.frozen
    have rl := hres.lt
    have n1 := (hres.set6 (.int .u8 3) (.int .i64 0) (.int .i64 0) (.bool false) (.string (s ++ s')) (.slice none 0 0)).alloc (.cells (Val.box ⟨3, ⟨0, 0⟩, false, s ++ s', none, 0, 0⟩) 26)
    have n2 := (below_set6 hb (show w.heap.size ≤ w.heap.size + 1 + 1 by omega) (.int .u8 3) (.int .i64 0) (.int .i64 0) (.bool false) (.string (s ++ s')) (.slice none 0 0)).alloc (by simp; exact Nat.le_trans (by omega) hb.size) (.cells (Val.box ⟨3, ⟨0, 0⟩, false, s ++ s', none, 0, 0⟩) 26)
    have n3 := fun W => fresh_leaf W w.heap.size 26 (ok_str HSS.out)
    obtain ⟨k0, k1, k2, k3, k4, k5⟩ := Blk.val (x := ⟨3, ⟨0, 0⟩, false, s ++ s', none, 0, 0⟩) n1
    have HN := Lib.hid (show _ ∧ _ from ⟨n2, n3⟩)
    have HKS := Lib.hid (show _ ∧ _ ∧ _ ∧ _ ∧ _ ∧ _ from ⟨k0, k1, k2, k3, k4, k5⟩)
    clear n1 n2 n3 hres k0 k1 k2 k3 k4 k5
    go_wp2_with fail
    obtain ⟨k0, k1, k2, k3, k4, k5⟩ := HKS.out
    exact bodyPost_ret (v := .tuple #[Val.v ⟨3, ⟨0, 0⟩, false, s ++ s', none, 0, 0⟩, .int .i64 0]) (by simp [results, Tryd.results11, go_sem, k0, k1, k2, k3, k4, k5]) rfl (HF.out ⟨3, ⟨0, 0⟩, false, s ++ s', none, 0, 0⟩ _ 0 _ (HN.out.2 _) HN.out.1 HV.out)
  · have HA := Lib.hid (add_list (q := ⟨0, 0⟩) (q' := q') (t := false) (t' := t') (s := s) (s' := s') (ka := ka) (kb := kb) HVV.out)
    obtain rfl : s = ⟨#[]⟩ := str_zero hs0
    have HRT := Lib.hid (fun W h => twin_any 10 (.node 4 ⟨0, 0⟩ false ⟨#[]⟩ ka) ⟨4, ⟨0, 0⟩, false, ⟨#[]⟩, A, len, cap⟩ W HR.out.1 h)
    have HRU := Lib.hid (fun W h => twin_any 10 (.node 4 q' t' s' kb) ⟨4, q', t', s', A', len', cap'⟩ W HR.out.2.1 h)
    have HMT := fun W h => measure_any 10 (.node 4 ⟨0, 0⟩ false ⟨#[]⟩ ka) ⟨4, ⟨0, 0⟩, false, ⟨#[]⟩, A, len, cap⟩ W (Nat.le_refl _) HR.out.1 h
    have HMU := fun W h => measure_any 10 (.node 4 q' t' s' kb) ⟨4, q', t', s', A', len', cap'⟩ W (Nat.le_refl _) HR.out.2.1 h
    obtain ⟨PA, hPA⟩ : ∃ PA, partsL ka = PA := ⟨_, rfl⟩
    obtain ⟨PB, hPB⟩ : ∃ PB, partsL kb = PB := ⟨_, rfl⟩
    have hpa : partsT (.node 4 ⟨0, 0⟩ false ⟨#[]⟩ ka) = PA + 1 := by unfold partsT; rw [if_pos rfl, hPA]; omega
    have hpb : partsT (.node 4 q' t' s' kb) = PB + 1 := by unfold partsT; rw [if_pos rfl, hPB]; omega
    have hPA1 : PA ≤ 99 := by have := HP.out.1.1; omega
    have hPB1 : PB ≤ 99 := by have := HP.out.2.1; omega
    rw [hpa, w64_small (by omega)] at HMT
    rw [hpb, w64_small (by omega)] at HMU
    have HA2 := HA.out
    rw [partsL_append, hPA, hPB] at HA2
    have HAA := Lib.hid HA2
    have HMTT := Lib.hid HMT
    have HMUU := Lib.hid HMU
    clear hcb hfl hs0 HMT HMU hPA hPB hpa hpb HA HA2
    have hba := below_alloc w1 (.cells (Val.box ⟨4, ⟨0, 0⟩, false, ⟨#[]⟩, none, 0, 0⟩) 26)
    have hout := Blk.new w1 26 (Val.box ⟨4, ⟨0, 0⟩, false, ⟨#[]⟩, none, 0, 0⟩)
    have HW := Lib.hid (show _ ∧ _ ∧ _ ∧ _ ∧ _ from ⟨hb.trans (hba.mono hb.size), hx.keep hba, hy.keep hba, hres.keep hba, hout⟩)
    have hg7 : w1.heap.size < (w1.alloc (.cells (Val.box ⟨4, ⟨0, 0⟩, false, ⟨#[]⟩, none, 0, 0⟩) 26)).heap.size := by simp
    obtain ⟨c0, c1, c2, c3, c4, c5⟩ := hx.val
    obtain ⟨d0, d1, d2, d3, d4, d5⟩ := hy.val
    clear hb hx hy hres hba hout
    go_wp2_with fail
    clear c0 c1 c2 c3 c4 c5 d0 d1 d2 d3 d4 d5
    generalize World.alloc _ _ = w2 at HW hg7 ⊢
    obtain ⟨hb, hx, hy, hres, hout⟩ := HW.out
    refine (HMTT.out _ (HR.out.2.2.1.in_ hb hb.size)).mono ?_
    rintro e w3 ⟨rfl, hb1⟩
    have hg3 : w1.heap.size < w3.heap.size := by have := hb1.size; omega
    replace hx := hx.keep hb1
    replace hy := hy.keep hb1
    replace hres := hres.keep hb1
    replace hb := hb.trans (hb1.mono hb.size)
    replace hout := hout.keep hb1
    clear hb1 HW HMTT
    obtain ⟨c0, c1, c2, c3, c4, c5⟩ := hx.val
    obtain ⟨d0, d1, d2, d3, d4, d5⟩ := hy.val
    go_wp2_with fail
    refine (HMUU.out _ (HR.out.2.2.2.in_ hb hb.size)).mono ?_
    rintro e w4 ⟨rfl, hb1⟩
    have hg4 : w1.heap.size < w4.heap.size := by have := hb1.size; omega
    replace hx := hx.keep hb1
    replace hy := hy.keep hb1
    replace hres := hres.keep hb1
    replace hb := hb.trans (hb1.mono hb.size)
    replace hout := hout.keep hb1
    clear hb1 HMUU
    clear c0 c1 c2 c3 c4 c5 d0 d1 d2 d3 d4 d5
    by_cases hbig : 100 < 1 + (PA + PB)
    case pos =>
      have HV := Lib.hid (HAA.out.1 hbig)
      have q1 : decide ((101 : Int) < (PA : Int) + 1 + ((PB : Int) + 1)) = true := by simp; omega
      have q2 : decide ((100 : Int) < (PA : Int) + 1 + ((PB : Int) + 1) - 1) = true := by simp; omega
      clear hbig HAA hout
      obtain ⟨r0, r1, r2, r3, r4, r5⟩ := hres.val
      have rf := hres.frozen
      have rl := hres.lt
      have n1 := hres.set6 (.int .u8 0) (.int .i64 0) (.int .i64 0) (.bool false) (.string ⟨#[]⟩) (.slice none 0 0)
      have n2 := below_set6 hb (show w.heap.size ≤ w.heap.size + 1 + 1 by omega) (.int .u8 0) (.int .i64 0) (.int .i64 0) (.bool false) (.string ⟨#[]⟩) (.slice none 0 0)
      have n3 := fun W => fresh_leaf W w.heap.size 26 ok_none
      obtain ⟨k0, k1, k2, k3, k4, k5⟩ := Blk.val (x := ⟨0, ⟨0, 0⟩, false, ⟨#[]⟩, none, 0, 0⟩) n1
      have HN := Lib.hid (show _ ∧ _ from ⟨n2, n3⟩)
      have HKS := Lib.hid (show _ ∧ _ ∧ _ ∧ _ ∧ _ ∧ _ from ⟨k0, k1, k2, k3, k4, k5⟩)
      clear n1 n2 n3 hres k0 k1 k2 k3 k4 k5
      go_wp2_with fail
      obtain ⟨k0, k1, k2, k3, k4, k5⟩ := HKS.out
      exact bodyPost_ret (v := .tuple #[Val.v ⟨0, ⟨0, 0⟩, false, ⟨#[]⟩, none, 0, 0⟩, .int .i64 4]) (by simp [results, Tryd.results11, go_sem, k0, k1, k2, k3, k4, k5]) rfl (HF.out ⟨0, ⟨0, 0⟩, false, ⟨#[]⟩, none, 0, 0⟩ _ 4 _ (HN.out.2 _) HN.out.1 HV.out)
    have HV := Lib.hid (HAA.out.2 hbig)
    have q1 : decide ((101 : Int) < (PA : Int) + 1 + ((PB : Int) + 1)) = false := by simp; omega
    have q2 : decide ((100 : Int) < (PA : Int) + 1 + ((PB : Int) + 1) - 1) = false := by simp; omega
    clear hbig HAA
    have cx0 : ∀ W, Below w4.heap.size w4 W → W.cell? ⟨w.heap.size, 0, none⟩ = some (.int .u8 4) := fun W hW => (hx.keep hW).cell rfl
    have cx1 : ∀ W, Below w4.heap.size w4 W → W.cell? ⟨w.heap.size, 1, none⟩ = some (.int .i64 0) := fun W hW => (hx.keep hW).cell rfl
    have cx2 : ∀ W, Below w4.heap.size w4 W → W.cell? ⟨w.heap.size, 2, none⟩ = some (.int .i64 0) := fun W hW => (hx.keep hW).cell rfl
    have cx3 : ∀ W, Below w4.heap.size w4 W → W.cell? ⟨w.heap.size, 3, none⟩ = some (.bool false) := fun W hW => (hx.keep hW).cell rfl
    have cx4 : ∀ W, Below w4.heap.size w4 W → W.cell? ⟨w.heap.size, 4, none⟩ = some (.string ⟨#[]⟩) := fun W hW => (hx.keep hW).cell rfl
    have cx5 : ∀ W, Below w4.heap.size w4 W → W.cell? ⟨w.heap.size, 5, none⟩ = some (.slice A len cap) := fun W hW => (hx.keep hW).cell rfl
    have cy0 : ∀ W, Below w4.heap.size w4 W → W.cell? ⟨w.heap.size + 1, 0, none⟩ = some (.int .u8 4) := fun W hW => (hy.keep hW).cell rfl
    have cy1 : ∀ W, Below w4.heap.size w4 W → W.cell? ⟨w.heap.size + 1, 1, none⟩ = some (.int .i64 q'.n) := fun W hW => (hy.keep hW).cell rfl
    have cy2 : ∀ W, Below w4.heap.size w4 W → W.cell? ⟨w.heap.size + 1, 2, none⟩ = some (.int .i64 q'.d) := fun W hW => (hy.keep hW).cell rfl
    have cy3 : ∀ W, Below w4.heap.size w4 W → W.cell? ⟨w.heap.size + 1, 3, none⟩ = some (.bool t') := fun W hW => (hy.keep hW).cell rfl
    have cy4 : ∀ W, Below w4.heap.size w4 W → W.cell? ⟨w.heap.size + 1, 4, none⟩ = some (.string s') := fun W hW => (hy.keep hW).cell rfl
    have cy5 : ∀ W, Below w4.heap.size w4 W → W.cell? ⟨w.heap.size + 1, 5, none⟩ = some (.slice A' len' cap') := fun W hW => (hy.keep hW).cell rfl
    have HRT2 := Lib.hid (fun W (hW : Below w4.heap.size w4 W) => HRT.out W (HR.out.2.2.1.in_ (hb.trans (hW.mono hb.size)) (Nat.le_trans hb.size hW.size)))
    have HRU2 := Lib.hid (fun W (hW : Below w4.heap.size w4 W) => HRU.out W (HR.out.2.2.2.in_ (hb.trans (hW.mono hb.size)) (Nat.le_trans hb.size hW.size)))
    go_wp2_with fail
    apply wp_region_head 6 89 (hm := by kernel_rfl) (hN := rfl)
    case h =>
      simp only [List.take_succ_cons, List.take_zero]
      ((apply head_still rfl; (intro W hW; go_simp; (try rfl))); simp only [Act.put, List.setIfInBounds_toArray, List.set_cons_succ, List.set_cons_zero])
      apply head_mem [] (TwnV w4.heap.size 26 (.node 4 ⟨0, 0⟩ false ⟨#[]⟩ ka)) (by kernel_rfl) (fun _ _ _ h hb => h.below hb)
      · intro W hW _
        unfold Gives
        go_simp
        exact (HRT2.out W hW).mono fun e W' ⟨x', h1, h2, h3⟩ => ⟨_, h1, ⟨x', rfl, h2.keep hW.size (fun _ _ _ => rfl)⟩, h3⟩
      intro va
      simp only [Act.put, List.setIfInBounds_toArray, List.set_cons_succ, List.set_cons_zero]
      apply head_memU [1] (fun e v _ => v = sliceOf (e 1)) (by kernel_rfl) (fun _ _ _ _ h _ => h)
      · intro W hW hk
        obtain ⟨x', rfl, -⟩ := hk.1 (by simp)
        unfold Gives
        go_simp
        exact ⟨rfl, Below.refl _ _⟩
      intro vsa
      simp only [Act.put, List.setIfInBounds_toArray, List.set_cons_succ, List.set_cons_zero]
      ((apply head_still rfl; (intro W hW; go_simp; (try rfl))); simp only [Act.put, List.setIfInBounds_toArray, List.set_cons_succ, List.set_cons_zero])
      apply head_memU [1] (fun e v W => ∃ (c2 : Nat) (x' : Val), v = x'.v ∧ Twn W c2 26 (.node 4 q' t' s' kb) x' ∧ (∀ b, (sliceOf (e 1)).ownBlock = some b → b < c2) ∧ w4.heap.size ≤ c2 ∧ c2 ≤ W.heap.size) (by kernel_rfl) (fun _ _ _ _ ⟨c2, x', h1, h2, h3, h4, h5⟩ hb => ⟨c2, x', h1, h2.below hb, h3, h4, Nat.le_trans h5 hb.size⟩)
      · intro W hW hk
        obtain ⟨xa, rfl, hta⟩ := hk.2.1 (by simp)
        have hlta : ∀ b, (Value.slice xa.A xa.len xa.cap).ownBlock = some b → b < W.heap.size := by
          obtain ⟨_, _, _, _, h⟩ := hta
          exact fun b hb => (h.lt b hb).2
        unfold Gives
        go_simp
        exact (HRU2.out W hW).mono fun e W' ⟨x', h1, h2, h3⟩ => ⟨_, h1, ⟨W.heap.size, x', rfl, h2, hlta, hW.size, h3.size⟩, h3⟩
      intro vb
      simp only [Act.put, List.setIfInBounds_toArray, List.set_cons_succ, List.set_cons_zero]
      apply head_memU [4] (fun e v _ => v = sliceOf (e 4)) (by kernel_rfl) (fun _ _ _ _ h _ => h)
      · intro W hW hk
        obtain ⟨c2, x', rfl, -⟩ := hk.1 (by simp)
        unfold Gives
        go_simp
        exact ⟨rfl, Below.refl _ _⟩
      intro vsb
      refine head_nil ?_
      intro W hW hF
      obtain ⟨hvsb, ⟨c2, xb, rfl, htb, hsep, hc2, hc3⟩, hvsa, ⟨xa, rfl, hta⟩, -⟩ := hF
      obtain rfl : vsa = Value.slice xa.A xa.len xa.cap := hvsa
      obtain rfl : vsb = Value.slice xb.A xb.len xb.cap := hvsb
      replace hsep : ∀ b, (Value.slice xa.A xa.len xa.cap).ownBlock = some b → b < c2 := hsep
      clear cx0 cx1 cx2 cx3 cx4 cx5 cy0 cy1 cy2 cy3 cy4 cy5
      obtain ⟨k3, q3, t3, s3, A3, m3, cap3⟩ := xa
      obtain ⟨ka3, hT3, ok3, hm3, htw3⟩ := hta
      injection hT3 with j1 j2 j3 j4 j5
      dsimp only at j1 j2 j3 j4 hm3 htw3 hsep
      subst j1 j2 j3 j4 j5
      obtain rfl : m3 = len := by rw [← hm3, HL.out.1]
      obtain ⟨k6, q6, t6, s6, A6, m6, cap6⟩ := xb
      obtain ⟨kb6, hT6, ok6, hm6, htw6⟩ := htb
      injection hT6 with j1 j2 j3 j4 j5
      dsimp only at j1 j2 j3 j4 hm6 htw6
      subst j1 j2 j3 j4 j5
      obtain rfl : m6 = len' := by rw [← hm6, HL.out.2]
      have hlt3 := htw3.lt
      have htq := htw3.q (Q := fun b => w4.heap.size ≤ b) (fun b h _ => h)
      replace hx := hx.keep hW
      replace hy := hy.keep hW
      replace hres := hres.keep hW
      replace hb := hb.trans (hW.mono hb.size)
      replace hout := hout.keep hW
      have hsW := hW.size
      obtain ⟨i0, hi0, hz0, hz1, hz2⟩ := info_parts Tryd.infoVal
      simp only [List.drop_succ_cons, List.drop_zero, Act.put, List.setIfInBounds_toArray, List.set_cons_succ, List.set_cons_zero]
      refine wpList_append_tw rfl _ _ 24 rfl w4.heap.size c2 (fun b => w4.heap.size ≤ b) 26 i0 noneV.v 72 Tryd.underlying24 hi0 hz0 hz1 hz2 rfl (.slice A3 m3 cap3) (.slice A6 m6 cap6) m3 m6 ka kb rfl rfl hm3 htq htw6 hsep (fun b h1 _ => Nat.le_trans hc2 h1) hc3 (by unfold maxLen; omega) (by omega) (by omega) ?_
      intro v' w7 htw7 hgrow
      have far : ∀ k, k < w4.heap.size → w7.heap[k]? = W.heap[k]? := fun k hk => hgrow.block k (by omega) (fun h => by have := (hlt3 k h.symm).1; omega)
      have hout7 : Blk w7 _ _ _ := (far _ (by omega)).trans hout
      have hb7 := hb.grown hgrow (by omega) (fun r hr => by have := (hlt3 r hr).1; omega)
      have hres7 : Blk w7 _ _ _ := (far _ (by omega)).trans hres
      have hsz7 := hgrow.size
      have hgl : w1.heap.size < w7.heap.size := by omega
      have htw8 := htw7.keep (w' := w7.setCell ⟨w1.heap.size, 5, none⟩ v') (fun b h _ => Below.heap_setCell _ _ _ _ (by simp only; omega))
      obtain ⟨A7, cap7, rfl, hfr⟩ := htw8.done (base' := w4.heap.size) (by simp [hm3, hm6]) (fun b h => h) ok_list
      have o8 : Blk (w7.setCell ⟨w1.heap.size, 5, none⟩ (.slice A7 (m3 + m6) cap7)) w1.heap.size 26 (Val.box ⟨4, ⟨0, 0⟩, false, ⟨#[]⟩, A7, m3 + m6, cap7⟩) := hout7.set_ 5 _
      replace hb := hb7.setCell (p := ⟨w1.heap.size, 5, none⟩) (by simp only; omega) (.slice A7 (m3 + m6) cap7)
      have hresO := Lib.hid hres7
      replace hres := hres7.far (p := ⟨w1.heap.size, 5, none⟩) (by simp only; omega) (.slice A7 (m3 + m6) cap7)
      obtain ⟨o0, o1, o2, o3, o4, o5⟩ := hout7.val
      have of := hout7.frozen
      obtain ⟨r0, r1, r2, r3, r4, r5⟩ := hres7.val
      have rf := hres7.frozen
      have rl := hres7.lt
      have hne : w.heap.size + 1 + 1 ≠ w1.heap.size := by omega
      have hne' : w1.heap.size ≠ w.heap.size + 1 + 1 := by omega
      have n1 := hres.set6 (.int .u8 4) (.int .i64 0) (.int .i64 0) (.bool false) (.string ⟨#[]⟩) (.slice A7 (m3 + m6) cap7)
      have n2 := below_set6 hb (show w.heap.size ≤ w.heap.size + 1 + 1 by omega) (.int .u8 4) (.int .i64 0) (.int .i64 0) (.bool false) (.string ⟨#[]⟩) (.slice A7 (m3 + m6) cap7)
      have n3 := hfr.keep (w' := _) (show w.heap.size ≤ w4.heap.size by omega) (fun b hb _ => far_set6 (w := w7.setCell ⟨w1.heap.size, 5, none⟩ (.slice A7 (m3 + m6) cap7)) (g := w.heap.size + 1 + 1) (k := b) (by omega) (.int .u8 4) (.int .i64 0) (.int .i64 0) (.bool false) (.string ⟨#[]⟩) (.slice A7 (m3 + m6) cap7))
      obtain ⟨k0, k1, k2, k3, k4, k5⟩ := Blk.val (x := ⟨4, ⟨0, 0⟩, false, ⟨#[]⟩, A7, m3 + m6, cap7⟩) n1
      have HN := Lib.hid (show _ ∧ _ from ⟨n2, n3⟩)
      have HKS := Lib.hid (show _ ∧ _ ∧ _ ∧ _ ∧ _ ∧ _ from ⟨k0, k1, k2, k3, k4, k5⟩)
      clear n1 n2 n3 k0 k1 k2 k3 k4 k5 hb hx hy hres hout htw3 htw6 htw7 htw8 htq hgrow far hout7 hb7 hres7 hfr o8 hi0 hz0 hz1 hz2 HRT HRU HRT2 HRU2 hlt3 hsep
      go_wp2_with fail
      obtain ⟨k0, k1, k2, k3, k4, k5⟩ := HKS.out
      exact bodyPost_ret (v := .tuple #[Val.v ⟨4, ⟨0, 0⟩, false, ⟨#[]⟩, A7, m3 + m6, cap7⟩, .int .i64 0]) (by simp [results, Tryd.results11, go_sem, k0, k1, k2, k3, k4, k5]) rfl (HF.out ⟨4, ⟨0, 0⟩, false, ⟨#[]⟩, A7, m3 + m6, cap7⟩ _ 0 _ HN.out.2 HN.out.1 HV.out)
    case hB => kernel_rfl
    all_goals rfl
end Go.Proofs.YtjgampkpfjbmdaaDoor
end
