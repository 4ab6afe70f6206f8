/- Texts put together: ValT, ValU, ParC. -/
import Derived.Test.YtjgampkpfjbmdaaDoorPack15
import Derived.Test.YtjgampkpfjbmdaaDoorPack14
import Derived.Test.YtjgampkpfjbmdaaDoorPack11
import Derived.Lib.OthersKept
section
/- write: a value's text goes into a builder. -/
namespace Go.Rel
open Go.RowKit
theorem others_iterAt {e : TypeId} {b : Option Nat} {a w : World} (h : Lib.OthersKept e b a w) {k : Nat} (hk : a.heap.size ≤ k) (s : ByteArray) (pos : Nat) : Lib.OthersKept e b a (w.iterAt k s pos) := by
  intro i o hi hb ho
  have h1 : i < a.heap.size := (Array.getElem?_eq_some_iff.1 hi).1
  rw [Lib.iterAt_other w k i s pos (by omega)]
  exact h i o hi hb ho
theorem Wrote.more {T e : TypeId} {B b : Nat} {cs : List Value} {w w1 w2 : World} (h : Below B w w1) (k : Lib.OthersKept e (some b) w w1) (h2 : Wrote T e B b cs w1 w2) : Wrote T e B b cs w w2 := ⟨h2.1, h.trans h2.2.1, k.trans h2.2.2⟩
theorem Wrote.is {T e : TypeId} {B b : Nat} {bs : List Value} {w w1 : World} (h : Wrote T e B b bs w w1) : Lib.IsBuilderF T e B b bs w1 := .inr h.1
theorem builderAt_below {T e : TypeId} {B b : Nat} {p : Value} {bs : List Value} {w w' : World} (h : Lib.BuilderAtF T e B b p bs w) (hb : Below w.heap.size w w') : Lib.BuilderAtF T e B b p bs w' := by
  have hlt := h.lt
  obtain ⟨hB, v, hbk, hown, hne⟩ := h
  refine ⟨hB, v, (hb.block b hlt).trans hbk, ⟨hown.1, ?_⟩, hne⟩
  rcases hown.2 with hn | ⟨g, cap, cur, fz, hv, hbg, hg, rest⟩
  · exact .inl hn
  · exact .inr ⟨g, cap, cur, fz, hv, hbg, (hb.block g (Array.getElem?_eq_some_iff.1 hg).1).trans hg, rest⟩
theorem isB_below {T e : TypeId} {B b : Nat} {bs : List Value} {w w' : World} (h : Lib.IsBuilderF T e B b bs w) (hb : Below w.heap.size w w') : Lib.IsBuilderF T e B b bs w' :=
  h.elim (fun x => .inl (builderAt_below x hb)) (fun x => .inr (builderAt_below x hb))
theorem others_below {e : TypeId} {b : Option Nat} {w w' : World} (hb : Below w.heap.size w w') : Lib.OthersKept e b w w' := fun k _ hk _ _ => (hb.block k (Array.getElem?_eq_some_iff.1 hk).1).trans hk
theorem bc_append (a b : Bs) : Lib.byteCells (a ++ b) = Lib.byteCells a ++ Lib.byteCells b := by simp [Lib.byteCells]
theorem okStr_at {s : ByteArray} {i : Nat} (h : okStr s = true) (hi : i < s.size) : 32 ≤ s[i].toNat ∧ s[i].toNat ≤ 126 := by
  unfold okStr at h
  simp only [Bool.and_eq_true, decide_eq_true_eq, List.all_eq_true] at h
  have h2 := h.2 (s.data.toList[i]'(by simpa using hi)) (List.getElem_mem _)
  have h3 : okByte s[i] = true := h2
  exact of_decide_eq_true h3
theorem escL_take {l : Bs} {i : Nat} (h : i < l.length) : escL (l.take (i + 1)) = escL (l.take i) ++ escB l[i] := by
  rw [take_next h, escL_append]; simp [escL]
theorem escL_take_le (l : Bs) (i : Nat) : (escL (l.take i)).length ≤ (escL l).length := by
  conv => rhs; rw [← List.take_append_drop i l, escL_append]
  simp
end Go.Rel
namespace Go.Proofs.YtjgampkpfjbmdaaDoor
open Go.RowKit Go.Rel
set_option maxRecDepth 100000
/-- What write asks and gives. -/
def WriteIs (d : Nat) : Prop := ∀ (T : Tree) (x : Val) (w : World) (B b : Nat) (bs : List Value), fitT T d = true → fineT T = true → RdB w B T x → Lib.IsBuilderF 70 5 B b bs w → B ≤ w.heap.size → (∀ W, Below B w W → Tab W) → bs.length + (wrT T).length + 8 ≤ 140737488355328 →
    Calls Tryd.prog 41 #[.pointer (some ⟨b, 0, none⟩), x.v] w fun e w' => e = .returned (.tuple #[]) ∧ Wrote 70 5 B b (bs ++ Lib.byteCells (wrT T)) w w'
set_option maxHeartbeats 2000000 in
theorem write_num (x : Val) (w : World) (B b : Nat) (bs : List Value) (hk : x.k = 1) (ok : x.Ok) (hq : RatOk x.q) (hb : Lib.IsBuilderF 70 5 B b bs w) (hB : B ≤ w.heap.size) (ht : ∀ W, Below B w W → Tab W) (hl : bs.length + (textL x.q).length + 8 ≤ 140737488355328) :
    Calls Tryd.prog 41 #[.pointer (some ⟨b, 0, none⟩), x.v] w fun e w' => e = .returned (.tuple #[]) ∧ Wrote 70 5 B b (bs ++ Lib.byteCells (textL x.q)) w w' := by
  obtain ⟨k, q, t, s, A, len, cap⟩ := x
  obtain ⟨hk0, hk1, n0, n1, m0, m1, -, -, -, -⟩ := ok
  dsimp only at hk hk0 hk1 n0 n1 m0 m1 hq hl
  subst hk
  have HB := Lib.hid (box_val w 26 ⟨1, q, t, s, A, len, cap⟩)
  have hq0 : textS q = ⟨(textL q).toArray⟩ := if_pos hq
  have he : ratE q = 0 := (check_split q).elim (fun h => h.2) (fun h => absurd hq h.1)
  have HT := Lib.hid (fun W h => text_any q W ⟨n0, n1, m0, m1⟩ h)
  rw [hq0, he] at HT
  have HH := Lib.hid (show _ ∧ _ ∧ _ from ⟨hb, ht, hl⟩)
  clear hb ht hl hq0 he
  obtain ⟨hb0, hblk0⟩ := HB.out
  go_enter Tryd.func41, Tryd.ntmps41
  obtain ⟨c0, c1, c2, c3, c4, c5⟩ := hblk0.val
  go_wp2_with fail
  refine (HT.out _ (HH.out.2.1 _ (hb0.mono hB))).mono ?_
  rintro e w2 ⟨rfl, hb2⟩
  have hb3 := hb0.trans (hb2.mono hb0.size)
  clear hb0 hb2 hblk0 HT HB c0 c1 c2 c3 c4 c5
  go_wp2_with fail
  refine (writeString_any B b bs _ w2 (isB_below HH.out.1 hb3) ?_ (Nat.le_trans hB hb3.size)).mono ?_
  · have := HH.out.2.2
    show bs.length + (textL q).length ≤ _
    omega
  rintro e w3 ⟨rfl, hw⟩
  go_wp2_with fail
  go_end0
  exact ⟨rfl, Wrote.more (hb3.mono hB) (others_below hb3) hw⟩
set_option maxHeartbeats 2000000 in
theorem write_bool (x : Val) (w : World) (B b : Nat) (bs : List Value) (hk : x.k = 2) (hb : Lib.IsBuilderF 70 5 B b bs w) (hB : B ≤ w.heap.size) (hl : bs.length + (boolL x.t).length + 8 ≤ 140737488355328) :
    Calls Tryd.prog 41 #[.pointer (some ⟨b, 0, none⟩), x.v] w fun e w' => e = .returned (.tuple #[]) ∧ Wrote 70 5 B b (bs ++ Lib.byteCells (boolL x.t)) w w' := by
  obtain ⟨k, q, t, s, A, len, cap⟩ := x
  dsimp only at hk hl
  subst hk
  have HB := Lib.hid (box_val w 26 ⟨2, q, t, s, A, len, cap⟩)
  have HH := Lib.hid (show _ ∧ _ from ⟨hb, hl⟩)
  clear hb hl
  cases t
  all_goals
    obtain ⟨hb0, hblk0⟩ := HB.out
    go_enter Tryd.func41, Tryd.ntmps41
    obtain ⟨c0, c1, c2, c3, c4, c5⟩ := hblk0.val
    go_wp2_with fail
    refine (writeString_any B b bs _ _ (isB_below HH.out.1 hb0) ?_ (Nat.le_trans hB hb0.size)).mono ?_
    · have := HH.out.2
      simp only [boolL] at this
      exact Nat.le_trans (Nat.le_add_right _ 8) this
    rintro e w3 ⟨rfl, hw⟩
    go_wp2_with fail
    go_end0
    exact ⟨rfl, Wrote.more (hb0.mono hB) (others_below hb0) hw⟩
set_option maxHeartbeats 4000000 in
theorem write_str (x : Val) (w : World) (B b : Nat) (bs : List Value) (hk : x.k = 3) (hs : okStr x.s = true) (hb : Lib.IsBuilderF 70 5 B b bs w) (hB : B ≤ w.heap.size) (hl : bs.length + (34 :: (escL x.s.data.toList ++ [34])).length + 8 ≤ 140737488355328) :
    Calls Tryd.prog 41 #[.pointer (some ⟨b, 0, none⟩), x.v] w fun e w' => e = .returned (.tuple #[]) ∧ Wrote 70 5 B b (bs ++ Lib.byteCells (34 :: (escL x.s.data.toList ++ [34]))) w w' := by
  obtain ⟨k, q, t, s, A, len, cap⟩ := x
  dsimp only at hk hl hs
  subst hk
  have HB := Lib.hid (box_val w 26 ⟨3, q, t, s, A, len, cap⟩)
  have HH := Lib.hid (show _ ∧ _ ∧ _ from ⟨hb, hl, hs⟩)
  clear hb hl hs
  obtain ⟨hb0, hblk0⟩ := HB.out
  go_enter Tryd.func41, Tryd.ntmps41
  obtain ⟨c0, c1, c2, c3, c4, c5⟩ := hblk0.val
  go_wp2_with fail
  refine (writeByte_any B b bs _ _ (isB_below HH.out.1 hb0) ?_ (Nat.le_trans hB hb0.size)).mono ?_
  · have := HH.out.2.1
    simp only [List.length_cons] at this
    omega
  rintro e w1 ⟨rfl, hw⟩
  have hw1 : Wrote 70 5 B b (bs ++ [.int .u8 34]) w w1 := Wrote.more (hb0.mono hB) (others_below hb0) hw
  replace c4 : w1.cell? ⟨w.heap.size, 4, none⟩ = some (.string s) := by
    have := hw.2.2 w.heap.size _ hblk0 (by
      have := (HH.out.1).elim (fun h => h.lt) (fun h => h.lt)
      simp; omega) (by intro c fz h; cases h)
    rw [Lib.cell_of_heap this]; rfl
  clear c0 c1 c2 c3 c5 hb0 hblk0 HB hw
  go_wp2_with fail
  have hit0 := World.iter_heap w1 s 0
  have hw2 : Wrote 70 5 B b (bs ++ Lib.byteCells (34 :: escL (s.data.toList.take 0))) w (w1.iter s 0) := by
    have e : w1.iter s 0 = w1.alloc (.stringIter s 0) := rfl
    rw [e]
    exact ⟨hw1.1.alloc _, hw1.2.1.alloc (Nat.le_trans hB hw1.2.1.size) _, hw1.2.2.alloc _⟩
  have hK0 := hw1.2.1.size
  have hbK : b < w1.heap.size := hw1.1.lt
  generalize w1.heap.size = K at *
  generalize w1.iter s 0 = w2 at *
  clear hw1 c4
  go_loopw [7] (fun _ wr => ∃ pos : Nat, pos ≤ s.size ∧ wr.heap[K]? = some (.stringIter s pos) ∧ Wrote 70 5 B b (bs ++ Lib.byteCells (34 :: escL (s.data.toList.take pos))) w wr) (fun _ wr => s.size - wr.iterPos K)
  case atStart => exact ⟨0, Nat.zero_le _, hit0, hw2⟩
  case round =>
    clear hit0 hw2
    obtain ⟨pos, hpos, hit, hw⟩ := hrel
    by_cases hlt : pos < s.size
    · have hget : s.data.toList[pos]'(by simpa using hlt) = s[pos] := rfl
      have hok := okStr_at HH.out.2.2 hlt
      have hnx := fun ty => Lib.run_next_ascii_at (P := Tryd.prog) wr K s pos ty hit hlt (by omega)
      have hstep := escL_take (l := s.data.toList) (i := pos) (by simpa using hlt)
      rw [hget] at hstep
      have hle := escL_take_le s.data.toList (pos + 1)
      have hit1 := Lib.iterAt_heap wr K s pos (pos + 1) hit
      have hw1 : Wrote 70 5 B b (bs ++ Lib.byteCells (34 :: escL (s.data.toList.take pos))) w (wr.iterAt K s (pos + 1)) := ⟨hw.1.iterAt hit _, Lib.below_iterAt hw.2.1 (Nat.le_trans hB hK0) _ _, others_iterAt hw.2.2 hK0 _ _⟩
      have HP := Lib.hid (show _ ∧ _ ∧ _ from ⟨hstep, hle, hit⟩)
      obtain ⟨C, hC⟩ : ∃ C, s[pos] = C := ⟨_, rfl⟩
      rw [hC] at hok hnx HP
      clear hstep hle hget hw hit hC
      generalize wr.iterAt K s (pos + 1) = w3 at *
      have HW := Lib.hid (show _ ∧ _ from ⟨hw1, hit1⟩)
      have hesc : (C = 34 ∨ C = 92) ∨ (¬ C = 34 ∧ ¬ C = 92) := by
        by_cases a : C = 34
        · exact .inl (.inl a)
        · by_cases c : C = 92
          · exact .inl (.inr c)
          · exact .inr ⟨a, c⟩
      clear hw1 hit1
      rcases hesc with hesc | ⟨n1, n2⟩
      · have hE : escB C = [92, C] := if_pos hesc
        rcases hesc with rfl | rfl
        all_goals
          go_wp2_with fail
          refine (writeByte_any B b _ _ w3 HW.out.1.is ?_ (Nat.le_trans hB HW.out.1.2.1.size)).mono ?_
          · have h1 := HP.out.2.1
            have h2 := HH.out.2.1
            rw [HP.out.1, hE] at h1
            simp only [List.length_append, List.length_cons, List.length_nil, Lib.byteCells_length] at h1 h2 ⊢
            omega
          rintro e w4 ⟨rfl, hw4⟩
          go_wp2_with fail
          refine (writeRune_any B b _ _ (by decide) (by decide) w4 hw4.is ?_ (Nat.le_trans hB (Nat.le_trans HW.out.1.2.1.size hw4.2.1.size))).mono ?_
          · have h1 := HP.out.2.1
            have h2 := HH.out.2.1
            rw [HP.out.1, hE] at h1
            simp only [List.length_append, List.length_cons, List.length_nil, Lib.byteCells_length] at h1 h2 ⊢
            omega
          rintro e w5 ⟨rfl, hw5⟩
          have HX := Lib.hid (show _ ∧ _ from ⟨hw4, hw5⟩)
          clear hw4 hw5
          go_wp2_with fail
          go_roundw
          case rel =>
            have hit5 := HX.out.2.2.2.iter (HX.out.1.2.2.iter HW.out.2 (by omega)) (by omega)
            refine ⟨pos + 1, hlt, hit5, ?_⟩
            have h5 := Wrote.more (HW.out.1.2.1.trans HX.out.1.2.1) (HW.out.1.2.2.trans HX.out.1.2.2) HX.out.2
            rw [HP.out.1, hE]
            simpa [Lib.byteCells, Lib.runeCells, Lib.encodeRuneZ_one] using h5
          case measure =>
            have hit5 := HX.out.2.2.2.iter (HX.out.1.2.2.iter HW.out.2 (by omega)) (by omega)
            simp only [World.iterPos, hit5, HP.out.2.2]
            omega
      · have hE : escB C = [C] := if_neg (fun h => h.elim n1 n2)
        have q1 : ((C.toNat : Int) == 34) = false := by rw [beq_eq_false_iff_ne]; intro h; exact n1 (UInt8.toNat_inj.1 (by simpa using Int.ofNat_inj.1 h))
        have q2 : ((C.toNat : Int) == 92) = false := by rw [beq_eq_false_iff_ne]; intro h; exact n2 (UInt8.toNat_inj.1 (by simpa using Int.ofNat_inj.1 h))
        have HC := Lib.hid hok
        clear n1 n2 hok
        go_wp2_with fail
        refine (writeRune_any B b _ (C.toNat : Int) (by omega) (by have := HC.out; omega) w3 HW.out.1.is ?_ (Nat.le_trans hB HW.out.1.2.1.size)).mono ?_
        · have h1 := HP.out.2.1
          have h2 := HH.out.2.1
          rw [HP.out.1, hE] at h1
          simp only [List.length_append, List.length_cons, List.length_nil, Lib.byteCells_length] at h1 h2 ⊢
          omega
        rintro e w5 ⟨rfl, hw5⟩
        have HX := Lib.hid hw5
        clear hw5
        go_wp2_with fail
        go_roundw
        case rel =>
          have hit5 := HX.out.2.2.iter HW.out.2 (by omega)
          refine ⟨pos + 1, hlt, hit5, ?_⟩
          have h5 := Wrote.more HW.out.1.2.1 HW.out.1.2.2 HX.out
          have hc := HC.out
          have hr : Lib.runeCells (C.toNat : Int) = [.int .u8 (C.toNat : Int)] := by
            unfold Lib.runeCells; rw [Lib.encodeRuneZ_one (by omega) (by omega)]; rfl
          rw [hr] at h5
          rw [HP.out.1, hE]
          simpa [Lib.byteCells] using h5
        case measure =>
          have hit5 := HX.out.2.2.iter HW.out.2 (by omega)
          simp only [World.iterPos, hit5, HP.out.2.2]
          omega
    · obtain rfl : pos = s.size := by omega
      have hnx := fun ty => Lib.run_next_end_at (P := Tryd.prog) wr K s s.size ty hit hlt
      have HW := Lib.hid hw
      clear hw
      go_wp2_with fail
      refine (writeByte_any B b _ _ wr HW.out.is ?_ (Nat.le_trans hB HW.out.2.1.size)).mono ?_
      · have h2 := HH.out.2.1
        rw [List.take_of_length_le (by simp)]
        simp only [List.length_append, List.length_cons, List.length_nil, Lib.byteCells_length] at h2 ⊢
        omega
      rintro e w5 ⟨rfl, hw5⟩
      go_wp2_with fail
      go_end0
      have h5 := Wrote.more HW.out.2.1 HW.out.2.2 hw5
      rw [List.take_of_length_le (by simp)] at h5
      refine ⟨rfl, ?_⟩
      simpa [Lib.byteCells] using h5
end Go.Proofs.YtjgampkpfjbmdaaDoor
end
section
/- write, as a whole. -/
namespace Go.Rel
open Go.RowKit
theorem fit_kid {kids : List Tree} {i d : Nat} (h : ∀ x ∈ kids, fitT x d = true) (hi : i < kids.length) : fitT kids[i] d = true := h _ (List.getElem_mem hi)
end Go.Rel
namespace Go.Proofs.YtjgampkpfjbmdaaDoor
open Go.RowKit Go.Rel
set_option maxRecDepth 100000
set_option maxHeartbeats 4000000 in
theorem write_any : ∀ d, WriteIs d := by
  intro d
  induction d with
  | zero => intro T x w B b bs h; rw [fitT_zero] at h; cases h
  | succ d ih =>
    intro T x w B b bs hf hfi hr hb hB ht hl
    obtain ⟨kids, ys, rfl, ok, hy, hl1, hrec, hk⟩ := hr.open_
    have ok2 := ok
    rcases fine_cases hfi with ⟨h1, hq, -⟩ | ⟨h1, -⟩ | ⟨h1, -, -, -, hs⟩ | ⟨h1, -, -, -, hfl⟩
    · have e : wrT (.node x.k x.q x.t x.s kids) = textL x.q := by unfold wrT; rw [if_pos h1]
      rw [e] at hl ⊢
      exact write_num x w B b bs h1 ok hq hb hB ht hl
    · have e : wrT (.node x.k x.q x.t x.s kids) = boolL x.t := by unfold wrT; rw [if_neg (by omega), if_pos h1]
      rw [e] at hl ⊢
      exact write_bool x w B b bs h1 hb hB hl
    · have e : wrT (.node x.k x.q x.t x.s kids) = 34 :: (escL x.s.data.toList ++ [34]) := by unfold wrT; rw [if_neg (by omega), if_neg (by omega), if_pos h1]
      rw [e] at hl ⊢
      exact write_str x w B b bs h1 hs hb hB hl
    have e : wrT (.node x.k x.q x.t x.s kids) = 91 :: (wrA false kids ++ [93]) := by unfold wrT; rw [if_neg (by omega), if_neg (by omega), if_neg (by omega)]
    rw [e] at hl ⊢
    obtain ⟨e, he, -, h150, hkf⟩ := fitT_parts hf
    obtain rfl : d = e := by omega
    obtain ⟨k, q, t, s, A, len, cap⟩ := x
    obtain ⟨hk0, hk1, n0, n1, m0, m1, -, -, hc, -⟩ := ok
    dsimp only at h1 hy hl1 hrec hc h150
    subst h1
    rw [hl1] at h150
    have HB := Lib.hid (box_val w 26 ⟨4, q, t, s, A, len, cap⟩)
    have HL := Lib.hid (show _ ∧ _ ∧ _ ∧ _ from ⟨hy, hl1, hkf, fineL_mem hfl⟩)
    have HK := Lib.hid (show _ ∧ _ from ⟨hrec, hk⟩)
    have HH := Lib.hid (show _ ∧ _ ∧ _ from ⟨hb, hl, ht⟩)
    clear hb hl ht hy hl1 hrec hk hkf hfl hfi hf hr ok2 he
    obtain ⟨hb0, hblk0⟩ := HB.out
    go_enter Tryd.func41, Tryd.ntmps41
    obtain ⟨c0, c1, c2, c3, c4, c5⟩ := hblk0.val
    go_wp2_with fail
    refine (writeByte_any B b bs _ _ (isB_below HH.out.1 hb0) ?_ (Nat.le_trans hB hb0.size)).mono ?_
    · have := HH.out.2.1
      simp only [List.length_cons] at this
      omega
    rintro e w1 ⟨rfl, hw⟩
    have hw1 : Wrote 70 5 B b (bs ++ [.int .u8 91]) w w1 := Wrote.more (hb0.mono hB) (others_below hb0) hw
    replace c5 : w1.cell? ⟨w.heap.size, 5, none⟩ = some (.slice A len cap) := by
      have := hw.2.2 w.heap.size _ hblk0 (by
        have := (HH.out.1).elim (fun h => h.lt) (fun h => h.lt)
        simp; omega) (by intro c fz h; cases h)
      rw [Lib.cell_of_heap this]; rfl
    clear c0 c1 c2 c3 c4 hb0 hblk0 HB hw
    go_wp2_with fail
    have hw2 : Wrote 70 5 B b (bs ++ Lib.byteCells (91 :: wrA false (kids.take 0))) w w1 := hw1
    clear hw1 c5
    go_loopw [60] (fun iv wr => ∃ i : Nat, i ≤ len ∧ iv = .int .i64 i ∧ Wrote 70 5 B b (bs ++ Lib.byteCells (91 :: wrA false (kids.take i))) w wr) (fun iv _ => len - (intOf iv).toNat)
    case atStart => exact ⟨0, Nat.zero_le _, rfl, hw2⟩
    case round =>
      clear hw2
      obtain ⟨i, hi, rfl, hw⟩ := hrel
      by_cases hlt : i < len
      · obtain ⟨bb, off, u, y, rfl, hBB, g1, g2, hru, e0, e1, e2, e3, e4, e5⟩ := val_at HL.out.1 HL.out.2.1 HK.out.1 HK.out.2 hlt
        rw [← hw.2.1.cell (p := ⟨bb, _, none⟩) hBB] at e0 e1 e2 e3 e4 e5
        obtain ⟨hik, hyk⟩ := kid_at g1
        have hfy := HL.out.2.2.1 _ (List.mem_of_getElem? g1)
        have hfi := HL.out.2.2.2 _ (List.mem_of_getElem? g1)
        have hstep := wrA_take hik
        rw [← hyk] at hstep
        have hle := wrA_take_le kids false (i + 1)
        have HP := Lib.hid (show _ ∧ _ ∧ _ ∧ _ ∧ _ ∧ _ from ⟨hstep, hle, hfy, hfi, hru, hw⟩)
        have HBX := Lib.hid (box_val wr 26 u)
        have hsz := hw.2.1.size
        clear hstep hle hfy hfi hru hw g1 g2 hyk hik
        obtain ⟨hb1, hblk1⟩ := HBX.out
        rcases Nat.eq_zero_or_pos i with hz | hz
        · have hz0 : ¬ 0 < i := by omega
          have HZ := Lib.hid hz
          clear hz
          go_wp2_with fail
          have hBr : B ≤ wr.heap.size := Nat.le_trans hB HP.out.2.2.2.2.2.2.1.size
          refine (ih y u _ B b _ HP.out.2.2.1 HP.out.2.2.2.1 (HP.out.2.2.2.2.1.below (HP.out.2.2.2.2.2.2.1.alloc hBr _) (Nat.le_refl _)) (HP.out.2.2.2.2.2.is.alloc _) (by simp; omega) (fun W hW => HH.out.2.2 W ((HP.out.2.2.2.2.2.2.1.alloc hBr _).trans hW)) ?_).mono ?_
          · have h1 := HP.out.2.1
            have h2 := HH.out.2.1
            rw [HP.out.1] at h1
            simp only [List.length_append, List.length_cons, List.length_nil, Lib.byteCells_length] at h1 h2 ⊢
            omega
          rintro e w2 ⟨rfl, hw2⟩
          have h5 := Wrote.more (HP.out.2.2.2.2.2.2.1.alloc hBr _) (HP.out.2.2.2.2.2.2.2.alloc _) hw2
          have HX := Lib.hid h5
          clear h5 hw2
          go_wp2_with fail
          go_roundw
          case rel =>
            refine ⟨i + 1, hlt, by go_num, ?_⟩
            have h5 := HX.out
            rw [HP.out.1, if_neg (by rw [HZ.out]; omega)]
            simpa [Lib.byteCells] using h5
          case measure => simp [intOf]; omega
        · have HZ := Lib.hid hz
          go_wp2_with fail
          have hBr : B ≤ wr.heap.size := Nat.le_trans hB HP.out.2.2.2.2.2.2.1.size
          refine (writeString_any B b _ _ _ (HP.out.2.2.2.2.2.is.alloc _) ?_ (by simp; omega)).mono ?_
          · have h1 := HP.out.2.1
            have h2 := HH.out.2.1
            rw [HP.out.1, if_pos HZ.out] at h1
            simp only [List.length_append, List.length_cons, List.length_nil, Lib.byteCells_length] at h1 h2 ⊢
            show _ + 2 ≤ _
            omega
          rintro e w2 ⟨rfl, hw2⟩
          have hbk2 : Blk w2 wr.heap.size 26 u.box := hw2.2.2 _ _ hblk1 (by
            have := HP.out.2.2.2.2.2.1.lt
            simp; omega) (by intro c fz h; cases h)
          obtain ⟨d0, d1, d2, d3, d4, d5⟩ := hbk2.val
          have h5 := Wrote.more (HP.out.2.2.2.2.2.2.1.alloc hBr _) (HP.out.2.2.2.2.2.2.2.alloc _) hw2
          have HX := Lib.hid h5
          clear h5 hw2
          go_wp2_with fail
          have hB2 : B ≤ w2.heap.size := Nat.le_trans hB HX.out.2.1.size
          refine (ih y u _ B b _ HP.out.2.2.1 HP.out.2.2.2.1 (HP.out.2.2.2.2.1.below HX.out.2.1 (Nat.le_refl _)) HX.out.is hB2 (fun W hW => HH.out.2.2 W (HX.out.2.1.trans hW)) ?_).mono ?_
          · have h1 := HP.out.2.1
            have h2 := HH.out.2.1
            rw [HP.out.1, if_pos HZ.out] at h1
            simp only [List.length_append, List.length_cons, List.length_nil, Lib.byteCells_length] at h1 h2 ⊢
            show _ + 2 + _ + 8 ≤ _
            omega
          rintro e w3 ⟨rfl, hw3⟩
          have h6 := Wrote.more HX.out.2.1 HX.out.2.2 hw3
          have HY := Lib.hid h6
          clear h6 hw3
          go_wp2_with fail
          go_roundw
          case rel =>
            refine ⟨i + 1, hlt, by go_num, ?_⟩
            have h5 := HY.out
            rw [HP.out.1, if_pos HZ.out]
            simpa [Lib.byteCells, Lib.strCells] using h5
          case measure => simp [intOf]; omega
      · obtain rfl : i = len := by omega
        have HW := Lib.hid hw
        clear hw
        go_wp2_with fail
        refine (writeByte_any B b _ _ wr HW.out.is ?_ (Nat.le_trans hB HW.out.2.1.size)).mono ?_
        · have h2 := HH.out.2.1
          rw [List.take_of_length_le (by have := HL.out.2.1; omega)]
          simp only [List.length_append, List.length_cons, List.length_nil, Lib.byteCells_length] at h2 ⊢
          omega
        rintro e w5 ⟨rfl, hw5⟩
        go_wp2_with fail
        go_end0
        have h5 := Wrote.more HW.out.2.1 HW.out.2.2 hw5
        rw [List.take_of_length_le (by have := HL.out.2.1; omega)] at h5
        refine ⟨rfl, ?_⟩
        simpa [Lib.byteCells] using h5
end Go.Proofs.YtjgampkpfjbmdaaDoor
end
section
/- The reader: quoted. -/
namespace Go.Rel
open Go.RowKit
/-- A reader's place. -/
def rdPos (w : World) (b : Nat) : Nat := match w.cell? ⟨b, 1, none⟩ with | some (.int _ v) => v.toNat | _ => 0
theorem RdAt.pos {w : World} {e : TypeId} {b : Nat} {s : ByteArray} {p : Nat} {ok : Bool} (h : RdAt w e b s p ok) : rdPos w b = p := by
  unfold rdPos; rw [h.cells.2.1]; simp
/-- A reader and a builder of one's own. -/
def QS (w : World) (e : TypeId) (b : Nat) (s : ByteArray) (p : Nat) (ok : Bool) (acc : Bs) (W : World) : Prop :=
  RdAt W e b s p ok ∧ Lib.IsBuilderF 70 5 w.heap.size w.heap.size (Lib.byteCells acc) W ∧ w.grownBy W (some b)
theorem QS.keep {w : World} {e : TypeId} {b : Nat} {s : ByteArray} {p : Nat} {ok : Bool} {acc : Bs} {W W' : World} (h : QS w e b s p ok acc W) (hb : Below W.heap.size W W') : QS w e b s p ok acc W' :=
  ⟨h.1.grown hb, isB_below h.2.1 hb, h.2.2.trans (grown_below hb _)⟩
theorem isB_set {T e : TypeId} {B b : Nat} {bs : List Value} {w w' : World} (h : Lib.IsBuilderF T e B b bs w) {k : Nat} (hk : k < B) (hw : ∀ j, j ≠ k → w'.heap[j]? = w.heap[j]?) : Lib.IsBuilderF T e B b bs w' := by
  have key : ∀ p, Lib.BuilderAtF T e B b p bs w → Lib.BuilderAtF T e B b p bs w' := by
    intro p h
    obtain ⟨hB, v, hbk, hown, hne⟩ := h
    refine ⟨hB, v, (hw b (by omega)).trans hbk, ⟨hown.1, ?_⟩, hne⟩
    rcases hown.2 with hn | ⟨g, cap, cur, fz, hv, hbg, hg, rest⟩
    · exact .inl hn
    · exact .inr ⟨g, cap, cur, fz, hv, hbg, (hw g (by omega)).trans hg, rest⟩
  exact h.elim (fun x => .inl (key _ x)) (fun x => .inr (key _ x))
theorem QS.setAt {w : World} {e : TypeId} {b : Nat} {s : ByteArray} {p : Nat} {ok : Bool} {acc : Bs} {W : World} (h : QS w e b s p ok acc W) (hb : b < w.heap.size) (q : Nat) : QS w e b s q ok acc (W.setCell ⟨b, 1, none⟩ (.int .i64 q)) :=
  ⟨h.1.setAt q, isB_set h.2.1 hb (fun j hj => Below.heap_setCell _ _ _ _ hj), h.2.2.trans (grown_set W ⟨b, 1, none⟩ _)⟩
theorem QS.setOk {w : World} {e : TypeId} {b : Nat} {s : ByteArray} {p : Nat} {ok : Bool} {acc : Bs} {W : World} (h : QS w e b s p ok acc W) (hb : b < w.heap.size) (q : Bool) : QS w e b s p q acc (W.setCell ⟨b, 2, none⟩ (.bool q)) :=
  ⟨h.1.setOk q, isB_set h.2.1 hb (fun j hj => Below.heap_setCell _ _ _ _ hj), h.2.2.trans (grown_set W ⟨b, 2, none⟩ _)⟩
theorem QS.wrote {w : World} {e : TypeId} {b : Nat} {s : ByteArray} {p : Nat} {ok : Bool} {acc bs : Bs} {W W' : World} (h : QS w e b s p ok acc W) (hb : b < w.heap.size) (hw : Wrote 70 5 w.heap.size w.heap.size (Lib.byteCells bs) W W') : QS w e b s p ok bs W' :=
  ⟨(hw.2.1.block b hb).trans h.1, hw.is, hw.2.1.os.trans h.2.2.os, hw.2.1.tape.trans h.2.2.tape, hw.2.1.output.trans h.2.2.output, Nat.le_trans h.2.2.size hw.2.1.size, fun k hk hne => (hw.2.1.block k hk).trans (h.2.2.block k hk hne)⟩
theorem QS.b0 {w : World} {e : TypeId} {b : Nat} {s : ByteArray} {p : Nat} {ok : Bool} {acc : Bs} {W : World} (h : QS w e b s p ok acc W) : ∀ W', Below W.heap.size W W' → W'.cell? ⟨b, 0, none⟩ = some (.string s) ∧ W'.cell? ⟨b, 1, none⟩ = some (.int .i64 p) := fun W' hb => ⟨(h.1.grown hb).cells.1, (h.1.grown hb).cells.2.1⟩
theorem byte_ne {C D : UInt8} (h : C ≠ D) : ((C.toNat : Int) == (D.toNat : Int)) = false := by
  rw [beq_eq_false_iff_ne]; intro e; exact h (UInt8.toNat_inj.1 (Int.ofNat_inj.1 e))
theorem quotL_n (acc : Bs) : quotL [] acc = ([], [], false) := by rw [quotL.eq_def]
theorem quotL_q (r acc : Bs) : quotL (34 :: r) acc = (acc, r, true) := by rw [quotL.eq_def]; exact if_pos rfl
theorem quotL_e0 (acc : Bs) : quotL [92] acc = ([], [], false) := by rw [quotL.eq_def]; rfl
theorem quotL_e1 {d : UInt8} (r acc : Bs) (h : d = 34 ∨ d = 92) : quotL (92 :: d :: r) acc = quotL r (acc ++ [d]) := by
  rw [quotL.eq_def]; exact (if_neg (by decide)).trans ((if_pos rfl).trans (if_pos h))
theorem quotL_e2 {d : UInt8} (r acc : Bs) (h : ¬ (d = 34 ∨ d = 92)) : quotL (92 :: d :: r) acc = ([], d :: r, false) := by
  rw [quotL.eq_def]; exact (if_neg (by decide)).trans ((if_pos rfl).trans (if_neg h))
theorem quotL_c {c : UInt8} (r acc : Bs) (h : c ≠ 34) (h2 : c ≠ 92) : quotL (c :: r) acc = quotL r (acc ++ [c]) := by
  rw [quotL.eq_def]; exact (if_neg h).trans (if_neg h2)
/-- What quoted gives back. -/
def QuotP (w : World) (e : TypeId) (b : Nat) (s : ByteArray) (R : Bs × Bs × Bool) (en : Ending) (w' : World) : Prop :=
  ∃ p', en = .returned (.string (str R.1)) ∧ p' ≤ s.size ∧ s.data.toList.drop p' = R.2.1 ∧ RdAt w' e b s p' R.2.2 ∧ w.grownBy w' (some b)
end Go.Rel
namespace Go.Proofs.YtjgampkpfjbmdaaDoor
open Go.RowKit Go.Rel
set_option maxRecDepth 100000
set_option maxHeartbeats 4000000 in
theorem quoted_any (b p : Nat) (s : ByteArray) (w : World) (hr : RdAt w 77 b s p true) (hp : p ≤ s.size) (hs : s.size ≤ 100000) :
    Calls Tryd.prog 64 #[.pointer (some ⟨b, 0, none⟩)] w (QuotP w 77 b s (quotL (s.data.toList.drop p) [])) := by
  have hblt : b < w.heap.size := Blk.lt hr
  have hnb := Lib.IsBuilderF.of (Lib.fresh_isBuilder 70 5 w)
  have hba := below_alloc w (.cells #[.pointer none, .slice none 0 0] 70)
  have hq0 : QS w 77 b s p true [] (w.alloc (.cells #[.pointer none, .slice none 0 0] 70)) := ⟨hr.grown hba, hnb, grown_below hba _⟩
  obtain ⟨R, hR⟩ : ∃ R, quotL (s.data.toList.drop p) [] = R := ⟨_, rfl⟩
  rw [hR]
  have HQ := Lib.hid (show _ ∧ _ from ⟨hq0, hR⟩)
  clear hr hnb hba hq0 hR
  go_enter Tryd.func64, Tryd.ntmps64
  go_wp2_with fail
  generalize w.alloc _ = w1 at HQ ⊢
  go_loopw [4] (fun _ wr => ∃ (p : Nat) (acc : Bs), p ≤ s.size ∧ acc.length ≤ p ∧ QS w 77 b s p true acc wr ∧ quotL (s.data.toList.drop p) acc = R) (fun _ wr => s.size - rdPos wr b)
  case atStart => exact ⟨p, [], hp, Nat.zero_le _, HQ.out.1, HQ.out.2⟩
  case round =>
    clear HQ hp
    obtain ⟨p, acc, hp, hacc, hq, hR⟩ := hrel
    have HM := Lib.hid hq.1.pos
    have HA := Lib.hid hacc
    clear hacc
    have hb0 := hq.b0
    by_cases hlt : p < s.size
    · have hlt2 : (p : Int) < s.size := by omega
      go_wp2_with fail
      apply wp_region_head 10 91 (hm := by kernel_rfl) (hN := rfl)
      case hB => kernel_rfl
      case h =>
        simp only [List.take_succ_cons, List.take_zero]
        iterate 10 (apply head_still rfl; (intro W hW; have q0 := (hb0 W hW).1; have q1 := (hb0 W hW).2; go_simp; (try rfl)))
        refine head_nil ?_
        intro W hW hF
        replace hq := hq.keep hW
        clear hF hb0
        have hb0 := hq.b0
        go_wp2_with fail
        apply wp_region_head 10 91 (hm := by kernel_rfl) (hN := rfl)
        case hB => kernel_rfl
        case h =>
          simp only [List.take_succ_cons, List.take_zero]
          iterate 10 (apply head_still rfl; (intro W hW; have q0 := (hb0 W hW).1; have q1 := (hb0 W hW).2; go_simp; (try rfl)))
          refine head_nil ?_
          intro W2 hW2 hF
          replace hq := hq.keep hW2
          clear hF hb0 hW2 hW
          have hb0 := hq.b0
          obtain ⟨c0, c1, c2⟩ := hq.1.cells
          have cf := Blk.frozen hq.1
          have hdrop : s.data.toList.drop p = s[p] :: s.data.toList.drop (p + 1) := by
            rw [List.drop_eq_getElem_cons (by simpa using hlt)]; rfl
          rw [hdrop] at hR
          clear hdrop
          generalize s[p] = C at hR ⊢
          have hwr : IntKind.i64.wrap ((p : Int) + 1) = ((p + 1 : Nat) : Int) := by rw [IntKind.wrap_i64]; omega
          have hq1 : QS w 77 b s (p + 1) true acc (W2.setCell ⟨b, 1, none⟩ (.int .i64 ((p : Int) + 1))) := hq.setAt hblt (p + 1)
          have HQ := Lib.hid (show _ ∧ _ from ⟨hq1, hR⟩)
          clear hq hq1 hR hb0
          by_cases hC : C = 34
          · subst hC
            have hc34 : ((34 : UInt8).toNat : Int) = 34 := rfl
            go_wp2_with fail
            refine (Tryd.Builder_String_any_k w.heap.size w.heap.size acc _ HQ.out.1.2.1 HQ.out.1.2.2.size).mono ?_
            rintro e W4 ⟨rfl, -, hb4, -⟩
            have hr4 : RdAt W4 77 b s (p + 1) true := (hb4.block b hblt).trans HQ.out.1.1
            have hg4 : w.grownBy W4 (some b) := ⟨hb4.os.trans HQ.out.1.2.2.os, hb4.tape.trans HQ.out.1.2.2.tape, hb4.output.trans HQ.out.1.2.2.output, Nat.le_trans HQ.out.1.2.2.size hb4.size, fun k hk hne => (hb4.block k hk).trans (HQ.out.1.2.2.block k hk hne)⟩
            have HZ := Lib.hid (show _ ∧ _ from ⟨hr4, hg4⟩)
            clear hr4 hg4 hb4
            go_wp2_with fail
            go_ret
            have hR := (quotL_q _ _).symm.trans HQ.out.2
            subst hR
            exact ⟨p + 1, rfl, hlt, rfl, HZ.out.1, HZ.out.2⟩
          · have n34 : ((C.toNat : Int) == 34) = false := byte_ne (D := 34) hC
            by_cases hC2 : C = 92
            · subst hC2
              have hc92 : ((92 : UInt8).toNat : Int) = 92 := rfl
              have hc92 : ((92 : UInt8).toNat : Int) = 92 := rfl
              clear n34 hC
              by_cases hlt3 : p + 1 < s.size
              · have hlt4 : (p : Int) + 1 < s.size := by omega
                have hne4 : (((p : Int) + 1) == (s.size : Int)) = false := by rw [beq_eq_false_iff_ne]; omega
                have hdrop : s.data.toList.drop (p + 1) = s[p + 1] :: s.data.toList.drop (p + 2) := by
                  rw [List.drop_eq_getElem_cons (by simpa using hlt3)]; rfl
                rw [hdrop] at HQ
                clear hdrop
                go_wp2_with fail
                generalize W2.setCell _ _ = W3 at HQ ⊢
                have hb0 := HQ.out.1.b0
                simp only [Int.natCast_add, Int.cast_ofNat_Int] at hb0
                clear c0 c1 c2 cf
                by_cases hD : s[p + 1] = 34
                · have d1 : ((s[p + 1].toNat : Int) != 34) = false := by rw [hD]; rfl
                  apply wp_region_head 34 91 (hm := by kernel_rfl) (hN := rfl)
                  case hB => kernel_rfl
                  case h =>
                    simp only [List.take_succ_cons, List.take_zero]
                    iterate 22 (apply head_still (by kernel_rfl); (intro W hW; have q0 := (hb0 W hW).1; have q1 := (hb0 W hW).2; go_simp; (try rfl)))
                    iterate 10 (apply head_skip (by kernel_rfl))
                    iterate 2 (apply head_still (by kernel_rfl); (intro W hW; have q0 := (hb0 W hW).1; have q1 := (hb0 W hW).2; go_simp; (try rfl)))
                    refine head_nil ?_
                    intro W hW hF
                    have hq3 := HQ.out.1.keep hW
                    have hlt5 : (p : Int) + 1 < s.size := by omega
                    have hR3 := HQ.out.2
                    rw [hD, quotL_e1 _ _ (by decide)] at hR3
                    have HR := Lib.hid hR3
                    clear hF hb0 HQ hW hR3
                    go_wp2_with fail
                    have hb0 := hq3.b0
                    simp only [Int.natCast_add, Int.cast_ofNat_Int] at hb0
                    apply wp_region_head 10 91 (hm := by kernel_rfl) (hN := rfl)
                    case hB => kernel_rfl
                    case h =>
                      simp only [List.take_succ_cons, List.take_zero]
                      iterate 10 (apply head_still rfl; (intro W hW; have q0 := (hb0 W hW).1; have q1 := (hb0 W hW).2; go_simp; (try rfl)))
                      refine head_nil ?_
                      intro W5 hW5 hF
                      replace hq3 := hq3.keep hW5
                      clear hF hb0
                      obtain ⟨c0, c1, c2⟩ := hq3.1.cells
                      rw [Int.natCast_add] at c1
                      have cf := Blk.frozen hq3.1
                      have hq4 : QS w 77 b s (p + 2) true acc (W5.setCell ⟨b, 1, none⟩ (.int .i64 ((p : Int) + 1 + 1))) := hq3.setAt hblt (p + 2)
                      have HZ := Lib.hid hq4
                      clear hq3 hq4 hW5 hD
                      go_wp2_with fail
                      refine (writeByte_any w.heap.size w.heap.size (Lib.byteCells acc) 34 _ HZ.out.2.1 (by rw [Lib.byteCells_length]; have := HA.out; omega) HZ.out.2.2.size).mono ?_
                      rintro e W6 ⟨rfl, hw6⟩
                      have hq5 := HZ.out.wrote (bs := acc ++ [34]) hblt (by rw [bc_append]; exact hw6)
                      have HY := Lib.hid hq5
                      clear hq5 hw6 HZ c0 c1 c2 cf
                      go_wp2_with fail
                      go_roundw
                      case rel => exact ⟨p + 2, acc ++ [34], hlt3, (by have := HA.out; simp; omega), HY.out, HR.out⟩
                      case measure => rw [HY.out.1.pos, HM.out]; omega
                    all_goals rfl
                  all_goals rfl
                · by_cases hD2 : s[p + 1] = 92
                  · have hD := hD2
                    clear hD2
                    apply wp_region_head 34 91 (hm := by kernel_rfl) (hN := rfl)
                    case hB => kernel_rfl
                    case h =>
                      simp only [List.take_succ_cons, List.take_zero]
                      iterate 34 (apply head_still (by kernel_rfl); (intro W hW; have q0 := (hb0 W hW).1; have q1 := (hb0 W hW).2; go_simp; (try rfl)))
                      refine head_nil ?_
                      intro W hW hF
                      have hq3 := HQ.out.1.keep hW
                      have hlt5 : (p : Int) + 1 < s.size := by omega
                      have hR3 := HQ.out.2
                      rw [hD, quotL_e1 _ _ (by decide)] at hR3
                      have HR := Lib.hid hR3
                      clear hF hb0 HQ hW hR3
                      go_wp2_with fail
                      have hb0 := hq3.b0
                      simp only [Int.natCast_add, Int.cast_ofNat_Int] at hb0
                      apply wp_region_head 10 91 (hm := by kernel_rfl) (hN := rfl)
                      case hB => kernel_rfl
                      case h =>
                        simp only [List.take_succ_cons, List.take_zero]
                        iterate 10 (apply head_still rfl; (intro W hW; have q0 := (hb0 W hW).1; have q1 := (hb0 W hW).2; go_simp; (try rfl)))
                        refine head_nil ?_
                        intro W5 hW5 hF
                        replace hq3 := hq3.keep hW5
                        clear hF hb0
                        obtain ⟨c0, c1, c2⟩ := hq3.1.cells
                        rw [Int.natCast_add] at c1
                        have cf := Blk.frozen hq3.1
                        have hq4 : QS w 77 b s (p + 2) true acc (W5.setCell ⟨b, 1, none⟩ (.int .i64 ((p : Int) + 1 + 1))) := hq3.setAt hblt (p + 2)
                        have HZ := Lib.hid hq4
                        clear hq3 hq4 hW5 hD
                        go_wp2_with fail
                        refine (writeByte_any w.heap.size w.heap.size (Lib.byteCells acc) 92 _ HZ.out.2.1 (by rw [Lib.byteCells_length]; have := HA.out; omega) HZ.out.2.2.size).mono ?_
                        rintro e W6 ⟨rfl, hw6⟩
                        have hq5 := HZ.out.wrote (bs := acc ++ [92]) hblt (by rw [bc_append]; exact hw6)
                        have HY := Lib.hid hq5
                        clear hq5 hw6 HZ c0 c1 c2 cf
                        go_wp2_with fail
                        go_roundw
                        case rel => exact ⟨p + 2, acc ++ [92], hlt3, (by have := HA.out; simp; omega), HY.out, HR.out⟩
                        case measure => rw [HY.out.1.pos, HM.out]; omega
                      all_goals rfl
                    all_goals rfl
                  · have d1 : ((s[p + 1].toNat : Int) != 34) = true := by unfold bne; rw [show ((s[p + 1].toNat : Int) == 34) = false from byte_ne (D := 34) hD]; rfl
                    have d2 : ((s[p + 1].toNat : Int) != 92) = true := by unfold bne; rw [show ((s[p + 1].toNat : Int) == 92) = false from byte_ne (D := 92) hD2]; rfl
                    apply wp_region_head 34 91 (hm := by kernel_rfl) (hN := rfl)
                    case hB => kernel_rfl
                    case h =>
                      simp only [List.take_succ_cons, List.take_zero]
                      iterate 34 (apply head_still (by kernel_rfl); (intro W hW; have q0 := (hb0 W hW).1; have q1 := (hb0 W hW).2; go_simp; (try rfl)))
                      refine head_nil ?_
                      intro W hW hF
                      have hq3 := HQ.out.1.keep hW
                      obtain ⟨c0, c1, c2⟩ := hq3.1.cells
                      have cf := Blk.frozen hq3.1
                      have hq4 := hq3.setOk hblt false
                      have HZ := Lib.hid hq4
                      have HR := Lib.hid HQ.out.2
                      clear hq3 hq4 hF hb0 HQ hW
                      go_wp2_with fail
                      go_ret
                      have hR := HR.out
                      rw [quotL_e2 _ _ (by rintro (h | h) <;> contradiction)] at hR
                      subst hR
                      exact ⟨p + 1, rfl, hlt, by rw [List.drop_eq_getElem_cons (by simpa using hlt3)]; rfl, HZ.out.1, HZ.out.2.2⟩
                    all_goals rfl

              · have hlt4 : (((p : Int) + 1) == (s.size : Int)) = true := by rw [beq_iff_eq]; omega
                go_wp2_with fail
                generalize W2.setCell _ _ = W3 at HQ ⊢
                have hb0 := HQ.out.1.b0
                simp only [Int.natCast_add, Int.cast_ofNat_Int] at hb0
                clear c0 c1 c2 cf
                apply wp_region_head 34 91 (hm := by kernel_rfl) (hN := rfl)
                case hB => kernel_rfl
                case h =>
                  simp only [List.take_succ_cons, List.take_zero]
                  iterate 11 (apply head_still rfl; (intro W hW; have q0 := (hb0 W hW).1; have q1 := (hb0 W hW).2; go_simp; (try rfl)))
                  iterate 22 (apply head_skip (by kernel_rfl))
                  (apply head_still rfl; (intro W hW; go_simp; (try rfl)))
                  refine head_nil ?_
                  intro W hW hF
                  have hq3 := HQ.out.1.keep hW
                  obtain ⟨c0, c1, c2⟩ := hq3.1.cells
                  have cf := Blk.frozen hq3.1
                  have hq4 := hq3.setOk hblt false
                  have HZ := Lib.hid hq4
                  have HR := Lib.hid HQ.out.2
                  clear hq3 hq4 hF hb0 HQ hW
                  go_wp2_with fail
                  go_ret
                  have hR := HR.out
                  rw [List.drop_eq_nil_of_le (by simp; omega), quotL_e0] at hR
                  subst hR
                  exact ⟨p + 1, rfl, hlt, List.drop_eq_nil_of_le (by simp; omega), HZ.out.1, HZ.out.2.2⟩
                all_goals rfl
            · have n92 : ((C.toNat : Int) == 92) = false := byte_ne (D := 92) hC2
              have hR3 := HQ.out.2
              rw [quotL_c _ _ hC hC2] at hR3
              have HR := Lib.hid hR3
              clear hR3 hC hC2
              go_wp2_with fail
              refine (writeByte_any w.heap.size w.heap.size (Lib.byteCells acc) (C.toNat : Int) _ HQ.out.1.2.1 (by rw [Lib.byteCells_length]; have := HA.out; omega) HQ.out.1.2.2.size).mono ?_
              rintro e W6 ⟨rfl, hw6⟩
              have hq5 := HQ.out.1.wrote (bs := acc ++ [C]) hblt (by rw [bc_append]; exact hw6)
              have HY := Lib.hid hq5
              clear hq5 hw6 HQ c0 c1 c2 cf
              go_wp2_with fail
              go_roundw
              case rel => exact ⟨p + 1, acc ++ [C], hlt, (by have := HA.out; simp; omega), HY.out, HR.out⟩
              case measure => rw [HY.out.1.pos, HM.out]; omega
        all_goals rfl
      all_goals rfl
    · have hlt2 : ¬ (p : Int) < s.size := by omega
      have hps : p = s.size := by omega
      rw [List.drop_eq_nil_of_le (by simp; omega), quotL_n] at hR
      have HR := Lib.hid hR
      clear hR
      go_wp2_with fail
      apply wp_region_head 10 91 (hm := by kernel_rfl) (hN := rfl)
      case hB => kernel_rfl
      case h =>
        simp only [List.take_succ_cons, List.take_zero]
        iterate 10 (apply head_still rfl; (intro W hW; have q0 := (hb0 W hW).1; have q1 := (hb0 W hW).2; go_simp; (try rfl)))
        refine head_nil ?_
        intro W hW hF
        replace hq := hq.keep hW
        obtain ⟨c0, c1, c2⟩ := hq.1.cells
        have cf := Blk.frozen hq.1
        have hq4 := hq.setOk hblt false
        have HZ := Lib.hid hq4
        clear hq hq4 hF hb0 hW
        go_wp2_with fail
        go_ret
        have hR := HR.out
        subst hR
        exact ⟨p, rfl, hp, List.drop_eq_nil_of_le (by simp; omega), HZ.out.1, HZ.out.2.2⟩
      all_goals rfl
end Go.Proofs.YtjgampkpfjbmdaaDoor
end
