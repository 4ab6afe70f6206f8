/- The reference's Written. -/
import Derived.Test.YtjgampkpfjbmdaaDoorPack19
import Derived.Test.YtjgampkpfjbmdaaDoorRatN
namespace Go.Rel
open Go.RowKit
theorem ext_one {s : ByteArray} {i : Nat} (h : i < s.size) : s.extract i (i + 1) = str [s[i]] := by
  apply ByteArray.ext
  rw [ByteArray.data_extract]
  apply Array.ext'
  rw [Array.toList_extract]
  have h2 : i < s.data.toList.length := by simpa using h
  show (s.data.toList.drop i).take (i + 1 - i) = [s[i]]
  rw [List.drop_eq_getElem_cons h2, show i + 1 - i = 1 by omega]
  rfl
end Go.Rel
namespace Go.Proofs.YtjgampkpfjbmdaaDoor
open Go.RowKit Go.Rel
set_option maxRecDepth 100000
def WrittenIs (d : Nat) : Prop := ∀ (T : Tree) (x : Val) (w : World), fitT T d = true → fineT T = true → (wrT T).length ≤ 1000000000 → RdB w w.heap.size T x →
    Calls Tryd.prog 44 #[x.v] w (Ret w (.string (str (wrT T))))
set_option maxHeartbeats 8000000 in
theorem written_any : ∀ d, WrittenIs d := by
  intro d
  induction d with
  | zero => intro T x w h; rw [fitT_zero] at h; cases h
  | succ d ih =>
    intro T x w hf hfi hwl hr
    obtain ⟨kids, ys, rfl, ok, hy, hl1, hrec, hk⟩ := hr.open_
    have HB := Lib.hid (box_val w 26 x)
    rcases fine_cases hfi with ⟨h1, hq, -⟩ | ⟨h1, -⟩ | ⟨h1, -, -, -, hs⟩ | ⟨h1, -, -, -, hfl⟩
    · have e : wrT (.node x.k x.q x.t x.s kids) = textL x.q := by unfold wrT; rw [if_pos h1]
      rw [e]
      obtain ⟨k, q, t, s, A, len, cap⟩ := x
      dsimp only at h1 hq
      subst h1
      obtain ⟨-, -, n0, n1, m0, m1, -, -, -, -⟩ := ok
      have hq0 : textS q = str (textL q) := if_pos hq
      have r := fun W => refText_any q W ⟨n0, n1, m0, m1⟩
      rw [hq0] at r
      have R := Lib.hid r
      clear r hr hf hfi hrec hk hq0
      obtain ⟨hb, hx⟩ := HB.out
      obtain ⟨c0, c1, c2, c3, c4, c5⟩ := hx.val
      go_enter Tryd.func44, Tryd.ntmps44
      go_wp2_with fail
      refine (R.out _).mono ?_
      rintro e w1 ⟨rfl, hb1⟩
      replace hb := hb.trans (hb1.mono hb.size)
      clear hb1 hx HB c0 c1 c2 c3 c4 c5
      go_wp2_with fail
      go_ret
      exact ⟨rfl, hb⟩
    · have e : wrT (.node x.k x.q x.t x.s kids) = boolL x.t := by unfold wrT; rw [if_neg (by omega), if_pos h1]
      rw [e]
      obtain ⟨k, q, t, s, A, len, cap⟩ := x
      dsimp only at h1
      subst h1
      clear hr hf hfi hrec hk ok
      obtain ⟨hb, hx⟩ := HB.out
      obtain ⟨c0, c1, c2, c3, c4, c5⟩ := hx.val
      cases t
      all_goals
        go_enter Tryd.func44, Tryd.ntmps44
        go_wp2_with fail
        go_ret
        exact ⟨rfl, hb⟩
    · have e : wrT (.node x.k x.q x.t x.s kids) = 34 :: (escL x.s.data.toList ++ [34]) := by unfold wrT; rw [if_neg (by omega), if_neg (by omega), if_pos h1]
      rw [e]
      obtain ⟨k, q, t, s, A, len, cap⟩ := x
      dsimp only at h1 hs
      subst h1
      have h60 : s.size ≤ 60 := by
        unfold okStr at hs
        simp only [Bool.and_eq_true, decide_eq_true_eq] at hs
        exact hs.1
      clear hr hf hfi hrec hk ok hs
      obtain ⟨hb0, hx0⟩ := HB.out
      go_enter Tryd.func44, Tryd.ntmps44
      obtain ⟨c0, c1, c2, c3, c4, c5⟩ := hx0.val
      go_wp2_with fail
      clear c0 c1 c2 c3 c4 c5
      generalize w.alloc _ = w1 at hb0 hx0 ⊢
      go_loopw [5, 6] (fun sv iv wr => ∃ (i : Nat) (acc : ByteArray), i ≤ s.size ∧ iv = .int .i64 i ∧ sv = .string acc ∧ acc = str (34 :: escL (s.data.toList.take i)) ∧ Below w.heap.size w wr ∧ Blk wr w.heap.size 26 (Val.box ⟨3, q, t, s, A, len, cap⟩)) (fun _ iv _ => s.size - (intOf iv).toNat)
      case atStart => exact ⟨0, _, Nat.zero_le _, rfl, rfl, rfl, hb0, hx0⟩
      case round =>
        clear hb0 hx0
        obtain ⟨i, acc, hi, rfl, rfl, hacc, hb, hx⟩ := hrel
        have hal : acc.size ≤ 121 := by
          rw [hacc, str_size]
          have := escL_len (s.data.toList.take i)
          have h2 := List.length_take_le i s.data.toList
          have h3 : s.data.toList.length = s.size := by simp
          simp only [List.length_cons]
          have h4 : (s.data.toList.take i).length ≤ i := by simp; omega
          omega
        have l1 : ¬ 9223372036854775807 < acc.size + 1 := by omega
        have l2 : ¬ 9223372036854775807 < acc.size + 1 + (min (i + 1) s.size - i) := by omega
        have l3 : ¬ 9223372036854775807 < acc.size + (min (i + 1) s.size - i) := by omega
        have HA := Lib.hid hacc
        clear hacc hal
        obtain ⟨c0, c1, c2, c3, c4, c5⟩ := hx.val
        by_cases hlt : i < s.size
        · have hlt2 : (i : Int) < s.size := by omega
          have hone := ext_one hlt
          have hstep := escL_take (l := s.data.toList) (i := i) (by simpa using hlt)
          rw [show s.data.toList[i]'(by simpa using hlt) = s[i] from rfl] at hstep
          have HS := Lib.hid (show _ ∧ _ ∧ _ ∧ _ from ⟨hone, hstep, hb, hx⟩)
          clear hone hstep hb hx
          by_cases h34 : s[i] = 34
          · have hesc : escB s[i] = [92, s[i]] := if_pos (.inl h34)
            have HE := Lib.hid hesc
            have e34 : ((s[i].toNat : Int) == 34) = true := by rw [h34]; rfl
            clear hesc h34
            go_wp2_with fail
            go_roundw
            case rel => exact ⟨i + 1, _, hlt, by go_num, rfl, by rw [HS.out.1, HA.out, HS.out.2.1, HE.out]; rw [show (⟨#[92]⟩ : ByteArray) = str [92] from rfl, str_append, str_append]; simp, HS.out.2.2.1, HS.out.2.2.2⟩
            case measure => simp [intOf]; omega
          · have n34 : ((s[i].toNat : Int) == 34) = false := by rw [beq_eq_false_iff_ne]; intro h; exact h34 (UInt8.toNat_inj.1 (by simpa using Int.ofNat_inj.1 h))
            by_cases h92 : s[i] = 92
            · have hesc : escB s[i] = [92, s[i]] := if_pos (.inr h92)
              have HE := Lib.hid hesc
              have e92 : ((s[i].toNat : Int) == 92) = true := by rw [h92]; rfl
              clear hesc h34 h92
              go_wp2_with fail
              go_roundw
              case rel => exact ⟨i + 1, _, hlt, by go_num, rfl, by rw [HS.out.1, HA.out, HS.out.2.1, HE.out]; rw [show (⟨#[92]⟩ : ByteArray) = str [92] from rfl, str_append, str_append]; simp, HS.out.2.2.1, HS.out.2.2.2⟩
              case measure => simp [intOf]; omega
            · have hesc : escB s[i] = [s[i]] := if_neg (fun h => h.elim h34 h92)
              have n92 : ((s[i].toNat : Int) == 92) = false := by rw [beq_eq_false_iff_ne]; intro h; exact h92 (UInt8.toNat_inj.1 (by simpa using Int.ofNat_inj.1 h))
              have HE := Lib.hid hesc
              clear hesc h34 h92
              go_wp2_with fail
              go_roundw
              case rel => exact ⟨i + 1, _, hlt, by go_num, rfl, by rw [HS.out.1, HA.out, HS.out.2.1, HE.out]; rw [str_append]; simp, HS.out.2.2.1, HS.out.2.2.2⟩
              case measure => simp [intOf]; omega
        · obtain rfl : i = s.size := by omega
          have hlt2 : ¬ (s.size : Int) < s.size := by omega
          have HS := Lib.hid hb
          clear hb hx
          go_wp2_with fail
          go_ret
          refine ⟨?_, HS.out⟩
          rw [HA.out, List.take_of_length_le (by simp)]
          exact congrArg (fun z => Ending.returned (Value.string z)) (by rw [show (⟨#[34]⟩ : ByteArray) = str [34] from rfl, str_append]; simp)
    · have e : wrT (.node x.k x.q x.t x.s kids) = 91 :: (wrA false kids ++ [93]) := by unfold wrT; rw [if_neg (by omega), if_neg (by omega), if_neg (by omega)]
      rw [e] at hwl ⊢
      obtain ⟨e, he, -, h150, hkf⟩ := fitT_parts hf
      obtain rfl : d = e := by omega
      obtain ⟨k, q, t, s, A, len, cap⟩ := x
      obtain ⟨hk0, hk1, n0, n1, m0, m1, -, -, hc, -⟩ := ok
      dsimp only at h1 hy hl1 hrec hc h150
      subst h1
      rw [hl1] at h150
      have HL := Lib.hid (show _ ∧ _ ∧ _ ∧ _ ∧ _ from ⟨hy, hl1, hkf, fineL_mem hfl, hwl⟩)
      have HK := Lib.hid (show _ ∧ _ from ⟨hrec, hk⟩)
      clear hy hl1 hrec hk hkf hfl hfi hf hr he hwl
      obtain ⟨hb0, hx0⟩ := HB.out
      clear HB
      go_enter Tryd.func44, Tryd.ntmps44
      obtain ⟨c0, c1, c2, c3, c4, c5⟩ := hx0.val
      go_wp2_with fail
      clear c0 c1 c2 c3 c4 c5
      generalize w.alloc _ = w1 at hb0 hx0 ⊢
      go_loopw [7, 8] (fun sv iv wr => ∃ (i : Nat) (acc : ByteArray), i ≤ len ∧ iv = .int .i64 i ∧ sv = .string acc ∧ acc = str (91 :: wrA false (kids.take i)) ∧ Below w.heap.size w wr ∧ Blk wr w.heap.size 26 (Val.box ⟨4, q, t, s, A, len, cap⟩)) (fun _ iv _ => len - (intOf iv).toNat)
      case atStart => exact ⟨0, _, Nat.zero_le _, rfl, rfl, rfl, hb0, hx0⟩
      case round =>
        clear hb0 hx0
        obtain ⟨i, acc, hi, rfl, rfl, hacc, hb, hx⟩ := hrel
        have hal : acc.size ≤ 1000000000 := by
          rw [hacc, str_size]
          have h1 := wrA_take_le kids false i
          have h2 := HL.out.2.2.2.2
          simp only [List.length_cons, List.length_append, List.length_nil] at h2 ⊢
          omega
        have l1 : ¬ 9223372036854775807 < acc.size + 1 := by omega
        have l2 : ¬ 9223372036854775807 < acc.size + 2 := by omega
        obtain ⟨c0, c1, c2, c3, c4, c5⟩ := hx.val
        by_cases hlt : i < len
        · obtain ⟨bb, off, u, y, rfl, hBB, g1, g2, hru, e0, e1, e2, e3, e4, e5⟩ := val_at HL.out.1 HL.out.2.1 HK.out.1 HK.out.2 hlt
          have hlt2 : (i : Int) < len := by omega
          rw [← hb.cell (p := ⟨bb, _, none⟩) hBB] at e0 e1 e2 e3 e4 e5
          obtain ⟨hik, hyk⟩ := kid_at g1
          have hstep := wrA_take hik
          rw [← hyk] at hstep
          have hle := wrA_take_le kids false (i + 1)
          have hwy : acc.size + 2 + (wrT y).length ≤ 2000000000 ∧ (wrT y).length ≤ 1000000000 := by
            have h2 := HL.out.2.2.2.2
            rw [hstep] at hle
            simp only [List.length_cons, List.length_append, List.length_nil] at h2 hle
            omega
          have l3 : ¬ 9223372036854775807 < acc.size + (wrT y).length := by omega
          have l4 : ¬ 9223372036854775807 < acc.size + 2 + (wrT y).length := by omega
          have ll : (str (wrT y)).size = (wrT y).length := str_size _
          have HR := Lib.hid (ih y u wr (HL.out.2.2.1 _ (List.mem_of_getElem? g1)) (HL.out.2.2.2.1 _ (List.mem_of_getElem? g1)) hwy.2 (hru.in_ hb hb.size))
          have HS := Lib.hid (show _ ∧ _ ∧ _ ∧ _ from ⟨hstep, hacc, hb, hx⟩)
          clear hstep hle g1 g2 hru hyk hik hwy hacc hal hb hx
          rcases Nat.eq_zero_or_pos i with hz | hz
          · have hz0 : ¬ (0 : Int) < i := by omega
            have HZ := Lib.hid hz
            clear hz
            go_wp2_with fail
            refine HR.out.mono ?_
            rintro e w2 ⟨rfl, hb2⟩
            have HB2 := Lib.hid hb2
            clear c0 c1 c2 c3 c4 c5 e0 e1 e2 e3 e4 e5 hb2
            go_wp2_with fail
            go_roundw
            case rel =>
              refine ⟨i + 1, _, hlt, by go_num, rfl, ?_, HS.out.2.2.1.trans (HB2.out.mono HS.out.2.2.1.size), HS.out.2.2.2.keep HB2.out⟩
              rw [HS.out.2.1, HS.out.1, if_neg (by rw [HZ.out]; omega), str_append]
              simp
            case measure => simp [intOf]; omega
          · have hz0 : (0 : Int) < i := by omega
            have HZ := Lib.hid hz
            clear hz
            go_wp2_with fail
            refine HR.out.mono ?_
            rintro e w2 ⟨rfl, hb2⟩
            have HB2 := Lib.hid hb2
            clear c0 c1 c2 c3 c4 c5 e0 e1 e2 e3 e4 e5 hb2
            go_wp2_with fail
            go_roundw
            case rel =>
              refine ⟨i + 1, _, hlt, by go_num, rfl, ?_, HS.out.2.2.1.trans (HB2.out.mono HS.out.2.2.1.size), HS.out.2.2.2.keep HB2.out⟩
              rw [HS.out.2.1, HS.out.1, if_pos HZ.out, show (⟨#[44, 32]⟩ : ByteArray) = str [44, 32] from rfl, str_append, str_append]
              simp
            case measure => simp [intOf]; omega
        · obtain rfl : i = len := by omega
          have hlt2 : ¬ (i : Int) < i := by omega
          have HS := Lib.hid (show _ ∧ _ from ⟨hacc, hb⟩)
          clear hb hx hacc
          go_wp2_with fail
          go_ret
          refine ⟨?_, HS.out.2⟩
          rw [HS.out.1, List.take_of_length_le (by have := HL.out.2.1; omega)]
          exact congrArg (fun z => Ending.returned (Value.string z)) (by rw [show (⟨#[93]⟩ : ByteArray) = str [93] from rfl, str_append]; simp)
end Go.Proofs.YtjgampkpfjbmdaaDoor
