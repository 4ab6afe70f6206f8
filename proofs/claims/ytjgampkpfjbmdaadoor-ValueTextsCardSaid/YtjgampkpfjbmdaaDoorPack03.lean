/- Texts put together: ValA, RatA, RatB. -/
import Derived.Test.YtjgampkpfjbmdaaDoorPack02
import Derived.Test.YtjgampkpfjbmdaaDoorRows
import Derived.WalkKit
import Derived.WalkSpells
import Derived.WalkLawsBesides
import Derived.Deep.QuietTactic
import Derived.BigQuiet
import Derived.Laws.Bits64
import Derived.LoopTactic
import Derived.Outline
section
/- Parts and Deep of the reference, great and Great. -/
namespace Go.Rel
open Go.RowKit
theorem w64_add (a b : Nat) : wrap64 (w64 a + w64 b) = w64 (a + b) := by
  unfold w64 wrap64; simp only [IntKind.wrap_i64]; omega
def imaxV (x y : Int) : Int := if y > x then y else x
theorem run_imaxV {P : Program} (ts : Array TypeId) (t : TypeId) (k k' : IntKind) (x y : Int) (w : World) : (Builtin.max_ ts t #[.int k x, .int k' y]).run P w = .ok (.int k (imaxV x y)) w := run_max_int2 w ts t k k' x y
theorem imaxV_nat (a b : Nat) : imaxV (a : Int) (b : Int) = ((max a b : Nat) : Int) := by unfold imaxV; split <;> omega
theorem imaxV_deep (a b : Nat) : imaxV (a : Int) (1 + (b : Int)) = ((max a (1 + b) : Nat) : Int) := by rw [← imaxV_nat]; simp
end Go.Rel
namespace Go.Proofs.YtjgampkpfjbmdaaDoor
open Go.RowKit Go.Rel

set_option maxHeartbeats 2000000 in
theorem refPartsW_any : ∀ (d : Nat) (T : Tree) (x : Val) (w : World), wideT T d = true → RdB w w.heap.size T x →
    Calls Tryd.prog 40 #[x.v] w (Ret w (.int .i64 (w64 (partsT T)))) := by
  intro d
  induction d with
  | zero => intro T x w h; rw [wideT_zero] at h; cases h
  | succ d ih =>
    intro T x w hf hr
    obtain ⟨kids, ys, rfl, ok, hy, hl, hrec, hk⟩ := hr.open_
    obtain ⟨e, he, -, h150, hkf⟩ := wideT_parts hf
    obtain rfl : d = e := by omega
    obtain ⟨k, q, t, s, A, len, cap⟩ := x
    obtain ⟨hk0, hk1, -, -, -, -, -, -, hc, -⟩ := ok
    dsimp only at hk0 hk1 hy hl hrec hc h150
    rw [hl] at h150
    have HL := Lib.hid (show _ ∧ _ ∧ _ from ⟨hy, hl, hkf⟩)
    have HK := Lib.hid (show _ ∧ _ from ⟨hrec, hk⟩)
    have HB := Lib.hid (box_val w 26 ⟨k, q, t, s, A, len, cap⟩)
    clear hy hl hkf hrec hk hf hr he
    go_enter Tryd.func40, Tryd.ntmps40
    go_wp2_with fail
    obtain ⟨hb0, hblk0⟩ := HB.out
    generalize World.alloc _ _ = w0 at hb0 hblk0 ⊢
    clear HB
    by_cases h4 : k = 4
    · subst h4
      go_loopw [3, 4] (fun nv iv wr => ∃ i : Nat, i ≤ len ∧ iv = .int .i64 i ∧ nv = .int .i64 (w64 (1 + partsL (kids.take i))) ∧ Below w.heap.size w wr ∧ Blk wr w.heap.size 26 (Val.box ⟨4, q, t, s, A, len, cap⟩)) (fun _ iv _ => len - (intOf iv).toNat)
      case atStart => exact ⟨0, Nat.zero_le _, rfl, rfl, hb0, hblk0⟩
      case round =>
        clear hb0 hblk0
        obtain ⟨i, hi, rfl, rfl, hb, hblk⟩ := hrel
        obtain ⟨c0, c1, c2, c3, c4, c5⟩ := hblk.val
        by_cases hlt : i < len
        · obtain ⟨b, off, u, y, rfl, hB, g1, g2, hru, e0, e1, e2, e3, e4, e5⟩ := val_at HL.out.1 HL.out.2.1 HK.out.1 HK.out.2 hlt
          rw [← hb.cell (p := ⟨b, _, none⟩) hB] at e0 e1 e2 e3 e4 e5
          have HG := Lib.hid (show _ ∧ _ ∧ _ from ⟨g1, g2, hru⟩)
          clear g1 g2 hru
          go_wp2_with fail
          refine (ih y u _ (HL.out.2.2 _ (List.mem_of_getElem? HG.out.1)) (HG.out.2.2.in_ hb hb.size)).mono ?_
          rintro e w2 ⟨rfl, hb2⟩
          obtain ⟨hik, hy⟩ := kid_at HG.out.1
          have hp := partsL_take hik
          rw [← hy] at hp
          have hs := w64_add (1 + partsL (kids.take i)) (partsT y)
          rw [show 1 + partsL (kids.take i) + partsT y = 1 + partsL (kids.take (i + 1)) by rw [hp]; omega] at hs
          have HS := Lib.hid hs
          have HM := Lib.hid (show _ ∧ _ from ⟨hb.trans (hb2.mono hb.size), hblk.keep hb2⟩)
          clear hb hb2 hblk hs hp c0 c1 c2 c3 c4 c5 e0 e1 e2 e3 e4 e5 hy
          go_wp2_with fail
          go_roundw
          case rel => exact ⟨i + 1, by omega, by go_num, by rw [HS.out], HM.out⟩
          case measure => simp [intOf]; omega
        · obtain rfl : i = len := by omega
          have HS := Lib.hid (show w64 (1 + partsL (kids.take i)) = w64 (partsT (.node 4 q t s kids)) by rw [← HL.out.2.1, List.take_length]; rfl)
          go_wp2_with fail
          go_ret
          exact ret_int HS.out hb
    · obtain ⟨c0, c1, c2, c3, c4, c5⟩ := hblk0.val
      have q1 : ((k : Int) == 4) = false := by simpa using h4
      have HS := Lib.hid (show w64 1 = w64 (partsT (.node k q t s kids)) by unfold partsT; rw [if_neg h4])
      clear h4
      refine wp_loop_rounds 1 ?_
      rw [rounds_succ]
      by_cases h0 : 0 < len
      · go_wp2_with fail
        go_ret
        exact ret_int HS.out hb0
      · obtain rfl : len = 0 := by omega
        go_wp2_with fail
        go_ret
        exact ret_int HS.out hb0
theorem refParts_any : ∀ (d : Nat) (T : Tree) (x : Val) (w : World), fitT T d = true → RdB w w.heap.size T x →
    Calls Tryd.prog 40 #[x.v] w (Ret w (.int .i64 (w64 (partsT T)))) :=
  fun d T x w h2 h3 => refPartsW_any d T x w (fit_wide h2) h3

set_option maxHeartbeats 2000000 in
theorem refDeepW_any : ∀ (d : Nat) (T : Tree) (x : Val) (w : World), d ≤ 10 → wideT T d = true → RdB w w.heap.size T x →
    Calls Tryd.prog 52 #[x.v] w (Ret w (.int .i64 (deepT T))) := by
  intro d
  induction d with
  | zero => intro T x w _ h; rw [wideT_zero] at h; cases h
  | succ d ih =>
    intro T x w hd hf hr
    obtain ⟨kids, ys, rfl, ok, hy, hl, hrec, hk⟩ := hr.open_
    obtain ⟨e, he, -, h150, hkf⟩ := wideT_parts hf
    obtain rfl : d = e := by omega
    obtain ⟨k, q, t, s, A, len, cap⟩ := x
    obtain ⟨hk0, hk1, -, -, -, -, -, -, hc, -⟩ := ok
    dsimp only at hk0 hk1 hy hl hrec hc h150
    rw [hl] at h150
    have HL := Lib.hid (show _ ∧ _ ∧ _ from ⟨hy, hl, hkf⟩)
    have HK := Lib.hid (show _ ∧ _ from ⟨hrec, hk⟩)
    have HB := Lib.hid (box_val w 26 ⟨k, q, t, s, A, len, cap⟩)
    clear hy hl hkf hrec hk hf hr he
    have hmax := @run_imaxV Tryd.prog
    go_enter Tryd.func52, Tryd.ntmps52
    go_wp2_with fail
    obtain ⟨hb0, hblk0⟩ := HB.out
    generalize World.alloc _ _ = w0 at hb0 hblk0 ⊢
    clear HB
    by_cases h4 : k = 4
    · subst h4
      go_loopw [3, 4] (fun nv iv wr => ∃ (i D : Nat), i ≤ len ∧ iv = .int .i64 i ∧ nv = .int .i64 D ∧ Hid (D = deepL (kids.take i)) ∧ Below w.heap.size w wr ∧ Blk wr w.heap.size 26 (Val.box ⟨4, q, t, s, A, len, cap⟩)) (fun _ iv _ => len - (intOf iv).toNat)
      case atStart => exact ⟨0, 1, Nat.zero_le _, rfl, rfl, rfl, hb0, hblk0⟩
      case round =>
        clear hb0 hblk0
        obtain ⟨i, D, hi, rfl, rfl, HD, hb, hblk⟩ := hrel
        obtain ⟨c0, c1, c2, c3, c4, c5⟩ := hblk.val
        by_cases hlt : i < len
        · obtain ⟨b, off, u, y, rfl, hB, g1, g2, hru, e0, e1, e2, e3, e4, e5⟩ := val_at HL.out.1 HL.out.2.1 HK.out.1 HK.out.2 hlt
          rw [← hb.cell (p := ⟨b, _, none⟩) hB] at e0 e1 e2 e3 e4 e5
          have HG := Lib.hid (show _ ∧ _ ∧ _ from ⟨g1, g2, hru⟩)
          clear g1 g2 hru
          go_wp2_with fail
          refine (ih y u _ (by omega) (HL.out.2.2 _ (List.mem_of_getElem? HG.out.1)) (HG.out.2.2.in_ hb hb.size)).mono ?_
          rintro e w2 ⟨rfl, hb2⟩
          obtain ⟨hik, hy⟩ := kid_at HG.out.1
          have hp := deepL_take hik
          have hyd := wide_deep _ _ (HL.out.2.2 _ (List.mem_of_getElem? HG.out.1))
          rw [← hy, ← HD.out] at hp
          obtain ⟨Y, hY⟩ : ∃ Y, deepT y = Y := ⟨_, rfl⟩
          rw [hY] at hp hyd ⊢
          have HS := Lib.hid (show imaxV (D : Int) (1 + (Y : Int)) = (deepL (kids.take (i + 1)) : Int) by rw [imaxV_deep, hp])
          have HM := Lib.hid (show _ ∧ _ from ⟨hb.trans (hb2.mono hb.size), hblk.keep hb2⟩)
          clear hb hb2 hblk hp c0 c1 c2 c3 c4 c5 e0 e1 e2 e3 e4 e5 hy hY
          go_wp2_with fail
          go_roundw
          case rel => exact ⟨i + 1, _, by omega, by go_num, by rw [HS.out], rfl, HM.out⟩
          case measure => simp [intOf]; omega
        · obtain rfl : i = len := by omega
          have HS := Lib.hid (show (D : Int) = (deepT (.node 4 q t s kids) : Int) by rw [HD.out, ← HL.out.2.1, List.take_length]; rfl)
          go_wp2_with fail
          go_ret
          exact ret_int HS.out hb
    · obtain ⟨c0, c1, c2, c3, c4, c5⟩ := hblk0.val
      have q1 : ((k : Int) == 4) = false := by simpa using h4
      have HS := Lib.hid (show (1 : Int) = (deepT (.node k q t s kids) : Int) by unfold deepT; rw [if_neg h4]; rfl)
      clear h4
      refine wp_loop_rounds 1 ?_
      rw [rounds_succ]
      by_cases h0 : 0 < len
      · go_wp2_with fail
        go_ret
        exact ret_int HS.out hb0
      · obtain rfl : len = 0 := by omega
        go_wp2_with fail
        go_ret
        exact ret_int HS.out hb0
theorem refDeep_any : ∀ (d : Nat) (T : Tree) (x : Val) (w : World), d ≤ 10 → fitT T d = true → RdB w w.heap.size T x →
    Calls Tryd.prog 52 #[x.v] w (Ret w (.int .i64 (deepT T))) :=
  fun d T x w h1 h2 h3 => refDeepW_any d T x w h1 (fit_wide h2) h3

theorem fit_big_s {k : Int} {q : Rat2} {t : Bool} {s : ByteArray} {kids : List Tree} {d : Nat} (h : 200 < s.size) : (!fitT (.node k q t s kids) (d + 1)) = true := by
  rw [fitT_succ, decide_eq_false (by omega)]; rfl
theorem fit_big_l {k : Int} {q : Rat2} {t : Bool} {s : ByteArray} {kids : List Tree} {d : Nat} (h : 150 < kids.length) : (!fitT (.node k q t s kids) (d + 1)) = true := by
  rw [fitT_succ, decide_eq_false (show ¬ kids.length ≤ 150 by omega)]; simp
theorem fit_no {k : Int} {q : Rat2} {t : Bool} {s : ByteArray} {kids : List Tree} {d : Nat} {y : Tree} (hy : y ∈ kids) (h : fitT y d = false) : (!fitT (.node k q t s kids) (d + 1)) = true := by
  cases hf : fitT (.node k q t s kids) (d + 1) with
  | false => rfl
  | true =>
    obtain ⟨e, he, -, -, hk⟩ := fitT_parts hf
    obtain rfl : d = e := by omega
    rw [hk y hy] at h; cases h
theorem fit_yes {k : Int} {q : Rat2} {t : Bool} {s : ByteArray} {kids : List Tree} {d : Nat} (h1 : ¬ 200 < s.size) (h2 : ¬ 150 < kids.length) (h : fitL (kids.take kids.length) d = true) : (!fitT (.node k q t s kids) (d + 1)) = false := by
  rw [List.take_length] at h
  rw [fitT_succ, decide_eq_true (by omega), decide_eq_true (show kids.length ≤ 150 by omega), h]; rfl

set_option maxHeartbeats 2000000 in
theorem great_any : ∀ (d : Nat) (D : Int) (T : Tree) (x : Val) (w : World), D = d → d ≤ 10 → RdB w w.heap.size T x →
    Calls Tryd.prog 39 #[x.v, .int .i64 D] w (Ret w (.bool (!fitT T d))) := by
  intro d
  induction d with
  | zero =>
    intro D T x w hD _ hr
    obtain rfl : D = 0 := by omega
    obtain ⟨k, q, t, s, A, len, cap⟩ := x
    have hV : (!fitT T 0) = true := by rw [fitT_zero]; rfl
    rw [hV]
    clear hV hr hD
    go_enter Tryd.func39, Tryd.ntmps39
    go_wp2_with fail
    go_ret
    exact ret_bool rfl (below_alloc _ _)
  | succ d ih =>
    intro D T x w hD hd hr
    obtain ⟨kids, ys, rfl, ok, hy, hl, hrec, hk⟩ := hr.open_
    obtain ⟨k, q, t, s, A, len, cap⟩ := x
    obtain ⟨hk0, hk1, -, -, -, -, hs, hlc, hc, -⟩ := ok
    dsimp only at hk0 hk1 hy hl hrec hc hlc hs
    dsimp only
    have hD0 : 0 ≤ D - 1 := by omega
    have hD2 : 1 ≤ D := by omega
    have hD1 : D ≤ 10 := by omega
    have q0 : (D == 0) = false := by simp; omega
    have HD := Lib.hid (show D - 1 = (d : Int) by omega)
    have HL := Lib.hid (show _ ∧ _ from ⟨hy, hl⟩)
    have HK := Lib.hid (show _ ∧ _ from ⟨hrec, hk⟩)
    have HB := Lib.hid (box_val w 26 ⟨k, q, t, s, A, len, cap⟩)
    have V1 := Lib.hid (fun h => fit_big_s (k := k) (q := q) (t := t) (s := s) (kids := kids) (d := d) h)
    have V2 := Lib.hid (fun h => fit_big_l (k := k) (q := q) (t := t) (s := s) (kids := kids) (d := d) h)
    have V3 := Lib.hid (fun (y : Tree) hy h => fit_no (k := k) (q := q) (t := t) (s := s) (kids := kids) (d := d) (y := y) hy h)
    have V4 := Lib.hid (fun h1 h2 h => fit_yes (k := k) (q := q) (t := t) (s := s) (kids := kids) (d := d) h1 h2 h)
    clear hy hrec hk hr hD
    generalize (!fitT (.node k q t s kids) (d + 1)) = V at *
    by_cases hs2 : 200 < s.size
    · have HV := Lib.hid (V1.out hs2)
      have q1 : decide ((200 : Int) < (s.size : Int)) = true := by simp; omega
      obtain ⟨hb0, hblk0⟩ := HB.out
      obtain ⟨c0, c1, c2, c3, c4, c5⟩ := hblk0.val
      clear hs2 hl V1 V2 V3 V4
      go_enter Tryd.func39, Tryd.ntmps39
      go_wp2_with fail
      go_ret
      exact ret_bool HV.out.symm hb0
    have q1 : decide ((200 : Int) < (s.size : Int)) = false := by simp; omega
    by_cases hl2 : 150 < len
    · have HV := Lib.hid (V2.out (by omega))
      have q2 : decide ((150 : Int) < (len : Int)) = true := by simp; omega
      obtain ⟨hb0, hblk0⟩ := HB.out
      obtain ⟨c0, c1, c2, c3, c4, c5⟩ := hblk0.val
      clear hs2 hl2 hl V1 V2 V3 V4
      go_enter Tryd.func39, Tryd.ntmps39
      go_wp2_with fail
      go_ret
      exact ret_bool HV.out.symm hb0
    have q2 : decide ((150 : Int) < (len : Int)) = false := by simp; omega
    have HT := Lib.hid (show _ ∧ _ from ⟨hs2, show ¬ 150 < kids.length by omega⟩)
    clear hl hs2 V1 V2
    go_enter Tryd.func39, Tryd.ntmps39
    obtain ⟨hb0, hblk0⟩ := HB.out
    obtain ⟨c0, c1, c2, c3, c4, c5⟩ := hblk0.val
    go_wp2_with fail
    clear c0 c1 c2 c3 c4 c5 q0 q1 q2 HB
    generalize World.alloc _ _ = w0 at hb0 hblk0 ⊢
    go_loopw [5] (fun iv wr => ∃ i : Nat, i ≤ len ∧ iv = .int .i64 i ∧ Hid (fitL (kids.take i) d = true) ∧ Below w.heap.size w wr ∧ Blk wr w.heap.size 26 (Val.box ⟨k, q, t, s, A, len, cap⟩)) (fun iv _ => len - (intOf iv).toNat)
    case atStart => exact ⟨0, Nat.zero_le _, rfl, rfl, hb0, hblk0⟩
    case round =>
      clear hb0 hblk0
      obtain ⟨i, hi, rfl, HF, hb, hblk⟩ := hrel
      obtain ⟨c0, c1, c2, c3, c4, c5⟩ := hblk.val
      by_cases hlt : i < len
      · obtain ⟨b, off, u, y, rfl, hB, g1, g2, hru, e0, e1, e2, e3, e4, e5⟩ := val_at HL.out.1 HL.out.2 HK.out.1 HK.out.2 hlt
        rw [← hb.cell (p := ⟨b, _, none⟩) hB] at e0 e1 e2 e3 e4 e5
        obtain ⟨hik, hy⟩ := kid_at g1
        have hstep := fitL_take (d := d) hik
        rw [← hy, HF.out] at hstep
        have hmem := List.mem_of_getElem? g1
        have HG := Lib.hid (show RdB wr wr.heap.size y u from hru.in_ hb hb.size)
        have HR := Lib.hid (ih (D - 1) y u wr HD.out (by omega) HG.out)
        have hV3 := V3.out y hmem
        clear g1 g2 hru HG hy hmem
        cases hfy : fitT y d
        · rw [hfy] at HR
          have HV := Lib.hid (hV3 hfy)
          clear hstep hV3 hfy
          go_wp2_with fail
          refine (HR.out).mono ?_
          rintro e w2 ⟨rfl, hb2⟩
          have HM := Lib.hid (hb.trans (hb2.mono hb.size))
          clear hb hb2 c0 c1 c2 c3 c4 c5 e0 e1 e2 e3 e4 e5
          go_wp2_with fail
          go_ret
          exact ret_bool HV.out.symm HM.out
        · rw [hfy] at HR hstep
          have HS := Lib.hid hstep
          clear hstep hV3 hfy
          go_wp2_with fail
          refine (HR.out).mono ?_
          rintro e w2 ⟨rfl, hb2⟩
          have HM := Lib.hid (show _ ∧ _ from ⟨hb.trans (hb2.mono hb.size), hblk.keep hb2⟩)
          clear hb hb2 c0 c1 c2 c3 c4 c5 e0 e1 e2 e3 e4 e5 hblk
          go_wp2_with fail
          go_roundw
          case rel => exact ⟨i + 1, by omega, by go_num, HS, HM.out⟩
          case measure => simp [intOf]; omega
      · obtain rfl : i = len := by omega
        have HV := Lib.hid (V4.out HT.out.1 HT.out.2 (by rw [HL.out.2]; exact HF.out))
        go_wp2_with fail
        go_ret
        exact ret_bool HV.out.symm hb

set_option maxHeartbeats 2000000 in
theorem refGreat_any (T : Tree) (x : Val) (w : World) (hr : RdB w w.heap.size T x) :
    Calls Tryd.prog 17 #[x.v] w (Ret w (.bool (greatT T))) := by
  have HR := Lib.hid hr
  obtain ⟨k, q, t, s, A, len, cap⟩ := x
  have HB := Lib.hid (box_val w 26 ⟨k, q, t, s, A, len, cap⟩)
  have HG := Lib.hid (show greatT T = (!fitT T 10 || decide (150 < w64 (partsT T))) from rfl)
  generalize greatT T = V at *
  clear hr
  cases hf : fitT T 10
  · rw [hf] at HG
    have HV := Lib.hid (show V = true by rw [HG.out]; rfl)
    have HF := Lib.hid hf
    clear HG hf
    go_enter Tryd.func17, Tryd.ntmps17
    obtain ⟨hb0, hblk0⟩ := HB.out
    obtain ⟨c0, c1, c2, c3, c4, c5⟩ := hblk0.val
    go_wp2_with fail
    refine (great_any 10 _ T _ _ rfl (Nat.le_refl _) (HR.out.in_ hb0 hb0.size)).mono ?_
    rintro e w2 ⟨rfl, hb2⟩
    rw [HF.out]
    have HM := Lib.hid (hb0.trans (hb2.mono hb0.size))
    clear hb0 hb2 hblk0 c0 c1 c2 c3 c4 c5
    go_wp2_with fail
    go_ret
    exact ret_bool HV.out.symm HM.out
  · rw [hf] at HG
    have HV := Lib.hid (show V = decide (150 < w64 (partsT T)) by rw [HG.out]; rfl)
    have HF := Lib.hid hf
    clear HG hf
    go_enter Tryd.func17, Tryd.ntmps17
    obtain ⟨hb0, hblk0⟩ := HB.out
    obtain ⟨c0, c1, c2, c3, c4, c5⟩ := hblk0.val
    go_wp2_with fail
    refine (great_any 10 _ T _ _ rfl (Nat.le_refl _) (HR.out.in_ hb0 hb0.size)).mono ?_
    rintro e w2 ⟨rfl, hb2⟩
    rw [HF.out]
    have hb3 := hb0.trans (hb2.mono hb0.size)
    obtain ⟨d0, d1, d2, d3, d4, d5⟩ := (hblk0.keep hb2).val
    have HM := Lib.hid hb3
    clear hb0 hb2 hblk0 c0 c1 c2 c3 c4 c5 hb3
    go_wp2_with fail
    refine (refParts_any 10 T _ _ HF.out (HR.out.in_ HM.out HM.out.size)).mono ?_
    rintro e w3 ⟨rfl, hb3⟩
    have HM2 := Lib.hid (HM.out.trans (hb3.mono HM.out.size))
    clear hb3 d0 d1 d2 d3 d4 d5
    obtain ⟨N, hN⟩ : ∃ N, w64 (partsT T) = N := ⟨_, rfl⟩
    rw [hN] at HV ⊢
    clear hN
    go_wp2_with fail
    go_ret
    exact ret_bool HV.out.symm HM2.out
end Go.Proofs.YtjgampkpfjbmdaaDoor
end
section
/- size, gcd, common: the absolute value and the greatest common divisor. -/
namespace Go.Proofs.YtjgampkpfjbmdaaDoor
open Go.RowKit Go.Rel

theorem size_any (a : Int) (w : World) (h1 : -9223372036854775808 ≤ a) (h2 : a ≤ 9223372036854775807) :
    Calls Tryd.prog 70 #[.int .i64 a] w (Same w (.int .u64 a.natAbs)) := by
  go_enter Tryd.func70, Tryd.ntmps70
  go_wp2
  all_goals
    go_ret
    refine same_int ?_
    (try simp only [IntKind.wrap_u64])
    omega

set_option maxHeartbeats 400000 in
theorem gcd_any (a b : Nat) (w : World) (ha : a < 18446744073709551616) (hb : b < 18446744073709551616) :
    Calls Tryd.prog 71 #[.int .u64 a, .int .u64 b] w (Ret w (.int .u64 (Nat.gcd a b))) := by
  go_enter Tryd.func71, Tryd.ntmps71
  go_wp2
  go_loopw [0, 1] (fun x y wr => ∃ p q : Nat, p < 18446744073709551616 ∧ q < 18446744073709551616 ∧ x = .int .u64 p ∧ y = .int .u64 q ∧ Nat.gcd p q = Nat.gcd a b ∧ Below w.heap.size w wr) (fun _ y _ => (intOf y).toNat)
  case atStart => exact ⟨a, b, ha, hb, rfl, rfl, rfl, Below.refl _ _⟩
  case round =>
    obtain ⟨p, q, hp, hq, rfl, rfl, hg, hbl⟩ := hrel
    have HG := Lib.hid hg
    clear hg
    by_cases h0 : q = 0
    · subst h0
      go_wp2_with fail
      go_ret
      exact ret_int (by rw [← HG.out, Nat.gcd_zero_right]) hbl
    · have e0 : ((q : Int) == 0) = false := by simp; omega
      go_wp2_with fail
      go_quiet (fail)
      go_wp2_with fail
      have hlt : p % q < q := Nat.mod_lt _ (by omega)
      go_roundw
      case rel =>
        refine ⟨q, p % q, hq, by omega, by go_num, by go_num, ?_, below_drewN hbl _⟩
        rw [← HG.out, Nat.gcd_comm p q, Nat.gcd_rec q p, Nat.gcd_comm]
      case measure => simp [intOf]; omega

theorem gcd_tmod (p q : Int) : Int.gcd q (p.tmod q) = Int.gcd p q := by
  simp only [Int.gcd, Int.natAbs_tmod]
  rw [Nat.gcd_comm p.natAbs, Nat.gcd_rec q.natAbs p.natAbs, Nat.gcd_comm]

set_option maxHeartbeats 400000 in
theorem common_any (a b : Int) (w : World) (ha : -9223372036854775807 ≤ a) (ha' : a ≤ 9223372036854775807) (hb : -9223372036854775807 ≤ b) (hb' : b ≤ 9223372036854775807) :
    Calls Tryd.prog 72 #[.int .i64 a, .int .i64 b] w (Ret w (.int .i64 (Int.gcd a b))) := by
  go_enter Tryd.func72, Tryd.ntmps72
  go_wp2
  go_loopw [0, 1] (fun x y wr => ∃ p q : Int, -9223372036854775807 ≤ p ∧ p ≤ 9223372036854775807 ∧ -9223372036854775807 ≤ q ∧ q ≤ 9223372036854775807 ∧ x = .int .i64 p ∧ y = .int .i64 q ∧ Int.gcd p q = Int.gcd a b ∧ Below w.heap.size w wr) (fun _ y _ => (intOf y).natAbs)
  case atStart => exact ⟨a, b, ha, ha', hb, hb', rfl, rfl, rfl, Below.refl _ _⟩
  case round =>
    obtain ⟨p, q, hp, hp', hq, hq', rfl, rfl, hg, hbl⟩ := hrel
    have HG := Lib.hid hg
    clear hg
    by_cases h0 : q = 0
    · subst h0
      go_wp2_with fail
      all_goals
        go_ret
        refine ret_int ?_ hbl
        rw [← HG.out, Int.gcd_zero_right]
        omega
    · have e0 : (q == 0) = false := by simp; omega
      obtain ⟨m, hm⟩ : ∃ m, p.tmod q = m := ⟨_, rfl⟩
      have hn : m.natAbs < q.natAbs := by rw [← hm, Int.natAbs_tmod]; exact Nat.mod_lt _ (by omega)
      have hmw : IntKind.i64.wrap m = m := by rw [IntKind.wrap_i64]; omega
      have HM := Lib.hid hm
      go_wp2_with fail
      go_quiet (fail)
      go_wp2_with fail
      go_roundw
      case rel =>
        refine ⟨q, m, hq, hq', by omega, by omega, by go_num, by go_num, ?_, below_drewN hbl _⟩
        rw [← HG.out, ← HM.out, gcd_tmod]
      case measure => simp [intOf]; omega
end Go.Proofs.YtjgampkpfjbmdaaDoor
end
section
/- Check, on both sides: the error of a ratio. For numbers of 64 bits. -/
namespace Go.Proofs.YtjgampkpfjbmdaaDoor
open Go.RowKit Go.Rel

set_option maxHeartbeats 1000000 in
theorem ratCheck_any (a : Rat2) (w : World) (hn : -9223372036854775808 ≤ a.n) (hn' : a.n ≤ 9223372036854775807) (hd : -9223372036854775808 ≤ a.d) (hd' : a.d ≤ 9223372036854775807) :
    Calls Tryd.prog 57 #[a.v] w (Ret w (.int .i64 (ratE a))) := by
  have key : (decide (a.d < 1) = true ∧ ratE a = 8) ∨ (decide (a.d < 1) = false ∧ decide (a.d > 1000000000) = true ∧ ratE a = 8) ∨
      (decide (a.d < 1) = false ∧ decide (a.d > 1000000000) = false ∧ decide ((a.n.natAbs : Int) > 1000000000) = true ∧ ratE a = 8) ∨
      (decide (a.d < 1) = false ∧ decide (a.d > 1000000000) = false ∧ decide ((a.n.natAbs : Int) > 1000000000) = false ∧ ((Nat.gcd a.n.natAbs a.d.toNat : Int) != 1) = true ∧ ratE a = 8) ∨
      (decide (a.d < 1) = false ∧ decide (a.d > 1000000000) = false ∧ decide ((a.n.natAbs : Int) > 1000000000) = false ∧ ((Nat.gcd a.n.natAbs a.d.toNat : Int) != 1) = false ∧ ratE a = 0) := by
    by_cases h1 : a.d < 1
    · exact .inl ⟨by simpa using h1, ratE_bad (fun h => by have := h.1; omega)⟩
    have h1' : decide (a.d < 1) = false := by simpa using h1
    by_cases h2 : a.d > 1000000000
    · exact .inr (.inl ⟨h1', by simpa using h2, ratE_bad (fun h => by have := h.2.1; omega)⟩)
    have h2' : decide (a.d > 1000000000) = false := by simpa using h2
    by_cases h3 : (a.n.natAbs : Int) > 1000000000
    · exact .inr (.inr (.inl ⟨h1', h2', by simpa using h3, ratE_bad (fun h => by have := h.2.2; omega)⟩))
    have h3' : decide ((a.n.natAbs : Int) > 1000000000) = false := by simpa using h3
    have e : a.d.toNat = a.d.natAbs := by omega
    by_cases h4 : Int.gcd a.n a.d = 1
    · exact .inr (.inr (.inr (.inr ⟨h1', h2', h3', by rw [e]; simp [Int.gcd] at h4 ⊢; omega, ratE_ok ⟨by omega, by omega, by omega, by omega, h4⟩⟩)))
    · exact .inr (.inr (.inr (.inl ⟨h1', h2', h3', by rw [e]; simp [Int.gcd] at h4 ⊢; omega, ratE_bad (fun h => h4 h.2.2.2.2)⟩)))
  obtain ⟨n, d⟩ := a
  simp only at hn hn' hd hd' key
  rcases key with ⟨d1, hE⟩ | ⟨d1, d2, hE⟩ | ⟨d1, d2, d3, hE⟩ | ⟨d1, d2, d3, d4, hE⟩ | ⟨d1, d2, d3, d4, hE⟩
  · have HE := Lib.hid hE
    clear hE
    go_enter Tryd.func57, Tryd.ntmps57
    go_wp2_with fail
    have q := Blk.new w 23 #[.int .i64 n, .int .i64 d]
    have hbw := below_alloc w (.cells #[.int .i64 n, .int .i64 d] 23)
    generalize World.alloc w _ = w1 at q hbw ⊢
    have hlt := q.lt
    have c0 : ∀ W, Below w1.heap.size w1 W → W.cell? ⟨w.heap.size, 0, none⟩ = some (.int .i64 n) := fun W hW => (q.keep hW).cell rfl
    have c1 : ∀ W, Below w1.heap.size w1 W → W.cell? ⟨w.heap.size, 1, none⟩ = some (.int .i64 d) := fun W hW => (q.keep hW).cell rfl
    apply wp_region_head 24 27 (hm := by kernel_rfl) (hN := rfl)
    case h =>
      simp only [List.take_succ_cons, List.take_zero]
      iterate 4 (apply head_still rfl; (intro W hW; go_simp; (try rfl)))
      iterate 3 (apply head_skip (by kernel_rfl))
      iterate 2 (apply head_still rfl; (intro W hW; go_simp; (try rfl)))
      iterate 4 (apply head_skip (by kernel_rfl))
      iterate 2 (apply head_still rfl; (intro W hW; go_simp; (try rfl)))
      iterate 8 (apply head_skip (by kernel_rfl))
      (apply head_still rfl; (intro W hW; go_simp; (try rfl)))
      refine head_nil ?_
      intro W hW _
      go_wp2_with fail
      go_ret
      exact ret_int HE.out.symm (hbw.trans (hW.mono (by omega)))
    case hB => kernel_rfl
    all_goals rfl
  · have HE := Lib.hid hE
    clear hE
    go_enter Tryd.func57, Tryd.ntmps57
    go_wp2_with fail
    have q := Blk.new w 23 #[.int .i64 n, .int .i64 d]
    have hbw := below_alloc w (.cells #[.int .i64 n, .int .i64 d] 23)
    generalize World.alloc w _ = w1 at q hbw ⊢
    have hlt := q.lt
    have c0 : ∀ W, Below w1.heap.size w1 W → W.cell? ⟨w.heap.size, 0, none⟩ = some (.int .i64 n) := fun W hW => (q.keep hW).cell rfl
    have c1 : ∀ W, Below w1.heap.size w1 W → W.cell? ⟨w.heap.size, 1, none⟩ = some (.int .i64 d) := fun W hW => (q.keep hW).cell rfl
    apply wp_region_head 24 27 (hm := by kernel_rfl) (hN := rfl)
    case h =>
      simp only [List.take_succ_cons, List.take_zero]
      iterate 4 (apply head_still rfl; (intro W hW; go_simp; (try rfl)))
      iterate 3 (apply head_still (by kernel_rfl); (intro W hW; go_simp; (try rfl)))
      iterate 2 (apply head_still rfl; (intro W hW; go_simp; (try rfl)))
      iterate 4 (apply head_skip (by kernel_rfl))
      iterate 2 (apply head_still rfl; (intro W hW; go_simp; (try rfl)))
      iterate 8 (apply head_skip (by kernel_rfl))
      (apply head_still rfl; (intro W hW; go_simp; (try rfl)))
      refine head_nil ?_
      intro W hW _
      go_wp2_with fail
      go_ret
      exact ret_int HE.out.symm (hbw.trans (hW.mono (by omega)))
    case hB => kernel_rfl
    all_goals rfl
  · have HE := Lib.hid hE
    clear hE
    go_enter Tryd.func57, Tryd.ntmps57
    go_wp2_with fail
    have q := Blk.new w 23 #[.int .i64 n, .int .i64 d]
    have hbw := below_alloc w (.cells #[.int .i64 n, .int .i64 d] 23)
    generalize World.alloc w _ = w1 at q hbw ⊢
    have hlt := q.lt
    have c0 : ∀ W, Below w1.heap.size w1 W → W.cell? ⟨w.heap.size, 0, none⟩ = some (.int .i64 n) := fun W hW => (q.keep hW).cell rfl
    have c1 : ∀ W, Below w1.heap.size w1 W → W.cell? ⟨w.heap.size, 1, none⟩ = some (.int .i64 d) := fun W hW => (q.keep hW).cell rfl
    apply wp_region_head 24 27 (hm := by kernel_rfl) (hN := rfl)
    case h =>
      simp only [List.take_succ_cons, List.take_zero]
      iterate 4 (apply head_still rfl; (intro W hW; go_simp; (try rfl)))
      iterate 3 (apply head_still (by kernel_rfl); (intro W hW; go_simp; (try rfl)))
      iterate 2 (apply head_still rfl; (intro W hW; go_simp; (try rfl)))
      iterate 2 (apply head_still (by kernel_rfl); (intro W hW; go_simp; (try rfl)))
      (apply head_call (by kernel_rfl); (intro W; go_simp; exact ⟨rfl, rfl⟩); (intro W hW; exact (size_any _ _ (by omega) (by omega)).mono fun e W' h => h.ret))
      (apply head_still (by kernel_rfl); (intro W hW; go_simp; (try rfl)))
      iterate 2 (apply head_still rfl; (intro W hW; go_simp; (try rfl)))
      iterate 8 (apply head_skip (by kernel_rfl))
      (apply head_still rfl; (intro W hW; go_simp; (try rfl)))
      refine head_nil ?_
      intro W hW _
      go_wp2_with fail
      go_ret
      exact ret_int HE.out.symm (hbw.trans (hW.mono (by omega)))
    case hB => kernel_rfl
    all_goals rfl
  · have HE := Lib.hid hE
    clear hE
    obtain ⟨D, rfl⟩ : ∃ D : Nat, d = D := ⟨d.toNat, by simp at d1; omega⟩
    have hD : IntKind.u64.wrap (D : Int) = D := by rw [IntKind.wrap_u64]; omega
    rw [Int.toNat_natCast] at d4
    go_enter Tryd.func57, Tryd.ntmps57
    go_wp2_with fail
    have q := Blk.new w 23 #[.int .i64 n, .int .i64 D]
    have hbw := below_alloc w (.cells #[.int .i64 n, .int .i64 D] 23)
    generalize World.alloc w _ = w1 at q hbw ⊢
    have hlt := q.lt
    have c0 : ∀ W, Below w1.heap.size w1 W → W.cell? ⟨w.heap.size, 0, none⟩ = some (.int .i64 n) := fun W hW => (q.keep hW).cell rfl
    have c1 : ∀ W, Below w1.heap.size w1 W → W.cell? ⟨w.heap.size, 1, none⟩ = some (.int .i64 D) := fun W hW => (q.keep hW).cell rfl
    apply wp_region_head 24 27 (hm := by kernel_rfl) (hN := rfl)
    case h =>
      simp only [List.take_succ_cons, List.take_zero]
      iterate 4 (apply head_still rfl; (intro W hW; go_simp; (try rfl)))
      iterate 3 (apply head_still (by kernel_rfl); (intro W hW; go_simp; (try rfl)))
      iterate 2 (apply head_still rfl; (intro W hW; go_simp; (try rfl)))
      iterate 2 (apply head_still (by kernel_rfl); (intro W hW; go_simp; (try rfl)))
      (apply head_call (by kernel_rfl); (intro W; go_simp; exact ⟨rfl, rfl⟩); (intro W hW; exact (size_any _ _ (by omega) (by omega)).mono fun e W' h => h.ret))
      (apply head_still (by kernel_rfl); (intro W hW; go_simp; (try rfl)))
      iterate 2 (apply head_still rfl; (intro W hW; go_simp; (try rfl)))
      iterate 2 (apply head_still (by kernel_rfl); (intro W hW; go_simp; (try rfl)))
      (apply head_call (by kernel_rfl); (intro W; go_simp; exact ⟨rfl, rfl⟩); (intro W hW; exact (size_any _ _ (by omega) (by omega)).mono fun e W' h => h.ret))
      iterate 3 (apply head_still (by kernel_rfl); (intro W hW; go_simp; (try rfl)))
      (apply head_call (by kernel_rfl); (intro W; go_simp; exact ⟨rfl, rfl⟩); (intro W hW; exact gcd_any _ _ _ (by omega) (by omega)))
      (apply head_still (by kernel_rfl); (intro W hW; go_simp; (try rfl)))
      (apply head_still rfl; (intro W hW; go_simp; (try rfl)))
      refine head_nil ?_
      intro W hW _
      go_wp2_with fail
      go_ret
      exact ret_int HE.out.symm (hbw.trans (hW.mono (by omega)))
    case hB => kernel_rfl
    all_goals rfl
  · have HE := Lib.hid hE
    clear hE
    obtain ⟨D, rfl⟩ : ∃ D : Nat, d = D := ⟨d.toNat, by simp at d1; omega⟩
    have hD : IntKind.u64.wrap (D : Int) = D := by rw [IntKind.wrap_u64]; omega
    rw [Int.toNat_natCast] at d4
    go_enter Tryd.func57, Tryd.ntmps57
    go_wp2_with fail
    have q := Blk.new w 23 #[.int .i64 n, .int .i64 D]
    have hbw := below_alloc w (.cells #[.int .i64 n, .int .i64 D] 23)
    generalize World.alloc w _ = w1 at q hbw ⊢
    have hlt := q.lt
    have c0 : ∀ W, Below w1.heap.size w1 W → W.cell? ⟨w.heap.size, 0, none⟩ = some (.int .i64 n) := fun W hW => (q.keep hW).cell rfl
    have c1 : ∀ W, Below w1.heap.size w1 W → W.cell? ⟨w.heap.size, 1, none⟩ = some (.int .i64 D) := fun W hW => (q.keep hW).cell rfl
    apply wp_region_head 24 27 (hm := by kernel_rfl) (hN := rfl)
    case h =>
      simp only [List.take_succ_cons, List.take_zero]
      iterate 4 (apply head_still rfl; (intro W hW; go_simp; (try rfl)))
      iterate 3 (apply head_still (by kernel_rfl); (intro W hW; go_simp; (try rfl)))
      iterate 2 (apply head_still rfl; (intro W hW; go_simp; (try rfl)))
      iterate 2 (apply head_still (by kernel_rfl); (intro W hW; go_simp; (try rfl)))
      (apply head_call (by kernel_rfl); (intro W; go_simp; exact ⟨rfl, rfl⟩); (intro W hW; exact (size_any _ _ (by omega) (by omega)).mono fun e W' h => h.ret))
      (apply head_still (by kernel_rfl); (intro W hW; go_simp; (try rfl)))
      iterate 2 (apply head_still rfl; (intro W hW; go_simp; (try rfl)))
      iterate 2 (apply head_still (by kernel_rfl); (intro W hW; go_simp; (try rfl)))
      (apply head_call (by kernel_rfl); (intro W; go_simp; exact ⟨rfl, rfl⟩); (intro W hW; exact (size_any _ _ (by omega) (by omega)).mono fun e W' h => h.ret))
      iterate 3 (apply head_still (by kernel_rfl); (intro W hW; go_simp; (try rfl)))
      (apply head_call (by kernel_rfl); (intro W; go_simp; exact ⟨rfl, rfl⟩); (intro W hW; exact gcd_any _ _ _ (by omega) (by omega)))
      (apply head_still (by kernel_rfl); (intro W hW; go_simp; (try rfl)))
      (apply head_still rfl; (intro W hW; go_simp; (try rfl)))
      refine head_nil ?_
      intro W hW _
      go_wp2_with fail
      go_ret
      exact ret_int HE.out.symm (hbw.trans (hW.mono (by omega)))
    case hB => kernel_rfl
    all_goals rfl

set_option maxHeartbeats 1000000 in
theorem refRatCheck_any (a : Rat2) (w : World) (hn : -9223372036854775808 ≤ a.n) (hn' : a.n ≤ 9223372036854775807) (hd : -9223372036854775808 ≤ a.d) (hd' : a.d ≤ 9223372036854775807) :
    Calls Tryd.prog 73 #[a.v] w (Ret w (.int .i64 (ratE a))) := by
  have key : (decide (a.d < 1) = true ∧ ratE a = 8) ∨ (decide (a.d < 1) = false ∧ decide (a.d > 1000000000) = true ∧ ratE a = 8) ∨
      (decide (a.d < 1) = false ∧ decide (a.d > 1000000000) = false ∧ decide (a.n < -1000000000) = true ∧ ratE a = 8) ∨
      (decide (a.d < 1) = false ∧ decide (a.d > 1000000000) = false ∧ decide (a.n < -1000000000) = false ∧ decide (a.n > 1000000000) = true ∧ ratE a = 8) ∨
      (decide (a.d < 1) = false ∧ decide (a.d > 1000000000) = false ∧ decide (a.n < -1000000000) = false ∧ decide (a.n > 1000000000) = false ∧ ((Int.gcd a.n a.d : Int) != 1) = true ∧ ratE a = 8) ∨
      (decide (a.d < 1) = false ∧ decide (a.d > 1000000000) = false ∧ decide (a.n < -1000000000) = false ∧ decide (a.n > 1000000000) = false ∧ ((Int.gcd a.n a.d : Int) != 1) = false ∧ ratE a = 0) := by
    by_cases h1 : a.d < 1
    · exact .inl ⟨by simpa using h1, ratE_bad (fun h => by have := h.1; omega)⟩
    have h1' : decide (a.d < 1) = false := by simpa using h1
    by_cases h2 : a.d > 1000000000
    · exact .inr (.inl ⟨h1', by simpa using h2, ratE_bad (fun h => by have := h.2.1; omega)⟩)
    have h2' : decide (a.d > 1000000000) = false := by simpa using h2
    by_cases h3 : a.n < -1000000000
    · exact .inr (.inr (.inl ⟨h1', h2', by simpa using h3, ratE_bad (fun h => by have := h.2.2; omega)⟩))
    have h3' : decide (a.n < -1000000000) = false := by simpa using h3
    by_cases h4 : a.n > 1000000000
    · exact .inr (.inr (.inr (.inl ⟨h1', h2', h3', by simpa using h4, ratE_bad (fun h => by have := h.2.2; omega)⟩)))
    have h4' : decide (a.n > 1000000000) = false := by simpa using h4
    by_cases h5 : Int.gcd a.n a.d = 1
    · exact .inr (.inr (.inr (.inr (.inr ⟨h1', h2', h3', h4', by simp; omega, ratE_ok ⟨by omega, by omega, by omega, by omega, h5⟩⟩))))
    · exact .inr (.inr (.inr (.inr (.inl ⟨h1', h2', h3', h4', by simp; omega, ratE_bad (fun h => h5 h.2.2.2.2)⟩))))
  obtain ⟨n, d⟩ := a
  simp only at hn hn' hd hd' key
  rcases key with ⟨d1, hE⟩ | ⟨d1, d2, hE⟩ | ⟨d1, d2, d3, hE⟩ | ⟨d1, d2, d3, d4, hE⟩ | ⟨d1, d2, d3, d4, d5, hE⟩ | ⟨d1, d2, d3, d4, d5, hE⟩
  all_goals
    have HE := Lib.hid hE
    clear hE
    go_enter Tryd.func73, Tryd.ntmps73
    go_wp2_with fail
    first
      | (go_ret; exact ret_int HE.out.symm (below_alloc w _))
      | (simp only [decide_eq_false_iff_not] at d1 d2 d3 d4
         refine (common_any _ _ _ (by omega) (by omega) (by omega) (by omega)).mono ?_
         rintro e w2 ⟨rfl, hb2⟩
         go_wp2_with fail
         go_ret
         exact ret_int HE.out.symm ((below_alloc w _).trans (hb2.mono (by simp))))
end Go.Proofs.YtjgampkpfjbmdaaDoor
end
