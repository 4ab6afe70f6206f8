/- The reference's Trace, for every field, point, head and number. -/
import Derived.Test.YtmomjjjfjjgepaaFieldC
namespace Go.Rel
open Go.RowKit
theorem traceIn_last {l : List Pull} {p : Pt} {h : Int} {k : Nat} (ht : traceIn l p h k = true) : inB (walkP l p h k).1.x (walkP l p h k).1.y = true :=
  List.all_eq_true.1 ht (walkP l p h k).1 (List.mem_map.2 ⟨k, by simp, rfl⟩)
theorem inB_64 {x y : Int} (h : inB x y = true) : (Pt.mk x y).In64 := by
  have := inB_iff.1 h
  unfold Pt.In64
  simp only
  omega
theorem stepP_64 {p : Pt} (h : inB p.x p.y = true) (d : Int) : (stepP p d).In64 := by
  have := inB_iff.1 h
  unfold Pt.In64 stepP
  (repeat' split) <;> simp only <;> omega
theorem stepP_near {p : Pt} (h : inB p.x p.y = true) (d : Int) : (-1000001 ≤ (stepP p d).x ∧ (stepP p d).x ≤ 1000001) ∧ (-1000001 ≤ (stepP p d).y ∧ (stepP p d).y ≤ 1000001) := by
  have := inB_iff.1 h
  unfold stepP
  (repeat' split) <;> simp only <;> omega
theorem Blk.grown {w w' : World} {g : Nat} {t : TypeId} {cs : Array Value} {row : Option Nat} (h : Blk w g t cs) (hg : w.grownBy w' row) (hne : some g ≠ row) : Blk w' g t cs :=
  (hg.block g h.lt hne).trans h
theorem Blk.setPt {w : World} {g : Nat} {t : TypeId} {x y : Value} (h : Blk w g t #[x, y]) (a b : Value) : Blk ((w.setCell ⟨g, 0, none⟩ a).setCell ⟨g, 1, none⟩ b) g t #[a, b] := by
  simpa using (h.set_ 0 a).set_ 1 b
theorem below_setPt {B : Nat} {w w' : World} {g : Nat} (h : Below B w w') (hg : B ≤ g) (a b : Value) : Below B w ((w'.setCell ⟨g, 0, none⟩ a).setCell ⟨g, 1, none⟩ b) :=
  (h.setCell (p := ⟨g, 0, none⟩) hg a).setCell (p := ⟨g, 1, none⟩) hg b
theorem cells_new_pt (w : World) (p : Pt) (t : TypeId) : ∀ (j : Nat) (u : Value), (Pt.cells p)[j]? = some u → (w.alloc (.cells #[.int .i64 p.x, .int .i64 p.y] t)).cell? ((⟨w.heap.size, 0, none⟩ : Addr).add j) = some u := by
  intro j u hj
  match j, hj with
  | 0, hj => simp [Pt.cells] at hj; subst hj; exact cell_new _ _ _ rfl
  | 1, hj => simp [Pt.cells] at hj; subst hj; exact cell_new _ _ _ rfl
theorem cells_one_pt (p : Pt) : ∀ u ∈ Pt.cells p, u.oneCell' = true := by
  intro u hu
  simp [Pt.cells] at hu
  rcases hu with rfl | rfl <;> rfl
end Go.Rel
namespace Go.Proofs.Ytmomjjjfjjgepaa
open Go.RowKit Go.Rel

theorem Try.infoPt : (Try.prog.info? 24).map (fun i => (i.zero, i.size, i.bytes)) = some (some (.agg #[.int .i64 0, .int .i64 0]), 2, 16) := by kernel_rfl

/-- What a trace gives: the points in new memory, and the error. -/
def TraceRet (l : List Pull) (p : Pt) (h s : Int) (v : Value) (w' : World) : Prop := ∃ A' cap', v = .tuple #[.slice A' (traceL l p h s).length cap', .int .i64 (traceE l p h s)] ∧ (traceL l p h s).length ≤ cap' ∧ Recs Pt.cells 2 w' w'.heap.size A' (traceL l p h s)

theorem trace_none {w w' : World} {l : List Pull} {p : Pt} {h s : Int} {e : Int} (h1 : traceE l p h s = e) (h2 : traceL l p h s = []) (hb : Below w.heap.size w w') : RetM w (TraceRet l p h s) (.returned (.tuple #[.slice none 0 0, .int .i64 e])) w' := by
  refine retM ?_ hb
  unfold TraceRet
  rw [h1, h2]
  exact ⟨none, 0, rfl, Nat.le_refl _, Recs.nil_⟩

set_option maxRecDepth 100000 in
set_option maxHeartbeats 4000000 in
theorem refTrace_ok (A : Option Addr) (n cap : Nat) (l : List Pull) (p : Pt) (h s : Int) (w : World) (hn : l.length = n) (hv : Recs Pull.cells 5 w w.heap.size A l) (h64 : ∀ u ∈ l, u.In64) (hf : Fine l) (ha : TraceArg p h s) (h0 : 0 ≤ h) :
    Calls Try.prog 11 #[.slice A n cap, p.v, .int .u8 h, .int .i64 s] w (RetM w (TraceRet l p h s)) := by
  obtain ⟨a1, a2, a3, a4⟩ := ha
  have HA := Lib.hid (show TraceArg p h s from ⟨a1, a2, a3, a4⟩)
  have HE := Lib.hid (fieldE_ok hf)
  have HF := Lib.hid hf
  have HN := Lib.hid hn
  obtain ⟨S, rfl⟩ := Int.eq_ofNat_of_zero_le a3
  obtain ⟨px1, px2, px3, px4⟩ := inB_iff.1 a1
  have HP := Lib.hid a1
  have hl : n ≤ 60 := by have := hf.1; omega
  have hS : S ≤ 500 := by omega
  have x1 := below_alloc w (.cells #[.int .i64 p.x, .int .i64 p.y] 24)
  have x3 := Blk.new w 24 #[.int .i64 p.x, .int .i64 p.y]
  have hx := Lib.hid (show _ ∧ _ from ⟨x1, x3⟩)
  have hin := in_any p
  obtain ⟨i0, hi, hz0, hz1, hz2⟩ := info_parts Try.infoPt
  have HI := Lib.hid (show _ ∧ _ ∧ _ ∧ _ from ⟨hi, hz0, hz1, hz2⟩)
  clear hn a1 x1 x3 hf hi hz0 hz1 hz2
  go_enter Try.func11, Try.ntmps11
  go_wp2_with fail
  obtain ⟨x1, x3⟩ := hx.out
  generalize World.alloc _ _ = w0 at x1 x3 ⊢
  refine (refCheck_any A n cap l _ HN.out (by omega) ((hv.below x1).more x1.size) h64).mono ?_
  rintro e w1 ⟨rfl, hb1⟩
  rw [HE.out]
  replace x1 := x1.trans (hb1.mono x1.size)
  replace x3 := x3.keep hb1
  have y0 := x3.cell (i := 0) rfl
  have y1 := x3.cell (i := 1) rfl
  clear hb1 hx
  go_wp2_with fail
  refine (hin _ (inB_64 HP.out)).mono ?_
  rintro e w2 ⟨rfl, hb1⟩
  simp only [HP.out]
  replace x1 := x1.trans (hb1.mono x1.size)
  replace x3 := x3.keep hb1
  clear y0 y1 hb1 hin
  have y0 := x3.cell (i := 0) rfl
  have y1 := x3.cell (i := 1) rfl
  have hsz := x3.lt
  go_wp2_with fail
  have o1 : (w2.alloc (.cells #[.int .i64 p.x, .int .i64 p.y] 24)).ownsRow (w.heap.size + 1) 24 2 (.slice (some ⟨w2.heap.size, 0, none⟩) 1 1) 1 ((ptsP l p h 0).flatMap Pt.cells) :=
    World.ownsRow_lit w2 #[.int .i64 p.x, .int .i64 p.y] 1 (by omega) (by unfold maxLen; omega) rfl
  replace x3 := x3.alloc (.cells #[.int .i64 p.x, .int .i64 p.y] 24)
  replace x1 := x1.trans ((below_alloc w2 (.cells #[.int .i64 p.x, .int .i64 p.y] 24)).mono x1.size)
  have HX := Lib.hid (show _ ∧ _ ∧ _ from ⟨o1, x3, x1⟩)
  clear o1 x3 x1 y0 y1 hsz
  have ht0 : traceIn l p h 0 = true := by simp [traceIn, ptsP_zero, ptIn, HP.out]
  have HT0 := Lib.hid ht0
  clear ht0
  go_loopw [2, 10, 11] (fun d v i wr => ∃ k : Nat, k ≤ S ∧ i = .int .i64 k ∧ d = .int .u8 (walkP l p h k).2 ∧ wr.ownsRow (w.heap.size + 1) 24 2 v (k + 1) ((ptsP l p h k).flatMap Pt.cells) ∧ traceIn l p h k = true ∧
    Blk wr w.heap.size 24 #[.int .i64 (walkP l p h k).1.x, .int .i64 (walkP l p h k).1.y] ∧ Below w.heap.size w wr) (fun _ _ i _ => S - (intOf i).toNat)
  case atStart => exact ⟨0, Nat.zero_le _, rfl, rfl, HX.out.1, HT0.out, HX.out.2.1, HX.out.2.2⟩
  case round =>
    obtain ⟨k, hk, rfl, rfl, hown, ht, hblk, hb⟩ := hrel
    clear HX HT0
    have HT := Lib.hid ht
    obtain ⟨d1, d2⟩ := walkP_head l p h0 a2 k
    by_cases hlt : k < S
    · have hq := traceIn_last ht
      have hwalk : walkP l p h (k + 1) = (stepP (walkP l p h k).1 (headP (axisP (valueP l (walkP l p h k).1)) (walkP l p h k).2), headP (axisP (valueP l (walkP l p h k).1)) (walkP l p h k).2) := rfl
      have hpts := ptsP_succ l p h k
      have htr := traceIn_succ l p h k
      obtain ⟨q, hqd⟩ : ∃ q, (walkP l p h k).1 = q := ⟨_, rfl⟩
      obtain ⟨d, hdd⟩ : ∃ d, (walkP l p h k).2 = d := ⟨_, rfl⟩
      rw [hqd, hdd] at hwalk
      rw [hqd] at hq hblk
      rw [hdd] at d1 d2 ⊢
      have hh := headP_bound (a := axisP (valueP l q)) d1 d2
      have hhead := fun w hv => headed_any A n cap l q d w HN.out hv HF.out hq d1 d2
      obtain ⟨d', hd'⟩ : ∃ d', headP (axisP (valueP l q)) d = d' := ⟨_, rfl⟩
      rw [hd'] at hwalk hh hhead
      obtain ⟨e1, e2⟩ := hh
      have hahead := fun w => ahead_any q d' w hq e1 e2
      have hnear := stepP_near hq d'
      have h64' := stepP_64 hq d'
      obtain ⟨q', hq'⟩ : ∃ q', stepP q d' = q' := ⟨_, rfl⟩
      rw [hq'] at hwalk hahead h64' hnear
      rw [hwalk] at hpts htr
      simp only at hpts htr
      have hin := fun w => in_any q' w h64'
      have HW := Lib.hid hwalk
      have HPT := Lib.hid hpts
      have HTR := Lib.hid htr
      have z0 := hblk.cell (i := 0) rfl
      have z1 := hblk.cell (i := 1) rfl
      have hsz := hblk.lt
      clear ht hwalk hpts htr hqd hdd hd' hq' hq HP a2 h64 h64'
      go_wp2_with fail
      refine (hhead _ ((hv.below hb).more hb.size)).mono ?_
      rintro e w3 ⟨rfl, hb1⟩
      replace hb := hb.trans (hb1.mono hb.size)
      replace hblk := hblk.keep hb1
      replace hown := ownsRow_below hown hb1
      clear z0 z1 hb1 hhead
      have z0 := hblk.cell (i := 0) rfl
      have z1 := hblk.cell (i := 1) rfl
      go_wp2_with fail
      refine (hahead _).mono ?_
      rintro e w4 ⟨rfl, hb1⟩
      replace hb := hb.trans (hb1.mono hb.size)
      replace hblk := hblk.keep hb1
      replace hown := ownsRow_below hown hb1
      clear z0 z1 hb1 hahead
      have n1 := Lib.hid (hblk.setPt (.int .i64 q'.x) (.int .i64 q'.y))
      have n2 := Lib.hid (below_setPt hb (Nat.le_refl _) (.int .i64 q'.x) (.int .i64 q'.y))
      have n3 := Lib.hid (ownsRow_setCell_below (ownsRow_setCell_below hown (a := ⟨w.heap.size, 0, none⟩) (by simp) (.int .i64 q'.x)) (a := ⟨w.heap.size, 1, none⟩) (by simp) (.int .i64 q'.y))
      have z0 := hblk.cell (i := 0) rfl
      have z1 := hblk.cell (i := 1) rfl
      have zf := hblk.frozen
      have zl := hblk.lt
      clear hsz hv
      go_wp2_with fail
      clear z0 z1 zf zl
      replace hblk := n1.out
      replace hb := n2.out
      replace hown := n3.out
      clear n1 n2 n3
      generalize World.setCell _ _ _ = w5 at hblk hb hown ⊢
      refine (hin _).mono ?_
      rintro e w6 ⟨rfl, hb1⟩
      replace hb := hb.trans (hb1.mono hb.size)
      replace hblk := hblk.keep hb1
      replace hown := ownsRow_below hown hb1
      clear hb1 hin
      have z0 := hblk.cell (i := 0) rfl
      have z1 := hblk.cell (i := 1) rfl
      have zl := hblk.lt
      cases hi : inB q'.x q'.y with
      | false =>
        have HO := Lib.hid (traceE_out HE.out HA.out (traceIn_no (l := l) (p := p) (h := h) (k := k + 1) (by rw [HW.out]; exact hi) (by simp; omega)))
        clear hi
        go_wp2_with fail
        go_ret2
        exact trace_none HO.out.1 HO.out.2 hb
      | true =>
        have HTI := Lib.hid (show traceIn l p h (k + 1) = true by rw [HTR.out, HT.out]; simpa [ptIn] using hi)
        clear hi
        obtain ⟨hi, hz0, hz1, hz2⟩ := HI.out
        have hb5 := hb.size
        go_wp2_with (at_builtin; refine wpList_append_own _ rfl _ _ 25 rfl (w.heap.size + 1) 24 i0 (.agg #[.int .i64 0, .int .i64 0]) 2 16 Try.underlying25 hi hz0 hz1 hz2 rfl (by decide) _ _ _ rfl (hown.alloc _) ⟨w6.heap.size, 0, none⟩ 1 1 (Pt.cells q') rfl rfl ?c1 ?c2 ?c3 ?c4 ?c5 ?_)
        case c1 => exact cells_new_pt w6 q' _
        case c2 => exact cells_one_pt q'
        case c3 => unfold maxLen; omega
        case c4 => omega
        case c5 => simp; omega
        intro v' w7 hown3 hgrow _
        rw [← flat_one, ← HPT.out] at hown3
        have hb6 := (hb.trans ((below_alloc w6 _).mono hb.size)).grown hgrow (by simp; omega) (fun r hr => by have := (hown.lt r hr).1; omega)
        have hblk7 := (hblk.alloc (.cells #[.int .i64 q'.x, .int .i64 q'.y] 24)).grown hgrow (fun e => by have := (hown.lt _ e.symm).1; omega)
        have HO := Lib.hid (show _ ∧ _ ∧ _ from ⟨hown3, hb6, hblk7⟩)
        clear hown3 hgrow hown hb hb6 hblk hblk7 z0 z1 zl hi hz0 hz1 hz2
        go_wp2
        go_roundw
        case rel => exact ⟨k + 1, by omega, by go_num, by rw [HW.out], HO.out.1, HTI.out, by rw [HW.out]; exact HO.out.2.2, HO.out.2.1⟩
        case measure => simp [intOf]; omega
    · obtain rfl : k = S := by omega
      have HO := Lib.hid (traceE_ok (l := l) (p := p) (h := h) (s := (k : Int)) HE.out HA.out (by simpa using HT.out))
      obtain ⟨A', cap', rfl, hcap, hvs⟩ := Recs.of_own Pt.cells_len (ptsP_length l p h k) hown
      have HVS := Lib.hid (show _ ∧ _ from ⟨hcap, hvs⟩)
      clear hown hvs hv hcap ht
      go_wp2_with fail
      go_ret2
      refine retM ?_ hb
      unfold TraceRet
      rw [HO.out.1, HO.out.2, Int.toNat_natCast, ptsP_length]
      exact ⟨A', cap', rfl, HVS.out.1, HVS.out.2⟩

/-- Why the arguments of a trace are refused: the first reason. -/
theorem arg_bad {p : Pt} {h s : Int} (hn : ¬ TraceArg p h s) : inB p.x p.y = false ∨ (inB p.x p.y = true ∧ 3 < h) ∨ (inB p.x p.y = true ∧ h ≤ 3 ∧ s < 0) ∨ (inB p.x p.y = true ∧ h ≤ 3 ∧ 0 ≤ s ∧ 500 < s) := by
  unfold TraceArg at hn
  cases hi : inB p.x p.y with
  | false => exact .inl rfl
  | true => simp only [hi, true_and] at hn; simp only [true_and]; omega

set_option maxRecDepth 100000 in
set_option maxHeartbeats 2000000 in
theorem refTrace_field (A : Option Addr) (n cap : Nat) (l : List Pull) (p : Pt) (h s : Int) (w : World) (hn : l.length = n) (hl : n ≤ 4611686018427387904) (hv : Recs Pull.cells 5 w w.heap.size A l) (h64 : ∀ u ∈ l, u.In64) (hf : fieldE l = 4 ∨ fieldE l = 8) :
    Calls Try.prog 11 #[.slice A n cap, p.v, .int .u8 h, .int .i64 s] w (RetM w (TraceRet l p h s)) := by
  have HN := Lib.hid hn
  have x1 := Lib.hid (below_alloc w (.cells #[.int .i64 p.x, .int .i64 p.y] 24))
  have HO := Lib.hid (traceE_field (l := l) (p := p) (h := h) (s := s) (by omega))
  have c1 := fun w hv => refCheck_any A n cap l w hn hl hv h64
  clear hn
  rcases hf with hf | hf
  all_goals
    have HF := Lib.hid hf
    rw [hf] at c1
    clear hf
    go_enter Try.func11, Try.ntmps11
    go_wp2_with fail
    replace x1 := x1.out
    generalize World.alloc _ _ = w0 at x1 ⊢
    refine (c1 _ ((hv.below x1).more x1.size)).mono ?_
    rintro e w1 ⟨rfl, hb1⟩
    replace x1 := x1.trans (hb1.mono x1.size)
    clear hb1
    go_wp2_with fail
    refine (c1 _ ((hv.below x1).more x1.size)).mono ?_
    rintro e w2 ⟨rfl, hb1⟩
    replace x1 := x1.trans (hb1.mono x1.size)
    clear hb1 hv c1
    go_wp2_with fail
    go_ret2
    exact trace_none (HO.out.1.trans HF.out) HO.out.2 x1

set_option maxRecDepth 100000 in
set_option maxHeartbeats 2000000 in
theorem refTrace_arg (A : Option Addr) (n cap : Nat) (l : List Pull) (p : Pt) (h s : Int) (w : World) (hn : l.length = n) (hv : Recs Pull.cells 5 w w.heap.size A l) (h64 : ∀ u ∈ l, u.In64) (hf : Fine l) (hp : p.In64) (ha : ¬ TraceArg p h s) :
    Calls Try.prog 11 #[.slice A n cap, p.v, .int .u8 h, .int .i64 s] w (RetM w (TraceRet l p h s)) := by
  have HO := Lib.hid (traceE_arg (fieldE_ok hf) ha)
  have c1 := fun w hv => refCheck_any A n cap l w hn (by have := hf.1; omega) hv h64
  rw [fieldE_ok hf] at c1
  have c2 := fun w => in_any p w hp
  have x1 := below_alloc w (.cells #[.int .i64 p.x, .int .i64 p.y] 24)
  have x3 := Blk.new w 24 #[.int .i64 p.x, .int .i64 p.y]
  have hx := Lib.hid (show _ ∧ _ from ⟨x1, x3⟩)
  have hbad := arg_bad ha
  clear hn hf ha x1 x3 hp
  rcases hbad with h1 | ⟨h1, h2⟩ | ⟨h1, h2, h3⟩ | ⟨h1, h2, h3, h4⟩
  all_goals
    rw [h1] at c2
    clear h1
    go_enter Try.func11, Try.ntmps11
    go_wp2_with fail
    obtain ⟨x1, x3⟩ := hx.out
    generalize World.alloc _ _ = w0 at x1 x3 ⊢
    refine (c1 _ ((hv.below x1).more x1.size)).mono ?_
    rintro e w1 ⟨rfl, hb1⟩
    replace x1 := x1.trans (hb1.mono x1.size)
    replace x3 := x3.keep hb1
    have y0 := x3.cell (i := 0) rfl
    have y1 := x3.cell (i := 1) rfl
    clear hb1 hx
    go_wp2_with fail
    refine (c2 _).mono ?_
    rintro e w2 ⟨rfl, hb1⟩
    replace x1 := x1.trans (hb1.mono x1.size)
    clear hb1 hv c1 c2 y0 y1 x3
    go_wp2_with fail
    go_ret2
    exact trace_none HO.out.1 HO.out.2 x1

theorem refTrace_any (A : Option Addr) (n cap : Nat) (l : List Pull) (p : Pt) (h s : Int) (w : World) (hn : l.length = n) (hl : n ≤ 4611686018427387904) (hv : Recs Pull.cells 5 w w.heap.size A l) (h64 : ∀ u ∈ l, u.In64) (hp : p.In64) (h0 : 0 ≤ h) :
    Calls Try.prog 11 #[.slice A n cap, p.v, .int .u8 h, .int .i64 s] w (RetM w (TraceRet l p h s)) := by
  rcases fieldE_cases l with ⟨hf, -⟩ | ⟨-, hf⟩
  · by_cases ha : TraceArg p h s
    · exact refTrace_ok A n cap l p h s w hn hv h64 hf ha h0
    · exact refTrace_arg A n cap l p h s w hn hv h64 hf hp ha
  · exact refTrace_field A n cap l p h s w hn hl hv h64 hf
end Go.Proofs.Ytmomjjjfjjgepaa
