/- The law 'FieldNames': the chapter's examples. -/
import Derived.Test.YtmomjjjfjjgepaaFieldL
import Derived.Test.YtmomjjjfjjgepaaFieldM
import Derived.Test.YtmomjjjfjjgepaaFieldRow
namespace Go.Proofs.Ytmomjjjfjjgepaa
open Go.RowKit Go.Rel

theorem one_cell : ∀ u : Pull, ∀ x ∈ u.cells, x.oneCell' = true := by
  intro u x hx
  simp only [Pull.cells, List.mem_cons, List.not_mem_nil, or_false] at hx
  rcases hx with rfl | rfl | rfl | rfl | rfl <;> rfl

theorem wpList_append_own_g {P : Program} {w : World} {ops : Array Oper} {rest : List Oper} {o : Oper} {a : Act} {Q : Exit → Act → World → Prop} (hw : Region.wanted o (yielded ops a.tmps) = true) (s x : Operand) (t : TypeId)
    (ho : o.op = .call { callee := .builtin .append, args := #[s, x], argTypes := #[t, t] })
    (base : Nat) (e : TypeId) (i : TypeInfo) (z : Value) (size bytes : Nat) (ht : P.underlying t = some (.slice e)) (hi : P.info? e = some i) (hz : i.zero = some z)
    (hsize : i.size = size) (hby : i.bytes = bytes) (hzs : z.cells.size = size) (hsz : 0 < size)
    (v : Value) (n : Nat) (xs : List Value) (hs : a.eval s = v) (hown : w.ownsRow base e size v n xs)
    (ad : Addr) (m c : Nat) (news : List Value) (hx : a.eval x = .slice (some ad) m c) (hl : news.length = m * size) (hnews : ∀ j u, news[j]? = some u → w.cell? (ad.add j) = some u) (h1 : ∀ u ∈ news, u.oneCell' = true)
    (h63 : n + m ≤ maxLen) (hbytes : (n + m) * bytes ≤ 140737488355328) (hbase : base ≤ w.heap.size)
    (h : ∀ v' w', w'.ownsRow base e size v' (n + m) (xs ++ news) → w.grownBy w' v.ownBlock → wpList P ops Q rest (a.put o.dst v') w') : wpList P ops Q (o :: rest) a w :=
  wpList_step fun K hK => by
    rw [if_pos hw]
    exact wp_append_own w s x t ho base e i z size bytes ht hi hz hsize hby hzs hsz v n xs hs hown ad m c news hx hl hnews h1 h63 hbytes hbase fun v' w' h2 h3 _ => hK _ _ (h v' w' h2 h3)
theorem cells_at {w : World} {g : Nat} {t : TypeId} {u : Pull} (h : Blk w g t #[.int .i64 u.x, .int .i64 u.y, .int .u8 u.kind, .int .i64 u.weight, .int .i64 u.reach]) : ∀ j x, u.cells[j]? = some x → w.cell? ((⟨g, 0, none⟩ : Addr).add j) = some x := by
  intro j x hj
  match j, hj with
  | 0, hj => simp [Pull.cells] at hj; subst hj; exact h.cell rfl
  | 1, hj => simp [Pull.cells] at hj; subst hj; exact h.cell rfl
  | 2, hj => simp [Pull.cells] at hj; subst hj; exact h.cell rfl
  | 3, hj => simp [Pull.cells] at hj; subst hj; exact h.cell rfl
  | 4, hj => simp [Pull.cells] at hj; subst hj; exact h.cell rfl

theorem check_big (A : Option Addr) (n cap : Nat) (w : World) (hbig : 60 < n) (hl : n ≤ 9223372036854775807) :
    Calls Try.prog 19 #[.slice A n cap] w (Ret w (.int .i64 4)) := by
  go_enter Try.func19, Try.ntmps19
  go_wp2_with fail
  go_ret
  exact ret_int rfl (Below.refl _ _)

set_option maxHeartbeats 1000000 in
theorem func5_any (g : Nat) (us : Nat → Pull) (ad : Nat → Nat) (w : World) (hg : g < w.heap.size) (hc : ∀ i, i < 5 → w.cell? ⟨g, i, none⟩ = some (.slice (some ⟨ad i, 0, none⟩) 1 1)) (hr : ∀ i, i < 5 → Recs Pull.cells 5 w w.heap.size (some ⟨ad i, 0, none⟩) [us i]) (h64 : ∀ i, i < 5 → (us i).In64) (hE : ∀ i, i < 5 → fieldE [us i] = 8) :
    Calls Try.prog 26 #[.slice (some ⟨g, 0, none⟩) 5 5] w (Ret w (.bool true)) := by
  have c1 : ∀ i, i < 5 → ∀ W, Below w.heap.size w W → Calls Try.prog 19 #[.slice (some ⟨ad i, 0, none⟩) 1 1] W (Ret W (.int .i64 8)) := fun i hi W hW => by
    have := check_any (some ⟨ad i, 0, none⟩) 1 1 [us i] W rfl (by omega) (((hr i hi).below hW).more hW.size) (fun u hu => by simp at hu; subst hu; exact h64 i hi)
    rwa [hE i hi] at this
  clear hr h64 hE
  go_enter Try.func26, Try.ntmps26
  go_wp2_with fail
  go_loopw [3] (fun i wr => ∃ k : Nat, k ≤ 5 ∧ i = .int .i64 k ∧ Below w.heap.size w wr) (fun i _ => 5 - (intOf i).toNat)
  case atStart => exact ⟨0, by omega, rfl, Below.refl _ _⟩
  case round =>
    obtain ⟨k, hk, rfl, hb⟩ := hrel
    by_cases hlt : k < 5
    · have c2 := c1 k hlt wr hb
      have hcell : wr.cell? ⟨g, k, none⟩ = some (.slice (some ⟨ad k, 0, none⟩) 1 1) := (hb.cell (p := ⟨g, k, none⟩) hg).trans (hc k hlt)
      have hk1 : (k : Int) < 5 := by omega
      have hk0 : (0 : Int) ≤ k := by omega
      clear c1 hc
      go_wp2_with fail
      refine c2.mono ?_
      rintro e w1 ⟨rfl, hb1⟩
      replace hb := hb.trans (hb1.mono hb.size)
      clear hb1 c2 hcell
      go_wp2_with fail
      go_roundw
      case rel => exact ⟨k + 1, by omega, by go_num, hb⟩
      case measure => simp [intOf]; omega
    · obtain rfl : k = 5 := by omega
      clear c1 hc
      go_wp2_with fail
      go_ret
      exact ret_bool rfl hb

def fpO : Pull := ⟨0, 0, 4, 1, 4⟩
theorem fpO_64 : ∀ u ∈ [fpO], u.In64 := by intro u hu; simp at hu; subst hu; simp [Pull.In64, fpO]
def fpX : Pull := ⟨1, 0, 1, 1, 0⟩
theorem fpX_64 : ∀ u ∈ [fpX], u.In64 := by intro u hu; simp at hu; subst hu; simp [Pull.In64, fpX]
def fpY : Pull := ⟨2, 0, 2, 1, 1⟩
theorem fpY_64 : ∀ u ∈ [fpY], u.In64 := by intro u hu; simp at hu; subst hu; simp [Pull.In64, fpY]
def fpA : Pull := ⟨0, 0, 0, 1, 1⟩
theorem fpA_64 : ∀ u ∈ [fpA], u.In64 := by intro u hu; simp at hu; subst hu; simp [Pull.In64, fpA]
def fpB : Pull := ⟨0, 0, 5, 1, 1⟩
theorem fpB_64 : ∀ u ∈ [fpB], u.In64 := by intro u hu; simp at hu; subst hu; simp [Pull.In64, fpB]
def fpC : Pull := ⟨1000001, 0, 1, 1, 1⟩
theorem fpC_64 : ∀ u ∈ [fpC], u.In64 := by intro u hu; simp at hu; subst hu; simp [Pull.In64, fpC]
def fpD : Pull := ⟨0, 0, 1, 1, -1⟩
theorem fpD_64 : ∀ u ∈ [fpD], u.In64 := by intro u hu; simp at hu; subst hu; simp [Pull.In64, fpD]
def fpE : Pull := ⟨0, 0, 1, 1, 1000001⟩
theorem fpE_64 : ∀ u ∈ [fpE], u.In64 := by intro u hu; simp at hu; subst hu; simp [Pull.In64, fpE]
def fpH : Pull := ⟨0, 0, 1, 1, 1⟩
theorem fpH_64 : ∀ u ∈ [fpH], u.In64 := by intro u hu; simp at hu; subst hu; simp [Pull.In64, fpH]
def fpL : Pull := ⟨0, 0, 1, 1, 1⟩
theorem fpL_64 : ∀ u ∈ [fpL], u.In64 := by intro u hu; simp at hu; subst hu; simp [Pull.In64, fpL]
def fpHH : Pull := ⟨0, 0, 1, 1000001, 1⟩
theorem fpHH_64 : ∀ u ∈ [fpHH], u.In64 := by intro u hu; simp at hu; subst hu; simp [Pull.In64, fpHH]
def fpLL : Pull := ⟨0, 0, 1, 0, 1⟩
theorem fpLL_64 : ∀ u ∈ [fpLL], u.In64 := by intro u hu; simp at hu; subst hu; simp [Pull.In64, fpLL]
def fpG : Pull := ⟨1000000, 1000000, 1, 1000000, 1000000⟩
theorem fpG_64 : ∀ u ∈ [fpG], u.In64 := by intro u hu; simp at hu; subst hu; simp [Pull.In64, fpG]

set_option maxRecDepth 100000 in
set_option maxHeartbeats 8000000 in
theorem names_walk (w : World) : Calls Try.prog 8 #[] w (Ret w (.bool true)) := by
  have hb := Below.refl w.heap.size w
  have vnil : ∀ W : World, Recs Pull.cells 5 W W.heap.size none [] := fun _ => Recs.nil_
  have n64 : ∀ u ∈ ([] : List Pull), u.In64 := fun u hu => by simp at hu
  have hi := Lib.hid (info_parts Try.infoPull)
  have hmk0 : ∃ CS, ∀ W : World, (Instr.makeSlice 22 (.int .i64 61) (.int .i64 61)).run Try.prog W = .ok (.slice (some ⟨W.heap.size, 0, none⟩) 61 61) (W.alloc (.cells CS 52)) := by
    obtain ⟨i0, hi0, hz0, hz1, hz2⟩ := hi.out
    exact ⟨_, fun W => run_makeSlice W 22 52 i0 _ Try.underlying22 hi0 hz0 .i64 .i64 61 61 (by omega) (by omega) (by rw [hz1]; decide) (by rw [hz2]; decide) (by omega)⟩
  obtain ⟨CS, hmk0⟩ := hmk0
  have HMK := Lib.hid hmk0
  clear hmk0
  go_enter Try.func8, Try.ntmps8
  go_wp2_with fail
  refine (pull_call _ _ _ _).mono ?_
  rintro e w' ⟨rfl, rfl⟩
  have kO : Blk _ _ _ #[.int .i64 0, .int .i64 0, .int .u8 4, .int .i64 1, .int .i64 4] := Blk.new w 52 #[.int .i64 0, .int .i64 0, .int .u8 4, .int .i64 1, .int .i64 4]
  have hgO : w.heap.size ≤ w.heap.size := hb.size
  replace hb := hb.trans ((below_alloc w (.cells #[.int .i64 0, .int .i64 0, .int .u8 4, .int .i64 1, .int .i64 4] 52)).mono hb.size)
  have K := Lib.hid (show _ ∧ _ ∧ _ from ⟨kO, hgO, hb⟩)
  clear kO hgO hb
  go_wp2_with fail
  obtain ⟨kO, hgO, hb⟩ := K.out
  clear K
  generalize World.alloc w _ = w1 at kO hb ⊢
  generalize w.heap.size = gO at kO hgO ⊢
  refine (pull_call _ _ _ _).mono ?_
  rintro e w' ⟨rfl, rfl⟩
  have kX : Blk _ _ _ #[.int .i64 1, .int .i64 0, .int .u8 1, .int .i64 1, .int .i64 0] := Blk.new w1 52 #[.int .i64 1, .int .i64 0, .int .u8 1, .int .i64 1, .int .i64 0]
  replace kO := kO.alloc (.cells #[.int .i64 1, .int .i64 0, .int .u8 1, .int .i64 1, .int .i64 0] 52)
  have hgX : w.heap.size ≤ w1.heap.size := hb.size
  replace hb := hb.trans ((below_alloc w1 (.cells #[.int .i64 1, .int .i64 0, .int .u8 1, .int .i64 1, .int .i64 0] 52)).mono hb.size)
  have K := Lib.hid (show _ ∧ _ ∧ _ ∧ _ from ⟨kO, kX, hgX, hb⟩)
  clear kO kX hgX hb
  go_wp2_with fail
  obtain ⟨kO, kX, hgX, hb⟩ := K.out
  clear K
  generalize World.alloc w1 _ = w2 at kO kX hb ⊢
  generalize w1.heap.size = gX at kO kX hgX ⊢
  refine (at_any (some ⟨gO, 0, none⟩) 1 1 [fpO] 4 0 1 0 _ rfl (by omega) (recs_one (u := fpO) kO) fpO_64 (by simp [Pt.In64]) (by decide +kernel) (by decide +kernel) (by decide +kernel)).mono ?_
  rintro e w3 ⟨rfl, hb1⟩
  replace hb := hb.trans (hb1.mono hb.size)
  replace kO := kO.keep hb1
  replace kX := kX.keep hb1
  clear hb1
  go_wp2_with fail
  refine (at_any (some ⟨gO, 0, none⟩) 1 1 [fpO] 0 (-4) (-1) 1 _ rfl (by omega) (recs_one (u := fpO) kO) fpO_64 (by simp [Pt.In64]) (by decide +kernel) (by decide +kernel) (by decide +kernel)).mono ?_
  rintro e w4 ⟨rfl, hb1⟩
  replace hb := hb.trans (hb1.mono hb.size)
  replace kO := kO.keep hb1
  replace kX := kX.keep hb1
  clear hb1
  go_wp2_with fail
  refine (at_any (some ⟨gO, 0, none⟩) 1 1 [fpO] 0 0 0 2 _ rfl (by omega) (recs_one (u := fpO) kO) fpO_64 (by simp [Pt.In64]) (by decide +kernel) (by decide +kernel) (by decide +kernel)).mono ?_
  rintro e w5 ⟨rfl, hb1⟩
  replace hb := hb.trans (hb1.mono hb.size)
  replace kO := kO.keep hb1
  replace kX := kX.keep hb1
  clear hb1
  go_wp2_with fail
  refine (at_any (some ⟨gO, 0, none⟩) 1 1 [fpO] 5 0 0 2 _ rfl (by omega) (recs_one (u := fpO) kO) fpO_64 (by simp [Pt.In64]) (by decide +kernel) (by decide +kernel) (by decide +kernel)).mono ?_
  rintro e w6 ⟨rfl, hb1⟩
  replace hb := hb.trans (hb1.mono hb.size)
  replace kO := kO.keep hb1
  replace kX := kX.keep hb1
  clear hb1
  go_wp2_with fail
  refine (at_any (some ⟨gX, 0, none⟩) 1 1 [fpX] 1 0 1 0 _ rfl (by omega) (recs_one (u := fpX) kX) fpX_64 (by simp [Pt.In64]) (by decide +kernel) (by decide +kernel) (by decide +kernel)).mono ?_
  rintro e w7 ⟨rfl, hb1⟩
  replace hb := hb.trans (hb1.mono hb.size)
  replace kO := kO.keep hb1
  replace kX := kX.keep hb1
  clear hb1
  go_wp2_with fail
  refine (at_any (some ⟨gX, 0, none⟩) 1 1 [fpX] 2 0 0 2 _ rfl (by omega) (recs_one (u := fpX) kX) fpX_64 (by simp [Pt.In64]) (by decide +kernel) (by decide +kernel) (by decide +kernel)).mono ?_
  rintro e w8 ⟨rfl, hb1⟩
  replace hb := hb.trans (hb1.mono hb.size)
  replace kO := kO.keep hb1
  replace kX := kX.keep hb1
  clear hb1
  go_wp2_with fail
  refine (pull_call _ _ _ _).mono ?_
  rintro e w' ⟨rfl, rfl⟩
  have kY : Blk _ _ _ #[.int .i64 2, .int .i64 0, .int .u8 2, .int .i64 1, .int .i64 1] := Blk.new w8 52 #[.int .i64 2, .int .i64 0, .int .u8 2, .int .i64 1, .int .i64 1]
  replace kX := kX.alloc (.cells #[.int .i64 2, .int .i64 0, .int .u8 2, .int .i64 1, .int .i64 1] 52)
  have hbY := hb.trans ((below_alloc w8 (.cells #[.int .i64 2, .int .i64 0, .int .u8 2, .int .i64 1, .int .i64 1] 52)).mono hb.size)
  have hownX : (w8.alloc (.cells #[.int .i64 2, .int .i64 0, .int .u8 2, .int .i64 1, .int .i64 1] 52)).ownsRow w.heap.size 52 5 (.slice (some ⟨gX, 0, none⟩) 1 1) 1 (Pull.cells fpX) := ⟨rfl, .inr ⟨gX, 1, _, rfl, hgX, kX, by omega, by unfold maxLen; omega, rfl, rfl⟩⟩
  have hnews := cells_at (u := fpY) kY
  obtain ⟨i0, hi0, hz0, hz1, hz2⟩ := hi.out
  clear hi hb kO kX hgO
  go_wp2_with (at_builtin; refine wpList_append_own_g (by first | rfl | kernel_rfl) _ _ 22 rfl w.heap.size 52 i0 (.agg #[.int .i64 0, .int .i64 0, .int .u8 0, .int .i64 0, .int .i64 0]) 5 40 Try.underlying22 hi0 hz0 hz1 hz2 rfl (by decide) _ 1 _ rfl hownX ⟨_, 0, none⟩ 1 1 (Pull.cells fpY) rfl rfl hnews (one_cell fpY) (by unfold maxLen; omega) (by omega) hbY.size ?_)
  intro v' w9 hown hgrow
  have hb := hbY.grown hgrow hbY.size (fun r hr => (hownX.lt r hr).1)
  obtain ⟨E, e1, rfl, -, hxy⟩ := Recs.of_own Pull.cells_len (l := [fpX, fpY]) rfl hown
  clear hown hgrow hownX hnews hbY kY hgX hi0 hz0 hz1 hz2
  go_wp2_with fail
  refine (at_any E 2 _ [fpX, fpY] 1 0 0 2 _ rfl (by omega) hxy (by intro u hu; simp at hu; rcases hu with rfl | rfl <;> simp [Pull.In64, fpX, fpY]) (by simp [Pt.In64]) (by decide +kernel) (by decide +kernel) (by decide +kernel)).mono ?_
  rintro e w10 ⟨rfl, hb1⟩
  replace hb := hb.trans (hb1.mono hb.size)
  clear hb1
  go_wp2_with fail
  clear hxy
  refine (at_any none 0 0 [] 7 7 0 2 _ rfl (by omega) (vnil _) n64 (by simp [Pt.In64]) (by decide +kernel) (by decide +kernel) (by decide +kernel)).mono ?_
  rintro e w11 ⟨rfl, hb1⟩
  replace hb := hb.trans (hb1.mono hb.size)
  clear hb1
  go_wp2_with fail
  refine (pull_call _ _ _ _).mono ?_
  rintro e w' ⟨rfl, rfl⟩
  have kA : Blk _ _ _ #[.int .i64 0, .int .i64 0, .int .u8 0, .int .i64 1, .int .i64 1] := Blk.new w11 52 #[.int .i64 0, .int .i64 0, .int .u8 0, .int .i64 1, .int .i64 1]
  have hgA : w.heap.size ≤ w11.heap.size := hb.size
  replace hb := hb.trans ((below_alloc w11 (.cells #[.int .i64 0, .int .i64 0, .int .u8 0, .int .i64 1, .int .i64 1] 52)).mono hb.size)
  have K := Lib.hid (show _ ∧ _ ∧ _ from ⟨kA, hgA, hb⟩)
  clear kA hgA hb
  go_wp2_with fail
  obtain ⟨kA, hgA, hb⟩ := K.out
  clear K
  generalize World.alloc w11 _ = w12 at kA hb ⊢
  generalize w11.heap.size = gA at kA hgA ⊢
  refine (pull_call _ _ _ _).mono ?_
  rintro e w' ⟨rfl, rfl⟩
  have kB : Blk _ _ _ #[.int .i64 0, .int .i64 0, .int .u8 5, .int .i64 1, .int .i64 1] := Blk.new w12 52 #[.int .i64 0, .int .i64 0, .int .u8 5, .int .i64 1, .int .i64 1]
  replace kA := kA.alloc (.cells #[.int .i64 0, .int .i64 0, .int .u8 5, .int .i64 1, .int .i64 1] 52)
  have hgB : w.heap.size ≤ w12.heap.size := hb.size
  replace hb := hb.trans ((below_alloc w12 (.cells #[.int .i64 0, .int .i64 0, .int .u8 5, .int .i64 1, .int .i64 1] 52)).mono hb.size)
  have K := Lib.hid (show _ ∧ _ ∧ _ ∧ _ from ⟨kA, kB, hgB, hb⟩)
  clear kA kB hgB hb
  go_wp2_with fail
  obtain ⟨kA, kB, hgB, hb⟩ := K.out
  clear K
  generalize World.alloc w12 _ = w13 at kA kB hb ⊢
  generalize w12.heap.size = gB at kA kB hgB ⊢
  refine (pull_call _ _ _ _).mono ?_
  rintro e w' ⟨rfl, rfl⟩
  have kC : Blk _ _ _ #[.int .i64 1000001, .int .i64 0, .int .u8 1, .int .i64 1, .int .i64 1] := Blk.new w13 52 #[.int .i64 1000001, .int .i64 0, .int .u8 1, .int .i64 1, .int .i64 1]
  replace kA := kA.alloc (.cells #[.int .i64 1000001, .int .i64 0, .int .u8 1, .int .i64 1, .int .i64 1] 52)
  replace kB := kB.alloc (.cells #[.int .i64 1000001, .int .i64 0, .int .u8 1, .int .i64 1, .int .i64 1] 52)
  have hgC : w.heap.size ≤ w13.heap.size := hb.size
  replace hb := hb.trans ((below_alloc w13 (.cells #[.int .i64 1000001, .int .i64 0, .int .u8 1, .int .i64 1, .int .i64 1] 52)).mono hb.size)
  have K := Lib.hid (show _ ∧ _ ∧ _ ∧ _ ∧ _ from ⟨kA, kB, kC, hgC, hb⟩)
  clear kA kB kC hgC hb
  go_wp2_with fail
  obtain ⟨kA, kB, kC, hgC, hb⟩ := K.out
  clear K
  generalize World.alloc w13 _ = w14 at kA kB kC hb ⊢
  generalize w13.heap.size = gC at kA kB kC hgC ⊢
  refine (pull_call _ _ _ _).mono ?_
  rintro e w' ⟨rfl, rfl⟩
  have kD : Blk _ _ _ #[.int .i64 0, .int .i64 0, .int .u8 1, .int .i64 1, .int .i64 (-1)] := Blk.new w14 52 #[.int .i64 0, .int .i64 0, .int .u8 1, .int .i64 1, .int .i64 (-1)]
  replace kA := kA.alloc (.cells #[.int .i64 0, .int .i64 0, .int .u8 1, .int .i64 1, .int .i64 (-1)] 52)
  replace kB := kB.alloc (.cells #[.int .i64 0, .int .i64 0, .int .u8 1, .int .i64 1, .int .i64 (-1)] 52)
  replace kC := kC.alloc (.cells #[.int .i64 0, .int .i64 0, .int .u8 1, .int .i64 1, .int .i64 (-1)] 52)
  have hgD : w.heap.size ≤ w14.heap.size := hb.size
  replace hb := hb.trans ((below_alloc w14 (.cells #[.int .i64 0, .int .i64 0, .int .u8 1, .int .i64 1, .int .i64 (-1)] 52)).mono hb.size)
  have K := Lib.hid (show _ ∧ _ ∧ _ ∧ _ ∧ _ ∧ _ from ⟨kA, kB, kC, kD, hgD, hb⟩)
  clear kA kB kC kD hgD hb
  go_wp2_with fail
  obtain ⟨kA, kB, kC, kD, hgD, hb⟩ := K.out
  clear K
  generalize World.alloc w14 _ = w15 at kA kB kC kD hb ⊢
  generalize w14.heap.size = gD at kA kB kC kD hgD ⊢
  refine (pull_call _ _ _ _).mono ?_
  rintro e w' ⟨rfl, rfl⟩
  have kE : Blk _ _ _ #[.int .i64 0, .int .i64 0, .int .u8 1, .int .i64 1, .int .i64 1000001] := Blk.new w15 52 #[.int .i64 0, .int .i64 0, .int .u8 1, .int .i64 1, .int .i64 1000001]
  replace kA := kA.alloc (.cells #[.int .i64 0, .int .i64 0, .int .u8 1, .int .i64 1, .int .i64 1000001] 52)
  replace kB := kB.alloc (.cells #[.int .i64 0, .int .i64 0, .int .u8 1, .int .i64 1, .int .i64 1000001] 52)
  replace kC := kC.alloc (.cells #[.int .i64 0, .int .i64 0, .int .u8 1, .int .i64 1, .int .i64 1000001] 52)
  replace kD := kD.alloc (.cells #[.int .i64 0, .int .i64 0, .int .u8 1, .int .i64 1, .int .i64 1000001] 52)
  have hgE : w.heap.size ≤ w15.heap.size := hb.size
  replace hb := hb.trans ((below_alloc w15 (.cells #[.int .i64 0, .int .i64 0, .int .u8 1, .int .i64 1, .int .i64 1000001] 52)).mono hb.size)
  have hsE := World.size_alloc w15 (.cells #[.int .i64 0, .int .i64 0, .int .u8 1, .int .i64 1, .int .i64 1000001] 52)
  have K := Lib.hid (show _ ∧ _ ∧ _ ∧ _ ∧ _ ∧ _ ∧ _ ∧ _ from ⟨kA, kB, kC, kD, kE, hsE, hgE, hb⟩)
  clear kA kB kC kD kE hsE hgE hb
  go_wp2_with fail
  obtain ⟨kA, kB, kC, kD, kE, hsE, hgE, hb⟩ := K.out
  clear K
  generalize World.alloc w15 _ = w16 at kA kB kC kD kE hsE hb ⊢
  generalize w15.heap.size = gE at kA kB kC kD kE hsE hgE ⊢
  have k5 := Blk.new w16 22 #[.slice (some ⟨gA, 0, none⟩) 1 1, .slice (some ⟨gB, 0, none⟩) 1 1, .slice (some ⟨gC, 0, none⟩) 1 1, .slice (some ⟨gD, 0, none⟩) 1 1, .slice (some ⟨gE, 0, none⟩) 1 1]
  rw [hsE] at k5
  replace kA := kA.alloc (.cells #[.slice (some ⟨gA, 0, none⟩) 1 1, .slice (some ⟨gB, 0, none⟩) 1 1, .slice (some ⟨gC, 0, none⟩) 1 1, .slice (some ⟨gD, 0, none⟩) 1 1, .slice (some ⟨gE, 0, none⟩) 1 1] 22)
  replace kB := kB.alloc (.cells #[.slice (some ⟨gA, 0, none⟩) 1 1, .slice (some ⟨gB, 0, none⟩) 1 1, .slice (some ⟨gC, 0, none⟩) 1 1, .slice (some ⟨gD, 0, none⟩) 1 1, .slice (some ⟨gE, 0, none⟩) 1 1] 22)
  replace kC := kC.alloc (.cells #[.slice (some ⟨gA, 0, none⟩) 1 1, .slice (some ⟨gB, 0, none⟩) 1 1, .slice (some ⟨gC, 0, none⟩) 1 1, .slice (some ⟨gD, 0, none⟩) 1 1, .slice (some ⟨gE, 0, none⟩) 1 1] 22)
  replace kD := kD.alloc (.cells #[.slice (some ⟨gA, 0, none⟩) 1 1, .slice (some ⟨gB, 0, none⟩) 1 1, .slice (some ⟨gC, 0, none⟩) 1 1, .slice (some ⟨gD, 0, none⟩) 1 1, .slice (some ⟨gE, 0, none⟩) 1 1] 22)
  replace kE := kE.alloc (.cells #[.slice (some ⟨gA, 0, none⟩) 1 1, .slice (some ⟨gB, 0, none⟩) 1 1, .slice (some ⟨gC, 0, none⟩) 1 1, .slice (some ⟨gD, 0, none⟩) 1 1, .slice (some ⟨gE, 0, none⟩) 1 1] 22)
  replace hb := hb.trans ((below_alloc w16 (.cells #[.slice (some ⟨gA, 0, none⟩) 1 1, .slice (some ⟨gB, 0, none⟩) 1 1, .slice (some ⟨gC, 0, none⟩) 1 1, .slice (some ⟨gD, 0, none⟩) 1 1, .slice (some ⟨gE, 0, none⟩) 1 1] 22)).mono hb.size)
  generalize World.alloc w16 _ = w17 at k5 kA kB kC kD kE hb ⊢
  refine (func5_any (gE + 1) (fun i => match i with | 0 => fpA | 1 => fpB | 2 => fpC | 3 => fpD | _ => fpE) (fun i => match i with | 0 => gA | 1 => gB | 2 => gC | 3 => gD | _ => gE) _ k5.lt (fun i hi => match i, hi with | 0, _ => k5.cell rfl | 1, _ => k5.cell rfl | 2, _ => k5.cell rfl | 3, _ => k5.cell rfl | 4, _ => k5.cell rfl | n + 5, hi => absurd hi (by omega)) (fun i hi => match i, hi with | 0, _ => recs_one (u := fpA) kA | 1, _ => recs_one (u := fpB) kB | 2, _ => recs_one (u := fpC) kC | 3, _ => recs_one (u := fpD) kD | 4, _ => recs_one (u := fpE) kE | n + 5, hi => absurd hi (by omega)) (fun i hi => match i, hi with | 0, _ => fpA_64 _ (by simp) | 1, _ => fpB_64 _ (by simp) | 2, _ => fpC_64 _ (by simp) | 3, _ => fpD_64 _ (by simp) | 4, _ => fpE_64 _ (by simp) | n + 5, hi => absurd hi (by omega)) (fun i hi => match i, hi with | 0, _ => (by decide +kernel) | 1, _ => (by decide +kernel) | 2, _ => (by decide +kernel) | 3, _ => (by decide +kernel) | 4, _ => (by decide +kernel) | n + 5, hi => absurd hi (by omega))).mono ?_
  rintro e w18 ⟨rfl, hb1⟩
  replace hb := hb.trans (hb1.mono hb.size)
  clear hb1
  go_wp2_with fail
  clear k5 kA kB kC kD kE hsE hgA hgB hgC hgD hgE
  refine (pull_call _ _ _ _).mono ?_
  rintro e w' ⟨rfl, rfl⟩
  have kH : Blk _ _ _ #[.int .i64 0, .int .i64 0, .int .u8 1, .int .i64 1000001, .int .i64 1] := Blk.new w18 52 #[.int .i64 0, .int .i64 0, .int .u8 1, .int .i64 1000001, .int .i64 1]
  replace hb := hb.trans ((below_alloc w18 (.cells #[.int .i64 0, .int .i64 0, .int .u8 1, .int .i64 1000001, .int .i64 1] 52)).mono hb.size)
  have K := Lib.hid (show _ ∧ _ from ⟨kH, hb⟩)
  clear kH hb
  go_wp2_with fail
  obtain ⟨kH, hb⟩ := K.out
  clear K
  generalize World.alloc w18 _ = w19 at kH hb ⊢
  generalize w18.heap.size = gH at kH ⊢
  refine (pull_call _ _ _ _).mono ?_
  rintro e w' ⟨rfl, rfl⟩
  have kL : Blk _ _ _ #[.int .i64 0, .int .i64 0, .int .u8 1, .int .i64 0, .int .i64 1] := Blk.new w19 52 #[.int .i64 0, .int .i64 0, .int .u8 1, .int .i64 0, .int .i64 1]
  replace kH := kH.alloc (.cells #[.int .i64 0, .int .i64 0, .int .u8 1, .int .i64 0, .int .i64 1] 52)
  replace hb := hb.trans ((below_alloc w19 (.cells #[.int .i64 0, .int .i64 0, .int .u8 1, .int .i64 0, .int .i64 1] 52)).mono hb.size)
  have K := Lib.hid (show _ ∧ _ ∧ _ from ⟨kH, kL, hb⟩)
  clear kH kL hb
  go_wp2_with fail
  obtain ⟨kH, kL, hb⟩ := K.out
  clear K
  generalize World.alloc w19 _ = w20 at kH kL hb ⊢
  generalize w19.heap.size = gL at kH kL ⊢
  have cc := value_any none 0 0 [] ⟨1000001, 0⟩ w20 rfl (by omega) (vnil _) n64 (by simp [Pt.In64])
  rw [show valueV [] ⟨1000001, 0⟩ = 0 by decide +kernel, show valueE [] ⟨1000001, 0⟩ = 2 by decide +kernel] at cc
  refine (cc).mono ?_
  rintro e w21 ⟨rfl, hb1⟩
  replace hb := hb.trans (hb1.mono hb.size)
  replace kH := kH.keep hb1
  replace kL := kL.keep hb1
  clear hb1
  go_wp2_with fail
  clear cc
  have cc := axisF_any (some ⟨gH, 0, none⟩) 1 1 [fpHH] ⟨1000001, 0⟩ w21 rfl (by omega) (recs_one (u := fpHH) kH) fpHH_64 (by simp [Pt.In64])
  rw [show axisV [fpHH] ⟨1000001, 0⟩ = 0 by decide +kernel, show valueE [fpHH] ⟨1000001, 0⟩ = 8 by decide +kernel] at cc
  refine (cc).mono ?_
  rintro e w22 ⟨rfl, hb1⟩
  replace hb := hb.trans (hb1.mono hb.size)
  replace kH := kH.keep hb1
  replace kL := kL.keep hb1
  clear hb1
  go_wp2_with fail
  clear cc
  refine (trace_any none 0 0 [] ⟨0, 0⟩ 4 0 w22 rfl (by omega) (vnil _) n64 (by simp [Pt.In64]) (by omega)).mono ?_
  rintro e w23 ⟨v, rfl, ⟨A1, cap1, rfl, -, -⟩, hb1⟩
  rw [show traceE [] ⟨0, 0⟩ 4 0 = 2 by decide +kernel, show traceL [] ⟨0, 0⟩ 4 0 = [] by decide +kernel]
  replace hb := hb.trans (hb1.mono hb.size)
  replace kH := kH.keep hb1
  replace kL := kL.keep hb1
  clear hb1
  go_wp2_with fail
  refine (trace_any none 0 0 [] ⟨0, 0⟩ 0 501 w23 rfl (by omega) (vnil _) n64 (by simp [Pt.In64]) (by omega)).mono ?_
  rintro e w24 ⟨v, rfl, ⟨A1, cap1, rfl, -, -⟩, hb1⟩
  rw [show traceE [] ⟨0, 0⟩ 0 501 = 2 by decide +kernel, show traceL [] ⟨0, 0⟩ 0 501 = [] by decide +kernel]
  replace hb := hb.trans (hb1.mono hb.size)
  replace kH := kH.keep hb1
  replace kL := kL.keep hb1
  clear hb1
  go_wp2_with fail
  refine (trace_any none 0 0 [] ⟨0, 0⟩ 0 (-1) w24 rfl (by omega) (vnil _) n64 (by simp [Pt.In64]) (by omega)).mono ?_
  rintro e w25 ⟨v, rfl, ⟨A1, cap1, rfl, -, -⟩, hb1⟩
  rw [show traceE [] ⟨0, 0⟩ 0 (-1) = 2 by decide +kernel, show traceL [] ⟨0, 0⟩ 0 (-1) = [] by decide +kernel]
  replace hb := hb.trans (hb1.mono hb.size)
  replace kH := kH.keep hb1
  replace kL := kL.keep hb1
  clear hb1
  go_wp2_with fail
  refine (trace_any none 0 0 [] ⟨0, -1000000⟩ 3 1 w25 rfl (by omega) (vnil _) n64 (by simp [Pt.In64]) (by omega)).mono ?_
  rintro e w26 ⟨v, rfl, ⟨A1, cap1, rfl, -, -⟩, hb1⟩
  rw [show traceE [] ⟨0, -1000000⟩ 3 1 = 16 by decide +kernel, show traceL [] ⟨0, -1000000⟩ 3 1 = [] by decide +kernel]
  replace hb := hb.trans (hb1.mono hb.size)
  replace kH := kH.keep hb1
  replace kL := kL.keep hb1
  clear hb1
  go_wp2_with fail
  refine (trace_any none 0 0 [] ⟨0, -1000000⟩ 3 0 w26 rfl (by omega) (vnil _) n64 (by simp [Pt.In64]) (by omega)).mono ?_
  rintro e w27 ⟨v, rfl, ⟨A1, cap1, rfl, -, -⟩, hb1⟩
  rw [show traceE [] ⟨0, -1000000⟩ 3 0 = 0 by decide +kernel, show traceL [] ⟨0, -1000000⟩ 3 0 = [⟨0, -1000000⟩] by decide +kernel]
  replace hb := hb.trans (hb1.mono hb.size)
  replace kH := kH.keep hb1
  replace kL := kL.keep hb1
  clear hb1
  have kG := Blk.new w27 52 #[.int .i64 1000000, .int .i64 1000000, .int .u8 1, .int .i64 1000000, .int .i64 1000000]
  replace kH := kH.alloc (.cells #[.int .i64 1000000, .int .i64 1000000, .int .u8 1, .int .i64 1000000, .int .i64 1000000] 52)
  replace kL := kL.alloc (.cells #[.int .i64 1000000, .int .i64 1000000, .int .u8 1, .int .i64 1000000, .int .i64 1000000] 52)
  replace hb := hb.trans ((below_alloc w27 (.cells #[.int .i64 1000000, .int .i64 1000000, .int .u8 1, .int .i64 1000000, .int .i64 1000000] 52)).mono hb.size)
  have K := Lib.hid (show _ ∧ _ ∧ _ ∧ _ from ⟨kH, kL, kG, hb⟩)
  clear kH kL kG hb
  go_wp2_with fail
  obtain ⟨kH, kL, kG, hb⟩ := K.out
  clear K
  generalize World.alloc w27 _ = w28 at kH kL kG hb ⊢
  generalize w27.heap.size = gG at kH kL kG ⊢
  have cc := value_any (some ⟨gG, 0, none⟩) 1 1 [fpG] ⟨1000000, 1000000⟩ w28 rfl (by omega) (recs_one (u := fpG) kG) fpG_64 (by simp [Pt.In64])
  rw [show valueV [fpG] ⟨1000000, 1000000⟩ = 1000001000000 by decide +kernel, show valueE [fpG] ⟨1000000, 1000000⟩ = 0 by decide +kernel] at cc
  refine (cc).mono ?_
  rintro e w29 ⟨rfl, hb1⟩
  replace hb := hb.trans (hb1.mono hb.size)
  replace kH := kH.keep hb1
  replace kL := kL.keep hb1
  replace kG := kG.keep hb1
  clear hb1
  go_wp2_with fail
  clear cc
  refine (turn_any (some ⟨gG, 0, none⟩) 1 1 [fpG] w29 rfl (by omega) (recs_one (u := fpG) kG) fpG_64).mono ?_
  rintro e w30 ⟨v, rfl, ⟨A2, cap2, rfl, -, hv2⟩, hb1⟩
  rw [show turnL [fpG] = [⟨-1000000, 1000000, 2, 1000000, 1000000⟩] by decide +kernel] at hv2 ⊢; rw [show fieldE [fpG] = 0 by decide +kernel]
  replace hb := hb.trans (hb1.mono hb.size)
  replace kH := kH.keep hb1
  replace kL := kL.keep hb1
  replace kG := kG.keep hb1
  clear hb1
  go_wp2_with fail
  have cc := check_any (some ⟨gH, 0, none⟩) 1 1 [fpHH] w30 rfl (by omega) (recs_one (u := fpHH) kH) fpHH_64
  rw [show fieldE [fpHH] = 8 by decide +kernel] at cc
  refine (cc).mono ?_
  rintro e w31 ⟨rfl, hb1⟩
  replace hb := hb.trans (hb1.mono hb.size)
  replace kH := kH.keep hb1
  replace kL := kL.keep hb1
  replace kG := kG.keep hb1
  replace hv2 := (hv2.below hb1).more hb1.size
  clear hb1
  go_wp2_with fail
  clear cc kH kG
  have cc := check_any (some ⟨gL, 0, none⟩) 1 1 [fpLL] w31 rfl (by omega) (recs_one (u := fpLL) kL) fpLL_64
  rw [show fieldE [fpLL] = 8 by decide +kernel] at cc
  refine cc.mono ?_
  rintro e w32 ⟨rfl, hb1⟩
  replace hb := hb.trans (hb1.mono hb.size)
  replace hv2 := (hv2.below hb1).more hb1.size
  clear hb1 cc kL
  have hal := below_alloc w32 (.cells CS 52)
  replace hb := hb.trans (hal.mono hb.size)
  replace hv2 := (hv2.below hal).more hal.size
  have hmk := HMK.out
  have K := Lib.hid (show _ ∧ _ from ⟨hb, hv2⟩)
  clear hb hv2 hal
  go_wp2_with fail
  obtain ⟨hb, hv2⟩ := K.out
  clear K hmk HMK
  generalize World.alloc w32 _ = w33 at hb hv2 ⊢
  refine (check_big _ 61 61 w33 (by omega) (by omega)).mono ?_
  rintro e w34 ⟨rfl, hb1⟩
  replace hb := hb.trans (hb1.mono hb.size)
  replace hv2 := (hv2.below hb1).more hb1.size
  clear hb1
  obtain ⟨b, off, rfl, hB, hat⟩ := hv2.at_ (k := 0) (by simp)
  have m0 : w34.cell? ⟨b, off, none⟩ = some (.int .i64 (-1000000)) := hat 0 _ rfl
  have m1 : w34.cell? ⟨b, off + 1, none⟩ = some (.int .i64 1000000) := hat 1 _ rfl
  have m2 : w34.cell? ⟨b, off + 2, none⟩ = some (.int .u8 2) := hat 2 _ rfl
  have hm31 := Try.eqGuardPt
  have hveq := ptEql
  have hself := ptB_self
  clear hv2 hat vnil n64
  go_wp2_with fail
  refine (alive_any _).mono ?_
  rintro e w35 ⟨rfl, hb1⟩
  replace hb := hb.trans (hb1.mono hb.size)
  clear hb1
  go_wp2_with fail
  go_ret
  exact ret_bool rfl hb

open Go.ChangeShapes Go.WideShapes Go.ChangeAt Go.Joins

set_option maxRecDepth 100000 in
theorem names_lifted (os : Os) (started : os.Started) (H : Type) (enc : TypeId × Value → H) :
    ReturnsInHanded {} Try.checked os 8 .any (Rows.fieldNamesSpec.pre6 enc Try.prog Try.f8 Rows.fieldNamesRow.domain false) (Rows.fieldNamesSpec.post enc Try.prog Try.f8 false true false false) := by
  refine returnsInHanded_of_change (C := Try.checked) own started (by kernel_rfl) Try.func8
    (ChangeSpec.witness6 (enc := enc) (C := Try.checked) false ⟨#[], #[], []⟩ 8 (by kernel_rfl) (by kernel_rfl) (by kernel_rfl) (by kernel_rfl)) ?_
  intro W base args ds gs before _ hW hcnd _
  have hW' := hW
  obtain ⟨p, q, hA0, hV, rfl, hfz, hnd⟩ := hW
  have hA : DataW.TrodAll enc Try.prog W 0 (fun _ => true) true Try.f8.params.toList args.toList ds p := hA0
  rw [Try.params8] at hA
  obtain ⟨hargs, rfl, rfl⟩ := trodAll_nil hA
  obtain rfl : args = #[] := by cases args; simp_all
  obtain ⟨rfl, rfl⟩ := trodVars_none hV
  refine (names_walk W).mono fun e W' ⟨he, hb⟩ => ?_
  exact ⟨_, he, law_post laidOut hW' rfl (by kernel_rfl) rfl Try.underlying4 rfl rfl rfl hb⟩

theorem names_holds : Rows.FieldNamesSaid :=
  OpenClaim.holds_of_wide 8 Try.f8 rfl rfl rfl rfl rfl rfl rfl ⟨rfl, rfl, rfl, rfl, rfl⟩ rfl rfl rfl rfl rfl (by kernel_rfl) Try.func8 (by kernel_rfl)
    (of_decide_eq_true (by kernel_rfl)) (by unfold Func.isWrapper; first | (rw [if_pos (by decide +kernel)]; kernel_rfl) | (rw [if_neg (by decide +kernel)]; exact ⟨rfl, rfl⟩))
    (fun os started H enc _ => names_lifted os started H enc)
#print axioms names_holds
end Go.Proofs.Ytmomjjjfjjgepaa
