/- near: the pulls that reach a point, handed to a loop's body one after the other. -/
import Derived.RangeFuncNested
import Derived.RangeFuncBound
import Derived.RangeFuncCalls
import Derived.RangeFuncLeaves
import Derived.RangeFuncBox
import Derived.Shelf.Abstract
import Derived.OwnWalkIn
import Derived.TacticsInMore
import Derived.LoopNIn
import Derived.LoopIn
import Derived.Sort.QuietIn
import Derived.Test.YtmomjjjfjjgepaaFieldD
namespace Go.Rel
open Go.RowKit
/-- The first k pulls' parts that reach the point. -/
def nearK (l : List Pull) (p : Pt) (k : Nat) : List (Pull × Int) := ((l.take k).filter (fun u => !decide (u.reach < far u p))).map (fun u => (u, nearP u p))
theorem nearK_zero (l : List Pull) (p : Pt) : nearK l p 0 = [] := rfl
theorem nearK_in {l : List Pull} {p : Pt} {k : Nat} (hk : k < l.length) (h : ¬ l[k].reach < far l[k] p) : nearK l p (k + 1) = nearK l p k ++ [(l[k], nearP l[k] p)] := by
  unfold nearK
  rw [List.take_succ_eq_append_getElem hk, List.filter_append, List.map_append]
  simp [h]
theorem nearK_out {l : List Pull} {p : Pt} {k : Nat} (hk : k < l.length) (h : l[k].reach < far l[k] p) : nearK l p (k + 1) = nearK l p k := by
  unfold nearK
  rw [List.take_succ_eq_append_getElem hk, List.filter_append, List.map_append]
  simp [h]
theorem nearK_len (l : List Pull) (p : Pt) {k : Nat} (hk : k ≤ l.length) : (nearK l p k).length ≤ k := by
  unfold nearK
  rw [List.length_map]
  exact Nat.le_trans (List.length_filter_le _ _) (by rw [List.length_take]; omega)
theorem grown_of_below {w w' : World} (h : Below w.heap.size w w') : w.grownBy w' none := ⟨h.os, h.tape, h.output, h.size, fun k hk _ => h.block k hk⟩
/-- What a round that goes on keeps: all below n₀, and block B. -/
def KeepP (n₀ B : Nat) (W W' : World) : Prop := Below n₀ W W' ∧ W'.heap[B]? = W.heap[B]?
theorem KeepP.trans {n₀ B : Nat} {W W' W2 : World} (h : KeepP n₀ B W W') (k : KeepP n₀ B W' W2) : KeepP n₀ B W W2 := ⟨h.1.trans k.1, k.2.trans h.2⟩
theorem KeepP.refl (n₀ B : Nat) (W : World) : KeepP n₀ B W W := ⟨Below.refl _ _, rfl⟩
theorem KeepP.of_below {n₀ B : Nat} {W W' : World} (h : Below W.heap.size W W') (h0 : n₀ ≤ W.heap.size) (hB : B < W.heap.size) : KeepP n₀ B W W' := ⟨h.mono h0, h.block B hB⟩
theorem KeepP.blk {n₀ B : Nat} {W W' : World} (h : KeepP n₀ B W W') {t : TypeId} {cs : Array Value} (hb : Blk W B t cs) : Blk W' B t cs := h.2.trans hb
/-- The sum of the parts, in the order in which they come. -/
def accW : List (Pull × Int) → Int := List.foldl (fun s x => IntKind.i64.wrap (s + x.2)) 0
theorem accW_snoc (pre : List (Pull × Int)) (x : Pull × Int) : accW (pre ++ [x]) = IntKind.i64.wrap (accW pre + x.2) := by simp [accW]
theorem accW_near {l : List Pull} (hf : Fine l) (p : Pt) : ∀ k, k ≤ l.length → accW (nearK l p k) = valueP (l.take k) p
  | 0, _ => rfl
  | k + 1, hk => by
    have ih := accW_near hf p k (by omega)
    have hs := valueP_take_succ l (show k < l.length by omega) p
    have hb := valueP_take_bound hf (k + 1) p
    by_cases h : l[k].reach < far l[k] p
    · rw [nearK_out (by omega) h, ih, hs, oneP, if_pos h]; omega
    · rw [nearK_in (by omega) h, accW_snoc, ih]
      have ho : oneP l[k] p = nearP l[k] p := if_neg h
      rw [hs, ho] at hb
      rw [hs, ho, IntKind.wrap_i64]
      simp only
      omega
end Go.Rel
namespace Go.Proofs.Ytmomjjjfjjgepaa
open Go.RowKit Go.Rel Go.Shelf
attribute [local go_sem] Oper.semAt_some

set_option maxRecDepth 100000 in
set_option maxHeartbeats 4000000 in
theorem near1_in (m : Nat) (hm : 1 ≤ m) (L Bl Bp n₀ n cap : Nat) (A : Option Addr) (l : List Pull) (p : Pt) (hn : l.length = n) (hf : Fine l) (hp : inB p.x p.y = true) 
    (J Jx : List (Pull × Int) → World → Prop)
    (hY : ∀ pre x W, J pre W → pre.length < n → YieldAt Fence.wide (m - 1) Try.prog L #[x.1.v, .int .i64 x.2] W fun e W' =>
      (e = .returned (.bool true) ∧ J (pre ++ [x]) W' ∧ KeepP n₀ Bp W W') ∨ (e = .returned (.bool false) ∧ Jx (pre ++ [x]) W'))
    (W : World) (hW0 : n₀ ≤ W.heap.size) (hJ : AbidesFrom W.heap.size J) (hl : Blk W Bl 22 #[.slice A n cap]) (hpt : Blk W Bp 24 #[.int .i64 p.x, .int .i64 p.y]) (hv : Recs Pull.cells 5 W n₀ A l) (h0 : J [] W) :
    CallsIn Fence.wide m Try.prog 38 #[.func (.yield L) #[] #[], .pointer (some ⟨Bl, 0, none⟩), .pointer (some ⟨Bp, 0, none⟩)] W fun e W' => (∃ v, e = .returned v) ∧
      ((∃ ys, ys = nearK l p n ∧ J ys W') ∨ (∃ pre, (∃ k, k ≤ n ∧ pre = nearK l p k) ∧ Jx pre W')) := by
  have hl60 : n ≤ 60 := by have := hf.1; omega
  have HN := Lib.hid hn
  have cl := hl.cell (i := 0) rfl
  clear hn
  refine callsIn_of_wp Try.func38 rfl trivial ?_ rfl
  simp only [Try.ntmps38, List.size_toArray, List.length_cons, List.length_nil, Nat.reduceAdd, Nat.reduceSub, Array.replicate_succ, Array.replicate_zero, List.push_toArray, List.append_toArray, List.nil_append, List.cons_append]
  gi_wp2
  gi_loopw [11] (fun i wr => ∃ k : Nat, k ≤ n ∧ i = .int .i64 k ∧ J (nearK l p k) wr ∧ KeepP n₀ Bp W wr)
    (fun i _ => n - (intOf i).toNat)
  case atStart => exact ⟨0, Nat.zero_le _, rfl, h0, KeepP.refl _ _ _⟩
  case round =>
    obtain ⟨k, hk, rfl, hJs, hnx⟩ := hrel
    by_cases hlt : k < n
    · have hlt' : k < l.length := by rw [HN.out]; exact hlt
      obtain ⟨b, off, rfl, hB, c0, c1, c2, c3, c4⟩ := pull_at (hv.below hnx.1) hlt'
      have hu := hf.at_ hlt'
      have hsz := hnx.1.size
      have hpw : Blk wr Bp 24 #[.int .i64 p.x, .int .i64 p.y] := hnx.blk hpt
      have p0 := hpw.cell (i := 0) rfl
      have p1 := hpw.cell (i := 1) rfl
      have plt := hpw.lt
      have hpl := plt
      have hxy := adx_bound (pullB_iff.1 hu).2.1 hp
      obtain ⟨⟨q1, q2, q3, q4⟩, q5, q6, q7, q8⟩ := hxy
      have hO : nearP l[k] p = signP l[k].kind (adx l[k] p) (ady l[k] p) * (l[k].weight * (l[k].reach + 1 - far l[k] p)) := rfl
      have hF' : far l[k] p = imax (adx l[k] p) (ady l[k] p) := rfl
      have hX' : imax (p.x - l[k].x) (-(p.x - l[k].x)) = adx l[k] p := by unfold imax adx; split <;> omega
      have hY' : imax (p.y - l[k].y) (-(p.y - l[k].y)) = ady l[k] p := by unfold imax ady; split <;> omega
      have hnear_in := nearK_in (p := p) hlt'
      have hnear_out := nearK_out (p := p) hlt'
      obtain ⟨u, hud⟩ : ∃ u, l[k] = u := ⟨_, rfl⟩
      rw [hud] at c0 c1 c2 c3 c4 hu q1 q2 q3 q4 q5 q6 q7 q8 hO hF' hX' hY' hnear_in hnear_out
      obtain ⟨X, hXa⟩ : ∃ X, adx u p = X := ⟨_, rfl⟩
      obtain ⟨Y, hYa⟩ : ∃ Y, ady u p = Y := ⟨_, rfl⟩
      obtain ⟨D, hD⟩ : ∃ D, p.x - u.x = D := ⟨_, rfl⟩
      obtain ⟨E, hE⟩ : ∃ E, p.y - u.y = E := ⟨_, rfl⟩
      rw [hXa] at q3 q4 hO hF' hX'
      rw [hYa] at q7 q8 hO hF' hY'
      rw [hD] at q1 q2 hX'
      rw [hE] at q5 q6 hY'
      rw [hF'] at hO hnear_in hnear_out
      obtain ⟨G, hG⟩ : ∃ G, imax X Y = G := ⟨_, rfl⟩
      rw [hG] at hO hnear_in hnear_out
      have hG0 : 0 ≤ G ∧ G ≤ 2000000 := by rw [← hG]; unfold imax; split <;> omega
      obtain ⟨g1, g2⟩ := hG0
      have HO := Lib.hid hO
      have HIN := Lib.hid hnear_in
      have HOUT := Lib.hid hnear_out
      have HP := Lib.hid hp
      have hmax := @run_imax Try.prog
      obtain ⟨⟨u1, u2⟩, -, u4, u5, u6, u7⟩ := pullB_iff.1 hu
      clear hO hnear_in hnear_out hF' hud hp hu hf hXa hYa hl hv h0 hpt
      gi_wp2
      have wx : IntKind.i64.wrap (p.x - u.x) = D := by rw [hD, IntKind.wrap_i64]; omega
      have wy : IntKind.i64.wrap (p.y - u.y) = E := by rw [hE, IntKind.wrap_i64]; omega
      gi_quiet (fail)
      have nblk := (Blk.new wr 52 #[.int .i64 u.x, .int .i64 u.y, .int .u8 u.kind, .int .i64 u.weight, .int .i64 u.reach]).keep (below_drewN (Below.refl _ _) nq)
      have nb := below_drewN (below_alloc wr (.cells #[.int .i64 u.x, .int .i64 u.y, .int .u8 u.kind, .int .i64 u.weight, .int .i64 u.reach] 52)) nq
      clear wx wy c0 c1 c2 c3 c4 p0 p1 plt hpw
      generalize World.drewN _ _ = wq at nblk nb ⊢
      replace hJs := hJ _ _ _ none hJs (grown_of_below nb) (fun r e => by cases e)
      replace hnx := hnx.trans (KeepP.of_below nb (by omega) hpl)
      have y2 := nblk.cell (i := 2) rfl
      have y4 := nblk.cell (i := 4) rfl
      have ylt := nblk.lt
      have hszq := hnx.1.size
      clear nb
      by_cases hfar : u.reach < G
      · have HJ := Lib.hid (show J (nearK l p (k + 1)) wq by rw [HOUT.out hfar]; exact hJs)
        gi_wp2
        go_roundw
        case rel => exact ⟨k + 1, by omega, by go_num, HJ.out, hnx⟩
        case measure => simp [intOf]; omega
      · have y0 := nblk.cell (i := 0) rfl
        have y1 := nblk.cell (i := 1) rfl
        have y3 := nblk.cell (i := 3) rfl
        have hlen : (nearK l p k).length < n := by have := nearK_len l p (Nat.le_of_lt hlt'); omega
        obtain ⟨m1, m2⟩ := mul_le_all (a := u.weight) (b := u.reach + 1 - G) (A := 1000000) (B := 1000001) (by omega) u5 (by omega) (by omega)
        obtain ⟨N, hN⟩ : ∃ N, u.weight * (u.reach + 1 - G) = N := ⟨_, rfl⟩
        rw [hN] at m1 m2
        have hNeg : -u.weight * (u.reach + 1 - G) = -N := by rw [Int.neg_mul, hN]
        have hO := HO.out
        rw [hN] at hO
        have hcase : (u.kind = 1 ∨ u.kind = 2 ∨ u.kind = 3 ∨ u.kind = 4) ∧ (X < Y ∨ X = Y ∨ Y < X) := by omega
        obtain ⟨hk, hxy⟩ := hcase
        rcases hk with hk | hk | hk | hk <;> rcases hxy with hxy | hxy | hxy
        · have hV : nearP u p = N := by rw [hO, hk]; unfold signP; (repeat' split) <;> omega
          have HNX := Lib.hid (HIN.out (by omega))
          rw [hV] at HNX
          rw [hk] at y2
          obtain ⟨fn, tmps, assign, body, hy, hR⟩ := hY (nearK l p k) (u, N) wq hJs hlen
          dsimp only [Pull.v] at hy
          rw [hk] at hy
          have HK := Lib.hid hk
          clear hO hk hV
          (try (subst hxy))
          (try (have hle : ¬ X < Y := by omega))
          gi_wp2
          first | refine hR.mono ?_ | refine ⟨fun _ => hm, hR.mono ?_⟩
          rintro e W3 (⟨rfl, hJ3, hk3⟩ | ⟨rfl, hJx3⟩)
          · gi_wp2
            go_roundw
            case rel => exact ⟨k + 1, by omega, by go_num, by rw [HNX.out]; exact hJ3, hnx.trans hk3⟩
            case measure => simp [intOf]; omega
          · gi_wp2
            refine bodyPost_ret (results_none rfl _ _ _) rfl ?_
            exact ⟨⟨_, rfl⟩, .inr ⟨_, ⟨k + 1, by omega, HNX.out.symm⟩, hJx3⟩⟩
        · have hV : nearP u p = N := by rw [hO, hk]; unfold signP; (repeat' split) <;> omega
          have HNX := Lib.hid (HIN.out (by omega))
          rw [hV] at HNX
          rw [hk] at y2
          obtain ⟨fn, tmps, assign, body, hy, hR⟩ := hY (nearK l p k) (u, N) wq hJs hlen
          dsimp only [Pull.v] at hy
          rw [hk] at hy
          have HK := Lib.hid hk
          clear hO hk hV
          (try (subst hxy))
          (try (have hle : ¬ X < Y := by omega))
          gi_wp2
          first | refine hR.mono ?_ | refine ⟨fun _ => hm, hR.mono ?_⟩
          rintro e W3 (⟨rfl, hJ3, hk3⟩ | ⟨rfl, hJx3⟩)
          · gi_wp2
            go_roundw
            case rel => exact ⟨k + 1, by omega, by go_num, by rw [HNX.out]; exact hJ3, hnx.trans hk3⟩
            case measure => simp [intOf]; omega
          · gi_wp2
            refine bodyPost_ret (results_none rfl _ _ _) rfl ?_
            exact ⟨⟨_, rfl⟩, .inr ⟨_, ⟨k + 1, by omega, HNX.out.symm⟩, hJx3⟩⟩
        · have hV : nearP u p = N := by rw [hO, hk]; unfold signP; (repeat' split) <;> omega
          have HNX := Lib.hid (HIN.out (by omega))
          rw [hV] at HNX
          rw [hk] at y2
          obtain ⟨fn, tmps, assign, body, hy, hR⟩ := hY (nearK l p k) (u, N) wq hJs hlen
          dsimp only [Pull.v] at hy
          rw [hk] at hy
          have HK := Lib.hid hk
          clear hO hk hV
          (try (subst hxy))
          (try (have hle : ¬ X < Y := by omega))
          gi_wp2
          first | refine hR.mono ?_ | refine ⟨fun _ => hm, hR.mono ?_⟩
          rintro e W3 (⟨rfl, hJ3, hk3⟩ | ⟨rfl, hJx3⟩)
          · gi_wp2
            go_roundw
            case rel => exact ⟨k + 1, by omega, by go_num, by rw [HNX.out]; exact hJ3, hnx.trans hk3⟩
            case measure => simp [intOf]; omega
          · gi_wp2
            refine bodyPost_ret (results_none rfl _ _ _) rfl ?_
            exact ⟨⟨_, rfl⟩, .inr ⟨_, ⟨k + 1, by omega, HNX.out.symm⟩, hJx3⟩⟩
        · have hV : nearP u p = (-N) := by rw [hO, hk]; unfold signP; (repeat' split) <;> omega
          have HNX := Lib.hid (HIN.out (by omega))
          rw [hV] at HNX
          rw [hk] at y2
          obtain ⟨fn, tmps, assign, body, hy, hR⟩ := hY (nearK l p k) (u, (-N)) wq hJs hlen
          dsimp only [Pull.v] at hy
          rw [hk] at hy
          have HK := Lib.hid hk
          clear hO hk hV
          (try (subst hxy))
          (try (have hle : ¬ X < Y := by omega))
          gi_wp2
          first | refine hR.mono ?_ | refine ⟨fun _ => hm, hR.mono ?_⟩
          rintro e W3 (⟨rfl, hJ3, hk3⟩ | ⟨rfl, hJx3⟩)
          · gi_wp2
            go_roundw
            case rel => exact ⟨k + 1, by omega, by go_num, by rw [HNX.out]; exact hJ3, hnx.trans hk3⟩
            case measure => simp [intOf]; omega
          · gi_wp2
            refine bodyPost_ret (results_none rfl _ _ _) rfl ?_
            exact ⟨⟨_, rfl⟩, .inr ⟨_, ⟨k + 1, by omega, HNX.out.symm⟩, hJx3⟩⟩
        · have hV : nearP u p = (-N) := by rw [hO, hk]; unfold signP; (repeat' split) <;> omega
          have HNX := Lib.hid (HIN.out (by omega))
          rw [hV] at HNX
          rw [hk] at y2
          obtain ⟨fn, tmps, assign, body, hy, hR⟩ := hY (nearK l p k) (u, (-N)) wq hJs hlen
          dsimp only [Pull.v] at hy
          rw [hk] at hy
          have HK := Lib.hid hk
          clear hO hk hV
          (try (subst hxy))
          (try (have hle : ¬ X < Y := by omega))
          gi_wp2
          first | refine hR.mono ?_ | refine ⟨fun _ => hm, hR.mono ?_⟩
          rintro e W3 (⟨rfl, hJ3, hk3⟩ | ⟨rfl, hJx3⟩)
          · gi_wp2
            go_roundw
            case rel => exact ⟨k + 1, by omega, by go_num, by rw [HNX.out]; exact hJ3, hnx.trans hk3⟩
            case measure => simp [intOf]; omega
          · gi_wp2
            refine bodyPost_ret (results_none rfl _ _ _) rfl ?_
            exact ⟨⟨_, rfl⟩, .inr ⟨_, ⟨k + 1, by omega, HNX.out.symm⟩, hJx3⟩⟩
        · have hV : nearP u p = (-N) := by rw [hO, hk]; unfold signP; (repeat' split) <;> omega
          have HNX := Lib.hid (HIN.out (by omega))
          rw [hV] at HNX
          rw [hk] at y2
          obtain ⟨fn, tmps, assign, body, hy, hR⟩ := hY (nearK l p k) (u, (-N)) wq hJs hlen
          dsimp only [Pull.v] at hy
          rw [hk] at hy
          have HK := Lib.hid hk
          clear hO hk hV
          (try (subst hxy))
          (try (have hle : ¬ X < Y := by omega))
          gi_wp2
          first | refine hR.mono ?_ | refine ⟨fun _ => hm, hR.mono ?_⟩
          rintro e W3 (⟨rfl, hJ3, hk3⟩ | ⟨rfl, hJx3⟩)
          · gi_wp2
            go_roundw
            case rel => exact ⟨k + 1, by omega, by go_num, by rw [HNX.out]; exact hJ3, hnx.trans hk3⟩
            case measure => simp [intOf]; omega
          · gi_wp2
            refine bodyPost_ret (results_none rfl _ _ _) rfl ?_
            exact ⟨⟨_, rfl⟩, .inr ⟨_, ⟨k + 1, by omega, HNX.out.symm⟩, hJx3⟩⟩
        · have hV : nearP u p = N := by rw [hO, hk]; unfold signP; (repeat' split) <;> omega
          have HNX := Lib.hid (HIN.out (by omega))
          rw [hV] at HNX
          rw [hk] at y2
          obtain ⟨fn, tmps, assign, body, hy, hR⟩ := hY (nearK l p k) (u, N) wq hJs hlen
          dsimp only [Pull.v] at hy
          rw [hk] at hy
          have HK := Lib.hid hk
          clear hO hk hV
          (try (subst hxy))
          (try (have hle : ¬ X < Y := by omega))
          gi_wp2
          first | refine hR.mono ?_ | refine ⟨fun _ => hm, hR.mono ?_⟩
          rintro e W3 (⟨rfl, hJ3, hk3⟩ | ⟨rfl, hJx3⟩)
          · gi_wp2
            go_roundw
            case rel => exact ⟨k + 1, by omega, by go_num, by rw [HNX.out]; exact hJ3, hnx.trans hk3⟩
            case measure => simp [intOf]; omega
          · gi_wp2
            refine bodyPost_ret (results_none rfl _ _ _) rfl ?_
            exact ⟨⟨_, rfl⟩, .inr ⟨_, ⟨k + 1, by omega, HNX.out.symm⟩, hJx3⟩⟩
        · have hV : nearP u p = 0 := by rw [hO, hk]; unfold signP; (repeat' split) <;> omega
          have HNX := Lib.hid (HIN.out (by omega))
          rw [hV] at HNX
          rw [hk] at y2
          obtain ⟨fn, tmps, assign, body, hy, hR⟩ := hY (nearK l p k) (u, 0) wq hJs hlen
          dsimp only [Pull.v] at hy
          rw [hk] at hy
          have HK := Lib.hid hk
          clear hO hk hV
          (try (subst hxy))
          (try (have hle : ¬ X < Y := by omega))
          gi_wp2
          first | refine hR.mono ?_ | refine ⟨fun _ => hm, hR.mono ?_⟩
          rintro e W3 (⟨rfl, hJ3, hk3⟩ | ⟨rfl, hJx3⟩)
          · gi_wp2
            go_roundw
            case rel => exact ⟨k + 1, by omega, by go_num, by rw [HNX.out]; exact hJ3, hnx.trans hk3⟩
            case measure => simp [intOf]; omega
          · gi_wp2
            refine bodyPost_ret (results_none rfl _ _ _) rfl ?_
            exact ⟨⟨_, rfl⟩, .inr ⟨_, ⟨k + 1, by omega, HNX.out.symm⟩, hJx3⟩⟩
        · have hV : nearP u p = (-N) := by rw [hO, hk]; unfold signP; (repeat' split) <;> omega
          have HNX := Lib.hid (HIN.out (by omega))
          rw [hV] at HNX
          rw [hk] at y2
          obtain ⟨fn, tmps, assign, body, hy, hR⟩ := hY (nearK l p k) (u, (-N)) wq hJs hlen
          dsimp only [Pull.v] at hy
          rw [hk] at hy
          have HK := Lib.hid hk
          clear hO hk hV
          (try (subst hxy))
          (try (have hle : ¬ X < Y := by omega))
          gi_wp2
          first | refine hR.mono ?_ | refine ⟨fun _ => hm, hR.mono ?_⟩
          rintro e W3 (⟨rfl, hJ3, hk3⟩ | ⟨rfl, hJx3⟩)
          · gi_wp2
            go_roundw
            case rel => exact ⟨k + 1, by omega, by go_num, by rw [HNX.out]; exact hJ3, hnx.trans hk3⟩
            case measure => simp [intOf]; omega
          · gi_wp2
            refine bodyPost_ret (results_none rfl _ _ _) rfl ?_
            exact ⟨⟨_, rfl⟩, .inr ⟨_, ⟨k + 1, by omega, HNX.out.symm⟩, hJx3⟩⟩
        · have hV : nearP u p = (-N) := by rw [hO, hk]; unfold signP; (repeat' split) <;> omega
          have HNX := Lib.hid (HIN.out (by omega))
          rw [hV] at HNX
          rw [hk] at y2
          obtain ⟨fn, tmps, assign, body, hy, hR⟩ := hY (nearK l p k) (u, (-N)) wq hJs hlen
          dsimp only [Pull.v] at hy
          rw [hk] at hy
          have HK := Lib.hid hk
          clear hO hk hV
          (try (subst hxy))
          (try (have hle : ¬ X < Y := by omega))
          gi_wp2
          first | refine hR.mono ?_ | refine ⟨fun _ => hm, hR.mono ?_⟩
          rintro e W3 (⟨rfl, hJ3, hk3⟩ | ⟨rfl, hJx3⟩)
          · gi_wp2
            go_roundw
            case rel => exact ⟨k + 1, by omega, by go_num, by rw [HNX.out]; exact hJ3, hnx.trans hk3⟩
            case measure => simp [intOf]; omega
          · gi_wp2
            refine bodyPost_ret (results_none rfl _ _ _) rfl ?_
            exact ⟨⟨_, rfl⟩, .inr ⟨_, ⟨k + 1, by omega, HNX.out.symm⟩, hJx3⟩⟩
        · have hV : nearP u p = 0 := by rw [hO, hk]; unfold signP; (repeat' split) <;> omega
          have HNX := Lib.hid (HIN.out (by omega))
          rw [hV] at HNX
          rw [hk] at y2
          obtain ⟨fn, tmps, assign, body, hy, hR⟩ := hY (nearK l p k) (u, 0) wq hJs hlen
          dsimp only [Pull.v] at hy
          rw [hk] at hy
          have HK := Lib.hid hk
          clear hO hk hV
          (try (subst hxy))
          (try (have hle : ¬ X < Y := by omega))
          gi_wp2
          first | refine hR.mono ?_ | refine ⟨fun _ => hm, hR.mono ?_⟩
          rintro e W3 (⟨rfl, hJ3, hk3⟩ | ⟨rfl, hJx3⟩)
          · gi_wp2
            go_roundw
            case rel => exact ⟨k + 1, by omega, by go_num, by rw [HNX.out]; exact hJ3, hnx.trans hk3⟩
            case measure => simp [intOf]; omega
          · gi_wp2
            refine bodyPost_ret (results_none rfl _ _ _) rfl ?_
            exact ⟨⟨_, rfl⟩, .inr ⟨_, ⟨k + 1, by omega, HNX.out.symm⟩, hJx3⟩⟩
        · have hV : nearP u p = N := by rw [hO, hk]; unfold signP; (repeat' split) <;> omega
          have HNX := Lib.hid (HIN.out (by omega))
          rw [hV] at HNX
          rw [hk] at y2
          obtain ⟨fn, tmps, assign, body, hy, hR⟩ := hY (nearK l p k) (u, N) wq hJs hlen
          dsimp only [Pull.v] at hy
          rw [hk] at hy
          have HK := Lib.hid hk
          clear hO hk hV
          (try (subst hxy))
          (try (have hle : ¬ X < Y := by omega))
          gi_wp2
          first | refine hR.mono ?_ | refine ⟨fun _ => hm, hR.mono ?_⟩
          rintro e W3 (⟨rfl, hJ3, hk3⟩ | ⟨rfl, hJx3⟩)
          · gi_wp2
            go_roundw
            case rel => exact ⟨k + 1, by omega, by go_num, by rw [HNX.out]; exact hJ3, hnx.trans hk3⟩
            case measure => simp [intOf]; omega
          · gi_wp2
            refine bodyPost_ret (results_none rfl _ _ _) rfl ?_
            exact ⟨⟨_, rfl⟩, .inr ⟨_, ⟨k + 1, by omega, HNX.out.symm⟩, hJx3⟩⟩
    · obtain rfl : k = n := by omega
      gi_wp2
      go_end0
      exact ⟨⟨_, rfl⟩, .inl ⟨_, rfl, hJs⟩⟩
end Go.Proofs.Ytmomjjjfjjgepaa
