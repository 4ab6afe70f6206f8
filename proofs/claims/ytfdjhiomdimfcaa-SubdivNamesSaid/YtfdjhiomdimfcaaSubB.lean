/- pairs: the pairs of neighbours, handed to a loop's body one after the other. -/
import Derived.RangeFuncNested
import Derived.RangeFuncBound
import Derived.RangeFuncCalls
import Derived.RangeFuncLeaves
import Derived.RangeFuncBox
import Derived.Shelf.Abstract
import Derived.OwnWalkIn
import Derived.TacticsInMore
import Derived.LoopNIn
import Derived.LoopIn
import Derived.Sort.QuietIn
import Derived.Test.YtfdjhiomdimfcaaSubA
import Derived.Test.YtfdjhiomdimfcaaStillIn
namespace Go.Rel
open Go.RowKit
theorem grown_of_below {w w' : World} (h : Below w.heap.size w w') : w.grownBy w' none := ⟨h.os, h.tape, h.output, h.size, fun k hk _ => h.block k hk⟩
/-- What a round that goes on keeps: all below n₀, and the blocks from n₁ to n₂. -/
def KeepR (n₀ n₁ n₂ : Nat) (W W' : World) : Prop := Below n₀ W W' ∧ ∀ k, n₁ ≤ k → k < n₂ → W'.heap[k]? = W.heap[k]?
theorem KeepR.trans {n₀ n₁ n₂ : Nat} {W W' W2 : World} (h : KeepR n₀ n₁ n₂ W W') (k : KeepR n₀ n₁ n₂ W' W2) : KeepR n₀ n₁ n₂ W W2 := ⟨h.1.trans k.1, fun b h1 h2 => (k.2 b h1 h2).trans (h.2 b h1 h2)⟩
theorem KeepR.refl (n₀ n₁ n₂ : Nat) (W : World) : KeepR n₀ n₁ n₂ W W := ⟨Below.refl _ _, fun _ _ _ => rfl⟩
theorem KeepR.of_below {n₀ n₁ n₂ : Nat} {W W' : World} (h : Below W.heap.size W W') (h0 : n₀ ≤ W.heap.size) (hB : n₂ ≤ W.heap.size) : KeepR n₀ n₁ n₂ W W' := ⟨h.mono h0, fun k _ hk => h.block k (by omega)⟩
theorem KeepR.blk {n₀ n₁ n₂ b : Nat} {W W' : World} (h : KeepR n₀ n₁ n₂ W W') {t : TypeId} {cs : Array Value} (hb : Blk W b t cs) (h1 : n₁ ≤ b) (h2 : b < n₂) : Blk W' b t cs := (h.2 b h1 h2).trans hb
theorem keepR_b {n₀ n₁ n₂ : Nat} {w : World} (hn : n₀ ≤ w.heap.size) (hB : n₂ ≤ w.heap.size) (W : World) (l : Nat) (o o' : Obj) (hl : w.heap.size ≤ l) (h : W.heap[l]? = some o) (h1 : o.isCells = false) (h2 : o.isWalk = false) : KeepR n₀ n₁ n₂ W (W.putObj l o') :=
  ⟨belowK_b hn W l o o' hl h h1 h2, fun k _ hk => World.putObj_heap_other (by omega)⟩
/-- The points with the index i and the one behind it. -/
theorem Vecs.two {w : World} {B : Nat} {A : Option Addr} {l : List Vec} (h : Vecs w B A l) {i : Nat} (hi : i < l.length) :
    ∃ b off : Nat, A = some ⟨b, off, none⟩ ∧ b < B ∧ (w.cell? ⟨b, off + i * 3, none⟩ = some (.int .i64 (getM l i).x) ∧ w.cell? ⟨b, off + i * 3 + 1, none⟩ = some (.int .i64 (getM l i).y) ∧ w.cell? ⟨b, off + i * 3 + 2, none⟩ = some (.int .i64 (getM l i).z)) ∧
      ∃ j, (i + 1) % l.length = j ∧ j < l.length ∧ w.cell? ⟨b, off + j * 3, none⟩ = some (.int .i64 (getM l (i + 1)).x) ∧ w.cell? ⟨b, off + j * 3 + 1, none⟩ = some (.int .i64 (getM l (i + 1)).y) ∧ w.cell? ⟨b, off + j * 3 + 2, none⟩ = some (.int .i64 (getM l (i + 1)).z) := by
  have hj : (i + 1) % l.length < l.length := Nat.mod_lt _ (by omega)
  obtain ⟨b, off, e, hb, h1, h2, h3⟩ := h.at_ hi
  obtain ⟨b', off', e', -, k1, k2, k3⟩ := h.at_ hj
  rw [e] at e'
  obtain ⟨rfl, rfl⟩ : b = b' ∧ off = off' := by simpa using e'
  rw [← getM_lt] at h1 h2 h3
  rw [← getM_lt, getM_mod] at k1 k2 k3
  exact ⟨b, off, e, hb, ⟨h1, h2, h3⟩, _, rfl, hj, k1, k2, k3⟩
end Go.Rel
namespace Go.Proofs.Ytfdjhiomdimfcaa
open Go.RowKit Go.Rel Go.Shelf
attribute [local go_sem] Oper.semAt_some

set_option maxRecDepth 100000 in
set_option maxHeartbeats 1000000 in
theorem pairs1_in (m : Nat) (hm : 1 ≤ m) (L Bl Bc n₀ n₁ n₂ n cap : Nat) (A : Option Addr) (q : List Vec) (closed : Bool) (hn : q.length = n) (hn63 : n ≤ 4611686018427387904) (hb1 : n₁ ≤ Bl) (hb2 : Bl < n₂) (hb3 : n₁ ≤ Bc) (hb4 : Bc < n₂)
    (G : Vec × Vec → Prop) (hG : ∀ k, G (getM q k, getM q (k + 1))) (J Jx : List (Vec × Vec) → World → Prop)
    (hY : ∀ pre x W, J pre W → pre.length < n → G x → YieldAt Fence.wide (m - 1) Try.prog L #[x.1.v, x.2.v] W fun e W' =>
      (e = .returned (.bool true) ∧ J (pre ++ [x]) W' ∧ KeepR n₀ n₁ n₂ W W') ∨ (e = .returned (.bool false) ∧ Jx (pre ++ [x]) W'))
    (W : World) (hW0 : n₀ ≤ W.heap.size) (hn2 : n₂ ≤ W.heap.size) (hJ : AbidesFrom W.heap.size J) (hl : Blk W Bl 22 #[.slice A n cap]) (hc : Blk W Bc 4 #[.bool closed]) (hv : Vecs W n₀ A q) (h0 : J [] W) :
    CallsIn Fence.wide m Try.prog 40 #[.func (.yield L) #[] #[], .pointer (some ⟨Bl, 0, none⟩), .pointer (some ⟨Bc, 0, none⟩)] W fun e W' => (∃ v, e = .returned v) ∧
      ((∃ ys, ys = pairsL q closed ∧ J ys W') ∨ (∃ pre, (∃ k, k ≤ n ∧ pre = pairsK q k) ∧ Jx pre W')) := by
  have HN := Lib.hid hn
  have cl := hl.cell (i := 0) rfl
  have e1 : IntKind.i64.wrap ((n : Int) - 1) = (n : Int) - 1 := by rw [IntKind.wrap_i64]; omega
  clear hn
  refine callsIn_of_wp Try.func40 rfl trivial ?_ rfl
  simp only [Try.ntmps40, List.size_toArray, List.length_cons, List.length_nil, Nat.reduceAdd, Nat.reduceSub, Array.replicate_succ, Array.replicate_zero, List.push_toArray, List.append_toArray, List.nil_append, List.cons_append]
  gi_wp2
  gi_loopw [7] (fun i wr => ∃ k : Nat, k ≤ n ∧ i = .int .i64 k ∧ (k = n → closed = true ∨ k = 0) ∧ J (pairsK q k) wr ∧ KeepR n₀ n₁ n₂ W wr)
    (fun i _ => n - (intOf i).toNat)
  case atStart => exact ⟨0, Nat.zero_le _, rfl, fun _ => .inr rfl, h0, KeepR.refl _ _ _ _⟩
  case round =>
    obtain ⟨k, hk, rfl, HC, hJs, hnx⟩ := hrel
    have hsz := hnx.1.size
    by_cases hlt : k < n
    · have hlt' : k < q.length := by rw [HN.out]; exact hlt
      have kBl : Bl < wr.heap.size := (hnx.blk hl hb1 hb2).lt
      have kBc : Bc < wr.heap.size := (hnx.blk hc hb3 hb4).lt
      have cl' := (hnx.blk hl hb1 hb2).cell (i := 0) rfl
      have cc' := (hnx.blk hc hb3 hb4).cell (i := 0) rfl
      obtain ⟨b, off, rfl, hB, ⟨c0, c1, c2⟩, j, hj, hjn, d0, d1, d2⟩ := (hv.below hnx.1).two hlt'
      rw [HN.out] at hj hjn
      obtain ⟨x, hx⟩ : ∃ x, getM q k = x := ⟨_, rfl⟩
      obtain ⟨y, hy⟩ : ∃ y, getM q (k + 1) = y := ⟨_, rfl⟩
      rw [hx] at c0 c1 c2
      rw [hy] at d0 d1 d2
      have hgk := hG k
      have hstep := pairsK_succ q k
      rw [hx, hy] at hstep hgk
      have HGK := Lib.hid hgk
      have HS := Lib.hid hstep
      have er : ((k : Int) + 1).tmod (n : Int) = (j : Int) := by rw [← hj]; exact (Int.ofNat_tmod (k + 1) n).symm
      have HY := Lib.hid hY
      have HJ := Lib.hid hJ
      have HNX := Lib.hid hnx
      have HJS := Lib.hid hJs
      have hszB : b < wr.heap.size := by omega
      have hn0 : ¬ n = 0 := by omega
      have ek : IntKind.i64.wrap ((k : Int) + 1) = (k : Int) + 1 := by rw [IntKind.wrap_i64]; omega
      clear hx hy hstep hgk hG hj cl hY hJ hnx hJs hl hc hv h0
      have hcases : (k + 1 = n ∧ closed = false) ∨ (k + 1 = n ∧ closed = true) ∨ k + 1 ≠ n := by cases closed <;> simp <;> omega
      rcases hcases with ⟨hk1, rfl⟩ | ⟨hk1, rfl⟩ | hk1
      · have hbe : ((k : Int) == (n : Int) - 1) = true := by rw [beq_iff_eq]; omega
        have HL := Lib.hid (show pairsK q k = pairsL q false by rw [pairsL_eq, HN.out]; unfold pairLen; simp; rw [← hk1]; rfl)
        clear hk1
        gi_wp2
        apply wpIn_region_tail 23 (hm := by kernel_rfl) (hB := by kernel_rfl)
        intro W2 hW2
        replace cl' := (hW2.cell (p := ⟨Bl, 0, none⟩) (by simp; omega)).trans cl'
        replace cc' := (hW2.cell (p := ⟨Bc, 0, none⟩) (by simp; omega)).trans cc'
        simp only [List.take_succ_cons, List.take_zero, List.drop_succ_cons, List.drop_zero]
        iterate 10 (apply reads_yes (by kernel_rfl); (go_simp; (try rfl)))
        iterate 13 (apply reads_no (by kernel_rfl))
        refine reads_tail ?_
        refine tail_no (by kernel_rfl) (by kernel_rfl) ?_
        refine tail_no (by kernel_rfl) (by kernel_rfl) ?_
        refine tail_yes (by kernel_rfl) fun K hK => ?_
        go_simp
        refine hK _ _ (tail_end ?_)
        gi_wp2
        refine bodyPost_ret (results_none rfl _ _ _) rfl ?_
        exact ⟨⟨_, rfl⟩, .inl ⟨_, HL.out, HJ.out _ _ _ none HJS.out (grown_of_below hW2) (fun r e => by cases e)⟩⟩
      · have hbe : ((k : Int) == (n : Int) - 1) = true := by rw [beq_iff_eq]; omega
        clear hk1
        have hlen : (pairsK q k).length < n := by rw [pairsK_length]; exact hlt
        gi_wp2
        apply wpIn_region_tail 23 (hm := by kernel_rfl) (hB := by kernel_rfl)
        intro W2 hW2
        replace cl' := (hW2.cell (p := ⟨Bl, 0, none⟩) (by simp; omega)).trans cl'
        replace cc' := (hW2.cell (p := ⟨Bc, 0, none⟩) (by simp; omega)).trans cc'
        replace c0 := (hW2.cell (p := ⟨b, off + k * 3, none⟩) (by simp; omega)).trans c0
        replace c1 := (hW2.cell (p := ⟨b, off + k * 3 + 1, none⟩) (by simp; omega)).trans c1
        replace c2 := (hW2.cell (p := ⟨b, off + k * 3 + 2, none⟩) (by simp; omega)).trans c2
        replace d0 := (hW2.cell (p := ⟨b, off + j * 3, none⟩) (by simp; omega)).trans d0
        replace d1 := (hW2.cell (p := ⟨b, off + j * 3 + 1, none⟩) (by simp; omega)).trans d1
        replace d2 := (hW2.cell (p := ⟨b, off + j * 3 + 2, none⟩) (by simp; omega)).trans d2
        simp only [List.take_succ_cons, List.take_zero, List.drop_succ_cons, List.drop_zero]
        iterate 10 (apply reads_yes (by kernel_rfl); (go_simp; (try rfl)))
        iterate 13 (apply reads_yes (by kernel_rfl); (go_simp; (try rfl)))
        refine reads_tail ?_
        have hJ2 := HJ.out _ _ _ none HJS.out (grown_of_below hW2) (fun r e => by cases e)
        have hk2 := HNX.out.trans (KeepR.of_below (n₁ := n₁) (n₂ := n₂) hW2 (by omega) (by omega))
        obtain ⟨fn, tmps, assign, body, hy, hR⟩ := HY.out (pairsK q k) (x, y) W2 hJ2 hlen HGK.out
        dsimp only [Vec.v] at hy
        refine tail_yes (by kernel_rfl) fun K hK => ?_
        go_simp
        first | refine hR.mono ?_ | refine ⟨fun _ => hm, hR.mono ?_⟩
        rintro e W3 (⟨rfl, hJ3, hk3⟩ | ⟨rfl, hJx3⟩)
        · refine hK _ _ (tail_yes (by kernel_rfl) fun K2 hK2 => ?_)
          go_simp
          refine hK2 _ _ (tail_yes (by kernel_rfl) fun K3 hK3 => ?_)
          go_simp
          refine hK3 _ _ (tail_end ?_)
          gi_wp2
          go_roundw
          case rel => exact ⟨k + 1, by omega, by go_num, fun _ => .inl trivial, by rw [HS.out]; exact hJ3, hk2.trans hk3⟩
          case measure => simp [intOf]; omega
        · refine hK _ _ (tail_yes (by kernel_rfl) fun K2 hK2 => ?_)
          go_simp
          refine hK2 _ _ (tail_yes (by kernel_rfl) fun K3 hK3 => ?_)
          go_simp
          refine hK3 _ _ (tail_end ?_)
          gi_wp2
          refine bodyPost_ret (results_none rfl _ _ _) rfl ?_
          exact ⟨⟨_, rfl⟩, .inr ⟨_, ⟨k + 1, by omega, HS.out.symm⟩, hJx3⟩⟩
      · have hbe : ((k : Int) == (n : Int) - 1) = false := by rw [beq_eq_false_iff_ne]; omega
        have HP := Lib.hid hk1
        clear hk1
        have hlen : (pairsK q k).length < n := by rw [pairsK_length]; exact hlt
        gi_wp2
        apply wpIn_region_tail 23 (hm := by kernel_rfl) (hB := by kernel_rfl)
        intro W2 hW2
        replace cl' := (hW2.cell (p := ⟨Bl, 0, none⟩) (by simp; omega)).trans cl'
        replace cc' := (hW2.cell (p := ⟨Bc, 0, none⟩) (by simp; omega)).trans cc'
        replace c0 := (hW2.cell (p := ⟨b, off + k * 3, none⟩) (by simp; omega)).trans c0
        replace c1 := (hW2.cell (p := ⟨b, off + k * 3 + 1, none⟩) (by simp; omega)).trans c1
        replace c2 := (hW2.cell (p := ⟨b, off + k * 3 + 2, none⟩) (by simp; omega)).trans c2
        replace d0 := (hW2.cell (p := ⟨b, off + j * 3, none⟩) (by simp; omega)).trans d0
        replace d1 := (hW2.cell (p := ⟨b, off + j * 3 + 1, none⟩) (by simp; omega)).trans d1
        replace d2 := (hW2.cell (p := ⟨b, off + j * 3 + 2, none⟩) (by simp; omega)).trans d2
        simp only [List.take_succ_cons, List.take_zero, List.drop_succ_cons, List.drop_zero]
        iterate 6 (apply reads_yes (by kernel_rfl); (go_simp; (try rfl)))
        iterate 2 (apply reads_no (by kernel_rfl))
        iterate 2 (apply reads_yes (by kernel_rfl); (go_simp; (try rfl)))
        iterate 13 (apply reads_yes (by kernel_rfl); (go_simp; (try rfl)))
        refine reads_tail ?_
        have hJ2 := HJ.out _ _ _ none HJS.out (grown_of_below hW2) (fun r e => by cases e)
        have hk2 := HNX.out.trans (KeepR.of_below (n₁ := n₁) (n₂ := n₂) hW2 (by omega) (by omega))
        obtain ⟨fn, tmps, assign, body, hy, hR⟩ := HY.out (pairsK q k) (x, y) W2 hJ2 hlen HGK.out
        dsimp only [Vec.v] at hy
        refine tail_yes (by kernel_rfl) fun K hK => ?_
        go_simp
        first | refine hR.mono ?_ | refine ⟨fun _ => hm, hR.mono ?_⟩
        rintro e W3 (⟨rfl, hJ3, hk3⟩ | ⟨rfl, hJx3⟩)
        · refine hK _ _ (tail_yes (by kernel_rfl) fun K2 hK2 => ?_)
          go_simp
          refine hK2 _ _ (tail_yes (by kernel_rfl) fun K3 hK3 => ?_)
          go_simp
          refine hK3 _ _ (tail_end ?_)
          gi_wp2
          go_roundw
          case rel => exact ⟨k + 1, by omega, by go_num, fun e => absurd e HP.out, by rw [HS.out]; exact hJ3, hk2.trans hk3⟩
          case measure => simp [intOf]; omega
        · refine hK _ _ (tail_yes (by kernel_rfl) fun K2 hK2 => ?_)
          go_simp
          refine hK2 _ _ (tail_yes (by kernel_rfl) fun K3 hK3 => ?_)
          go_simp
          refine hK3 _ _ (tail_end ?_)
          gi_wp2
          refine bodyPost_ret (results_none rfl _ _ _) rfl ?_
          exact ⟨⟨_, rfl⟩, .inr ⟨_, ⟨k + 1, by omega, HS.out.symm⟩, hJx3⟩⟩
    · obtain rfl : k = n := by omega
      have HL := Lib.hid (show closed = true ∨ k = 0 → pairsK q k = pairsL q closed by rw [pairsL_eq, HN.out]; unfold pairLen; rintro (rfl | rfl) <;> simp)
      gi_wp2
      go_end0
      rw [← HL.out (by simpa using HC)]
      exact ⟨⟨_, rfl⟩, .inl hJs⟩

theorem pairs_stops (m : Nat) (hm : 1 ≤ m) (Bl Bc n₀ n₁ n₂ n cap : Nat) (A : Option Addr) (q : List Vec) (closed : Bool) (hn : q.length = n) (hn63 : n ≤ 4611686018427387904) (hb1 : n₁ ≤ Bl) (hb2 : Bl < n₂) (hb3 : n₁ ≤ Bc) (hb4 : Bc < n₂) (w : World) (hn₀ : n₀ ≤ w.heap.size) (hn2 : n₂ ≤ w.heap.size)
    (G : Vec × Vec → Prop) (hG : ∀ k, G (getM q k, getM q (k + 1))) (hl : Blk w Bl 22 #[.slice A n cap]) (hc : Blk w Bc 4 #[.bool closed]) (hv : Vecs w n₀ A q) :
    SeqStopsK Fence.wide m Try.prog 40 #[.pointer (some ⟨Bl, 0, none⟩), .pointer (some ⟨Bc, 0, none⟩)] (fun x : { x : Vec × Vec // G x } => #[x.1.1.v, x.1.2.v]) (KeepR n₀ n₁ n₂) (fun ys => ys.map (·.1) = pairsL q closed) (fun pre => ∃ k, k ≤ n ∧ pre.map (·.1) = pairsK q k) n w := by
  intro L J Jx W hW hJ _ hY h0
  refine (pairs1_in m hm L Bl Bc n₀ n₁ n₂ n cap A q closed hn hn63 hb1 hb2 hb3 hb4 G hG (fun pre W => ∃ ys : List { x : Vec × Vec // G x }, ys.map (·.1) = pre ∧ J ys W) (fun pre W => ∃ ys : List { x : Vec × Vec // G x }, ys.map (·.1) = pre ∧ Jx ys W)
    ?_ W (Nat.le_trans hn₀ hW.size) (Nat.le_trans hn2 hW.size) ?_ (hl.keep hW) (hc.keep hW) (hv.below (hW.mono hn₀)) ⟨[], rfl, h0⟩).mono ?_
  · rintro pre x W1 ⟨ys, rfl, hj⟩ hlen hg
    obtain ⟨fn, tmps, assign, body, hy, hR⟩ := hY ys ⟨x, hg⟩ W1 hj (by simpa using hlen)
    refine ⟨fn, tmps, assign, body, hy, hR.mono ?_⟩
    rintro e W' (⟨h1, h2, h3⟩ | ⟨h1, h2⟩)
    · exact .inl ⟨h1, ⟨_, by simp, h2⟩, h3⟩
    · exact .inr ⟨h1, _, by simp, h2⟩
  · rintro pre W1 W2 row ⟨ys, he, hj⟩ hg hr
    exact ⟨ys, he, hJ ys W1 W2 row hj hg hr⟩
  · rintro e W' ⟨he, ⟨ys, h1, zs, h2, h3⟩ | ⟨pre, ⟨k, hk, h1⟩, zs, h2, h3⟩⟩
    · exact ⟨he, .inl ⟨zs, h2.trans h1, h3⟩⟩
    · exact ⟨he, .inr ⟨zs, ⟨k, hk, h2.trans h1⟩, h3⟩⟩

theorem pairs_any (m : Nat) (A : Option Addr) (n cap : Nat) (closed : Bool) (w : World) :
    CallsIn Fence.wide m Try.prog 37 #[.slice A n cap, .bool closed] w fun e w' => e = .returned (.func (.func 40) #[] #[.pointer (some ⟨w.heap.size, 0, none⟩), .pointer (some ⟨w.heap.size + 1, 0, none⟩)]) ∧
      w' = (w.alloc (.cells #[.slice A n cap] 22)).alloc (.cells #[.bool closed] 4) := by
  refine callsIn_of_wp Try.func37 rfl trivial ?_ rfl
  simp only [Try.ntmps37, List.size_toArray, List.length_cons, List.length_nil, Nat.reduceAdd, Nat.reduceSub, Array.replicate_succ, Array.replicate_zero, List.push_toArray, List.append_toArray, List.nil_append, List.cons_append]
  gi_wp2
  go_ret
  exact ⟨rfl, rfl⟩
end Go.Proofs.Ytfdjhiomdimfcaa
