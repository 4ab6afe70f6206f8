/- Twin of the reference. -/
import Derived.Test.YtjgampkpfjbmdaaValF
import Derived.Test.YtjgampkpfjbmdaaValB
import Derived.StillTail
namespace Go.Rel
open Go.RowKit
/-- Three new variables. -/
theorem three_vars (w : World) (e : TypeId) (c0 c1 c2 : Array Value) : Below w.heap.size w (((w.alloc (.cells c0 e)).alloc (.cells c1 e)).alloc (.cells c2 e)) ∧ (((w.alloc (.cells c0 e)).alloc (.cells c1 e)).alloc (.cells c2 e)).heap.size = w.heap.size + 1 + 1 + 1 ∧
    Blk (((w.alloc (.cells c0 e)).alloc (.cells c1 e)).alloc (.cells c2 e)) w.heap.size e c0 ∧ Blk (((w.alloc (.cells c0 e)).alloc (.cells c1 e)).alloc (.cells c2 e)) (w.heap.size + 1) e c1 ∧ Blk (((w.alloc (.cells c0 e)).alloc (.cells c1 e)).alloc (.cells c2 e)) (w.heap.size + 1 + 1) e c2 := boxes3 w c0 c1 c2 e e e
/-- No value at all, in a variable. -/
@[reducible] def noneV : Val := ⟨0, ⟨0, 0⟩, false, ⟨#[]⟩, none, 0, 0⟩
/-- What the call has made of an element: a slice of one. -/
def OneOf (c : Nat) (e : TypeId) (t : Tree) (v : Value) (W : World) : Prop := ∃ (u : Val) (gg : Nat), v = .slice (some ⟨gg, 0, none⟩) 1 1 ∧ c ≤ gg ∧ Blk W gg e u.box ∧ Fresh W c e t u
def MadeOf (c : Nat) (e : TypeId) (t : Tree) (v : Value) (W : World) : Prop := ∃ u : Val, v = u.v ∧ Fresh W c e t u
theorem OneOf.below {c : Nat} {e : TypeId} {t : Tree} {v : Value} {W W' : World} (h : OneOf c e t v W) (hb : Below W.heap.size W W') : OneOf c e t v W' := by
  obtain ⟨u, gg, h1, h2, h3, h4⟩ := h
  exact ⟨u, gg, h1, h2, h3.keep hb, h4.below hb⟩
theorem MadeOf.below {c : Nat} {e : TypeId} {t : Tree} {v : Value} {W W' : World} (h : MadeOf c e t v W) (hb : Below W.heap.size W W') : MadeOf c e t v W' := by
  obtain ⟨u, h1, h4⟩ := h
  exact ⟨u, h1, h4.below hb⟩
/-- A copy is returned. -/
def RetTw (e : TypeId) (w : World) (T : Tree) (en : Ending) (w' : World) : Prop := ∃ x : Val, en = .returned x.v ∧ Twn w' w.heap.size e T x ∧ Below w.heap.size w w'
theorem Blk.set6 {w : World} {g : Nat} {t : TypeId} {x : Val} (h : Blk w g t x.box) (a b c d e f : Value) : Blk ((((((w.setCell ⟨g, 0, none⟩ a).setCell ⟨g, 1, none⟩ b).setCell ⟨g, 2, none⟩ c).setCell ⟨g, 3, none⟩ d).setCell ⟨g, 4, none⟩ e).setCell ⟨g, 5, none⟩ f) g t #[a, b, c, d, e, f] := by
  have h0 := h.set_ 0 a
  have h1 := h0.set_ 1 b
  have h2 := h1.set_ 2 c
  have h3 := h2.set_ 3 d
  have h4 := h3.set_ 4 e
  have h5 := h4.set_ 5 f
  simpa [Val.box] using h5
theorem below_set6 {B : Nat} {w w' : World} {g : Nat} (h : Below B w w') (hg : B ≤ g) (a b c d e f : Value) : Below B w ((((((w'.setCell ⟨g, 0, none⟩ a).setCell ⟨g, 1, none⟩ b).setCell ⟨g, 2, none⟩ c).setCell ⟨g, 3, none⟩ d).setCell ⟨g, 4, none⟩ e).setCell ⟨g, 5, none⟩ f) :=
  (((((h.setCell (p := ⟨g, 0, none⟩) hg a).setCell (p := ⟨g, 1, none⟩) hg b).setCell (p := ⟨g, 2, none⟩) hg c).setCell (p := ⟨g, 3, none⟩) hg d).setCell (p := ⟨g, 4, none⟩) hg e).setCell (p := ⟨g, 5, none⟩) hg f
theorem far_set6 {w : World} {g k : Nat} (h : k ≠ g) (a b c d e f : Value) : ((((((w.setCell ⟨g, 0, none⟩ a).setCell ⟨g, 1, none⟩ b).setCell ⟨g, 2, none⟩ c).setCell ⟨g, 3, none⟩ d).setCell ⟨g, 4, none⟩ e).setCell ⟨g, 5, none⟩ f).heap[k]? = w.heap[k]? := by
  repeat rw [Below.heap_setCell _ _ _ _ (by exact h)]
theorem ownBlock_lt {w : World} {base : Nat} {e : TypeId} {kids : List Tree} {v : Value} {n : Nat} (h : TwR w base e kids v n) : ∀ b, v.ownBlock = some b → b < w.heap.size := fun b hb => (h.lt b hb).2
theorem cells_val {w : World} {g : Nat} {e : TypeId} {u : Val} (h : Blk w g e u.box) : ∀ (j : Nat) (v : Value), u.cells[j]? = some v → w.cell? ((⟨g, 0, none⟩ : Addr).add j) = some v := by
  intro j v hj
  have ea : (⟨g, 0, none⟩ : Addr).add j = ⟨g, j, none⟩ := by unfold Addr.add; by_cases h0 : j = 0 <;> simp [h0]
  rw [ea]
  refine h.cell ?_
  rw [← hj]
  unfold Val.cells
  simp
theorem cells_val_one (u : Val) : ∀ v ∈ u.cells, v.oneCell' = true := by
  intro v hv
  simp [Val.cells] at hv
  rcases hv with rfl | rfl | rfl | rfl | rfl | rfl <;> rfl
end Go.Rel
namespace Go.Proofs.Ytjgampkpfjbmdaa
open Go.RowKit Go.Rel
theorem Try.infoVal : (Try.prog.info? 26).map (fun i => (i.zero, i.size, i.bytes)) = some (some noneV.v, 6, 72) := by kernel_rfl
attribute [local irreducible] Go.Rel.Gives in
set_option maxHeartbeats 4000000 in
theorem refTwin_any : ∀ (d : Nat) (T : Tree) (x : Val) (w : World), fitT T d = true → RdB w w.heap.size T x →
    Calls Try.prog 6 #[x.v] w (RetTw 26 w T) := by
  intro d
  induction d with
  | zero => intro T x w h; rw [fitT_zero] at h; cases h
  | succ d ih =>
    intro T x w hf hr
    obtain ⟨kids, ys, rfl, ok, hy, hl, hrec, hk⟩ := hr.open_
    obtain ⟨e, he, -, h150, hkf⟩ := fitT_parts hf
    obtain rfl : d = e := by omega
    obtain ⟨k, q, t, s, A, len, cap⟩ := x
    have HOK := Lib.hid ok
    obtain ⟨hk0, hk1, -, -, -, -, -, -, hc, -⟩ := ok
    dsimp only at hk0 hk1 hy hl hrec hc h150
    rw [hl] at h150
    have HL := Lib.hid (show _ ∧ _ ∧ _ from ⟨hy, hl, hkf⟩)
    have HK := Lib.hid (show _ ∧ _ from ⟨hrec, hk⟩)
    have HB := Lib.hid (three_vars w 26 (Val.box ⟨k, q, t, s, A, len, cap⟩) (Val.box noneV) (Val.box ⟨k, q, t, s, none, 0, 0⟩))
    have HF := Lib.hid (show ∀ (x : Val) (w' : World), Twn w' w.heap.size 26 (.node k q t s kids) x → Below w.heap.size w w' → RetTw 26 w (.node k q t s kids) (.returned x.v) w' from fun x w' h1 h2 => ⟨x, rfl, h1, h2⟩)
    clear hy hl hkf hrec hk hf hr he
    go_enter Try.func6, Try.ntmps6
    go_wp2_with fail
    obtain ⟨hb0, hz0, hx0, hres0, hout0⟩ := HB.out
    generalize World.alloc _ _ = w0 at hb0 hz0 hx0 hres0 hout0 ⊢
    clear HB
    have HZ := Lib.hid (show w.heap.size + 1 + 1 + 1 ≤ w0.heap.size from Nat.le_of_eq hz0.symm)
    have HT := Lib.hid (TwR.nil_ w0 (w.heap.size + 1 + 1 + 1) 26 kids)
    clear hz0
    go_loopw [4] (fun iv wr => ∃ (i : Nat) (v : Value), i ≤ len ∧ iv = .int .i64 i ∧ w.heap.size + 1 + 1 + 1 ≤ wr.heap.size ∧ Below w.heap.size w wr ∧ Blk wr w.heap.size 26 (Val.box ⟨k, q, t, s, A, len, cap⟩) ∧ Blk wr (w.heap.size + 1) 26 (Val.box noneV) ∧
      Blk wr (w.heap.size + 1 + 1) 26 #[.int .u8 k, .int .i64 q.n, .int .i64 q.d, .bool t, .string s, v] ∧ TwR wr (w.heap.size + 1 + 1 + 1) 26 kids v i) (fun iv _ => len - (intOf iv).toNat)
    case atStart => exact ⟨0, _, Nat.zero_le _, rfl, HZ.out, hb0, hx0, hres0, hout0, HT.out⟩
    case round =>
      clear hb0 hx0 hres0 hout0 HT HZ
      obtain ⟨i, v, hi, rfl, hsz, hb, hx, hres, hout, htw⟩ := hrel
      by_cases hlt : i < len
      · obtain ⟨b, off, u, y, rfl, hB, g1, g2, hru, e0, e1, e2, e3, e4, e5⟩ := val_at HL.out.1 HL.out.2.1 HK.out.1 HK.out.2 hlt
        have hs0 := hb.size
        have a0 : ∀ W, Below wr.heap.size wr W → W.cell? ⟨b, off + i * 6, none⟩ = some (.int .u8 u.k) := fun W hW => (hW.cell (p := ⟨b, off + i * 6, none⟩) (by simp only; omega)).trans ((hb.cell (p := ⟨b, off + i * 6, none⟩) hB).trans e0)
        have a1 : ∀ W, Below wr.heap.size wr W → W.cell? ⟨b, off + i * 6 + 1, none⟩ = some (.int .i64 u.q.n) := fun W hW => (hW.cell (p := ⟨b, off + i * 6 + 1, none⟩) (by simp only; omega)).trans ((hb.cell (p := ⟨b, off + i * 6 + 1, none⟩) hB).trans e1)
        have a2 : ∀ W, Below wr.heap.size wr W → W.cell? ⟨b, off + i * 6 + 2, none⟩ = some (.int .i64 u.q.d) := fun W hW => (hW.cell (p := ⟨b, off + i * 6 + 2, none⟩) (by simp only; omega)).trans ((hb.cell (p := ⟨b, off + i * 6 + 2, none⟩) hB).trans e2)
        have a3 : ∀ W, Below wr.heap.size wr W → W.cell? ⟨b, off + i * 6 + 3, none⟩ = some (.bool u.t) := fun W hW => (hW.cell (p := ⟨b, off + i * 6 + 3, none⟩) (by simp only; omega)).trans ((hb.cell (p := ⟨b, off + i * 6 + 3, none⟩) hB).trans e3)
        have a4 : ∀ W, Below wr.heap.size wr W → W.cell? ⟨b, off + i * 6 + 4, none⟩ = some (.string u.s) := fun W hW => (hW.cell (p := ⟨b, off + i * 6 + 4, none⟩) (by simp only; omega)).trans ((hb.cell (p := ⟨b, off + i * 6 + 4, none⟩) hB).trans e4)
        have a5 : ∀ W, Below wr.heap.size wr W → W.cell? ⟨b, off + i * 6 + 5, none⟩ = some (.slice u.A u.len u.cap) := fun W hW => (hW.cell (p := ⟨b, off + i * 6 + 5, none⟩) (by simp only; omega)).trans ((hb.cell (p := ⟨b, off + i * 6 + 5, none⟩) hB).trans e5)
        have bx5 : ∀ W, Below wr.heap.size wr W → W.cell? ⟨w.heap.size, 5, none⟩ = some (.slice (some ⟨b, off, none⟩) len cap) := fun W hW => (hx.keep hW).cell rfl
        have bo5 : ∀ W, Below wr.heap.size wr W → W.cell? ⟨w.heap.size + 1 + 1, 5, none⟩ = some v := fun W hW => (hout.keep hW).cell rfl
        have hlt2 : (i : Int) < len := by omega
        have HR := Lib.hid (fun W (hW : Below wr.heap.size wr W) => ih y u W (HL.out.2.2 _ (List.mem_of_getElem? g1)) (hru.in_ (hb.trans (hW.mono hb.size)) (Nat.le_trans hb.size hW.size)))
        have HG := Lib.hid g1
        clear e0 e1 e2 e3 e4 e5 g1 g2 hru
        have c5 := bx5 wr (Below.refl _ _)
        go_wp2_with fail
        clear c5
        apply wp_region_head 9 26 (hm := by kernel_rfl) (hN := rfl)
        case h =>
          simp only [List.take_succ_cons, List.take_zero]
          iterate 7 (apply head_still rfl; (intro W hW; go_simp; (try rfl)))
          apply head_mem [] (MadeOf wr.heap.size 26 y) (by kernel_rfl) (fun _ _ _ h hb => h.below hb)
          · intro W hW _
            unfold Gives
            go_simp
            exact (HR.out W hW).mono fun e W' ⟨x', h1, h2, h3⟩ => ⟨_, h1, ⟨x', rfl, h2.fresh.keep hW.size (fun _ _ _ => rfl)⟩, h3⟩
          intro v7
          apply head_mem [7] (OneOf wr.heap.size 26 y) (by kernel_rfl) (fun _ _ _ h hb => h.below hb)
          · intro W hW hk
            obtain ⟨u', rfl, hu'⟩ := hk.1 (by simp)
            have hnew := Blk.new W 26 u'.box
            have hbl := below_alloc W (.cells u'.box 26)
            unfold Gives
            go_simp
            exact ⟨u', W.heap.size, rfl, hW.size, hnew, hu'.below hbl⟩
          intro v8
          refine head_nil ?_
          intro W hW hF
          obtain ⟨⟨u', gg, rfl, hgg, hbg, hu'⟩, -⟩ := hF
          have hsW := hW.size
          have hvlt := fun b hb' => (htw.lt b hb').2
          replace htw := htw.below hW
          obtain ⟨ys', hyl, hown, hkids⟩ := id htw
          replace hb := hb.trans (hW.mono hb.size)
          replace hx := hx.keep hW
          replace hres := hres.keep hW
          replace hout := hout.keep hW
          obtain ⟨i0, hi0, hz0, hz1, hz2⟩ := info_parts Try.infoVal
          clear htw hW a0 a1 a2 a3 a4 a5 bx5 bo5
          simp only [List.drop_succ_cons, List.drop_zero, Act.put, List.setIfInBounds_toArray, List.set_cons_succ, List.set_cons_zero]
          refine wpList_append_lies _ rfl _ _ 24 rfl (w.heap.size + 1 + 1 + 1) 26 i0 noneV.v 6 72 Try.underlying24 hi0 hz0 hz1 hz2 rfl (by decide) v i (ys'.flatMap Val.cells) rfl hown ⟨gg, 0, none⟩ 1 1 u'.cells rfl rfl (cells_val hbg) (cells_val_one u') (by omega) (by unfold maxLen; omega) (by omega) (by omega) W.heap.size rfl ?_
          intro g' cap' w7 hown' hgrow hg' hg7
          have htw7 := TwR.snoc hyl hkids hvlt hsz HG.out hu' hown' hgrow (hg'.imp (fun h => h.symm) (fun h => congrArg some h))
          have far : ∀ k, k < w.heap.size + 1 + 1 + 1 → w7.heap[k]? = W.heap[k]? := fun k hk => hgrow.block k (by omega) (fun h => by have := (hown.lt k h.symm).1; omega)
          have hb7 := hb.grown hgrow (by have := hb.size; omega) (fun r hr => by have := (hown.lt r hr).1; omega)
          have hx7 : Blk w7 _ _ _ := (far _ (by omega)).trans hx
          have hres7 : Blk w7 _ _ _ := (far _ (by omega)).trans hres
          have hout7 : Blk w7 _ _ _ := (far _ (by omega)).trans hout
          have hfr := hout7.frozen 5
          have ho5 := hout7.cell (i := 5) rfl
          have hol := hout7.lt
          have hout8 := hout7.set_ 5 (.slice (some ⟨g', 0, none⟩) (i + 1) cap')
          have hx8 := hx7.far (p := ⟨w.heap.size + 1 + 1, 5, none⟩) (by simp only; omega) (.slice (some ⟨g', 0, none⟩) (i + 1) cap')
          have hres8 := hres7.far (p := ⟨w.heap.size + 1 + 1, 5, none⟩) (by simp only; omega) (.slice (some ⟨g', 0, none⟩) (i + 1) cap')
          have hb8 := hb7.setCell (p := ⟨w.heap.size + 1 + 1, 5, none⟩) (by simp only; omega) (.slice (some ⟨g', 0, none⟩) (i + 1) cap')
          have htw8 := htw7.keep (w' := w7.setCell ⟨w.heap.size + 1 + 1, 5, none⟩ (.slice (some ⟨g', 0, none⟩) (i + 1) cap')) (Nat.le_refl _) (fun b hb _ => Below.heap_setCell _ _ _ _ (by simp only; omega))
          have HM := Lib.hid (show _ ∧ _ ∧ _ ∧ _ ∧ _ from ⟨hb8, hx8, hres8, hout8, htw8⟩)
          have hsz7 : w.heap.size + 1 + 1 + 1 ≤ w7.heap.size := by have := hgrow.size; omega
          clear hown hkids hyl hvlt hb hx hres hout hbg hu' hgrow hg' hown' htw7 far hb7 hx7 hres7 hout7 hout8 hx8 hres8 hb8 htw8 hi0 hz0 hz1 hz2
          go_wp2_with fail
          go_roundw
          case rel => exact ⟨i + 1, _, by omega, by go_num, by simpa using hsz7, HM.out⟩
          case measure => simp [intOf]; omega
        case hB => kernel_rfl
        all_goals rfl
      · obtain rfl : i = len := by omega
        obtain ⟨A', cap', rfl, htn⟩ := htw.done HL.out.2.1 HOK.out
        obtain ⟨o0, o1, o2, o3, o4, o5⟩ := Blk.val (x := ⟨k, q, t, s, A', i, cap'⟩) hout
        obtain ⟨r0, r1, r2, r3, r4, r5⟩ := hres.val
        have rf := hres.frozen
        have rl := hres.lt
        have c5 := hx.val.2.2.2.2.2
        have n1 := hres.set6 (.int .u8 k) (.int .i64 q.n) (.int .i64 q.d) (.bool t) (.string s) (.slice A' i cap')
        have n2 := below_set6 hb (show w.heap.size ≤ w.heap.size + 1 by omega) (.int .u8 k) (.int .i64 q.n) (.int .i64 q.d) (.bool t) (.string s) (.slice A' i cap')
        have n3 := htn.keep (w' := _) (show w.heap.size ≤ w.heap.size + 1 + 1 + 1 by omega) (fun b hb _ => far_set6 (w := wr) (g := w.heap.size + 1) (k := b) (by omega) (.int .u8 k) (.int .i64 q.n) (.int .i64 q.d) (.bool t) (.string s) (.slice A' i cap'))
        obtain ⟨k0, k1, k2, k3, k4, k5⟩ := Blk.val (x := ⟨k, q, t, s, A', i, cap'⟩) n1
        have HN := Lib.hid (show _ ∧ _ from ⟨n2, n3⟩)
        clear n1 n2 n3 htn htw hb hx hres hout
        go_wp2_with fail
        exact bodyPost_ret (v := Val.v ⟨k, q, t, s, A', i, cap'⟩) (by simp [results, Try.results6, go_sem, k0, k1, k2, k3, k4, k5]) rfl (HF.out ⟨k, q, t, s, A', i, cap'⟩ _ HN.out.2 HN.out.1)
end Go.Proofs.Ytjgampkpfjbmdaa
