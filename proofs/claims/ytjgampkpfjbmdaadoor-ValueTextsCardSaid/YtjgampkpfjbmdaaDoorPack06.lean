/- Texts put together: ValG, ValH, ValI. -/
import Derived.Test.YtjgampkpfjbmdaaDoorPack05
import Derived.Test.YtjgampkpfjbmdaaDoorPack04
import Derived.StillTail
import Derived.Laws.EntriesVeiled
section
/- Twin of the reference. -/
namespace Go.Rel
open Go.RowKit
/-- Three new variables. -/
theorem three_vars (w : World) (e : TypeId) (c0 c1 c2 : Array Value) : Below w.heap.size w (((w.alloc (.cells c0 e)).alloc (.cells c1 e)).alloc (.cells c2 e)) ∧ (((w.alloc (.cells c0 e)).alloc (.cells c1 e)).alloc (.cells c2 e)).heap.size = w.heap.size + 1 + 1 + 1 ∧
    Blk (((w.alloc (.cells c0 e)).alloc (.cells c1 e)).alloc (.cells c2 e)) w.heap.size e c0 ∧ Blk (((w.alloc (.cells c0 e)).alloc (.cells c1 e)).alloc (.cells c2 e)) (w.heap.size + 1) e c1 ∧ Blk (((w.alloc (.cells c0 e)).alloc (.cells c1 e)).alloc (.cells c2 e)) (w.heap.size + 1 + 1) e c2 := boxes3 w c0 c1 c2 e e e
/-- No value at all, in a variable. -/
@[reducible] def noneV : Val := ⟨0, ⟨0, 0⟩, false, ⟨#[]⟩, none, 0, 0⟩
/-- What the call has made of an element: a slice of one. -/
def OneOf (c : Nat) (e : TypeId) (t : Tree) (v : Value) (W : World) : Prop := ∃ (u : Val) (gg : Nat), v = .slice (some ⟨gg, 0, none⟩) 1 1 ∧ c ≤ gg ∧ Blk W gg e u.box ∧ Fresh W c e t u
def MadeOf (c : Nat) (e : TypeId) (t : Tree) (v : Value) (W : World) : Prop := ∃ u : Val, v = u.v ∧ Fresh W c e t u
theorem OneOf.below {c : Nat} {e : TypeId} {t : Tree} {v : Value} {W W' : World} (h : OneOf c e t v W) (hb : Below W.heap.size W W') : OneOf c e t v W' := by
  obtain ⟨u, gg, h1, h2, h3, h4⟩ := h
  exact ⟨u, gg, h1, h2, h3.keep hb, h4.below hb⟩
theorem MadeOf.below {c : Nat} {e : TypeId} {t : Tree} {v : Value} {W W' : World} (h : MadeOf c e t v W) (hb : Below W.heap.size W W') : MadeOf c e t v W' := by
  obtain ⟨u, h1, h4⟩ := h
  exact ⟨u, h1, h4.below hb⟩
/-- A copy is returned. -/
def RetTw (e : TypeId) (w : World) (T : Tree) (en : Ending) (w' : World) : Prop := ∃ x : Val, en = .returned x.v ∧ Twn w' w.heap.size e T x ∧ Below w.heap.size w w'
theorem Blk.set6 {w : World} {g : Nat} {t : TypeId} {x : Val} (h : Blk w g t x.box) (a b c d e f : Value) : Blk ((((((w.setCell ⟨g, 0, none⟩ a).setCell ⟨g, 1, none⟩ b).setCell ⟨g, 2, none⟩ c).setCell ⟨g, 3, none⟩ d).setCell ⟨g, 4, none⟩ e).setCell ⟨g, 5, none⟩ f) g t #[a, b, c, d, e, f] := by
  have h0 := h.set_ 0 a
  have h1 := h0.set_ 1 b
  have h2 := h1.set_ 2 c
  have h3 := h2.set_ 3 d
  have h4 := h3.set_ 4 e
  have h5 := h4.set_ 5 f
  simpa [Val.box] using h5
theorem below_set6 {B : Nat} {w w' : World} {g : Nat} (h : Below B w w') (hg : B ≤ g) (a b c d e f : Value) : Below B w ((((((w'.setCell ⟨g, 0, none⟩ a).setCell ⟨g, 1, none⟩ b).setCell ⟨g, 2, none⟩ c).setCell ⟨g, 3, none⟩ d).setCell ⟨g, 4, none⟩ e).setCell ⟨g, 5, none⟩ f) :=
  (((((h.setCell (p := ⟨g, 0, none⟩) hg a).setCell (p := ⟨g, 1, none⟩) hg b).setCell (p := ⟨g, 2, none⟩) hg c).setCell (p := ⟨g, 3, none⟩) hg d).setCell (p := ⟨g, 4, none⟩) hg e).setCell (p := ⟨g, 5, none⟩) hg f
theorem far_set6 {w : World} {g k : Nat} (h : k ≠ g) (a b c d e f : Value) : ((((((w.setCell ⟨g, 0, none⟩ a).setCell ⟨g, 1, none⟩ b).setCell ⟨g, 2, none⟩ c).setCell ⟨g, 3, none⟩ d).setCell ⟨g, 4, none⟩ e).setCell ⟨g, 5, none⟩ f).heap[k]? = w.heap[k]? := by
  repeat rw [Below.heap_setCell _ _ _ _ (by exact h)]
theorem ownBlock_lt {w : World} {base : Nat} {e : TypeId} {kids : List Tree} {v : Value} {n : Nat} (h : TwR w base e kids v n) : ∀ b, v.ownBlock = some b → b < w.heap.size := fun b hb => (h.lt b hb).2
theorem cells_val {w : World} {g : Nat} {e : TypeId} {u : Val} (h : Blk w g e u.box) : ∀ (j : Nat) (v : Value), u.cells[j]? = some v → w.cell? ((⟨g, 0, none⟩ : Addr).add j) = some v := by
  intro j v hj
  have ea : (⟨g, 0, none⟩ : Addr).add j = ⟨g, j, none⟩ := by unfold Addr.add; by_cases h0 : j = 0 <;> simp [h0]
  rw [ea]
  refine h.cell ?_
  rw [← hj]
  unfold Val.cells
  simp
theorem cells_val_one (u : Val) : ∀ v ∈ u.cells, v.oneCell' = true := by
  intro v hv
  simp [Val.cells] at hv
  rcases hv with rfl | rfl | rfl | rfl | rfl | rfl <;> rfl
end Go.Rel
namespace Go.Proofs.YtjgampkpfjbmdaaDoor
open Go.RowKit Go.Rel
theorem Tryd.infoVal : (Tryd.prog.info? 26).map (fun i => (i.zero, i.size, i.bytes)) = some (some noneV.v, 6, 72) := by kernel_rfl
end Go.Proofs.YtjgampkpfjbmdaaDoor
end
section
/- Twin of the program. -/
namespace Go.Proofs.YtjgampkpfjbmdaaDoor
open Go.RowKit Go.Rel
/-- The variable that holds the closure. -/
def TwV (w : World) (g : Nat) : Prop := Blk w g 65 #[.func (.func 56) #[] #[.pointer (some ⟨g, 0, none⟩)]]
theorem TwV.keep {w w' : World} {g : Nat} (h : TwV w g) (hb : Below w.heap.size w w') : TwV w' g := Blk.keep h hb
theorem TwV.cell {w : World} {g : Nat} (h : TwV w g) : w.cell? ⟨g, 0, none⟩ = some (.func (.func 56) #[] #[.pointer (some ⟨g, 0, none⟩)]) := Blk.cell (i := 0) h rfl
set_option maxHeartbeats 4000000 in
theorem twin1_any : ∀ (d : Nat) (T : Tree) (x : Val) (g : Nat) (w : World), fitT T d = true → RdB w w.heap.size T x → TwV w g →
    Calls Tryd.prog 56 #[x.v, .pointer (some ⟨g, 0, none⟩)] w (RetTw 26 w T) := by
  intro d
  induction d with
  | zero => intro T x g w h; rw [fitT_zero] at h; cases h
  | succ d ih =>
    intro T x g w hf hr hg
    obtain ⟨kids, ys, rfl, ok, hy, hl, hrec, hk⟩ := hr.open_
    obtain ⟨e, he, -, h150, hkf⟩ := fitT_parts hf
    obtain rfl : d = e := by omega
    obtain ⟨k, q, t, s, A, len, cap⟩ := x
    have HOK := Lib.hid ok
    obtain ⟨hk0, hk1, -, -, -, -, -, -, hc, -⟩ := ok
    dsimp only at hk0 hk1 hy hl hrec hc h150
    rw [hl] at h150
    have HL := Lib.hid (show _ ∧ _ ∧ _ from ⟨hy, hl, hkf⟩)
    have HK := Lib.hid (show _ ∧ _ from ⟨hrec, hk⟩)
    have HG := Lib.hid hg
    have hgl := Blk.lt hg
    have HB := Lib.hid (two_vars w 26 26 ⟨k, q, t, s, A, len, cap⟩ (Val.box noneV))
    have HF := Lib.hid (show ∀ (x : Val) (w' : World), Twn w' w.heap.size 26 (.node k q t s kids) x → Below w.heap.size w w' → RetTw 26 w (.node k q t s kids) (.returned x.v) w' from fun x w' h1 h2 => ⟨x, rfl, h1, h2⟩)
    clear hy hl hkf hrec hk hf hr he hg
    obtain ⟨c0, c1, c2, c3, c4, c5⟩ := HB.out.2.1.val
    go_enter Tryd.func56, Tryd.ntmps56
    go_wp2_with fail
    clear c0 c1 c2 c3 c4 c5
    obtain ⟨hb0, hx0, hres0⟩ := HB.out
    have hz0 : ((w.alloc (.cells (Val.box ⟨k, q, t, s, A, len, cap⟩) 26)).alloc (.cells (Val.box noneV) 26)).heap.size = w.heap.size + 1 + 1 := by simp
    generalize World.alloc _ _ = w0 at hb0 hz0 hx0 hres0 ⊢
    clear HB
    have HZ := Lib.hid (show w.heap.size + 1 + 1 ≤ w0.heap.size from Nat.le_of_eq hz0.symm)
    have HT := Lib.hid (TwR.nil_ w0 (w.heap.size + 1 + 1) 26 kids)
    clear hz0
    go_loopw [4, 10] (fun vv iv wr => ∃ (i : Nat) (v : Value), i ≤ len ∧ v = vv ∧ iv = .int .i64 i ∧ w.heap.size + 1 + 1 ≤ wr.heap.size ∧ Below w.heap.size w wr ∧ Blk wr w.heap.size 26 (Val.box ⟨k, q, t, s, A, len, cap⟩) ∧ Blk wr (w.heap.size + 1) 26 (Val.box noneV) ∧
      TwR wr (w.heap.size + 1 + 1) 26 kids v i) (fun _ iv _ => len - (intOf iv).toNat)
    case atStart => exact ⟨0, _, Nat.zero_le _, rfl, rfl, HZ.out, hb0, hx0, hres0, HT.out⟩
    case round =>
      clear hb0 hx0 hres0 HT HZ
      obtain ⟨i, v, hi, rfl, rfl, hsz, hb, hx, hres, htw⟩ := hrel
      by_cases hlt : i < len
      · obtain ⟨b, off, u, y, rfl, hB, g1, g2, hru, e0, e1, e2, e3, e4, e5⟩ := val_at HL.out.1 HL.out.2.1 HK.out.1 HK.out.2 hlt
        rw [← hb.cell (p := ⟨b, _, none⟩) hB] at e0 e1 e2 e3 e4 e5
        have hba := below_alloc wr (.cells u.box 26)
        have hb1 := hb.trans (hba.mono hb.size)
        have hgw := (HG.out.keep (hb.mono (Nat.le_refl _))).keep hba
        have HR := Lib.hid (ih y u g (wr.alloc (.cells u.box 26)) (HL.out.2.2 _ (List.mem_of_getElem? g1)) (hru.in_ hb1 hb1.size) hgw)
        have gc := (HG.out.keep (hb.mono (Nat.le_refl _))).cell
        have hgl2 : g < wr.heap.size := by have := hb.size; omega
        have HG1 := Lib.hid g1
        have hvlt := fun b hb' => (htw.lt b hb').2
        have HM1 := Lib.hid (show _ ∧ _ ∧ _ ∧ _ from ⟨hb1, hx.keep hba, hres.keep hba, htw.below hba⟩)
        have HVL := Lib.hid hvlt
        clear g1 g2 hru hb1 hba hgw hvlt hx hres htw
        go_wp2_with fail
        refine (HR.out).mono ?_
        rintro e W ⟨u', rfl, htw', hW⟩
        obtain ⟨hb1, hx, hres, htw⟩ := HM1.out
        have hfr := htw'.fresh
        have hnew := Blk.new W 26 u'.box
        have hbl := below_alloc W (.cells u'.box 26)
        have hWb := hW.trans (hbl.mono hW.size)
        have hu' := (hfr.below hbl).keep (base' := wr.heap.size) (by simp) (fun _ _ _ => rfl)
        replace htw := htw.below hWb
        replace hb := hb1.trans (hWb.mono hb1.size)
        replace hx := hx.keep hWb
        replace hres := hres.keep hWb
        obtain ⟨ys', hyl, hown, hkids⟩ := id htw
        obtain ⟨i0, hi0, hz0, hz1, hz2⟩ := info_parts Tryd.infoVal
        have hszW : wr.heap.size + 1 ≤ W.heap.size := by have := hW.size; simpa using this
        have HM := Lib.hid (show _ ∧ _ ∧ _ ∧ _ ∧ _ ∧ _ from ⟨hb, hx, hres, hyl, hkids, hu'⟩)
        clear htw hW hWb hfr htw' hbl hb hx hres hyl hkids hu' HM1 HR hb1 e0 e1 e2 e3 e4 e5
        go_wp2_with (at_builtin; refine wpList_append_lies _ (by rfl) _ _ 24 (by rfl) (w.heap.size + 1 + 1) 26 i0 noneV.v 6 72 Tryd.underlying24 hi0 hz0 hz1 hz2 rfl (by decide) v i (ys'.flatMap Val.cells) (by rfl) hown ⟨W.heap.size, 0, none⟩ 1 1 u'.cells (by rfl) (by rfl) (cells_val hnew) (cells_val_one u') (by omega) (by unfold maxLen; omega) (by omega) (by simp; omega) (W.heap.size + 1) (by simp) ?_)
        intro g' cap' w7 hown' hgrow hg' hg7
        obtain ⟨hb, hx, hres, hyl, hkids, hu'⟩ := HM.out
        have htw7 := TwR.snoc hyl hkids HVL.out hsz HG1.out hu' hown' hgrow (hg'.imp (fun h => h.symm) (fun h => congrArg some (by simpa using h)))
        have far : ∀ k, k < w.heap.size + 1 + 1 → w7.heap[k]? = _ := fun k hk => hgrow.block k (by simp; omega) (fun h => by have := (hown.lt k h.symm).1; omega)
        have hb7 := hb.grown hgrow (by have := hb.size; omega) (fun r hr => by have := (hown.lt r hr).1; omega)
        have hx7 : Blk w7 _ _ _ := (far _ (by omega)).trans hx
        have hres7 : Blk w7 _ _ _ := (far _ (by omega)).trans hres
        have hsz7 : w.heap.size + 1 + 1 ≤ w7.heap.size := by have := hgrow.size; simp at this; omega
        have HM2 := Lib.hid (show _ ∧ _ ∧ _ ∧ _ from ⟨hb7, hx7, hres7, htw7⟩)
        clear hown hown' hgrow hg' far hb7 hx7 hres7 htw7 hb hx hres hyl hkids hu' HM hi0 hz0 hz1 hz2 hnew
        go_wp2_with fail
        go_roundw
        case rel => exact ⟨i + 1, _, by omega, rfl, by go_num, hsz7, HM2.out⟩
        case measure => simp [intOf]; omega
      · obtain rfl : i = len := by omega
        obtain ⟨A', cap', rfl, htn⟩ := htw.done HL.out.2.1 HOK.out
        have hx' := hx.set_ 5 (.slice A' i cap')
        have hxx : Blk (wr.setCell ⟨w.heap.size, 5, none⟩ (.slice A' i cap')) w.heap.size 26 (Val.box ⟨k, q, t, s, A', i, cap'⟩) := by simpa [Val.box] using hx'
        have hf5 := hx.frozen 5
        obtain ⟨c0, c1, c2, c3, c4, hx5⟩ := hx.val
        have hxl := hx.lt
        have hres2 := hres.far (p := ⟨w.heap.size, 5, none⟩) (by simp) (.slice A' i cap')
        have hb2 := hb.setCell (p := ⟨w.heap.size, 5, none⟩) (Nat.le_refl _) (.slice A' i cap')
        have htn2 := htn.keep (w' := wr.setCell ⟨w.heap.size, 5, none⟩ (.slice A' i cap')) (Nat.le_refl _) (fun b hb _ => Below.heap_setCell _ _ _ _ (by simp only; omega))
        obtain ⟨r0, r1, r2, r3, r4, r5⟩ := hres.val
        have rf := hres.frozen
        have rl := hres.lt
        have n1 := hres2.set6 (.int .u8 k) (.int .i64 q.n) (.int .i64 q.d) (.bool t) (.string s) (.slice A' i cap')
        have n2 := below_set6 hb2 (show w.heap.size ≤ w.heap.size + 1 by omega) (.int .u8 k) (.int .i64 q.n) (.int .i64 q.d) (.bool t) (.string s) (.slice A' i cap')
        have n3 := htn2.keep (w' := _) (show w.heap.size ≤ w.heap.size + 1 + 1 by omega) (fun b hb _ => far_set6 (w := wr.setCell ⟨w.heap.size, 5, none⟩ (.slice A' i cap')) (g := w.heap.size + 1) (k := b) (by omega) (.int .u8 k) (.int .i64 q.n) (.int .i64 q.d) (.bool t) (.string s) (.slice A' i cap'))
        obtain ⟨k0, k1, k2, k3, k4, k5⟩ := Blk.val (x := ⟨k, q, t, s, A', i, cap'⟩) n1
        have HN := Lib.hid (show _ ∧ _ from ⟨n2, n3⟩)
        clear n1 n2 n3 hx' hxx hres2 hb2 htn2 hx hres hb htn htw
        go_wp2_with fail
        exact bodyPost_ret (v := Val.v ⟨k, q, t, s, A', i, cap'⟩) (by simp [results, Tryd.results56, go_sem, k0, k1, k2, k3, k4, k5]) rfl (HF.out ⟨k, q, t, s, A', i, cap'⟩ _ HN.out.2 HN.out.1)

set_option maxHeartbeats 1000000 in
theorem twin_any (d : Nat) (T : Tree) (x : Val) (w : World) (hf : fitT T d = true) (hr : RdB w w.heap.size T x) :
    Calls Tryd.prog 37 #[x.v] w (RetTw 26 w T) := by
  obtain ⟨h1, h2, h3, h4, h5⟩ := boxes3 w x.box noneV.box #[.func (.func 56) #[] #[.pointer (some ⟨w.heap.size + 1 + 1, 0, none⟩)]] 26 26 65
  have HW := Lib.hid (show _ ∧ _ ∧ _ from ⟨h1, h2, show Blk _ _ _ _ from h4⟩)
  have HR := Lib.hid (twin1_any d T x (w.heap.size + 1 + 1) _ hf (hr.in_ h1 h1.size) h5)
  have HF := Lib.hid (show ∀ (x : Val) (w' : World), Twn w' w.heap.size 26 T x → Below w.heap.size w w' → RetTw 26 w T (.returned x.v) w' from fun x w' h1 h2 => ⟨x, rfl, h1, h2⟩)
  clear h1 h2 h3 h4 h5 hf hr
  go_enter Tryd.func37, Tryd.ntmps37
  go_wp2_with fail
  refine (HR.out).mono ?_
  rintro e W ⟨x', rfl, htn, hW⟩
  obtain ⟨hb0, hz, hres⟩ := HW.out
  replace hres := hres.keep hW
  replace hb0 := hb0.trans (hW.mono hb0.size)
  rw [hz] at htn
  clear HW hW HR
  obtain ⟨k, q, t, s, A', i, cap'⟩ := x'
  obtain ⟨r0, r1, r2, r3, r4, r5⟩ := hres.val
  have rf := hres.frozen
  have rl := hres.lt
  have n1 := hres.set6 (.int .u8 k) (.int .i64 q.n) (.int .i64 q.d) (.bool t) (.string s) (.slice A' i cap')
  have n2 := below_set6 hb0 (show w.heap.size ≤ w.heap.size + 1 by omega) (.int .u8 k) (.int .i64 q.n) (.int .i64 q.d) (.bool t) (.string s) (.slice A' i cap')
  have n3 := htn.keep (w' := _) (show w.heap.size ≤ w.heap.size + 1 + 1 + 1 by omega) (fun b hb _ => far_set6 (w := W) (g := w.heap.size + 1) (k := b) (by omega) (.int .u8 k) (.int .i64 q.n) (.int .i64 q.d) (.bool t) (.string s) (.slice A' i cap'))
  obtain ⟨k0, k1, k2, k3, k4, k5⟩ := Blk.val (x := ⟨k, q, t, s, A', i, cap'⟩) n1
  have HN := Lib.hid (show _ ∧ _ from ⟨n2, n3⟩)
  clear n1 n2 n3 hres hb0 htn hz
  go_wp2_with fail
  exact bodyPost_ret (v := Val.v ⟨k, q, t, s, A', i, cap'⟩) (by simp [results, Tryd.results37, go_sem, k0, k1, k2, k3, k4, k5]) rfl (HF.out ⟨k, q, t, s, A', i, cap'⟩ _ HN.out.2 HN.out.1)
end Go.Proofs.YtjgampkpfjbmdaaDoor
end
section
/- Len and At on both sides; spoil. -/
namespace Go.Rel
open Go.RowKit
/-- The length of a value, and the error. -/
def lenN (T : Tree) : Int := if chkT T ≠ 0 then 0 else if T.k = 3 then T.s.size else if T.k = 4 then T.kids.length else 0
def lenE (T : Tree) : Int := if chkT T ≠ 0 then chkT T else if T.k = 3 ∨ T.k = 4 then 0 else 20
/-- An element of a value, and the error. -/
def atT (T : Tree) (i : Int) : Tree := if lenE T ≠ 0 then .none_ else if i < 0 ∨ lenN T ≤ i then .none_ else if T.k = 4 then (T.kids[i.toNat]?).getD .none_ else tStr (T.s.extract i.toNat (i.toNat + 1))
def atE (T : Tree) (i : Int) : Int := if lenE T ≠ 0 then lenE T else if i < 0 ∨ lenN T ≤ i then 2 else 0
/-- A value without a list is of the call's own. -/
theorem fresh_leaf (w : World) (base : Nat) (e : TypeId) {k : Int} {q : Rat2} {t : Bool} {s : ByteArray} (ok : Val.Ok ⟨k, q, t, s, none, 0, 0⟩) : Fresh w base e (.node k q t s []) ⟨k, q, t, s, none, 0, 0⟩ :=
  .mk ⟨k, q, t, s, none, 0, 0⟩ [] [] ok rfl rfl (fun h => by simp at h) (fun i t y h => by simp at h)
theorem ok_none : Val.Ok ⟨0, ⟨0, 0⟩, false, ⟨#[]⟩, none, 0, 0⟩ := ⟨by simp, by simp, by simp, by simp, by simp, by simp, (show (0 : Nat) ≤ 9223372036854775807 by omega), by simp, by simp, fun _ => rfl⟩
theorem ok_str {s : ByteArray} (h : s.size ≤ 9223372036854775807) : Val.Ok ⟨3, ⟨0, 0⟩, false, s, none, 0, 0⟩ := ⟨by simp, by simp, by simp, by simp, by simp, by simp, h, by simp, by simp, fun _ => rfl⟩
/-- A value of the call's own is returned, and an error. -/
def RetVE (e : TypeId) (w : World) (T : Tree) (E : Int) (en : Ending) (w' : World) : Prop := ∃ x : Val, en = .returned (.tuple #[x.v, .int .i64 E]) ∧ Fresh w' w.heap.size e T x ∧ Below w.heap.size w w'
theorem lenE_bad {T : Tree} (h : chkT T ≠ 0) : lenN T = 0 ∧ lenE T = chkT T := by unfold lenN lenE; exact ⟨if_pos h, if_pos h⟩
theorem lenE_str {q : Rat2} {t : Bool} {s : ByteArray} {kids : List Tree} (h : chkT (.node 3 q t s kids) = 0) : lenN (.node 3 q t s kids) = s.size ∧ lenE (.node 3 q t s kids) = 0 := by
  unfold lenN lenE
  exact ⟨(if_neg (fun n => n h)).trans (if_pos rfl), (if_neg (fun n => n h)).trans (if_pos (.inl rfl))⟩
theorem lenE_list {q : Rat2} {t : Bool} {s : ByteArray} {kids : List Tree} (h : chkT (.node 4 q t s kids) = 0) : lenN (.node 4 q t s kids) = kids.length ∧ lenE (.node 4 q t s kids) = 0 := by
  unfold lenN lenE
  exact ⟨(if_neg (fun n => n h)).trans ((if_neg (show ¬ (4 : Int) = 3 by decide)).trans (if_pos rfl)), (if_neg (fun n => n h)).trans (if_pos (.inr rfl))⟩
theorem lenE_else {k : Int} {q : Rat2} {t : Bool} {s : ByteArray} {kids : List Tree} (h : chkT (.node k q t s kids) = 0) (h3 : k ≠ 3) (h4 : k ≠ 4) : lenN (.node k q t s kids) = 0 ∧ lenE (.node k q t s kids) = 20 := by
  unfold lenN lenE
  exact ⟨(if_neg (fun n => n h)).trans ((if_neg h3).trans (if_neg h4)), (if_neg (fun n => n h)).trans (if_neg (fun n => n.elim h3 h4))⟩
theorem at_bad {T : Tree} {i : Int} (h : lenE T ≠ 0) : atT T i = .none_ ∧ atE T i = lenE T := by unfold atT atE; rw [if_pos h, if_pos h]; exact ⟨rfl, rfl⟩
theorem at_out {T : Tree} {i : Int} (h : lenE T = 0) (h2 : i < 0 ∨ lenN T ≤ i) : atT T i = .none_ ∧ atE T i = 2 := by
  unfold atT atE
  exact ⟨by rw [if_neg (fun n => n h), if_pos h2], by rw [if_neg (fun n => n h), if_pos h2]⟩
theorem at_list {q : Rat2} {t : Bool} {s : ByteArray} {kids : List Tree} {i : Nat} {y : Tree} (h : lenE (.node 4 q t s kids) = 0) (h2 : ¬ (lenN (.node 4 q t s kids) ≤ i)) (hy : kids[i]? = some y) : atT (.node 4 q t s kids) i = y ∧ atE (.node 4 q t s kids) i = 0 := by
  have hn : ¬ ((i : Int) < 0 ∨ lenN (.node 4 q t s kids) ≤ i) := by omega
  unfold atT atE
  refine ⟨?_, by rw [if_neg (fun n => n h), if_neg hn]⟩
  refine (if_neg (fun n => n h)).trans ((if_neg hn).trans ((if_pos rfl).trans ?_))
  simp only [Tree.kids, Int.toNat_natCast, hy]
  rfl
theorem at_str {q : Rat2} {t : Bool} {s : ByteArray} {kids : List Tree} {i : Nat} (h : lenE (.node 3 q t s kids) = 0) (h2 : ¬ (lenN (.node 3 q t s kids) ≤ i)) : atT (.node 3 q t s kids) i = tStr (s.extract i (i + 1)) ∧ atE (.node 3 q t s kids) i = 0 := by
  have hn : ¬ ((i : Int) < 0 ∨ lenN (.node 3 q t s kids) ≤ i) := by omega
  unfold atT atE
  refine ⟨?_, by rw [if_neg (fun n => n h), if_neg hn]⟩
  exact (if_neg (fun n => n h)).trans ((if_neg hn).trans ((if_neg (show ¬ (3 : Int) = 4 by decide)).trans rfl))
end Go.Rel
namespace Go.Proofs.YtjgampkpfjbmdaaDoor
open Go.RowKit Go.Rel

set_option maxHeartbeats 1000000 in
theorem refStr_any (s : ByteArray) (w : World) : Calls Tryd.prog 51 #[.string s] w (Ret w (Val.v ⟨3, ⟨0, 0⟩, false, s, none, 0, 0⟩)) := by
  have hn := Blk.new w 26 (Val.box ⟨3, ⟨0, 0⟩, false, s, none, 0, 0⟩)
  obtain ⟨k0, k1, k2, k3, k4, k5⟩ := hn.val
  go_enter Tryd.func51, Tryd.ntmps51
  go_wp2_with fail
  exact bodyPost_ret (v := Val.v ⟨3, ⟨0, 0⟩, false, s, none, 0, 0⟩) (by simp [results, Tryd.results51, go_sem, k0, k1, k2, k3, k4, k5]) rfl ⟨rfl, below_alloc _ _⟩

set_option maxHeartbeats 2000000 in
theorem len_any (T : Tree) (x : Val) (w : World) (hf : fitT T 10 = true) (hr : RdB w w.heap.size T x) :
    Calls Tryd.prog 14 #[x.v] w (Ret w (.tuple #[.int .i64 (lenN T), .int .i64 (lenE T)])) := by
  obtain ⟨kids, ys, rfl, ok, hy, hl, -, -⟩ := id hr.open_
  obtain ⟨-, -, hs2, h150, -⟩ := fitT_parts hf
  have HR := Lib.hid (show _ ∧ _ from ⟨hf, hr⟩)
  obtain ⟨k, q, t, s, A, len, cap⟩ := x
  obtain ⟨hk0, hk1, -, -, -, -, -, -, hc, -⟩ := ok
  dsimp only at hk0 hk1 hl hs2 h150 hc
  rw [hl] at h150
  have HL := Lib.hid hl
  have HB := Lib.hid (box_val w 26 ⟨k, q, t, s, A, len, cap⟩)
  have R1 := Lib.hid (fun W h => chk_any (.node k q t s kids) ⟨k, q, t, s, A, len, cap⟩ W hf h)
  have L1 := Lib.hid (@lenE_bad (.node k q t s kids))
  have L2 := Lib.hid (@lenE_else k q t s kids)
  have L3 := Lib.hid (show k = 3 → chkT (.node k q t s kids) = 0 → lenN (.node k q t s kids) = s.size ∧ lenE (.node k q t s kids) = 0 from fun h => by subst h; exact lenE_str)
  have L4 := Lib.hid (show k = 4 → chkT (.node k q t s kids) = 0 → lenN (.node k q t s kids) = kids.length ∧ lenE (.node k q t s kids) = 0 from fun h => by subst h; exact lenE_list)
  generalize chkT (.node k q t s kids) = C at *
  clear hf hr hy hl
  go_enter Tryd.func14, Tryd.ntmps14
  obtain ⟨hb0, hblk0⟩ := HB.out
  obtain ⟨c0, c1, c2, c3, c4, c5⟩ := hblk0.val
  go_wp2_with fail
  refine (R1.out _ (HR.out.2.in_ hb0 hb0.size)).mono ?_
  rintro e w2 ⟨rfl, hb2⟩
  have hb3 := hb0.trans (hb2.mono hb0.size)
  have hblk2 := hblk0.keep hb2
  clear hb0 hb2 hblk0 c0 c1 c2 c3 c4 c5 HB
  by_cases hC : C = 0
  case neg =>
    have HV := Lib.hid (L1.out hC)
    have q1 : (C != 0) = true := by simpa using hC
    clear hC
    go_wp2_with fail
    go_ret2
    exact ⟨by rw [HV.out.1, HV.out.2]; rfl, hb3⟩
  subst hC
  obtain ⟨c0, c1, c2, c3, c4, c5⟩ := hblk2.val
  by_cases h3 : k = 3
  · have HV := Lib.hid (L3.out h3 rfl)
    subst h3
    go_wp2_with fail
    go_ret2
    exact ⟨by rw [HV.out.1, HV.out.2]; rfl, hb3⟩
  by_cases h4 : k = 4
  · have HV := Lib.hid (L4.out h4 rfl)
    rw [HL.out] at HV
    subst h4
    go_wp2_with fail
    go_ret2
    exact ⟨by rw [HV.out.1, HV.out.2]; rfl, hb3⟩
  have HV := Lib.hid (L2.out rfl h3 h4)
  have q3 : (k == 3) = false := by simpa using h3
  have q4 : (k == 4) = false := by simpa using h4
  clear h3 h4
  go_wp2_with fail
  go_ret2
  exact ⟨by rw [HV.out.1, HV.out.2]; rfl, hb3⟩
end Go.Proofs.YtjgampkpfjbmdaaDoor
end
