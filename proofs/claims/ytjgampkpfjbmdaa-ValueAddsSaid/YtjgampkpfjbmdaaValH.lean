/- Twin of the program. -/
import Derived.Test.YtjgampkpfjbmdaaValG
import Derived.Test.YtjgampkpfjbmdaaValC
import Derived.Laws.EntriesVeiled
namespace Go.Proofs.Ytjgampkpfjbmdaa
open Go.RowKit Go.Rel
/-- The variable that holds the closure. -/
def TwV (w : World) (g : Nat) : Prop := Blk w g 28 #[.func (.func 24) #[] #[.pointer (some ⟨g, 0, none⟩)]]
theorem TwV.keep {w w' : World} {g : Nat} (h : TwV w g) (hb : Below w.heap.size w w') : TwV w' g := Blk.keep h hb
theorem TwV.cell {w : World} {g : Nat} (h : TwV w g) : w.cell? ⟨g, 0, none⟩ = some (.func (.func 24) #[] #[.pointer (some ⟨g, 0, none⟩)]) := Blk.cell (i := 0) h rfl
set_option maxHeartbeats 4000000 in
theorem twin1_any : ∀ (d : Nat) (T : Tree) (x : Val) (g : Nat) (w : World), fitT T d = true → RdB w w.heap.size T x → TwV w g →
    Calls Try.prog 24 #[x.v, .pointer (some ⟨g, 0, none⟩)] w (RetTw 26 w T) := by
  intro d
  induction d with
  | zero => intro T x g w h; rw [fitT_zero] at h; cases h
  | succ d ih =>
    intro T x g w hf hr hg
    obtain ⟨kids, ys, rfl, ok, hy, hl, hrec, hk⟩ := hr.open_
    obtain ⟨e, he, -, h150, hkf⟩ := fitT_parts hf
    obtain rfl : d = e := by omega
    obtain ⟨k, q, t, s, A, len, cap⟩ := x
    have HOK := Lib.hid ok
    obtain ⟨hk0, hk1, -, -, -, -, -, -, hc, -⟩ := ok
    dsimp only at hk0 hk1 hy hl hrec hc h150
    rw [hl] at h150
    have HL := Lib.hid (show _ ∧ _ ∧ _ from ⟨hy, hl, hkf⟩)
    have HK := Lib.hid (show _ ∧ _ from ⟨hrec, hk⟩)
    have HG := Lib.hid hg
    have hgl := Blk.lt hg
    have HB := Lib.hid (two_vars w 26 26 ⟨k, q, t, s, A, len, cap⟩ (Val.box noneV))
    have HF := Lib.hid (show ∀ (x : Val) (w' : World), Twn w' w.heap.size 26 (.node k q t s kids) x → Below w.heap.size w w' → RetTw 26 w (.node k q t s kids) (.returned x.v) w' from fun x w' h1 h2 => ⟨x, rfl, h1, h2⟩)
    clear hy hl hkf hrec hk hf hr he hg
    obtain ⟨c0, c1, c2, c3, c4, c5⟩ := HB.out.2.1.val
    go_enter Try.func24, Try.ntmps24
    go_wp2_with fail
    clear c0 c1 c2 c3 c4 c5
    obtain ⟨hb0, hx0, hres0⟩ := HB.out
    have hz0 : ((w.alloc (.cells (Val.box ⟨k, q, t, s, A, len, cap⟩) 26)).alloc (.cells (Val.box noneV) 26)).heap.size = w.heap.size + 1 + 1 := by simp
    generalize World.alloc _ _ = w0 at hb0 hz0 hx0 hres0 ⊢
    clear HB
    have HZ := Lib.hid (show w.heap.size + 1 + 1 ≤ w0.heap.size from Nat.le_of_eq hz0.symm)
    have HT := Lib.hid (TwR.nil_ w0 (w.heap.size + 1 + 1) 26 kids)
    clear hz0
    go_loopw [4, 10] (fun vv iv wr => ∃ (i : Nat) (v : Value), i ≤ len ∧ v = vv ∧ iv = .int .i64 i ∧ w.heap.size + 1 + 1 ≤ wr.heap.size ∧ Below w.heap.size w wr ∧ Blk wr w.heap.size 26 (Val.box ⟨k, q, t, s, A, len, cap⟩) ∧ Blk wr (w.heap.size + 1) 26 (Val.box noneV) ∧
      TwR wr (w.heap.size + 1 + 1) 26 kids v i) (fun _ iv _ => len - (intOf iv).toNat)
    case atStart => exact ⟨0, _, Nat.zero_le _, rfl, rfl, HZ.out, hb0, hx0, hres0, HT.out⟩
    case round =>
      clear hb0 hx0 hres0 HT HZ
      obtain ⟨i, v, hi, rfl, rfl, hsz, hb, hx, hres, htw⟩ := hrel
      by_cases hlt : i < len
      · obtain ⟨b, off, u, y, rfl, hB, g1, g2, hru, e0, e1, e2, e3, e4, e5⟩ := val_at HL.out.1 HL.out.2.1 HK.out.1 HK.out.2 hlt
        rw [← hb.cell (p := ⟨b, _, none⟩) hB] at e0 e1 e2 e3 e4 e5
        have hba := below_alloc wr (.cells u.box 26)
        have hb1 := hb.trans (hba.mono hb.size)
        have hgw := (HG.out.keep (hb.mono (Nat.le_refl _))).keep hba
        have HR := Lib.hid (ih y u g (wr.alloc (.cells u.box 26)) (HL.out.2.2 _ (List.mem_of_getElem? g1)) (hru.in_ hb1 hb1.size) hgw)
        have gc := (HG.out.keep (hb.mono (Nat.le_refl _))).cell
        have hgl2 : g < wr.heap.size := by have := hb.size; omega
        have HG1 := Lib.hid g1
        have hvlt := fun b hb' => (htw.lt b hb').2
        have HM1 := Lib.hid (show _ ∧ _ ∧ _ ∧ _ from ⟨hb1, hx.keep hba, hres.keep hba, htw.below hba⟩)
        have HVL := Lib.hid hvlt
        clear g1 g2 hru hb1 hba hgw hvlt hx hres htw
        go_wp2_with fail
        refine (HR.out).mono ?_
        rintro e W ⟨u', rfl, htw', hW⟩
        obtain ⟨hb1, hx, hres, htw⟩ := HM1.out
        have hfr := htw'.fresh
        have hnew := Blk.new W 26 u'.box
        have hbl := below_alloc W (.cells u'.box 26)
        have hWb := hW.trans (hbl.mono hW.size)
        have hu' := (hfr.below hbl).keep (base' := wr.heap.size) (by simp) (fun _ _ _ => rfl)
        replace htw := htw.below hWb
        replace hb := hb1.trans (hWb.mono hb1.size)
        replace hx := hx.keep hWb
        replace hres := hres.keep hWb
        obtain ⟨ys', hyl, hown, hkids⟩ := id htw
        obtain ⟨i0, hi0, hz0, hz1, hz2⟩ := info_parts Try.infoVal
        have hszW : wr.heap.size + 1 ≤ W.heap.size := by have := hW.size; simpa using this
        have HM := Lib.hid (show _ ∧ _ ∧ _ ∧ _ ∧ _ ∧ _ from ⟨hb, hx, hres, hyl, hkids, hu'⟩)
        clear htw hW hWb hfr htw' hbl hb hx hres hyl hkids hu' HM1 HR hb1 e0 e1 e2 e3 e4 e5
        go_wp2_with (at_builtin; refine wpList_append_lies _ (by rfl) _ _ 24 (by rfl) (w.heap.size + 1 + 1) 26 i0 noneV.v 6 72 Try.underlying24 hi0 hz0 hz1 hz2 rfl (by decide) v i (ys'.flatMap Val.cells) (by rfl) hown ⟨W.heap.size, 0, none⟩ 1 1 u'.cells (by rfl) (by rfl) (cells_val hnew) (cells_val_one u') (by omega) (by unfold maxLen; omega) (by omega) (by simp; omega) (W.heap.size + 1) (by simp) ?_)
        intro g' cap' w7 hown' hgrow hg' hg7
        obtain ⟨hb, hx, hres, hyl, hkids, hu'⟩ := HM.out
        have htw7 := TwR.snoc hyl hkids HVL.out hsz HG1.out hu' hown' hgrow (hg'.imp (fun h => h.symm) (fun h => congrArg some (by simpa using h)))
        have far : ∀ k, k < w.heap.size + 1 + 1 → w7.heap[k]? = _ := fun k hk => hgrow.block k (by simp; omega) (fun h => by have := (hown.lt k h.symm).1; omega)
        have hb7 := hb.grown hgrow (by have := hb.size; omega) (fun r hr => by have := (hown.lt r hr).1; omega)
        have hx7 : Blk w7 _ _ _ := (far _ (by omega)).trans hx
        have hres7 : Blk w7 _ _ _ := (far _ (by omega)).trans hres
        have hsz7 : w.heap.size + 1 + 1 ≤ w7.heap.size := by have := hgrow.size; simp at this; omega
        have HM2 := Lib.hid (show _ ∧ _ ∧ _ ∧ _ from ⟨hb7, hx7, hres7, htw7⟩)
        clear hown hown' hgrow hg' far hb7 hx7 hres7 htw7 hb hx hres hyl hkids hu' HM hi0 hz0 hz1 hz2 hnew
        go_wp2_with fail
        go_roundw
        case rel => exact ⟨i + 1, _, by omega, rfl, by go_num, hsz7, HM2.out⟩
        case measure => simp [intOf]; omega
      · obtain rfl : i = len := by omega
        obtain ⟨A', cap', rfl, htn⟩ := htw.done HL.out.2.1 HOK.out
        have hx' := hx.set_ 5 (.slice A' i cap')
        have hxx : Blk (wr.setCell ⟨w.heap.size, 5, none⟩ (.slice A' i cap')) w.heap.size 26 (Val.box ⟨k, q, t, s, A', i, cap'⟩) := by simpa [Val.box] using hx'
        have hf5 := hx.frozen 5
        obtain ⟨c0, c1, c2, c3, c4, hx5⟩ := hx.val
        have hxl := hx.lt
        have hres2 := hres.far (p := ⟨w.heap.size, 5, none⟩) (by simp) (.slice A' i cap')
        have hb2 := hb.setCell (p := ⟨w.heap.size, 5, none⟩) (Nat.le_refl _) (.slice A' i cap')
        have htn2 := htn.keep (w' := wr.setCell ⟨w.heap.size, 5, none⟩ (.slice A' i cap')) (Nat.le_refl _) (fun b hb _ => Below.heap_setCell _ _ _ _ (by simp only; omega))
        obtain ⟨r0, r1, r2, r3, r4, r5⟩ := hres.val
        have rf := hres.frozen
        have rl := hres.lt
        have n1 := hres2.set6 (.int .u8 k) (.int .i64 q.n) (.int .i64 q.d) (.bool t) (.string s) (.slice A' i cap')
        have n2 := below_set6 hb2 (show w.heap.size ≤ w.heap.size + 1 by omega) (.int .u8 k) (.int .i64 q.n) (.int .i64 q.d) (.bool t) (.string s) (.slice A' i cap')
        have n3 := htn2.keep (w' := _) (show w.heap.size ≤ w.heap.size + 1 + 1 by omega) (fun b hb _ => far_set6 (w := wr.setCell ⟨w.heap.size, 5, none⟩ (.slice A' i cap')) (g := w.heap.size + 1) (k := b) (by omega) (.int .u8 k) (.int .i64 q.n) (.int .i64 q.d) (.bool t) (.string s) (.slice A' i cap'))
        obtain ⟨k0, k1, k2, k3, k4, k5⟩ := Blk.val (x := ⟨k, q, t, s, A', i, cap'⟩) n1
        have HN := Lib.hid (show _ ∧ _ from ⟨n2, n3⟩)
        clear n1 n2 n3 hx' hxx hres2 hb2 htn2 hx hres hb htn htw
        go_wp2_with fail
        exact bodyPost_ret (v := Val.v ⟨k, q, t, s, A', i, cap'⟩) (by simp [results, Try.results24, go_sem, k0, k1, k2, k3, k4, k5]) rfl (HF.out ⟨k, q, t, s, A', i, cap'⟩ _ HN.out.2 HN.out.1)

set_option maxHeartbeats 1000000 in
theorem twin_any (d : Nat) (T : Tree) (x : Val) (w : World) (hf : fitT T d = true) (hr : RdB w w.heap.size T x) :
    Calls Try.prog 11 #[x.v] w (RetTw 26 w T) := by
  obtain ⟨h1, h2, h3, h4, h5⟩ := boxes3 w x.box noneV.box #[.func (.func 24) #[] #[.pointer (some ⟨w.heap.size + 1 + 1, 0, none⟩)]] 26 26 28
  have HW := Lib.hid (show _ ∧ _ ∧ _ from ⟨h1, h2, show Blk _ _ _ _ from h4⟩)
  have HR := Lib.hid (twin1_any d T x (w.heap.size + 1 + 1) _ hf (hr.in_ h1 h1.size) h5)
  have HF := Lib.hid (show ∀ (x : Val) (w' : World), Twn w' w.heap.size 26 T x → Below w.heap.size w w' → RetTw 26 w T (.returned x.v) w' from fun x w' h1 h2 => ⟨x, rfl, h1, h2⟩)
  clear h1 h2 h3 h4 h5 hf hr
  go_enter Try.func11, Try.ntmps11
  go_wp2_with fail
  refine (HR.out).mono ?_
  rintro e W ⟨x', rfl, htn, hW⟩
  obtain ⟨hb0, hz, hres⟩ := HW.out
  replace hres := hres.keep hW
  replace hb0 := hb0.trans (hW.mono hb0.size)
  rw [hz] at htn
  clear HW hW HR
  obtain ⟨k, q, t, s, A', i, cap'⟩ := x'
  obtain ⟨r0, r1, r2, r3, r4, r5⟩ := hres.val
  have rf := hres.frozen
  have rl := hres.lt
  have n1 := hres.set6 (.int .u8 k) (.int .i64 q.n) (.int .i64 q.d) (.bool t) (.string s) (.slice A' i cap')
  have n2 := below_set6 hb0 (show w.heap.size ≤ w.heap.size + 1 by omega) (.int .u8 k) (.int .i64 q.n) (.int .i64 q.d) (.bool t) (.string s) (.slice A' i cap')
  have n3 := htn.keep (w' := _) (show w.heap.size ≤ w.heap.size + 1 + 1 + 1 by omega) (fun b hb _ => far_set6 (w := W) (g := w.heap.size + 1) (k := b) (by omega) (.int .u8 k) (.int .i64 q.n) (.int .i64 q.d) (.bool t) (.string s) (.slice A' i cap'))
  obtain ⟨k0, k1, k2, k3, k4, k5⟩ := Blk.val (x := ⟨k, q, t, s, A', i, cap'⟩) n1
  have HN := Lib.hid (show _ ∧ _ from ⟨n2, n3⟩)
  clear n1 n2 n3 hres hb0 htn hz
  go_wp2_with fail
  exact bodyPost_ret (v := Val.v ⟨k, q, t, s, A', i, cap'⟩) (by simp [results, Try.results11, go_sem, k0, k1, k2, k3, k4, k5]) rfl (HF.out ⟨k, q, t, s, A', i, cap'⟩ _ HN.out.2 HN.out.1)
end Go.Proofs.Ytjgampkpfjbmdaa
