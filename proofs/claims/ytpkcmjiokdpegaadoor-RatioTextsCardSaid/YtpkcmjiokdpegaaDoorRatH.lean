/- Sum on both sides. For every list of ratios of 64 bits. -/
import Derived.Test.YtpkcmjiokdpegaaDoorRatG
namespace Go.Rel
open Go.RowKit
/-- A slice of ratios at the address A reads as l; it lies below block B. -/
def Rats (w : World) (B : Nat) (A : Option Addr) (l : List Rat2) : Prop :=
  0 < l.length → ∃ b off : Nat, A = some ⟨b, off, none⟩ ∧ b < B ∧ ∀ (i : Nat) (v : Rat2), l[i]? = some v →
    w.cell? ⟨b, off + i * 2, none⟩ = some (.int .i64 v.n) ∧ w.cell? ⟨b, off + i * 2 + 1, none⟩ = some (.int .i64 v.d)
section
variable {w w' : World} {B B' : Nat} {A : Option Addr} {l : List Rat2}
theorem Rats.at_ (h : Rats w B A l) {k : Nat} (hk : k < l.length) :
    ∃ b off : Nat, A = some ⟨b, off, none⟩ ∧ b < B ∧ w.cell? ⟨b, off + k * 2, none⟩ = some (.int .i64 l[k].n) ∧ w.cell? ⟨b, off + k * 2 + 1, none⟩ = some (.int .i64 l[k].d) := by
  obtain ⟨b, off, e, hb, hc⟩ := h (by omega)
  exact ⟨b, off, e, hb, hc k l[k] (by simp [hk])⟩
theorem Rats.below (h : Rats w B A l) (hb : Below B w w') : Rats w' B A l := by
  intro hl
  obtain ⟨b, off, e, hB, hc⟩ := h hl
  refine ⟨b, off, e, hB, fun i v hi => ?_⟩
  obtain ⟨h1, h2⟩ := hc i v hi
  exact ⟨(hb.cell hB).trans h1, (hb.cell hB).trans h2⟩
theorem Rats.more (h : Rats w B A l) (hB : B ≤ B') : Rats w B' A l := by
  intro hl
  obtain ⟨b, off, e, hb, hc⟩ := h hl
  exact ⟨b, off, e, by omega, hc⟩
end
end Go.Rel
namespace Go.Proofs.YtpkcmjiokdpegaaDoor
open Go.RowKit Go.Rel

/-- The sum of a list behind s: the sum, and the error. -/
def sumP : List Rat2 → Rat2 → Rat2 × Int
  | [], s => (s, 0)
  | a :: r, s => if opAddE s a = 0 then sumP r (opAddR s a) else (⟨0, 0⟩, opAddE s a)
def sumR (l : List Rat2) : Rat2 := if l.length > 200 then ⟨0, 0⟩ else (sumP l ⟨0, 1⟩).1
def sumE (l : List Rat2) : Int := if l.length > 200 then 4 else (sumP l ⟨0, 1⟩).2

theorem makeR_64 (n d : Int) : Rat64 (makeR n d) := by
  unfold makeR
  split
  · simp [Rat64]
  · split
    · rename_i h
      obtain ⟨h1, h2, h3, h4⟩ := ratOk_bounds h
      exact ⟨by omega, by omega, by omega, by omega⟩
    · simp [Rat64]
theorem runV_64 (a b : Rat2) (p q : Int) : Rat64 (runV a b p q) := by
  unfold runV
  split
  · exact makeR_64 p q
  · simp [Rat64]
theorem sumP_step {l : List Rat2} {k : Nat} (hk : k < l.length) (s : Rat2) : sumP (l.drop k) s = if opAddE s l[k] = 0 then sumP (l.drop (k + 1)) (opAddR s l[k]) else (⟨0, 0⟩, opAddE s l[k]) := by
  rw [List.drop_eq_getElem_cons hk]; rfl

set_option maxHeartbeats 1000000 in
theorem sum_any (A : Option Addr) (n cap : Nat) (l : List Rat2) (w : World) (hn : l.length = n) (hl : n ≤ 4611686018427387904) (hv : Rats w w.heap.size A l) (h64 : ∀ a ∈ l, Rat64 a) :
    Calls Tryd.prog 16 #[.slice A n cap] w (Ret w (.tuple #[(sumR l).v, .int .i64 (sumE l)])) := by
  have x := Blk.new w 23 #[.int .i64 0, .int .i64 0]
  have hbx := below_alloc w (.cells #[.int .i64 0, .int .i64 0] 23)
  by_cases hbig : 200 < n
  · have h1 : sumR l = ⟨0, 0⟩ := if_pos (by omega)
    have h2 : sumE l = 4 := if_pos (by omega)
    have HH := Lib.hid (show _ ∧ _ from ⟨h1, h2⟩)
    have f0 := x.set2 (.int .i64 0) (.int .i64 0)
    have k0 := x.cell (i := 0) rfl
    have k1 := x.cell (i := 1) rfl
    clear h1 h2 hn hv h64
    go_enter Tryd.func16, Tryd.ntmps16
    go_wp2_with fail
    refine bodyPost_ret (v := .tuple #[.agg #[.int .i64 0, .int .i64 0], .int .i64 4]) (by simp [results, Tryd.results16, go_sem, k0, k1]) rfl ⟨by rw [HH.out.1, HH.out.2], ?_⟩
    first | exact below_set2 hbx (Nat.le_refl _) _ _ | exact hbx
  have h1 : sumR l = (sumP l ⟨0, 1⟩).1 := if_neg (by omega)
  have h2 : sumE l = (sumP l ⟨0, 1⟩).2 := if_neg (by omega)
  have HH := Lib.hid (show _ ∧ _ from ⟨h1, h2⟩)
  have HN := Lib.hid hn
  clear h1 h2 hn
  have y := Blk.new (w.alloc (.cells #[.int .i64 0, .int .i64 0] 23)) 23 #[.int .i64 0, .int .i64 1]
  have x' := x.alloc (.cells #[.int .i64 0, .int .i64 1] 23)
  have hbx' := hbx.trans ((below_alloc (w.alloc (.cells #[.int .i64 0, .int .i64 0] 23)) (.cells #[.int .i64 0, .int .i64 1] 23)).mono (by simp))
  simp only [World.size_alloc] at y
  have HX := Lib.hid (show _ ∧ _ ∧ _ from ⟨x', y, hbx'⟩)
  clear x x' y hbx hbx'
  go_enter Tryd.func16, Tryd.ntmps16
  go_wp2_with fail
  obtain ⟨x, y, hbx⟩ := HX.out
  generalize World.alloc _ _ = w0 at x y hbx ⊢
  go_loopw [15] (fun i wr => ∃ (k : Nat) (s : Rat2), k ≤ n ∧ i = .int .i64 k ∧ Rat64 s ∧ sumP (l.drop k) s = sumP l ⟨0, 1⟩ ∧ Blk wr w.heap.size 23 #[.int .i64 0, .int .i64 0] ∧ Blk wr (w.heap.size + 1) 23 #[.int .i64 s.n, .int .i64 s.d] ∧ Below w.heap.size w wr) (fun i _ => n - (intOf i).toNat)
  case atStart => exact ⟨0, ⟨0, 1⟩, Nat.zero_le _, rfl, by simp [Rat64], rfl, x, y, hbx⟩
  case round =>
    obtain ⟨k, s, hk, rfl, hs64, hsum, bx, bs, hb⟩ := hrel
    have HS := Lib.hid hsum
    clear hsum x y hbx HX
    have s0 := bs.cell (i := 0) rfl
    have s1 := bs.cell (i := 1) rfl
    have s2 := bs.frozen
    have x0 := bx.cell (i := 0) rfl
    have x1 := bx.cell (i := 1) rfl
    have x2 := bx.frozen
    have hlt0 := bs.lt
    by_cases hlt : k < n
    · have hlt' : k < l.length := by rw [HN.out]; exact hlt
      obtain ⟨b, off, rfl, hB, c0, c1⟩ := (hv.below hb).at_ hlt'
      have hB' : b < wr.heap.size := by omega
      clear hv
      go_wp2_with fail
      have hb' := hb.trans ((below_alloc wr (.cells #[.int .i64 l[k].n, .int .i64 l[k].d] 23)).mono hb.size)
      replace bx := bx.alloc (.cells #[.int .i64 l[k].n, .int .i64 l[k].d] 23)
      replace bs := bs.alloc (.cells #[.int .i64 l[k].n, .int .i64 l[k].d] 23)
      clear s0 s1 s2 x0 x1 x2 c0 c1
      generalize World.alloc _ _ = w1 at hb' bx bs ⊢
      refine (opAdd_any s l[k] _ hs64 (h64 _ (List.getElem_mem hlt'))).mono ?_
      rintro e w2 ⟨rfl, hb2⟩
      replace bx := bx.keep hb2
      replace bs := bs.keep hb2
      replace hb' := hb'.trans (hb2.mono hb'.size)
      have hr64 : Rat64 (opAddR s l[k]) := runV_64 _ _ _ _
      have hstep := sumP_step hlt' s
      rw [HS.out] at hstep
      have s0 := bs.cell (i := 0) rfl
      have s1 := bs.cell (i := 1) rfl
      have s2 := bs.frozen
      have x0 := bx.cell (i := 0) rfl
      have x1 := bx.cell (i := 1) rfl
      have x2 := bx.frozen
      have hlt1 := bs.lt
      have hne : ¬ w.heap.size = w.heap.size + 1 := by omega
      have hne' : ¬ w.heap.size + 1 = w.heap.size := by omega
      have n1 := bs.set2 (.int .i64 (opAddR s l[k]).n) (.int .i64 (opAddR s l[k]).d)
      have n2 := (bx.far (p := ⟨w.heap.size + 1, 0, none⟩) hne (.int .i64 (opAddR s l[k]).n)).far (p := ⟨w.heap.size + 1, 1, none⟩) hne (.int .i64 (opAddR s l[k]).d)
      have n3 := below_set2 hb' (show w.heap.size ≤ w.heap.size + 1 by omega) (.int .i64 (opAddR s l[k]).n) (.int .i64 (opAddR s l[k]).d)
      by_cases he : opAddE s l[k] = 0
      · rw [if_pos he] at hstep
        have HT := Lib.hid hstep
        rw [he]
        have HM := Lib.hid (show _ ∧ _ ∧ _ from ⟨n1, n2, n3⟩)
        clear hstep he n1 n2 n3 hb hb2 hb'
        go_wp2_with fail
        go_roundw
        case rel => exact ⟨k + 1, opAddR s l[k], by omega, by go_num, hr64, HT.out.symm, HM.out.2.1, HM.out.1, HM.out.2.2⟩
        case measure => simp [intOf]; omega
      · rw [if_neg he] at hstep
        have HT := Lib.hid hstep
        have he' : (opAddE s l[k] != 0) = true := by simpa using he
        have n4 := n2.set2 (.int .i64 0) (.int .i64 0)
        have n5 := below_set2 n3 (Nat.le_refl _) (.int .i64 0) (.int .i64 0)
        have k0 := n4.cell (i := 0) rfl
        have k1 := n4.cell (i := 1) rfl
        have HM := Lib.hid n5
        clear hstep he n1 n2 n3 n4 n5 hb hb2 hb'
        go_wp2_with fail
        refine bodyPost_ret (v := .tuple #[.agg #[.int .i64 0, .int .i64 0], .int .i64 (opAddE s l[k])]) (by simp [results, Tryd.results16, go_sem, k0, k1]) rfl ⟨by rw [HH.out.1, HH.out.2, HT.out], ?_⟩
        exact HM.out
    · obtain rfl : k = n := by omega
      have he : sumP l ⟨0, 1⟩ = (s, 0) := by
        have := HS.out
        rw [← HN.out, List.drop_length] at this
        exact this.symm
      have HT := Lib.hid he
      have n1 := bx.set2 (.int .i64 s.n) (.int .i64 s.d)
      have k0 := n1.cell (i := 0) rfl
      have k1 := n1.cell (i := 1) rfl
      clear he hv
      go_wp2_with fail
      refine bodyPost_ret (v := .tuple #[s.v, .int .i64 0]) (by simp [results, Tryd.results16, go_sem, k0, k1]) rfl ⟨by rw [HH.out.1, HH.out.2, HT.out], below_set2 hb (Nat.le_refl _) _ _⟩
end Go.Proofs.YtpkcmjiokdpegaaDoor
