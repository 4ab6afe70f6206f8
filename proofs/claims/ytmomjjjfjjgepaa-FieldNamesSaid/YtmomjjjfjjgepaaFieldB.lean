/- Check on both sides, for every field. -/
import Derived.Test.YtmomjjjfjjgepaaFieldA
namespace Go.Rel
open Go.RowKit
theorem pull_at {w : World} {B : Nat} {A : Option Addr} {l : List Pull} (h : Recs Pull.cells 5 w B A l) {k : Nat} (hk : k < l.length) :
    ∃ b off : Nat, A = some ⟨b, off, none⟩ ∧ b < B ∧ w.cell? ⟨b, off + k * 5, none⟩ = some (.int .i64 l[k].x) ∧ w.cell? ⟨b, off + k * 5 + 1, none⟩ = some (.int .i64 l[k].y) ∧ w.cell? ⟨b, off + k * 5 + 2, none⟩ = some (.int .u8 l[k].kind) ∧
      w.cell? ⟨b, off + k * 5 + 3, none⟩ = some (.int .i64 l[k].weight) ∧ w.cell? ⟨b, off + k * 5 + 4, none⟩ = some (.int .i64 l[k].reach) := by
  obtain ⟨b, off, e, hb, hc⟩ := h.at_ hk
  exact ⟨b, off, e, hb, hc 0 _ rfl, hc 1 _ rfl, hc 2 _ rfl, hc 3 _ rfl, hc 4 _ rfl⟩
/-- Why a pull is not valid: the first reason. -/
theorem pull_bad {u : Pull} (h : pullB u = false) : u.kind < 1 ∨ (1 ≤ u.kind ∧ 4 < u.kind) ∨ (1 ≤ u.kind ∧ u.kind ≤ 4 ∧ inB u.x u.y = false) ∨ (1 ≤ u.kind ∧ u.kind ≤ 4 ∧ inB u.x u.y = true ∧ u.weight < 1) ∨
    (1 ≤ u.kind ∧ u.kind ≤ 4 ∧ inB u.x u.y = true ∧ 1 ≤ u.weight ∧ 1000000 < u.weight) ∨ (1 ≤ u.kind ∧ u.kind ≤ 4 ∧ inB u.x u.y = true ∧ 1 ≤ u.weight ∧ u.weight ≤ 1000000 ∧ u.reach < 0) ∨
    (1 ≤ u.kind ∧ u.kind ≤ 4 ∧ inB u.x u.y = true ∧ 1 ≤ u.weight ∧ u.weight ≤ 1000000 ∧ 0 ≤ u.reach ∧ 1000000 < u.reach) := by
  have hn : ¬ pullB u = true := by rw [h]; simp
  rw [pullB_iff] at hn
  cases hi : inB u.x u.y with
  | false => by_cases h1 : u.kind < 1 <;> by_cases h2 : 4 < u.kind <;> simp [h1, h2] <;> omega
  | true => simp only [hi, true_and] at hn; simp only [true_and]; omega
theorem all_take_all {l : List Pull} {n : Nat} (hn : l.length = n) (h : (l.take n).all pullB = true) : l.all pullB = true := by rw [← hn, List.take_length] at h; exact h
theorem Blk.alloc_keep {w w' : World} {g : Nat} {t : TypeId} {cs : Array Value} {o : Obj} (h : Blk w g t cs) (hb : Below (w.alloc o).heap.size (w.alloc o) w') : Blk w' g t cs := (h.alloc o).keep hb
end Go.Rel
namespace Go.Proofs.Ytmomjjjfjjgepaa
open Go.RowKit Go.Rel

set_option maxRecDepth 100000 in
set_option maxHeartbeats 2000000 in
theorem check_any (A : Option Addr) (n cap : Nat) (l : List Pull) (w : World) (hn : l.length = n) (hl : n ≤ 4611686018427387904) (hv : Recs Pull.cells 5 w w.heap.size A l) (h64 : ∀ u ∈ l, u.In64) :
    Calls Try.prog 19 #[.slice A n cap] w (Ret w (.int .i64 (fieldE l))) := by
  by_cases hbig : 60 < n
  · have HE := Lib.hid (fieldE_many (l := l) (by omega))
    clear hv hn h64
    go_enter Try.func19, Try.ntmps19
    go_wp2_with fail
    go_ret
    exact ret_int HE.out.symm (Below.refl _ _)
  have HN := Lib.hid hn
  clear hn
  go_enter Try.func19, Try.ntmps19
  go_wp2_with fail
  go_loopw [10] (fun i wr => ∃ k : Nat, k ≤ n ∧ i = .int .i64 k ∧ (l.take k).all pullB = true ∧ Below w.heap.size w wr) (fun i _ => n - (intOf i).toNat)
  case atStart => exact ⟨0, Nat.zero_le _, rfl, rfl, Below.refl _ _⟩
  case round =>
    obtain ⟨k, hk, rfl, hall, hb⟩ := hrel
    have HALL := Lib.hid hall
    clear hall
    by_cases hlt : k < n
    · have hlt' : k < l.length := by rw [HN.out]; exact hlt
      obtain ⟨b, off, rfl, hB, c0, c1, c2, c3, c4⟩ := pull_at (hv.below hb) hlt'
      have hs := hb.size
      have hu := h64 _ (List.getElem_mem hlt')
      obtain ⟨u, hud⟩ : ∃ u, l[k] = u := ⟨_, rfl⟩
      rw [hud] at c0 c1 c2 c3 c4 hu
      have HU := Lib.hid hud
      have hblk := Lib.hid (Blk.new wr 52 #[.int .i64 u.x, .int .i64 u.y, .int .u8 u.kind, .int .i64 u.weight, .int .i64 u.reach])
      have hbw := Lib.hid (hb.trans ((below_alloc wr (.cells #[.int .i64 u.x, .int .i64 u.y, .int .u8 u.kind, .int .i64 u.weight, .int .i64 u.reach] 52)).mono hb.size))
      clear hv h64 hud
      cases hf : pullB u with
      | false =>
        have HB := Lib.hid (fieldE_at (l := l) (by rw [HN.out]; exact hbig) hlt' (by rw [HU.out]; exact hf))
        rcases pull_bad hf with h1 | ⟨h1, h2⟩ | ⟨h1, h2, h3⟩ | ⟨h1, h2, h3, h4⟩ | ⟨h1, h2, h3, h4, h5⟩ | ⟨h1, h2, h3, h4, h5, h6⟩ | ⟨h1, h2, h3, h4, h5, h6, h7⟩
        · clear hf
          go_wp2_with fail
          go_ret
          exact ret_int HB.out.symm hbw.out
        · clear hf
          go_wp2_with fail
          go_ret
          exact ret_int HB.out.symm hbw.out
        all_goals
          have H3 := Lib.hid h3
          clear hf h3
          go_wp2_with fail
          replace hblk := hblk.out
          replace hbw := hbw.out
          generalize World.alloc _ _ = w1 at hblk hbw ⊢
          refine (inside_any ⟨u.x, u.y⟩ _ hu.1).mono ?_
          rintro e w2 ⟨rfl, hb1⟩
          simp only [H3.out]
          replace hbw := hbw.trans (hb1.mono hbw.size)
          replace hblk := hblk.keep hb1
          have d0 := hblk.cell (i := 2) rfl
          have d1 := hblk.cell (i := 3) rfl
          have d2 := hblk.cell (i := 4) rfl
          have d3 := hblk.lt
          clear hb1
          go_wp2_with fail
          go_ret
          exact ret_int HB.out.symm hbw
      | true =>
        have HF := Lib.hid hf
        obtain ⟨⟨h1, h2⟩, h3, h4, h5, h6, h7⟩ := pullB_iff.1 hf
        have H3 := Lib.hid h3
        clear hf h3
        go_wp2_with fail
        replace hblk := hblk.out
        replace hbw := hbw.out
        generalize World.alloc _ _ = w1 at hblk hbw ⊢
        refine (inside_any ⟨u.x, u.y⟩ _ hu.1).mono ?_
        rintro e w2 ⟨rfl, hb1⟩
        simp only [H3.out]
        replace hbw := hbw.trans (hb1.mono hbw.size)
        replace hblk := hblk.keep hb1
        have d0 := hblk.cell (i := 2) rfl
        have d1 := hblk.cell (i := 3) rfl
        have d2 := hblk.cell (i := 4) rfl
        have d3 := hblk.lt
        clear hb1
        go_wp2_with fail
        go_roundw
        case rel => exact ⟨k + 1, by omega, by go_num, all_take_succ l _ k hlt' HALL.out (by rw [HU.out]; exact HF.out), hbw⟩
        case measure => simp [intOf]; omega
    · obtain rfl : k = n := by omega
      have HE := Lib.hid (fieldE_ok (l := l) ⟨by rw [HN.out]; omega, all_take_all HN.out HALL.out⟩)
      clear hv h64
      go_wp2_with fail
      go_ret
      exact ret_int HE.out.symm hb

set_option maxRecDepth 100000 in
set_option maxHeartbeats 2000000 in
theorem refCheck_any (A : Option Addr) (n cap : Nat) (l : List Pull) (w : World) (hn : l.length = n) (hl : n ≤ 4611686018427387904) (hv : Recs Pull.cells 5 w w.heap.size A l) (h64 : ∀ u ∈ l, u.In64) :
    Calls Try.prog 20 #[.slice A n cap] w (Ret w (.int .i64 (fieldE l))) := by
  by_cases hbig : 60 < n
  · have HE := Lib.hid (fieldE_many (l := l) (by omega))
    clear hv hn h64
    go_enter Try.func20, Try.ntmps20
    go_wp2_with fail
    go_ret
    exact ret_int HE.out.symm (Below.refl _ _)
  have HN := Lib.hid hn
  clear hn
  go_enter Try.func20, Try.ntmps20
  go_wp2_with fail
  go_loopw [3] (fun i wr => ∃ k : Nat, k ≤ n ∧ i = .int .i64 k ∧ (l.take k).all pullB = true ∧ Below w.heap.size w wr) (fun i _ => n - (intOf i).toNat)
  case atStart => exact ⟨0, Nat.zero_le _, rfl, rfl, Below.refl _ _⟩
  case round =>
    obtain ⟨k, hk, rfl, hall, hb⟩ := hrel
    have HALL := Lib.hid hall
    clear hall
    by_cases hlt : k < n
    · have hlt' : k < l.length := by rw [HN.out]; exact hlt
      obtain ⟨b, off, rfl, hB, c0, c1, c2, c3, c4⟩ := pull_at (hv.below hb) hlt'
      have hs := hb.size
      have hu := h64 _ (List.getElem_mem hlt')
      obtain ⟨u, hud⟩ : ∃ u, l[k] = u := ⟨_, rfl⟩
      rw [hud] at c0 c1 c2 c3 c4 hu
      have HU := Lib.hid hud
      clear hv h64 hud
      cases hf : pullB u with
      | false =>
        have HB := Lib.hid (fieldE_at (l := l) (by rw [HN.out]; exact hbig) hlt' (by rw [HU.out]; exact hf))
        rcases pull_bad hf with h1 | ⟨h1, h2⟩ | ⟨h1, h2, h3⟩ | ⟨h1, h2, h3, h4⟩ | ⟨h1, h2, h3, h4, h5⟩ | ⟨h1, h2, h3, h4, h5, h6⟩ | ⟨h1, h2, h3, h4, h5, h6, h7⟩
        · clear hf
          go_wp2_with fail
          go_ret
          exact ret_int HB.out.symm hb
        · clear hf
          go_wp2_with fail
          go_ret
          exact ret_int HB.out.symm hb
        all_goals
          have H3 := Lib.hid h3
          clear hf h3
          go_wp2_with fail
          refine (in_any ⟨u.x, u.y⟩ _ hu.1).mono ?_
          rintro e w2 ⟨rfl, hb1⟩
          simp only [H3.out]
          have d2 := (hb1.cell (p := ⟨b, off + k * 5 + 2, none⟩) (by simp only; omega)).trans c2
          have d3 := (hb1.cell (p := ⟨b, off + k * 5 + 3, none⟩) (by simp only; omega)).trans c3
          have d4 := (hb1.cell (p := ⟨b, off + k * 5 + 4, none⟩) (by simp only; omega)).trans c4
          replace hb := hb.trans (hb1.mono hb.size)
          clear hb1 c0 c1 c2 c3 c4
          go_wp2_with fail
          go_ret
          exact ret_int HB.out.symm hb
      | true =>
        have HF := Lib.hid hf
        obtain ⟨⟨h1, h2⟩, h3, h4, h5, h6, h7⟩ := pullB_iff.1 hf
        have H3 := Lib.hid h3
        clear hf h3
        go_wp2_with fail
        refine (in_any ⟨u.x, u.y⟩ _ hu.1).mono ?_
        rintro e w2 ⟨rfl, hb1⟩
        simp only [H3.out]
        have d2 := (hb1.cell (p := ⟨b, off + k * 5 + 2, none⟩) (by simp only; omega)).trans c2
        have d3 := (hb1.cell (p := ⟨b, off + k * 5 + 3, none⟩) (by simp only; omega)).trans c3
        have d4 := (hb1.cell (p := ⟨b, off + k * 5 + 4, none⟩) (by simp only; omega)).trans c4
        replace hb := hb.trans (hb1.mono hb.size)
        clear hb1 c0 c1 c2 c3 c4
        go_wp2_with fail
        go_roundw
        case rel => exact ⟨k + 1, by omega, by go_num, all_take_succ l _ k hlt' HALL.out (by rw [HU.out]; exact HF.out), hb⟩
        case measure => simp [intOf]; omega
    · obtain rfl : k = n := by omega
      have HE := Lib.hid (fieldE_ok (l := l) ⟨by rw [HN.out]; omega, all_take_all HN.out HALL.out⟩)
      clear hv h64
      go_wp2_with fail
      go_ret
      exact ret_int HE.out.symm hb
end Go.Proofs.Ytmomjjjfjjgepaa
