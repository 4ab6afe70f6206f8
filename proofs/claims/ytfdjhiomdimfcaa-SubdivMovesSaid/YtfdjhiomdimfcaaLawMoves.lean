/- The law 'SubdivMoves'. -/
import Derived.Test.YtfdjhiomdimfcaaSubN
import Derived.Test.YtfdjhiomdimfcaaSubLaws
namespace Go.Rel
/-- The first k of a list turned by f, the others as they are. -/
def updK (f : Vec → Vec) (l : List Vec) (k : Nat) : List Vec := (l.take k).map f ++ l.drop k
theorem updK_zero (f : Vec → Vec) (l : List Vec) : updK f l 0 = l := by simp [updK]
theorem updK_all (f : Vec → Vec) (l : List Vec) : updK f l l.length = l.map f := by simp [updK]
theorem updK_length (f : Vec → Vec) (l : List Vec) (k : Nat) : (updK f l k).length = l.length := by simp [updK]; omega
theorem updK_get (f : Vec → Vec) (l : List Vec) {k : Nat} (hk : k < l.length) : (updK f l k)[k]? = some l[k] := by
  unfold updK
  rw [List.getElem?_append_right (by simp; omega)]
  simp [Nat.min_eq_left (Nat.le_of_lt hk), hk]
theorem updK_set (f : Vec → Vec) (l : List Vec) {k : Nat} (hk : k < l.length) : (updK f l k).set k (f l[k]) = updK f l (k + 1) := by
  unfold updK
  have h1 : ((l.take k).map f).length = k := by simp; omega
  rw [List.set_append_right _ _ (by omega), h1, Nat.sub_self, List.take_succ_eq_append_getElem hk, List.map_append, List.append_assoc]
  rw [List.drop_eq_getElem_cons hk]
  rfl
theorem RowV.far {W : World} {g : Nat} {t : TypeId} {L : List Vec} (h : RowV W g t L) {p : Addr} (hp : g ≠ p.block) (u : Value) : RowV (W.setCell p u) g t L := by
  obtain ⟨cs, hc, h⟩ := h
  exact ⟨cs, hc.far hp u, h⟩
theorem refE_six (l : List Vec) (down : Int) (closed : Bool) (d : Int) : refE l down closed d = 0 ∨ refE l down closed d = 2 ∨ refE l down closed d = 4 ∨ refE l down closed d = 6 ∨ refE l down closed d = 8 ∨ refE l down closed d = 16 := by
  unfold refE
  repeat' split
  all_goals simp
end Go.Rel
namespace Go.Proofs.Ytfdjhiomdimfcaa
open Go.RowKit Go.Rel

set_option maxHeartbeats 2000000 in
theorem moves_early (A : Option Addr) (n cap : Nat) (l : List Vec) (down d : Int) (closed : Bool) (bx by' bz : Int) (w : World) (hn : l.length = n) (hl : n ≤ 9223372036854775807) (hv : Vecs w w.heap.size A l) (hno : ¬ (n ≤ 200 ∧ Valid l down ∧ 1 ≤ d ∧ d ≤ 3 ∧ fineB bx by' bz 1000000 = true)) :
    Calls Try.prog 6 #[.agg #[.slice A n cap, .int .i64 down, .bool closed], .int .i64 d, .agg #[.int .i64 bx, .int .i64 by', .int .i64 bz]] w (Ret w (.bool true)) := by
  have HN := Lib.hid hn
  obtain ⟨hb0, -, x3, x4⟩ := boxes2 w #[.slice A n cap, .int .i64 down, .bool closed] #[.int .i64 bx, .int .i64 by', .int .i64 bz] 24 31
  have q0 : Blk _ w.heap.size _ _ := x3
  have q1 : Blk _ (w.heap.size + 1) _ _ := x4
  have hs : ∃ b1 b2 b3 b4 : Bool, decide (n ≤ 200 ∧ Valid l down) = b1 ∧ decide (d < 1) = b2 ∧ decide (3 < d) = b3 ∧ fineB bx by' bz 1000000 = b4 ∧ (b1 = false ∨ (b1 = true ∧ b2 = true) ∨ (b1 = true ∧ b2 = false ∧ b3 = true) ∨ (b1 = true ∧ b2 = false ∧ b3 = false ∧ b4 = false)) := by
    refine ⟨_, _, _, _, rfl, rfl, rfl, rfl, ?_⟩
    by_cases h1 : n ≤ 200 ∧ Valid l down
    · by_cases h2 : d < 1
      · exact .inr (.inl ⟨decide_eq_true h1, decide_eq_true h2⟩)
      · by_cases h3 : 3 < d
        · exact .inr (.inr (.inl ⟨decide_eq_true h1, decide_eq_false h2, decide_eq_true h3⟩))
        · refine .inr (.inr (.inr ⟨decide_eq_true h1, decide_eq_false h2, decide_eq_false h3, ?_⟩))
          cases hf : fineB bx by' bz 1000000 with
          | false => rfl
          | true => exact absurd ⟨h1.1, h1.2, by omega, by omega, hf⟩ hno
    · exact .inl (decide_eq_false h1)
  obtain ⟨b1, b2, b3, b4, h1, h2, h3, h4, hc⟩ := hs
  have H1 := Lib.hid h1
  have H4 := Lib.hid h4
  clear h1 h4 hno hn x3 x4
  go_enter Try.func6, Try.ntmps6
  go_wp2_with fail
  generalize World.alloc (World.alloc _ _) _ = w0 at hb0 q0 q1 ⊢
  refine (alive_any _).mono ?_
  rintro e w1 ⟨rfl, hb1⟩
  replace q0 := q0.keep hb1
  replace q1 := q1.keep hb1
  replace hb0 := hb0.trans (hb1.mono hb0.size)
  have c0 := q0.cell (i := 0) rfl
  have c1 := q0.cell (i := 1) rfl
  have c2 := q0.cell (i := 2) rfl
  clear hb1
  go_wp2_with fail
  refine (small_any A n cap l down closed _ HN.out hl ((hv.below hb0).more hb0.size)).mono ?_
  rw [H1.out]
  rintro e w2 ⟨rfl, hb1⟩
  replace hb0 := hb0.trans (hb1.mono hb0.size)
  replace q1 := q1.keep hb1
  have e0 := q1.cell (i := 0) rfl
  have e1 := q1.cell (i := 1) rfl
  have e2 := q1.cell (i := 2) rfl
  clear c0 c1 c2 hb1 hv q0 q1
  rcases hc with rfl | ⟨rfl, rfl⟩ | ⟨rfl, rfl, rfl⟩ | ⟨rfl, rfl, rfl, rfl⟩
  iterate 3
    · go_wp2_with fail
      go_ret
      exact ret_bool rfl hb0
  · go_wp2_with fail
    refine (in_any _ _ _ _ _ (by omega) (by omega)).mono ?_
    rw [H4.out]
    rintro e w3 ⟨rfl, hb3⟩
    replace hb0 := hb0.trans (hb3.mono hb0.size)
    clear e0 e1 e2 hb3
    go_wp2_with fail
    go_ret
    exact ret_bool rfl hb0

set_option maxHeartbeats 4000000 in
theorem moves_walk (A : Option Addr) (n cap : Nat) (l : List Vec) (down : Int) (d : Nat) (closed : Bool) (bx by' bz : Int) (w : World) (hn : l.length = n) (hl : n ≤ 200) (hv : Vecs w w.heap.size A l) (hA : A = none → cap = 0) (hV : Valid l down) (hd : 1 ≤ d ∧ d ≤ 3) (hby : fineB bx by' bz 1000000 = true) :
    Calls Try.prog 6 #[.agg #[.slice A n cap, .int .i64 down, .bool closed], .int .i64 d, .agg #[.int .i64 bx, .int .i64 by', .int .i64 bz]] w (Ret w (.bool true)) := by
  have HN := Lib.hid hn
  obtain ⟨hb0, -, x3, x4⟩ := boxes2 w #[.slice A n cap, .int .i64 down, .bool closed] #[.int .i64 bx, .int .i64 by', .int .i64 bz] 24 31
  have q0 : Blk _ w.heap.size _ _ := x3
  have q1 : Blk _ (w.heap.size + 1) _ _ := x4
  have h1 : decide (n ≤ 200 ∧ Valid l down) = true := decide_eq_true ⟨hl, hV⟩
  have H1 := Lib.hid h1
  have H4 := Lib.hid hby
  obtain ⟨d1, d2⟩ := id hd
  have hn1 : 1 ≤ n := by have := hV.1; omega
  have z1 : decide ((d : Int) < 1) = false := decide_eq_false (by omega)
  have z2 : decide (3 < (d : Int)) = false := decide_eq_false (by omega)
  have HH := Lib.hid (show Valid l down ∧ (1 ≤ d ∧ d ≤ 3) from ⟨hV, hd⟩)
  clear h1 hn x3 x4 hV hd hby
  go_enter Try.func6, Try.ntmps6
  go_wp2_with fail
  generalize World.alloc (World.alloc _ _) _ = w0 at hb0 q0 q1 ⊢
  refine (alive_any _).mono ?_
  rintro e w1 ⟨rfl, hb1⟩
  replace q0 := q0.keep hb1
  replace q1 := q1.keep hb1
  replace hb0 := hb0.trans (hb1.mono hb0.size)
  have c0 := q0.cell (i := 0) rfl
  have c1 := q0.cell (i := 1) rfl
  have c2 := q0.cell (i := 2) rfl
  clear hb1
  go_wp2_with fail
  refine (small_any A n cap l down closed _ HN.out (by omega) ((hv.below hb0).more hb0.size)).mono ?_
  rw [H1.out]
  rintro e w2 ⟨rfl, hb1⟩
  replace hb0 := hb0.trans (hb1.mono hb0.size)
  replace q0 := q0.keep hb1
  replace q1 := q1.keep hb1
  have e0 := q1.cell (i := 0) rfl
  have e1 := q1.cell (i := 1) rfl
  have e2 := q1.cell (i := 2) rfl
  clear c0 c1 c2 hb1 H1
  go_wp2_with fail
  refine (in_any _ _ _ _ _ (by omega) (by omega)).mono ?_
  rw [H4.out]
  rintro e w3 ⟨rfl, hb1⟩
  replace hb0 := hb0.trans (hb1.mono hb0.size)
  replace q0 := q0.keep hb1
  replace q1 := q1.keep hb1
  have c0 := q0.cell (i := 0) rfl
  have c1 := q0.cell (i := 1) rfl
  have c2 := q0.cell (i := 2) rfl
  clear e0 e1 e2 hb1
  go_wp2_with fail
  have hq13 := q1.lt
  refine (twin_any A n cap l down closed _ HN.out (by omega) ((hv.below hb0).more hb0.size) hA).mono ?_
  rintro e w4 ⟨v, rfl, ⟨S, rfl, hrow⟩, hb1⟩
  obtain ⟨g, cap4, rfl, hbg, row⟩ := RowV.of_own HN.out hn1 hrow
  have hg8 := row.lt
  have hs3 := hb0.size
  replace hb0 := hb0.trans (hb1.mono hb0.size)
  replace q0 := q0.keep hb1
  replace q1 := q1.keep hb1
  have q8 := Blk.new w4 24 #[.slice (some ⟨g, 0, none⟩) n cap4, .int .i64 down, .bool closed]
  have hb := below_alloc w4 (.cells #[.slice (some ⟨g, 0, none⟩) n cap4, .int .i64 down, .bool closed] 24)
  replace hb0 := hb0.trans (hb.mono hb0.size)
  replace q0 := q0.keep hb
  replace q1 := q1.keep hb
  replace row := row.keep hb
  clear hrow hb1 hb c0 c1 c2
  go_wp2_with fail
  generalize World.alloc w4 _ = w5 at hb0 q0 q1 q8 row ⊢
  generalize w4.heap.size = g8 at *
  go_loopw [9] (fun i wr => ∃ k : Nat, k ≤ n ∧ i = .int .i64 k ∧ RowV wr g 31 (updK (addV · ⟨bx, by', bz⟩) l k) ∧ Blk wr w.heap.size 24 #[.slice A n cap, .int .i64 down, .bool closed] ∧ Blk wr (w.heap.size + 1) 31 #[.int .i64 bx, .int .i64 by', .int .i64 bz] ∧ Blk wr g8 24 #[.slice (some ⟨g, 0, none⟩) n cap4, .int .i64 down, .bool closed] ∧ Below w.heap.size w wr) (fun i _ => n - (intOf i).toNat)
  case atStart => exact ⟨0, Nat.zero_le _, by simp, by rw [updK_zero]; exact row, q0, q1, q8, hb0⟩
  case round =>
    obtain ⟨k, hk, rfl, hrow, hq0, hq1, hq8, hB⟩ := hrel
    clear q0 q1 q8 row hb0
    by_cases hlt : k < n
    · have hlt' : k < l.length := by rw [HN.out]; exact hlt
      have hget := updK_get (addV · ⟨bx, by', bz⟩) l hlt'
      have hset := updK_set (addV · ⟨bx, by', bz⟩) l hlt'
      have hlk : k < (updK (addV · ⟨bx, by', bz⟩) l k).length := by rw [updK_length]; exact hlt'
      have hfin : inV 1000000000000 l[k] := inV_of_fine (HH.out.1.fine hlt')
      have hbyv : inV 1000000 ⟨bx, by', bz⟩ := inV_of_fine H4.out
      generalize l[k] = U at *
      have T1 := fun W => plus_any U ⟨bx, by', bz⟩ W (inV_more hfin (by omega)) (inV_more hbyv (by omega))
      obtain ⟨u1, u2, u3⟩ := U
      generalize hR : addV ⟨u1, u2, u3⟩ ⟨bx, by', bz⟩ = R at *
      obtain ⟨r1, r2, r3⟩ := R
      have hrv := hrow.vecs
      obtain ⟨b', off', he', -, p0, p1, p2⟩ := hrv.at_ hlk
      have hu : (updK (addV · ⟨bx, by', bz⟩) l k)[k] = ⟨u1, u2, u3⟩ := by
        have := hget; rw [List.getElem?_eq_getElem hlk] at this; exact Option.some.inj this
      rw [hu] at p0 p1 p2
      obtain ⟨rfl, rfl⟩ : g = b' ∧ 0 = off' := by simpa using he'
      simp only [Nat.zero_add] at p0 p1 p2
      have hgw := hrow.lt
      have P0 := fun W (hW : Below wr.heap.size wr W) => (hW.cell (p := ⟨g, k * 3, none⟩) hgw).trans p0
      have P1 := fun W (hW : Below wr.heap.size wr W) => (hW.cell (p := ⟨g, k * 3 + 1, none⟩) hgw).trans p1
      have P2 := fun W (hW : Below wr.heap.size wr W) => (hW.cell (p := ⟨g, k * 3 + 2, none⟩) hgw).trans p2
      have Q0 := fun W (hW : Below wr.heap.size wr W) => (hq8.keep hW).cell (i := 0) rfl
      have Q1 := fun W (hW : Below wr.heap.size wr W) => (hq1.keep hW).cell (i := 0) rfl
      have Q2 := fun W (hW : Below wr.heap.size wr W) => (hq1.keep hW).cell (i := 1) rfl
      have Q3 := fun W (hW : Below wr.heap.size wr W) => (hq1.keep hW).cell (i := 2) rfl
      have q80 := hq8.cell (i := 0) rfl
      have HK := Lib.hid (show _ ∧ _ ∧ _ ∧ _ ∧ _ ∧ _ from ⟨hrow, hlk, hq0, hq1, hq8, hB⟩)
      have HS := Lib.hid hset
      clear p0 p1 p2 hu hrv hrow hq0 hq1 hq8 hB hget hset hlk hfin hbyv hR hgw he'
      go_wp2_with fail
      apply wp_region_head 11 103 (hm := by kernel_rfl) (hN := rfl)
      case h =>
        simp only [List.take_succ_cons, List.take_zero]
        iterate 9 (apply head_still (by kernel_rfl); (intro W hW; go_simp; (try rfl)))
        (apply head_call (by kernel_rfl); (intro W; go_simp; exact ⟨rfl, rfl⟩); (intro W hW; exact T1 W))
        (apply head_still (by kernel_rfl); (intro W hW; go_simp; (try rfl)))
        refine head_nil ?_
        intro W hW hF
        obtain ⟨hrow, hlk, hq0, hq1, hq8, hB⟩ := HK.out
        replace hrow := hrow.keep hW
        replace hq0 := hq0.keep hW
        replace hq1 := hq1.keep hW
        replace hq8 := hq8.keep hW
        replace hB := hB.trans (hW.mono hB.size)
        have o0 := P0 W hW
        have o1 := P1 W hW
        have o2 := P2 W hW
        have hfr := hrow.frozen
        have n0 : w.heap.size ≠ g := by omega
        have n1 : w.heap.size + 1 ≠ g := by omega
        have n8 : g8 ≠ g := by omega
        have hrow' := hrow.set hlk ⟨r1, r2, r3⟩
        rw [HS.out] at hrow'
        have hq0' := ((hq0.far (p := ⟨g, k * 3, none⟩) n0 (.int .i64 r1)).far (p := ⟨g, k * 3 + 1, none⟩) n0 (.int .i64 r2)).far (p := ⟨g, k * 3 + 2, none⟩) n0 (.int .i64 r3)
        have hq1' := ((hq1.far (p := ⟨g, k * 3, none⟩) n1 (.int .i64 r1)).far (p := ⟨g, k * 3 + 1, none⟩) n1 (.int .i64 r2)).far (p := ⟨g, k * 3 + 2, none⟩) n1 (.int .i64 r3)
        have hq8' := ((hq8.far (p := ⟨g, k * 3, none⟩) n8 (.int .i64 r1)).far (p := ⟨g, k * 3 + 1, none⟩) n8 (.int .i64 r2)).far (p := ⟨g, k * 3 + 2, none⟩) n8 (.int .i64 r3)
        have hB' := ((hB.setCell (p := ⟨g, k * 3, none⟩) (by simp only; omega) (.int .i64 r1)).setCell (p := ⟨g, k * 3 + 1, none⟩) (by simp only; omega) (.int .i64 r2)).setCell (p := ⟨g, k * 3 + 2, none⟩) (by simp only; omega) (.int .i64 r3)
        have HZ := Lib.hid (show _ ∧ _ ∧ _ ∧ _ ∧ _ from ⟨hrow', hq0', hq1', hq8', hB'⟩)
        clear P0 P1 P2 Q0 Q1 Q2 Q3 T1 hrow hq0 hq1 hq8 hB hrow' hq0' hq1' hq8' hB' HK HS q80 hlk
        go_wp2_with fail
        go_roundw
        case rel => exact ⟨k + 1, by omega, by go_num, HZ.out⟩
        case measure => simp [intOf]; omega
      case hB => kernel_rfl
      all_goals rfl
    · obtain rfl : k = n := by omega
      have hw1 := hq1.lt
      have hsz0 := hB.size
      have hupd : updK (addV · ⟨bx, by', bz⟩) l k = moveV ⟨bx, by', bz⟩ l := by rw [← HN.out]; exact updK_all _ _
      rw [hupd] at hrow
      obtain ⟨hV, hd⟩ := HH.out
      have hlen : (moveV ⟨bx, by', bz⟩ l).length = k := by rw [move_length, HN.out]
      have h0l : 0 < l.length := by rw [HN.out]; omega
      have hcs := refE_cases (closed := closed) hV (d := (d : Int)) ⟨by omega, by omega⟩ (by rw [HN.out]; exact hl)
      rw [Int.toNat_natCast] at hcs
      have hmv := refPts_move (l := l) (closed := closed) ⟨bx, by', bz⟩ h0l d
      have hc2 := refE_six (moveV ⟨bx, by', bz⟩ l) down closed d
      have r1 := fun W hW => refine_any A k cap l down d closed W HN.out (by omega) hW ⟨by omega, by omega⟩
      have r2 := fun W hW => refine_any (some ⟨g, 0, none⟩) k cap4 (moveV ⟨bx, by', bz⟩ l) down d closed W hlen (by omega) hW ⟨by omega, by omega⟩
      have R1 := Lib.hid r1
      have R2 := Lib.hid r2
      have HC := Lib.hid (show _ ∧ _ ∧ _ from ⟨hcs, hc2, hmv⟩)
      have c0 := hq0.cell (i := 0) rfl
      have c1 := hq0.cell (i := 1) rfl
      have c2 := hq0.cell (i := 2) rfl
      have e0 := hq8.cell (i := 0) rfl
      clear r1 r2 hcs hc2 hmv h0l hlen hV hd hupd hlt hk
      go_wp2_with fail
      refine (R1.out _ ((hv.below hB).more hB.size)).mono ?_
      rintro e w6 ⟨v, rfl, ⟨S6, rfl, hrow6⟩, hb6⟩
      have hrow6' := hrow6
      obtain ⟨A6, cap6, rfl, -, hv6⟩ := Vecs.of_own hrow6
      replace hrow := hrow.keep hb6
      replace hq1 := hq1.keep hb6
      replace hq8 := hq8.keep hb6
      replace hB := hB.trans (hb6.mono hB.size)
      have hsr := hb6.size
      have hlt6 : ∀ b off, A6 = some ⟨b, off, none⟩ → 0 < (refL l down closed d).length → b < w6.heap.size := fun b off e h => by
        obtain ⟨b', off', e', hb, -⟩ := hv6 h
        rw [e] at e'
        obtain ⟨rfl, rfl⟩ : b = b' ∧ off = off' := by simpa using e'
        exact hb
      have HLT6 := Lib.hid hlt6
      have q12 := Blk.new w6 24 #[.slice A6 (refL l down closed d).length cap6, .int .i64 (refDown l down closed d), .bool (refClosed l down closed d)]
      have hb := below_alloc w6 (.cells #[.slice A6 (refL l down closed d).length cap6, .int .i64 (refDown l down closed d), .bool (refClosed l down closed d)] 24)
      replace hrow := hrow.keep hb
      replace hq1 := hq1.keep hb
      replace hq8 := hq8.keep hb
      replace hB := hB.trans (hb.mono hB.size)
      replace hrow6' := ownsRow_below hrow6' hb
      replace e0 := hq8.cell (i := 0) rfl
      have e1 := hq8.cell (i := 1) rfl
      have e2 := hq8.cell (i := 2) rfl
      have hz8 := hq8.lt
      clear hb6 hrow6 R1 c0 c1 c2 hv6 hq0 hb hlt6
      go_wp2_with fail
      generalize World.alloc w6 _ = w7 at q12 hrow hq1 hq8 hB hrow6' hz8 ⊢
      generalize w6.heap.size = g12 at *
      clear e0 e1 e2
      refine (R2.out _ hrow.vecs).mono ?_
      rintro e w8 ⟨v, rfl, ⟨S8, rfl, hrow8⟩, hb8⟩
      have hrow8' := hrow8
      obtain ⟨A8, cap8, rfl, -, hv8⟩ := Vecs.of_own hrow8
      have hg12 := q12.lt
      replace q12 := q12.keep hb8
      replace hq1 := hq1.keep hb8
      replace hB := hB.trans (hb8.mono hB.size)
      replace hrow6' := ownsRow_below hrow6' hb8
      have hs8 := hb8.size
      clear hb8 hrow8 R2 hv8 hrow hq8
      obtain ⟨hcs, hc2, hmv⟩ := HC.out
      clear HC
      rcases hcs with ⟨h6, hnil⟩ | h16 | ⟨h0, hM, hVr⟩
      · rw [h6]
        clear h6 hnil hc2 hmv hrow6' hrow8' q12 hq1
        go_wp2_with fail
        go_ret
        exact ret_bool rfl (hB.alloc hB.size _)
      · rw [h16]
        clear h16 hc2 hmv hrow6' hrow8' q12 hq1
        go_wp2_with fail
        go_ret
        exact ret_bool rfl (hB.alloc hB.size _)
      obtain ⟨e1, e2, e3⟩ := refL_ok h0
      rw [Int.toNat_natCast] at e1
      rw [h0, e1, e2, e3]
      rw [e1] at hrow6' HLT6
      rw [e1, e2, e3] at q12
      by_cases g0 : refE (moveV ⟨bx, by', bz⟩ l) down closed d = 0
      case neg =>
        have hc3 := hc2.resolve_left g0
        clear hrow6' hrow8' q12 hq1 g0 hc2 hmv hM hVr h0 e1 e2 e3 HLT6
        rcases hc3 with h | h | h | h | h
        all_goals
          rw [h]
          clear h
          go_wp2_with fail
          go_ret
          exact ret_bool rfl (hB.alloc hB.size _)
      obtain ⟨f1, f2, f3⟩ := refL_ok g0
      rw [Int.toNat_natCast, hmv] at f1
      rw [g0, f1, f2, f3]
      rw [f1] at hrow8'
      have hPf := fun (i : Nat) (h : i < (refPts l d closed).length) => inV_of_fine (hVr.fine h)
      have hlo := hVr.1
      have hhi := hVr.2.1
      clear hc2 hmv hM hVr h0 e1 e2 e3 f1 f2 f3 g0
      obtain ⟨D, hD, hD1⟩ : ∃ D : Int, 2 ^ d = D ∧ (D = 2 ∨ D = 4 ∨ D = 8) := by
        refine ⟨_, rfl, ?_⟩
        have : d = 1 ∨ d = 2 ∨ d = 3 := by omega
        rcases this with rfl | rfl | rfl <;> simp
      have hwD : IntKind.i64.wrap D = D := by rw [IntKind.wrap_i64]; omega
      rw [hD] at hrow8' ⊢
      have hbyv : inV 1000000 ⟨bx, by', bz⟩ := inV_of_fine H4.out
      have hDB : inV 8000000 (mulV D ⟨bx, by', bz⟩) := by
        unfold inV mulV at *
        dsimp only at *
        rcases hD1 with rfl | rfl | rfl <;> omega
      have T1 := fun W => times_any ⟨bx, by', bz⟩ D W (inV_more hDB (by omega))
      generalize mulV D ⟨bx, by', bz⟩ = DB at *
      generalize refPts l d closed = P at *
      obtain ⟨ga, cap6', hs, hbg6, rowA⟩ := RowV.of_own rfl hlo hrow6'
      obtain ⟨rfl, rfl⟩ : A6 = some ⟨ga, 0, none⟩ ∧ cap6 = cap6' := by simpa using hs
      have hga := HLT6.out ga 0 rfl hlo
      have hlen8 : (moveV DB P).length = P.length := move_length _ _
      obtain ⟨gb, cap8', hs', hbg8, rowB⟩ := RowV.of_own rfl (by rw [hlen8]; exact hlo) hrow8'
      obtain ⟨rfl, rfl⟩ : A8 = some ⟨gb, 0, none⟩ ∧ cap8 = cap8' := by simpa using hs'
      rw [hlen8]
      obtain ⟨M, hM⟩ : ∃ M, P.length = M := ⟨_, rfl⟩
      rw [hM] at q12 ⊢
      have HM := Lib.hid hM
      have HPF := Lib.hid hPf
      have HD := Lib.hid hD
      have hM1 : 1 ≤ M := by omega
      have hM2 : M ≤ 1000 := by omega
      have q13 := Blk.new w8 24 #[.slice (some ⟨gb, 0, none⟩) M cap8, .int .i64 (down + d), .bool closed]
      have hb := below_alloc w8 (.cells #[.slice (some ⟨gb, 0, none⟩) M cap8, .int .i64 (down + d), .bool closed] 24)
      replace q12 := q12.keep hb
      replace hq1 := hq1.keep hb
      replace hB := hB.trans (hb.mono hB.size)
      replace rowA := rowA.keep hb
      replace rowB := rowB.keep hb
      clear hs hs' hrow6' hrow8' HLT6 hPf hlen8 hM hlo hhi hbyv hb
      go_wp2_with fail
      generalize World.alloc w8 _ = w9 at hB hq1 q12 q13 rowA rowB ⊢
      generalize w8.heap.size = g13 at *
      have hne := And.intro hbg6 (And.intro hga hbg8)
      go_loopw [14] (fun i wr => ∃ k : Nat, k ≤ M ∧ i = .int .i64 k ∧ RowV wr ga 31 (updK (addV · DB) P k) ∧ Blk wr (w.heap.size + 1) 31 #[.int .i64 bx, .int .i64 by', .int .i64 bz] ∧ Blk wr g12 24 #[.slice (some ⟨ga, 0, none⟩) M cap6, .int .i64 (down + d), .bool closed] ∧ Blk wr g13 24 #[.slice (some ⟨gb, 0, none⟩) M cap8, .int .i64 (down + d), .bool closed] ∧ RowV wr gb 31 (moveV DB P) ∧ Below w.heap.size w wr) (fun i _ => M - (intOf i).toNat)
      case atStart => exact ⟨0, Nat.zero_le _, by simp, by rw [updK_zero]; exact rowA, hq1, q12, q13, rowB, hB⟩
      case round =>
        clear hq1 hB
        obtain ⟨k', hk, rfl, hrow, hq1, hq12, hq13, hrowB, hB⟩ := hrel
        clear q12 q13 rowA rowB
        by_cases hlt : k' < M
        · have hlt' : k' < P.length := by rw [HM.out]; exact hlt
          have hget := updK_get (addV · DB) P hlt'
          have hset := updK_set (addV · DB) P hlt'
          have hlk : k' < (updK (addV · DB) P k').length := by rw [updK_length]; exact hlt'
          have hfin := HPF.out k' hlt'
          generalize P[k'] = U at *
          have T2 := fun W => plus_any U DB W (inV_more hfin (by omega)) (inV_more hDB (by omega))
          obtain ⟨u1, u2, u3⟩ := U
          obtain ⟨y1, y2, y3⟩ := DB
          generalize hR : addV ⟨u1, u2, u3⟩ ⟨y1, y2, y3⟩ = R at *
          obtain ⟨r1, r2, r3⟩ := R
          have hrv := hrow.vecs
          obtain ⟨b', off', he', -, p0, p1, p2⟩ := hrv.at_ hlk
          have hu : (updK (addV · ⟨y1, y2, y3⟩) P k')[k'] = ⟨u1, u2, u3⟩ := by
            have := hget; rw [List.getElem?_eq_getElem hlk] at this; exact Option.some.inj this
          rw [hu] at p0 p1 p2
          obtain ⟨rfl, rfl⟩ : ga = b' ∧ 0 = off' := by simpa using he'
          simp only [Nat.zero_add] at p0 p1 p2
          have hgw := hrow.lt
          have P0 := fun W (hW : Below wr.heap.size wr W) => (hW.cell (p := ⟨ga, k' * 3, none⟩) hgw).trans p0
          have P1 := fun W (hW : Below wr.heap.size wr W) => (hW.cell (p := ⟨ga, k' * 3 + 1, none⟩) hgw).trans p1
          have P2 := fun W (hW : Below wr.heap.size wr W) => (hW.cell (p := ⟨ga, k' * 3 + 2, none⟩) hgw).trans p2
          have Q0 := fun W (hW : Below wr.heap.size wr W) => (hq12.keep hW).cell (i := 0) rfl
          have Q1 := fun W (hW : Below wr.heap.size wr W) => (hq1.keep hW).cell (i := 0) rfl
          have Q2 := fun W (hW : Below wr.heap.size wr W) => (hq1.keep hW).cell (i := 1) rfl
          have Q3 := fun W (hW : Below wr.heap.size wr W) => (hq1.keep hW).cell (i := 2) rfl
          have q80 := hq12.cell (i := 0) rfl
          have hz1 := hq1.lt
          have hz2 := hq13.lt
          have HK := Lib.hid (show _ ∧ _ ∧ _ ∧ _ ∧ _ ∧ _ ∧ _ from ⟨hrow, hlk, hq1, hq12, hq13, hrowB, hB⟩)
          have HS := Lib.hid hset
          clear p0 p1 p2 hu hrv hrow hq1 hq12 hq13 hB hget hset hlk hfin hR hgw he' hrowB
          go_wp2_with fail
          apply wp_region_head 14 103 (hm := by kernel_rfl) (hN := rfl)
          case h =>
            simp only [List.take_succ_cons, List.take_zero]
            iterate 11 (apply head_still (by kernel_rfl); (intro W hW; go_simp; (try rfl)))
            (apply head_call (by kernel_rfl); (intro W; go_simp; exact ⟨rfl, rfl⟩); (intro W hW; exact T1 W))
            (apply head_call (by kernel_rfl); (intro W; go_simp; exact ⟨rfl, rfl⟩); (intro W hW; exact T2 W))
            (apply head_still (by kernel_rfl); (intro W hW; go_simp; (try rfl)))
            refine head_nil ?_
            intro W hW hF
            obtain ⟨hrow, hlk, hq1, hq12, hq13, hrowB, hB⟩ := HK.out
            have hbz := hrowB.lt
            replace hrow := hrow.keep hW
            replace hq1 := hq1.keep hW
            replace hq12 := hq12.keep hW
            replace hq13 := hq13.keep hW
            replace hrowB := hrowB.keep hW
            replace hB := hB.trans (hW.mono hB.size)
            have o0 := P0 W hW
            have o1 := P1 W hW
            have o2 := P2 W hW
            have hfr := hrow.frozen
            have n1 : w.heap.size + 1 ≠ ga := by omega
            have n2 : g12 ≠ ga := by omega
            have n3 : g13 ≠ ga := by omega
            have n4 : gb ≠ ga := by omega
            have hrow' := hrow.set hlk ⟨r1, r2, r3⟩
            rw [HS.out] at hrow'
            have hq1' := ((hq1.far (p := ⟨ga, k' * 3, none⟩) n1 (.int .i64 r1)).far (p := ⟨ga, k' * 3 + 1, none⟩) n1 (.int .i64 r2)).far (p := ⟨ga, k' * 3 + 2, none⟩) n1 (.int .i64 r3)
            have hq12' := ((hq12.far (p := ⟨ga, k' * 3, none⟩) n2 (.int .i64 r1)).far (p := ⟨ga, k' * 3 + 1, none⟩) n2 (.int .i64 r2)).far (p := ⟨ga, k' * 3 + 2, none⟩) n2 (.int .i64 r3)
            have hq13' := ((hq13.far (p := ⟨ga, k' * 3, none⟩) n3 (.int .i64 r1)).far (p := ⟨ga, k' * 3 + 1, none⟩) n3 (.int .i64 r2)).far (p := ⟨ga, k' * 3 + 2, none⟩) n3 (.int .i64 r3)
            have hrB' := ((hrowB.far (p := ⟨ga, k' * 3, none⟩) n4 (.int .i64 r1)).far (p := ⟨ga, k' * 3 + 1, none⟩) n4 (.int .i64 r2)).far (p := ⟨ga, k' * 3 + 2, none⟩) n4 (.int .i64 r3)
            have hB' := ((hB.setCell (p := ⟨ga, k' * 3, none⟩) (by simp only; omega) (.int .i64 r1)).setCell (p := ⟨ga, k' * 3 + 1, none⟩) (by simp only; omega) (.int .i64 r2)).setCell (p := ⟨ga, k' * 3 + 2, none⟩) (by simp only; omega) (.int .i64 r3)
            have HZ := Lib.hid (show _ ∧ _ ∧ _ ∧ _ ∧ _ ∧ _ from ⟨hrow', hq1', hq12', hq13', hrB', hB'⟩)
            clear P0 P1 P2 Q0 Q1 Q2 Q3 T1 T2 hrow hq1 hq12 hq13 hrowB hB hrow' hq1' hq12' hq13' hrB' hB' HK HS q80 hlk
            go_wp2_with fail
            go_roundw
            case rel => exact ⟨k' + 1, by omega, by go_num, HZ.out⟩
            case measure => simp [intOf]; omega
          case hB => kernel_rfl
          all_goals rfl
        · obtain rfl : k' = M := by omega
          have hall : updK (addV · DB) P k' = moveV DB P := by rw [← HM.out]; exact updK_all _ _
          rw [hall] at hrow
          have c0 := hq12.cell (i := 0) rfl
          have c1 := hq12.cell (i := 1) rfl
          have c2 := hq12.cell (i := 2) rfl
          have e0 := hq13.cell (i := 0) rfl
          have e1 := hq13.cell (i := 1) rfl
          have e2 := hq13.cell (i := 2) rfl
          have s1 := fun W hv hv' => same_eq (some ⟨ga, 0, none⟩) (some ⟨gb, 0, none⟩) k' cap6 cap8 (moveV DB P) (down + d) closed W (by rw [move_length, HM.out]) (by omega) hv hv'
          have S1 := Lib.hid s1
          have HV := Lib.hid (show _ ∧ _ from ⟨hrow.vecs, hrowB.vecs⟩)
          clear hall hrow hrowB hq12 hq13 hq1 s1
          go_wp2_with fail
          refine (S1.out _ HV.out.1 HV.out.2).mono ?_
          rintro e wz ⟨rfl, hbz⟩
          replace hB := hB.trans (hbz.mono hB.size)
          clear hbz c0 c1 c2 e0 e1 e2
          go_wp2_with fail
          go_ret
          exact ret_bool rfl hB

theorem moves_all (A : Option Addr) (n cap : Nat) (l : List Vec) (down d : Int) (closed : Bool) (bx by' bz : Int) (w : World) (hn : l.length = n) (hl : n ≤ 9223372036854775807) (hv : Vecs w w.heap.size A l) (hA : A = none → cap = 0) :
    Calls Try.prog 6 #[.agg #[.slice A n cap, .int .i64 down, .bool closed], .int .i64 d, .agg #[.int .i64 bx, .int .i64 by', .int .i64 bz]] w (Ret w (.bool true)) := by
  by_cases h : n ≤ 200 ∧ Valid l down ∧ 1 ≤ d ∧ d ≤ 3 ∧ fineB bx by' bz 1000000 = true
  · obtain ⟨h1, h2, h3, h4, h5⟩ := h
    obtain ⟨k, rfl⟩ : ∃ k : Nat, d = k := ⟨d.toNat, by omega⟩
    exact moves_walk A n cap l down k closed bx by' bz w hn h1 hv hA h2 ⟨by omega, by omega⟩ h5
  · exact moves_early A n cap l down d closed bx by' bz w hn hl hv h
open Go.ChangeShapes Go.WideShapes Go.ChangeAt Go.Joins
/-- A vector, opened. -/
theorem open_vec {H : Type} {enc : TypeId × Value → H} {W : World} {r : Reach} {b0 : Nat} {v : Value} {d : DataW H} {p : List MemPlace} (hv : Value.okWide Try.prog W r b0 31 v) (h : DataW.Trod enc Try.prog W 0 (fun _ => true) true 31 v d p) :
    ∃ x y z : Int, v = .agg #[.int .i64 x, .int .i64 y, .int .i64 z] := by
  obtain ⟨c0, c1, c2, y0, y1, y2, m, rfl, -, -, h0, h1, h2⟩ := open_agg3 Try.underlying31 (by kernel_rfl) Try.cells31 hv h
  obtain ⟨x, rfl, -⟩ := cell_int Try.underlying3 h0
  obtain ⟨y, rfl, -⟩ := cell_int Try.underlying3 h1
  obtain ⟨z, rfl, -⟩ := cell_int Try.underlying3 h2
  exact ⟨x, y, z, rfl⟩

set_option maxRecDepth 100000 in
theorem moves_lifted (os : Os) (started : os.Started) (H : Type) (enc : TypeId × Value → H) :
    ReturnsInHanded {} Try.checked os 6 .any (Rows.subdivMovesSpec.pre6 enc Try.prog Try.f6 Rows.subdivMovesRow.domain false) (Rows.subdivMovesSpec.post enc Try.prog Try.f6 false true false false) := by
  refine returnsInHanded_of_change (C := Try.checked) own started (by kernel_rfl) Try.func6
    (ChangeSpec.witness6 (enc := enc) (C := Try.checked) false ⟨#[], #[.agg #[.slice none 0 0, .int .i64 0, .bool false], .int .i64 0, .agg #[.int .i64 0, .int .i64 0, .int .i64 0]], []⟩ 8 (by kernel_rfl) (by kernel_rfl) (by kernel_rfl) (by kernel_rfl)) ?_
  intro W base args ds gs before hval0 hW hcnd _
  have hval : ∀ (j : Nat) t v, Try.f6.params[j]? = some t → args[j]? = some v → Value.okWide Try.prog W .any base t v := hval0
  have hW' := hW
  obtain ⟨p, q, hA0, hV, rfl, hfz, hnd⟩ := hW
  have hA : DataW.TrodAll enc Try.prog W 0 (fun _ => true) true Try.f6.params.toList args.toList ds p := hA0
  rw [Try.params6] at hA hval
  obtain ⟨v0, vs0, d0, ds0, p0, q0, hargs, rfl, rfl, h0, r0⟩ := trodAll_cons hA
  obtain ⟨v1, vs1, d1, ds1, p1, q1, rfl, rfl, rfl, h1, r1⟩ := trodAll_cons r0
  obtain ⟨v2, vs2, d2, ds2, p2, q2, rfl, rfl, rfl, h2, r2⟩ := trodAll_cons r1
  obtain ⟨rfl, rfl, rfl⟩ := trodAll_nil r2
  obtain rfl : args = #[v0, v1, v2] := by cases args; simp_all
  obtain ⟨rfl, rfl⟩ := trodVars_none hV
  obtain ⟨A, n, cap, l, down, closed, rfl, hn, hl, hvs, hcap, -⟩ := open_curve2 (hval 0 24 v0 rfl rfl) h0
  obtain ⟨d, rfl, -, -, -⟩ := open_int Try.underlying3 (hval 1 3 v1 rfl rfl) h1
  obtain ⟨bx, by', bz, rfl⟩ := open_vec (hval 2 31 v2 rfl rfl) h2
  refine (moves_all A n cap l down d closed bx by' bz W hn hl hvs hcap).mono fun e W' ⟨he, hb⟩ => ?_
  exact ⟨_, he, law_post laidOut hW' rfl (by kernel_rfl) rfl Try.underlying4 rfl rfl rfl hb⟩

theorem moves_holds : Rows.SubdivMovesSaid :=
  OpenClaim.holds_of_wide 6 Try.f6 rfl rfl rfl rfl rfl rfl rfl ⟨rfl, rfl, rfl, rfl, rfl⟩ rfl rfl rfl rfl rfl (by kernel_rfl) Try.func6 (by kernel_rfl)
    (of_decide_eq_true (by kernel_rfl)) (by unfold Func.isWrapper; first | (rw [if_pos (by decide +kernel)]; kernel_rfl) | (rw [if_neg (by decide +kernel)]; exact ⟨rfl, rfl⟩))
    (fun os started H enc _ => moves_lifted os started H enc)
#print axioms moves_holds
end Go.Proofs.Ytfdjhiomdimfcaa
