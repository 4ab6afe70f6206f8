/- The law 'SubdivInside'. -/
import Derived.Test.YtfdjhiomdimfcaaSubM
import Derived.Test.YtfdjhiomdimfcaaSubLaws
import Derived.Test.YtfdjhiomdimfcaaCurveE
import Derived.Test.YtfdjhiomdimfcaaRegionD
namespace Go.Rel
theorem leB_betw {a v b : Vec} (h : betw a v b) : leB a v b = true := by unfold betw leV at h; unfold leB; exact decide_eq_true ⟨h.1.1, h.2.1, h.1.2.1, h.2.2.1, h.1.2.2, h.2.2.2⟩
theorem hull_in {l : List Vec} {down : Int} (hV : Valid l down) : inV 1000000000000 (foldK lo2 l l.length) ∧ inV 1000000000000 (foldK hi2 l l.length) := by
  have h0 : 0 < l.length := by have := hV.1; omega
  have hall : ∀ v ∈ l, betw ⟨-1000000000000, -1000000000000, -1000000000000⟩ v ⟨1000000000000, 1000000000000, 1000000000000⟩ := fun v hv => by
    have := inV_of_fine (List.all_eq_true.1 hV.2.2.2.2 _ hv)
    unfold inV at this; unfold betw leV; dsimp only; omega
  have h1 := foldK_betw lo2 lo2_betw l h0 hall
  have h2 := foldK_betw hi2 hi2_betw l h0 hall
  unfold betw leV at h1 h2
  unfold inV
  dsimp only at h1 h2
  constructor <;> omega
theorem mul_ok {v : Vec} (h : inV 1000000000000 v) {B : Int} (hB : B = 1 ∨ B = 2 ∨ B = 4 ∨ B = 6 ∨ B = 8) : okV (mulV B v) := by
  unfold inV at h; unfold okV inV mulV
  dsimp only
  rcases hB with rfl | rfl | rfl | rfl | rfl <;> omega
end Go.Rel
namespace Go.Proofs.Ytfdjhiomdimfcaa
open Go.RowKit Go.Rel

set_option maxHeartbeats 2000000 in
theorem inside_early (A : Option Addr) (n cap : Nat) (l : List Vec) (down d : Int) (closed : Bool) (w : World) (hn : l.length = n) (hl : n ≤ 9223372036854775807) (hv : Vecs w w.heap.size A l) (hno : ¬ (n ≤ 200 ∧ Valid l down ∧ 1 ≤ d ∧ d ≤ 3)) :
    Calls Try.prog 8 #[.agg #[.slice A n cap, .int .i64 down, .bool closed], .int .i64 d] w (Ret w (.bool true)) := by
  have HN := Lib.hid hn
  have hb0 := below_alloc w (.cells #[.slice A n cap, .int .i64 down, .bool closed] 24)
  have q0 := Blk.new w 24 #[.slice A n cap, .int .i64 down, .bool closed]
  have hs : ∃ b1 b2 b3 : Bool, decide (n ≤ 200 ∧ Valid l down) = b1 ∧ decide (d < 1) = b2 ∧ decide (3 < d) = b3 ∧ (b1 = false ∨ (b1 = true ∧ b2 = true) ∨ (b1 = true ∧ b2 = false ∧ b3 = true)) := by
    refine ⟨_, _, _, rfl, rfl, rfl, ?_⟩
    by_cases h1 : n ≤ 200 ∧ Valid l down
    · by_cases h2 : d < 1
      · exact .inr (.inl ⟨decide_eq_true h1, decide_eq_true h2⟩)
      · refine .inr (.inr ⟨decide_eq_true h1, decide_eq_false h2, decide_eq_true ?_⟩)
        have : ¬ (1 ≤ d ∧ d ≤ 3) := fun h => hno ⟨h1.1, h1.2, h⟩
        omega
    · exact .inl (decide_eq_false h1)
  obtain ⟨b1, b2, b3, h1, h2, h3, hc⟩ := hs
  have H1 := Lib.hid h1
  clear h1 hno hn
  go_enter Try.func8, Try.ntmps8
  go_wp2_with fail
  generalize World.alloc _ _ = w0 at hb0 q0 ⊢
  refine (alive_any _).mono ?_
  rintro e w1 ⟨rfl, hb1⟩
  replace q0 := q0.keep hb1
  replace hb0 := hb0.trans (hb1.mono hb0.size)
  have c0 := q0.cell (i := 0) rfl
  have c1 := q0.cell (i := 1) rfl
  have c2 := q0.cell (i := 2) rfl
  clear hb1
  go_wp2_with fail
  refine (small_any A n cap l down closed _ HN.out hl ((hv.below hb0).more hb0.size)).mono ?_
  rw [H1.out]
  rintro e w2 ⟨rfl, hb1⟩
  replace hb0 := hb0.trans (hb1.mono hb0.size)
  clear c0 c1 c2 hb1 hv q0
  rcases hc with rfl | ⟨rfl, rfl⟩ | ⟨rfl, rfl, rfl⟩
  all_goals
    (try simp only [decide_eq_true_eq, decide_eq_false_iff_not] at h2 h3)
    go_wp2_with fail
    go_ret
    exact ret_bool rfl hb0

set_option maxHeartbeats 4000000 in
theorem inside_walk (A : Option Addr) (n cap : Nat) (l : List Vec) (down : Int) (d : Nat) (closed : Bool) (w : World) (hn : l.length = n) (hl : n ≤ 200) (hv : Vecs w w.heap.size A l) (hV : Valid l down) (hd : 1 ≤ d ∧ d ≤ 3) :
    Calls Try.prog 8 #[.agg #[.slice A n cap, .int .i64 down, .bool closed], .int .i64 d] w (Ret w (.bool true)) := by
  have HN := Lib.hid hn
  have hb0 := below_alloc w (.cells #[.slice A n cap, .int .i64 down, .bool closed] 24)
  have q0 := Blk.new w 24 #[.slice A n cap, .int .i64 down, .bool closed]
  have h1 : decide (n ≤ 200 ∧ Valid l down) = true := decide_eq_true ⟨hl, hV⟩
  have H1 := Lib.hid h1
  obtain ⟨d1, d2⟩ := id hd
  have hdeg : degOk (d : Int) := ⟨by omega, by omega⟩
  have hlp := limL_ok (closed := closed) hV hdeg
  have hle := checkedE_ok hV hdeg
  rw [Int.toNat_natCast] at hlp
  have hcs := refE_cases (closed := closed) hV hdeg (by rw [hn]; exact hl)
  rw [Int.toNat_natCast] at hcs
  have r1 := fun W hW => refine_any A n cap l down d closed W hn (by omega) hW ⟨by omega, by omega⟩
  have r2 := fun W hW => limits_any A n cap l down d closed W hn (by omega) hW ⟨by omega, by omega⟩
  have r3 := fun W hW => hull_any A n cap l down closed W hn (by omega) hW
  rw [hlp, hle] at r2
  have hlo : hullLo l down = foldK lo2 l l.length := if_pos hV
  have hhi : hullHi l down = foldK hi2 l l.length := if_pos hV
  rw [hlo, hhi, checkE_ok hV] at r3
  have hin := hull_in hV
  have hall := hull_all l
  generalize foldK lo2 l l.length = LO at *
  generalize foldK hi2 l l.length = HI at *
  have R1 := Lib.hid r1
  have R2 := Lib.hid r2
  have R3 := Lib.hid r3
  have HH := Lib.hid (show Valid l down ∧ (1 ≤ d ∧ d ≤ 3) ∧ _ ∧ inV 1000000000000 LO ∧ inV 1000000000000 HI ∧ (∀ v ∈ l, betw LO v HI) from ⟨hV, hd, hcs, hin.1, hin.2, hall⟩)
  clear h1 hn r1 r2 r3 hlp hle hcs hV hd hdeg hlo hhi hall hin
  go_enter Try.func8, Try.ntmps8
  go_wp2_with fail
  generalize World.alloc _ _ = w0 at hb0 q0 ⊢
  refine (alive_any _).mono ?_
  rintro e w1 ⟨rfl, hb1⟩
  replace q0 := q0.keep hb1
  replace hb0 := hb0.trans (hb1.mono hb0.size)
  have c0 := q0.cell (i := 0) rfl
  have c1 := q0.cell (i := 1) rfl
  have c2 := q0.cell (i := 2) rfl
  clear hb1
  go_wp2_with fail
  refine (small_any A n cap l down closed _ HN.out (by omega) ((hv.below hb0).more hb0.size)).mono ?_
  rw [H1.out]
  have z1 : decide ((d : Int) < 1) = false := decide_eq_false (by omega)
  have z2 : decide (3 < (d : Int)) = false := decide_eq_false (by omega)
  rintro e w2 ⟨rfl, hb1⟩
  replace q0 := q0.keep hb1
  replace hb0 := hb0.trans (hb1.mono hb0.size)
  replace c0 := q0.cell (i := 0) rfl
  replace c1 := q0.cell (i := 1) rfl
  replace c2 := q0.cell (i := 2) rfl
  clear hb1 H1
  go_wp2_with fail
  refine (R3.out _ ((hv.below hb0).more hb0.size)).mono ?_
  rintro e w3 ⟨rfl, hb3⟩
  replace q0 := q0.keep hb3
  replace hb0 := hb0.trans (hb3.mono hb0.size)
  replace c0 := q0.cell (i := 0) rfl
  replace c1 := q0.cell (i := 1) rfl
  replace c2 := q0.cell (i := 2) rfl
  have hs3 := q0.lt
  have HSZ := Lib.hid (hb3.size)
  clear hb3 R3 HSZ
  obtain ⟨u1, u2, u3, u4⟩ := boxes2 w3 #[.int .i64 LO.x, .int .i64 LO.y, .int .i64 LO.z] #[.int .i64 HI.x, .int .i64 HI.y, .int .i64 HI.z] 31 31
  go_wp2_with fail
  have q6 : Blk _ w3.heap.size _ _ := u3
  have q7 : Blk _ (w3.heap.size + 1) _ _ := u4
  replace q0 := q0.keep u1
  replace hb0 := hb0.trans (u1.mono hb0.size)
  generalize World.alloc (World.alloc _ _) _ = w4 at q6 q7 q0 hb0 ⊢
  generalize w3.heap.size = g6 at *
  clear u1 u2 u3 u4 c0 c1 c2 hs3
  refine (R2.out _ ((hv.below hb0).more hb0.size)).mono ?_
  rintro e w5 ⟨v, rfl, ⟨S5, rfl, hrow5⟩, hb5⟩
  obtain ⟨A5, cap5, rfl, -, hv5⟩ := Vecs.of_own hrow5
  replace q0 := q0.keep hb5
  replace q6 := q6.keep hb5
  replace q7 := q7.keep hb5
  replace hb0 := hb0.trans (hb5.mono hb0.size)
  clear hrow5 hb5 R2
  obtain ⟨LL, hLL⟩ : ∃ LL, (limPts l d closed).length = LL := ⟨_, rfl⟩
  have hLb : LL ≤ 200 := by
    rw [← hLL, limPts_len, HN.out]
    unfold limLen; split <;> omega
  have HLL := Lib.hid hLL
  rw [hLL]
  have hby : ∃ (b2 b3 : Bool) (B : Int), ((d : Int) == 2) = b2 ∧ ((d : Int) == 3) = b3 ∧ limBy d = B ∧ ((b2 = (0 == 1) ∧ b3 = (0 == 1) ∧ B = 1) ∨ (b2 = (0 == 0) ∧ b3 = (0 == 1) ∧ B = 2) ∨ (b2 = (0 == 1) ∧ b3 = (0 == 0) ∧ B = 6)) := by
    refine ⟨_, _, _, rfl, rfl, rfl, ?_⟩
    have hdd : d = 1 ∨ d = 2 ∨ d = 3 := by omega
    rcases hdd with rfl | rfl | rfl
    · exact .inl ⟨rfl, rfl, rfl⟩
    · exact .inr (.inl ⟨rfl, rfl, rfl⟩)
    · exact .inr (.inr ⟨rfl, rfl, rfl⟩)
  obtain ⟨b2, b3, B, hb2, hb3, hB, hby⟩ := hby
  obtain ⟨hV, hd, hcs, hLO, hHI, hall⟩ := HH.out
  have hbet := fun k => leB_betw (lim_betw (lo := LO) (hi := HI) (l := l) (by have := hV.1; omega) hall hd k)
  rw [hB] at hbet
  have hBB : B = 1 ∨ B = 2 ∨ B = 6 := by rcases hby with h | h | h <;> simp [h.2.2]
  have hT6 := fun W => times_any LO B W (mul_ok hLO (by omega))
  have hT7 := fun W => times_any HI B W (mul_ok hHI (by omega))
  have HBET := Lib.hid hbet
  have HT := Lib.hid (show _ ∧ _ from ⟨hT6, hT7⟩)
  clear hbet hT6 hT7 hLO hHI hall hcs hV hd hLL hB
  clear hBB
  obtain ⟨lx, ly, lz⟩ := LO
  obtain ⟨hx, hy, hz⟩ := HI
  rcases hby with ⟨rfl, rfl, rfl⟩ | ⟨rfl, rfl, rfl⟩ | ⟨rfl, rfl, rfl⟩
  all_goals
    simp only [Nat.reduceBEq, beq_self_eq_true] at hb2 hb3
    go_wp2_with fail
  all_goals
    go_loopw [12] (fun i wr => ∃ k : Nat, k ≤ LL ∧ i = .int .i64 k ∧ Below w5.heap.size w5 wr) (fun i _ => LL - (intOf i).toNat)
    case atStart => exact ⟨0, Nat.zero_le _, by simp, Below.refl _ _⟩
    case round =>
      obtain ⟨k, hk, rfl, hB⟩ := hrel
      by_cases hlt : k < LL
      · obtain ⟨B5, o5, rfl, hB5, p0, p1, p2⟩ := hv5.at_ (show k < (limPts l d closed).length by rw [HLL.out]; exact hlt)
        simp only [getElem_lim] at p0 p1 p2
        have hX := HBET.out k
        obtain ⟨T6, T7⟩ := HT.out
        generalize limV l d k = V at *
        obtain ⟨v1, v2, v3⟩ := V
        generalize mulV _ ⟨lx, ly, lz⟩ = LB at hX T6
        generalize mulV _ ⟨hx, hy, hz⟩ = HB at hX T7
        have T8 := between_any LB ⟨v1, v2, v3⟩ HB
        rw [hX] at T8
        obtain ⟨y1, y2, y3⟩ := LB
        obtain ⟨y4, y5, y6⟩ := HB
        simp only at p0 p1 p2
        have P0 := fun W (hW : Below wr.heap.size wr W) => ((hB.trans (hW.mono hB.size)).cell (p := ⟨B5, o5 + k * 3, none⟩) hB5).trans p0
        have P1 := fun W (hW : Below wr.heap.size wr W) => ((hB.trans (hW.mono hB.size)).cell (p := ⟨B5, o5 + k * 3 + 1, none⟩) hB5).trans p1
        have P2 := fun W (hW : Below wr.heap.size wr W) => ((hB.trans (hW.mono hB.size)).cell (p := ⟨B5, o5 + k * 3 + 2, none⟩) hB5).trans p2
        have Q0 := fun W (hW : Below wr.heap.size wr W) => (q6.keep (hB.trans (hW.mono hB.size))).cell (i := 0) rfl
        have Q1 := fun W (hW : Below wr.heap.size wr W) => (q6.keep (hB.trans (hW.mono hB.size))).cell (i := 1) rfl
        have Q2 := fun W (hW : Below wr.heap.size wr W) => (q6.keep (hB.trans (hW.mono hB.size))).cell (i := 2) rfl
        have Q3 := fun W (hW : Below wr.heap.size wr W) => (q7.keep (hB.trans (hW.mono hB.size))).cell (i := 0) rfl
        have Q4 := fun W (hW : Below wr.heap.size wr W) => (q7.keep (hB.trans (hW.mono hB.size))).cell (i := 1) rfl
        have Q5 := fun W (hW : Below wr.heap.size wr W) => (q7.keep (hB.trans (hW.mono hB.size))).cell (i := 2) rfl
        have HBB := Lib.hid hB
        clear p0 p1 p2 hB hB5 hX q6 q7 hv5 HT HBET hb0 q0 HH R1 hv
        go_wp2_with fail
        apply wp_region_head 11 125 (hm := by kernel_rfl) (hN := rfl)
        case h =>
          simp only [List.take_succ_cons, List.take_zero]
          iterate 2 (apply head_still (by kernel_rfl); (intro W hW; go_simp; (try rfl)))
          (apply head_call (by kernel_rfl); (intro W; go_simp; exact ⟨rfl, rfl⟩); (intro W hW; exact T6 W))
          iterate 6 (apply head_still (by kernel_rfl); (intro W hW; go_simp; (try rfl)))
          (apply head_call (by kernel_rfl); (intro W; go_simp; exact ⟨rfl, rfl⟩); (intro W hW; exact T7 W))
          (apply head_call (by kernel_rfl); (intro W; go_simp; exact ⟨rfl, rfl⟩); (intro W hW; exact T8 W))
          refine head_nil ?_
          intro W hW hF
          clear P0 P1 P2 Q0 Q1 Q2 Q3 Q4 Q5 T6 T7 T8
          go_wp2_with fail
          go_roundw
          case rel => exact ⟨k + 1, by omega, by go_num, HBB.out.trans (hW.mono HBB.out.size)⟩
          case measure => simp [intOf]; omega
        case hB => kernel_rfl
        all_goals rfl
      · obtain rfl : k = LL := by omega
        replace hb0 := hb0.trans (hB.mono hb0.size)
        replace q0 := q0.keep hB
        replace q6 := q6.keep hB
        replace q7 := q7.keep hB
        have c0 := q0.cell (i := 0) rfl
        have c1 := q0.cell (i := 1) rfl
        have c2 := q0.cell (i := 2) rfl
        clear hv5 hB HT HBET
        go_wp2_with fail
        refine (R1.out _ ((hv.below hb0).more hb0.size)).mono ?_
        rintro e w9 ⟨v, rfl, ⟨S9, rfl, hrow9⟩, hb9⟩
        obtain ⟨A9, cap9, rfl, -, hv9⟩ := Vecs.of_own hrow9
        replace q6 := q6.keep hb9
        replace q7 := q7.keep hb9
        replace hb0 := hb0.trans (hb9.mono hb0.size)
        clear hrow9 hb9 R1 c0 c1 c2 q0 hv
        obtain ⟨hV, hd, hcs, hLO, hHI, hall⟩ := HH.out
        rcases hcs with ⟨h6, hnil⟩ | h16 | ⟨h0, hM, hVr⟩
        · rw [h6]
          have hbn := hb0.trans ((below_alloc w9 (.cells #[.slice A9 (refL l down closed d).length cap9, .int .i64 (refDown l down closed d), .bool (refClosed l down closed d)] 24)).mono hb0.size)
          clear h6 hnil HH q6 q7 hLO hHI hall hV hb0 hv9
          go_wp2_with fail
          go_ret
          exact ret_bool rfl hbn
        · rw [h16]
          have hbn := hb0.trans ((below_alloc w9 (.cells #[.slice A9 (refL l down closed d).length cap9, .int .i64 (refDown l down closed d), .bool (refClosed l down closed d)] 24)).mono hb0.size)
          clear h16 HH q6 q7 hLO hHI hall hV hb0 hv9
          go_wp2_with fail
          go_ret
          exact ret_bool rfl hbn
        obtain ⟨e1, e2, e3⟩ := refL_ok h0
        rw [Int.toNat_natCast] at e1
        rw [h0, e1, e2, e3]
        rw [e1] at hv9
        have hlen := hVr.2.1
        have hlen1 := hVr.1
        have h0l : 0 < l.length := by have := hV.1; omega
        have hmem : ∀ v ∈ refPts l d closed, betw (mulV (2 ^ d) ⟨lx, ly, lz⟩) v (mulV (2 ^ d) ⟨hx, hy, hz⟩) := fun v hv => by
          unfold refPts at hv
          obtain ⟨j, -, rfl⟩ := List.mem_map.1 hv
          exact binV_betw h0l hall d j
        have hL1 := leB_betw (foldK_betw lo2 lo2_betw _ hlen1 hmem)
        have hL2 := leB_betw (foldK_betw hi2 hi2_betw _ hlen1 hmem)
        have r4 := fun cap9 W hW => hull_any A9 (refPts l d closed).length cap9 (refPts l d closed) (down + d) closed W rfl (by omega) hW
        rw [show hullLo (refPts l d closed) (down + d) = _ from if_pos hVr, show hullHi (refPts l d closed) (down + d) = _ from if_pos hVr, checkE_ok hVr] at r4
        have hwd : ∃ D : Int, 2 ^ d = D ∧ (D = 2 ∨ D = 4 ∨ D = 8) := by
          refine ⟨_, rfl, ?_⟩
          have : d = 1 ∨ d = 2 ∨ d = 3 := by omega
          rcases this with rfl | rfl | rfl <;> simp
        obtain ⟨D, hD, hD1⟩ := hwd
        have hwD : IntKind.i64.wrap D = D := by rw [IntKind.wrap_i64]; omega
        rw [hD] at hL1 hL2
        have T6 := fun W => times_any ⟨lx, ly, lz⟩ D W (mul_ok hLO (by omega))
        have T7 := fun W => times_any ⟨hx, hy, hz⟩ D W (mul_ok hHI (by omega))
        generalize mulV D ⟨lx, ly, lz⟩ = LB at hL1 hL2 T6
        generalize mulV D ⟨hx, hy, hz⟩ = HB at hL1 hL2 T7
        generalize refPts l d closed = P at *
        generalize foldK lo2 P P.length = PL at *
        generalize foldK hi2 P P.length = PH at *
        have T8 := between_any LB PL HB
        have T9 := between_any LB PH HB
        rw [hL1] at T8
        rw [hL2] at T9
        obtain ⟨y1, y2, y3⟩ := LB
        obtain ⟨y4, y5, y6⟩ := HB
        obtain ⟨j1, j2, j3⟩ := PL
        obtain ⟨j4, j5, j6⟩ := PH
        have R4 := Lib.hid r4
        have T := Lib.hid (show _ ∧ _ ∧ _ ∧ _ from ⟨T6, T7, T8, T9⟩)
        have q9 := Blk.new w9 24 #[.slice A9 P.length cap9, .int .i64 (down + d), .bool closed]
        have hb := below_alloc w9 (.cells #[.slice A9 P.length cap9, .int .i64 (down + d), .bool closed] 24)
        replace hv9 := hv9.below hb
        replace q6 := q6.keep hb
        replace q7 := q7.keep hb
        replace hb0 := hb0.trans (hb.mono hb0.size)
        have c0 := q9.cell (i := 0) rfl
        have c1 := q9.cell (i := 1) rfl
        have c2 := q9.cell (i := 2) rfl
        have hs9 := hb.size
        clear hb r4 T6 T7 T8 T9 hL1 hL2 hmem hlen hlen1 h0l e1 e2 e3 h0 hM hVr hV hd hall hLO hHI HH HLL hD1
        go_wp2_with fail
        generalize World.alloc w9 _ = w10 at hv9 q6 q7 hb0 q9 hs9 ⊢
        clear c0 c1 c2
        refine (R4.out _ _ (hv9.more hs9)).mono ?_
        rintro e w11 ⟨rfl, hb11⟩
        replace q6 := q6.keep hb11
        replace q7 := q7.keep hb11
        replace hb0 := hb0.trans (hb11.mono hb0.size)
        clear hb11 q9 hv9 R4 hs9
        obtain ⟨u1, u2, u3, u4⟩ := boxes2 w11 #[.int .i64 j1, .int .i64 j2, .int .i64 j3] #[.int .i64 j4, .int .i64 j5, .int .i64 j6] 31 31
        go_wp2_with fail
        have qa : Blk _ w11.heap.size _ _ := u3
        have qb : Blk _ (w11.heap.size + 1) _ _ := u4
        replace q6 := q6.keep u1
        replace q7 := q7.keep u1
        replace hb0 := hb0.trans (u1.mono hb0.size)
        generalize World.alloc (World.alloc _ _) _ = w12 at q6 q7 qa qb hb0 ⊢
        generalize w11.heap.size = ga at *
        clear u1 u2 u3 u4
        have Q0 := fun W (hW : Below w12.heap.size w12 W) => (q6.keep hW).cell (i := 0) rfl
        have Q1 := fun W (hW : Below w12.heap.size w12 W) => (q6.keep hW).cell (i := 1) rfl
        have Q2 := fun W (hW : Below w12.heap.size w12 W) => (q6.keep hW).cell (i := 2) rfl
        have Q3 := fun W (hW : Below w12.heap.size w12 W) => (q7.keep hW).cell (i := 0) rfl
        have Q4 := fun W (hW : Below w12.heap.size w12 W) => (q7.keep hW).cell (i := 1) rfl
        have Q5 := fun W (hW : Below w12.heap.size w12 W) => (q7.keep hW).cell (i := 2) rfl
        obtain ⟨T6, T7, T8, T9⟩ := T.out
        have HB0 := Lib.hid (show _ ∧ _ ∧ _ from ⟨hb0, qa, qb⟩)
        clear hb0 qa qb q6 q7 T8 T9
        apply wp_region_headD 10 125 (i0 := 8) (j0 := 9) (hT := ⟨by decide, by decide, by decide, fun o ho => by simp at ho; subst ho; exact ⟨rfl, rfl, fun a W => ⟨_, _, by go_simp; rfl⟩⟩, fun o ho => by simp at ho; subst ho; exact ⟨rfl, rfl, fun a W => ⟨_, _, by go_simp; rfl⟩⟩⟩) (hR := kp_keeps) (hRs := fun _ _ h => h.size) (hm := by kernel_rfl) (hN := rfl)
        case h =>
          simp only [List.take_succ_cons, List.take_zero]
          iterate 3 (apply head_still (by kernel_rfl); (intro W hW; go_simp; (try rfl)))
          (apply head_call (by kernel_rfl); (intro W; go_simp; exact ⟨rfl, rfl⟩); (intro W hW; exact T6 W))
          iterate 3 (apply head_still (by kernel_rfl); (intro W hW; go_simp; (try rfl)))
          (apply head_call (by kernel_rfl); (intro W; go_simp; exact ⟨rfl, rfl⟩); (intro W hW; exact T7 W))
          apply head_alloc (by kernel_rfl)
          · intro W; go_simp; rfl
          intro s8
          apply head_alloc (by kernel_rfl)
          · intro W; go_simp; rfl
          intro s9
          refine head_nil ?_
          intro W hW hF hne
          obtain ⟨⟨g9, rfl, hg9, hc9⟩, ⟨g8, rfl, hg8, hc8⟩, -⟩ := hF
          have hne' : g8 ≠ g9 := by intro e; subst e; exact hne (by kernel_rfl)
          have hne2 : g9 ≠ g8 := fun e => hne' e.symm
          obtain ⟨hb0, qa, qb⟩ := HB0.out
          replace qa := qa.keep hW
          replace qb := qb.keep hW
          have hbE := (hb0.trans (hW.mono hb0.size))
          have hlo := hb0.size
          have x8 : Blk W g8 31 #[.int .i64 0, .int .i64 0, .int .i64 0] := hc8
          have x9 : Blk W g9 31 #[.int .i64 0, .int .i64 0, .int .i64 0] := hc9
          have t0 := x8.cell (i := 0) rfl
          have t1 := x8.cell (i := 1) rfl
          have t2 := x8.cell (i := 2) rfl
          have t3 := x8.frozen
          have t4 := x9.cell (i := 0) rfl
          have t5 := x9.cell (i := 1) rfl
          have t6 := x9.cell (i := 2) rfl
          have t7 := x9.frozen
          have a0 := qa.cell (i := 0) rfl
          have a1 := qa.cell (i := 1) rfl
          have a2 := qa.cell (i := 2) rfl
          have a3 := qb.cell (i := 0) rfl
          have a4 := qb.cell (i := 1) rfl
          have a5 := qb.cell (i := 2) rfl
          have n1 : ¬ ga = g8 := fun e => by have h1 := (show Blk w12 ga _ _ from HB0.out.2.1).lt; omega
          have n2 : ¬ ga = g9 := fun e => by have h1 := (show Blk w12 ga _ _ from HB0.out.2.1).lt; omega
          have n3 : ¬ ga + 1 = g8 := fun e => by have h1 := (show Blk w12 (ga + 1) _ _ from HB0.out.2.2).lt; omega
          have n4 : ¬ ga + 1 = g9 := fun e => by have h1 := (show Blk w12 (ga + 1) _ _ from HB0.out.2.2).lt; omega
          have y8' := ((((x8.set3 (.int .i64 y1) (.int .i64 y2) (.int .i64 y3)).far (p := ⟨g9, 0, none⟩) hne' (.int .i64 y4)).far (p := ⟨g9, 1, none⟩) hne' (.int .i64 y5)).far (p := ⟨g9, 2, none⟩) hne' (.int .i64 y6))
          have y9' := ((((x9.far (p := ⟨g8, 0, none⟩) hne2 (.int .i64 y1)).far (p := ⟨g8, 1, none⟩) hne2 (.int .i64 y2)).far (p := ⟨g8, 2, none⟩) hne2 (.int .i64 y3))).set3 (.int .i64 y4) (.int .i64 y5) (.int .i64 y6)
          have ya' := ((((((qa.far (p := ⟨g8, 0, none⟩) n1 (.int .i64 y1)).far (p := ⟨g8, 1, none⟩) n1 (.int .i64 y2)).far (p := ⟨g8, 2, none⟩) n1 (.int .i64 y3)).far (p := ⟨g9, 0, none⟩) n2 (.int .i64 y4)).far (p := ⟨g9, 1, none⟩) n2 (.int .i64 y5)).far (p := ⟨g9, 2, none⟩) n2 (.int .i64 y6))
          have yb' := ((((((qb.far (p := ⟨g8, 0, none⟩) n3 (.int .i64 y1)).far (p := ⟨g8, 1, none⟩) n3 (.int .i64 y2)).far (p := ⟨g8, 2, none⟩) n3 (.int .i64 y3)).far (p := ⟨g9, 0, none⟩) n4 (.int .i64 y4)).far (p := ⟨g9, 1, none⟩) n4 (.int .i64 y5)).far (p := ⟨g9, 2, none⟩) n4 (.int .i64 y6))
          have yE' := ((((((hbE.setCell (p := ⟨g8, 0, none⟩) (by simp only; omega) (.int .i64 y1)).setCell (p := ⟨g8, 1, none⟩) (by simp only; omega) (.int .i64 y2)).setCell (p := ⟨g8, 2, none⟩) (by simp only; omega) (.int .i64 y3)).setCell (p := ⟨g9, 0, none⟩) (by simp only; omega) (.int .i64 y4)).setCell (p := ⟨g9, 1, none⟩) (by simp only; omega) (.int .i64 y5)).setCell (p := ⟨g9, 2, none⟩) (by simp only; omega) (.int .i64 y6))
          have HY := Lib.hid (show _ ∧ _ ∧ _ ∧ _ ∧ _ from ⟨y8', y9', ya', yb', yE'⟩)
          clear Q0 Q1 Q2 Q3 Q4 Q5 hc8 hc9 x8 x9 hb0 qa qb T6 T7 hne y8' y9' ya' yb' yE' hbE
          go_wp2_with fail
          obtain ⟨y8', y9', ya', yb', yE'⟩ := HY.out
          clear t0 t1 t2 t3 t4 t5 t6 t7 a0 a1 a2 a3 a4 a5 HY
          generalize World.setCell _ _ _ = W2 at y8' y9' ya' yb' yE' ⊢
          obtain ⟨-, -, T8, T9⟩ := T.out
          refine (T8 _).mono ?_
          rintro e W3 ⟨rfl, hW3⟩
          replace y8' := y8'.keep hW3
          replace y9' := y9'.keep hW3
          replace yb' := yb'.keep hW3
          replace yE' := yE'.trans (hW3.mono yE'.size)
          have t0 := y8'.cell (i := 0) rfl
          have t1 := y8'.cell (i := 1) rfl
          have t2 := y8'.cell (i := 2) rfl
          have t4 := y9'.cell (i := 0) rfl
          have t5 := y9'.cell (i := 1) rfl
          have t6 := y9'.cell (i := 2) rfl
          have a3 := yb'.cell (i := 0) rfl
          have a4 := yb'.cell (i := 1) rfl
          have a5 := yb'.cell (i := 2) rfl
          clear hW3 T8 ya'
          go_wp2_with fail
          refine (T9 _).mono ?_
          rintro e W4 ⟨rfl, hW4⟩
          replace yE' := yE'.trans (hW4.mono yE'.size)
          clear t0 t1 t2 t4 t5 t6 a3 a4 a5 y8' y9' yb' hW4 T9
          go_wp2_with fail
          go_ret
          exact ret_bool rfl yE'
        case hB => kernel_rfl
        all_goals rfl

theorem inside_all (A : Option Addr) (n cap : Nat) (l : List Vec) (down d : Int) (closed : Bool) (w : World) (hn : l.length = n) (hl : n ≤ 9223372036854775807) (hv : Vecs w w.heap.size A l) (_ : -9223372036854775808 ≤ d ∧ d ≤ 9223372036854775807) :
    Calls Try.prog 8 #[.agg #[.slice A n cap, .int .i64 down, .bool closed], .int .i64 d] w (Ret w (.bool true)) := by
  by_cases h : n ≤ 200 ∧ Valid l down ∧ 1 ≤ d ∧ d ≤ 3
  · obtain ⟨h1, h2, h3, h4⟩ := h
    obtain ⟨k, rfl⟩ : ∃ k : Nat, d = k := ⟨d.toNat, by omega⟩
    exact inside_walk A n cap l down k closed w hn h1 hv h2 ⟨by omega, by omega⟩
  · exact inside_early A n cap l down d closed w hn hl hv h
open Go.ChangeShapes Go.WideShapes Go.ChangeAt

set_option maxRecDepth 100000 in
theorem inside_lifted (os : Os) (started : os.Started) (H : Type) (enc : TypeId × Value → H) :
    ReturnsInHanded {} Try.checked os 8 .any (Rows.subdivInsideSpec.pre6 enc Try.prog Try.f8 Rows.subdivInsideRow.domain false) (Rows.subdivInsideSpec.post enc Try.prog Try.f8 false true false false) := by
  refine returnsInHanded_of_change (C := Try.checked) own started (by kernel_rfl) Try.func8
    (ChangeSpec.witness6 (enc := enc) (C := Try.checked) false ⟨#[], #[.agg #[.slice none 0 0, .int .i64 0, .bool false], .int .i64 0], []⟩ 8 (by kernel_rfl) (by kernel_rfl) (by kernel_rfl) (by kernel_rfl)) ?_
  intro W base args ds gs before hval0 hW hcnd _
  have hval : ∀ (j : Nat) t v, Try.f8.params[j]? = some t → args[j]? = some v → Value.okWide Try.prog W .any base t v := hval0
  have hW' := hW
  obtain ⟨p, q, hA0, hV, rfl, hfz, hnd⟩ := hW
  have hA : DataW.TrodAll enc Try.prog W 0 (fun _ => true) true Try.f8.params.toList args.toList ds p := hA0
  rw [Try.params8] at hA hval
  obtain ⟨v0, vs0, d0, ds0, p0, q0, hargs, rfl, rfl, h0, r0⟩ := trodAll_cons hA
  obtain ⟨v1, vs1, d1, ds1, p1, q1, rfl, rfl, rfl, h1, r1⟩ := trodAll_cons r0
  obtain ⟨rfl, rfl, rfl⟩ := trodAll_nil r1
  obtain rfl : args = #[v0, v1] := by cases args; simp_all
  obtain ⟨rfl, rfl⟩ := trodVars_none hV
  obtain ⟨A, n, cap, l, down, closed, rfl, hn, hl, hvs, hcap, -⟩ := open_curve2 (hval 0 24 v0 rfl rfl) h0
  obtain ⟨d, rfl, -, -, hd⟩ := open_int Try.underlying3 (hval 1 3 v1 rfl rfl) h1
  refine (inside_all A n cap l down d closed W hn hl hvs (wf_i64 hd)).mono fun e W' ⟨he, hb⟩ => ?_
  exact ⟨_, he, law_post laidOut hW' rfl (by kernel_rfl) rfl Try.underlying4 rfl rfl rfl hb⟩

theorem inside_holds : Rows.SubdivInsideSaid :=
  OpenClaim.holds_of_wide 8 Try.f8 rfl rfl rfl rfl rfl rfl rfl ⟨rfl, rfl, rfl, rfl, rfl⟩ rfl rfl rfl rfl rfl (by kernel_rfl) Try.func8 (by kernel_rfl)
    (of_decide_eq_true (by kernel_rfl)) (by unfold Func.isWrapper; first | (rw [if_pos (by decide +kernel)]; kernel_rfl) | (rw [if_neg (by decide +kernel)]; exact ⟨rfl, rfl⟩))
    (fun os started H enc _ => inside_lifted os started H enc)
#print axioms inside_holds
end Go.Proofs.Ytfdjhiomdimfcaa
