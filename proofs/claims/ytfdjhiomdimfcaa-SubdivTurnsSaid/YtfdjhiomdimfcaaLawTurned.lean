/- The law 'SubdivTurns'. -/
import Derived.Test.YtfdjhiomdimfcaaSubM
import Derived.Test.YtfdjhiomdimfcaaSubLaws
import Derived.Test.YtfdjhiomdimfcaaAppend
import Derived.Test.YtfdjhiomdimfcaaRegionZ
namespace Go.Rel
theorem Recs.take {α : Type} {cells : α → List Value} {z : Nat} {w : World} {B : Nat} {A : Option Addr} {l : List α} (h : Recs cells z w B A l) (m : Nat) : Recs cells z w B A (l.take m) := fun hl => by
  obtain ⟨b, off, e, hb, hc⟩ := h (by rw [List.length_take] at hl; omega)
  refine ⟨b, off, e, hb, fun i v hi j u hj => hc i v ?_ j u hj⟩
  rw [List.getElem?_take] at hi
  split at hi
  · exact hi
  · cases hi
theorem Recs.drop {α : Type} {cells : α → List Value} {z : Nat} {w : World} {B b off : Nat} {l : List α} (h : Recs cells z w B (some ⟨b, off, none⟩) l) (m : Nat) : Recs cells z w B (some ⟨b, off + m * z, none⟩) (l.drop m) := fun hl => by
  obtain ⟨b', off', e, hb, hc⟩ := h (by rw [List.length_drop] at hl; omega)
  obtain ⟨rfl, rfl⟩ : b = b' ∧ off = off' := by simpa using e
  refine ⟨b, off + m * z, rfl, hb, fun i v hi j u hj => ?_⟩
  rw [List.getElem?_drop] at hi
  have := hc (m + i) v hi j u hj
  rw [Nat.add_mul] at this
  rw [show off + m * z + i * z + j = off + (m * z + i * z) + j by omega]
  exact this
theorem refL_len (l : List Vec) (down : Int) (closed : Bool) (d : Int) : (refL l down closed d).length ≤ 1000 := by
  by_cases h0 : refE l down closed d = 0
  · rw [(refL_ok h0).1]
    unfold refE at h0
    repeat' split at h0
    all_goals first | omega | (next h => exact h.2.1) | skip
    all_goals simp at h0
  · rw [(refL_bad h0).1]; simp
/-- What is known of the second curve. -/
def GoodC (B : Nat) (te : TypeId) (l : List Vec) (down : Int) (closed : Bool) (W : World) (cs : Array Value) : Prop :=
  ∃ A cap, cs = #[.slice A l.length cap, .int .i64 down, .bool closed] ∧ W.ownsRow B te 3 (.slice A l.length cap) l.length (l.flatMap Vec.cells)
theorem goodC_ok {B : Nat} {t te : TypeId} {l : List Vec} {down : Int} {closed : Bool} (h : te ≠ t) : GoodOk t 3 (GoodC B te l down closed) :=
  ⟨fun _ _ _ ho ⟨A, cap, e, hr⟩ => ⟨A, cap, e, ho.row hr h⟩, fun _ _ ⟨_, _, e, _⟩ => by subst e; rfl⟩
def SlcK (B : Nat) (te : TypeId) (n : Nat) (l : List Vec) (v : Value) (W : World) : Prop := ∃ A cap, v = .slice A n cap ∧ W.ownsRow B te 3 (.slice A n cap) n (l.flatMap Vec.cells)
def CrvK (B : Nat) (te : TypeId) (n : Nat) (l : List Vec) (down : Int) (closed : Bool) (v : Value) (W : World) : Prop := ∃ A cap, v = .agg #[.slice A n cap, .int .i64 down, .bool closed] ∧ W.ownsRow B te 3 (.slice A n cap) n (l.flatMap Vec.cells)
def PairK (B : Nat) (te : TypeId) (n : Nat) (l : List Vec) (down : Int) (closed : Bool) (e : Int) (v : Value) (W : World) : Prop := ∃ A cap, v = .tuple #[.agg #[.slice A n cap, .int .i64 down, .bool closed], .int .i64 e] ∧ W.ownsRow B te 3 (.slice A n cap) n (l.flatMap Vec.cells)
theorem SlcK.mono {B n : Nat} {t te : TypeId} {l : List Vec} {v : Value} {W W' : World} (h : SlcK B te n l v W) (ho : Others t W W') (he : te ≠ t) : SlcK B te n l v W' := by
  obtain ⟨A, cap, e, hr⟩ := h; exact ⟨A, cap, e, ho.row hr he⟩
theorem CrvK.mono {B n : Nat} {t te : TypeId} {l : List Vec} {down : Int} {closed : Bool} {v : Value} {W W' : World} (h : CrvK B te n l down closed v W) (ho : Others t W W') (he : te ≠ t) : CrvK B te n l down closed v W' := by
  obtain ⟨A, cap, e, hr⟩ := h; exact ⟨A, cap, e, ho.row hr he⟩
theorem PairK.mono {B n : Nat} {t te : TypeId} {l : List Vec} {down e : Int} {closed : Bool} {v : Value} {W W' : World} (h : PairK B te n l down closed e v W) (ho : Others t W W') (he : te ≠ t) : PairK B te n l down closed e v W' := by
  obtain ⟨A, cap, e, hr⟩ := h; exact ⟨A, cap, e, ho.row hr he⟩
theorem gives_move_pair {P : Program} {o : Oper} {a : Act} {W : World} {x : Operand} {R : World → World → Prop} {B n : Nat} {te : TypeId} {l : List Vec} {down e : Int} {closed : Bool} {v : Value} (ho : o.op = .move x) (hx : a.eval x = v) (hR : R W W) (hk : PairK B te n l down closed e v W) :
    Gives P o a W (fun v' W' => PairK B te n l down closed e v' W' ∧ R W W') := by
  subst hx
  unfold Gives
  simp [execOp, ho]
  exact ⟨hk, hR⟩
theorem gives_extract0 {P : Program} {o : Oper} {a : Act} {W : World} {x : Operand} {R : World → World → Prop} {B n : Nat} {te : TypeId} {l : List Vec} {down e : Int} {closed : Bool} {v : Value} (ho : o.op = .extract x 0) (hx : a.eval x = v) (hR : R W W) (hk : PairK B te n l down closed e v W) :
    Gives P o a W (fun v' W' => CrvK B te n l down closed v' W' ∧ R W W') := by
  obtain ⟨A, cap, rfl, hr⟩ := hk
  unfold Gives
  simp [execOp, ho, hx]
  exact ⟨⟨A, cap, rfl, hr⟩, hR⟩
theorem gives_extract1 {P : Program} {o : Oper} {a : Act} {W : World} {x : Operand} {R : World → World → Prop} {B n : Nat} {te : TypeId} {l : List Vec} {down e : Int} {closed : Bool} {v : Value} (ho : o.op = .extract x 1) (hx : a.eval x = v) (hR : R W W) (hk : PairK B te n l down closed e v W) :
    Gives P o a W (fun v' W' => v' = .int .i64 e ∧ R W W') := by
  obtain ⟨A, cap, rfl, hr⟩ := hk
  unfold Gives
  have hrun : (execOp a.eval o).run P W = .ok (.value (.int .i64 e)) W := by
    simp [execOp, ho, hx, Instr.extract]
  rw [hrun]
  exact ⟨rfl, hR⟩
theorem refL_turn_len {l : List Vec} {down : Int} {closed : Bool} (h : Valid l down) (d : Int) : (refL l.reverse down closed d).length = (refL l down closed d).length ∧ refDown l.reverse down closed d = refDown l down closed d ∧ refClosed l.reverse down closed d = refClosed l down closed d := by
  have hE := refE_turn (closed := closed) h d
  unfold refL refDown refClosed
  rw [hE]
  refine ⟨?_, rfl, rfl⟩
  split
  · exact refPts_rev_length _
  · rfl
theorem refL_turn_same {l : List Vec} {down : Int} {closed : Bool} (h : Valid l down) (d : Nat) (hc : ¬ (closed = true ∧ refE l down closed d = 0)) : (refL l down closed d).reverse = refL l.reverse down closed d := by
  have hE := refE_turn (closed := closed) h (d : Int)
  by_cases h0 : refE l down closed d = 0
  · have hcl : closed = false := by cases closed; rfl; exact absurd ⟨rfl, h0⟩ hc
    subst hcl
    rw [(refL_ok h0).1, (refL_ok (hE.trans h0)).1, Int.toNat_natCast, ref_turn_open (by have := h.1; omega)]
  · rw [(refL_bad h0).1, (refL_bad (by rw [hE]; exact h0)).1]; rfl
theorem refL_turn_loop {l : List Vec} {down : Int} (h : Valid l down) (d : Nat) (h0 : refE l down true d = 0) : ∃ k, k < (refL l down true d).length ∧ rot (refL l down true d).reverse k = refL l.reverse down true d := by
  have hE := refE_turn (closed := true) h (d : Int)
  have hl : 0 < l.length := by have := h.1; omega
  rw [(refL_ok h0).1, (refL_ok (hE.trans h0)).1, Int.toNat_natCast]
  refine ⟨d % (2 * l.length), ?_, ref_turn_closed hl d⟩
  rw [refPts_length]
  have hM : (refM l.length d true).toNat = 2 * l.length := by unfold refM; simp; omega
  rw [hM]
  exact Nat.mod_lt _ (by omega)
end Go.Rel
namespace Go.Proofs.Ytfdjhiomdimfcaa
open Go.RowKit Go.Rel Go.Joins

set_option maxHeartbeats 2000000 in
theorem turns_early (A : Option Addr) (n cap : Nat) (l : List Vec) (down d : Int) (closed : Bool) (w : World) (hn : l.length = n) (hl : n ≤ 9223372036854775807) (hv : Vecs w w.heap.size A l) (hno : ¬ (n ≤ 200 ∧ Valid l down ∧ 1 ≤ d ∧ d ≤ 3)) :
    Calls Try.prog 7 #[.agg #[.slice A n cap, .int .i64 down, .bool closed], .int .i64 d] w (Ret w (.bool true)) := by
  have HN := Lib.hid hn
  have hb0 := below_alloc w (.cells #[.slice A n cap, .int .i64 down, .bool closed] 24)
  have q0 := Blk.new w 24 #[.slice A n cap, .int .i64 down, .bool closed]
  have hs : ∃ b1 b2 b3 : Bool, decide (n ≤ 200 ∧ Valid l down) = b1 ∧ decide (d < 1) = b2 ∧ decide (3 < d) = b3 ∧ (b1 = false ∨ (b1 = true ∧ b2 = true) ∨ (b1 = true ∧ b2 = false ∧ b3 = true)) := by
    refine ⟨_, _, _, rfl, rfl, rfl, ?_⟩
    by_cases h1 : n ≤ 200 ∧ Valid l down
    · by_cases h2 : d < 1
      · exact .inr (.inl ⟨decide_eq_true h1, decide_eq_true h2⟩)
      · refine .inr (.inr ⟨decide_eq_true h1, decide_eq_false h2, decide_eq_true ?_⟩)
        have : ¬ (1 ≤ d ∧ d ≤ 3) := fun h => hno ⟨h1.1, h1.2, h⟩
        omega
    · exact .inl (decide_eq_false h1)
  obtain ⟨b1, b2, b3, h1, h2, h3, hc⟩ := hs
  have H1 := Lib.hid h1
  clear h1 hno hn
  go_enter Try.func7, Try.ntmps7
  go_wp2_with fail
  generalize World.alloc _ _ = w0 at hb0 q0 ⊢
  refine (alive_any _).mono ?_
  rintro e w1 ⟨rfl, hb1⟩
  replace q0 := q0.keep hb1
  replace hb0 := hb0.trans (hb1.mono hb0.size)
  have c0 := q0.cell (i := 0) rfl
  have c1 := q0.cell (i := 1) rfl
  have c2 := q0.cell (i := 2) rfl
  clear hb1
  go_wp2_with fail
  refine (small_any A n cap l down closed _ HN.out hl ((hv.below hb0).more hb0.size)).mono ?_
  rw [H1.out]
  rintro e w2 ⟨rfl, hb1⟩
  replace hb0 := hb0.trans (hb1.mono hb0.size)
  clear c0 c1 c2 hb1 hv q0
  rcases hc with rfl | ⟨rfl, rfl⟩ | ⟨rfl, rfl, rfl⟩
  all_goals
    (try simp only [decide_eq_true_eq, decide_eq_false_iff_not] at h2 h3)
    go_wp2_with fail
    go_ret
    exact ret_bool rfl hb0

attribute [local irreducible] Go.Rel.Gives in
set_option maxRecDepth 100000 in
set_option maxHeartbeats 4000000 in
theorem turns_walk (A : Option Addr) (n cap : Nat) (l : List Vec) (down : Int) (d : Nat) (closed : Bool) (w : World) (hn : l.length = n) (hl : n ≤ 200) (hv : Vecs w w.heap.size A l) (hV : Valid l down) (hd : 1 ≤ d ∧ d ≤ 3) :
    Calls Try.prog 7 #[.agg #[.slice A n cap, .int .i64 down, .bool closed], .int .i64 d] w (Ret w (.bool true)) := by
  have HN := Lib.hid hn
  have hb0 := below_alloc w (.cells #[.slice A n cap, .int .i64 down, .bool closed] 24)
  have q0 := Blk.new w 24 #[.slice A n cap, .int .i64 down, .bool closed]
  have h1 : decide (n ≤ 200 ∧ Valid l down) = true := decide_eq_true ⟨hl, hV⟩
  have H1 := Lib.hid h1
  obtain ⟨d1, d2⟩ := id hd
  have z1 : decide ((d : Int) < 1) = false := decide_eq_false (by omega)
  have z2 : decide (3 < (d : Int)) = false := decide_eq_false (by omega)
  have h0l : 0 < l.length := by have := hV.1; omega
  have hrl : l.reverse.length = n := by rw [List.length_reverse]; exact hn
  have r1 := fun W hW => refine_any A n cap l down d closed W hn (by omega) hW ⟨by omega, by omega⟩
  have r2 := fun A' cap' W hW => refine_any A' n cap' l.reverse down d closed W hrl (by omega) hW ⟨by omega, by omega⟩
  have rt := fun W hW => turned_any A n cap l W hn (by omega) hW
  have hEE := refE_turn (closed := closed) hV (d : Int)
  have R1 := Lib.hid r1
  have R2 := Lib.hid r2
  have RT := Lib.hid rt
  have HH := Lib.hid (show _ ∧ _ ∧ _ ∧ _ from ⟨hV, hd, h0l, hEE⟩)
  clear h1 hn r1 r2 rt hV hd hEE hrl h0l
  go_enter Try.func7, Try.ntmps7
  go_wp2_with fail
  generalize World.alloc _ _ = w0 at hb0 q0 ⊢
  refine (alive_any _).mono ?_
  rintro e w1 ⟨rfl, hb1⟩
  replace q0 := q0.keep hb1
  replace hb0 := hb0.trans (hb1.mono hb0.size)
  have c0 := q0.cell (i := 0) rfl
  have c1 := q0.cell (i := 1) rfl
  have c2 := q0.cell (i := 2) rfl
  clear hb1
  go_wp2_with fail
  refine (small_any A n cap l down closed _ HN.out (by omega) ((hv.below hb0).more hb0.size)).mono ?_
  rw [H1.out]
  rintro e w2 ⟨rfl, hb1⟩
  replace q0 := q0.keep hb1
  replace hb0 := hb0.trans (hb1.mono hb0.size)
  replace c0 := q0.cell (i := 0) rfl
  replace c1 := q0.cell (i := 1) rfl
  replace c2 := q0.cell (i := 2) rfl
  clear hb1 H1
  go_wp2_with fail
  refine (R1.out _ ((hv.below hb0).more hb0.size)).mono ?_
  rintro e w3 ⟨v, rfl, ⟨S3, rfl, hrow3⟩, hb3⟩
  obtain ⟨A3, cap3, rfl, -, hv3⟩ := Vecs.of_own hrow3
  replace q0 := q0.keep hb3
  replace hb0 := hb0.trans (hb3.mono hb0.size)
  have q1 := Blk.new w3 24 #[.slice A3 (refL l down closed d).length cap3, .int .i64 (refDown l down closed d), .bool (refClosed l down closed d)]
  have hb := below_alloc w3 (.cells #[.slice A3 (refL l down closed d).length cap3, .int .i64 (refDown l down closed d), .bool (refClosed l down closed d)] 24)
  replace hv3 := (hv3.below hb).more hb.size
  replace q0 := q0.keep hb
  replace hb0 := hb0.trans (hb.mono hb0.size)
  replace c0 := q0.cell (i := 0) rfl
  replace c1 := q0.cell (i := 1) rfl
  replace c2 := q0.cell (i := 2) rfl
  clear hb3 hrow3 R1 hb
  go_wp2_with fail
  generalize World.alloc w3 _ = w4 at q1 hv3 q0 hb0 ⊢
  have q1l := q1.lt
  generalize w3.heap.size = g1 at *
  clear c0 c1 c2
  have P0 := fun W (hW : Below w4.heap.size w4 W) => (q0.keep hW).cell (i := 0) rfl
  have P1 := fun W (hW : Below w4.heap.size w4 W) => (q0.keep hW).cell (i := 1) rfl
  have P2 := fun W (hW : Below w4.heap.size w4 W) => (q0.keep hW).cell (i := 2) rfl
  have hvW := fun W (hW : Below w4.heap.size w4 W) => (((hv.below hb0).more hb0.size).below hW).more hW.size
  obtain ⟨hV, hd, h0l, hEE⟩ := HH.out
  obtain ⟨t1, t2, t3⟩ := refL_turn_len (l := l) (closed := closed) hV (d : Int)
  have hG := goodC_ok (B := w4.heap.size) (t := 24) (te := 31) (l := refL l.reverse down closed d) (down := refDown l down closed d) (closed := refClosed l down closed d) (by decide)
  have HT := Lib.hid (show _ ∧ _ ∧ _ ∧ _ from ⟨t1, t2, t3, hEE⟩)
  have H0 := Lib.hid (show _ ∧ _ ∧ _ from ⟨q0, q1, hv3⟩)
  clear t1 t2 t3 hEE hV h0l hv q0 q1 hv3
  apply wp_region_headR 16 103 (hR := kpG_keeps hG w4.heap.size) (hm := by kernel_rfl) (hN := rfl)
  case h =>
    simp only [List.take_succ_cons, List.take_zero]
    iterate 2 (apply headG_still hG (by kernel_rfl); (intro W hW; go_simp; (try rfl)))
    apply head_memR [] (SlcK w4.heap.size 31 n l.reverse) (by kernel_rfl) (fun v W W' h hW => h.mono hW.others (by decide))
    · intro W hW _
      have hs := hW.below.size
      unfold Gives
      go_simp
      refine (RT.out W (hvW W hW.below)).mono fun e W' ⟨v, he, hrow, hb⟩ => ?_
      obtain ⟨A2, cap2, rfl, -, -⟩ := Vecs.of_own_n (by rw [List.length_reverse]; exact HN.out) hrow
      exact ⟨_, he, ⟨A2, cap2, rfl, ownsRow_le hrow hs⟩, KpG.of_below hb hs⟩
    intro v2
    iterate 4 (apply headG_still hG (by kernel_rfl); (intro W hW; go_simp; (try rfl)))
    apply head_memR [2] (CrvK w4.heap.size 31 n l.reverse down closed) (by kernel_rfl) (fun v W W' h hW => h.mono hW.others (by decide))
    · intro W hW hk
      have hk1 := hk.1 (by simp)
      refine Exists.elim hk1 fun A2 hk1 => Exists.elim hk1 fun cap2 hk1 => ?_
      have hv := hk1.1
      have hr := hk1.2
      subst hv
      unfold Gives
      go_simp
      exact ⟨⟨_, _, rfl, hr⟩, KpG.refl hG W⟩
    intro v7
    iterate 1 (apply headG_still hG (by kernel_rfl); (intro W hW; go_simp; (try rfl)))
    apply head_memR [7] (PairK w4.heap.size 31 (refL l.reverse down closed d).length (refL l.reverse down closed d) (refDown l down closed d) (refClosed l down closed d) (refE l down closed d)) (by kernel_rfl) (fun v W W' h hW => h.mono hW.others (by decide))
    · intro W hW hk
      have hs := hW.below.size
      have hk1 := hk.1 (by simp)
      refine Exists.elim hk1 fun A2 hk1 => Exists.elim hk1 fun cap2 hk1 => ?_
      have hv := hk1.1
      have hr := hk1.2
      subst hv
      obtain ⟨A2', cap2', hv', -, hvr⟩ := Vecs.of_own_n (by rw [List.length_reverse]; exact HN.out) hr
      obtain ⟨rfl, rfl⟩ : A2 = A2' ∧ cap2 = cap2' := by simpa using hv'
      unfold Gives
      go_simp
      refine (R2.out A2 cap2 W hvr).mono fun e W' ⟨v, he, ⟨S, hS, hrow⟩, hb⟩ => ?_
      obtain ⟨A8, cap8, rfl, -, -⟩ := Vecs.of_own hrow
      obtain ⟨t1, t2, t3, t4⟩ := HT.out
      rw [t2, t3, t4] at hS
      exact ⟨_, he, ⟨A8, cap8, hS, ownsRow_le hrow hs⟩, KpG.of_below hb hs⟩
    intro v9
    apply head_memR [9] (PairK w4.heap.size 31 (refL l.reverse down closed d).length (refL l.reverse down closed d) (refDown l down closed d) (refClosed l down closed d) (refE l down closed d)) (by kernel_rfl) (fun v W W' h hW => h.mono hW.others (by decide))
    · intro W hW hk
      exact gives_move_pair (v := v9) rfl (by kernel_rfl) (KpG.refl hG W) (hk.1 (by simp))
    intro v10
    apply head_memR [10] (CrvK w4.heap.size 31 (refL l.reverse down closed d).length (refL l.reverse down closed d) (refDown l down closed d) (refClosed l down closed d)) (by kernel_rfl) (fun v W W' h hW => h.mono hW.others (by decide))
    · intro W hW hk
      exact gives_extract0 (v := v10) rfl (by kernel_rfl) (KpG.refl hG W) (hk.1 (by simp))
    intro v11
    apply head_knownR [10] (.int .i64 (refE l down closed d)) (by kernel_rfl)
    · intro W hW hk
      exact gives_extract1 (v := v10) rfl (by kernel_rfl) (KpG.refl hG W) (hk.2.1 (by simp))
    apply headG_alloc hG (z := #[.slice none 0 0, .int .i64 0, .bool false]) (Nat.le_refl _) rfl (by kernel_rfl)
    · intro W; go_simp
    intro v13
    apply head_storeU [13, 11] 13 (IsGood w4.heap.size 24 (GoodC w4.heap.size 31 (refL l.reverse down closed d) (refDown l down closed d) (refClosed l down closed d))) (v := v13) (by kernel_rfl) rfl (fun _ _ _ h hk => h.mono hG hk)
    · intro W hW hk
      obtain ⟨g, hv, hg, x, y, u, ho, k0, k1, k2, k3⟩ := IsVar.cells3 (hk.1 (by simp))
      obtain ⟨A8, cap8, hv', hr⟩ := hk.2.1 (by simp)
      subst hv hv'
      have hgood := KpG.write3 (Good := GoodC w4.heap.size 31 (refL l.reverse down closed d) (refDown l down closed d) (refClosed l down closed d)) (x := .slice A8 (refL l.reverse down closed d).length cap8) (y := .int .i64 (refDown l down closed d)) (u := .bool (refClosed l down closed d)) (cs := #[x, y, u]) hg ho rfl (⟨A8, cap8, rfl, (others_write3 ho _ _ _).row hr (by decide)⟩ : GoodC w4.heap.size 31 (refL l.reverse down closed d) (refDown l down closed d) (refClosed l down closed d) _ _)
      have HG := Lib.hid hgood
      clear hgood
      unfold Gives
      go_simp
      exact ⟨HG.out.2, HG.out.1⟩
    intro _
    iterate 1 (apply headG_still hG (by kernel_rfl); (intro W hW; go_simp; (try rfl)))
    refine head_nilR ?_
    intro W hW hF
    obtain ⟨⟨g8, rfl, hg8, cs8, ⟨A8, cap8, rfl, hr8⟩, hc8⟩, -⟩ := hF
    have hW0 := hW.below
    obtain ⟨q0, q1, hv3⟩ := H0.out
    replace q0 := q0.keep hW0
    replace q1 := q1.keep hW0
    replace hv3 := (hv3.below hW0).more hW0.size
    replace hb0 := hb0.trans (hW0.mono hb0.size)
    have q8 : Blk W g8 24 _ := hc8
    obtain ⟨A8', cap8', hv', -, hv8⟩ := Vecs.of_own hr8
    obtain ⟨rfl, rfl⟩ : A8 = A8' ∧ cap8 = cap8' := by simpa using hv'
    obtain ⟨t1, t2, t3, t4⟩ := HT.out
    have hlen8 : (refL l.reverse down closed d).length = (refL l down closed d).length := t1
    rw [t1] at q8
    obtain ⟨hV, -⟩ := HH.out
    have hL1 := refL_len l down closed d
    obtain ⟨L, hL⟩ : ∃ L, (refL l down closed d).length = L := ⟨_, rfl⟩
    rw [hL] at q1 q8 hL1
    rw [hL]
    have HL := Lib.hid (show _ ∧ _ from ⟨hL, t1.trans hL⟩)
    have HV := Lib.hid hV
    have c0 := q1.cell (i := 0) rfl
    have c1 := q1.cell (i := 1) rfl
    have e0 := q8.cell (i := 0) rfl
    have e1 := q8.cell (i := 1) rfl
    clear P0 P1 P2 hvW hc8 hr8 hv' t1 t2 t3 t4 hlen8 hL hV hW hW0 HT H0 hG R2 RT HH
    go_wp2_with fail
    refine (turned_any A3 L cap3 (refL l down closed d) _ HL.out.1 (by omega) hv3).mono ?_
    rintro e w5 ⟨v, rfl, hrow, hb5⟩
    obtain ⟨At, capt, rfl, hcapt, hvt⟩ := Recs.of_own (cells := Vec.cells) (z := 3) (fun _ => rfl) (by rw [List.length_reverse]; exact HL.out.1) hrow
    replace q0 := q0.keep hb5
    replace q8 := q8.keep hb5
    replace hv8 := (hv8.below hb5).more hb5.size
    replace hb0 := hb0.trans (hb5.mono hb0.size)
    replace e0 := q8.cell (i := 0) rfl
    have z3 := q0.cell (i := 2) rfl
    clear hrow hb5 c0 c1 e1 q1 hv3
    by_cases hcase : closed = true ∧ refE l down closed d = 0
    case neg =>
      have hsame := refL_turn_same HV.out d hcase
      have hvt' := Vecs.of_recs hvt
      rw [hsame] at hvt'
      have S1 := Lib.hid (fun W hv hv' => sameVecs_any At A8 L L capt cap8 (refL l.reverse down closed d) (refL l.reverse down closed d) W HL.out.2 HL.out.2 (by omega) (by omega) hv hv')
      have HVV := Lib.hid (show _ ∧ _ from ⟨hvt', hv8⟩)
      clear hsame hvt hvt' hv8 q0 q8
      have hE : closed = false ∨ (closed = true ∧ (refE l down closed d == 0) = false ∧ (refE l down closed d != 0) = true) := by
        cases closed with
        | false => exact .inl rfl
        | true =>
          have : ¬ refE l down true d = 0 := fun h => hcase ⟨rfl, h⟩
          exact .inr ⟨rfl, by simpa using this, by simpa using this⟩
      clear hcase
      rcases hE with hE | ⟨hE, hE1, hE2⟩
      · rw [hE] at z3
        clear hE
        go_wp2_with fail
        refine (S1.out _ HVV.out.1 HVV.out.2).mono ?_
        rintro e w6 ⟨rfl, hb6⟩
        simp only [decide_true]
        replace hb0 := hb0.trans (hb6.mono hb0.size)
        clear hb6 e0 z3 S1 HVV
        go_wp2_with fail
        go_ret
        exact ret_bool rfl hb0
      · rw [hE] at z3
        clear hE
        go_wp2_with fail
        refine (S1.out _ HVV.out.1 HVV.out.2).mono ?_
        rintro e w6 ⟨rfl, hb6⟩
        simp only [decide_true]
        replace hb0 := hb0.trans (hb6.mono hb0.size)
        clear hb6 e0 z3 S1 HVV
        go_wp2_with fail
        go_ret
        exact ret_bool rfl hb0
    obtain ⟨hcl, h0⟩ := hcase
    subst hcl
    obtain ⟨k0, hk0, hrot⟩ := refL_turn_loop HV.out d h0
    have hlenT : (refL l down true d).reverse.length = L := by rw [List.length_reverse]; exact HL.out.1
    rw [HL.out.1] at hk0
    rw [h0]
    generalize (refL l down true d).reverse = T at *
    have HLB := Lib.hid HL.out.2
    generalize refL l.reverse down true d = Q at *
    have HT := Lib.hid (show _ ∧ _ from ⟨hlenT, hrot⟩)
    clear h0 hlenT hrot HL
    go_wp2_with fail
    obtain ⟨bt, ot, hAt, -⟩ := hvt.at_ (k := 0) (by rw [HT.out.1]; omega)
    subst hAt
    obtain ⟨i0, hi0, hz0, hz1, hz2⟩ := info_parts Try.infoVec
    have HI := Lib.hid (show _ ∧ _ ∧ _ ∧ _ from ⟨hi0, hz0, hz1, hz2⟩)
    clear hi0 hz0 hz1 hz2
    go_loopw [11] (fun i wr => ∃ k : Nat, k ≤ k0 ∧ i = .int .i64 k ∧ Below w5.heap.size w5 wr) (fun i _ => L - (intOf i).toNat)
    case atStart => exact ⟨0, Nat.zero_le _, by simp, Below.refl _ _⟩
    case round =>
      obtain ⟨k, hk, rfl, hB⟩ := hrel
      obtain ⟨J, rfl⟩ : ∃ J, L = k + J := ⟨L - k, by omega⟩
      have hJ : 1 ≤ J := by omega
      have hvk : ∀ W, Below wr.heap.size wr W → Recs Vec.cells 3 W W.heap.size (some ⟨bt, ot, none⟩) T := fun W hW => (hvt.below (hB.trans (hW.mono hB.size))).more (by have := hB.size; have := hW.size; omega)
      have hbk : ∀ W, Below wr.heap.size wr W → Vecs W W.heap.size A8 Q := fun W hW => (hv8.below (hB.trans (hW.mono hB.size))).more (by have := hB.size; have := hW.size; omega)
      have P0 := fun W (hW : Below wr.heap.size wr W) => (q8.keep (hB.trans (hW.mono hB.size))).cell (i := 0) rfl
      have hb9 := hb0.trans (hB.mono hb0.size)
      have hlt1 : (T.take k).length = k := by rw [List.length_take, HT.out.1]; omega
      have hlt2 : (T.drop k).length = J := by rw [List.length_drop, HT.out.1]; omega
      have hlt3 : (T.drop k ++ T.take k).length = J + k := by rw [List.length_append]; omega
      obtain ⟨F, hF⟩ : ∃ F, (T.drop k ++ T.take k).flatMap Vec.cells = F := ⟨_, rfl⟩
      have hf1 : F.take ((0 + J) * 3) = (T.drop k).flatMap Vec.cells := by
        rw [← hF, List.flatMap_append, List.take_append_of_le_length (by rw [flat_length]; omega)]
        exact List.take_of_length_le (by rw [flat_length]; omega)
      have hf2 : F.take ((0 + J + k) * 3) = (T.drop k ++ T.take k).flatMap Vec.cells := by rw [hF]; exact List.take_of_length_le (by rw [← hF, flat_length]; omega)
      have hf3 : F.take ((0 + J) * 3) ++ (T.take k).flatMap Vec.cells = F.take ((0 + J + k) * 3) := by rw [hf1, hf2, List.flatMap_append]
      obtain ⟨D, hD⟩ : ∃ D : Option Addr, (if capt = k then some ⟨bt, ot, none⟩ else some ⟨bt, ot + k * 3, none⟩) = D := ⟨_, rfl⟩
      have hDn : D = none → capt - k = 0 := fun h => by rw [h] at hD; split at hD <;> cases hD
      have hDr : ∀ W, Below wr.heap.size wr W → Recs Vec.cells 3 W W.heap.size D (T.drop k) := fun W hW => by
        rw [← hD]
        rw [if_neg (by omega)]
        exact (hvk W hW).drop k
      obtain ⟨bq, hbq⟩ : ∃ bq, decide (T.drop k ++ T.take k = Q) = bq := ⟨_, rfl⟩
      have hstep : bq = false → k + 1 ≤ k0 := fun h => by
        rw [h, decide_eq_false_iff_not] at hbq
        have : k ≠ k0 := fun e => hbq (by subst e; exact HT.out.2)
        omega
      have s1 := fun E ce W hv hv' => sameVecs_any E A8 (J + k) (k + J) ce cap8 (T.drop k ++ T.take k) Q W hlt3 HLB.out (by omega) (by omega) hv hv'
      rw [hbq] at s1
      have HS := Lib.hid (show _ ∧ _ ∧ _ ∧ _ ∧ _ from ⟨hf1, hf2, hf3, hlt1, hlt2⟩)
      have HS1 := Lib.hid s1
      have HST := Lib.hid hstep
      have HB9 := Lib.hid (show _ ∧ _ from ⟨hB, hb9⟩)
      have h3k := Lib.hid hlt3
      have kI0 : (0 : Int) ≤ (k : Int) := by omega
      have kI1 : (k : Int) ≤ (k : Int) + (J : Int) := by omega
      have kI2 : (k : Int) + (J : Int) ≤ capt := by omega
      have kI3 : (k : Int) ≤ capt := by omega
      have kI4 : (k : Int) < (k : Int) + (J : Int) := by omega
      have kI5 : (k : Int).toNat = k := by omega
      clear hF hbq hstep hf1 hf2 hf3 s1 hlt1 hlt2 hlt3 hB hb9 hvt hv8 q0 q8 e0 z3
      go_wp2_with fail
      apply wp_region_headR 12 103 (hR := kpRow_keeps wr.heap.size 31 3 F) (hm := by kernel_rfl) (hN := rfl)
      case h =>
        simp only [List.take_succ_cons, List.take_zero]
        apply head_memR [] (fun v W => W.ownsRow wr.heap.size 31 3 v 0 (F.take (0 * 3))) (by kernel_rfl) (fun v W W' h hW => hW.2.2 v 0 h)
        · intro W hW _
          exact gives_empty_row F _ 31 3 hW.2.1 (by go_simp)
        intro v0
        iterate 3 (apply head_stillR (kpRow_keeps ..) (by kernel_rfl); (intro W hW; go_simp; (try rfl)))
        apply head_memR [0] (fun v W => W.ownsRow wr.heap.size 31 3 v (0 + J) (F.take ((0 + J) * 3))) (by kernel_rfl) (fun v W W' h hW => hW.2.2 v (0 + J) h)
        · intro W hW hf
          obtain ⟨hi0, hz0, hz1, hz2⟩ := HI.out
          refine gives_append_row wr.heap.size _ _ _ rfl 31 i0 _ 3 24 Try.underlying22 hi0 hz0 hz1 hz2 rfl (by omega) v0 0 (by go_simp) (hf.1 (by simp)) (fun _ => rfl) cells_one (A := D) (m := J) (c := capt - k) (by go_simp) hDn HS.out.2.2.2.2 (hDr W hW.1) ?_ (by unfold maxLen; omega) (by omega) hW.2.1
          rw [HS.out.1]; simp
        intro v1
        iterate 3 (apply head_stillR (kpRow_keeps ..) (by kernel_rfl); (intro W hW; go_simp; (try rfl)))
        apply head_memR [4] (fun v W => W.ownsRow wr.heap.size 31 3 v (0 + J + k) (F.take ((0 + J + k) * 3))) (by kernel_rfl) (fun v W W' h hW => hW.2.2 v (0 + J + k) h)
        · intro W hW hf
          obtain ⟨hi0, hz0, hz1, hz2⟩ := HI.out
          refine gives_append_row wr.heap.size _ _ _ rfl 31 i0 _ 3 24 Try.underlying22 hi0 hz0 hz1 hz2 rfl (by omega) v1 (0 + J) (by go_simp) (hf.1 (by simp)) (fun _ => rfl) cells_one (A := some ⟨bt, ot, none⟩) (m := k) (c := capt) (by go_simp) (fun h => by cases h) HS.out.2.2.2.1 ((hvk W hW.1).take k) HS.out.2.2.1 (by unfold maxLen; omega) (by omega) hW.2.1
        intro v2
        iterate 2 (apply head_stillR (kpRow_keeps ..) (by kernel_rfl); (intro W hW; have hW1 := hW.1; go_simp; (try rfl)))
        apply head_knownR [8] (.bool bq) (by kernel_rfl)
        · intro W hW hk
          have ho : W.ownsRow wr.heap.size 31 3 v2 (0 + J + k) (F.take ((0 + J + k) * 3)) := hk.1 (by simp)
          rw [HS.out.2.1] at ho
          rw [Nat.zero_add] at ho
          obtain ⟨E, ce, rfl, -, hr⟩ := Recs.of_own (cells := Vec.cells) (z := 3) (fun _ => rfl) h3k.out ho
          unfold Gives
          go_simp
          exact (HS1.out E ce W (Vecs.of_recs hr) (hbk W hW.1)).mono fun e W' ⟨he, hw⟩ => ⟨_, he, rfl, KpRow.of_below hw hW.2.1⟩
        refine head_nilR ?_
        intro w6 hW hFF
        have hB6 := HB9.out.1.trans (hW.1.mono HB9.out.1.size)
        have hb6 := HB9.out.2.trans (hW.1.mono HB9.out.2.size)
        clear hvk hbk P0 hD hDn hDr HS1 hFF hW
        cases bq with
        | true =>
          go_wp2_with fail
          go_ret
          exact ret_bool rfl hb6
        | false =>
          have hk1 := HST.out rfl
          go_wp2_with fail
          go_roundw
          case rel =>
            (repeat apply Exists.intro)
            refine ⟨⟨k + 1, hk1, ?_, hB6⟩, rfl⟩
            go_num
          case measure => simp [intOf]; omega
      case hB => kernel_rfl
      all_goals rfl
  case hB => kernel_rfl
  all_goals rfl

theorem turns_all (A : Option Addr) (n cap : Nat) (l : List Vec) (down d : Int) (closed : Bool) (w : World) (hn : l.length = n) (hl : n ≤ 9223372036854775807) (hv : Vecs w w.heap.size A l) (_ : -9223372036854775808 ≤ d ∧ d ≤ 9223372036854775807) :
    Calls Try.prog 7 #[.agg #[.slice A n cap, .int .i64 down, .bool closed], .int .i64 d] w (Ret w (.bool true)) := by
  by_cases h : n ≤ 200 ∧ Valid l down ∧ 1 ≤ d ∧ d ≤ 3
  · obtain ⟨h1, h2, h3, h4⟩ := h
    obtain ⟨k, rfl⟩ : ∃ k : Nat, d = k := ⟨d.toNat, by omega⟩
    exact turns_walk A n cap l down k closed w hn h1 hv h2 ⟨by omega, by omega⟩
  · exact turns_early A n cap l down d closed w hn hl hv h
open Go.ChangeShapes Go.WideShapes Go.ChangeAt

set_option maxRecDepth 100000 in
theorem turns_lifted (os : Os) (started : os.Started) (H : Type) (enc : TypeId × Value → H) :
    ReturnsInHanded {} Try.checked os 7 .any (Rows.subdivTurnsSpec.pre6 enc Try.prog Try.f7 Rows.subdivTurnsRow.domain false) (Rows.subdivTurnsSpec.post enc Try.prog Try.f7 false true false false) := by
  refine returnsInHanded_of_change (C := Try.checked) own started (by kernel_rfl) Try.func7
    (ChangeSpec.witness6 (enc := enc) (C := Try.checked) false ⟨#[], #[.agg #[.slice none 0 0, .int .i64 0, .bool false], .int .i64 0], []⟩ 8 (by kernel_rfl) (by kernel_rfl) (by kernel_rfl) (by kernel_rfl)) ?_
  intro W base args ds gs before hval0 hW hcnd _
  have hval : ∀ (j : Nat) t v, Try.f7.params[j]? = some t → args[j]? = some v → Value.okWide Try.prog W .any base t v := hval0
  have hW' := hW
  obtain ⟨p, q, hA0, hV, rfl, hfz, hnd⟩ := hW
  have hA : DataW.TrodAll enc Try.prog W 0 (fun _ => true) true Try.f7.params.toList args.toList ds p := hA0
  rw [Try.params7] at hA hval
  obtain ⟨v0, vs0, d0, ds0, p0, q0, hargs, rfl, rfl, h0, r0⟩ := trodAll_cons hA
  obtain ⟨v1, vs1, d1, ds1, p1, q1, rfl, rfl, rfl, h1, r1⟩ := trodAll_cons r0
  obtain ⟨rfl, rfl, rfl⟩ := trodAll_nil r1
  obtain rfl : args = #[v0, v1] := by cases args; simp_all
  obtain ⟨rfl, rfl⟩ := trodVars_none hV
  obtain ⟨A, n, cap, l, down, closed, rfl, hn, hl, hvs, hcap, -⟩ := open_curve2 (hval 0 24 v0 rfl rfl) h0
  obtain ⟨d, rfl, -, -, hd⟩ := open_int Try.underlying3 (hval 1 3 v1 rfl rfl) h1
  refine (turns_all A n cap l down d closed W hn hl hvs (wf_i64 hd)).mono fun e W' ⟨he, hb⟩ => ?_
  exact ⟨_, he, law_post laidOut hW' rfl (by kernel_rfl) rfl Try.underlying4 rfl rfl rfl hb⟩

theorem turns_holds : Rows.SubdivTurnsSaid :=
  OpenClaim.holds_of_wide 7 Try.f7 rfl rfl rfl rfl rfl rfl rfl ⟨rfl, rfl, rfl, rfl, rfl⟩ rfl rfl rfl rfl rfl (by kernel_rfl) Try.func7 (by kernel_rfl)
    (of_decide_eq_true (by kernel_rfl)) (by unfold Func.isWrapper; first | (rw [if_pos (by decide +kernel)]; kernel_rfl) | (rw [if_neg (by decide +kernel)]; exact ⟨rfl, rfl⟩))
    (fun os started H enc _ => turns_lifted os started H enc)
#print axioms turns_holds
end Go.Proofs.Ytfdjhiomdimfcaa
