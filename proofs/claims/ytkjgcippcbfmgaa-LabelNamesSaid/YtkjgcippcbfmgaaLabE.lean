/- Check of the program. -/
import Derived.Test.YtkjgcippcbfmgaaLabD
namespace Go.Rel
open Go.RowKit
theorem keepsFrom_below {B : Nat} {W W' : World} (h : Below W.heap.size W W') : KeepsFrom B W W' := KeepsFrom.of_grownBy (grown_of_below h) (fun j e => by cases e)
theorem cutP_mem {l x : Bs} (h : x ∈ cutP l) : x.length ≤ l.length := by
  have hp := path_cut l
  generalize cutP l = t at *
  subst hp
  induction t with
  | nil => simp at h
  | cons a t ih =>
    cases t with
    | nil =>
      rcases List.mem_cons.1 h with rfl | h
      · exact Nat.le_refl _
      · simp at h
    | cons b t =>
      rw [pathP_cons a (by simp), List.length_append, List.length_cons]
      rcases List.mem_cons.1 h with rfl | h
      · omega
      · have := ih h; omega
/-- All of some steps are steps. -/
def allOk {l : Bs} (p : List (StepOf l)) : Bool := p.all (fun x => stepOk x.1)
theorem allOk_attach (l : Bs) : allOk (cutP l).attach = (cutP l).all stepOk := by
  unfold allOk
  rw [show (fun x : StepOf l => stepOk x.1) = stepOk ∘ Subtype.val from rfl, ← List.all_map, List.attach_map_subtype_val]
theorem allOk_snoc {l : Bs} (p : List (StepOf l)) (x : StepOf l) : allOk (p ++ [x]) = (allOk p && stepOk x.1) := by simp [allOk]
theorem allOk_take {l : Bs} {k : Nat} (h : allOk ((cutP l).attach.take k) = false) : (cutP l).all stepOk = false := by
  rw [← allOk_attach]
  cases h2 : allOk (cutP l).attach
  · rfl
  · unfold allOk at h h2
    rw [List.all_eq_true] at h2
    rw [← h, eq_comm, List.all_eq_true]
    exact fun x hx => h2 x (List.mem_of_mem_take hx)
theorem checkP_long {l : Bs} (h : 4000 < l.length ∨ 39 < l.count 47) : checkP l = 4 := by
  unfold checkP
  rw [if_pos]
  rcases h with h | h
  · exact .inl h
  · exact .inr ((cutP_count l).2 h)
theorem checkP_ok {l : Bs} (h : ¬ (4000 < l.length ∨ 39 < l.count 47)) (h2 : (cutP l).all stepOk = true) : checkP l = 0 := by
  unfold checkP
  rw [if_neg (fun e => h (e.imp id (cutP_count l).1)), if_pos h2]
theorem checkP_form {l : Bs} (h : ¬ (4000 < l.length ∨ 39 < l.count 47)) (h2 : (cutP l).all stepOk = false) : checkP l = 12 := by
  unfold checkP
  rw [if_neg (fun e => h (e.imp id (cutP_count l).1)), h2]
  rfl
end Go.Rel
namespace Go.Proofs.Ytkjgcippcbfmgaa
open Go.RowKit Go.Rel Go.Shelf
attribute [local go_sem] Oper.semAt_some

set_option maxRecDepth 100000 in
set_option maxHeartbeats 4000000 in
theorem check_in (l : Bs) (w : World) (hl : l.length ≤ maxLen) :
    CallsIn Fence.wide 3 Try.prog 19 #[.string (str l)] w (Ret w (.int .i64 (checkP l))) := by
  have hsz : (str l).size = l.length := rfl
  have hbx := Blk.new w 23 #[.int .i64 0]
  have hb := below_alloc w (.cells #[.int .i64 0] 23)
  have r1 := fun W => Try.strings_Count_one (str l) 47 W
  rw [str_list, show Lib.countByte l 47 = l.count 47 from rfl] at r1
  have R1 := Lib.hid r1
  have hcount : l.count 47 ≤ l.length := List.count_le_length
  have hl' := hl
  unfold maxLen at hl'
  clear r1
  by_cases hbig : 4000 < l.length
  · have HV := Lib.hid (checkP_long (.inl hbig))
    have q1 : decide ((4000 : Int) < (l.length : Int)) = true := by rw [decide_eq_true_eq]; omega
    refine callsIn_of_wp Try.func19 rfl trivial ?_ rfl
    simp only [Try.ntmps19, List.size_toArray, List.length_cons, List.length_nil, Nat.reduceAdd, Nat.reduceSub, Array.replicate_succ, Array.replicate_zero, List.push_toArray, List.append_toArray, List.nil_append, List.cons_append]
    clear hbig
    have c0 := hbx.cell (i := 0) rfl
    have cf := hbx.frozen
    have clt := hbx.lt
    gi_wp2
    refine ⟨trivial, ?_⟩
    gi_wp2
    exact bodyPost_ret (v := .int .i64 4) (by simp [results, Try.results19, go_sem]) rfl ⟨by rw [HV.out], below_alloc w _⟩
  · by_cases hcn : 39 < l.count 47
    · have HV := Lib.hid (checkP_long (.inr hcn))
      have q1 : decide ((4000 : Int) < (l.length : Int)) = false := by rw [decide_eq_false_iff_not]; omega
      have q2 : decide ((39 : Int) < (l.count 47 : Int)) = true := by rw [decide_eq_true_eq]; omega
      refine callsIn_of_wp Try.func19 rfl trivial ?_ rfl
      simp only [Try.ntmps19, List.size_toArray, List.length_cons, List.length_nil, Nat.reduceAdd, Nat.reduceSub, Array.replicate_succ, Array.replicate_zero, List.push_toArray, List.append_toArray, List.nil_append, List.cons_append]
      clear hbig hcn
      gi_wp2
      refine ⟨trivial, ?_⟩
      gi_wp2
      refine (callsIn_wide.2 (R1.out _)).mono ?_
      rintro e W ⟨rfl, rfl⟩
      generalize World.alloc w _ = w1 at hbx hb ⊢
      have c0 := hbx.cell (i := 0) rfl
      have cf := hbx.frozen
      have clt := hbx.lt
      gi_wp2
      exact bodyPost_ret (v := .int .i64 4) (by simp [results, Try.results19, go_sem, c0]) rfl ⟨by rw [HV.out], hb.setCell (p := ⟨w.heap.size, 0, none⟩) (Nat.le_refl _) _⟩
    · have hno : ¬ (4000 < l.length ∨ 39 < l.count 47) := by omega
      have HV := Lib.hid (show _ ∧ _ from ⟨checkP_ok hno, checkP_form hno⟩)
      have q1 : decide ((4000 : Int) < (l.length : Int)) = false := by rw [decide_eq_false_iff_not]; omega
      have q2 : decide ((39 : Int) < (l.count 47 : Int)) = false := by rw [decide_eq_false_iff_not]; omega
      refine callsIn_of_wp_marks Try.func19 rfl trivial ?_ rfl
      simp only [Try.ntmps19, List.size_toArray, List.length_cons, List.length_nil, Nat.reduceAdd, Nat.reduceSub, Array.replicate_succ, Array.replicate_zero, List.push_toArray, List.append_toArray, List.nil_append, List.cons_append]
      clear hbig hcn hno
      gi_wp2
      refine ⟨trivial, ?_⟩
      gi_wp2
      refine (callsIn_wide.2 (R1.out _)).mono ?_
      rintro e W ⟨rfl, rfl⟩
      gi_wp2
      refine ⟨trivial, ?_⟩
      gi_wp2
      refine (steps_any _ l _).mono ?_
      rintro e W ⟨rfl, rfl⟩
      gi_wp2
      obtain ⟨x1, x2, x3, x4⟩ := boxes2 w #[.int .i64 0] #[.string (str l)] 23 9
      have x5 : Blk _ w.heap.size _ _ := x3
      have x6 : Blk _ (w.heap.size + 1) _ _ := x4
      clear hbx hb x3 x4 q1 q2
      generalize World.alloc _ _ = w0 at x1 x2 x5 x6 ⊢
      refine wpIn_rangeFunc_ownG rfl (by omega) (gf := 49) (lb := #[.pointer (some ⟨w.heap.size + 1, 0, none⟩)]) rfl trivial (enters_of Try.func49 (by kernel_rfl) rfl)
        (steps_stops 2 (by omega) (w.heap.size + 1) (cutP l).length l rfl hl w0 x6) (fun _ _ => trivial) (fun _ _ _ _ _ _ _ _ => trivial) (Below.refl _ _) (fun _ => rfl)
        (fun pre W => (W.cell? ⟨w.heap.size, 0, none⟩ = some (.int .i64 0) ∧ W.frozen? ⟨w.heap.size, 0, none⟩ = false) ∧ Below w.heap.size w W ∧ allOk pre = true)
        (fun c pre W => (W.cell? ⟨w.heap.size, 0, none⟩ = some (.int .i64 12)) ∧ Below w.heap.size w W ∧ (c = Code.ret ∧ allOk pre = false))
        (OwnFrom.and (Own.from (fun s A B row hs hg hr => ⟨cell_kept hs.1 hg hr, (frozen_kept hs.1 hg hr).trans hs.2⟩) _) (OwnFrom.and (ownFrom_below (Nat.le_refl _) (by omega)) (ownFrom_pure _ _)))
        (fun c => OwnFrom.and (Own.from (fun s A B row hs hg hr => cell_kept hs hg hr) _) (OwnFrom.and (ownFrom_below (Nat.le_refl _) (by omega)) (ownFrom_pure _ _)))
        ⟨⟨x5.cell (i := 0) rfl, x5.frozen 0⟩, x1, rfl⟩
        (fun x => { tmps := #[.string (str l), undef, .pointer (some ⟨w.heap.size, 0, none⟩), .string (str x.1), undef, undef, .string (str l), .int .i64 l.length, .bool false, .bool false, .string (str l), .int .i64 (l.count 47), .bool false, .bool false, .string (str l),
          .func (.func 49) #[] #[.pointer (some ⟨w.heap.size + 1, 0, none⟩)], .string (str x.1), undef, undef, undef, undef, undef, undef, undef], defers := [] }) ?assign ?body ?done ?stop
      case assign =>
        intro L x W K hK
        gi_wp2
        exact hK
      case body =>
        rintro L pre x W ⟨⟨hc, hfr⟩, hB, hok⟩ _
        have hxl : (str x.1).size ≤ maxLen := Nat.le_trans (cutP_mem x.2) hl
        have r2 := read_any (str x.1) W hxl
        rw [str_list] at r2
        gi_wp2
        refine ⟨trivial, ?_⟩
        gi_wp2
        refine (callsIn_wide.2 r2).mono ?_
        rintro e W2 ⟨rfl, hb2⟩
        clear r2
        have hlt : w.heap.size < W.heap.size := by
          obtain ⟨o, ho, -⟩ := cells_of_cell hc
          exact (Array.getElem?_eq_some_iff.1 ho).1
        have hc2 : W2.cell? ⟨w.heap.size, 0, none⟩ = some (.int .i64 0) := (hb2.cell (p := ⟨w.heap.size, 0, none⟩) hlt).trans hc
        have hfr2 : W2.frozen? ⟨w.heap.size, 0, none⟩ = false := (hb2.frozen (p := ⟨w.heap.size, 0, none⟩) hlt).trans hfr
        have hlt2 : w.heap.size < W2.heap.size := Nat.lt_of_lt_of_le hlt hb2.size
        have hB2 := hB.trans (hb2.mono hB.size)
        have hsn := allOk_snoc pre x
        rw [hok] at hsn
        have HSN := Lib.hid hsn
        have HK := Lib.hid (keepsFrom_below (B := w0.heap.size) hb2)
        clear hc hfr hlt hB hb2 hsn hok
        cases hs : stepOk x.1
        · gi_wp2
          refine ⟨HK.out.trans (((KeepsOthers.setCell _ _ _).from _).trans (keepsFrom_below (below_alloc _ _))), ?_, ?_, rfl, by rw [HSN.out, hs]; rfl⟩
          · exact ((below_alloc (W2.setCell ⟨w.heap.size, 0, none⟩ (.int .i64 12)) _).cell (p := ⟨w.heap.size, 0, none⟩) (by simpa using hlt2)).trans (World.cell?_setCell_same' _ _ _ (by rw [hc2]; rfl))
          · exact (hB2.setCell (p := ⟨w.heap.size, 0, none⟩) (by simp) _).alloc (by simp; omega) _
        · gi_wp2
          refine ⟨HK.out.trans (keepsFrom_below (below_alloc _ _)), trivial, ⟨?_, ?_⟩, ?_, by rw [HSN.out, hs]; rfl⟩
          · exact ((below_alloc W2 _).cell (p := ⟨w.heap.size, 0, none⟩) hlt2).trans hc2
          · exact ((below_alloc W2 _).frozen (p := ⟨w.heap.size, 0, none⟩) hlt2).trans hfr2
          · exact hB2.alloc (by omega) _
      case done =>
        rintro D ys W hD rfl ⟨⟨hc, hfr⟩, hB, hok⟩ hK
        have hv := HV.out.1 (by rw [← allOk_attach]; exact hok)
        rw [hv]
        gi_wp2
        have hK2 : (W.setCell ⟨w.heap.size, 0, none⟩ (.int .i64 0)).heap[D]? = some (.deferred (some [])) := (Below.heap_setCell _ _ _ _ (by simp only; omega)).trans hK
        have hB2 := hB.setCell (p := ⟨w.heap.size, 0, none⟩) (by simp) (.int .i64 0)
        have hc2 : (W.setCell ⟨w.heap.size, 0, none⟩ (.int .i64 0)).cell? ⟨w.heap.size, 0, none⟩ = some (.int .i64 0) := World.cell?_setCell_same' _ _ _ (by rw [hc]; rfl)
        generalize World.setCell _ _ _ = W2 at hK2 hB2 hc2 ⊢
        refine ⟨by simp, .inl ⟨_, _, rfl, run_takeDeferred hK2, ?_⟩⟩
        have hc3 : (W2.putObj D (.deferred none)).cell? ⟨w.heap.size, 0, none⟩ = some (.int .i64 0) := (World.cell?_of_block (World.putObj_heap_other (by simp only; omega))).trans hc2
        exact ⟨.int .i64 0, by simp [results, Try.results19, go_sem, hc3], by first | rfl | rw [hv], hB2.trans (belowK_b (w := w) (Nat.le_refl _) W2 D _ _ (by omega) hK2 rfl rfl)⟩
      case stop =>
        rintro D c pre W hD ⟨k, hk, rfl⟩ ⟨hc, hB, rfl, hok⟩ hK
        have hv := HV.out.2 (allOk_take hok)
        rw [hv]
        gi_wp2
        refine ⟨by simp, .inl ⟨_, _, rfl, run_takeDeferred hK, ?_⟩⟩
        have hc3 : (W.putObj D (.deferred none)).cell? ⟨w.heap.size, 0, none⟩ = some (.int .i64 12) := (World.cell?_of_block (World.putObj_heap_other (by simp only; omega))).trans hc
        exact ⟨.int .i64 12, by simp [results, Try.results19, go_sem, hc3], by first | rfl | rw [hv], hB.trans (belowK_b (w := w) (Nat.le_refl _) W D _ _ (by omega) hK rfl rfl)⟩

theorem check_any (l : Bs) (w : World) (hl : l.length ≤ maxLen) : Calls Try.prog 19 #[.string (str l)] w (Ret w (.int .i64 (checkP l))) := callsIn_wide.1 (check_in l w hl)
end Go.Proofs.Ytkjgcippcbfmgaa
