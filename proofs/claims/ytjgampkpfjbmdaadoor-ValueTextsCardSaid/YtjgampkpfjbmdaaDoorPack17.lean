/- Texts put together: ValN, ParD, RegionT. -/
import Derived.Test.YtjgampkpfjbmdaaDoorPack09
import Derived.Test.YtjgampkpfjbmdaaDoorPack12
import Derived.Test.YtjgampkpfjbmdaaDoorPack16
import Derived.Test.YtjgampkpfjbmdaaDoorPack02
section
/- Add of the reference. -/
namespace Go.Rel
open Go.RowKit
theorem fitT_more : ∀ (d : Nat) (T : Tree), fitT T d = true → fitT T (d + 1) = true
  | 0, T, h => by rw [fitT_zero] at h; cases h
  | d + 1, .node k q t s kids, h => by
    obtain ⟨e, he, h1, h2, hk⟩ := fitT_parts h
    obtain rfl : d = e := by omega
    have key : ∀ l : List Tree, (∀ x ∈ l, fitT x d = true) → fitL l (d + 1) = true := by
      intro l
      induction l with
      | nil => intro _; rfl
      | cons x r ih =>
        intro hx
        simp only [fitL, Bool.and_eq_true]
        exact ⟨fitT_more d x (hx x (by simp)), ih (fun y hy => hx y (by simp [hy]))⟩
    rw [fitT_succ, decide_eq_true h1, decide_eq_true h2, key kids hk]; rfl
theorem ok_list : Val.Ok ⟨4, ⟨0, 0⟩, false, ⟨#[]⟩, none, 0, 0⟩ := ⟨by simp, by simp, by simp, by simp, by simp, by simp, (show (0 : Nat) ≤ 9223372036854775807 by omega), by simp, by simp, fun _ => rfl⟩
theorem str_zero {s : ByteArray} (h : s.size = 0) : s = ⟨#[]⟩ := by
  cases s with
  | mk a => rw [show a = #[] from Array.eq_empty_of_size_eq_zero h]
/-- A value's list. -/
def sliceOf : Value → Value
  | .agg cs => cs.getD 5 undef
  | _ => undef
/-- The value is a copy that has been made in blocks from c on. -/
def TwnV (c : Nat) (e : TypeId) (T : Tree) (v : Value) (W : World) : Prop := ∃ x : Val, v = x.v ∧ Twn W c e T x
theorem TwnV.below {c : Nat} {e : TypeId} {T : Tree} {v : Value} {W W' : World} (h : TwnV c e T v W) (hb : Below W.heap.size W W') : TwnV c e T v W' := by
  obtain ⟨x, h1, h2⟩ := h
  exact ⟨x, h1, h2.below hb⟩
theorem low_sum {k k' : Int} {q q' : Rat2} {t t' : Bool} {s s' s'' : ByteArray} {q'' : Rat2} {t'' : Bool} {ka kb : List Tree} (h : fitT (.node k q t s ka) 10 = true) (h' : fitT (.node k' q' t' s' kb) 10 = true) : Low 11 (.node 4 q'' t'' s'' (ka ++ kb)) := by
  obtain ⟨e, he, -, h1, h2⟩ := fitT_parts h
  obtain ⟨e', he', -, h1', h2'⟩ := fitT_parts h'
  obtain rfl : 9 = e := by omega
  obtain rfl : 9 = e' := by omega
  refine ⟨?_, fun x hx => ?_⟩
  · simp only [Tree.kids, List.length_append]; omega
  · simp only [Tree.kids, List.mem_append] at hx
    exact fit_low 10 x (fitT_more 9 x (hx.elim (h2 x) (h2' x)))
end Go.Rel
namespace Go.Proofs.YtjgampkpfjbmdaaDoor
open Go.RowKit Go.Rel
theorem ok_num {r : Rat2} (h : Rat64 r) : Val.Ok ⟨1, r, false, ⟨#[]⟩, none, 0, 0⟩ := ⟨by simp, by simp, h.1, h.2.1, h.2.2.1, h.2.2.2, (show (0 : Nat) ≤ 9223372036854775807 by omega), by simp, by simp, fun _ => rfl⟩

end Go.Proofs.YtjgampkpfjbmdaaDoor
end
section
/- The reader: a value. -/
namespace Go.Rel
open Go.RowKit
theorem isDig_index : ∀ c : UInt8, decide (0 ≤ Lib.indexByte [48, 49, 50, 51, 52, 53, 54, 55, 56, 57, 47, 45] c) = isDig c := by
  have h : ∀ n : Fin 256, decide (0 ≤ Lib.indexByte [48, 49, 50, 51, 52, 53, 54, 55, 56, 57, 47, 45] (UInt8.ofNat n.val)) = isDig (UInt8.ofNat n.val) := by decide +kernel
  intro c
  have := h ⟨c.toNat, c.toNat_lt⟩
  simpa using this
theorem span_dig {l : Bs} {q : Nat} {c : UInt8} (h : l[q]? = some c) (hc : isDig c = true) (ht : (l.take q).all isDig = true) : (l.take (q + 1)).all isDig = true := by
  obtain ⟨hlt, rfl⟩ := List.getElem?_eq_some_iff.1 h
  rw [List.take_succ_eq_append_getElem hlt, List.all_append, ht]
  simp [hc]
theorem span_end {l : Bs} {q : Nat} (ht : (l.take q).all isDig = true) (hq : q = l.length ∨ ∃ c, l[q]? = some c ∧ isDig c = false) : l.takeWhile isDig = l.take q ∧ l.dropWhile isDig = l.drop q := by
  induction l generalizing q with
  | nil => simp
  | cons a r ih =>
    cases q with
    | zero =>
      rcases hq with h | ⟨c, h, hc⟩
      · simp at h
      · simp at h; subst h; simp [List.takeWhile, List.dropWhile, hc]
    | succ q =>
      simp only [List.take_succ_cons, List.all_cons, Bool.and_eq_true] at ht
      have := ih (q := q) ht.2 (hq.imp (fun h => by simpa using h) (fun ⟨c, h, hc⟩ => ⟨c, by simpa using h, hc⟩))
      simp [List.takeWhile, List.dropWhile, ht.1, this.1, this.2]
theorem cut_list (s : ByteArray) (p q : Nat) : (s.extract p q).data.toList = (s.data.toList.drop p).take (q - p) := by
  rw [ByteArray.data_extract, Array.toList_extract]
/-- The reader's block is written; all else stays. -/
def KpB (b : Nat) (W W' : World) : Prop := W.grownBy W' (some b)
theorem kpB_keeps (b : Nat) : Keeps (KpB b) := ⟨fun W => World.grownBy.refl W _, fun h k => h.trans k, fun W => ⟨rfl, rfl, rfl, Nat.le_refl _, fun _ _ _ => rfl⟩⟩
/-- What value gives back. -/
def ValP (w : World) (e e2 : TypeId) (b p : Nat) (s : ByteArray) (R : Tree × Bs × Bool) (en : Ending) (w' : World) : Prop :=
  ∃ (x : Val) (p' : Nat), en = .returned x.v ∧ p ≤ p' ∧ p' ≤ s.size ∧ s.data.toList.drop p' = R.2.1 ∧ Fresh w' w.heap.size e R.1 x ∧ RdAt w' e2 b s p' R.2.2 ∧ w.grownBy w' (some b)
theorem Blk.grown {w w' : World} {g : Nat} {e : TypeId} {cs : Array Value} {b : Nat} (h : Blk w g e cs) (hg : w.grownBy w' (some b)) (hb : g ≠ b) : Blk w' g e cs := (hg.block g h.lt (fun e => hb (Option.some.inj e))).trans h
theorem grown_alloc {w w' : World} {r : Option Nat} (h : w.grownBy w' r) (o : Obj) : w.grownBy (w'.alloc o) r := h.trans (grown_below (below_alloc w' o) _)
/-- A write into a block that is newer than w. -/
theorem grown_new {w w' : World} {r : Option Nat} (h : w.grownBy w' r) {p : Addr} (hp : w.heap.size ≤ p.block) (u : Value) : w.grownBy (w'.setCell p u) r :=
  ⟨h.os, h.tape, h.output, by simpa using h.size, fun k hk hne => (Below.heap_setCell _ _ _ _ (by omega)).trans (h.block k hk hne)⟩
theorem grown_set6 {w w' : World} {r : Option Nat} (h : w.grownBy w' r) {g : Nat} (hp : w.heap.size ≤ g) (a b c d e f : Value) : w.grownBy ((((((w'.setCell ⟨g, 0, none⟩ a).setCell ⟨g, 1, none⟩ b).setCell ⟨g, 2, none⟩ c).setCell ⟨g, 3, none⟩ d).setCell ⟨g, 4, none⟩ e).setCell ⟨g, 5, none⟩ f) r :=
  grown_new (grown_new (grown_new (grown_new (grown_new (grown_new h hp a) hp b) hp c) hp d) hp e) hp f
end Go.Rel
namespace Go.Proofs.YtjgampkpfjbmdaaDoor
open Go.RowKit Go.Rel
set_option maxRecDepth 100000
theorem parseR_64 (l : Bs) : Rat64 (parseR l) := by
  rcases parse_val l with ⟨h, e, -⟩ | ⟨h, e, -⟩
  · rw [e]
    obtain ⟨h1, h2, h3, h4, -⟩ := h.2.2.1
    unfold Rat64
    omega
  · rw [e]; unfold Rat64; simp
/-- What value asks and gives. -/
def ValueIs (d : Nat) : Prop := ∀ (b p : Nat) (s : ByteArray) (w : World), RdAt w 77 b s p true → p ≤ s.size → s.size ≤ 4000 → (∀ W, w.grownBy W (some b) → Tab W) →
    Calls Tryd.prog 45 #[.pointer (some ⟨b, 0, none⟩), .int .i64 d] w (ValP w 26 77 b p s (valueL d (s.data.toList.drop p)))
theorem index_byte (c : UInt8) (W : World) : ∃ X : Int, (decide (0 ≤ X) = isDig c) ∧ Calls Tryd.prog 65 #[.string ⟨#[48, 49, 50, 51, 52, 53, 54, 55, 56, 57, 47, 45]⟩, .int .u8 c.toNat] W fun e w' => e = .returned (.int .i64 X) ∧ w' = W := by
  refine ⟨_, ?_, Tryd.strings_IndexByte ⟨#[48, 49, 50, 51, 52, 53, 54, 55, 56, 57, 47, 45]⟩ (c.toNat : Int) W⟩
  rw [← isDig_index c]
  congr 3
  simp
/-- The end of a number. -/
theorem num_end {s : ByteArray} {p q : Nat} {ok : Bool} (hpq : p ≤ q) (hq : q ≤ s.size) (hall : ((s.data.toList.drop p).take (q - p)).all isDig = true) (he : q = s.size ∨ ∃ h : q < s.size, isDig s[q] = false) :
    numV (s.data.toList.drop p) ok = (ratT (parseR (s.extract p q).data.toList), s.data.toList.drop q, ok && decide (parseE (s.extract p q).data.toList = 0)) := by
  have hlen : s.data.toList.length = s.size := by simp
  have := span_end hall (he.imp (fun h => by rw [List.length_drop, hlen, h]) (fun ⟨h, hd⟩ => ⟨s[q], by rw [List.getElem?_drop, show p + (q - p) = q by omega]; exact List.getElem?_eq_getElem (by rw [hlen]; exact h), hd⟩))
  unfold numV
  rw [this.1, this.2, cut_list, List.drop_drop, show p + (q - p) = q by omega]
set_option maxHeartbeats 4000000 in
theorem value_zero : ValueIs 0 := by
  intro b p s w hr hp hs ht
  have hblt : b < w.heap.size := Blk.lt hr
  obtain ⟨c0, c1, c2⟩ := hr.cells
  have cf := Blk.frozen hr
  have hr2 := (hr.setOk false).grown (below_alloc _ (.cells (Val.box noneV) 26))
  have hg2 : w.grownBy ((w.setCell ⟨b, 2, none⟩ (.bool false)).alloc (.cells (Val.box noneV) 26)) (some b) := grown_alloc (grown_set w ⟨b, 2, none⟩ (.bool false)) _
  have hres2 : Blk ((w.setCell ⟨b, 2, none⟩ (.bool false)).alloc (.cells (Val.box noneV) 26)) w.heap.size 26 (Val.box noneV) := by
    have := Blk.new (w.setCell ⟨b, 2, none⟩ (.bool false)) 26 (Val.box noneV)
    rwa [World.size_setCell] at this
  have HQ := Lib.hid (show _ ∧ _ ∧ _ from ⟨hr2, hres2, hg2⟩)
  have HT := Lib.hid ht
  have HRV := Lib.hid (show valueL 0 (s.data.toList.drop p) = numV (s.data.toList.drop p) false from rfl)
  clear hr hr2 hg2 hres2 ht
  show Calls _ _ #[_, .int .i64 0] w _
  go_enter Tryd.func45, Tryd.ntmps45
  go_wp2_with fail
  generalize (w.setCell _ _).alloc _ = W at HQ ⊢
  clear c0 c1 c2 cf
  go_loopw [7] (fun iv wr => ∃ q : Nat, (RdAt wr 77 b s p false ∧ Blk wr w.heap.size 26 (Val.box noneV) ∧ w.grownBy wr (some b)) ∧ p ≤ q ∧ q ≤ s.size ∧ iv = .int .i64 q ∧ ((s.data.toList.drop p).take (q - p)).all isDig = true) (fun iv _ => s.size - (intOf iv).toNat)
  case atStart => exact ⟨p, HQ.out, Nat.le_refl _, hp, rfl, by simp⟩
  case round =>
    clear HQ
    obtain ⟨q, hq3, hpq, hqs, rfl, hall⟩ := hrel
    have HQ := Lib.hid hq3
    clear hq3
    obtain ⟨c0, c1, c2⟩ := HQ.out.1.cells
    have cf := Blk.frozen HQ.out.1
    have HA := Lib.hid hall
    clear hall
    by_cases hlt : q < s.size
    · have hlt2 : (q : Int) < s.size := by omega
      obtain ⟨X, hX, hix⟩ := index_byte s[q] wr
      have HX := Lib.hid hix
      clear hix
      cases hdg : isDig s[q] with
      | true =>
        have hx0 : 0 ≤ X := by rw [hdg] at hX; simpa using hX
        have hnx := span_dig (l := s.data.toList.drop p) (q := q - p) (c := s[q]) (by rw [List.getElem?_drop, show p + (q - p) = q by omega]; exact List.getElem?_eq_getElem (by simpa using hlt)) hdg HA.out
        have HS := Lib.hid hnx
        clear hX hdg hnx
        go_wp2_with fail
        refine HX.out.mono ?_
        rintro e w2 ⟨rfl, hw2⟩
        rw [hw2]
        clear hw2 w2
        go_wp2_with fail
        go_roundw
        case rel => exact ⟨q + 1, HQ.out, by omega, hlt, by go_num, by rw [show q + 1 - p = q - p + 1 by omega]; exact HS.out⟩
        case measure => simp [intOf]; omega
      | false =>
        have hx0 : ¬ 0 ≤ X := by rw [hdg] at hX; simpa using hX
        have HE := Lib.hid (show q = s.size ∨ ∃ h : q < s.size, isDig s[q] = false from .inr ⟨hlt, hdg⟩)
        clear hX hdg
        go_wp2_with fail
        refine HX.out.mono ?_
        rintro e w2 ⟨rfl, hw2⟩
        rw [hw2]
        clear hw2 w2
        go_wp2_with fail
        have hn := HRV.out.trans (num_end hpq hqs HA.out HE.out)
        have hpa := fun W' hT => parse_any (s.extract p q) W' (by rw [ByteArray.size_extract]; omega) hT
        have h64 := parseR_64 (s.extract p q).data.toList
        have hE12 : parseE (s.extract p q).data.toList = 0 ∨ parseE (s.extract p q).data.toList = 12 := (parse_val (s.extract p q).data.toList).elim (fun h => .inl h.2.2) (fun h => .inr h.2.2)
        generalize parseR (s.extract p q).data.toList = PR at hn hpa h64
        generalize parseE (s.extract p q).data.toList = PE at hn hpa hE12
        obtain ⟨r1, r2⟩ := PR
        have HN := Lib.hid (show _ ∧ _ ∧ _ ∧ _ from ⟨hn, hpa, h64, hE12⟩)
        clear hn hpa h64 hE12
        have a0 : ∀ W', Below wr.heap.size wr W' → W'.cell? ⟨b, 0, none⟩ = some (.string s) := fun W' hW => (HQ.out.1.grown hW).cells.1
        have a1 : ∀ W', Below wr.heap.size wr W' → W'.cell? ⟨b, 1, none⟩ = some (.int .i64 p) := fun W' hW => (HQ.out.1.grown hW).cells.2.1
        have hpq2 : (p : Int) ≤ q := by omega
        have hqs2 : (q : Int) ≤ s.size := by omega
        clear c0 c1 c2 cf
        apply wp_region_headR 16 122 (hR := kpNew_keeps wr.heap.size (.cells #[.int .i64 0, .int .i64 0] 23 (0, 0)) (.cells #[.int .i64 r1, .int .i64 r2] 23 (0, 0))) (hm := by kernel_rfl) (hN := rfl)
        case hB => kernel_rfl
        case h =>
          simp only [List.take_succ_cons, List.take_zero]
          iterate 10 (apply headN_still rfl; (intro W' hW; have q0 := a0 W' hW; have q1 := a1 W' hW; go_simp; (try rfl)))
          (apply headN_call (Nat.le_refl _) rfl; (intro W'; go_simp; exact ⟨rfl, rfl⟩); (intro W' hW; exact (HN.out.2.1 W' (HT.out W' (HQ.out.2.2.trans (grown_below hW _)))).mono fun e W'' h => h))
          iterate 3 (apply headN_still rfl; (intro W' hW; go_simp; (try rfl)))
          apply headN_alloc (Nat.le_refl _) rfl
          · intro W'; go_simp
          intro v
          apply headN_store2 (j := 14) (v := v) rfl rfl
          · intro W' hk
            exact hk.1 (by simp)
          · intro W' g x' y' hv h1 h2 h3
            subst hv
            unfold Gives
            go_simp
          intro _
          refine head_nilR ?_
          intro W2 hW2 hF
          obtain ⟨⟨g, rfl, hg, hgc⟩, -⟩ := hF
          replace hgc : Blk W2 g 23 #[.int .i64 r1, .int .i64 r2] := hgc
          have hr2 := HQ.out.1.grown hW2.below
          have hk2 := HQ.out.2.1.keep hW2.below
          have hg2 := HQ.out.2.2.trans (grown_below hW2.below _)
          have hKlt : w.heap.size < g := Nat.lt_of_lt_of_le HQ.out.2.1.lt hg
          have hbg : b < g := Nat.lt_trans hblt hKlt
          clear hW2 a0 a1
          obtain ⟨c0, c1, c2⟩ := hr2.cells
          have cf := Blk.frozen hr2
          obtain ⟨k0, k1, k2, k3, k4, k5⟩ := hk2.val
          have kf := hk2.frozen
          have g0 := hgc.cell (i := 0) (v := .int .i64 r1) rfl
          have g1 := hgc.cell (i := 1) (v := .int .i64 r2) rfl
          have hgl := hgc.lt
          have hnn := HN.out.1
          have hbk : b ≠ w.heap.size := by omega
          have h64 := HN.out.2.2.1
          clear HQ HE HA
          rcases HN.out.2.2.2 with hE | hE
          · subst hE
            have x1 := (hr2.setOk false).setAt q
            have x2 := (hk2.far (p := ⟨b, 2, none⟩) (by simp only; omega) (.bool false)).far (p := ⟨b, 1, none⟩) (by simp only; omega) (.int .i64 q)
            have x3 := (hg2.trans (grown_set W2 ⟨b, 2, none⟩ (.bool false))).trans (grown_set _ ⟨b, 1, none⟩ (.int .i64 q))
            have y1 : RdAt _ 77 b s q false := (far_set6 (k := b) (g := w.heap.size) hbk (.int .u8 1) (.int .i64 r1) (.int .i64 r2) (.bool false) (.string ⟨#[]⟩) (.slice none 0 0)).trans x1
            have y2 := x2.set6 (.int .u8 1) (.int .i64 r1) (.int .i64 r2) (.bool false) (.string ⟨#[]⟩) (.slice none 0 0)
            have y3 := grown_set6 x3 (Nat.le_refl _) (.int .u8 1) (.int .i64 r1) (.int .i64 r2) (.bool false) (.string ⟨#[]⟩) (.slice none 0 0)
            have HZ := Lib.hid (show _ ∧ _ ∧ _ ∧ _ from ⟨y1, y2, y3, hnn⟩)
            clear x1 x2 x3 y1 y2 y3 hr2 hk2 hg2 hgc hnn HN HRV
            go_wp2_with fail
            obtain ⟨k0, k1, k2, k3, k4, k5⟩ := Blk.val (x := ⟨1, ⟨r1, r2⟩, false, ⟨#[]⟩, none, 0, 0⟩) HZ.out.2.1
            refine bodyPost_ret (v := Val.v ⟨1, ⟨r1, r2⟩, false, ⟨#[]⟩, none, 0, 0⟩) (by simp [results, Tryd.results45, go_sem, k0, k1, k2, k3, k4, k5]) rfl ?_
            rw [HZ.out.2.2.2]
            exact ⟨⟨1, ⟨r1, r2⟩, false, ⟨#[]⟩, none, 0, 0⟩, q, rfl, hpq, hqs, rfl, fresh_leaf _ _ _ (ok_num h64), HZ.out.1, HZ.out.2.2.1⟩
          · subst hE
            have x1 := (hr2.setOk false).setAt q
            have x2 := (hk2.far (p := ⟨b, 2, none⟩) (by simp only; omega) (.bool false)).far (p := ⟨b, 1, none⟩) (by simp only; omega) (.int .i64 q)
            have x3 := (hg2.trans (grown_set W2 ⟨b, 2, none⟩ (.bool false))).trans (grown_set _ ⟨b, 1, none⟩ (.int .i64 q))
            have y1 : RdAt _ 77 b s q false := (far_set6 (k := b) (g := w.heap.size) hbk (.int .u8 1) (.int .i64 r1) (.int .i64 r2) (.bool false) (.string ⟨#[]⟩) (.slice none 0 0)).trans x1
            have y2 := x2.set6 (.int .u8 1) (.int .i64 r1) (.int .i64 r2) (.bool false) (.string ⟨#[]⟩) (.slice none 0 0)
            have y3 := grown_set6 x3 (Nat.le_refl _) (.int .u8 1) (.int .i64 r1) (.int .i64 r2) (.bool false) (.string ⟨#[]⟩) (.slice none 0 0)
            have HZ := Lib.hid (show _ ∧ _ ∧ _ ∧ _ from ⟨y1, y2, y3, hnn⟩)
            clear x1 x2 x3 y1 y2 y3 hr2 hk2 hg2 hgc hnn HN HRV
            go_wp2_with fail
            obtain ⟨k0, k1, k2, k3, k4, k5⟩ := Blk.val (x := ⟨1, ⟨r1, r2⟩, false, ⟨#[]⟩, none, 0, 0⟩) HZ.out.2.1
            refine bodyPost_ret (v := Val.v ⟨1, ⟨r1, r2⟩, false, ⟨#[]⟩, none, 0, 0⟩) (by simp [results, Tryd.results45, go_sem, k0, k1, k2, k3, k4, k5]) rfl ?_
            rw [HZ.out.2.2.2]
            exact ⟨⟨1, ⟨r1, r2⟩, false, ⟨#[]⟩, none, 0, 0⟩, q, rfl, hpq, hqs, rfl, fresh_leaf _ _ _ (ok_num h64), HZ.out.1, HZ.out.2.2.1⟩
        all_goals rfl
    · have hlt2 : ¬ (q : Int) < s.size := by omega
      have HE := Lib.hid (show q = s.size ∨ ∃ h : q < s.size, isDig s[q] = false from .inl (by omega))
      go_wp2_with fail
      have hn := HRV.out.trans (num_end hpq hqs HA.out HE.out)
      have hpa := fun W' hT => parse_any (s.extract p q) W' (by rw [ByteArray.size_extract]; omega) hT
      have h64 := parseR_64 (s.extract p q).data.toList
      have hE12 : parseE (s.extract p q).data.toList = 0 ∨ parseE (s.extract p q).data.toList = 12 := (parse_val (s.extract p q).data.toList).elim (fun h => .inl h.2.2) (fun h => .inr h.2.2)
      generalize parseR (s.extract p q).data.toList = PR at hn hpa h64
      generalize parseE (s.extract p q).data.toList = PE at hn hpa hE12
      obtain ⟨r1, r2⟩ := PR
      have HN := Lib.hid (show _ ∧ _ ∧ _ ∧ _ from ⟨hn, hpa, h64, hE12⟩)
      clear hn hpa h64 hE12
      have a0 : ∀ W', Below wr.heap.size wr W' → W'.cell? ⟨b, 0, none⟩ = some (.string s) := fun W' hW => (HQ.out.1.grown hW).cells.1
      have a1 : ∀ W', Below wr.heap.size wr W' → W'.cell? ⟨b, 1, none⟩ = some (.int .i64 p) := fun W' hW => (HQ.out.1.grown hW).cells.2.1
      have hpq2 : (p : Int) ≤ q := by omega
      have hqs2 : (q : Int) ≤ s.size := by omega
      clear c0 c1 c2 cf
      apply wp_region_headR 16 122 (hR := kpNew_keeps wr.heap.size (.cells #[.int .i64 0, .int .i64 0] 23 (0, 0)) (.cells #[.int .i64 r1, .int .i64 r2] 23 (0, 0))) (hm := by kernel_rfl) (hN := rfl)
      case hB => kernel_rfl
      case h =>
        simp only [List.take_succ_cons, List.take_zero]
        iterate 10 (apply headN_still rfl; (intro W' hW; have q0 := a0 W' hW; have q1 := a1 W' hW; go_simp; (try rfl)))
        (apply headN_call (Nat.le_refl _) rfl; (intro W'; go_simp; exact ⟨rfl, rfl⟩); (intro W' hW; exact (HN.out.2.1 W' (HT.out W' (HQ.out.2.2.trans (grown_below hW _)))).mono fun e W'' h => h))
        iterate 3 (apply headN_still rfl; (intro W' hW; go_simp; (try rfl)))
        apply headN_alloc (Nat.le_refl _) rfl
        · intro W'; go_simp
        intro v
        apply headN_store2 (j := 14) (v := v) rfl rfl
        · intro W' hk
          exact hk.1 (by simp)
        · intro W' g x' y' hv h1 h2 h3
          subst hv
          unfold Gives
          go_simp
        intro _
        refine head_nilR ?_
        intro W2 hW2 hF
        obtain ⟨⟨g, rfl, hg, hgc⟩, -⟩ := hF
        replace hgc : Blk W2 g 23 #[.int .i64 r1, .int .i64 r2] := hgc
        have hr2 := HQ.out.1.grown hW2.below
        have hk2 := HQ.out.2.1.keep hW2.below
        have hg2 := HQ.out.2.2.trans (grown_below hW2.below _)
        have hKlt : w.heap.size < g := Nat.lt_of_lt_of_le HQ.out.2.1.lt hg
        have hbg : b < g := Nat.lt_trans hblt hKlt
        clear hW2 a0 a1
        obtain ⟨c0, c1, c2⟩ := hr2.cells
        have cf := Blk.frozen hr2
        obtain ⟨k0, k1, k2, k3, k4, k5⟩ := hk2.val
        have kf := hk2.frozen
        have g0 := hgc.cell (i := 0) (v := .int .i64 r1) rfl
        have g1 := hgc.cell (i := 1) (v := .int .i64 r2) rfl
        have hgl := hgc.lt
        have hnn := HN.out.1
        have hbk : b ≠ w.heap.size := by omega
        have h64 := HN.out.2.2.1
        clear HQ HE HA
        rcases HN.out.2.2.2 with hE | hE
        · subst hE
          have x1 := (hr2.setOk false).setAt q
          have x2 := (hk2.far (p := ⟨b, 2, none⟩) (by simp only; omega) (.bool false)).far (p := ⟨b, 1, none⟩) (by simp only; omega) (.int .i64 q)
          have x3 := (hg2.trans (grown_set W2 ⟨b, 2, none⟩ (.bool false))).trans (grown_set _ ⟨b, 1, none⟩ (.int .i64 q))
          have y1 : RdAt _ 77 b s q false := (far_set6 (k := b) (g := w.heap.size) hbk (.int .u8 1) (.int .i64 r1) (.int .i64 r2) (.bool false) (.string ⟨#[]⟩) (.slice none 0 0)).trans x1
          have y2 := x2.set6 (.int .u8 1) (.int .i64 r1) (.int .i64 r2) (.bool false) (.string ⟨#[]⟩) (.slice none 0 0)
          have y3 := grown_set6 x3 (Nat.le_refl _) (.int .u8 1) (.int .i64 r1) (.int .i64 r2) (.bool false) (.string ⟨#[]⟩) (.slice none 0 0)
          have HZ := Lib.hid (show _ ∧ _ ∧ _ ∧ _ from ⟨y1, y2, y3, hnn⟩)
          clear x1 x2 x3 y1 y2 y3 hr2 hk2 hg2 hgc hnn HN HRV
          go_wp2_with fail
          obtain ⟨k0, k1, k2, k3, k4, k5⟩ := Blk.val (x := ⟨1, ⟨r1, r2⟩, false, ⟨#[]⟩, none, 0, 0⟩) HZ.out.2.1
          refine bodyPost_ret (v := Val.v ⟨1, ⟨r1, r2⟩, false, ⟨#[]⟩, none, 0, 0⟩) (by simp [results, Tryd.results45, go_sem, k0, k1, k2, k3, k4, k5]) rfl ?_
          rw [HZ.out.2.2.2]
          exact ⟨⟨1, ⟨r1, r2⟩, false, ⟨#[]⟩, none, 0, 0⟩, q, rfl, hpq, hqs, rfl, fresh_leaf _ _ _ (ok_num h64), HZ.out.1, HZ.out.2.2.1⟩
        · subst hE
          have x1 := (hr2.setOk false).setAt q
          have x2 := (hk2.far (p := ⟨b, 2, none⟩) (by simp only; omega) (.bool false)).far (p := ⟨b, 1, none⟩) (by simp only; omega) (.int .i64 q)
          have x3 := (hg2.trans (grown_set W2 ⟨b, 2, none⟩ (.bool false))).trans (grown_set _ ⟨b, 1, none⟩ (.int .i64 q))
          have y1 : RdAt _ 77 b s q false := (far_set6 (k := b) (g := w.heap.size) hbk (.int .u8 1) (.int .i64 r1) (.int .i64 r2) (.bool false) (.string ⟨#[]⟩) (.slice none 0 0)).trans x1
          have y2 := x2.set6 (.int .u8 1) (.int .i64 r1) (.int .i64 r2) (.bool false) (.string ⟨#[]⟩) (.slice none 0 0)
          have y3 := grown_set6 x3 (Nat.le_refl _) (.int .u8 1) (.int .i64 r1) (.int .i64 r2) (.bool false) (.string ⟨#[]⟩) (.slice none 0 0)
          have HZ := Lib.hid (show _ ∧ _ ∧ _ ∧ _ from ⟨y1, y2, y3, hnn⟩)
          clear x1 x2 x3 y1 y2 y3 hr2 hk2 hg2 hgc hnn HN HRV
          go_wp2_with fail
          obtain ⟨k0, k1, k2, k3, k4, k5⟩ := Blk.val (x := ⟨1, ⟨r1, r2⟩, false, ⟨#[]⟩, none, 0, 0⟩) HZ.out.2.1
          refine bodyPost_ret (v := Val.v ⟨1, ⟨r1, r2⟩, false, ⟨#[]⟩, none, 0, 0⟩) (by simp [results, Tryd.results45, go_sem, k0, k1, k2, k3, k4, k5]) rfl ?_
          rw [HZ.out.2.2.2]
          exact ⟨⟨1, ⟨r1, r2⟩, false, ⟨#[]⟩, none, 0, 0⟩, q, rfl, hpq, hqs, rfl, fresh_leaf _ _ _ (ok_num h64), HZ.out.1, HZ.out.2.2.1⟩
      all_goals rfl
end Go.Proofs.YtjgampkpfjbmdaaDoor
end
section
/- Regions that draw their order: one operation of the head wants what the others keep, and may undo it. -/
namespace Go.Rel
open Go.RowKit
section
variable {P : Program} {ops : Array Oper} {R : World → World → Prop} {w0 : World}
variable {S : World → Prop} {j0 : Nat}
/-- The head's operations, looked at one after the other. -/
def HeadS (P : Program) (ops : Array Oper) (R : World → World → Prop) (S : World → Prop) (j0 : Nat) (w0 : World) (Fin : Act → List (Nat × (World → Prop)) → Prop) : Nat → (Nat → Value) → List Know → List Oper → Act → List (Nat × (World → Prop)) → Prop
  | _, _, _, [], a, fs => Fin a fs
  | _, _, [], _ :: _, _, _ => False
  | k, e, u :: us, o :: rest, a, fs =>
    (Region.wanted o (yielded ops a.tmps) = true ∧ (∀ W, R w0 W → (k = j0 → S W) → known fs u.uses W → Gives P o a W (fun v W' => u.holds e (shown o v) W' ∧ R W W' ∧ (k ≠ j0 → S W → S W'))) ∧
      match u.what with
      | .inl c => HeadS P ops R S j0 w0 Fin (k + 1) (upd e k c) us rest (a.put o.dst c) fs
      | .inr g => u.Mono R ∧ ∀ v, HeadS P ops R S j0 w0 Fin (k + 1) (upd e k v) us rest (a.put o.dst v) ((k, g (pick u.uses e) v) :: fs)) ∨
    (Region.wanted o (yielded ops a.tmps) = false ∧ u.what = .inl undef ∧ HeadS P ops R S j0 w0 Fin (k + 1) (upd e k undef) us rest (a.put o.dst undef) fs)

/-- What one operation owes. -/
def OwesS (P : Program) (ops : Array Oper) (R : World → World → Prop) (S : World → Prop) (j0 k : Nat) (w0 : World) (u : Know) (o : Oper) (vs : Nat → Value) (a : Act) (fs : List (Nat × (World → Prop))) : Prop :=
  u.Mono R ∧
  ((Region.wanted o (yielded ops a.tmps) = true ∧ ∀ W, R w0 W → (k = j0 → S W) → known fs u.uses W → Gives P o a W (fun v W' => u.holds vs (shown o v) W' ∧ R W W' ∧ (k ≠ j0 → S W → S W'))) ∨
   (Region.wanted o (yielded ops a.tmps) = false ∧ u.what = .inl undef))

theorem HeadS.owes {Fin : Act → List (Nat × (World → Prop)) → Prop} : ∀ (rest : List Oper) (us : List Know) (k : Nat) (e : Nat → Value) (a : Act) (fs : List (Nat × (World → Prop))) (vs : Nat → Value),
    us.length = rest.length → (∀ j u, us[j]? = some u → ∀ i ∈ u.uses, i < k + j) → (∀ i, i < k → e i = vs i) → HeadS P ops R S j0 w0 Fin k e us rest a fs → Fits k vs us →
    (∀ j u o, us[j]? = some u → rest[j]? = some o → OwesS P ops R S j0 (k + j) w0 u o vs (actAt k vs (rest.take j) a) (factsAt k vs (us.take j) fs)) ∧
    Fin (actAt k vs rest a) (factsAt k vs us fs)
  | [], [], k, e, a, fs, vs, _, _, _, h, _ => ⟨fun j u o hu _ => (by simp at hu), h⟩
  | [], _ :: _, _, _, _, _, _, hl, _, _, _, _ => by simp at hl
  | _ :: _, [], _, _, _, _, _, hl, _, _, _, _ => by simp at hl
  | o :: rest, u :: us, k, e, a, fs, vs, hl, hus, he, h, hf => by
    obtain ⟨hf0, hf1⟩ := hf
    have hl' : us.length = rest.length := by simpa using hl
    have hpe : ∀ i ∈ u.uses, e i = vs i := fun i hi => he i (by have := hus 0 u rfl i hi; omega)
    have hpk : pick u.uses e = pick u.uses vs := pick_congr hpe
    have hus' : ∀ j u', us[j]? = some u' → ∀ i ∈ u'.uses, i < k + 1 + j := fun j u' hj i hi => by have := hus (j + 1) u' (by simpa using hj) i hi; omega
    have hupd : ∀ v, v = vs k → ∀ i, i < k + 1 → upd e k v i = vs i := fun v hv i hi => by
      unfold upd
      split
      · rename_i h; rw [hv, h]
      · exact he i (by omega)
    have key : OwesS P ops R S j0 k w0 u o vs a fs ∧ ∃ e', (∀ i, i < k + 1 → e' i = vs i) ∧ HeadS P ops R S j0 w0 Fin (k + 1) e' us rest (a.put o.dst (vs k)) (match u.what with | .inl _ => fs | .inr g => (k, g (pick u.uses vs) (vs k)) :: fs) := by
      rcases h with ⟨hw, hg, hn⟩ | ⟨hw, hu, hn⟩
      · have hg' : ∀ W, R w0 W → (k = j0 → S W) → known fs u.uses W → Gives P o a W (fun v W' => u.holds vs (shown o v) W' ∧ R W W' ∧ (k ≠ j0 → S W → S W')) := fun W hW hs hk => (hg W hW hs hk).mono fun v W' ⟨h1, h2⟩ => ⟨Know.holds_congr hpe h1, h2⟩
        cases hwhat : u.what with
        | inl c =>
          rw [hwhat] at hn
          refine ⟨⟨by simp [Know.Mono, hwhat], .inl ⟨hw, hg'⟩⟩, _, hupd c (hf0 c hwhat).symm, ?_⟩
          rw [hf0 c hwhat]
          exact hn
        | inr g =>
          rw [hwhat] at hn
          refine ⟨⟨hn.1, .inl ⟨hw, hg'⟩⟩, _, hupd (vs k) rfl, ?_⟩
          rw [← hpk]
          exact hn.2 (vs k)
      · refine ⟨⟨by simp [Know.Mono, hu], .inr ⟨hw, hu⟩⟩, _, hupd undef (hf0 _ hu).symm, ?_⟩
        rw [hf0 _ hu, hu]
        exact hn
    obtain ⟨hk0, e', he', hk1⟩ := key
    obtain ⟨r1, r2⟩ := HeadS.owes rest us (k + 1) e' _ _ vs hl' hus' he' hk1 hf1
    refine ⟨fun j u' o' hu ho => ?_, r2⟩
    cases j with
    | zero =>
      simp at hu ho
      subst hu; subst ho
      exact hk0
    | succ j =>
      simp at hu ho
      rw [show k + (j + 1) = k + 1 + j by omega]
      exact r1 j u' o' hu ho
variable {n N : Nat}
theorem getD_set_true' {x : Array Bool} {i : Nat} (h : i < x.size) : (x.setIfInBounds i true).getD i false = true := by simp [h]
/-- A region whose head comes in whatever order. -/
theorem any_of_headS {Q : Exit → Act → World → Prop} (hR : Keeps R) (hf : Form ops n N) {us : List Know} {a : Act} (hN : a.tmps.size = N) (hus : us.length = n) (hul : usesOk ops 0 (us.map (·.uses)) = true)
    (howes : ∀ vs, Fits 0 vs us → ∀ (j : Nat) (u : Know) (o : Oper), us[j]? = some u → (ops.toList.take n)[j]? = some o → OwesS P ops R S j0 (0 + j) w0 u o vs (actAt 0 vs ((ops.toList.take n).take j) a) (factsAt 0 vs (us.take j) []))
    (hfin : ∀ vs, Fits 0 vs us → ∀ W, R w0 W → facts (factsAt 0 vs us []) W → wpList P ops Q (ops.toList.drop n) (actAt 0 vs (ops.toList.take n) a) W) :
    ∀ (c : Nat) (listed : Array Bool) (a' : Act) (W : World), left n listed ≤ c → Inv ops R w0 n us a listed a' W → (listed.getD j0 false = false → S W) → wpAny P .any ops Q (c + (ops.size - n)) listed a' W := by
  have hmono : ∀ vs, Fits 0 vs us → ∀ (j : Nat) (u : Know), us[j]? = some u → u.Mono R := fun vs hv j u hu => by
    have hj : j < n := by rw [← hus]; exact (List.getElem?_eq_some_iff.1 hu).1
    have hjl : j < ops.size := by have := hf.le; omega
    exact (howes vs hv j u ops[j] hu (by rw [List.getElem?_take_of_lt hj]; simp [hjl])).1
  intro c
  induction c with
  | zero =>
    intro listed a' W hc inv hS
    have h0 : left n listed = 0 := by omega
    have hl := listed_full hf inv.head h0
    have ha := actAt_head hf inv hN hus h0
    have hfits := fits_vals_aux ops us a' us 0 (fun j => by rw [Nat.zero_add])
    have hfa : facts (factsAt 0 (valsOf ops us a') us []) W := facts_factsAt _ W us 0 [] (fun j u hj => by
      rw [Nat.zero_add]
      have hj' : j < n := by rw [← hus]; exact (List.getElem?_eq_some_iff.1 hj).1
      exact holds_valsOf hj (inv.vals j u hj' hj (left_zero h0 j hj'))) trivial
    have h := hfin _ hfits W inv.ext hfa
    rw [← ha] at h
    have hs := hf.seq
    rw [← hl] at hs
    have hlen : (ops.toList.drop n).length = ops.size - n := by simp
    have := wpAny_of_seq (P := P) (md := .any) (Q' := Q) (ops.toList.drop n) n listed a' W (fun j => by simp) (by rw [hlen]; exact hs) h
    rw [hlen] at this
    rwa [Nat.zero_add]
  | succ c ih =>
    intro listed a' W hc inv hS
    by_cases h0 : left n listed ≤ c
    · rw [show c + 1 + (ops.size - n) = c + (ops.size - n) + 1 by omega]
      exact wpAny_more _ _ _ _ (ih listed a' W h0 inv hS)
    · rw [show c + 1 + (ops.size - n) = c + (ops.size - n) + 1 by omega]
      refine ⟨fun hr => ?_, fun i hi => ?_⟩
      · obtain ⟨k, _, hk⟩ := ready_of_left hf.le inv.head.size hf.back (show left n listed ≠ 0 by omega)
        rw [hr] at hk
        cases hk
      · have hlt : i < n := by
          rcases Nat.lt_or_ge i n with h | h
          · exact h
          · exfalso
            obtain ⟨_, o, ho, _⟩ := mem_ready.1 hi
            have hil : i < ops.size := (Array.getElem?_eq_some_iff.1 ho).1
            rcases hf.tail with ht | ⟨h1, h2, h3⟩
            · omega
            · obtain ⟨k, hk, hkr⟩ := ready_of_left hf.le inv.head.size hf.back (show left n listed ≠ 0 by omega)
              exact tail_waits h2 h3 h1 inv.head _ k rfl hk (mem_ready.1 hkr).1 i h hi
        obtain ⟨hun, o, ho, hall⟩ := mem_ready.1 hi
        have hu : us[i]? = some us[i] := List.getElem?_eq_getElem (by omega)
        have hfits := fits_vals_aux ops us a' us 0 (fun j => by rw [Nat.zero_add])
        have hot : (ops.toList.take n)[i]? = some o := by rw [List.getElem?_take_of_lt hlt]; simpa using ho
        have how := howes _ hfits i _ o hu hot
        rw [List.take_take, Nat.min_eq_left (Nat.le_of_lt hlt)] at how
        have hslot : ∀ t ∈ o.looksAt ops, a'.tmps[t]? = (actAt 0 (valsOf ops us a') (ops.toList.take i) a).tmps[t]? := fun t ht => inv.slot hf hN hus hlt hi ho ht
        have hw := wanted_congr hslot
        have hleft : left n (listed.setIfInBounds i true) ≤ c := by
          have := left_set hlt (show i < listed.size by have := inv.head.size; have := hf.le; omega) (getD_both hun)
          omega
        have hdst : dstOf ops i = o.dst := by simp [dstOf, ho]
        have hkeep : ∀ W' : World, (i ≠ j0 → S W → S W') → (listed.setIfInBounds i true).getD j0 false = false → S W' := fun W' hw' hl' => by
          by_cases hij : i = j0
          · subst hij
            rw [getD_set_true' (show i < listed.size by have := inv.head.size; have := hf.le; omega)] at hl'
            cases hl'
          · rw [getD_set_ne false hij] at hl'
            exact hw' hij (hS hl')
        rcases how.2 with ⟨hwt, hg⟩ | ⟨hwf, hwhat⟩
        · have hk : known (factsAt 0 (valsOf ops us a') (us.take i) []) us[i].uses W := known_take inv hlt (fun j hj hji => by
            have := usesOk_spec _ 0 hul i us[i].uses (by simp [hu]) j hj
            rw [Nat.zero_add] at this
            exact mask_listed hf.masks inv.head i hlt o ho hall j hji this.2)
          have h1 := (hg W inv.ext (fun e => hS (by rw [Nat.zero_add] at e; subst e; exact getD_both hun)) hk).congr (a' := a') (fun cs b => Region.noSelect_spec hf.sel i o cs b ho) (fun x hx => (eval_congr hslot x hx).symm)
          unfold wpOp
          simp only [ho]
          rw [hw, hwt, if_pos rfl]
          refine .inl (Gives.wp (h1.mono fun v W' ⟨hv, hb, hsk⟩ => ?_))
          have := ih _ _ W' hleft (inv.step hR hf hN hlt hi ho hu (hmono _ hfits) hul hv hb) (hkeep W' (fun hne hs => hsk (by rw [Nat.zero_add]; exact hne) hs))
          rw [hdst] at this
          exact this
        · unfold wpOp
          simp only [ho]
          rw [hw, hwf, if_neg (by simp)]
          have := ih _ _ W hleft (inv.step hR hf hN hlt hi ho hu (hmono _ hfits) hul (v := undef) (by simp [Know.holds, hwhat, shown_undef]) (hR.refl _)) (hkeep W (fun _ hs => hs))
          rw [hdst] at this
          exact this

/-- A region that draws its order. n: how many operations its head has. us: what is known of the value of each. -/
theorem wp_region_headS0 {id : Nat} {l : List Oper} {Q : Exit → Act → World → Prop} {a : Act} {w : World} (n N : Nat) (us : List Know) (ul : List (List Nat)) (hR : Keeps R) (hS0 : S w.drew)
    (hm : P.follows .mixedOrders = true) (hN : a.tmps.size = N) (hul : us.map (·.uses) = ul) (hlen : us.length = n)
    (hB : (formOk l.toArray n N && usesOk l.toArray 0 ul) = true)
    (h : HeadS P l.toArray R S j0 w (fun a' fs => ∀ W, R w W → facts fs W → wpList P l.toArray Q (l.drop n) a' W) 0 (fun _ => undef) us (l.take n) a []) : (Code.region id l.toArray true).wp P Q a w := by
  simp only [Bool.and_eq_true] at hB
  have hf := formOk_spec hB.1
  subst hul
  refine wp_region_any hm ?_
  have hlt : us.length = (l.take n).length := by have := hf.le; simp at this; simp [hlen]; omega
  have hsz : n + (l.toArray.size - n) = l.toArray.size := by have := hf.le; omega
  have huses : ∀ (j : Nat) (u : Know), us[j]? = some u → ∀ i ∈ u.uses, i < 0 + j := fun j u hu i hi => (usesOk_spec _ 0 hB.2 j u.uses (by simp [hu]) i hi).1
  have hl0 : left n (Array.replicate l.toArray.size false) ≤ n := by
    have : ∀ (m : Nat) (x : Array Bool), left m x ≤ m := by
      intro m x
      induction m with
      | zero => exact Nat.le_refl _
      | succ m ih => simp only [left]; split <;> omega
    exact this _ _
  have inv0 : Inv l.toArray R w n us a (Array.replicate l.toArray.size false) a w.drew :=
    ⟨⟨by simp, fun j oj _ hl => (by rw [getD_replicate_false] at hl; cases hl), fun t _ ht => getD_in (by simpa using ht) (getD_replicate_false _ _)⟩,
      hR.drew _, rfl, rfl, fun _ _ => rfl, fun i u _ _ hl => by rw [getD_replicate_false] at hl; cases hl⟩
  have := any_of_headS (P := P) (S := S) (j0 := j0) (w0 := w) (Q := Q) hR hf hN hlen hB.2 (fun vs hv j u o hj ho => (HeadS.owes (l.take n) us 0 _ a [] vs hlt huses (fun i hi => by omega) h hv).1 j u o hj (by simpa using ho))
    (fun vs hv W hW hfa => by have := (HeadS.owes (l.take n) us 0 _ a [] vs hlt huses (fun i hi => by omega) h hv).2 W hW hfa; simpa using this) n _ a w.drew hl0 inv0 (fun _ => hS0)
  rw [hsz] at this
  exact this

/-- An operation that only reads: the same value in whatever world. -/
theorem headS_still {Fin : Act → List (Nat × (World → Prop)) → Prop} {k : Nat} {e : Nat → Value} {us : List Know} {o : Oper} {rest : List Oper} {a : Act} {fs : List (Nat × (World → Prop))} (hR : Keeps R) {c : Value} (hw : (Region.wanted o (yielded ops a.tmps) && o.dst.isSome) = true) (h : ∀ W, R w0 W → (execOp a.eval o).run P W = .ok (.value c) W)
    (hn : HeadS P ops R S j0 w0 Fin (k + 1) (upd e k c) us rest (a.put o.dst c) fs) : HeadS P ops R S j0 w0 Fin k e (⟨[], .inl c⟩ :: us) (o :: rest) a fs :=
  .inl ⟨and_l hw, fun W hW _ _ => by unfold Gives; rw [h W hW]; exact ⟨shown_some (and_r hw) c, hR.refl _, fun _ hs => hs⟩, hn⟩
/-- Operation j0: it may lean on S. -/
theorem headS_one {Fin : Act → List (Nat × (World → Prop)) → Prop} {k : Nat} {e : Nat → Value} {us : List Know} {o : Oper} {rest : List Oper} {a : Act} {fs : List (Nat × (World → Prop))} (g : Value → World → Prop) (hk : k = j0) (hw : (Region.wanted o (yielded ops a.tmps) && o.dst.isSome) = true) (hm : ∀ v W W', g v W → R W W' → g v W')
    (h : ∀ W, R w0 W → S W → Gives P o a W (fun v W' => g v W' ∧ R W W'))
    (hn : ∀ v, HeadS P ops R S j0 w0 Fin (k + 1) (upd e k v) us rest (a.put o.dst v) ((k, g v) :: fs)) : HeadS P ops R S j0 w0 Fin k e (⟨[], .inr fun _ => g⟩ :: us) (o :: rest) a fs :=
  .inl ⟨and_l hw, fun W hW hs _ => (h W hW (hs hk)).mono fun v W' ⟨hg, hb⟩ => ⟨by rw [shown_some (and_r hw)]; exact hg, hb, fun hne => absurd hk hne⟩, fun _ => hm, hn⟩
/-- Another operation of whose value g is known from then on; it keeps S. -/
theorem headS_mem {Fin : Act → List (Nat × (World → Prop)) → Prop} {k : Nat} {e : Nat → Value} {us : List Know} {o : Oper} {rest : List Oper} {a : Act} {fs : List (Nat × (World → Prop))} (uses : List Nat) (g : Value → World → Prop) (hw : (Region.wanted o (yielded ops a.tmps) && o.dst.isSome) = true) (hm : ∀ v W W', g v W → R W W' → g v W')
    (h : ∀ W, R w0 W → known fs uses W → Gives P o a W (fun v W' => g v W' ∧ R W W' ∧ (S W → S W')))
    (hn : ∀ v, HeadS P ops R S j0 w0 Fin (k + 1) (upd e k v) us rest (a.put o.dst v) ((k, g v) :: fs)) : HeadS P ops R S j0 w0 Fin k e (⟨uses, .inr fun _ => g⟩ :: us) (o :: rest) a fs :=
  .inl ⟨and_l hw, fun W hW _ hk => (h W hW hk).mono fun v W' ⟨hg, hb, hs⟩ => ⟨by rw [shown_some (and_r hw)]; exact hg, hb, fun _ => hs⟩, fun _ => hm, hn⟩
theorem headS_nil {Fin : Act → List (Nat × (World → Prop)) → Prop} {k : Nat} {e : Nat → Value} {a : Act} {fs : List (Nat × (World → Prop))} (h : Fin a fs) : HeadS P ops R S j0 w0 Fin k e [] [] a fs := h
end
end Go.Rel
end
