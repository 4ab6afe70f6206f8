/- Texts put together: ValJ, ValL, RatC. -/
import Derived.Test.YtjgampkpfjbmdaaDoorPack06
import Derived.Test.YtjgampkpfjbmdaaDoorPack05
import Derived.Test.YtjgampkpfjbmdaaDoorPack02
import Derived.Maps.AppendAt
import Derived.Test.YtjgampkpfjbmdaaDoorPack03
section
/- At on both sides. -/
namespace Go.Proofs.YtjgampkpfjbmdaaDoor
open Go.RowKit Go.Rel

theorem len_kinds {k : Int} {q : Rat2} {t : Bool} {s : ByteArray} {kids : List Tree} {len : Nat} (h : lenE (.node k q t s kids) = 0) (hl : kids.length = len) : (k = 3 ∧ lenN (.node k q t s kids) = s.size) ∨ (k = 4 ∧ lenN (.node k q t s kids) = len) := by
  subst hl
  have hc : chkT (.node k q t s kids) = 0 := by
    by_cases hc : chkT (.node k q t s kids) = 0
    · exact hc
    · rw [(lenE_bad hc).2] at h; exact absurd h hc
  by_cases h3 : k = 3
  · subst h3; exact .inl ⟨rfl, (lenE_str hc).1⟩
  by_cases h4 : k = 4
  · subst h4; exact .inr ⟨rfl, (lenE_list hc).1⟩
  rw [(lenE_else hc h3 h4).2] at h
  omega

set_option maxHeartbeats 4000000 in
theorem at_any (T : Tree) (x : Val) (i : Int) (w : World) (hi0 : -9223372036854775808 ≤ i) (hi1 : i ≤ 9223372036854775807) (hf : fitT T 10 = true) (hr : RdB w w.heap.size T x) :
    Calls Tryd.prog 15 #[x.v, .int .i64 i] w (RetVE 26 w (atT T i) (atE T i)) := by
  obtain ⟨kids, ys, rfl, ok, hy, hl, hrec, hk⟩ := id hr.open_
  obtain ⟨e, he, hs2, h150, hkf⟩ := fitT_parts hf
  obtain rfl : 9 = e := by omega
  have HR := Lib.hid (show _ ∧ _ from ⟨hf, hr⟩)
  obtain ⟨k, q, t, s, A, len, cap⟩ := x
  obtain ⟨hk0, hk1, -, -, -, -, -, -, hc, -⟩ := ok
  dsimp only at hk0 hk1 hy hl hs2 h150 hc hrec hk
  rw [hl] at h150
  have HL := Lib.hid (show _ ∧ _ ∧ _ from ⟨hy, hl, hkf⟩)
  have HK := Lib.hid (show _ ∧ _ from ⟨hrec, hk⟩)
  have HB := Lib.hid (two_vars w 26 26 ⟨k, q, t, s, A, len, cap⟩ (Val.box noneV))
  have R1 := Lib.hid (fun W h => len_any (.node k q t s kids) ⟨k, q, t, s, A, len, cap⟩ W hf h)
  have B1 := Lib.hid (@at_bad (.node k q t s kids) i)
  have B2 := Lib.hid (@at_out (.node k q t s kids) i)
  have B3 := Lib.hid (show lenE (.node k q t s kids) = 0 → (k = 3 ∧ lenN (.node k q t s kids) = s.size) ∨ (k = 4 ∧ lenN (.node k q t s kids) = len) from fun h => len_kinds h (by rw [← hl]))
  have HF := Lib.hid (show ∀ (x : Val) (w' : World) (E : Int) (T' : Tree), Fresh w' w.heap.size 26 T' x → Below w.heap.size w w' → (atT (.node k q t s kids) i = T' ∧ atE (.node k q t s kids) i = E) → RetVE 26 w (atT (.node k q t s kids) i) (atE (.node k q t s kids) i) (.returned (.tuple #[x.v, .int .i64 E])) w' from fun x w' E T' h1 h2 h3 => ⟨x, by rw [h3.2], by rw [h3.1]; exact h1, h2⟩)
  have B4 := Lib.hid (show k = 4 → ∀ (j : Nat) (y : Tree), lenE (.node k q t s kids) = 0 → ¬ (lenN (.node k q t s kids) ≤ j) → kids[j]? = some y → atT (.node k q t s kids) j = y ∧ atE (.node k q t s kids) j = 0 from fun h j y => by subst h; exact at_list)
  have B5 := Lib.hid (show k = 3 → ∀ (j : Nat), lenE (.node k q t s kids) = 0 → ¬ (lenN (.node k q t s kids) ≤ j) → atT (.node k q t s kids) j = tStr (s.extract j (j + 1)) ∧ atE (.node k q t s kids) j = 0 from fun h j => by subst h; exact at_str)
  clear hf hr hy hl hkf hrec hk he
  generalize lenE (.node k q t s kids) = E at *
  generalize lenN (.node k q t s kids) = N at *
  go_enter Tryd.func15, Tryd.ntmps15
  obtain ⟨hb0, hblk0, hres0⟩ := HB.out
  obtain ⟨c0, c1, c2, c3, c4, c5⟩ := hblk0.val
  go_wp2_with fail
  refine (R1.out _ (HR.out.2.in_ hb0 hb0.size)).mono ?_
  rintro e w2 ⟨rfl, hb2⟩
  have hb3 := hb0.trans (hb2.mono hb0.size)
  have hblk2 := hblk0.keep hb2
  have hres := hres0.keep hb2
  clear hb0 hb2 hblk0 hres0 c0 c1 c2 c3 c4 c5 HB
  obtain ⟨r0, r1, r2, r3, r4, r5⟩ := hres.val
  have rf := hres.frozen
  have rl := hres.lt
  by_cases hE : E = 0
  case neg =>
    obtain ⟨a1, a2⟩ := B1.out hE
    have HV := Lib.hid (show _ ∧ _ from ⟨a1, a2⟩)
    have q1 : (E != 0) = true := by simpa using hE
    clear hE a1 a2 hblk2
    have n1 := hres.set6 (.int .u8 0) (.int .i64 0) (.int .i64 0) (.bool false) (.string ⟨#[]⟩) (.slice none 0 0)
    have n2 := below_set6 hb3 (show w.heap.size ≤ w.heap.size + 1 by omega) (.int .u8 0) (.int .i64 0) (.int .i64 0) (.bool false) (.string ⟨#[]⟩) (.slice none 0 0)
    have n3 := fresh_leaf (((((((w2.setCell ⟨w.heap.size + 1, 0, none⟩ (.int .u8 0)).setCell ⟨w.heap.size + 1, 1, none⟩ (.int .i64 0)).setCell ⟨w.heap.size + 1, 2, none⟩ (.int .i64 0)).setCell ⟨w.heap.size + 1, 3, none⟩ (.bool false)).setCell ⟨w.heap.size + 1, 4, none⟩ (.string ⟨#[]⟩)).setCell ⟨w.heap.size + 1, 5, none⟩ (.slice none 0 0))) w.heap.size 26 ok_none
    obtain ⟨k0, k1, k2, k3, k4, k5⟩ := Blk.val (x := ⟨0, ⟨0, 0⟩, false, ⟨#[]⟩, none, 0, 0⟩) n1
    have HN := Lib.hid (show _ ∧ _ from ⟨n2, n3⟩)
    clear n1 n2 n3 hres
    go_wp2_with fail
    exact bodyPost_ret (v := .tuple #[Val.v ⟨0, ⟨0, 0⟩, false, ⟨#[]⟩, none, 0, 0⟩, .int .i64 E]) (by simp [results, Tryd.results15, go_sem, k0, k1, k2, k3, k4, k5]) rfl (HF.out ⟨0, ⟨0, 0⟩, false, ⟨#[]⟩, none, 0, 0⟩ _ E _ HN.out.2 HN.out.1 HV.out)
  subst hE
  by_cases hout : i < 0 ∨ N ≤ i
  case pos =>
    obtain ⟨a1, a2⟩ := B2.out rfl hout
    have HV := Lib.hid (show _ ∧ _ from ⟨a1, a2⟩)
    have hcase : decide (i < 0) = true ∨ (decide (i < 0) = false ∧ decide (N ≤ i) = true) := by
      by_cases h : i < 0
      · exact .inl (by simpa using h)
      · exact .inr ⟨by simpa using h, by simp; omega⟩
    clear hout a1 a2 hblk2 B1 B2 B3 B4 B5
    have n1 := hres.set6 (.int .u8 0) (.int .i64 0) (.int .i64 0) (.bool false) (.string ⟨#[]⟩) (.slice none 0 0)
    have n2 := below_set6 hb3 (show w.heap.size ≤ w.heap.size + 1 by omega) (.int .u8 0) (.int .i64 0) (.int .i64 0) (.bool false) (.string ⟨#[]⟩) (.slice none 0 0)
    have n3 := fresh_leaf ((((((w2.setCell ⟨w.heap.size + 1, 0, none⟩ (.int .u8 0)).setCell ⟨w.heap.size + 1, 1, none⟩ (.int .i64 0)).setCell ⟨w.heap.size + 1, 2, none⟩ (.int .i64 0)).setCell ⟨w.heap.size + 1, 3, none⟩ (.bool false)).setCell ⟨w.heap.size + 1, 4, none⟩ (.string ⟨#[]⟩)).setCell ⟨w.heap.size + 1, 5, none⟩ (.slice none 0 0)) w.heap.size 26 ok_none
    obtain ⟨k0, k1, k2, k3, k4, k5⟩ := Blk.val (x := ⟨0, ⟨0, 0⟩, false, ⟨#[]⟩, none, 0, 0⟩) n1
    have HN := Lib.hid (show _ ∧ _ from ⟨n2, n3⟩)
    clear n1 n2 n3 hres
    rcases hcase with q1 | ⟨q1, q2⟩
    all_goals
      go_wp2_with fail
      exact bodyPost_ret (v := .tuple #[Val.v ⟨0, ⟨0, 0⟩, false, ⟨#[]⟩, none, 0, 0⟩, .int .i64 2]) (by simp [results, Tryd.results15, go_sem, k0, k1, k2, k3, k4, k5]) rfl (HF.out ⟨0, ⟨0, 0⟩, false, ⟨#[]⟩, none, 0, 0⟩ _ 2 _ HN.out.2 HN.out.1 HV.out)
  have q1 : decide (i < 0) = false := by simp; omega
  have q2 : decide (N ≤ i) = false := by simp; omega
  obtain ⟨j, rfl⟩ := Int.eq_ofNat_of_zero_le (show 0 ≤ i by omega)
  obtain ⟨c0, c1, c2, c3, c4, c5⟩ := hblk2.val
  rcases B3.out rfl with ⟨rfl, hN⟩ | ⟨rfl, hN⟩
  · subst hN
    have hjs : j < s.size := by omega
    obtain ⟨a1, a2⟩ := B5.out rfl j rfl (by omega)
    have HV := Lib.hid (show _ ∧ _ from ⟨a1, a2⟩)
    have hSs : (s.extract j (j + 1)).size ≤ 9223372036854775807 := by rw [ByteArray.size_extract]; omega
    have HSS := Lib.hid hSs
    clear hout a1 a2 hblk2 B1 B2 B3 B4 B5 hSs
    have n1 := hres.set6 (.int .u8 3) (.int .i64 0) (.int .i64 0) (.bool false) (.string (s.extract j (j + 1))) (.slice none 0 0)
    have n2 := below_set6 hb3 (show w.heap.size ≤ w.heap.size + 1 by omega) (.int .u8 3) (.int .i64 0) (.int .i64 0) (.bool false) (.string (s.extract j (j + 1))) (.slice none 0 0)
    have n3 := fun W => fresh_leaf W w.heap.size 26 (ok_str HSS.out)
    obtain ⟨k0, k1, k2, k3, k4, k5⟩ := Blk.val (x := ⟨3, ⟨0, 0⟩, false, s.extract j (j + 1), none, 0, 0⟩) n1
    have HN := Lib.hid (show _ ∧ _ from ⟨n2, n3⟩)
    have HKS := Lib.hid (show _ ∧ _ ∧ _ ∧ _ ∧ _ ∧ _ from ⟨k0, k1, k2, k3, k4, k5⟩)
    clear n1 n2 n3 hres k0 k1 k2 k3 k4 k5
    go_wp2_with fail
    obtain ⟨k0, k1, k2, k3, k4, k5⟩ := HKS.out
    exact bodyPost_ret (v := .tuple #[Val.v ⟨3, ⟨0, 0⟩, false, s.extract j (j + 1), none, 0, 0⟩, .int .i64 0]) (by simp [results, Tryd.results15, go_sem, k0, k1, k2, k3, k4, k5]) rfl (HF.out ⟨3, ⟨0, 0⟩, false, s.extract j (j + 1), none, 0, 0⟩ _ 0 _ (HN.out.2 _) HN.out.1 HV.out)
  · subst hN
    have hjl : j < len := by omega
    obtain ⟨b, off, u, y, rfl, hB, g1, g2, hru, e0, e1, e2, e3, e4, e5⟩ := val_at HL.out.1 HL.out.2.1 HK.out.1 HK.out.2 hjl
    rw [← hb3.cell (p := ⟨b, _, none⟩) hB] at e0 e1 e2 e3 e4 e5
    obtain ⟨a1, a2⟩ := B4.out rfl j _ rfl (by omega) g1
    have HV := Lib.hid (show _ ∧ _ from ⟨a1, a2⟩)
    have HT := Lib.hid (twin_any 9 y u w2 (HL.out.2.2 _ (List.mem_of_getElem? g1)) (hru.in_ hb3 hb3.size))
    have hj2 : (j : Int) < len := by omega
    clear hout a1 a2 hblk2 B1 B2 B3 B4 B5 g1 g2 hru
    go_wp2_with fail
    refine (HT.out).mono ?_
    rintro e w3 ⟨x', rfl, htn, hb4⟩
    replace hres := hres.keep hb4
    have hbs := hb3.size
    replace hb3 := hb3.trans (hb4.mono hb3.size)
    clear r0 r1 r2 r3 r4 r5 rf c0 c1 c2 c3 c4 c5 hb4 e0 e1 e2 e3 e4 e5 HT
    obtain ⟨k', q', t', s', A', n', cap'⟩ := x'
    obtain ⟨r0, r1, r2, r3, r4, r5⟩ := hres.val
    have rf := hres.frozen
    have rl3 := hres.lt
    have n1 := hres.set6 (.int .u8 k') (.int .i64 q'.n) (.int .i64 q'.d) (.bool t') (.string s') (.slice A' n' cap')
    have n2 := below_set6 hb3 (show w.heap.size ≤ w.heap.size + 1 by omega) (.int .u8 k') (.int .i64 q'.n) (.int .i64 q'.d) (.bool t') (.string s') (.slice A' n' cap')
    have n3 := htn.fresh.keep (w' := _) (show w.heap.size ≤ w2.heap.size by omega) (fun b hb _ => far_set6 (w := w3) (g := w.heap.size + 1) (k := b) (by omega) (.int .u8 k') (.int .i64 q'.n) (.int .i64 q'.d) (.bool t') (.string s') (.slice A' n' cap'))
    obtain ⟨k0, k1, k2, k3, k4, k5⟩ := Blk.val (x := ⟨k', q', t', s', A', n', cap'⟩) n1
    have HN := Lib.hid (show _ ∧ _ from ⟨n2, n3⟩)
    clear n1 n2 n3 hres htn
    go_wp2_with fail
    exact bodyPost_ret (v := .tuple #[Val.v ⟨k', q', t', s', A', n', cap'⟩, .int .i64 0]) (by simp [results, Tryd.results15, go_sem, k0, k1, k2, k3, k4, k5]) rfl (HF.out ⟨k', q', t', s', A', n', cap'⟩ _ 0 _ HN.out.2 HN.out.1 HV.out)
end Go.Proofs.YtjgampkpfjbmdaaDoor
end
section
/- Sums of lists that a call has made; a rule for operations of a drawn region that lean on each other. -/
namespace Go.Rel
open Go.RowKit

section
variable {P : Program} {ops : Array Oper} {w0 : World} {Fin : Act → List (Nat × (World → Prop)) → Prop} {k : Nat} {e : Nat → Value} {us : List Know} {o : Oper} {rest : List Oper} {a : Act} {fs : List (Nat × (World → Prop))}
/-- An operation of whose value g is known from then on; g may name the values of others. -/
theorem head_memU (uses : List Nat) (g : (Nat → Value) → Value → World → Prop) (hw : (Region.wanted o (yielded ops a.tmps) && o.dst.isSome) = true) (hm : ∀ e v W W', g e v W → Below W.heap.size W W' → g e v W')
    (h : ∀ W, Below w0.heap.size w0 W → known fs uses W → Gives P o a W (fun v W' => g (pick uses e) v W' ∧ Below W.heap.size W W'))
    (hn : ∀ v, Head P ops Kp w0 Fin (k + 1) (upd e k v) us rest (a.put o.dst v) ((k, g (pick uses e) v) :: fs)) : Head P ops Kp w0 Fin k e (⟨uses, .inr g⟩ :: us) (o :: rest) a fs :=
  .inl ⟨and_l hw, fun W hW hk => (h W hW hk).mono fun v W' ⟨hg, hb⟩ => ⟨by rw [shown_some (and_r hw)]; exact hg, hb⟩, hm, hn⟩
end

/-- A list of the call's own, in blocks of the set Q. -/
def TwRQ (w : World) (base : Nat) (Q : Nat → Prop) (e : TypeId) (kids : List Tree) (v : Value) (n : Nat) : Prop :=
  ∃ ys : List Val, ys.length = n ∧ w.ownsRow base e 6 v n (ys.flatMap Val.cells) ∧ (∀ b, v.ownBlock = some b → Q b) ∧
    ∀ (i : Nat) (t : Tree) (y : Val), kids[i]? = some t → ys[i]? = some y → Reads w (fun b off => OwnQ w Q e b off ∧ v.ownBlock ≠ some b) t y
theorem TwR.q {w : World} {base : Nat} {Q : Nat → Prop} {e : TypeId} {kids : List Tree} {v : Value} {n : Nat} (h : TwR w base e kids v n) (hQ : ∀ b, base ≤ b → b < w.heap.size → Q b) : TwRQ w base Q e kids v n := by
  have hlt := h.lt
  obtain ⟨ys, h1, h2, h3⟩ := h
  exact ⟨ys, h1, h2, fun b hb => hQ b (hlt b hb).1 (hlt b hb).2, fun i t y hi hy => Reads.mono (fun b _ hp => ⟨⟨hQ b hp.1.1 hp.1.lt, hp.1.2.1, hp.1.2.2⟩, hp.2⟩) (fun _ _ _ => rfl) (h3 i t y hi hy)⟩
theorem TwRQ.keep {w w' : World} {base : Nat} {Q : Nat → Prop} {e : TypeId} {kids : List Tree} {v : Value} {n : Nat} (h : TwRQ w base Q e kids v n) (hw : ∀ b, Q b → b < w.heap.size → w'.heap[b]? = w.heap[b]?) : TwRQ w' base Q e kids v n := by
  obtain ⟨ys, h1, h2, h3, h4⟩ := h
  refine ⟨ys, h1, ⟨h2.1, ?_⟩, h3, fun i t y hi hy => Reads.mono (fun b _ hp => ⟨⟨hp.1.1, hp.1.2.1, hp.1.2.2.imp fun cs h => (hw b hp.1.1 hp.1.lt).trans h⟩, hp.2⟩) (fun b _ hp => hw b hp.1.1 hp.1.lt) (h4 i t y hi hy)⟩
  rcases h2.2 with h | ⟨g, cap, cur, q1, q2, q3, q4⟩
  · exact .inl h
  · exact .inr ⟨g, cap, cur, q1, q2, (hw g (h3 g (by rw [q1]; rfl)) (Array.getElem?_eq_some_iff.1 q3).1).trans q3, q4⟩
theorem TwRQ.below {w w' : World} {base : Nat} {Q : Nat → Prop} {e : TypeId} {kids : List Tree} {v : Value} {n : Nat} (h : TwRQ w base Q e kids v n) (hb : Below w.heap.size w w') : TwRQ w' base Q e kids v n := h.keep (fun b _ hlt => hb.block b hlt)
/-- Two lists of the call's own, one behind the other. -/
theorem TwRQ.join {w w' : World} {base c : Nat} {Q : Nat → Prop} {e : TypeId} {ka kb : List Tree} {v v' : Value} {n m : Nat} {ys zs : List Val} (hl : ys.length = n) (hla : ka.length = n)
    (hq : ∀ b, v.ownBlock = some b → Q b) (hk : ∀ (i : Nat) (t : Tree) (y : Val), ka[i]? = some t → ys[i]? = some y → Reads w (fun b off => OwnQ w Q e b off ∧ v.ownBlock ≠ some b) t y) (hv : ∀ b, v.ownBlock = some b → b < c) (hQ : ∀ b, c ≤ b → b ≤ w.heap.size → Q b) (hc : c ≤ w.heap.size)
    (hl2 : zs.length = m) (hu : ∀ (i : Nat) (t : Tree) (y : Val), kb[i]? = some t → zs[i]? = some y → Fresh w c e t y) (ho : w'.ownsRow base e 6 v' (n + m) (ys.flatMap Val.cells ++ zs.flatMap Val.cells)) (hg : w.grownBy w' v.ownBlock) (hv' : v'.ownBlock = v.ownBlock ∨ v'.ownBlock = some w.heap.size) :
    TwRQ w' base Q e (ka ++ kb) v' (n + m) := by
  refine ⟨ys ++ zs, by simp [hl, hl2], by rw [List.flatMap_append]; exact ho, fun b hb => ?_, fun i t y hi hy => ?_⟩
  · rcases hv' with h | h
    · exact hq b (h ▸ hb)
    · rw [h] at hb; injection hb with hb; subst hb; exact hQ _ hc (Nat.le_refl _)
  have key : ∀ b off, OwnQ w Q e b off → v.ownBlock ≠ some b → w'.heap[b]? = w.heap[b]? ∧ OwnQ w' Q e b off ∧ v'.ownBlock ≠ some b := fun b off ho hne => by
    have h1 := hg.block b ho.lt (Ne.symm hne)
    refine ⟨h1, ⟨ho.1, ho.2.1, ho.2.2.imp fun cs h => h1.trans h⟩, fun h => ?_⟩
    rcases hv' with h2 | h2
    · rw [h2] at h; exact hne h
    · rw [h2] at h
      have := ho.lt
      injection h with h
      omega
  rcases Nat.lt_or_ge i n with hlt | hge
  · rw [List.getElem?_append_left (by omega)] at hy hi
    exact Reads.mono (fun b off hp => (key b off hp.1 hp.2).2) (fun b off hp => (key b off hp.1 hp.2).1) (hk i t y hi hy)
  · rw [List.getElem?_append_right (by omega)] at hy hi
    rw [hl] at hy
    rw [hla] at hi
    have hne : ∀ b off, OwnB w c e b off → OwnQ w Q e b off ∧ v.ownBlock ≠ some b := fun b off ho => ⟨⟨hQ b ho.1 (Nat.le_of_lt ho.lt), ho.2.1, ho.2.2⟩, fun h => by have := hv b h; have := ho.1; omega⟩
    exact Reads.mono (fun b off hp => (key b off (hne b off hp).1 (hne b off hp).2).2) (fun b off hp => (key b off (hne b off hp).1 (hne b off hp).2).1) (hu (i - n) t y hi hy)
/-- The value behind it. -/
theorem TwRQ.done {w : World} {base base' : Nat} {Q : Nat → Prop} {e : TypeId} {kids : List Tree} {v : Value} {n : Nat} (h : TwRQ w base Q e kids v n) (hn : kids.length = n) (hQ : ∀ b, Q b → base' ≤ b) {k : Int} {q : Rat2} {t : Bool} {s : ByteArray} (ok : Val.Ok ⟨k, q, t, s, none, 0, 0⟩) :
    ∃ A' cap', v = .slice A' n cap' ∧ Fresh w base' e (.node k q t s kids) ⟨k, q, t, s, A', n, cap'⟩ := by
  obtain ⟨ys, h1, h2, h3, h4⟩ := h
  obtain ⟨k0, k1, n0, n1, d0, d1, s1, -, -, -⟩ := ok
  have hu : ∀ (i : Nat) (t : Tree) (y : Val), kids[i]? = some t → ys[i]? = some y → Reads w (OwnB w base' e) t y := fun i t y hi hy => Reads.mono (fun b _ hp => ⟨hQ b hp.1.1, hp.1.2.1, hp.1.2.2⟩) (fun _ _ _ => rfl) (h4 i t y hi hy)
  obtain ⟨A, cap, hv, hcap, hr⟩ := Recs.of_own Val.cells_len h1 h2
  rcases h2.2 with ⟨rfl, h5⟩ | ⟨g, cap', cur, rfl, h5, h6, h7, h8, h9⟩
  · subst h5
    obtain rfl : ys = [] := List.length_eq_zero_iff.1 h1
    exact ⟨none, 0, rfl, .mk ⟨k, q, t, s, none, 0, 0⟩ kids [] ⟨k0, k1, n0, n1, d0, d1, s1, by simp, by simp, fun _ => rfl⟩ rfl hn (fun h => by simp at h) (fun i t y _ h => by simp at h)⟩
  · refine ⟨_, cap', rfl, .mk ⟨k, q, t, s, some ⟨g, 0, none⟩, n, cap'⟩ kids ys ⟨k0, k1, n0, n1, d0, d1, s1, h7, by unfold maxLen at h8; exact h8, fun h => by cases h⟩ h1 hn (fun hpos => ?_) hu⟩
    simp only [Value.slice.injEq, true_and] at hv
    obtain ⟨rfl, -⟩ := hv
    obtain ⟨b, off, e2, hb, hat⟩ := hr hpos
    simp only [Option.some.injEq, Addr.mk.injEq, and_true] at e2
    obtain ⟨rfl, rfl⟩ := e2
    exact ⟨g, 0, rfl, ⟨hQ g (h3 g rfl), rfl, cur, h6⟩, hat⟩

section
variable {P : Program}
/-- append of one list of the call's own to another. -/
theorem wpList_append_tw {ops : Array Oper} {rest : List Oper} {o : Oper} {a : Act} {w : World} {Qp : Exit → Act → World → Prop} (hgd : o.guard = none) (s x : Operand) (t : TypeId)
    (ho : o.op = .call { callee := .builtin .append, args := #[s, x], argTypes := #[t, t] })
    (base c : Nat) (Q : Nat → Prop) (e : TypeId) (i : TypeInfo) (z : Value) (bytes : Nat) (ht : P.underlying t = some (.slice e)) (hi : P.info? e = some i) (hz : i.zero = some z)
    (hsize : i.size = 6) (hby : i.bytes = bytes) (hzs : z.cells.size = 6) (v v2 : Value) (n m : Nat) (ka kb : List Tree) (hs : a.eval s = v) (hx : a.eval x = v2) (hla : ka.length = n)
    (ha : TwRQ w base Q e ka v n) (hb : TwR w c e kb v2 m) (hv : ∀ b, v.ownBlock = some b → b < c) (hQ : ∀ b, c ≤ b → b ≤ w.heap.size → Q b) (hc : c ≤ w.heap.size) (h63 : n + m ≤ maxLen) (hbytes : (n + m) * bytes ≤ 140737488355328) (hbase : base ≤ w.heap.size)
    (h : ∀ v' w', TwRQ w' base Q e (ka ++ kb) v' (n + m) → w.grownBy w' v.ownBlock → wpList P ops Qp rest (a.put o.dst v') w') : wpList P ops Qp (o :: rest) a w := by
  obtain ⟨ys, h1, h2, hq, h3⟩ := ha
  obtain ⟨zs, k1, k2, k3⟩ := id hb
  have hu : ∀ (i : Nat) (t : Tree) (y : Val), kb[i]? = some t → zs[i]? = some y → Fresh w c e t y := fun i t y p q => Reads.mono (fun _ _ hp => hp.1) (fun _ _ _ => rfl) (k3 i t y p q)
  rcases k2.2 with ⟨rfl, h5⟩ | ⟨g, cap, cur, rfl, h5, h6, h7, h8, h9⟩
  · subst h5
    obtain rfl : zs = [] := List.length_eq_zero_iff.1 k1
    refine wpList_append_own_none hgd s x t ho base e i 6 ht hi v n _ hs h2 hx (h v w ?_ (World.grownBy.refl w _))
    exact TwRQ.join h1 hla hq h3 hv hQ hc k1 hu (by simpa using h2) (World.grownBy.refl w _) (.inl rfl)
  · refine wpList_append_own_at _ hgd s x t ho base e i z 6 bytes ht hi hz hsize hby hzs (by decide) v n _ hs h2 ⟨g, 0, none⟩ m cap (zs.flatMap Val.cells) hx (by rw [flat_len Val.cells_len, k1]) (k2.cells rfl) (fun u hu => ?_) h63 hbytes hbase (fun v' w' q1 q2 _ q3 => h v' w' (TwRQ.join h1 hla hq h3 hv hQ hc k1 hu q1 q2 q3) q2)
    obtain ⟨y, -, hy⟩ := List.mem_flatMap.1 hu
    exact cells_val_one y u hy
end
end Go.Rel
end
section
/- The reference's Make: n / d in lowest terms, or the error. For numbers of 64 bits. -/
namespace Go.Proofs.YtjgampkpfjbmdaaDoor
open Go.RowKit Go.Rel

theorem Tryd.cellsRat : Tryd.prog.cellsOf 23 = 2 := by kernel_rfl

set_option maxHeartbeats 1000000 in
theorem refMake_pos (n d : Int) (w : World) (hn : -9223372036854775807 ≤ n) (hn' : n ≤ 9223372036854775807) (hd : -9223372036854775807 ≤ d) (hd' : d ≤ 9223372036854775807) (hdx : 0 < d) :
    Calls Tryd.prog 48 #[.int .i64 n, .int .i64 d] w (Ret w (.tuple #[(makeR n d).v, .int .i64 (makeE n d)])) := by
  have h0 : d ≠ 0 := by omega
  have e0 : (d == 0) = false := by simpa using h0
  have e1 : (n == -9223372036854775808) = false := by simp; omega
  have e2 : (d == -9223372036854775808) = false := by simp; omega
  obtain ⟨g, a, b, hg, hg0, hc, t1, t2, t3, t4, l1, l2, -, -, s1, s2, hb0, hgd, hlow⟩ := parts_all (n := n) h0
  have gneg : Int.gcd (-n) (-d) = g := by rw [Int.gcd_neg, Int.neg_gcd, hg]
  have hsb : 0 < b := by omega
  have hx : decide (d < 0) = false := by simp; omega
  rw [if_neg (by omega)] at hlow
  have HL := Lib.hid hlow
  have HG := Lib.hid hg
  have wn : IntKind.i64.wrap (-n) = -n := by rw [IntKind.wrap_i64]; omega
  have wd : IntKind.i64.wrap (-d) = -d := by rw [IntKind.wrap_i64]; omega
  have wa : IntKind.i64.wrap (a) = a := by rw [IntKind.wrap_i64]; omega
  have wb : IntKind.i64.wrap (b) = b := by rw [IntKind.wrap_i64]; omega
  have gz : ¬ g = 0 := by omega
  clear hlow hc t3 t4 gneg hg s1 s2
  have hok : (RatOk ⟨a, b⟩ ∧ ratE ⟨a, b⟩ = 0) ∨ (¬ RatOk ⟨a, b⟩ ∧ ratE ⟨a, b⟩ = 8) := by
    by_cases h : RatOk ⟨a, b⟩
    · exact .inl ⟨h, ratE_ok h⟩
    · exact .inr ⟨h, ratE_bad h⟩
  have HK := Lib.hid hok
  clear hok
  go_enter Tryd.func48, Tryd.ntmps48
  go_wp2_with fail
  refine (common_any (n) (d) _ (by omega) (by omega) (by omega) (by omega)).mono ?_
  rintro e w1 ⟨rfl, hb1⟩
  rw [HG.out]
  go_wp2_with fail
  have q0 := (Blk.new w 23 #[.int .i64 0, .int .i64 0]).keep hb1
  have hbw := (below_alloc w _).trans (hb1.mono (by simp))
  have hlt0 := q0.lt
  clear hb1 hx
  apply wp_region_head 8 61 (hm := by kernel_rfl) (hN := rfl)
  case h =>
    simp only [List.take_succ_cons, List.take_zero]
    iterate 7 (apply head_still rfl; (intro W hW; go_simp; (try rfl)))
    apply head_alloc rfl
    · intro W; go_simp; rfl
    intro v
    refine head_nil ?_
    intro W hW hF
    obtain ⟨⟨g', rfl, hg', hgc⟩, -⟩ := hF
    have hgb : Blk W g' 23 #[.int .i64 0, .int .i64 0] := hgc
    have k0 := hgb.cell (i := 0) rfl
    have k1 := hgb.cell (i := 1) rfl
    have k2 := hgb.frozen
    have hne : ¬ w.heap.size = g' := by omega
    have HB := Lib.hid (hgb.set2 (.int .i64 (a)) (.int .i64 (b)))
    have HQ := Lib.hid (((q0.keep hW).far (p := ⟨g', 0, none⟩) hne (.int .i64 (a))).far (p := ⟨g', 1, none⟩) hne (.int .i64 (b)))
    have HW := Lib.hid (below_set2 (hbw.trans (hW.mono (by omega))) (show w.heap.size ≤ g' by omega) (.int .i64 (a)) (.int .i64 (b)))
    clear hgc hgb
    go_wp2_with fail
    have h1 := HB.out
    have h2 := HQ.out
    have h3 := HW.out
    clear HB HQ HW k0 k1 k2
    generalize World.setCell _ _ _ = w2 at h1 h2 h3 ⊢
    refine (refRatCheck_any ⟨a, b⟩ _ (by simp only; omega) (by simp only; omega) (by simp only; omega) (by simp only; omega)).mono ?_
    rintro e w3 ⟨rfl, hb3⟩
    replace h1 := h1.keep hb3
    replace h2 := h2.keep hb3
    replace h3 := h3.trans (hb3.mono h3.size)
    clear hb3
    have z0 := h1.cell (i := 0) rfl
    have z1 := h1.cell (i := 1) rfl
    have y0 := h2.cell (i := 0) rfl
    have y1 := h2.cell (i := 1) rfl
    have y2 := h2.frozen
    have hok := HK.out
    rcases hok with ⟨ho, hE⟩ | ⟨ho, hE⟩
    · have HM := Lib.hid (make_ok h0 HL.out ho)
      rw [hE]
      clear hE ho
      go_wp2_with fail
      refine bodyPost_ret (v := .tuple #[.agg #[.int .i64 (a), .int .i64 (b)], .int .i64 0]) (by simp [results, Tryd.results48, go_sem, y0, y1]) rfl ⟨by rw [HM.out.1, HM.out.2], below_set2 h3 (Nat.le_refl _) _ _⟩
    · have HM := Lib.hid (make_bad h0 HL.out ho)
      rw [hE]
      clear hE ho
      go_wp2_with fail
      refine bodyPost_ret (v := .tuple #[.agg #[.int .i64 0, .int .i64 0], .int .i64 16]) (by simp [results, Tryd.results48, go_sem, y0, y1]) rfl ⟨by rw [HM.out.1, HM.out.2], below_set2 h3 (Nat.le_refl _) _ _⟩
  case hB => kernel_rfl
  all_goals rfl

set_option maxHeartbeats 1000000 in
theorem refMake_neg (n d : Int) (w : World) (hn : -9223372036854775807 ≤ n) (hn' : n ≤ 9223372036854775807) (hd : -9223372036854775807 ≤ d) (hd' : d ≤ 9223372036854775807) (hdx : d < 0) :
    Calls Tryd.prog 48 #[.int .i64 n, .int .i64 d] w (Ret w (.tuple #[(makeR n d).v, .int .i64 (makeE n d)])) := by
  have h0 : d ≠ 0 := by omega
  have e0 : (d == 0) = false := by simpa using h0
  have e1 : (n == -9223372036854775808) = false := by simp; omega
  have e2 : (d == -9223372036854775808) = false := by simp; omega
  obtain ⟨g, a, b, hg, hg0, hc, t1, t2, t3, t4, l1, l2, -, -, s1, s2, hb0, hgd, hlow⟩ := parts_all (n := n) h0
  have gneg : Int.gcd (-n) (-d) = g := by rw [Int.gcd_neg, Int.neg_gcd, hg]
  have hsb : b < 0 := by omega
  have hx : decide (d < 0) = true := by simp; omega
  rw [if_pos (by omega)] at hlow
  have HL := Lib.hid hlow
  have HG := Lib.hid gneg
  have wn : IntKind.i64.wrap (-n) = -n := by rw [IntKind.wrap_i64]; omega
  have wd : IntKind.i64.wrap (-d) = -d := by rw [IntKind.wrap_i64]; omega
  have wa : IntKind.i64.wrap (-a) = -a := by rw [IntKind.wrap_i64]; omega
  have wb : IntKind.i64.wrap (-b) = -b := by rw [IntKind.wrap_i64]; omega
  have gz : ¬ g = 0 := by omega
  clear hlow hc t1 t2 gneg hg s1 s2
  have hok : (RatOk ⟨-a, -b⟩ ∧ ratE ⟨-a, -b⟩ = 0) ∨ (¬ RatOk ⟨-a, -b⟩ ∧ ratE ⟨-a, -b⟩ = 8) := by
    by_cases h : RatOk ⟨-a, -b⟩
    · exact .inl ⟨h, ratE_ok h⟩
    · exact .inr ⟨h, ratE_bad h⟩
  have HK := Lib.hid hok
  clear hok
  go_enter Tryd.func48, Tryd.ntmps48
  go_wp2_with fail
  refine (common_any (-n) (-d) _ (by omega) (by omega) (by omega) (by omega)).mono ?_
  rintro e w1 ⟨rfl, hb1⟩
  rw [HG.out]
  go_wp2_with fail
  have q0 := (Blk.new w 23 #[.int .i64 0, .int .i64 0]).keep hb1
  have hbw := (below_alloc w _).trans (hb1.mono (by simp))
  have hlt0 := q0.lt
  clear hb1 hx
  apply wp_region_head 8 61 (hm := by kernel_rfl) (hN := rfl)
  case h =>
    simp only [List.take_succ_cons, List.take_zero]
    iterate 7 (apply head_still rfl; (intro W hW; go_simp; (try rfl)))
    apply head_alloc rfl
    · intro W; go_simp; rfl
    intro v
    refine head_nil ?_
    intro W hW hF
    obtain ⟨⟨g', rfl, hg', hgc⟩, -⟩ := hF
    have hgb : Blk W g' 23 #[.int .i64 0, .int .i64 0] := hgc
    have k0 := hgb.cell (i := 0) rfl
    have k1 := hgb.cell (i := 1) rfl
    have k2 := hgb.frozen
    have hne : ¬ w.heap.size = g' := by omega
    have HB := Lib.hid (hgb.set2 (.int .i64 (-a)) (.int .i64 (-b)))
    have HQ := Lib.hid (((q0.keep hW).far (p := ⟨g', 0, none⟩) hne (.int .i64 (-a))).far (p := ⟨g', 1, none⟩) hne (.int .i64 (-b)))
    have HW := Lib.hid (below_set2 (hbw.trans (hW.mono (by omega))) (show w.heap.size ≤ g' by omega) (.int .i64 (-a)) (.int .i64 (-b)))
    clear hgc hgb
    go_wp2_with fail
    have h1 := HB.out
    have h2 := HQ.out
    have h3 := HW.out
    clear HB HQ HW k0 k1 k2
    generalize World.setCell _ _ _ = w2 at h1 h2 h3 ⊢
    refine (refRatCheck_any ⟨-a, -b⟩ _ (by simp only; omega) (by simp only; omega) (by simp only; omega) (by simp only; omega)).mono ?_
    rintro e w3 ⟨rfl, hb3⟩
    replace h1 := h1.keep hb3
    replace h2 := h2.keep hb3
    replace h3 := h3.trans (hb3.mono h3.size)
    clear hb3
    have z0 := h1.cell (i := 0) rfl
    have z1 := h1.cell (i := 1) rfl
    have y0 := h2.cell (i := 0) rfl
    have y1 := h2.cell (i := 1) rfl
    have y2 := h2.frozen
    have hok := HK.out
    rcases hok with ⟨ho, hE⟩ | ⟨ho, hE⟩
    · have HM := Lib.hid (make_ok h0 HL.out ho)
      rw [hE]
      clear hE ho
      go_wp2_with fail
      refine bodyPost_ret (v := .tuple #[.agg #[.int .i64 (-a), .int .i64 (-b)], .int .i64 0]) (by simp [results, Tryd.results48, go_sem, y0, y1]) rfl ⟨by rw [HM.out.1, HM.out.2], below_set2 h3 (Nat.le_refl _) _ _⟩
    · have HM := Lib.hid (make_bad h0 HL.out ho)
      rw [hE]
      clear hE ho
      go_wp2_with fail
      refine bodyPost_ret (v := .tuple #[.agg #[.int .i64 0, .int .i64 0], .int .i64 16]) (by simp [results, Tryd.results48, go_sem, y0, y1]) rfl ⟨by rw [HM.out.1, HM.out.2], below_set2 h3 (Nat.le_refl _) _ _⟩
  case hB => kernel_rfl
  all_goals rfl

set_option maxHeartbeats 400000 in
theorem refMake_zero (n : Int) (w : World) :
    Calls Tryd.prog 48 #[.int .i64 n, .int .i64 0] w (Ret w (.tuple #[(makeR n 0).v, .int .i64 (makeE n 0)])) := by
  obtain ⟨m1, m2⟩ := make_zero n
  rw [m1, m2]
  have y := Blk.new w 23 #[.int .i64 0, .int .i64 0]
  have hbw := below_alloc w (.cells #[.int .i64 0, .int .i64 0] 23)
  have y0 := y.cell (i := 0) rfl
  have y1 := y.cell (i := 1) rfl
  have y2 := y.frozen
  clear m1 m2
  go_enter Tryd.func48, Tryd.ntmps48
  go_wp2_with fail
  refine bodyPost_ret (v := .tuple #[.agg #[.int .i64 0, .int .i64 0], .int .i64 18]) (by simp [results, Tryd.results48, go_sem, y0, y1]) rfl ⟨rfl, ?_⟩
  first | exact below_set2 hbw (Nat.le_refl _) _ _ | exact hbw
end Go.Proofs.YtjgampkpfjbmdaaDoor
end
