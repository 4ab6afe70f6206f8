/- spoil. -/
import Derived.Test.YtjgampkpfjbmdaaValJ
namespace Go.Rel
open Go.RowKit
/-- What spoil leaves: all blocks but those of Q stay; what may be written over may still be. -/
structure Spd (Q : Nat → Prop) (e : TypeId) (w w' : World) : Prop where
  os : w'.os = w.os
  tape : w'.tape = w.tape
  output : w'.output = w.output
  size : w'.heap.size = w.heap.size
  block : ∀ k, ¬ Q k → w'.heap[k]? = w.heap[k]?
  sp : ∀ (d : Nat) (A : Option Addr) (n : Nat), SpL w Q e d A n → SpL w' Q e d A n
theorem Spd.refl (Q : Nat → Prop) (e : TypeId) (w : World) : Spd Q e w w := ⟨rfl, rfl, rfl, rfl, fun _ _ => rfl, fun _ _ _ h => h⟩
theorem Spd.trans {Q : Nat → Prop} {e : TypeId} {a b c : World} (h : Spd Q e a b) (k : Spd Q e b c) : Spd Q e a c := ⟨k.os.trans h.os, k.tape.trans h.tape, k.output.trans h.output, k.size.trans h.size, fun n hn => (k.block n hn).trans (h.block n hn), fun d A n hd => k.sp d A n (h.sp d A n hd)⟩
theorem Spd.below {Q : Nat → Prop} {e : TypeId} {a b : World} (h : Spd Q e a b) {B : Nat} (hQ : ∀ k, Q k → B ≤ k) : Below B a b := ⟨h.os, h.tape, h.output, Nat.le_of_eq h.size.symm, fun k hk => h.block k (fun hq => by have := hQ k hq; omega)⟩
theorem Spd.blk {Q : Nat → Prop} {e t : TypeId} {a b : World} {g : Nat} {cs : Array Value} (h : Spd Q e a b) (hb : Blk a g t cs) (hg : ¬ Q g) : Blk b g t cs := (h.block g hg).trans hb
def RetSp (Q : Nat → Prop) (e : TypeId) (w : World) (en : Ending) (w' : World) : Prop := en = .returned (.tuple #[]) ∧ Spd Q e w w'
theorem put6_below {base : Nat} {w : World} {g : Nat} (h : base ≤ g) (i : Nat) : Below base w (put6 w g i) :=
  ((((((Below.refl base w).setCell (p := ⟨g, i * 6, none⟩) h _).setCell (p := ⟨g, i * 6 + 1, none⟩) h _).setCell (p := ⟨g, i * 6 + 2, none⟩) h _).setCell (p := ⟨g, i * 6 + 3, none⟩) h _).setCell (p := ⟨g, i * 6 + 4, none⟩) h _).setCell (p := ⟨g, i * 6 + 5, none⟩) h _
theorem put6_spd {Q : Nat → Prop} {e : TypeId} {w : World} {g i : Nat} {cs : Array Value} (hq : Q g) (hg : w.heap[g]? = some (.cells cs e (0, 0))) (hi : i * 6 + 5 < cs.size) : Spd Q e w (put6 w g i) := by
  have hB := put6_below (base := 0) (w := w) (Nat.zero_le g) i
  refine ⟨hB.os, hB.tape, hB.output, put6_size w g i, fun k hk => put6_far i (fun h => ?_), put6_sp hg hi⟩
  subst h
  exact hk hq
theorem SpL.le_ {w : World} {Q : Nat → Prop} {e : TypeId} {d : Nat} {A : Option Addr} {n : Nat} (h : SpL w Q e (d + 1) A n) : n ≤ 9223372036854775807 := by
  obtain ⟨_, ⟨_, h⟩, _⟩ := h; exact h
/-- An element that may be written over. -/
theorem SpL.elem {w : World} {Q : Nat → Prop} {e : TypeId} {d : Nat} {A : Option Addr} {n : Nat} (h : SpL w Q e (d + 1) A n) {i : Nat} (hi : i < n) :
    ∃ (b : Nat) (y : Val) (cs : Array Value), A = some ⟨b, 0, none⟩ ∧ Q b ∧ Blk w b e cs ∧ i * 6 + 5 < cs.size ∧ SpL w Q e d y.A y.len ∧
      w.cell? ⟨b, i * 6, none⟩ = some (.int .u8 y.k) ∧ w.cell? ⟨b, i * 6 + 1, none⟩ = some (.int .i64 y.q.n) ∧ w.cell? ⟨b, i * 6 + 2, none⟩ = some (.int .i64 y.q.d) ∧
      w.cell? ⟨b, i * 6 + 3, none⟩ = some (.bool y.t) ∧ w.cell? ⟨b, i * 6 + 4, none⟩ = some (.string y.s) ∧ w.cell? ⟨b, i * 6 + 5, none⟩ = some (.slice y.A y.len y.cap) := by
  obtain ⟨ys, ⟨hl, -⟩, hr, hk⟩ := h
  obtain ⟨b, off, e1, hp, hat⟩ := hr (by omega)
  obtain ⟨p1, rfl, cs, p3⟩ := hp
  have hil : i < ys.length := by omega
  have g1 : ys[i]? = some ys[i] := by simp [hil]
  have c := hat i _ g1
  have c5 := c 5 _ rfl
  refine ⟨b, ys[i], cs, e1, p1, p3, ?_, hk _ (List.getElem_mem hil), ?_, ?_, ?_, ?_, ?_, ?_⟩
  · rw [Nat.zero_add] at c5
    simp only [World.cell?, p3] at c5
    have h5 : cs[i * 6 + 5]? = some (.slice ys[i].A ys[i].len ys[i].cap) := by simpa using c5
    exact (Array.getElem?_eq_some_iff.1 h5).1
  · have := c 0 _ rfl; simpa using this
  · have := c 1 _ rfl; simpa using this
  · have := c 2 _ rfl; simpa using this
  · have := c 3 _ rfl; simpa using this
  · have := c 4 _ rfl; simpa using this
  · simpa using c5
end Go.Rel
namespace Go.Proofs.Ytjgampkpfjbmdaa
open Go.RowKit Go.Rel
set_option maxHeartbeats 2000000 in
theorem spoil_any (Q : Nat → Prop) : ∀ (d : Nat) (A : Option Addr) (n cap : Nat) (w : World), SpL w Q 26 d A n →
    Calls Try.prog 16 #[.slice A n cap] w (RetSp Q 26 w) := by
  intro d
  induction d with
  | zero =>
    intro A n cap w hs
    obtain rfl : n = 0 := hs
    go_enter Try.func16, Try.ntmps16
    go_wp2_with fail
    refine wp_loop_rounds 1 ?_
    rw [rounds_succ]
    go_wp2_with fail
    go_end0
    exact ⟨rfl, Spd.refl _ _ _⟩
  | succ d ih =>
    intro A n cap w hs
    have hn := hs.le_
    have HS := Lib.hid hs
    clear hs
    go_enter Try.func16, Try.ntmps16
    go_wp2_with fail
    go_loopw [2] (fun iv wr => ∃ i : Nat, i ≤ n ∧ iv = .int .i64 i ∧ Spd Q 26 w wr) (fun iv _ => n - (intOf iv).toNat)
    case atStart => exact ⟨0, Nat.zero_le _, rfl, Spd.refl _ _ _⟩
    case round =>
      obtain ⟨i, hi, rfl, hsp⟩ := hrel
      by_cases hlt : i < n
      · obtain ⟨b, y, cs, rfl, hbb, hblk, hcs, hy, e0, e1, e2, e3, e4, e5⟩ := SpL.elem (hsp.sp _ _ _ HS.out) hlt
        have hi2 : (i : Int) < n := by omega
        have HR := Lib.hid (ih y.A y.len y.cap wr hy)
        have HP := Lib.hid hsp
        clear hsp hy hblk
        go_wp2_with fail
        refine (HR.out).mono ?_
        rintro e W ⟨rfl, hsp2⟩
        have hsp3 := HP.out.trans hsp2
        clear e0 e1 e2 e3 e4 e5 hsp2 HR HP hcs
        obtain ⟨b', y', cs', hbe, hbb', hblk', hcs', hy', e0, e1, e2, e3, e4, e5⟩ := SpL.elem (hsp3.sp _ _ _ HS.out) hlt
        simp only [Option.some.injEq, Addr.mk.injEq, and_true] at hbe
        subst hbe
        have hfr := hblk'.frozen
        have hbl := hblk'.lt
        have HQ := Lib.hid (show Spd Q 26 w (put6 W b i) from hsp3.trans (put6_spd hbb hblk' hcs'))
        clear hsp3 hy' hblk'
        go_wp2_with fail
        go_roundw
        case rel => exact ⟨i + 1, by omega, by go_num, HQ.out⟩
        case measure => simp [intOf]; omega
      · obtain rfl : i = n := by omega
        have HP := Lib.hid hsp
        clear hsp
        go_wp2_with fail
        go_end0
        exact ⟨rfl, HP.out⟩
end Go.Proofs.Ytjgampkpfjbmdaa
