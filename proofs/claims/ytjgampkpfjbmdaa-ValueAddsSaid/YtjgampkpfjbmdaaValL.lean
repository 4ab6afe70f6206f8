/- Sums of lists that a call has made; a rule for operations of a drawn region that lean on each other. -/
import Derived.Test.YtjgampkpfjbmdaaValF
import Derived.Test.YtjgampkpfjbmdaaValG
import Derived.Test.YtjgampkpfjbmdaaRegion
import Derived.Maps.AppendAt
namespace Go.Rel
open Go.RowKit

section
variable {P : Program} {ops : Array Oper} {w0 : World} {Fin : Act → List (Nat × (World → Prop)) → Prop} {k : Nat} {e : Nat → Value} {us : List Know} {o : Oper} {rest : List Oper} {a : Act} {fs : List (Nat × (World → Prop))}
/-- An operation of whose value g is known from then on; g may name the values of others. -/
theorem head_memU (uses : List Nat) (g : (Nat → Value) → Value → World → Prop) (hw : (Region.wanted o (yielded ops a.tmps) && o.dst.isSome) = true) (hm : ∀ e v W W', g e v W → Below W.heap.size W W' → g e v W')
    (h : ∀ W, Below w0.heap.size w0 W → known fs uses W → Gives P o a W (fun v W' => g (pick uses e) v W' ∧ Below W.heap.size W W'))
    (hn : ∀ v, Head P ops Kp w0 Fin (k + 1) (upd e k v) us rest (a.put o.dst v) ((k, g (pick uses e) v) :: fs)) : Head P ops Kp w0 Fin k e (⟨uses, .inr g⟩ :: us) (o :: rest) a fs :=
  .inl ⟨and_l hw, fun W hW hk => (h W hW hk).mono fun v W' ⟨hg, hb⟩ => ⟨by rw [shown_some (and_r hw)]; exact hg, hb⟩, hm, hn⟩
end

/-- A list of the call's own, in blocks of the set Q. -/
def TwRQ (w : World) (base : Nat) (Q : Nat → Prop) (e : TypeId) (kids : List Tree) (v : Value) (n : Nat) : Prop :=
  ∃ ys : List Val, ys.length = n ∧ w.ownsRow base e 6 v n (ys.flatMap Val.cells) ∧ (∀ b, v.ownBlock = some b → Q b) ∧
    ∀ (i : Nat) (t : Tree) (y : Val), kids[i]? = some t → ys[i]? = some y → Reads w (fun b off => OwnQ w Q e b off ∧ v.ownBlock ≠ some b) t y
theorem TwR.q {w : World} {base : Nat} {Q : Nat → Prop} {e : TypeId} {kids : List Tree} {v : Value} {n : Nat} (h : TwR w base e kids v n) (hQ : ∀ b, base ≤ b → b < w.heap.size → Q b) : TwRQ w base Q e kids v n := by
  have hlt := h.lt
  obtain ⟨ys, h1, h2, h3⟩ := h
  exact ⟨ys, h1, h2, fun b hb => hQ b (hlt b hb).1 (hlt b hb).2, fun i t y hi hy => Reads.mono (fun b _ hp => ⟨⟨hQ b hp.1.1 hp.1.lt, hp.1.2.1, hp.1.2.2⟩, hp.2⟩) (fun _ _ _ => rfl) (h3 i t y hi hy)⟩
theorem TwRQ.keep {w w' : World} {base : Nat} {Q : Nat → Prop} {e : TypeId} {kids : List Tree} {v : Value} {n : Nat} (h : TwRQ w base Q e kids v n) (hw : ∀ b, Q b → b < w.heap.size → w'.heap[b]? = w.heap[b]?) : TwRQ w' base Q e kids v n := by
  obtain ⟨ys, h1, h2, h3, h4⟩ := h
  refine ⟨ys, h1, ⟨h2.1, ?_⟩, h3, fun i t y hi hy => Reads.mono (fun b _ hp => ⟨⟨hp.1.1, hp.1.2.1, hp.1.2.2.imp fun cs h => (hw b hp.1.1 hp.1.lt).trans h⟩, hp.2⟩) (fun b _ hp => hw b hp.1.1 hp.1.lt) (h4 i t y hi hy)⟩
  rcases h2.2 with h | ⟨g, cap, cur, q1, q2, q3, q4⟩
  · exact .inl h
  · exact .inr ⟨g, cap, cur, q1, q2, (hw g (h3 g (by rw [q1]; rfl)) (Array.getElem?_eq_some_iff.1 q3).1).trans q3, q4⟩
theorem TwRQ.below {w w' : World} {base : Nat} {Q : Nat → Prop} {e : TypeId} {kids : List Tree} {v : Value} {n : Nat} (h : TwRQ w base Q e kids v n) (hb : Below w.heap.size w w') : TwRQ w' base Q e kids v n := h.keep (fun b _ hlt => hb.block b hlt)
/-- Two lists of the call's own, one behind the other. -/
theorem TwRQ.join {w w' : World} {base c : Nat} {Q : Nat → Prop} {e : TypeId} {ka kb : List Tree} {v v' : Value} {n m : Nat} {ys zs : List Val} (hl : ys.length = n) (hla : ka.length = n)
    (hq : ∀ b, v.ownBlock = some b → Q b) (hk : ∀ (i : Nat) (t : Tree) (y : Val), ka[i]? = some t → ys[i]? = some y → Reads w (fun b off => OwnQ w Q e b off ∧ v.ownBlock ≠ some b) t y) (hv : ∀ b, v.ownBlock = some b → b < c) (hQ : ∀ b, c ≤ b → b ≤ w.heap.size → Q b) (hc : c ≤ w.heap.size)
    (hl2 : zs.length = m) (hu : ∀ (i : Nat) (t : Tree) (y : Val), kb[i]? = some t → zs[i]? = some y → Fresh w c e t y) (ho : w'.ownsRow base e 6 v' (n + m) (ys.flatMap Val.cells ++ zs.flatMap Val.cells)) (hg : w.grownBy w' v.ownBlock) (hv' : v'.ownBlock = v.ownBlock ∨ v'.ownBlock = some w.heap.size) :
    TwRQ w' base Q e (ka ++ kb) v' (n + m) := by
  refine ⟨ys ++ zs, by simp [hl, hl2], by rw [List.flatMap_append]; exact ho, fun b hb => ?_, fun i t y hi hy => ?_⟩
  · rcases hv' with h | h
    · exact hq b (h ▸ hb)
    · rw [h] at hb; injection hb with hb; subst hb; exact hQ _ hc (Nat.le_refl _)
  have key : ∀ b off, OwnQ w Q e b off → v.ownBlock ≠ some b → w'.heap[b]? = w.heap[b]? ∧ OwnQ w' Q e b off ∧ v'.ownBlock ≠ some b := fun b off ho hne => by
    have h1 := hg.block b ho.lt (Ne.symm hne)
    refine ⟨h1, ⟨ho.1, ho.2.1, ho.2.2.imp fun cs h => h1.trans h⟩, fun h => ?_⟩
    rcases hv' with h2 | h2
    · rw [h2] at h; exact hne h
    · rw [h2] at h
      have := ho.lt
      injection h with h
      omega
  rcases Nat.lt_or_ge i n with hlt | hge
  · rw [List.getElem?_append_left (by omega)] at hy hi
    exact Reads.mono (fun b off hp => (key b off hp.1 hp.2).2) (fun b off hp => (key b off hp.1 hp.2).1) (hk i t y hi hy)
  · rw [List.getElem?_append_right (by omega)] at hy hi
    rw [hl] at hy
    rw [hla] at hi
    have hne : ∀ b off, OwnB w c e b off → OwnQ w Q e b off ∧ v.ownBlock ≠ some b := fun b off ho => ⟨⟨hQ b ho.1 (Nat.le_of_lt ho.lt), ho.2.1, ho.2.2⟩, fun h => by have := hv b h; have := ho.1; omega⟩
    exact Reads.mono (fun b off hp => (key b off (hne b off hp).1 (hne b off hp).2).2) (fun b off hp => (key b off (hne b off hp).1 (hne b off hp).2).1) (hu (i - n) t y hi hy)
/-- The value behind it. -/
theorem TwRQ.done {w : World} {base base' : Nat} {Q : Nat → Prop} {e : TypeId} {kids : List Tree} {v : Value} {n : Nat} (h : TwRQ w base Q e kids v n) (hn : kids.length = n) (hQ : ∀ b, Q b → base' ≤ b) {k : Int} {q : Rat2} {t : Bool} {s : ByteArray} (ok : Val.Ok ⟨k, q, t, s, none, 0, 0⟩) :
    ∃ A' cap', v = .slice A' n cap' ∧ Fresh w base' e (.node k q t s kids) ⟨k, q, t, s, A', n, cap'⟩ := by
  obtain ⟨ys, h1, h2, h3, h4⟩ := h
  obtain ⟨k0, k1, n0, n1, d0, d1, s1, -, -, -⟩ := ok
  have hu : ∀ (i : Nat) (t : Tree) (y : Val), kids[i]? = some t → ys[i]? = some y → Reads w (OwnB w base' e) t y := fun i t y hi hy => Reads.mono (fun b _ hp => ⟨hQ b hp.1.1, hp.1.2.1, hp.1.2.2⟩) (fun _ _ _ => rfl) (h4 i t y hi hy)
  obtain ⟨A, cap, hv, hcap, hr⟩ := Recs.of_own Val.cells_len h1 h2
  rcases h2.2 with ⟨rfl, h5⟩ | ⟨g, cap', cur, rfl, h5, h6, h7, h8, h9⟩
  · subst h5
    obtain rfl : ys = [] := List.length_eq_zero_iff.1 h1
    exact ⟨none, 0, rfl, .mk ⟨k, q, t, s, none, 0, 0⟩ kids [] ⟨k0, k1, n0, n1, d0, d1, s1, by simp, by simp, fun _ => rfl⟩ rfl hn (fun h => by simp at h) (fun i t y _ h => by simp at h)⟩
  · refine ⟨_, cap', rfl, .mk ⟨k, q, t, s, some ⟨g, 0, none⟩, n, cap'⟩ kids ys ⟨k0, k1, n0, n1, d0, d1, s1, h7, by unfold maxLen at h8; exact h8, fun h => by cases h⟩ h1 hn (fun hpos => ?_) hu⟩
    simp only [Value.slice.injEq, true_and] at hv
    obtain ⟨rfl, -⟩ := hv
    obtain ⟨b, off, e2, hb, hat⟩ := hr hpos
    simp only [Option.some.injEq, Addr.mk.injEq, and_true] at e2
    obtain ⟨rfl, rfl⟩ := e2
    exact ⟨g, 0, rfl, ⟨hQ g (h3 g rfl), rfl, cur, h6⟩, hat⟩

section
variable {P : Program}
/-- append of one list of the call's own to another. -/
theorem wpList_append_tw {ops : Array Oper} {rest : List Oper} {o : Oper} {a : Act} {w : World} {Qp : Exit → Act → World → Prop} (hgd : o.guard = none) (s x : Operand) (t : TypeId)
    (ho : o.op = .call { callee := .builtin .append, args := #[s, x], argTypes := #[t, t] })
    (base c : Nat) (Q : Nat → Prop) (e : TypeId) (i : TypeInfo) (z : Value) (bytes : Nat) (ht : P.underlying t = some (.slice e)) (hi : P.info? e = some i) (hz : i.zero = some z)
    (hsize : i.size = 6) (hby : i.bytes = bytes) (hzs : z.cells.size = 6) (v v2 : Value) (n m : Nat) (ka kb : List Tree) (hs : a.eval s = v) (hx : a.eval x = v2) (hla : ka.length = n)
    (ha : TwRQ w base Q e ka v n) (hb : TwR w c e kb v2 m) (hv : ∀ b, v.ownBlock = some b → b < c) (hQ : ∀ b, c ≤ b → b ≤ w.heap.size → Q b) (hc : c ≤ w.heap.size) (h63 : n + m ≤ maxLen) (hbytes : (n + m) * bytes ≤ 140737488355328) (hbase : base ≤ w.heap.size)
    (h : ∀ v' w', TwRQ w' base Q e (ka ++ kb) v' (n + m) → w.grownBy w' v.ownBlock → wpList P ops Qp rest (a.put o.dst v') w') : wpList P ops Qp (o :: rest) a w := by
  obtain ⟨ys, h1, h2, hq, h3⟩ := ha
  obtain ⟨zs, k1, k2, k3⟩ := id hb
  have hu : ∀ (i : Nat) (t : Tree) (y : Val), kb[i]? = some t → zs[i]? = some y → Fresh w c e t y := fun i t y p q => Reads.mono (fun _ _ hp => hp.1) (fun _ _ _ => rfl) (k3 i t y p q)
  rcases k2.2 with ⟨rfl, h5⟩ | ⟨g, cap, cur, rfl, h5, h6, h7, h8, h9⟩
  · subst h5
    obtain rfl : zs = [] := List.length_eq_zero_iff.1 k1
    refine wpList_append_own_none hgd s x t ho base e i 6 ht hi v n _ hs h2 hx (h v w ?_ (World.grownBy.refl w _))
    exact TwRQ.join h1 hla hq h3 hv hQ hc k1 hu (by simpa using h2) (World.grownBy.refl w _) (.inl rfl)
  · refine wpList_append_own_at _ hgd s x t ho base e i z 6 bytes ht hi hz hsize hby hzs (by decide) v n _ hs h2 ⟨g, 0, none⟩ m cap (zs.flatMap Val.cells) hx (by rw [flat_len Val.cells_len, k1]) (k2.cells rfl) (fun u hu => ?_) h63 hbytes hbase (fun v' w' q1 q2 _ q3 => h v' w' (TwRQ.join h1 hla hq h3 hv hQ hc k1 hu q1 q2 q3) q2)
    obtain ⟨y, -, hy⟩ := List.mem_flatMap.1 hu
    exact cells_val_one y u hy
end
end Go.Rel
