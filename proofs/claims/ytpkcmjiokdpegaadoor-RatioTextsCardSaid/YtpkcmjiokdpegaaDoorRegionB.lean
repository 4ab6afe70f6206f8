/- Regions that draw their order, make one new variable and store into it: 'x, e := f(..)' where the order is open. -/
import Derived.Test.YtpkcmjiokdpegaaDoorRegion
namespace Go.Rel
open Go.RowKit

/-- All blocks below B stay; of the others each stays, or was o0 and becomes o1. -/
structure KpNew (B : Nat) (o0 o1 : Obj) (W W' : World) : Prop where
  below : Below B W W'
  rest : ∀ g, B ≤ g → g < W.heap.size → W'.heap[g]? = W.heap[g]? ∨ (W.heap[g]? = some o0 ∧ W'.heap[g]? = some o1)

theorem kpNew_keeps (B : Nat) (o0 o1 : Obj) : Keeps (KpNew B o0 o1) :=
  ⟨fun _ => ⟨Below.refl _ _, fun _ _ _ => .inl rfl⟩,
   fun {a b c} h k => ⟨h.below.trans k.below, fun g h1 h2 => by
     have hs : g < b.heap.size := Nat.lt_of_lt_of_le h2 h.below.size
     rcases k.rest g h1 hs with e | ⟨e, e'⟩
     · rcases h.rest g h1 h2 with f | ⟨f, f'⟩
       · exact .inl (e.trans f)
       · exact .inr ⟨f, e.trans f'⟩
     · rcases h.rest g h1 h2 with f | ⟨f, f'⟩
       · exact .inr ⟨f ▸ e, e'⟩
       · exact .inr ⟨f, e'⟩⟩,
   fun _ => ⟨(Below.refl _ _).drew, fun _ _ _ => .inl rfl⟩⟩

theorem KpNew.of_below {B : Nat} {o0 o1 : Obj} {W W' : World} (h : Below W.heap.size W W') (hB : B ≤ W.heap.size) : KpNew B o0 o1 W W' :=
  ⟨h.mono hB, fun g _ h2 => .inl (h.block g h2)⟩
theorem KpNew.final {B g : Nat} {o0 o1 : Obj} {W W' : World} (h : KpNew B o0 o1 W W') (hg : B ≤ g) (ho : W.heap[g]? = some o1) : W'.heap[g]? = some o1 := by
  rcases h.rest g hg (Array.getElem?_eq_some_iff.1 ho).1 with e | ⟨_, e⟩
  · exact e.trans ho
  · exact e
theorem KpNew.either {B g : Nat} {o0 o1 : Obj} {W W' : World} (h : KpNew B o0 o1 W W') (hg : B ≤ g) (ho : W.heap[g]? = some o0 ∨ W.heap[g]? = some o1) : W'.heap[g]? = some o0 ∨ W'.heap[g]? = some o1 := by
  rcases ho with ho | ho
  · rcases h.rest g hg (Array.getElem?_eq_some_iff.1 ho).1 with e | ⟨_, e⟩
    · exact .inl (e.trans ho)
    · exact .inr e
  · exact .inr (h.final hg ho)

/-- The new variable: still o0, or o1 already. -/
def IsEither (B : Nat) (o0 o1 : Obj) (v : Value) (W : World) : Prop := ∃ g, v = .pointer (some ⟨g, 0, none⟩) ∧ B ≤ g ∧ (W.heap[g]? = some o0 ∨ W.heap[g]? = some o1)
def IsFinal (B : Nat) (o1 : Obj) (v : Value) (W : World) : Prop := ∃ g, v = .pointer (some ⟨g, 0, none⟩) ∧ B ≤ g ∧ W.heap[g]? = some o1

section
variable {P : Program} {ops : Array Oper} {w0 : World} {Fin : Act → List (Nat × (World → Prop)) → Prop} {k : Nat} {e : Nat → Value} {us : List Know} {o : Oper} {rest : List Oper} {a : Act} {fs : List (Nat × (World → Prop))} {R : World → World → Prop} {o1 : Obj}

theorem headN_still {B : Nat} {o0 o1 : Obj} {c : Value} (hw : (Region.wanted o (yielded ops a.tmps) && o.dst.isSome) = true) (h : ∀ W, Below B w0 W → (execOp a.eval o).run P W = .ok (.value c) W)
    (hn : Head P ops (KpNew B o0 o1) w0 Fin (k + 1) (upd e k c) us rest (a.put o.dst c) fs) : Head P ops (KpNew B o0 o1) w0 Fin k e (⟨[], .inl c⟩ :: us) (o :: rest) a fs :=
  head_stillR (kpNew_keeps _ _ _) hw (fun W hW => h W hW.below) hn

theorem headN_call {B : Nat} {o0 o1 : Obj} {c : Value} {f : FuncId} {args : Array Value} (hB : B ≤ w0.heap.size) (hw : (Region.wanted o (yielded ops a.tmps) && o.dst.isSome) = true) (hr : ∀ W, (execOp a.eval o).run P W = .ok (.enter f args) W)
    (h : ∀ W, Below B w0 W → Calls P f args W fun e W' => e = .returned c ∧ Below W.heap.size W W')
    (hn : Head P ops (KpNew B o0 o1) w0 Fin (k + 1) (upd e k c) us rest (a.put o.dst c) fs) : Head P ops (KpNew B o0 o1) w0 Fin k e (⟨[], .inl c⟩ :: us) (o :: rest) a fs :=
  head_callR hw hr (fun W hW => (h W hW.below).mono fun _ _ ⟨he, hb⟩ => ⟨he, .of_below hb (Nat.le_trans hB hW.below.size)⟩) hn

/-- The new variable is made. -/
theorem headN_alloc {B : Nat} {cs : Array Value} {t : TypeId} (hB : B ≤ w0.heap.size) (hw : (Region.wanted o (yielded ops a.tmps) && o.dst.isSome) = true)
    (h : ∀ W, (execOp a.eval o).run P W = .ok (.value (.pointer (some ⟨W.heap.size, 0, none⟩))) (W.alloc (.cells cs t)))
    (hn : ∀ v, Head P ops (KpNew B (.cells cs t (0, 0)) o1) w0 Fin (k + 1) (upd e k v) us rest (a.put o.dst v) ((k, IsEither B (.cells cs t (0, 0)) o1 v) :: fs)) :
    Head P ops (KpNew B (.cells cs t (0, 0)) o1) w0 Fin k e (⟨[], .inr fun _ => IsEither B (.cells cs t (0, 0)) o1⟩ :: us) (o :: rest) a fs :=
  head_memR [] _ hw (fun v W W' ⟨g, hv, hg, ho⟩ hk => ⟨g, hv, hg, hk.either hg ho⟩) (fun W hW _ => by
    unfold Gives
    rw [h W]
    have hs := Nat.le_trans hB hW.below.size
    exact ⟨⟨_, rfl, hs, .inl (by rw [World.alloc]; simp)⟩, .of_below ((Below.refl _ _).alloc (Nat.le_refl _) _) hs⟩) hn

/-- The store of two cells into the new variable (operation j has made it, v points to it). -/
theorem headN_store2 {B j : Nat} {x y c d : Value} {t : TypeId} {v : Value} (hw : (Region.wanted o (yielded ops a.tmps) && o.dst.isNone) = true) (hv : pick [j] e j = v)
    (hkn : ∀ W, known fs [j] W → IsEither B (.cells #[x, y] t (0, 0)) (.cells #[c, d] t (0, 0)) v W)
    (h : ∀ W g x' y', v = .pointer (some ⟨g, 0, none⟩) → W.cell? ⟨g, 0, none⟩ = some x' → W.cell? ⟨g, 1, none⟩ = some y' → (∀ i, W.frozen? ⟨g, i, none⟩ = false) → Gives P o a W (fun _ W' => W' = (W.setCell ⟨g, 0, none⟩ c).setCell ⟨g, 1, none⟩ d))
    (hn : ∀ u, Head P ops (KpNew B (.cells #[x, y] t (0, 0)) (.cells #[c, d] t (0, 0))) w0 Fin (k + 1) (upd e k u) us rest a ((k, IsFinal B (.cells #[c, d] t (0, 0)) v) :: fs)) :
    Head P ops (KpNew B (.cells #[x, y] t (0, 0)) (.cells #[c, d] t (0, 0))) w0 Fin k e (⟨[j], .inr fun e _ => IsFinal B (.cells #[c, d] t (0, 0)) (e j)⟩ :: us) (o :: rest) a fs := by
  have hd : o.dst = none := by have := and_r hw; cases hx : o.dst <;> simp_all
  refine .inl ⟨and_l hw, fun W hW hk => ?_, fun _ _ _ _ ⟨g, hv, hg, ho⟩ hk => ⟨g, hv, hg, hk.final hg ho⟩, fun u => ?_⟩
  · obtain ⟨g, hg0, hg, ho⟩ := hkn W hk
    have hx : ∃ x' y', W.heap[g]? = some (.cells #[x', y'] t (0, 0)) := by
      rcases ho with h | h
      · exact ⟨_, _, h⟩
      · exact ⟨_, _, h⟩
    refine Exists.elim hx fun x' hx => Exists.elim hx fun y' hx => ?_
    refine (h W g x' y' hg0 (by simp [World.cell?, hx]) (by simp [World.cell?, hx]) (fun i => by simp [World.frozen?, hx])).mono fun u W' e' => ?_
    subst e'
    have hfin : ((W.setCell ⟨g, 0, none⟩ c).setCell ⟨g, 1, none⟩ d).heap[g]? = some (.cells #[c, d] t (0, 0)) := by simp [World.setCell, Array.getElem?_modify, hx]
    refine ⟨⟨g, hv.trans hg0, hg, hfin⟩, (((Below.refl _ _).setCell (p := ⟨g, 0, none⟩) hg c).setCell (p := ⟨g, 1, none⟩) hg d), fun i h1 h2 => ?_⟩
    by_cases hi : i = g
    · subst hi
      rcases ho with h | h
      · exact .inr ⟨h, hfin⟩
      · exact .inl (hfin.trans h.symm)
    · exact .inl (by rw [Below.heap_setCell _ _ _ _ hi, Below.heap_setCell _ _ _ _ hi])
  · rw [hd]
    rw [← hv] at hn
    exact hn u
end
end Go.Rel
