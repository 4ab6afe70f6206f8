/- Regions that draw their order, make one new variable and store into it what the region itself has made. -/
import Derived.Test.YtfdjhiomdimfcaaRegion
namespace Go.Rel
open Go.RowKit

/-- All blocks that are no variables of type t stay. -/
def Others (t : TypeId) (W W' : World) : Prop := ∀ (g : Nat) (o : Obj), W.heap[g]? = some o → (∀ cs, o ≠ .cells cs t (0, 0)) → W'.heap[g]? = some o
/-- What is good of a variable's contents hangs on other blocks alone. -/
structure GoodOk (t : TypeId) (m : Nat) (Good : World → Array Value → Prop) : Prop where
  mono : ∀ W W' cs, Others t W W' → Good W cs → Good W' cs
  size : ∀ W cs, Good W cs → cs.size = m
/-- All blocks below B stay; of the others each stays, or it is a variable of type t and becomes a good one. -/
structure KpG (B : Nat) (t : TypeId) (m : Nat) (Good : World → Array Value → Prop) (W W' : World) : Prop where
  below : Below B W W'
  rest : ∀ g, B ≤ g → g < W.heap.size → W'.heap[g]? = W.heap[g]? ∨ ∃ cs cs', W.heap[g]? = some (.cells cs t (0, 0)) ∧ cs.size = m ∧ Good W' cs' ∧ W'.heap[g]? = some (.cells cs' t (0, 0))

section
variable {B m : Nat} {t : TypeId} {Good : World → Array Value → Prop} {W W' : World}
theorem KpG.others (h : KpG B t m Good W W') : Others t W W' := by
  intro g o ho hne
  have hg := (Array.getElem?_eq_some_iff.1 ho).1
  by_cases hB : g < B
  · exact (h.below.block g hB).trans ho
  · rcases h.rest g (by omega) hg with e | ⟨cs, _, e, -⟩
    · exact e.trans ho
    · rw [ho] at e
      exact absurd (Option.some.inj e) (hne cs)
theorem kpG_keeps (hG : GoodOk t m Good) (B : Nat) : Keeps (KpG B t m Good) :=
  ⟨fun _ => ⟨Below.refl _ _, fun _ _ _ => .inl rfl⟩,
   fun {a b c} h k => ⟨h.below.trans k.below, fun g h1 h2 => by
     have hs : g < b.heap.size := Nat.lt_of_lt_of_le h2 h.below.size
     rcases k.rest g h1 hs with e | ⟨cs, cs', e, e1, e2, e3⟩
     · rcases h.rest g h1 h2 with f | ⟨cs, cs', f, f1, f2, f3⟩
       · exact .inl (e.trans f)
       · exact .inr ⟨cs, cs', f, f1, hG.mono _ _ _ k.others f2, e.trans f3⟩
     · rcases h.rest g h1 h2 with f | ⟨cs0, cs0', f, f1, -⟩
       · exact .inr ⟨cs, cs', f ▸ e, e1, e2, e3⟩
       · exact .inr ⟨cs0, cs', f, f1, e2, e3⟩⟩,
   fun _ => ⟨(Below.refl _ _).drew, fun _ _ _ => .inl rfl⟩⟩
theorem KpG.of_below (h : Below W.heap.size W W') (hB : B ≤ W.heap.size) : KpG B t m Good W W' := ⟨h.mono hB, fun g _ h2 => .inl (h.block g h2)⟩
theorem Others.row (h : Others t W W') {base : Nat} {e : TypeId} {size n : Nat} {v : Value} {xs : List Value} (hr : W.ownsRow base e size v n xs) (he : e ≠ t) : W'.ownsRow base e size v n xs := by
  refine ⟨hr.1, ?_⟩
  rcases hr.2 with h1 | ⟨g, cap, cur, h1, h2, h3, h4⟩
  · exact .inl h1
  · exact .inr ⟨g, cap, cur, h1, h2, h g _ h3 (fun cs hc => he (by injection hc)), h4⟩
/-- The new variable. -/
def IsVar (B : Nat) (t : TypeId) (m : Nat) (v : Value) (W : World) : Prop := ∃ g, v = .pointer (some ⟨g, 0, none⟩) ∧ B ≤ g ∧ ∃ cs, cs.size = m ∧ W.heap[g]? = some (.cells cs t (0, 0))
theorem IsVar.mono (hG : GoodOk t m Good) {v : Value} (h : IsVar B t m v W) (hk : KpG B t m Good W W') : IsVar B t m v W' := by
  obtain ⟨g, hv, hg, cs, hc, ho⟩ := h
  rcases hk.rest g hg (Array.getElem?_eq_some_iff.1 ho).1 with e | ⟨_, cs', e, e1, e2, e3⟩
  · exact ⟨g, hv, hg, cs, hc, e.trans ho⟩
  · exact ⟨g, hv, hg, cs', hG.size _ _ e2, e3⟩
/-- The new variable, good. -/
def IsGood (B : Nat) (t : TypeId) (Good : World → Array Value → Prop) (v : Value) (W : World) : Prop := ∃ g, v = .pointer (some ⟨g, 0, none⟩) ∧ B ≤ g ∧ ∃ cs, Good W cs ∧ W.heap[g]? = some (.cells cs t (0, 0))
theorem IsGood.mono (hG : GoodOk t m Good) {v : Value} (h : IsGood B t Good v W) (hk : KpG B t m Good W W') : IsGood B t Good v W' := by
  obtain ⟨g, hv, hg, cs, hc, ho⟩ := h
  rcases hk.rest g hg (Array.getElem?_eq_some_iff.1 ho).1 with e | ⟨_, cs', e, e1, e2, e3⟩
  · exact ⟨g, hv, hg, cs, hG.mono _ _ _ hk.others hc, e.trans ho⟩
  · exact ⟨g, hv, hg, cs', e2, e3⟩
/-- Three cells are stored into a variable. -/
theorem others_write3 {g : Nat} {cs : Array Value} (ho : W.heap[g]? = some (.cells cs t (0, 0))) (x y u : Value) : Others t W (((W.setCell ⟨g, 0, none⟩ x).setCell ⟨g, 1, none⟩ y).setCell ⟨g, 2, none⟩ u) := by
  intro i o hi hne
  by_cases e : i = g
  · subst e
    rw [ho] at hi
    exact absurd (Option.some.inj hi).symm (hne cs)
  · rw [Below.heap_setCell _ _ _ _ e, Below.heap_setCell _ _ _ _ e, Below.heap_setCell _ _ _ _ e]; exact hi
theorem KpG.write3 {g : Nat} {x y u : Value} {cs : Array Value} (hg : B ≤ g) (ho : W.heap[g]? = some (.cells cs t (0, 0))) (hcs : cs.size = 3)
    (hgood : Good (((W.setCell ⟨g, 0, none⟩ x).setCell ⟨g, 1, none⟩ y).setCell ⟨g, 2, none⟩ u) #[x, y, u]) :
    KpG B t 3 Good W (((W.setCell ⟨g, 0, none⟩ x).setCell ⟨g, 1, none⟩ y).setCell ⟨g, 2, none⟩ u) ∧ IsGood B t Good (.pointer (some ⟨g, 0, none⟩)) (((W.setCell ⟨g, 0, none⟩ x).setCell ⟨g, 1, none⟩ y).setCell ⟨g, 2, none⟩ u) := by
  obtain ⟨c0, c1, c2, rfl⟩ : ∃ c0 c1 c2, cs = #[c0, c1, c2] := by
    obtain ⟨l⟩ := cs
    match l, hcs with
    | [c0, c1, c2], _ => exact ⟨_, _, _, rfl⟩
  have hfin : (((W.setCell ⟨g, 0, none⟩ x).setCell ⟨g, 1, none⟩ y).setCell ⟨g, 2, none⟩ u).heap[g]? = some (.cells #[x, y, u] t (0, 0)) := by simp [World.setCell, Array.getElem?_modify, ho]
  refine ⟨⟨(((Below.refl _ _).setCell (p := ⟨g, 0, none⟩) hg x).setCell (p := ⟨g, 1, none⟩) hg y).setCell (p := ⟨g, 2, none⟩) hg u, fun i h1 h2 => ?_⟩, g, rfl, hg, _, hgood, hfin⟩
  by_cases hi : i = g
  · subst hi
    exact .inr ⟨_, _, ho, rfl, hgood, hfin⟩
  · exact .inl (by rw [Below.heap_setCell _ _ _ _ hi, Below.heap_setCell _ _ _ _ hi, Below.heap_setCell _ _ _ _ hi])
theorem IsVar.cells3 {v : Value} (h : IsVar B t 3 v W) : ∃ g, v = .pointer (some ⟨g, 0, none⟩) ∧ B ≤ g ∧ ∃ x y u, W.heap[g]? = some (.cells #[x, y, u] t (0, 0)) ∧ W.cell? ⟨g, 0, none⟩ = some x ∧ W.cell? ⟨g, 1, none⟩ = some y ∧ W.cell? ⟨g, 2, none⟩ = some u ∧ ∀ i, W.frozen? ⟨g, i, none⟩ = false := by
  obtain ⟨g, hv, hg, cs, hc, ho⟩ := h
  obtain ⟨c0, c1, c2, rfl⟩ : ∃ c0 c1 c2, cs = #[c0, c1, c2] := by
    obtain ⟨l⟩ := cs
    match l, hc with
    | [c0, c1, c2], _ => exact ⟨_, _, _, rfl⟩
  exact ⟨g, hv, hg, c0, c1, c2, ho, by simp [World.cell?, ho], by simp [World.cell?, ho], by simp [World.cell?, ho], fun i => by simp [World.frozen?, ho]⟩
end

section
variable {P : Program} {ops : Array Oper} {w0 : World} {Fin : Act → List (Nat × (World → Prop)) → Prop} {k : Nat} {e : Nat → Value} {us : List Know} {o : Oper} {rest : List Oper} {a : Act} {fs : List (Nat × (World → Prop))} {R : World → World → Prop}

/-- A store through a pointer that operation j has given; it leans on what is known of others. -/
theorem head_storeU (uses : List Nat) (j : Nat) (G : Value → World → Prop) {v : Value} (hw : (Region.wanted o (yielded ops a.tmps) && o.dst.isNone) = true) (hv : pick uses e j = v) (hm : ∀ v W W', G v W → R W W' → G v W')
    (h : ∀ W, R w0 W → known fs uses W → Gives P o a W (fun _ W' => G v W' ∧ R W W'))
    (hn : ∀ u, Head P ops R w0 Fin (k + 1) (upd e k u) us rest a ((k, G v) :: fs)) : Head P ops R w0 Fin k e (⟨uses, .inr fun e _ => G (e j)⟩ :: us) (o :: rest) a fs := by
  have hd : o.dst = none := by have := and_r hw; cases hx : o.dst <;> simp_all
  refine .inl ⟨and_l hw, fun W hW hk => (h W hW hk).mono fun v' W' ⟨hg, hb⟩ => ⟨by subst hv; exact hg, hb⟩, fun _ _ _ _ hg hk => hm _ _ _ hg hk, fun u => ?_⟩
  rw [hd]
  subst hv
  exact hn u

theorem headG_alloc {B : Nat} {t : TypeId} {z : Array Value} {m : Nat} {Good : World → Array Value → Prop} (hG : GoodOk t m Good) (hB : B ≤ w0.heap.size) (hz : z.size = m) (hw : (Region.wanted o (yielded ops a.tmps) && o.dst.isSome) = true)
    (h : ∀ W, (execOp a.eval o).run P W = .ok (.value (.pointer (some ⟨W.heap.size, 0, none⟩))) (W.alloc (.cells z t)))
    (hn : ∀ v, Head P ops (KpG B t m Good) w0 Fin (k + 1) (upd e k v) us rest (a.put o.dst v) ((k, IsVar B t m v) :: fs)) :
    Head P ops (KpG B t m Good) w0 Fin k e (⟨[], .inr fun _ => IsVar B t m⟩ :: us) (o :: rest) a fs :=
  head_memR [] _ hw (fun _ _ _ hv hk => hv.mono hG hk) (fun W hW _ => by
    unfold Gives
    rw [h W]
    have hs := Nat.le_trans hB hW.below.size
    exact ⟨⟨_, rfl, hs, z, hz, by rw [World.alloc]; simp⟩, .of_below ((Below.refl _ _).alloc (Nat.le_refl _) _) hs⟩) hn
theorem headG_still {B : Nat} {t : TypeId} {m : Nat} {Good : World → Array Value → Prop} (hG : GoodOk t m Good) {c : Value} (hw : (Region.wanted o (yielded ops a.tmps) && o.dst.isSome) = true) (h : ∀ W, Below B w0 W → (execOp a.eval o).run P W = .ok (.value c) W)
    (hn : Head P ops (KpG B t m Good) w0 Fin (k + 1) (upd e k c) us rest (a.put o.dst c) fs) : Head P ops (KpG B t m Good) w0 Fin k e (⟨[], .inl c⟩ :: us) (o :: rest) a fs :=
  head_stillR (kpG_keeps hG B) hw (fun W hW => h W hW.below) hn
theorem KpG.refl {B : Nat} {t : TypeId} {m : Nat} {Good : World → Array Value → Prop} (hG : GoodOk t m Good) (W : World) : KpG B t m Good W W := (kpG_keeps hG B).refl W
end
end Go.Rel
