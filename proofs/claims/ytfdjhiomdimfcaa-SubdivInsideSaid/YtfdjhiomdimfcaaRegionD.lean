/- Regions that draw their order and make two new variables: the two differ. -/
import Derived.Test.YtfdjhiomdimfcaaRegion
namespace Go.Rel
open Go.RowKit

/-- An operation that makes a new block. -/
structure MakesNew (P : Program) (o : Oper) : Prop where
  guard : o.guard = none
  dst : o.dst.isSome = true
  run : ∀ a : Act, ∀ W, ∃ cs t, (execOp a.eval o).run P W = .ok (.value (.pointer (some ⟨W.heap.size, 0, none⟩))) (W.alloc (.cells cs t))
structure TwoNew (P : Program) (ops : Array Oper) (n i0 j0 : Nat) : Prop where
  i : i0 < n
  j : j0 < n
  ij : i0 ≠ j0
  one : ∀ o, ops[i0]? = some o → MakesNew P o
  two : ∀ o, ops[j0]? = some o → MakesNew P o
section
variable {P : Program} {ops : Array Oper} {w0 : World} {R : World → World → Prop} {n N i0 j0 : Nat}
theorem TwoNew.fresh (hT : TwoNew P ops n i0 j0) {k : Nat} {o : Oper} (ho : ops[k]? = some o) {a : Act} {W : World} {S : Value → World → Prop} (h : Gives P o a W S) :
    Gives P o a W (fun v W' => S v W' ∧ (k = i0 ∨ k = j0 → v = .pointer (some ⟨W.heap.size, 0, none⟩) ∧ W'.heap.size = W.heap.size + 1)) := by
  by_cases hk : k = i0 ∨ k = j0
  · have hm : MakesNew P o := by
      rcases hk with rfl | rfl
      · exact hT.one o ho
      · exact hT.two o ho
    obtain ⟨cs, t, hr⟩ := hm.run a W
    unfold Gives at *
    rw [hr] at h ⊢
    exact ⟨h, fun _ => ⟨rfl, by simp⟩⟩
  · exact h.mono fun v W' h => ⟨h, fun h' => absurd h' hk⟩
theorem TwoNew.wanted (hT : TwoNew P ops n i0 j0) {k : Nat} {o : Oper} (ho : ops[k]? = some o) (hk : k = i0 ∨ k = j0) {g : Nat → Option Bool} : Region.wanted o g = true := by
  have hm : MakesNew P o := by
    rcases hk with rfl | rfl
    · exact hT.one o ho
    · exact hT.two o ho
  unfold Region.wanted
  rw [hm.guard]
structure Two (ops : Array Oper) (i0 j0 : Nat) (listed : Array Bool) (a : Act) (W : World) : Prop where
  one : listed.getD i0 false = true → ∃ g, val ops i0 a = .pointer (some ⟨g, 0, none⟩) ∧ g < W.heap.size
  two : listed.getD j0 false = true → ∃ g, val ops j0 a = .pointer (some ⟨g, 0, none⟩) ∧ g < W.heap.size
  ne : listed.getD i0 false = true → listed.getD j0 false = true → val ops i0 a ≠ val ops j0 a
theorem Two.step {listed : Array Bool} {a : Act} {W W' : World} {k : Nat} {v : Value} (h : Two ops i0 j0 listed a W) (hT : TwoNew P ops n i0 j0) (hf : Form ops n N) (hN : a.tmps.size = N)
    (hk : k < n) (hF : k = i0 ∨ k = j0 → v = .pointer (some ⟨W.heap.size, 0, none⟩) ∧ W'.heap.size = W.heap.size + 1) (hs : W.heap.size ≤ W'.heap.size) :
    Two ops i0 j0 (listed.setIfInBounds k true) (a.put (dstOf ops k) v) W' := by
  have hdst : ∀ i, i = i0 ∨ i = j0 → ∃ t, dstOf ops i = some t := by
    intro i hi
    have hin : i < n := by rcases hi with rfl | rfl; exact hT.i; exact hT.j
    have hil : i < ops.size := by have := hf.le; omega
    have hm : MakesNew P ops[i] := by
      rcases hi with rfl | rfl
      · exact hT.one _ (Array.getElem?_eq_getElem hil)
      · exact hT.two _ (Array.getElem?_eq_getElem hil)
    have := hm.dst
    unfold dstOf
    rw [Array.getElem?_eq_getElem hil]
    simp only [Option.bind_some]
    exact Option.isSome_iff_exists.1 this
  have hsame : ∀ i, i = i0 ∨ i = j0 → k = i → val ops i (a.put (dstOf ops k) v) = v := by
    intro i hi e
    subst e
    obtain ⟨t, ht⟩ := hdst k hi
    exact val_put_same ht (by rw [hN]; exact (hf.dst hk ht).1) v
  have hother : ∀ i, i < n → k ≠ i → val ops i (a.put (dstOf ops k) v) = val ops i a := fun i hi hne => val_put_other (fun t ht => hf.dst_ne hk hi hne ht) v
  have hl : ∀ i, k ≠ i → (listed.setIfInBounds k true).getD i false = listed.getD i false := fun i hne => getD_set_ne false hne
  have hone : (listed.setIfInBounds k true).getD i0 false = true → ∃ g, val ops i0 (a.put (dstOf ops k) v) = .pointer (some ⟨g, 0, none⟩) ∧ g < W'.heap.size := fun hx => by
    by_cases e : k = i0
    · obtain ⟨hv, hW⟩ := hF (.inl e)
      exact ⟨W.heap.size, (hsame i0 (.inl rfl) e).trans hv, by omega⟩
    · rw [hl _ e] at hx
      obtain ⟨g, hg, hlt⟩ := h.one hx
      exact ⟨g, (hother i0 hT.i e).trans hg, by omega⟩
  have htwo : (listed.setIfInBounds k true).getD j0 false = true → ∃ g, val ops j0 (a.put (dstOf ops k) v) = .pointer (some ⟨g, 0, none⟩) ∧ g < W'.heap.size := fun hx => by
    by_cases e : k = j0
    · obtain ⟨hv, hW⟩ := hF (.inr e)
      exact ⟨W.heap.size, (hsame j0 (.inr rfl) e).trans hv, by omega⟩
    · rw [hl _ e] at hx
      obtain ⟨g, hg, hlt⟩ := h.two hx
      exact ⟨g, (hother j0 hT.j e).trans hg, by omega⟩
  refine ⟨hone, htwo, fun hx hy => ?_⟩
  by_cases e : k = i0
  · have e' : k ≠ j0 := by rw [e]; exact hT.ij
    rw [hl _ e'] at hy
    obtain ⟨g, hg, hlt⟩ := h.two hy
    rw [hsame i0 (.inl rfl) e, hother j0 hT.j e', (hF (.inl e)).1, hg]
    intro he
    simp at he
    omega
  · rw [hl _ e] at hx
    by_cases e' : k = j0
    · obtain ⟨g, hg, hlt⟩ := h.one hx
      rw [hsame j0 (.inr rfl) e', hother i0 hT.i e, (hF (.inr e')).1, hg]
      intro he
      simp at he
      omega
    · rw [hl _ e'] at hy
      rw [hother i0 hT.i e, hother j0 hT.j e']
      exact h.ne hx hy

/-- A region whose head comes in whatever order. -/
theorem any_of_headD {Q : Exit → Act → World → Prop} (hR : Keeps R) (hT : TwoNew P ops n i0 j0) (hRs : ∀ W W', R W W' → W.heap.size ≤ W'.heap.size) (hf : Form ops n N) {us : List Know} {a : Act} (hN : a.tmps.size = N) (hus : us.length = n) (hul : usesOk ops 0 (us.map (·.uses)) = true)
    (howes : ∀ vs, Fits 0 vs us → ∀ (j : Nat) (u : Know) (o : Oper), us[j]? = some u → (ops.toList.take n)[j]? = some o → Owes P ops R w0 u o vs (actAt 0 vs ((ops.toList.take n).take j) a) (factsAt 0 vs (us.take j) []))
    (hfin : ∀ vs, Fits 0 vs us → ∀ W, R w0 W → facts (factsAt 0 vs us []) W → val ops i0 (actAt 0 vs (ops.toList.take n) a) ≠ val ops j0 (actAt 0 vs (ops.toList.take n) a) → wpList P ops Q (ops.toList.drop n) (actAt 0 vs (ops.toList.take n) a) W) :
    ∀ (c : Nat) (listed : Array Bool) (a' : Act) (W : World), left n listed ≤ c → Inv ops R w0 n us a listed a' W → Two ops i0 j0 listed a' W → wpAny P .any ops Q (c + (ops.size - n)) listed a' W := by
  have hmono : ∀ vs, Fits 0 vs us → ∀ (j : Nat) (u : Know), us[j]? = some u → u.Mono R := fun vs hv j u hu => by
    have hj : j < n := by rw [← hus]; exact (List.getElem?_eq_some_iff.1 hu).1
    have hjl : j < ops.size := by have := hf.le; omega
    exact (howes vs hv j u ops[j] hu (by rw [List.getElem?_take_of_lt hj]; simp [hjl])).1
  intro c
  induction c with
  | zero =>
    intro listed a' W hc inv two
    have h0 : left n listed = 0 := by omega
    have hl := listed_full hf inv.head h0
    have ha := actAt_head hf inv hN hus h0
    have hfits := fits_vals_aux ops us a' us 0 (fun j => by rw [Nat.zero_add])
    have hfa : facts (factsAt 0 (valsOf ops us a') us []) W := facts_factsAt _ W us 0 [] (fun j u hj => by
      rw [Nat.zero_add]
      have hj' : j < n := by rw [← hus]; exact (List.getElem?_eq_some_iff.1 hj).1
      exact holds_valsOf hj (inv.vals j u hj' hj (left_zero h0 j hj'))) trivial
    have h := hfin _ hfits W inv.ext hfa
    rw [← ha] at h
    replace h := h (two.ne (left_zero h0 i0 hT.i) (left_zero h0 j0 hT.j))
    have hs := hf.seq
    rw [← hl] at hs
    have hlen : (ops.toList.drop n).length = ops.size - n := by simp
    have := wpAny_of_seq (P := P) (md := .any) (Q' := Q) (ops.toList.drop n) n listed a' W (fun j => by simp) (by rw [hlen]; exact hs) h
    rw [hlen] at this
    rwa [Nat.zero_add]
  | succ c ih =>
    intro listed a' W hc inv two
    by_cases h0 : left n listed ≤ c
    · rw [show c + 1 + (ops.size - n) = c + (ops.size - n) + 1 by omega]
      exact wpAny_more _ _ _ _ (ih listed a' W h0 inv two)
    · rw [show c + 1 + (ops.size - n) = c + (ops.size - n) + 1 by omega]
      refine ⟨fun hr => ?_, fun i hi => ?_⟩
      · obtain ⟨k, _, hk⟩ := ready_of_left hf.le inv.head.size hf.back (show left n listed ≠ 0 by omega)
        rw [hr] at hk
        cases hk
      · have hlt : i < n := by
          rcases Nat.lt_or_ge i n with h | h
          · exact h
          · exfalso
            obtain ⟨_, o, ho, _⟩ := mem_ready.1 hi
            have hil : i < ops.size := (Array.getElem?_eq_some_iff.1 ho).1
            rcases hf.tail with ht | ⟨h1, h2, h3⟩
            · omega
            · obtain ⟨k, hk, hkr⟩ := ready_of_left hf.le inv.head.size hf.back (show left n listed ≠ 0 by omega)
              exact tail_waits h2 h3 h1 inv.head _ k rfl hk (mem_ready.1 hkr).1 i h hi
        obtain ⟨hun, o, ho, hall⟩ := mem_ready.1 hi
        have hu : us[i]? = some us[i] := List.getElem?_eq_getElem (by omega)
        have hfits := fits_vals_aux ops us a' us 0 (fun j => by rw [Nat.zero_add])
        have hot : (ops.toList.take n)[i]? = some o := by rw [List.getElem?_take_of_lt hlt]; simpa using ho
        have how := howes _ hfits i _ o hu hot
        rw [List.take_take, Nat.min_eq_left (Nat.le_of_lt hlt)] at how
        have hslot : ∀ t ∈ o.looksAt ops, a'.tmps[t]? = (actAt 0 (valsOf ops us a') (ops.toList.take i) a).tmps[t]? := fun t ht => inv.slot hf hN hus hlt hi ho ht
        have hw := wanted_congr hslot
        have hleft : left n (listed.setIfInBounds i true) ≤ c := by
          have := left_set hlt (show i < listed.size by have := inv.head.size; have := hf.le; omega) (getD_both hun)
          omega
        have hdst : dstOf ops i = o.dst := by simp [dstOf, ho]
        rcases how.2 with ⟨hwt, hg⟩ | ⟨hwf, hwhat⟩
        · have hk : known (factsAt 0 (valsOf ops us a') (us.take i) []) us[i].uses W := known_take inv hlt (fun j hj hji => by
            have := usesOk_spec _ 0 hul i us[i].uses (by simp [hu]) j hj
            rw [Nat.zero_add] at this
            exact mask_listed hf.masks inv.head i hlt o ho hall j hji this.2)
          have h1 := (hg W inv.ext hk).congr (a' := a') (fun cs b => Region.noSelect_spec hf.sel i o cs b ho) (fun x hx => (eval_congr hslot x hx).symm)
          unfold wpOp
          simp only [ho]
          rw [hw, hwt, if_pos rfl]
          refine .inl (Gives.wp ((hT.fresh ho h1).mono fun v W' ⟨⟨hv, hb⟩, hF⟩ => ?_))
          have := ih _ _ W' hleft (inv.step hR hf hN hlt hi ho hu (hmono _ hfits) hul hv hb) (two.step hT hf (by rw [inv.size, hN]) hlt hF (hRs _ _ hb))
          rw [hdst] at this
          exact this
        · unfold wpOp
          simp only [ho]
          rw [hw, hwf, if_neg (by simp)]
          have := ih _ _ W hleft (inv.step hR hf hN hlt hi ho hu (hmono _ hfits) hul (v := undef) (by simp [Know.holds, hwhat, shown_undef]) (hR.refl _)) (two.step hT hf (by rw [inv.size, hN]) hlt (fun hk => by rw [hT.wanted ho hk] at hwf; cases hwf) (Nat.le_refl _))
          rw [hdst] at this
          exact this

/-- ████ A REGION THAT DRAWS ITS ORDER, with two operations i0 and j0 that make new blocks: the two are not the same. n: how many operations its head has. us: what is known of the value of each. -/
theorem wp_region_headD {id : Nat} {l : List Oper} {Q : Exit → Act → World → Prop} {a : Act} {w : World} (n N : Nat) (us : List Know) (ul : List (List Nat)) (i0 j0 : Nat) (hT : TwoNew P l.toArray n i0 j0) (hR : Keeps R) (hRs : ∀ W W', R W W' → W.heap.size ≤ W'.heap.size)
    (hm : P.follows .mixedOrders = true) (hN : a.tmps.size = N) (hul : us.map (·.uses) = ul) (hlen : us.length = n)
    (hB : (formOk l.toArray n N && usesOk l.toArray 0 ul) = true)
    (h : Head P l.toArray R w (fun a' fs => ∀ W, R w W → facts fs W → val l.toArray i0 a' ≠ val l.toArray j0 a' → wpList P l.toArray Q (l.drop n) a' W) 0 (fun _ => undef) us (l.take n) a []) : (Code.region id l.toArray true).wp P Q a w := by
  simp only [Bool.and_eq_true] at hB
  have hf := formOk_spec hB.1
  subst hul
  refine wp_region_any hm ?_
  have hlt : us.length = (l.take n).length := by have := hf.le; simp at this; simp [hlen]; omega
  have hsz : n + (l.toArray.size - n) = l.toArray.size := by have := hf.le; omega
  have huses : ∀ (j : Nat) (u : Know), us[j]? = some u → ∀ i ∈ u.uses, i < 0 + j := fun j u hu i hi => (usesOk_spec _ 0 hB.2 j u.uses (by simp [hu]) i hi).1
  have hl0 : left n (Array.replicate l.toArray.size false) ≤ n := by
    have : ∀ (m : Nat) (x : Array Bool), left m x ≤ m := by
      intro m x
      induction m with
      | zero => exact Nat.le_refl _
      | succ m ih => simp only [left]; split <;> omega
    exact this _ _
  have inv0 : Inv l.toArray R w n us a (Array.replicate l.toArray.size false) a w.drew :=
    ⟨⟨by simp, fun j oj _ hl => (by rw [getD_replicate_false] at hl; cases hl), fun t _ ht => getD_in (by simpa using ht) (getD_replicate_false _ _)⟩,
      hR.drew _, rfl, rfl, fun _ _ => rfl, fun i u _ _ hl => by rw [getD_replicate_false] at hl; cases hl⟩
  have := any_of_headD (P := P) (w0 := w) (Q := Q) hR hT hRs hf hN hlen hB.2 (fun vs hv j u o hj ho => (Head.owes (l.take n) us 0 _ a [] vs hlt huses (fun i hi => by omega) h hv).1 j u o hj (by simpa using ho))
    (fun vs hv W hW hfa hne => by have := (Head.owes (l.take n) us 0 _ a [] vs hlt huses (fun i hi => by omega) h hv).2 W hW hfa (by simpa using hne); simpa using this) n _ a w.drew hl0 inv0 ⟨fun h => absurd (h.symm.trans (getD_replicate_false _ _)) (by decide), fun h => absurd (h.symm.trans (getD_replicate_false _ _)) (by decide), fun h => absurd (h.symm.trans (getD_replicate_false _ _)) (by decide)⟩
  rw [hsz] at this
  exact this
end
end Go.Rel
