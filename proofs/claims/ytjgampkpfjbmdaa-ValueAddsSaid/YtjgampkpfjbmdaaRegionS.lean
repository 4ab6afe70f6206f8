/- Regions that draw their order: what each operation makes lies in a span of blocks of its own. -/
import Derived.Test.YtjgampkpfjbmdaaRegion
namespace Go.Rel
open Go.RowKit
section
variable {P : Program} {ops : Array Oper} {w0 : World} {R : World → World → Prop} {n N : Nat} {S : Nat → Nat → Nat → Value → World → Prop}
/-- The head's operations, looked at one after the other; S: what is known of each value and of the numbers of blocks before and behind the operation. -/
def HeadS (P : Program) (ops : Array Oper) (R : World → World → Prop) (w0 : World) (S : Nat → Nat → Nat → Value → World → Prop) (Fin : Act → List (Nat × (World → Prop)) → Prop) : Nat → (Nat → Value) → List Know → List Oper → Act → List (Nat × (World → Prop)) → Prop
  | _, _, _, [], a, fs => Fin a fs
  | _, _, [], _ :: _, _, _ => False
  | k, e, u :: us, o :: rest, a, fs =>
    Region.wanted o (yielded ops a.tmps) = true ∧ (∀ W, R w0 W → known fs u.uses W → Gives P o a W (fun v W' => u.holds e (shown o v) W' ∧ R W W' ∧ S k W.heap.size W'.heap.size (shown o v) W')) ∧
      match u.what with
      | .inl c => HeadS P ops R w0 S Fin (k + 1) (upd e k c) us rest (a.put o.dst c) fs
      | .inr g => u.Mono R ∧ ∀ v, HeadS P ops R w0 S Fin (k + 1) (upd e k v) us rest (a.put o.dst v) ((k, g (pick u.uses e) v) :: fs)
/-- What one operation owes. -/
def OwesS (P : Program) (ops : Array Oper) (R : World → World → Prop) (w0 : World) (S : Nat → Nat → Nat → Value → World → Prop) (k : Nat) (u : Know) (o : Oper) (vs : Nat → Value) (a : Act) (fs : List (Nat × (World → Prop))) : Prop :=
  u.Mono R ∧ Region.wanted o (yielded ops a.tmps) = true ∧ ∀ W, R w0 W → known fs u.uses W → Gives P o a W (fun v W' => u.holds vs (shown o v) W' ∧ R W W' ∧ S k W.heap.size W'.heap.size (shown o v) W')
theorem HeadS.owes {Fin : Act → List (Nat × (World → Prop)) → Prop} : ∀ (rest : List Oper) (us : List Know) (k : Nat) (e : Nat → Value) (a : Act) (fs : List (Nat × (World → Prop))) (vs : Nat → Value),
    us.length = rest.length → (∀ j u, us[j]? = some u → ∀ i ∈ u.uses, i < k + j) → (∀ i, i < k → e i = vs i) → HeadS P ops R w0 S Fin k e us rest a fs → Fits k vs us →
    (∀ j u o, us[j]? = some u → rest[j]? = some o → OwesS P ops R w0 S (k + j) u o vs (actAt k vs (rest.take j) a) (factsAt k vs (us.take j) fs)) ∧
    Fin (actAt k vs rest a) (factsAt k vs us fs)
  | [], [], k, e, a, fs, vs, _, _, _, h, _ => ⟨fun j u o hu _ => (by simp at hu), h⟩
  | [], _ :: _, _, _, _, _, _, hl, _, _, _, _ => by simp at hl
  | _ :: _, [], _, _, _, _, _, hl, _, _, _, _ => by simp at hl
  | o :: rest, u :: us, k, e, a, fs, vs, hl, hus, he, h, hf => by
    obtain ⟨hf0, hf1⟩ := hf
    have hl' : us.length = rest.length := by simpa using hl
    have hpe : ∀ i ∈ u.uses, e i = vs i := fun i hi => he i (by have := hus 0 u rfl i hi; omega)
    have hpk : pick u.uses e = pick u.uses vs := pick_congr hpe
    have hus' : ∀ j u', us[j]? = some u' → ∀ i ∈ u'.uses, i < k + 1 + j := fun j u' hj i hi => by have := hus (j + 1) u' (by simpa using hj) i hi; omega
    have hupd : ∀ v, v = vs k → ∀ i, i < k + 1 → upd e k v i = vs i := fun v hv i hi => by
      unfold upd
      split
      · rename_i h; rw [hv, h]
      · exact he i (by omega)
    have key : OwesS P ops R w0 S k u o vs a fs ∧ ∃ e', (∀ i, i < k + 1 → e' i = vs i) ∧ HeadS P ops R w0 S Fin (k + 1) e' us rest (a.put o.dst (vs k)) (match u.what with | .inl _ => fs | .inr g => (k, g (pick u.uses vs) (vs k)) :: fs) := by
      obtain ⟨hw, hg, hn⟩ := h
      have hg' : ∀ W, R w0 W → known fs u.uses W → Gives P o a W (fun v W' => u.holds vs (shown o v) W' ∧ R W W' ∧ S k W.heap.size W'.heap.size (shown o v) W') := fun W hW hk => (hg W hW hk).mono fun v W' ⟨h1, h2⟩ => ⟨Know.holds_congr hpe h1, h2⟩
      cases hwhat : u.what with
      | inl c =>
        rw [hwhat] at hn
        refine ⟨⟨by simp [Know.Mono, hwhat], hw, hg'⟩, _, hupd c (hf0 c hwhat).symm, ?_⟩
        rw [hf0 c hwhat]
        exact hn
      | inr g =>
        rw [hwhat] at hn
        refine ⟨⟨hn.1, hw, hg'⟩, _, hupd (vs k) rfl, ?_⟩
        rw [← hpk]
        exact hn.2 (vs k)
    obtain ⟨hk0, e', he', hk1⟩ := key
    obtain ⟨r1, r2⟩ := HeadS.owes rest us (k + 1) e' _ _ vs hl' hus' he' hk1 hf1
    refine ⟨fun j u' o' hu ho => ?_, r2⟩
    cases j with
    | zero =>
      simp at hu ho
      subst hu; subst ho
      exact hk0
    | succ j =>
      simp at hu ho
      have := r1 j u' o' hu ho
      rw [show k + 1 + j = k + (j + 1) by omega] at this
      exact this

/-- Each value that has come has a span of its own. -/
def Spans (ops : Array Oper) (n : Nat) (S : Nat → Nat → Nat → Value → World → Prop) (listed : Array Bool) (a : Act) (W : World) : Prop :=
  ∃ iv : Nat → Nat × Nat, (∀ i, i < n → listed.getD i false = true → (iv i).1 ≤ (iv i).2 ∧ (iv i).2 ≤ W.heap.size ∧ S i (iv i).1 (iv i).2 (val ops i a) W) ∧
    ∀ i j, i < n → j < n → i ≠ j → listed.getD i false = true → listed.getD j false = true → (iv i).2 ≤ (iv j).1 ∨ (iv j).2 ≤ (iv i).1
theorem Spans.step {listed : Array Bool} {a : Act} {W W' : World} {k : Nat} {v : Value} (h : Spans ops n S listed a W) (hSm : ∀ i lo hi v W W', S i lo hi v W → R W W' → S i lo hi v W') (hf : Form ops n N)
    (hk : k < n) (hR : R W W') (hs : W.heap.size ≤ W'.heap.size) (hS : S k W.heap.size W'.heap.size (val ops k (a.put (dstOf ops k) v)) W') : Spans ops n S (listed.setIfInBounds k true) (a.put (dstOf ops k) v) W' := by
  obtain ⟨iv, h1, h2⟩ := h
  have hother : ∀ i, i < n → k ≠ i → val ops i (a.put (dstOf ops k) v) = val ops i a := fun i hi hne => val_put_other (fun t ht => hf.dst_ne hk hi hne ht) v
  have hl : ∀ i, k ≠ i → (listed.setIfInBounds k true).getD i false = listed.getD i false := fun i hne => getD_set_ne false hne
  obtain ⟨f, fk, fo⟩ : ∃ f : Nat → Nat × Nat, f k = (W.heap.size, W'.heap.size) ∧ ∀ i, k ≠ i → f i = iv i := ⟨fun i => if i = k then (W.heap.size, W'.heap.size) else iv i, if_pos rfl, fun i hi => if_neg (Ne.symm hi)⟩
  refine ⟨f, fun i hi hx => ?_, fun i j hi hj hij hx hy => ?_⟩
  · by_cases e : k = i
    · subst e
      rw [fk]
      exact ⟨hs, Nat.le_refl _, hS⟩
    · rw [hl i e] at hx
      obtain ⟨q1, q2, q3⟩ := h1 i hi hx
      rw [fo i e, hother i hi e]
      exact ⟨q1, Nat.le_trans q2 hs, hSm _ _ _ _ _ _ q3 hR⟩
  · by_cases e : k = i
    · subst e
      have e' : k ≠ j := hij
      rw [hl j e'] at hy
      rw [fk, fo j e']
      exact .inr (h1 j hj hy).2.1
    · rw [hl i e] at hx
      by_cases e' : k = j
      · subst e'
        rw [fo i e, fk]
        exact .inl (h1 i hi hx).2.1
      · rw [hl j e'] at hy
        rw [fo i e, fo j e']
        exact h2 i j hi hj hij hx hy
theorem val_shown {k : Nat} {o : Oper} (ho : ops[k]? = some o) (hf : Form ops n N) (hk : k < n) {a : Act} (hN : a.tmps.size = N) (v : Value) : val ops k (a.put (dstOf ops k) v) = shown o v := by
  have hd : dstOf ops k = o.dst := by simp [dstOf, ho]
  cases h : o.dst with
  | none => unfold val shown; rw [hd, h]
  | some t =>
    have ht : dstOf ops k = some t := hd.trans h
    rw [val_put_same ht (by rw [hN]; exact (hf.dst hk ht).1) v]
    unfold shown
    rw [h]

/-- A region whose head comes in whatever order. -/
theorem any_of_headS {Q : Exit → Act → World → Prop} (hR : Keeps R) (hSm : ∀ i lo hi v W W', S i lo hi v W → R W W' → S i lo hi v W') (hRs : ∀ W W', R W W' → W.heap.size ≤ W'.heap.size) (hf : Form ops n N) {us : List Know} {a : Act} (hN : a.tmps.size = N) (hus : us.length = n) (hul : usesOk ops 0 (us.map (·.uses)) = true)
    (howes : ∀ vs, Fits 0 vs us → ∀ (j : Nat) (u : Know) (o : Oper), us[j]? = some u → (ops.toList.take n)[j]? = some o → OwesS P ops R w0 S j u o vs (actAt 0 vs ((ops.toList.take n).take j) a) (factsAt 0 vs (us.take j) []))
    (hfin : ∀ vs, Fits 0 vs us → ∀ W, R w0 W → facts (factsAt 0 vs us []) W → Spans ops n S (full n ops.size) (actAt 0 vs (ops.toList.take n) a) W → wpList P ops Q (ops.toList.drop n) (actAt 0 vs (ops.toList.take n) a) W) :
    ∀ (c : Nat) (listed : Array Bool) (a' : Act) (W : World), left n listed ≤ c → Inv ops R w0 n us a listed a' W → Spans ops n S listed a' W → wpAny P .any ops Q (c + (ops.size - n)) listed a' W := by
  have hmono : ∀ vs, Fits 0 vs us → ∀ (j : Nat) (u : Know), us[j]? = some u → u.Mono R := fun vs hv j u hu => by
    have hj : j < n := by rw [← hus]; exact (List.getElem?_eq_some_iff.1 hu).1
    have hjl : j < ops.size := by have := hf.le; omega
    exact (howes vs hv j u ops[j] hu (by rw [List.getElem?_take_of_lt hj]; simp [hjl])).1
  intro c
  induction c with
  | zero =>
    intro listed a' W hc inv two
    have h0 : left n listed = 0 := by omega
    have hl := listed_full hf inv.head h0
    have ha := actAt_head hf inv hN hus h0
    have hfits := fits_vals_aux ops us a' us 0 (fun j => by rw [Nat.zero_add])
    have hfa : facts (factsAt 0 (valsOf ops us a') us []) W := facts_factsAt _ W us 0 [] (fun j u hj => by
      rw [Nat.zero_add]
      have hj' : j < n := by rw [← hus]; exact (List.getElem?_eq_some_iff.1 hj).1
      exact holds_valsOf hj (inv.vals j u hj' hj (left_zero h0 j hj'))) trivial
    have h := hfin _ hfits W inv.ext hfa
    rw [← ha] at h
    replace h := h (hl ▸ two)
    have hs := hf.seq
    rw [← hl] at hs
    have hlen : (ops.toList.drop n).length = ops.size - n := by simp
    have := wpAny_of_seq (P := P) (md := .any) (Q' := Q) (ops.toList.drop n) n listed a' W (fun j => by simp) (by rw [hlen]; exact hs) h
    rw [hlen] at this
    rwa [Nat.zero_add]
  | succ c ih =>
    intro listed a' W hc inv two
    by_cases h0 : left n listed ≤ c
    · rw [show c + 1 + (ops.size - n) = c + (ops.size - n) + 1 by omega]
      exact wpAny_more _ _ _ _ (ih listed a' W h0 inv two)
    · rw [show c + 1 + (ops.size - n) = c + (ops.size - n) + 1 by omega]
      refine ⟨fun hr => ?_, fun i hi => ?_⟩
      · obtain ⟨k, _, hk⟩ := ready_of_left hf.le inv.head.size hf.back (show left n listed ≠ 0 by omega)
        rw [hr] at hk
        cases hk
      · have hlt : i < n := by
          rcases Nat.lt_or_ge i n with h | h
          · exact h
          · exfalso
            obtain ⟨_, o, ho, _⟩ := mem_ready.1 hi
            have hil : i < ops.size := (Array.getElem?_eq_some_iff.1 ho).1
            rcases hf.tail with ht | ⟨h1, h2, h3⟩
            · omega
            · obtain ⟨k, hk, hkr⟩ := ready_of_left hf.le inv.head.size hf.back (show left n listed ≠ 0 by omega)
              exact tail_waits h2 h3 h1 inv.head _ k rfl hk (mem_ready.1 hkr).1 i h hi
        obtain ⟨hun, o, ho, hall⟩ := mem_ready.1 hi
        have hu : us[i]? = some us[i] := List.getElem?_eq_getElem (by omega)
        have hfits := fits_vals_aux ops us a' us 0 (fun j => by rw [Nat.zero_add])
        have hot : (ops.toList.take n)[i]? = some o := by rw [List.getElem?_take_of_lt hlt]; simpa using ho
        have how := howes _ hfits i _ o hu hot
        rw [List.take_take, Nat.min_eq_left (Nat.le_of_lt hlt)] at how
        have hslot : ∀ t ∈ o.looksAt ops, a'.tmps[t]? = (actAt 0 (valsOf ops us a') (ops.toList.take i) a).tmps[t]? := fun t ht => inv.slot hf hN hus hlt hi ho ht
        have hw := wanted_congr hslot
        have hleft : left n (listed.setIfInBounds i true) ≤ c := by
          have := left_set hlt (show i < listed.size by have := inv.head.size; have := hf.le; omega) (getD_both hun)
          omega
        have hdst : dstOf ops i = o.dst := by simp [dstOf, ho]
        obtain ⟨hwt, hg⟩ := how.2
        have hk : known (factsAt 0 (valsOf ops us a') (us.take i) []) us[i].uses W := known_take inv hlt (fun j hj hji => by
          have := usesOk_spec _ 0 hul i us[i].uses (by simp [hu]) j hj
          rw [Nat.zero_add] at this
          exact mask_listed hf.masks inv.head i hlt o ho hall j hji this.2)
        have h1 := (hg W inv.ext hk).congr (a' := a') (fun cs b => Region.noSelect_spec hf.sel i o cs b ho) (fun x hx => (eval_congr hslot x hx).symm)
        unfold wpOp
        simp only [ho]
        rw [hw, hwt, if_pos rfl]
        refine .inl (Gives.wp (h1.mono fun v W' ⟨hv, hb, hS⟩ => ?_))
        have := ih _ _ W' hleft (inv.step hR hf hN hlt hi ho hu (hmono _ hfits) hul hv hb) (two.step hSm hf hlt hb (hRs _ _ hb) (by rw [val_shown ho hf hlt (by rw [inv.size, hN])]; exact hS))
        rw [hdst] at this
        exact this

/-- ████ A REGION THAT DRAWS ITS ORDER, and of each operation's value S is known with the numbers of blocks before and behind it: no two of these spans overlap. n: how many operations its head has. us: what is known of the value of each. -/
theorem wp_region_headS {id : Nat} {l : List Oper} {Q : Exit → Act → World → Prop} {a : Act} {w : World} (n N : Nat) (us : List Know) (ul : List (List Nat)) (S : Nat → Nat → Nat → Value → World → Prop) (hR : Keeps R) (hSm : ∀ i lo hi v W W', S i lo hi v W → R W W' → S i lo hi v W') (hRs : ∀ W W', R W W' → W.heap.size ≤ W'.heap.size)
    (hm : P.follows .mixedOrders = true) (hN : a.tmps.size = N) (hul : us.map (·.uses) = ul) (hlen : us.length = n)
    (hB : (formOk l.toArray n N && usesOk l.toArray 0 ul) = true)
    (h : HeadS P l.toArray R w S (fun a' fs => ∀ W, R w W → facts fs W → Spans l.toArray n S (full n l.toArray.size) a' W → wpList P l.toArray Q (l.drop n) a' W) 0 (fun _ => undef) us (l.take n) a []) : (Code.region id l.toArray true).wp P Q a w := by
  simp only [Bool.and_eq_true] at hB
  have hf := formOk_spec hB.1
  subst hul
  refine wp_region_any hm ?_
  have hlt : us.length = (l.take n).length := by have := hf.le; simp at this; simp [hlen]; omega
  have hsz : n + (l.toArray.size - n) = l.toArray.size := by have := hf.le; omega
  have huses : ∀ (j : Nat) (u : Know), us[j]? = some u → ∀ i ∈ u.uses, i < 0 + j := fun j u hu i hi => (usesOk_spec _ 0 hB.2 j u.uses (by simp [hu]) i hi).1
  have hl0 : left n (Array.replicate l.toArray.size false) ≤ n := by
    have : ∀ (m : Nat) (x : Array Bool), left m x ≤ m := by
      intro m x
      induction m with
      | zero => exact Nat.le_refl _
      | succ m ih => simp only [left]; split <;> omega
    exact this _ _
  have inv0 : Inv l.toArray R w n us a (Array.replicate l.toArray.size false) a w.drew :=
    ⟨⟨by simp, fun j oj _ hl => (by rw [getD_replicate_false] at hl; cases hl), fun t _ ht => getD_in (by simpa using ht) (getD_replicate_false _ _)⟩,
      hR.drew _, rfl, rfl, fun _ _ => rfl, fun i u _ _ hl => by rw [getD_replicate_false] at hl; cases hl⟩
  have := any_of_headS (P := P) (w0 := w) (Q := Q) hR hSm hRs hf hN hlen hB.2 (fun vs hv j u o hj ho => by have := (HeadS.owes (l.take n) us 0 _ a [] vs hlt huses (fun i hi => by omega) h hv).1 j u o hj (by simpa using ho); rw [Nat.zero_add] at this; exact this)
    (fun vs hv W hW hfa hne => by have := (HeadS.owes (l.take n) us 0 _ a [] vs hlt huses (fun i hi => by omega) h hv).2 W hW hfa (by simpa using hne); simpa using this) n _ a w.drew hl0 inv0 ⟨fun _ => (0, 0), fun i _ h => absurd (h.symm.trans (getD_replicate_false _ _)) (by decide), fun i j _ _ _ h => absurd (h.symm.trans (getD_replicate_false _ _)) (by decide)⟩
  rw [hsz] at this
  exact this
end
section
variable {P : Program} {ops : Array Oper} {w0 : World} {Fin : Act → List (Nat × (World → Prop)) → Prop} {k : Nat} {e : Nat → Value} {us : List Know} {o : Oper} {rest : List Oper} {a : Act} {fs : List (Nat × (World → Prop))} {S : Nat → Nat → Nat → Value → World → Prop}
/-- An operation that only reads. -/
theorem headS_still {c : Value} (hw : (Region.wanted o (yielded ops a.tmps) && o.dst.isSome) = true) (h : ∀ W, Below w0.heap.size w0 W → (execOp a.eval o).run P W = .ok (.value c) W) (hS : ∀ W : World, S k W.heap.size W.heap.size c W)
    (hn : HeadS P ops Kp w0 S Fin (k + 1) (upd e k c) us rest (a.put o.dst c) fs) : HeadS P ops Kp w0 S Fin k e (⟨[], .inl c⟩ :: us) (o :: rest) a fs :=
  ⟨and_l hw, fun W hW _ => by unfold Gives; rw [h W hW]; exact ⟨by rw [shown_some (and_r hw)]; rfl, Below.refl _ _, by rw [shown_some (and_r hw)]; exact hS W⟩, hn⟩
/-- An operation of whose value g is known from then on. -/
theorem headS_mem (uses : List Nat) (g : (Nat → Value) → Value → World → Prop) (hw : (Region.wanted o (yielded ops a.tmps) && o.dst.isSome) = true) (hm : ∀ e v W W', g e v W → Below W.heap.size W W' → g e v W')
    (h : ∀ W, Below w0.heap.size w0 W → known fs uses W → Gives P o a W (fun v W' => g (pick uses e) v W' ∧ Below W.heap.size W W' ∧ S k W.heap.size W'.heap.size v W'))
    (hn : ∀ v, HeadS P ops Kp w0 S Fin (k + 1) (upd e k v) us rest (a.put o.dst v) ((k, g (pick uses e) v) :: fs)) : HeadS P ops Kp w0 S Fin k e (⟨uses, .inr g⟩ :: us) (o :: rest) a fs :=
  ⟨and_l hw, fun W hW hk => (h W hW hk).mono fun v W' ⟨hg, hb, hs⟩ => ⟨by rw [shown_some (and_r hw)]; exact hg, hb, by rw [shown_some (and_r hw)]; exact hs⟩, hm, hn⟩
theorem headS_nil (h : Fin a fs) : HeadS P ops Kp w0 S Fin k e [] [] a fs := h
end
end Go.Rel
