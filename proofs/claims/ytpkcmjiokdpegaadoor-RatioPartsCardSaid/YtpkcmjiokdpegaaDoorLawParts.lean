/- The law 'RatioParts': whatever list and number come in, it returns true. Condition: the library's three tables are laid. -/
import Derived.Test.YtpkcmjiokdpegaaDoorRatCard
import Derived.Test.YtpkcmjiokdpegaaDoorRatFit
import Derived.Test.YtpkcmjiokdpegaaDoorRatLaws
import Derived.Test.YtpkcmjiokdpegaaDoorRatH
namespace Go.Rel
theorem Rats.take {w : World} {B : Nat} {A : Option Addr} {l : List Rat2} (h : Rats w B A l) (m : Nat) : Rats w B A (l.take m) := fun hl => by
  obtain ⟨b, off, e, hb, hc⟩ := h (by rw [List.length_take] at hl; omega)
  refine ⟨b, off, e, hb, fun i v hi => hc i v ?_⟩
  rw [List.getElem?_take] at hi
  split at hi
  · exact hi
  · cases hi
theorem Rats.drop {w : World} {B b off : Nat} {l : List Rat2} (h : Rats w B (some ⟨b, off, none⟩) l) (m : Nat) : Rats w B (some ⟨b, off + m * 2, none⟩) (l.drop m) := fun hl => by
  obtain ⟨b', off', e, hb, hc⟩ := h (by rw [List.length_drop] at hl; omega)
  obtain ⟨rfl, rfl⟩ : b = b' ∧ off = off' := by simpa using e
  refine ⟨b, off + m * 2, rfl, hb, fun i v hi => ?_⟩
  rw [List.getElem?_drop] at hi
  have := hc (m + i) v hi
  rw [Nat.add_mul] at this
  rw [show off + m * 2 + i * 2 = off + (m * 2 + i * 2) by omega]
  exact this
end Go.Rel
namespace Go.Proofs.YtpkcmjiokdpegaaDoor
open Go.RowKit Go.Rel

set_option maxHeartbeats 2000000 in
theorem parts_early (A : Option Addr) (n cap : Nat) (at' : Int) (w : World) (hl : n ≤ 9223372036854775807) (ht : Tab w) (hno : ¬ (n ≤ 200 ∧ 0 ≤ at' ∧ at' ≤ n)) :
    Calls Tryd.prog 5 #[.slice A n cap, .int .i64 at'] w (Ret w (.bool true)) := by
  have HT := Lib.hid ht
  clear ht
  have hc : ((200 : Int) < n) ∨ (¬ ((200 : Int) < n) ∧ at' < 0) ∨ (¬ ((200 : Int) < n) ∧ ¬ (at' < 0) ∧ (n : Int) < at') := by omega
  clear hno
  have HC := Lib.hid hc
  clear hc
  go_enter Tryd.func5, Tryd.ntmps5
  go_wp2_with fail
  refine (alive_any _ HT.out).mono ?_
  rintro e w1 ⟨rfl, hb⟩
  clear HT
  rcases HC.out with h1 | ⟨h1, h2⟩ | ⟨h1, h2, h3⟩
  all_goals
    clear HC
    go_wp2_with fail
    go_ret
    exact ret_bool rfl hb

theorem sumP_64 : ∀ (l : List Rat2) (s : Rat2), Rat64 s → Rat64 (sumP l s).1
  | [], s, hs => hs
  | x :: l, s, hs => by
    simp only [sumP]
    split
    · exact sumP_64 l _ (runV_64 _ _ _ _)
    · simp [Rat64]
theorem sumR_64 (l : List Rat2) : Rat64 (sumR l) := by
  unfold sumR
  split
  · simp [Rat64]
  · exact sumP_64 _ _ (by simp [Rat64])
theorem zero_or (E : Int) : E = 0 ∨ ((E == 0) = false ∧ (E != 0) = true) := by
  by_cases h : E = 0
  · exact .inl h
  · exact .inr ⟨by simpa using h, by simpa using h⟩

set_option maxRecDepth 100000 in
set_option maxHeartbeats 16000000 in
theorem parts_walk (A : Option Addr) (k J cap : Nat) (l : List Rat2) (w : World) (hn : l.length = k + J) (hl : k + J ≤ 200) (hcap : k + J ≤ cap) (hA : A = none → cap = 0) (hv : Rats w w.heap.size A l) (h64 : ∀ a ∈ l, Rat64 a) (ht : Tab w) :
    Calls Tryd.prog 5 #[.slice A ((k + J : Nat)) cap, .int .i64 k] w (Ret w (.bool true)) := by
  have hlk : (l.take k).length = k := by rw [List.length_take]; omega
  have hlj : (l.drop k).length = J := by rw [List.length_drop]; omega
  have t64 : ∀ a ∈ l.take k, Rat64 a := fun a ha => h64 a (List.mem_of_mem_take ha)
  have d64 : ∀ a ∈ l.drop k, Rat64 a := fun a ha => h64 a (List.mem_of_mem_drop ha)
  have r1 := fun W hv => sum_any A (k + J) cap l W hn (by omega) hv h64
  have r2 := fun A' cap' W hv => sum_any A' k cap' (l.take k) W hlk (by omega) hv t64
  have r3 := fun A' cap' W hv => sum_any A' J cap' (l.drop k) W hlj (by omega) hv d64
  have r4 := fun W => opAdd_any (sumR (l.take k)) (sumR (l.drop k)) W (sumR_64 _) (sumR_64 _)
  have hcase : ((sumE l == 0) = false ∧ (sumE l != 0) = true) ∨ (sumE l = 0 ∧ sumE (l.take k) = 0 ∧ (((sumE (l.drop k) == 0) = false ∧ (sumE (l.drop k) != 0) = true) ∨ (sumE (l.drop k) = 0 ∧ (((opAddE (sumR (l.take k)) (sumR (l.drop k)) == 0) = false ∧ (opAddE (sumR (l.take k)) (sumR (l.drop k)) != 0) = true) ∨ (opAddE (sumR (l.take k)) (sumR (l.drop k)) = 0 ∧ opAddR (sumR (l.take k)) (sumR (l.drop k)) = sumR l))))) := by
    rcases zero_or (sumE l) with h1 | h1
    case inr => exact .inl h1
    have h2 := sum_first k h1
    rcases zero_or (sumE (l.drop k)) with h3 | h3
    case inr => exact .inr ⟨h1, h2, .inl h3⟩
    rcases zero_or (opAddE (sumR (l.take k)) (sumR (l.drop k))) with h4 | h4
    case inr => exact .inr ⟨h1, h2, .inr ⟨h3, .inl h4⟩⟩
    exact .inr ⟨h1, h2, .inr ⟨h3, .inr ⟨h4, sum_parts k h1 h2 h3 h4⟩⟩⟩
  have hD : ∃ D : Option Addr, (∀ W, (Instr.sliceAt 30 (.slice A (k + J) cap) (some (.int .i64 k)) none none).run Tryd.prog W = .ok (.slice D J (cap - k)) W) ∧ ∀ W, Rats W W.heap.size A l → Rats W W.heap.size D (l.drop k) := by
    cases A with
    | none =>
      have hc := hA rfl
      refine ⟨none, fun W => ?_, fun W h => ?_⟩
      · obtain ⟨rfl, rfl, rfl⟩ : k = 0 ∧ J = 0 ∧ cap = 0 := by omega
        go_simp
      · have : l.drop k = [] := List.drop_eq_nil_of_le (by omega)
        rw [this]
        exact fun h => by simp at h
    | some a =>
      obtain ⟨b, off, q⟩ := a
      obtain ⟨D, hDe⟩ : ∃ D, (if cap = k then some (⟨b, off, q⟩ : Addr) else some ((⟨b, off, q⟩ : Addr).add (k * 2))) = D := ⟨_, rfl⟩
      refine ⟨D, fun W => ?_, fun W h => ?_⟩
      · go_simp
        exact fun hlt => absurd hlt (by omega)
      · by_cases hz : 0 < J
        · have hq : q = none := by
            obtain ⟨b', off', e, -, -⟩ := h (by omega)
            cases e
            rfl
          subst hq
          have hD2 : D = some ⟨b, off + k * 2, none⟩ := by rw [← hDe, if_neg (by omega)]; simp [Addr.add]
          rw [hD2]
          exact h.drop k
        · intro hne
          rw [List.length_drop] at hne
          omega
  obtain ⟨D, hDr, hDv⟩ := hD
  have hv2 := fun W (h : Rats W W.heap.size A l) => h.take k
  have HV := Lib.hid (show _ ∧ _ from ⟨hv2, hDv⟩)
  clear hDv hv2 t64 d64 h64 hlk hlj hA
  generalize opAddR (sumR (l.take k)) (sumR (l.drop k)) = C at *
  generalize opAddE (sumR (l.take k)) (sumR (l.drop k)) = E4 at *
  generalize sumR (l.take k) = AA at *
  generalize sumE (l.take k) = E2 at *
  generalize sumR (l.drop k) = BB at *
  generalize sumE (l.drop k) = E3 at *
  generalize sumR l = S at *
  generalize sumE l = E1 at *
  obtain ⟨c1, c2⟩ := C
  obtain ⟨a1, a2⟩ := AA
  obtain ⟨b1, b2⟩ := BB
  obtain ⟨s1, s2⟩ := S
  have R1 := Lib.hid r1
  have R2 := Lib.hid r2
  have R3 := Lib.hid r3
  have R4 := Lib.hid r4
  have HC := Lib.hid hcase
  have HT := Lib.hid ht
  have HR := Lib.hid hv
  have HN := Lib.hid hn
  clear r1 r2 r3 r4 hcase ht hv hn
  have x1 : ¬ ((200 : Int) < ((k + J : Nat) : Int)) := by omega
  have x2 : ¬ ((k : Int) < 0) := by omega
  have x3 : ¬ (((k + J : Nat) : Int) < (k : Int)) := by omega
  go_enter Tryd.func5, Tryd.ntmps5
  go_wp2_with fail
  refine (alive_any _ HT.out).mono ?_
  clear HT
  rintro e w1 ⟨rfl, hb⟩
  go_wp2_with fail
  refine (R1.out w1 ((HR.out.below hb).more hb.size)).mono ?_
  rintro e w2 ⟨rfl, hx⟩
  replace hb := hb.trans (hx.mono hb.size)
  clear hx R1
  have ks := Blk.new w2 23 #[.int .i64 s1, .int .i64 s2]
  have hx := below_alloc w2 (.cells #[.int .i64 s1, .int .i64 s2] 23)
  replace hb := hb.trans (hx.mono hb.size)
  clear hx
  go_wp2_with fail
  generalize World.alloc w2 _ = w3 at ks hb ⊢
  generalize w2.heap.size = gks at ks ⊢
  refine (R2.out _ _ w3 (HV.out.1 _ ((HR.out.below hb).more hb.size))).mono ?_
  rintro e w4 ⟨rfl, hx⟩
  replace ks := ks.keep hx
  replace hb := hb.trans (hx.mono hb.size)
  clear hx R2
  have ka := Blk.new w4 23 #[.int .i64 a1, .int .i64 a2]
  have hx := below_alloc w4 (.cells #[.int .i64 a1, .int .i64 a2] 23)
  replace ks := ks.keep hx
  replace hb := hb.trans (hx.mono hb.size)
  clear hx
  go_wp2_with fail
  generalize World.alloc w4 _ = w5 at ks ka hb ⊢
  generalize w4.heap.size = gka at ka ⊢
  refine (R3.out _ _ w5 (HV.out.2 _ ((HR.out.below hb).more hb.size))).mono ?_
  rintro e w6 ⟨rfl, hx⟩
  replace ks := ks.keep hx
  replace ka := ka.keep hx
  replace hb := hb.trans (hx.mono hb.size)
  clear hx R3
  have kb := Blk.new w6 23 #[.int .i64 b1, .int .i64 b2]
  have hx := below_alloc w6 (.cells #[.int .i64 b1, .int .i64 b2] 23)
  replace ks := ks.keep hx
  replace ka := ka.keep hx
  replace hb := hb.trans (hx.mono hb.size)
  clear hx
  have ka_0 := ka.cell (i := 0) rfl
  have ka_1 := ka.cell (i := 1) rfl
  have kb_0 := kb.cell (i := 0) rfl
  have kb_1 := kb.cell (i := 1) rfl
  go_wp2_with fail
  generalize World.alloc w6 _ = w7 at ks ka kb hb ⊢
  generalize w6.heap.size = gkb at kb ⊢
  clear ka_0 ka_1
  clear kb_0 kb_1
  refine (R4.out w7).mono ?_
  rintro e w8 ⟨rfl, hx⟩
  replace ks := ks.keep hx
  replace ka := ka.keep hx
  replace kb := kb.keep hx
  replace hb := hb.trans (hx.mono hb.size)
  clear hx R4
  have kc := Blk.new w8 23 #[.int .i64 c1, .int .i64 c2]
  have hx := below_alloc w8 (.cells #[.int .i64 c1, .int .i64 c2] 23)
  replace ks := ks.keep hx
  replace ka := ka.keep hx
  replace kb := kb.keep hx
  replace hb := hb.trans (hx.mono hb.size)
  clear hx
  have hm31 := Tryd.eqGuardRat
  have hvn := ratNeq
  have hve := ratEql
  have hself := ratB_self
  have HB := Lib.hid hb
  have ks_0 := ks.cell (i := 0) rfl
  have ks_1 := ks.cell (i := 1) rfl
  have kc_0 := kc.cell (i := 0) rfl
  have kc_1 := kc.cell (i := 1) rfl
  clear ks ka kb kc hb HR HV
  rcases HC.out with ⟨i1, i2⟩ | ⟨rfl, rfl, ⟨i1, i2⟩ | ⟨rfl, ⟨i1, i2⟩ | ⟨rfl, i1⟩⟩⟩
  all_goals
    (try cases i1)
    clear HC
    go_wp2_with fail
    go_ret
    exact ret_bool rfl HB.out

theorem parts_all (A : Option Addr) (n cap : Nat) (l : List Rat2) (at' : Int) (w : World) (hn : l.length = n) (hl : n ≤ 9223372036854775807) (hcap : n ≤ cap) (hA : A = none → cap = 0) (hv : Rats w w.heap.size A l) (h64 : ∀ a ∈ l, Rat64 a) (ht : Tab w) :
    Calls Tryd.prog 5 #[.slice A n cap, .int .i64 at'] w (Ret w (.bool true)) := by
  by_cases h : n ≤ 200 ∧ 0 ≤ at' ∧ at' ≤ n
  · obtain ⟨h1, h2, h3⟩ := h
    obtain ⟨k, rfl⟩ : ∃ k : Nat, at' = k := ⟨at'.toNat, by omega⟩
    obtain ⟨J, rfl⟩ : ∃ J, n = k + J := ⟨n - k, by omega⟩
    exact parts_walk A k J cap l w hn h1 hcap hA hv h64 ht
  · exact parts_early A n cap at' w hl ht h
open Go.ChangeShapes Go.WideShapes Go.ChangeAt Go.Joins
set_option maxRecDepth 100000 in
theorem parts_lifted (os : Os) (started : os.Started) (H : Type) (enc : TypeId × Value → H) :
    ReturnsInHanded {} Tryd.checked os 5 .any (fun w args => (Rows.ratioPartsSpec.pre enc Tryd.prog Tryd.f5 [] false w args ∧ laidMetH Tryd.prog Rows.ratioPartsRow.laid w) ∧ sizedMet enc Tryd.prog Tryd.f5 (OpenSpec.ofChange Rows.ratioPartsSpec) false w args)
      (Rows.ratioPartsSpec.post enc Tryd.prog Tryd.f5 false true false false) := by
  refine returnsInHanded_of_change_and (C := Tryd.checked) (X := fun w _ => laidMetH Tryd.prog Rows.ratioPartsRow.laid w) (fun _ _ _ hh h => h.of_heap hh) own started (by kernel_rfl) Tryd.func5
    (ChangeSpec.witness_at (enc := enc) (C := Tryd.checked) (os := os) (X := fun w _ => laidMetH Tryd.prog Rows.ratioPartsRow.laid w) false (laidWorld os) #[.slice none 0 0, .int .i64 0] 8 rfl (by kernel_rfl) (by kernel_rfl) (by kernel_rfl) (by kernel_rfl) (by kernel_rfl) (laid_met os _)) ?_
  intro W base args ds gs before hval0 hW _ _ hLd _
  have hval : ∀ (j : Nat) t v, Tryd.f5.params[j]? = some t → args[j]? = some v → Value.okWide Tryd.prog W .any base t v := hval0
  have hW' := hW
  obtain ⟨p, q, hA0, hV, rfl, hfz, hnd⟩ := hW
  have hA : DataW.TrodAll enc Tryd.prog W 0 (fun _ => true) true Tryd.f5.params.toList args.toList ds p := hA0
  rw [Tryd.params5] at hA hval
  obtain ⟨v0, vs0, d0, ds0, p0, q0, hargs, rfl, rfl, h0, r0⟩ := trodAll_cons hA
  obtain ⟨v1, vs1, d1, ds1, p1, q1, rfl, rfl, rfl, h1, r1⟩ := trodAll_cons r0
  obtain ⟨rfl, rfl, rfl⟩ := trodAll_nil r1
  obtain rfl : args = #[v0, v1] := by cases args; simp_all
  obtain ⟨rfl, rfl⟩ := trodVars_none hV
  obtain ⟨A0, n0, c0, rfl⟩ := okWide_slice Tryd.underlying30 (hval 0 30 v0 rfl rfl)
  obtain ⟨fuel, h0⟩ := h0
  obtain ⟨A, n, cap, l, hveq, hn, hl, hcap, hnil, hvs, h64⟩ := open_rats2 Tryd.underlying30 Tryd.underlying23 Tryd.underlying2 ⟨rfl, rfl⟩ ⟨rfl, rfl⟩ (by kernel_rfl) Tryd.cellsRat h0
  obtain ⟨k, rfl, -, -, -⟩ := open_int Tryd.underlying3 (hval 1 3 v1 rfl rfl) h1
  rw [hveq] at hW' ⊢
  refine (parts_all A n cap l k W hn hl hcap hnil hvs h64 (tab_of_laid hLd)).mono fun e W' ⟨he, hb⟩ => ?_
  exact ⟨_, he, law_post laidOut hW' rfl (by kernel_rfl) rfl Tryd.underlying4 rfl rfl rfl hb⟩

theorem parts_row : Rows.RatioPartsSaid :=
  OpenClaim.holds_of_wide 5 Tryd.f5 rfl rfl rfl rfl rfl rfl rfl ⟨rfl, rfl, rfl, rfl, rfl⟩ rfl rfl rfl rfl rfl (by kernel_rfl) Tryd.func5 (by kernel_rfl)
    (of_decide_eq_true (by kernel_rfl)) (by unfold Func.isWrapper; first | (rw [if_pos (by decide +kernel)]; kernel_rfl) | (rw [if_neg (by decide +kernel)]; exact ⟨rfl, rfl⟩))
    (fun os started H enc _ => parts_lifted os started H enc)

theorem parts_holds : Rows.RatioPartsCardSaid :=
  Claim7.holds_tied_plain_at .later [] [.data, .data, .data] true Rows.ratioPartsCard.stood.harness false
    parts_row (fun _ h => by cases h) (by kernel_rfl) (fun _ h => by cases h) ratioParts_row_tie rfl ⟨rfl, rfl⟩ (by kernel_rfl) rfl
    (fun f fn hf hfn => by
      obtain rfl : f = 5 := Option.some.inj ((show Tryd.prog.funcNamed Rows.ratioPartsRow.func = some 5 by kernel_rfl).symm.trans hf) |>.symm
      obtain rfl : fn = Tryd.f5 := (Option.some.inj (Tryd.func5.symm.trans hfn)).symm
      exact ⟨by kernel_rfl, fun j t ht => by
        rw [Tryd.params5] at ht
        rcases j with _ | _ | j
        · obtain rfl : t = 30 := by simpa using ht.symm
          exact (show Tryd.prog.wantsStandIn 30 = false by kernel_rfl)
        · obtain rfl : t = 3 := by simpa using ht.symm
          exact (show Tryd.prog.wantsStandIn 3 = false by kernel_rfl)
        · simp at ht⟩)
    (by kernel_rfl)
#print axioms parts_holds
end Go.Proofs.YtpkcmjiokdpegaaDoor
