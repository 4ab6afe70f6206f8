/- ValueBack returns true for all values. Condition: the library's tables are laid. -/
import Derived.Test.YtjgampkpfjbmdaaDoorPack21
import Derived.Test.YtjgampkpfjbmdaaDoorPack22
import Derived.Test.YtjgampkpfjbmdaaDoorPack20
namespace Go.Proofs.YtjgampkpfjbmdaaDoor
open Go.RowKit Go.Rel
set_option maxRecDepth 100000
theorem valid_list_any (ts : List Tree) (A : Option Addr) (n cap : Nat) (w : World) (hn : n ≤ 100) (h : RdB w w.heap.size (tList ts) (listX A n cap)) :
    Calls Tryd.prog 9 #[.slice A n cap] w (Ret w (.bool (ts.all vldB))) := by
  obtain ⟨kids, ys, he, -, hy, hl, hr, hk⟩ := h.open_
  have : ts = kids := tList_inj he
  subst this
  exact valid_any A n cap ts ys w hy hl hn hr hk
theorem back_facts {T : Tree} (h : Valid T) : ∃ (E : Int) (S : ByteArray), textVE T = E ∧ textVS T = S ∧ ((E = 4 ∧ S = ⟨#[]⟩) ∨ (E = 0 ∧ S.size ≤ 4000 ∧ parseVT S.data.toList = T ∧ parseVE S.data.toList = 0)) := by
  refine ⟨_, _, rfl, rfl, ?_⟩
  rcases textV_cases T with ⟨h1, -⟩ | ⟨-, h2, h3, h4⟩ | ⟨-, h2, h3, h4⟩
  · exact absurd h.chk h1
  · exact .inl ⟨h3, h4⟩
  · have := parse_write h (by omega)
    refine .inr ⟨h3, by rw [h4, str_size]; omega, ?_⟩
    rw [h4, str_list]
    exact this
set_option maxHeartbeats 16000000 in
theorem back_walk (T : Tree) (x : Val) (w : World) (hT : RdB w w.heap.size T x) (ht : Tab w) :
    Calls Tryd.prog 6 #[x.v] w (Ret w (.bool true)) := by
  have HB := Lib.hid (box_val w 26 x)
  have HR := Lib.hid (show _ ∧ _ from ⟨hT, ht⟩)
  have HVV := Lib.hid (fun (W : World) (g : Nat) h => valid_list_any [T] (some ⟨g, 0, none⟩) 1 1 W (by decide) h)
  clear hT ht
  obtain ⟨k, q, t, s, A, len, cap⟩ := x
  obtain ⟨hb, hx1⟩ := HB.out
  have hsz : (w.alloc (.cells (Val.box ⟨k, q, t, s, A, len, cap⟩) 26)).heap.size = w.heap.size + 1 := by simp
  go_enter Tryd.func6, Tryd.ntmps6
  obtain ⟨c0, c1, c2, c3, c4, c5⟩ := hx1.val
  go_wp2_with fail
  clear c0 c1 c2 c3 c4 c5
  generalize w.alloc _ = w1 at hb hsz hx1 ⊢
  have hn := Blk.new w1 26 (box1 ⟨k, q, t, s, A, len, cap⟩)
  have hba := below_alloc w1 (.cells (box1 ⟨k, q, t, s, A, len, cap⟩) 26)
  have hb2 := hb.trans (hba.mono hb.size)
  rw [hsz] at hn
  refine (HVV.out _ _ (rd_list1 hn (HR.out.1.in_ hb2 hb2.size))).mono ?_
  rintro e w2 ⟨rfl, hx⟩
  replace hx1 := (hx1.keep hba).keep hx
  replace hb := hb2.trans (hx.mono hb2.size)
  clear hn hba hb2 hx HVV HB hsz
  cases hv : [T].all vldB with
  | false =>
    clear hv hx1
    go_wp2_with fail
    refine (alive_any w2 (HR.out.2.keep hb)).mono ?_
    rintro e w3 ⟨rfl, hx⟩
    replace hb := hb.trans (hx.mono hb.size)
    clear hx
    go_wp2_with fail
    go_ret
    exact ⟨rfl, hb⟩
  | true =>
    have hvT : Valid T := by
      simp only [List.all_cons, List.all_nil, Bool.and_true] at hv
      exact vld_yes hv
    obtain ⟨E, S, e1, e2, hcase⟩ := back_facts hvT
    have r1 := fun x W h h' => textV_any T x W hvT.fit h h'
    have r2 := fun x y W h h' => same_any 10 T T x y W hvT.fit h h'
    rw [e1, e2] at r1
    rw [sameB_self] at r2
    have R1 := Lib.hid r1
    have R2 := Lib.hid r2
    have HC := Lib.hid hcase
    clear hv r1 r2 e1 e2 hcase hvT
    obtain ⟨c0, c1, c2, c3, c4, c5⟩ := hx1.val
    go_wp2_with fail
    clear c0 c1 c2 c3 c4 c5
    refine (R1.out _ _ (HR.out.1.in_ hb hb.size) (HR.out.2.keep hb)).mono ?_
    rintro e w3 ⟨rfl, hx⟩
    replace hx1 := hx1.keep hx
    replace hb := hb.trans (hx.mono hb.size)
    clear hx R1
    rcases HC.out with ⟨rfl, rfl⟩ | ⟨rfl, h4, hp1, hp2⟩
    · have hz : ((⟨#[]⟩ : ByteArray).size : Int) = 0 := rfl
      go_wp2_with fail
      refine (alive_any _ (HR.out.2.keep hb)).mono ?_
      rintro e w4 ⟨rfl, hx⟩
      replace hb := hb.trans (hx.mono hb.size)
      clear hx
      go_wp2_with fail
      go_ret
      exact ⟨rfl, hb⟩
    · have h44 : (S.size : Int) ≤ 4000 := by omega
      have r3 := fun W h => parseV_any S W (by omega) h
      rw [hp1, hp2] at r3
      have R3 := Lib.hid r3
      clear r3 hp1 hp2 HC h4
      go_wp2_with fail
      refine (R3.out _ (HR.out.2.keep hb)).mono ?_
      rintro e w4 ⟨⟨k2, q2, t2, s2, A2, len2, cap2⟩, rfl, hfr, hx⟩
      replace hx1 := hx1.keep hx
      replace hb := hb.trans (hx.mono hb.size)
      have ry := hfr.rd
      clear hx hfr R3
      obtain ⟨c0, c1, c2, c3, c4, c5⟩ := hx1.val
      have hlt := hx1.lt
      have hp := Blk.new w4 26 (Val.box ⟨k2, q2, t2, s2, A2, len2, cap2⟩)
      have hba := below_alloc w4 (.cells (Val.box ⟨k2, q2, t2, s2, A2, len2, cap2⟩) 26)
      obtain ⟨d0, d1, d2, d3, d4, d5⟩ := hp.val
      go_wp2_with fail
      clear c0 c1 c2 c3 c4 c5 d0 d1 d2 d3 d4 d5 hp
      replace hb := hb.trans (hba.mono hb.size)
      replace ry := ry.below hba hba.size
      clear hba
      refine (R2.out _ _ _ (HR.out.1.in_ hb hb.size) ry).mono ?_
      rintro e w5 ⟨rfl, hx⟩
      replace hb := hb.trans (hx.mono hb.size)
      clear hx ry
      go_wp2_with fail
      refine (alive_any _ (HR.out.2.keep hb)).mono ?_
      rintro e w6 ⟨rfl, hx⟩
      replace hb := hb.trans (hx.mono hb.size)
      clear hx
      go_wp2_with fail
      go_ret
      exact ⟨rfl, hb⟩
open Go.ChangeShapes Go.WideShapes Go.ChangeAt Go.Joins
set_option maxRecDepth 100000 in
theorem back_lifted (os : Os) (started : os.Started) (H : Type) (enc : TypeId × Value → H) :
    ReturnsInHanded {} Tryd.checked os 6 .any (fun w args => (Rows.valueBackSpec.pre enc Tryd.prog Tryd.f6 [] false w args ∧ laidMetH Tryd.prog Rows.valueBackRow.laid w) ∧ sizedMet enc Tryd.prog Tryd.f6 (OpenSpec.ofChange Rows.valueBackSpec) false w args)
      (Rows.valueBackSpec.post enc Tryd.prog Tryd.f6 false true false false) := by
  refine returnsInHanded_of_change_and (C := Tryd.checked) (X := fun w _ => laidMetH Tryd.prog Rows.valueBackRow.laid w) (fun _ _ _ hh h => h.of_heap hh) own started (by kernel_rfl) Tryd.func6
    (ChangeSpec.witness_at (enc := enc) (C := Tryd.checked) (os := os) (X := fun w _ => laidMetH Tryd.prog Rows.valueBackRow.laid w) false (laidWorld os) #[.agg #[.int .u8 0, .int .i64 0, .int .i64 0, .bool false, .string ⟨#[]⟩, .slice none 0 0]] 8 rfl (by kernel_rfl) (by kernel_rfl) (by kernel_rfl) (by kernel_rfl) (by kernel_rfl) (laid_met os _)) ?_
  intro W base args ds gs before hval0 hW _ _ hLd _
  have hval : ∀ (j : Nat) t v, Tryd.f6.params[j]? = some t → args[j]? = some v → Value.okWide Tryd.prog W .any base t v := hval0
  have hW' := hW
  obtain ⟨p, q, hA0, hV, rfl, hfz, hnd⟩ := hW
  have hA : DataW.TrodAll enc Tryd.prog W 0 (fun _ => true) true Tryd.f6.params.toList args.toList ds p := hA0
  rw [Tryd.params6] at hA hval
  obtain ⟨v0, vs0, d0, ds0, p0, q0, hargs, rfl, rfl, h0, r0⟩ := trodAll_cons hA
  obtain ⟨rfl, rfl, rfl⟩ := trodAll_nil r0
  obtain rfl : args = #[v0] := by cases args; simp_all
  obtain ⟨rfl, rfl⟩ := trodVars_none hV
  obtain ⟨x0, T0, rfl, hT0⟩ := open_val (hval 0 26 v0 rfl rfl) h0
  refine (back_walk T0 x0 W hT0 (tab_of_laid hLd)).mono fun e W' ⟨he, hb⟩ => ?_
  exact ⟨_, he, law_post laidOut hW' rfl (by kernel_rfl) rfl Tryd.underlying4 rfl rfl rfl hb⟩

theorem back_row : Rows.ValueBackSaid :=
  OpenClaim.holds_of_wide 6 Tryd.f6 rfl rfl rfl rfl rfl rfl rfl ⟨rfl, rfl, rfl, rfl, rfl⟩ rfl rfl rfl rfl rfl (by kernel_rfl) Tryd.func6 (by kernel_rfl)
    (of_decide_eq_true (by kernel_rfl)) (by unfold Func.isWrapper; first | (rw [if_pos (by decide +kernel)]; kernel_rfl) | (rw [if_neg (by decide +kernel)]; exact ⟨rfl, rfl⟩))
    (fun os started H enc _ => back_lifted os started H enc)

theorem back_holds : Rows.ValueBackCardSaid :=
  Claim7.holds_tied_plain_at .later [] [.data, .data, .data] true Rows.valueBackCard.stood.harness false
    back_row (fun _ h => by cases h) (by kernel_rfl) (fun _ h => by cases h) valueBack_row_tie rfl ⟨rfl, rfl⟩ (by kernel_rfl) rfl
    (fun f fn hf hfn => by
      obtain rfl : f = 6 := Option.some.inj ((show Tryd.prog.funcNamed Rows.valueBackRow.func = some 6 by kernel_rfl).symm.trans hf) |>.symm
      obtain rfl : fn = Tryd.f6 := (Option.some.inj (Tryd.func6.symm.trans hfn)).symm
      exact ⟨by kernel_rfl, fun j t ht => by
        rw [Tryd.params6] at ht
        rcases j with _ | j
        · obtain rfl : t = 26 := by simpa using ht.symm
          exact (show Tryd.prog.wantsStandIn 26 = false by kernel_rfl)
        · simp at ht⟩)
    (by kernel_rfl)
#print axioms back_holds
end Go.Proofs.YtjgampkpfjbmdaaDoor
