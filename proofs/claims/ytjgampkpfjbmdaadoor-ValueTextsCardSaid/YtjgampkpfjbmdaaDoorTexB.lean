/- The reference's Starts, Text and Number. -/
import Derived.Test.YtjgampkpfjbmdaaDoorTexA
import Derived.Test.YtjgampkpfjbmdaaDoorTexP
import Derived.Test.YtjgampkpfjbmdaaDoorPack14
namespace Go.Rel
open Go.RowKit
theorem ext_list (s : ByteArray) (p q : Nat) : (s.extract p q).data.toList = (s.data.toList.drop p).take (q - p) := by
  rw [ByteArray.data_extract, Array.toList_extract, List.extract_eq_take_drop]
theorem starts_eq (s t : ByteArray) (p : Nat) : ((s.extract p (p + t.size)).toList == t.toList) = t.data.toList.isPrefixOf (s.data.toList.drop p) := by
  rw [Lib.toList_data, Lib.toList_data, ext_list, Nat.add_sub_cancel_left]
  have hl : t.size = t.data.toList.length := by simp
  rw [hl, Bool.eq_iff_iff, List.isPrefixOf_iff_prefix, List.prefix_iff_eq_take, beq_iff_eq]
  exact eq_comm
theorem starts_short {s t : ByteArray} {p : Nat} (hp : p ≤ s.size) (h : ¬ p + t.size ≤ s.size) : t.data.toList.isPrefixOf (s.data.toList.drop p) = false := by
  cases h3 : t.data.toList.isPrefixOf (s.data.toList.drop p) with
  | false => rfl
  | true =>
    have := (List.isPrefixOf_iff_prefix.1 h3).length_le
    simp at this
    omega
end Go.Rel
namespace Go.Proofs.YtjgampkpfjbmdaaDoor
open Go.RowKit Go.Rel
set_option maxRecDepth 100000
theorem starts_any (s t : ByteArray) (p : Nat) (w : World) (hp : p ≤ s.size) (hs : s.size ≤ 100000) (ht : t.size ≤ 100000) :
    Calls Tryd.prog 67 #[.string s, .int .i64 p, .string t] w (Ret w (.bool (t.data.toList.isPrefixOf (s.data.toList.drop p)))) := by
  by_cases h : p + t.size ≤ s.size
  · have e := starts_eq s t p
    have hi : (p : Int) + t.size ≤ s.size := by omega
    generalize t.data.toList.isPrefixOf (s.data.toList.drop p) = P at *
    have HE := Lib.hid e
    clear e
    have hp0 : (p : Int) ≤ (p : Int) + t.size := by omega
    go_enter Tryd.func67, Tryd.ntmps67
    go_wp2_with fail
    go_ret
    exact ⟨congrArg (fun z => Ending.returned (Value.bool z)) HE.out, Below.refl _ _⟩
  · have e := starts_short hp h
    rw [e]
    have hi : ¬ (p : Int) + t.size ≤ s.size := by omega
    clear e h
    go_enter Tryd.func67, Tryd.ntmps67
    go_wp2_with fail
    go_ret
    exact ⟨rfl, Below.refl _ _⟩
set_option maxHeartbeats 2000000 in
theorem refTextV_any (T : Tree) (x : Val) (w : World) (hf : fitT T 10 = true) (hr : RdB w w.heap.size T x) :
    Calls Tryd.prog 19 #[x.v] w (Ret w (.tuple #[.string (textVS T), .int .i64 (textVE T)])) := by
  have HB := Lib.hid (box_val w 26 x)
  have HC := Lib.hid (fun W h => refChk_any T x W hf h)
  have HT := Lib.hid (textV_cases T)
  have HR := Lib.hid (show _ ∧ _ from ⟨hf, hr⟩)
  obtain ⟨C, hC⟩ : ∃ C, chkT T = C := ⟨_, rfl⟩
  rw [hC] at HC HT
  have HCC := Lib.hid hC
  generalize textVE T = E at *
  generalize textVS T = S at *
  obtain ⟨k, q, t, s, A, len, cap⟩ := x
  clear hf hr hC
  obtain ⟨hb, hblk⟩ := HB.out
  obtain ⟨c0, c1, c2, c3, c4, c5⟩ := hblk.val
  go_enter Tryd.func19, Tryd.ntmps19
  go_wp2_with fail
  refine (HC.out _ (HR.out.2.in_ hb hb.size)).mono ?_
  rintro e w1 ⟨rfl, hb1⟩
  replace hblk := hblk.keep hb1
  replace hb := hb.trans (hb1.mono hb.size)
  clear hb1 HB c0 c1 c2 c3 c4 c5
  rcases HT.out with ⟨h1, h2, h3⟩ | ⟨h1, h2, h3, h4⟩ | ⟨h1, h2, h3, h4⟩
  · subst h2 h3
    have q1 : (E != 0) = true := by simpa using h1
    obtain ⟨c0, c1, c2, c3, c4, c5⟩ := hblk.val
    go_wp2_with fail
    refine (HC.out _ (HR.out.2.in_ hb hb.size)).mono ?_
    rintro e w2 ⟨rfl, hb2⟩
    replace hb := hb.trans (hb2.mono hb.size)
    clear hb2 c0 c1 c2 c3 c4 c5 hblk
    go_wp2_with fail
    go_ret2
    exact ⟨rfl, hb⟩
  all_goals
    subst h1 h3 h4
    have hv := valid_parts HR.out.1 HCC.out
    have hl := wr_len T hv.2.2
    have hw := written_any 10 T _ w1 HR.out.1 hv.2.2 (by omega) (HR.out.2.in_ hb hb.size)
    have hsz : (str (wrT T)).size = (wrT T).length := str_size _
    have HW := Lib.hid hw
    have HH := Lib.hid hb
    clear hv hl hb hw
    obtain ⟨c0, c1, c2, c3, c4, c5⟩ := hblk.val
    obtain ⟨N, hN⟩ : ∃ N, (wrT T).length = N := ⟨_, rfl⟩
    rw [hN] at h2 hsz
    clear hN
    have hi : (4000 : Int) < N ∨ ¬ (4000 : Int) < N := by omega
    generalize str (wrT T) = S at *
    go_wp2_with fail
    refine HW.out.mono ?_
    rintro e w2 ⟨rfl, hb2⟩
    have HH2 := Lib.hid (HH.out.trans (hb2.mono HH.out.size))
    clear hb2 c0 c1 c2 c3 c4 c5 hblk
  · have h3 : (4000 : Int) < N := by omega
    go_wp2_with fail
    go_ret2
    exact ⟨rfl, HH2.out⟩
  · have h3 : ¬ (4000 : Int) < N := by omega
    go_wp2_with fail
    go_ret2
    exact ⟨rfl, HH2.out⟩
set_option maxHeartbeats 2000000 in
theorem refNumberV_any (n d : Int) (w : World) (hn : -9223372036854775808 ≤ n) (hn' : n ≤ 9223372036854775807) (hd : -9223372036854775808 ≤ d) (hd' : d ≤ 9223372036854775807) :
    Calls Tryd.prog 23 #[.int .i64 n, .int .i64 d] w (Ret w (.tuple #[(nvV n d).v, .int .i64 (makeE n d)])) := by
  have R := fun W => refMake_any n d W hn hn' hd hd'
  have HB := Lib.hid (box_val w 26 noneV)
  have hV1 : makeE n d = 0 → nvV n d = ⟨1, makeR n d, false, ⟨#[]⟩, none, 0, 0⟩ := fun h => if_pos h
  have hV2 : makeE n d ≠ 0 → nvV n d = noneV := fun h => if_neg h
  have HF := Lib.hid (show ∀ (x : Val) (w' : World), nvV n d = x → Below w.heap.size w w' → Ret w (.tuple #[(nvV n d).v, .int .i64 (makeE n d)]) (.returned (.tuple #[x.v, .int .i64 (makeE n d)])) w' from fun x w' h1 h2 => by subst h1; exact ⟨rfl, h2⟩)
  generalize nvV n d = V at *
  generalize makeE n d = E at *
  generalize makeR n d = r at *
  obtain ⟨r1, r2⟩ := r
  have HR := Lib.hid R
  have HV := Lib.hid (show _ ∧ _ from ⟨hV1, hV2⟩)
  clear R hn hn' hd hd' hV1 hV2
  obtain ⟨hb, hres⟩ := HB.out
  go_enter Tryd.func23, Tryd.ntmps23
  go_wp2_with fail
  refine (HR.out _).mono ?_
  rintro e w1 ⟨rfl, hb1⟩
  replace hres := hres.keep hb1
  replace hb := hb.trans (hb1.mono hb.size)
  have hq := Blk.new w1 23 #[.int .i64 r1, .int .i64 r2]
  have hba := below_alloc w1 (.cells #[.int .i64 r1, .int .i64 r2] 23)
  have hlt := hres.lt
  have q0 := hq.cell (i := 0) (v := .int .i64 r1) rfl
  have q1 := hq.cell (i := 1) (v := .int .i64 r2) rfl
  have hsz : w.heap.size ≤ w1.heap.size := hb.size
  clear hb1 HB HR
  by_cases hE : E = 0
  case neg =>
    have hE2 : (E != 0) = true := by simpa using hE
    obtain ⟨r0, r1', r2', r3, r4, r5⟩ := hres.val
    have rf := hres.frozen
    have n1 := (hres.set6 (.int .u8 0) (.int .i64 0) (.int .i64 0) (.bool false) (.string ⟨#[]⟩) (.slice none 0 0)).keep (below_alloc _ (.cells #[.int .i64 r1, .int .i64 r2] 23))
    have n2 := (below_set6 hb (Nat.le_refl _) (.int .u8 0) (.int .i64 0) (.int .i64 0) (.bool false) (.string ⟨#[]⟩) (.slice none 0 0)).alloc (by simpa using hsz) (.cells #[.int .i64 r1, .int .i64 r2] 23)
    have HN := Lib.hid (show _ ∧ _ ∧ _ from ⟨n1, n2, HV.out.2 hE⟩)
    clear n1 n2 hres hb hE HV hba
    go_wp2_with fail
    obtain ⟨k0, k1, k2, k3, k4, k5⟩ := Blk.val (x := noneV) HN.out.1
    exact bodyPost_ret (v := .tuple #[Val.v noneV, .int .i64 E]) (by simp [results, Tryd.results23, go_sem, k0, k1, k2, k3, k4, k5]) rfl (HF.out noneV _ HN.out.2.2 HN.out.2.1)
  subst hE
  have HO := Lib.hid (fun W => of_any ⟨r1, r2⟩ W)
  have HG := Lib.hid (show _ ∧ _ from ⟨hres.keep hba, hb.alloc hsz (.cells #[.int .i64 r1, .int .i64 r2] 23)⟩)
  clear hres hb hba
  go_wp2_with fail
  refine (HO.out _).mono ?_
  rintro e w2 ⟨rfl, hb2⟩
  have hres := HG.out.1.keep hb2
  have hb := HG.out.2.trans (hb2.mono HG.out.2.size)
  obtain ⟨r0, r1', r2', r3, r4, r5⟩ := hres.val
  have rf := hres.frozen
  have n1 := hres.set6 (.int .u8 1) (.int .i64 r1) (.int .i64 r2) (.bool false) (.string ⟨#[]⟩) (.slice none 0 0)
  have n2 := below_set6 hb (Nat.le_refl _) (.int .u8 1) (.int .i64 r1) (.int .i64 r2) (.bool false) (.string ⟨#[]⟩) (.slice none 0 0)
  have HN := Lib.hid (show _ ∧ _ ∧ _ from ⟨n1, n2, HV.out.1 (by first | rfl | trivial)⟩)
  clear n1 n2 hres hb HV HG hb2 q0 q1
  go_wp2_with fail
  obtain ⟨k0, k1, k2, k3, k4, k5⟩ := Blk.val (x := ⟨1, ⟨r1, r2⟩, false, ⟨#[]⟩, none, 0, 0⟩) HN.out.1
  exact bodyPost_ret (v := .tuple #[Val.v ⟨1, ⟨r1, r2⟩, false, ⟨#[]⟩, none, 0, 0⟩, .int .i64 0]) (by simp [results, Tryd.results23, go_sem, k0, k1, k2, k3, k4, k5]) rfl (HF.out _ _ HN.out.2.2 HN.out.2.1)
end Go.Proofs.YtjgampkpfjbmdaaDoor
