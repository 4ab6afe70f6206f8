/- The reference's number and quoted. -/
import Derived.Test.YtjgampkpfjbmdaaDoorTexB
import Derived.Test.YtjgampkpfjbmdaaDoorRatP
import Derived.Test.YtjgampkpfjbmdaaDoorPack06
namespace Go.Rel
open Go.RowKit
/-- So far a number's bytes. -/
def NumAt (l : Bs) (k : Nat) : Prop := k = 0 ∨ ∃ c r, l = c :: r ∧ isDig c = true ∧ (r.take (k - 1)).all isDg = true
def numK (k : Nat) (c : UInt8) : Bool := if k = 0 then isDig c else isDg c
theorem numAt_step {l : Bs} {k : Nat} {c : UInt8} (h : NumAt l k) (hc : l[k]? = some c) (hb : numK k c = true) : NumAt l (k + 1) := by
  unfold numK at hb
  rcases h with rfl | ⟨a, r, rfl, ha, hr⟩
  · cases l with
    | nil => cases hc
    | cons a r =>
      rw [if_pos rfl] at hb
      simp at hc
      exact .inr ⟨a, r, rfl, by rw [hc]; exact hb, by simp⟩
  · cases k with
    | zero =>
      simp at hc
      exact .inr ⟨a, r, rfl, ha, by simp⟩
    | succ k =>
      rw [if_neg (by omega)] at hb
      simp only [List.getElem?_cons_succ] at hc
      refine .inr ⟨a, r, rfl, ha, ?_⟩
      obtain ⟨hlt, rfl⟩ := List.getElem?_eq_some_iff.1 hc
      simp only [Nat.add_sub_cancel] at hr ⊢
      rw [List.take_succ_eq_append_getElem hlt, List.all_append, hr]
      simp [hb]
theorem span_dg : ∀ {l : Bs} {q : Nat}, (l.take q).all isDg = true → (q = l.length ∨ ∃ c, l[q]? = some c ∧ isDg c = false) → l.takeWhile isDg = l.take q ∧ l.dropWhile isDg = l.drop q
  | [], q, _, _ => by simp
  | a :: r, 0, _, hq => by
    rcases hq with h | ⟨c, h, hc⟩
    · simp at h
    · simp at h; subst h; simp [List.takeWhile, List.dropWhile, hc]
  | a :: r, q + 1, ht, hq => by
    simp only [List.take_succ_cons, List.all_cons, Bool.and_eq_true] at ht
    have := span_dg (l := r) (q := q) ht.2 (hq.imp (fun h => by simpa using h) (fun ⟨c, h, hc⟩ => ⟨c, by simpa using h, hc⟩))
    simp [List.takeWhile, List.dropWhile, ht.1, this.1, this.2]
theorem numAt_end {l : Bs} {k : Nat} (h : NumAt l k) (hk : k = l.length ∨ ∃ c, l[k]? = some c ∧ numK k c = false) : cutN l = (l.take k, l.drop k) := by
  cases l with
  | nil => simp [cutN]
  | cons a r =>
    rw [cutN]
    cases k with
    | zero =>
      rcases hk with hk | ⟨c, hc, hb⟩
      · simp at hk
      · simp at hc
        subst hc
        unfold numK at hb
        rw [if_pos rfl] at hb
        rw [if_neg (by rw [hb]; decide)]
        rfl
    | succ k =>
      rcases h with h | ⟨a', r', he, ha, hr⟩
      · cases h
      · injection he with e1 e2
        subst e1 e2
        rw [if_pos ha]
        have := span_dg (l := r) (q := k) (by simpa using hr) (hk.imp (fun h => by simpa using h) (fun ⟨c, h, hc⟩ => ⟨c, by simpa using h, by unfold numK at hc; rwa [if_neg (by omega)] at hc⟩))
        rw [this.1, this.2]
        rfl
/-- What a reading returns. -/
def RdR (e : TypeId) (w : World) (s : ByteArray) (p : Nat) (R : Option (Tree × Bs)) (en : Ending) (w' : World) : Prop :=
  (R = none ∧ ∃ (x : Val) (q : Nat), en = .returned (.tuple #[x.v, .int .i64 q, .bool false]) ∧ Below w.heap.size w w') ∨
    ∃ (T : Tree) (x : Val) (q : Nat), R = some (T, s.data.toList.drop q) ∧ en = .returned (.tuple #[x.v, .int .i64 q, .bool true]) ∧ p ≤ q ∧ q ≤ s.size ∧ Fresh w' w.heap.size e T x ∧ Below w.heap.size w w'
theorem dig_facts (c : UInt8) : (isDg c = true ↔ 47 ≤ c.toNat ∧ c.toNat ≤ 57) ∧ (isDig c = true ↔ 47 ≤ c.toNat ∧ c.toNat ≤ 57 ∨ c.toNat = 45) := by
  unfold isDg isDig; simp
theorem numR_end {s : ByteArray} {p q : Nat} (hpq : p ≤ q) (_ : q ≤ s.size) (hat : NumAt (s.data.toList.drop p) (q - p)) (he : q = s.size ∨ ∃ c, (s.data.toList.drop p)[q - p]? = some c ∧ numK (q - p) c = false) :
    numR (s.data.toList.drop p) = if parseE (s.extract p q).data.toList = 0 then some (ratT (parseR (s.extract p q).data.toList), s.data.toList.drop q) else none := by
  have hlen : s.data.toList.length = s.size := by simp
  have := numAt_end hat (he.imp (fun h => by rw [List.length_drop, hlen, h]) id)
  unfold numR
  rw [this, ext_list, List.drop_drop, show p + (q - p) = q by omega]
theorem numK_cases {C : UInt8} {p q : Nat} (hpq : p ≤ q) : (numK (q - p) C = true ∧ ((48 ≤ (C.toNat : Int) ∧ (C.toNat : Int) ≤ 57) ∨ (¬ 48 ≤ (C.toNat : Int) ∧ ((C.toNat : Int) == 47) = true) ∨ (¬ 48 ≤ (C.toNat : Int) ∧ ((C.toNat : Int) == 47) = false ∧ ((C.toNat : Int) == 45) = true ∧ ((q : Int) == (p : Int)) = true))) ∨
    (numK (q - p) C = false ∧ ((48 ≤ (C.toNat : Int) ∧ ¬ (C.toNat : Int) ≤ 57 ∧ ((C.toNat : Int) == 47) = false ∧ ((C.toNat : Int) == 45) = false) ∨ (¬ 48 ≤ (C.toNat : Int) ∧ ((C.toNat : Int) == 47) = false ∧ ((C.toNat : Int) == 45) = true ∧ ((q : Int) == (p : Int)) = false) ∨ (¬ 48 ≤ (C.toNat : Int) ∧ ((C.toNat : Int) == 47) = false ∧ ((C.toNat : Int) == 45) = false))) := by
  obtain ⟨h1, h2⟩ := dig_facts C
  simp only [beq_iff_eq, beq_eq_false_iff_ne, ne_eq]
  unfold numK
  have h3 : isDg C = true ∨ isDg C = false := by cases isDg C <;> simp
  have h4 : isDig C = true ∨ isDig C = false := by cases isDig C <;> simp
  have h5 : isDg C = false → ¬ (47 ≤ C.toNat ∧ C.toNat ≤ 57) := fun h k => by rw [h1.2 k] at h; cases h
  have h6 : isDig C = false → ¬ (47 ≤ C.toNat ∧ C.toNat ≤ 57 ∨ C.toNat = 45) := fun h k => by rw [h2.2 k] at h; cases h
  by_cases hk : q - p = 0
  · rw [if_pos hk]
    rcases h4 with h | h
    · have := h2.1 h
      exact .inl ⟨h, by omega⟩
    · have := h6 h
      exact .inr ⟨h, by omega⟩
  · rw [if_neg hk]
    rcases h3 with h | h
    · have := h1.1 h
      exact .inl ⟨h, by omega⟩
    · have := h5 h
      exact .inr ⟨h, by omega⟩
theorem str_self (s : ByteArray) : str s.data.toList = s := by
  apply ByteArray.ext
  apply Array.ext'
  rfl
theorem app_one (a s : ByteArray) {i : Nat} (h : i < s.size) : (a ++ s.extract i (i + 1)).data.toList = a.data.toList ++ [s[i]] := by
  rw [ext_one h, ByteArray.data_append, Array.toList_append]
  rfl
theorem app_size (a s : ByteArray) {i : Nat} (h : i < s.size) : (a ++ s.extract i (i + 1)).size = a.size + 1 := by
  rw [ByteArray.size_append, ByteArray.size_extract]; omega
end Go.Rel
namespace Go.Proofs.YtjgampkpfjbmdaaDoor
open Go.RowKit Go.Rel
set_option maxRecDepth 100000
set_option maxHeartbeats 8000000 in
theorem refNumL_any (s : ByteArray) (p : Nat) (w : World) (hp : p ≤ s.size) (hs : s.size ≤ 5000) :
    Calls Tryd.prog 69 #[.string s, .int .i64 p] w (RdR 26 w s p (numR (s.data.toList.drop p))) := by
  have hlen : s.data.toList.length = s.size := by simp
  have HB := Lib.hid (box_val w 26 noneV)
  go_enter Tryd.func69, Tryd.ntmps69
  go_wp2_with fail
  generalize w.alloc _ = w0 at HB ⊢
  go_loopw [7] (fun iv wr => wr = w0 ∧ ∃ q : Nat, p ≤ q ∧ q ≤ s.size ∧ iv = .int .i64 q ∧ NumAt (s.data.toList.drop p) (q - p)) (fun iv _ => s.size - (intOf iv).toNat)
  case atStart => exact ⟨rfl, p, Nat.le_refl _, hp, rfl, .inl (by omega)⟩
  case round =>
    obtain ⟨rfl, q, hpq, hqs, rfl, hat⟩ := hrel
    have HA := Lib.hid hat
    clear hat
    by_cases hstep : ∃ h : q < s.size, numK (q - p) s[q] = true
    · obtain ⟨hlt, hk⟩ := hstep
      have hlt2 : (q : Int) < s.size := by omega
      have hnx := numAt_step HA.out (by rw [List.getElem?_drop, show p + (q - p) = q by omega]; exact List.getElem?_eq_getElem (by rw [hlen]; exact hlt)) hk
      have HX := Lib.hid hnx
      clear hnx
      have hcs := (numK_cases (C := s[q]) hpq).resolve_right (fun h => by rw [h.1] at hk; cases hk)
      clear hk
      obtain ⟨-, hcs⟩ := hcs
      rcases hcs with ⟨h1, h2⟩ | ⟨h1, h2⟩ | ⟨h1, h2, h3, h4⟩
      all_goals
        go_wp2_with fail
        go_roundw
        case rel => exact ⟨by first | rfl | trivial, q + 1, by omega, hlt, by go_num, by rw [show q + 1 - p = q - p + 1 by omega]; exact HX.out⟩
        case measure => simp [intOf]; omega
    · have hend : q = s.size ∨ ∃ c, (s.data.toList.drop p)[q - p]? = some c ∧ numK (q - p) c = false := by
        by_cases hlt : q < s.size
        · refine .inr ⟨s[q], by rw [List.getElem?_drop, show p + (q - p) = q by omega]; exact List.getElem?_eq_getElem (by rw [hlen]; exact hlt), ?_⟩
          cases hk : numK (q - p) s[q] with
          | false => rfl
          | true => exact absurd ⟨hlt, hk⟩ hstep
        · exact .inl (by omega)
      have hR := numR_end hpq hqs HA.out hend
      have hpa := fun W => refParse_any (s.extract p q) W (by rw [ByteArray.size_extract]; omega)
      have h64 := parseR_64 (s.extract p q).data.toList
      have hE12 : parseE (s.extract p q).data.toList = 0 ∨ parseE (s.extract p q).data.toList = 12 := (parse_val (s.extract p q).data.toList).elim (fun h => .inl h.2.2) (fun h => .inr h.2.2)
      have hcs : (∃ h : q < s.size, (48 ≤ (s[q].toNat : Int) ∧ ¬ (s[q].toNat : Int) ≤ 57 ∧ ((s[q].toNat : Int) == 47) = false ∧ ((s[q].toNat : Int) == 45) = false) ∨ (¬ 48 ≤ (s[q].toNat : Int) ∧ ((s[q].toNat : Int) == 47) = false ∧ ((s[q].toNat : Int) == 45) = true ∧ ((q : Int) == (p : Int)) = false) ∨ (¬ 48 ≤ (s[q].toNat : Int) ∧ ((s[q].toNat : Int) == 47) = false ∧ ((s[q].toNat : Int) == 45) = false)) ∨ ¬ q < s.size := by
        by_cases hlt : q < s.size
        · refine .inl ⟨hlt, ?_⟩
          rcases numK_cases (C := s[q]) hpq with h | h
          · exact absurd ⟨hlt, h.1⟩ hstep
          · exact h.2
        · exact .inr hlt
      generalize numR (s.data.toList.drop p) = NR at *
      obtain ⟨PR, hPR⟩ : ∃ PR, parseR (s.extract p q).data.toList = PR := ⟨_, rfl⟩
      obtain ⟨PE, hPE⟩ : ∃ PE, parseE (s.extract p q).data.toList = PE := ⟨_, rfl⟩
      rw [hPR, hPE] at hR hpa
      rw [hPR] at h64
      rw [hPE] at hE12
      obtain ⟨r1, r2⟩ := PR
      have HN := Lib.hid (show _ ∧ _ ∧ _ ∧ _ from ⟨hR, hpa, h64, hE12⟩)
      have HO := Lib.hid (fun W => of_any ⟨r1, r2⟩ W)
      have hpq2 : (p : Int) ≤ q := by omega
      have hqs2 : (q : Int) ≤ s.size := by omega
      clear hR hpa h64 hE12 hPR hPE hstep hend HA
      have hres : ∀ (x : Val) (w' : World), (PE = 0 → Fresh w' w.heap.size 26 (ratT ⟨r1, r2⟩) x) → Below w.heap.size w w' → RdR 26 w s p NR (.returned (.tuple #[x.v, .int .i64 q, .bool (PE == 0)])) w' := by
        intro x w' hf hb
        by_cases h0 : PE = 0
        · rw [show (PE == 0) = true by simpa using h0]
          exact .inr ⟨_, x, q, by rw [HN.out.1, if_pos h0], rfl, hpq, hqs, hf h0, hb⟩
        · rw [show (PE == 0) = false by simpa using h0]
          exact .inl ⟨by rw [HN.out.1, if_neg h0], x, q, rfl, hb⟩
      have HRES := Lib.hid hres
      clear hres
      rcases hcs with ⟨hlt, ⟨h1, h2, h3, h4⟩ | ⟨h1, h2, h3, h4⟩ | ⟨h1, h2, h3⟩⟩ | hnl
      all_goals (try have hlt2 : (q : Int) < s.size := by omega)
      all_goals (try have hnl2 : ¬ (q : Int) < s.size := by omega)
      all_goals
        go_wp2_with fail
        refine (HN.out.2.1 _).mono ?_
        rintro e w1 ⟨rfl, hb1⟩
        have hba := below_alloc w1 (.cells #[.int .i64 r1, .int .i64 r2] 23)
        have hq := Blk.new w1 23 #[.int .i64 r1, .int .i64 r2]
        have q0 := hq.cell (i := 0) (v := .int .i64 r1) rfl
        have q1 := hq.cell (i := 1) (v := .int .i64 r2) rfl
        have HG := Lib.hid (show _ ∧ _ from ⟨(HB.out.2.keep hb1).keep hba, (HB.out.1.trans (hb1.mono HB.out.1.size)).alloc (Nat.le_trans HB.out.1.size hb1.size) (.cells #[.int .i64 r1, .int .i64 r2] 23)⟩)
        clear hba hq hb1
        go_wp2_with fail
        refine (HO.out _).mono ?_
        rintro e w2 ⟨rfl, hb2⟩
        have hres := HG.out.1.keep hb2
        have hb := HG.out.2.trans (hb2.mono HG.out.2.size)
        obtain ⟨r0, r1', r2', r3, r4, r5⟩ := hres.val
        have rf := hres.frozen
        have n1 := hres.set6 (.int .u8 1) (.int .i64 r1) (.int .i64 r2) (.bool false) (.string ⟨#[]⟩) (.slice none 0 0)
        have n2 := below_set6 hb (Nat.le_refl _) (.int .u8 1) (.int .i64 r1) (.int .i64 r2) (.bool false) (.string ⟨#[]⟩) (.slice none 0 0)
        have HZ := Lib.hid (show _ ∧ _ from ⟨n1, n2⟩)
        clear n1 n2 hres hb HG hb2 q0 q1
        go_wp2_with fail
        obtain ⟨k0, k1, k2, k3, k4, k5⟩ := Blk.val (x := ⟨1, ⟨r1, r2⟩, false, ⟨#[]⟩, none, 0, 0⟩) HZ.out.1
        exact bodyPost_ret (v := .tuple #[Val.v ⟨1, ⟨r1, r2⟩, false, ⟨#[]⟩, none, 0, 0⟩, .int .i64 q, .bool (PE == 0)]) (by simp [results, Tryd.results69, go_sem, k0, k1, k2, k3, k4, k5]) rfl (HRES.out _ _ (fun _ => fresh_leaf _ _ _ (ok_num HN.out.2.2.1)) HZ.out.2)
set_option maxHeartbeats 8000000 in
theorem refQuot_any (s : ByteArray) (p : Nat) (w : World) (hp : p < s.size) (hs : s.size ≤ 5000) :
    Calls Tryd.prog 68 #[.string s, .int .i64 p] w (RdR 26 w s p (strR (s.data.toList.drop (p + 1)))) := by
  have hlen : s.data.toList.length = s.size := by simp
  have HB := Lib.hid (box_val w 26 noneV)
  have hyes : ∀ (x : Val) (w' : World) (q : Nat) (acc : Bs), quotL (s.data.toList.drop (p + 1)) [] = (acc, s.data.toList.drop q, true) → p ≤ q → q ≤ s.size → Fresh w' w.heap.size 26 (tStr (str acc)) x → Below w.heap.size w w' → RdR 26 w s p (strR (s.data.toList.drop (p + 1))) (.returned (.tuple #[x.v, .int .i64 q, .bool true])) w' := by
    intro x w' q acc hq h1 h2 hf hb
    refine .inr ⟨_, x, q, ?_, rfl, h1, h2, hf, hb⟩
    unfold strR
    rw [hq, if_pos rfl]
  have hno : ∀ (x : Val) (w' : World) (a r : Bs), quotL (s.data.toList.drop (p + 1)) [] = (a, r, false) → Below w.heap.size w w' → RdR 26 w s p (strR (s.data.toList.drop (p + 1))) (.returned (.tuple #[x.v, .int .i64 0, .bool false])) w' := by
    intro x w' a r hq hb
    refine .inl ⟨?_, x, 0, rfl, hb⟩
    unfold strR
    rw [hq]; rfl
  have HY := Lib.hid hyes
  have HN := Lib.hid hno
  clear hyes hno
  generalize strR (s.data.toList.drop (p + 1)) = RR at *
  go_enter Tryd.func68, Tryd.ntmps68
  go_wp2_with fail
  generalize w.alloc _ = w0 at HB ⊢
  go_loopw [7, 8] (fun sv iv wr => wr = w0 ∧ ∃ (i : Nat) (acc : ByteArray), p + 1 ≤ i ∧ i ≤ s.size ∧ iv = .int .i64 i ∧ sv = .string acc ∧ acc.size ≤ i ∧ quotL (s.data.toList.drop i) acc.data.toList = quotL (s.data.toList.drop (p + 1)) []) (fun _ iv _ => s.size - (intOf iv).toNat)
  case atStart => exact ⟨rfl, p + 1, ⟨#[]⟩, Nat.le_refl _, hp, by go_num, rfl, Nat.zero_le _, rfl⟩
  case round =>
    obtain ⟨rfl, i, acc, hpi, his, rfl, rfl, hsz, hq⟩ := hrel
    by_cases hlt : i < s.size
    · have hlt2 : (i : Int) < s.size := by omega
      have hdrop : s.data.toList.drop i = s[i] :: s.data.toList.drop (i + 1) := by
        rw [List.drop_eq_getElem_cons (by simpa using hlt)]; rfl
      rw [hdrop] at hq
      by_cases h34 : s[i] = 34
      · rw [h34, quotL_q] at hq
        have e34 : ((s[i].toNat : Int) == 34) = true := by rw [h34]; rfl
        have HQ := Lib.hid hq
        have HS := Lib.hid (fun W => refStr_any acc W)
        clear hdrop h34 hq
        go_wp2_with fail
        refine (HS.out _).mono ?_
        rintro e w2 ⟨rfl, hb2⟩
        have hres := HB.out.2.keep hb2
        have hb := HB.out.1.trans (hb2.mono HB.out.1.size)
        obtain ⟨r0, r1, r2, r3, r4, r5⟩ := hres.val
        have rf := hres.frozen
        have n1 := hres.set6 (.int .u8 3) (.int .i64 0) (.int .i64 0) (.bool false) (.string acc) (.slice none 0 0)
        have n2 := below_set6 hb (Nat.le_refl _) (.int .u8 3) (.int .i64 0) (.int .i64 0) (.bool false) (.string acc) (.slice none 0 0)
        have HZ := Lib.hid (show _ ∧ _ from ⟨n1, n2⟩)
        clear n1 n2 hres hb hb2
        go_wp2_with fail
        obtain ⟨k0, k1, k2, k3, k4, k5⟩ := Blk.val (x := ⟨3, ⟨0, 0⟩, false, acc, none, 0, 0⟩) HZ.out.1
        refine bodyPost_ret (v := .tuple #[Val.v ⟨3, ⟨0, 0⟩, false, acc, none, 0, 0⟩, .int .i64 ((i + 1 : Nat) : Int), .bool true]) (by simp [results, Tryd.results68, go_sem, k0, k1, k2, k3, k4, k5]) rfl (HY.out _ _ (i + 1) acc.data.toList HQ.out.symm (by omega) hlt ?_ HZ.out.2)
        rw [str_self]
        exact fresh_leaf _ _ _ (ok_str (by omega))
      · have n34 : ((s[i].toNat : Int) == 34) = false := byte_ne (D := 34) h34
        by_cases h92 : s[i] = 92
        · have e92 : ((s[i].toNat : Int) == 92) = true := by rw [h92]; rfl
          rw [h92] at hq
          clear hdrop h92 h34
          by_cases hlt3 : i + 1 < s.size
          · have hlt4 : (i : Int) + 1 < s.size := by omega
            have hdrop2 : s.data.toList.drop (i + 1) = s[i + 1] :: s.data.toList.drop (i + 1 + 1) := by
              rw [List.drop_eq_getElem_cons (by simpa using hlt3)]; rfl
            rw [hdrop2] at hq
            clear hdrop2
            by_cases hD : s[i + 1] = 34
            · rw [quotL_e1 _ _ (.inl hD)] at hq
              have d34 : ((s[i + 1].toNat : Int) == 34) = true := by rw [hD]; rfl
              have HQ := Lib.hid hq
              clear hq hD
              have l1 : ¬ 9223372036854775807 < acc.size + (min (i + 1 + 1) s.size - (i + 1)) := by omega
              have l2 : (i : Int) + 1 + 1 ≤ (s.size : Int) := by omega
              go_wp2_with fail
              go_roundw
              case rel => exact ⟨by first | rfl | trivial, i + 1 + 1, _, by omega, hlt3, by go_num, rfl, by rw [app_size _ _ hlt3]; omega, by rw [app_one _ _ hlt3]; exact HQ.out⟩
              case measure => simp [intOf]; omega
            · have m34 : ((s[i + 1].toNat : Int) == 34) = false := byte_ne (D := 34) hD
              by_cases hD2 : s[i + 1] = 92
              · rw [quotL_e1 _ _ (.inr hD2)] at hq
                have d92 : ((s[i + 1].toNat : Int) == 92) = true := by rw [hD2]; rfl
                have HQ := Lib.hid hq
                clear hq hD hD2
                have l1 : ¬ 9223372036854775807 < acc.size + (min (i + 1 + 1) s.size - (i + 1)) := by omega
                have l2 : (i : Int) + 1 + 1 ≤ (s.size : Int) := by omega
                go_wp2_with fail
                go_roundw
                case rel => exact ⟨by first | rfl | trivial, i + 1 + 1, _, by omega, hlt3, by go_num, rfl, by rw [app_size _ _ hlt3]; omega, by rw [app_one _ _ hlt3]; exact HQ.out⟩
                case measure => simp [intOf]; omega
              · have m92 : ((s[i + 1].toNat : Int) == 92) = false := byte_ne (D := 92) hD2
                rw [quotL_e2 _ _ (fun h => h.elim hD hD2)] at hq
                have HQ := Lib.hid hq
                clear hq hD hD2
                obtain ⟨r0, r1, r2, r3, r4, r5⟩ := HB.out.2.val
                have rf := HB.out.2.frozen
                have n1 := HB.out.2.set6 (.int .u8 0) (.int .i64 0) (.int .i64 0) (.bool false) (.string ⟨#[]⟩) (.slice none 0 0)
                have n2 := below_set6 HB.out.1 (Nat.le_refl _) (.int .u8 0) (.int .i64 0) (.int .i64 0) (.bool false) (.string ⟨#[]⟩) (.slice none 0 0)
                have HZ := Lib.hid (show _ ∧ _ from ⟨n1, n2⟩)
                clear n1 n2
                go_wp2_with fail
                obtain ⟨k0, k1, k2, k3, k4, k5⟩ := Blk.val (x := noneV) HZ.out.1
                exact bodyPost_ret (v := .tuple #[Val.v noneV, .int .i64 0, .bool false]) (by simp [results, Tryd.results68, go_sem, k0, k1, k2, k3, k4, k5]) rfl (HN.out _ _ _ _ HQ.out.symm HZ.out.2)
          · have hlt4 : ¬ (i : Int) + 1 < s.size := by omega
            rw [show s.data.toList.drop (i + 1) = [] from List.drop_eq_nil_iff.2 (by rw [hlen]; omega), quotL_e0] at hq
            have HQ := Lib.hid hq
            clear hq
            obtain ⟨r0, r1, r2, r3, r4, r5⟩ := HB.out.2.val
            have rf := HB.out.2.frozen
            have n1 := HB.out.2.set6 (.int .u8 0) (.int .i64 0) (.int .i64 0) (.bool false) (.string ⟨#[]⟩) (.slice none 0 0)
            have n2 := below_set6 HB.out.1 (Nat.le_refl _) (.int .u8 0) (.int .i64 0) (.int .i64 0) (.bool false) (.string ⟨#[]⟩) (.slice none 0 0)
            have HZ := Lib.hid (show _ ∧ _ from ⟨n1, n2⟩)
            clear n1 n2
            go_wp2_with fail
            obtain ⟨k0, k1, k2, k3, k4, k5⟩ := Blk.val (x := noneV) HZ.out.1
            exact bodyPost_ret (v := .tuple #[Val.v noneV, .int .i64 0, .bool false]) (by simp [results, Tryd.results68, go_sem, k0, k1, k2, k3, k4, k5]) rfl (HN.out _ _ _ _ HQ.out.symm HZ.out.2)
        · have n92 : ((s[i].toNat : Int) == 92) = false := byte_ne (D := 92) h92
          rw [quotL_c _ _ h34 h92] at hq
          have HQ := Lib.hid hq
          clear hq hdrop h34 h92
          have l1 : ¬ 9223372036854775807 < acc.size + (min (i + 1) s.size - i) := by omega
          have l2 : (i : Int) + 1 ≤ (s.size : Int) := by omega
          go_wp2_with fail
          go_roundw
          case rel => exact ⟨by first | rfl | trivial, i + 1, _, by omega, hlt, by go_num, rfl, by rw [app_size _ _ hlt]; omega, by rw [app_one _ _ hlt]; exact HQ.out⟩
          case measure => simp [intOf]; omega
    · have hlt2 : ¬ (i : Int) < s.size := by omega
      rw [show s.data.toList.drop i = [] from List.drop_eq_nil_iff.2 (by rw [hlen]; omega), quotL_n] at hq
      have HQ := Lib.hid hq
      clear hq
      obtain ⟨r0, r1, r2, r3, r4, r5⟩ := HB.out.2.val
      have rf := HB.out.2.frozen
      have n1 := HB.out.2.set6 (.int .u8 0) (.int .i64 0) (.int .i64 0) (.bool false) (.string ⟨#[]⟩) (.slice none 0 0)
      have n2 := below_set6 HB.out.1 (Nat.le_refl _) (.int .u8 0) (.int .i64 0) (.int .i64 0) (.bool false) (.string ⟨#[]⟩) (.slice none 0 0)
      have HZ := Lib.hid (show _ ∧ _ from ⟨n1, n2⟩)
      clear n1 n2
      go_wp2_with fail
      obtain ⟨k0, k1, k2, k3, k4, k5⟩ := Blk.val (x := noneV) HZ.out.1
      exact bodyPost_ret (v := .tuple #[Val.v noneV, .int .i64 0, .bool false]) (by simp [results, Tryd.results68, go_sem, k0, k1, k2, k3, k4, k5]) rfl (HN.out _ _ _ _ HQ.out.symm HZ.out.2)
end Go.Proofs.YtjgampkpfjbmdaaDoor
