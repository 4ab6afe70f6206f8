/- A region that draws its order and appends to rows of its own. -/
import Derived.Test.YtfdjhiomdimfcaaRegion
import Derived.Test.YtfdjhiomdimfcaaElems
import Derived.ArgAppend
import Derived.OwnWalk
import Derived.Lib.SmallJoins
namespace Go.Rel
open Go.RowKit Go.Joins

/-- All below block B stays; every row of the region's own that holds the first k records of F holds them still. -/
def KpRow (B : Nat) (e : TypeId) (z : Nat) (F : List Value) (W W' : World) : Prop :=
  Below B W W' ∧ W.heap.size ≤ W'.heap.size ∧ ∀ v k, W.ownsRow B e z v k (F.take (k * z)) → W'.ownsRow B e z v k (F.take (k * z))
theorem kpRow_keeps (B : Nat) (e : TypeId) (z : Nat) (F : List Value) : Keeps (KpRow B e z F) :=
  ⟨fun _ => ⟨Below.refl _ _, Nat.le_refl _, fun _ _ h => h⟩, fun h k => ⟨h.1.trans k.1, Nat.le_trans h.2.1 k.2.1, fun v n hv => k.2.2 v n (h.2.2 v n hv)⟩, fun _ => ⟨(Below.refl _ _).drew, Nat.le_refl _, fun _ _ h => h.drew⟩⟩
theorem KpRow.of_below {B : Nat} {e : TypeId} {z : Nat} {F : List Value} {W W' : World} (h : Below W.heap.size W W') (hB : B ≤ W.heap.size) : KpRow B e z F W W' :=
  ⟨h.mono hB, h.size, fun _ _ hv => ownsRow_below hv h⟩
theorem setRow_heap (w : World) (g : Nat) (cs cur : Array Value) (e : TypeId) (h : w.heap[g]? = some (.cells cur e (0, 0))) : (w.setRow g cs).heap[g]? = some (.cells cs e (0, 0)) := by
  simp [World.setRow, Array.getElem?_modify, h]
theorem setRow_other (w : World) {g k : Nat} (cs : Array Value) (h : k ≠ g) : (w.setRow g cs).heap[k]? = w.heap[k]? := by
  simp [World.setRow, Array.getElem?_modify, Ne.symm h]

section
variable {P : Program}
/-- append to a row that holds the first n records of F: what is appended are the next m. -/
theorem run_append_row (w : World) (B : Nat) (t ty e : TypeId) (i : TypeInfo) (z : Value) (size bytes : Nat) (ht : P.underlying t = some (.slice e)) (hi : P.info? e = some i) (hz : i.zero = some z)
    (hsize : i.size = size) (hby : i.bytes = bytes) (hzs : z.cells.size = size) (hsz : 0 < size) (F : List Value)
    (v : Value) (n : Nat) (hown : w.ownsRow B e size v n (F.take (n * size))) (a : Addr) (m c : Nat) (news : List Value) (hl : news.length = m * size) (hnews : ∀ j u, news[j]? = some u → w.cell? (a.add j) = some u) (h1 : ∀ u ∈ news, u.oneCell' = true)
    (hF : F.take (n * size) ++ news = F.take ((n + m) * size)) (h63 : n + m ≤ maxLen) (hbytes : (n + m) * bytes ≤ 140737488355328) (hbase : B ≤ w.heap.size) :
    ∃ v' w', (Builtin.append_ #[t, t] ty #[v, .slice (some a) m c]).run P w = .ok v' w' ∧ w'.ownsRow B e size v' (n + m) (F.take ((n + m) * size)) ∧ KpRow B e size F w w' := by
  rcases hown.2 with ⟨rfl, rfl⟩ | ⟨g, cap, cur, rfl, hBg, hg, hnc, hcm, hcs, htk⟩
  · obtain ⟨v', w', hrun, r1, r2, _⟩ := run_append_own (P := P) w B t ty e i z size bytes ht hi hz hsize hby hzs hsz (.slice none 0 0) 0 _ hown a m c news hl hnews h1 h63 hbytes hbase
    rw [hF] at r1
    exact ⟨v', w', hrun, r1, KpRow.of_below ⟨r2.os, r2.tape, r2.output, r2.size, fun k hk => r2.block k hk (by simp [Value.ownBlock])⟩ hbase⟩
  · by_cases hroom : n + m ≤ cap
    · subst hsize
      have hfit : n * i.size + news.length ≤ cur.size := by rw [hl, hcs, ← Nat.add_mul]; exact Nat.mul_le_mul_right _ hroom
      have hrun := run_append_room (P := P) (w := w) t ty e i ht hi g n cap cur hg a m c news hl hnews h1 hroom hfit
      refine ⟨_, _, hrun, ?_, ?_⟩
      · refine ⟨?_, .inr ⟨g, cap, _, rfl, hBg, setRow_heap w g _ cur e hg, hroom, hcm, ?_, ?_⟩⟩
        · rw [← hF, List.length_append, hown.1, hl, Nat.add_mul]
        · simp only [List.size_toArray, List.length_append, List.length_take, List.length_drop, Array.length_toList]
          omega
        · dsimp only
          rw [htk, hF, List.take_append_of_le_length (by rw [← hF, List.length_append, hown.1, hl, ← Nat.add_mul]; exact Nat.le_refl _)]
          rw [List.take_of_length_le (by rw [← hF, List.length_append, hown.1, hl, ← Nat.add_mul]; exact Nat.le_refl _)]
      · refine ⟨⟨rfl, rfl, rfl, by simp [World.setRow], fun k hk => setRow_other w _ (by omega)⟩, by simp [World.setRow], fun v2 k2 h2 => ?_⟩
        refine ⟨h2.1, ?_⟩
        rcases h2.2 with h | ⟨g2, cap2, cur2, rfl, hBg2, hg2, hnc2, hcm2, hcs2, htk2⟩
        · exact .inl h
        · refine .inr ?_
          by_cases hgg : g2 = g
          · subst hgg
            rw [hg] at hg2
            simp only [Option.some.injEq, Obj.cells.injEq, and_true] at hg2
            obtain rfl := hg2
            refine ⟨g2, cap2, _, rfl, hBg2, setRow_heap w g2 _ cur e hg, hnc2, hcm2, ?_, ?_⟩
            · simp only [List.size_toArray, List.length_append, List.length_take, List.length_drop, Array.length_toList]
              omega
            · dsimp only
              rw [htk, hF]
              have hlen : (F.take ((n + m) * i.size)).length = (n + m) * i.size := by rw [← hF, List.length_append, hown.1, hl, Nat.add_mul]
              rw [show n * i.size + news.length = (n + m) * i.size by rw [hl, Nat.add_mul]]
              by_cases hk : k2 * i.size ≤ (n + m) * i.size
              · rw [List.take_append_of_le_length (by rw [hlen]; exact hk), List.take_take, Nat.min_eq_left hk]
              · rw [List.take_append, hlen, List.take_of_length_le (by rw [hlen]; omega)]
                have e1 : (cur.toList.drop ((n + m) * i.size)).take (k2 * i.size - (n + m) * i.size) = (F.take (k2 * i.size)).drop ((n + m) * i.size) := by
                  rw [← htk2, List.drop_take]
                rw [e1]
                have e2 : F.take ((n + m) * i.size) = (F.take (k2 * i.size)).take ((n + m) * i.size) := by rw [List.take_take, Nat.min_eq_left (by omega)]
                rw [e2, List.take_append_drop]
          · exact ⟨g2, cap2, cur2, rfl, hBg2, (setRow_other w _ hgg).trans hg2, hnc2, hcm2, hcs2, htk2⟩
    · have holds : ∀ j u, (F.take (n * size))[j]? = some u → w.cell? ((⟨g, 0, none⟩ : Addr).add j) = some u := hown.cells rfl
      obtain ⟨v', w', hrun, r1, r2⟩ := run_append_arg_grows (P := P) w t ty e i z size bytes ht hi hz hsize hby hzs hsz ⟨g, 0, none⟩ n cap _ hown.1 holds a m c news hl hnews (by omega) h63 hbytes
      rw [hF] at r1
      exact ⟨v', w', hrun, ownsRow_le r1 hbase, KpRow.of_below ⟨r2.os, r2.tape, r2.output, r2.size, fun k hk => r2.block k hk (by simp)⟩ hbase⟩

theorem recs_cells {α : Type} {cells : α → List Value} {size : Nat} (hsz : 0 < size) (hcl : ∀ b, (cells b).length = size) {w : World} {B : Nat} {ad : Addr} {l : List α} (hr : Recs cells size w B (some ad) l) : ∀ j u, (l.flatMap cells)[j]? = some u → w.cell? (ad.add j) = some u := by
  intro j u hj
  have hjl : j < l.length * size := by rw [← flat_len hcl l]; exact (List.getElem?_eq_some_iff.1 hj).1
  have hpos : 0 < l.length := by
    rcases Nat.eq_zero_or_pos l.length with h0 | h0
    · rw [h0] at hjl; omega
    · exact h0
  obtain ⟨b, off, e, -, hat⟩ := hr hpos
  injection e with e
  subst e
  have hq : j / size < l.length := Nat.div_lt_of_lt_mul (by rw [Nat.mul_comm]; exact hjl)
  have hr' : j % size < size := Nat.mod_lt _ hsz
  have hdm : j / size * size + j % size = j := by rw [Nat.mul_comm]; exact Nat.div_add_mod _ _
  have hgi : l[j / size]? = some l[j / size] := by simp [hq]
  have hget := flat_get hcl l (j / size) (j % size) l[j / size] hgi hr'
  rw [hdm, hj] at hget
  have := hat (j / size) l[j / size] hgi (j % size) u hget.symm
  rw [show off + j / size * size + j % size = off + j by omega] at this
  have ea : (⟨b, off, none⟩ : Addr).add j = ⟨b, off + j, none⟩ := by unfold Addr.add; by_cases h0 : j = 0 <;> simp [h0]
  rw [ea]
  exact this

/-- append in a region: of a slice that reads as l, nil, empty or not. -/
theorem gives_append_row {o : Oper} {a : Act} {w : World} {F : List Value} (B : Nat) (s x : Operand) (t : TypeId) (ho : o.op = .call { callee := .builtin .append, args := #[s, x], argTypes := #[t, t] })
    (e : TypeId) (i : TypeInfo) (z : Value) (size bytes : Nat) (ht : P.underlying t = some (.slice e)) (hi : P.info? e = some i) (hz : i.zero = some z) (hsize : i.size = size) (hby : i.bytes = bytes) (hzs : z.cells.size = size) (hsz : 0 < size)
    (v : Value) (n : Nat) (hs : a.eval s = v) (hown : w.ownsRow B e size v n (F.take (n * size)))
    {α : Type} {cells : α → List Value} (hcl : ∀ b, (cells b).length = size) (h1 : ∀ b, ∀ u ∈ cells b, u.oneCell' = true) {B' : Nat} {A : Option Addr} {m c : Nat} {l : List α} (hx : a.eval x = .slice A m c) (hA : A = none → c = 0) (hm : l.length = m)
    (hr : Recs cells size w B' A l) (hF : F.take (n * size) ++ l.flatMap cells = F.take ((n + m) * size)) (h63 : n + m ≤ maxLen) (hbytes : (n + m) * bytes ≤ 140737488355328) (hbase : B ≤ w.heap.size) :
    Gives P o a w (fun v' W' => W'.ownsRow B e size v' (n + m) (F.take ((n + m) * size)) ∧ KpRow B e size F w W') := by
  cases A with
  | none =>
    have hc := hA rfl
    have hl : l = [] := by
      cases l with
      | nil => rfl
      | cons b l =>
        obtain ⟨_, _, e, _⟩ := hr (by simp)
        cases e
    subst hl
    obtain rfl : m = 0 := by rw [← hm]; rfl
    subst hc
    have hrun := run_append_owned_none (P := P) (w := w) B t o.type e i size ht hi v n _ hown
    unfold Gives
    simp [execOp, ho, resolve, invoke, builtin, hs, hx, hrun, Result.andThen]
    exact ⟨hown, (kpRow_keeps B e size F).refl w⟩
  | some ad =>
    obtain ⟨v', w', hrun, r1, r2⟩ := run_append_row (P := P) w B t o.type e i z size bytes ht hi hz hsize hby hzs hsz F v n hown ad m c (l.flatMap cells) (by rw [flat_len hcl, hm]) (recs_cells hsz hcl hr)
      (fun u hu => by obtain ⟨b, -, hb⟩ := List.mem_flatMap.1 hu; exact h1 b u hb) hF h63 hbytes hbase
    unfold Gives
    simp [execOp, ho, resolve, invoke, builtin, hs, hx, hrun, Result.andThen]
    exact ⟨r1, r2⟩
/-- An empty slice literal. -/
theorem gives_empty_row {o : Oper} {a : Act} {w : World} (F : List Value) (B : Nat) (e : TypeId) (size : Nat) (hbase : B ≤ w.heap.size)
    (hrun : (execOp a.eval o).run P w = .ok (.value (.slice (some ⟨w.heap.size, 0, none⟩) 0 0)) (w.alloc (.cells #[] e))) :
    Gives P o a w (fun v' W' => W'.ownsRow B e size v' 0 (F.take (0 * size)) ∧ KpRow B e size F w W') := by
  unfold Gives
  rw [hrun]
  exact ⟨⟨by simp, .inr ⟨w.heap.size, 0, #[], rfl, hbase, by rw [World.alloc]; simp, by omega, by unfold maxLen; omega, by simp, by simp⟩⟩, KpRow.of_below (below_alloc w _) hbase⟩
end
end Go.Rel
