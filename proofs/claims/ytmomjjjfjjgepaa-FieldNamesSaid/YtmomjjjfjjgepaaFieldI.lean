/- Value and Axis on both sides, for every field and point. -/
import Derived.Test.YtmomjjjfjjgepaaFieldG
namespace Go.Proofs.Ytmomjjjfjjgepaa
open Go.RowKit Go.Rel

theorem ret2_ints {w w' : World} {k k' : IntKind} {a a' b b' : Int} (h1 : a = a') (h2 : b = b') (hb : Below w.heap.size w w') : Ret w (.tuple #[.int k a', .int k' b']) (.returned (.tuple #[.int k a, .int k' b])) w' := ⟨by rw [h1, h2], hb⟩
theorem valueE_field {l : List Pull} {p : Pt} {e : Int} (h : fieldE l = e) (he : e ≠ 0) : valueE l p = e ∧ valueV l p = 0 ∧ axisV l p = 0 := by
  have : valueE l p = e := by unfold valueE; rw [if_neg (by rw [h]; exact he)]; exact h
  exact ⟨this, if_neg (by rw [this]; exact he), if_neg (by rw [this]; exact he)⟩
theorem valueE_arg {l : List Pull} {p : Pt} (h : fieldE l = 0) (hp : inB p.x p.y = false) : valueE l p = 2 ∧ valueV l p = 0 ∧ axisV l p = 0 := by
  have : valueE l p = 2 := by unfold valueE; rw [if_pos h, if_neg (by rw [hp]; simp)]
  exact ⟨this, if_neg (by rw [this]; decide), if_neg (by rw [this]; decide)⟩
theorem valueE_ok {l : List Pull} {p : Pt} (h : fieldE l = 0) (hp : inB p.x p.y = true) : valueE l p = 0 ∧ valueV l p = valueP l p ∧ axisV l p = axisP (valueP l p) := by
  have : valueE l p = 0 := by unfold valueE; rw [if_pos h, if_pos hp]
  exact ⟨this, if_pos this, if_pos this⟩
theorem valueE_cases (l : List Pull) (p : Pt) : (valueE l p = 0 ∧ Fine l ∧ inB p.x p.y = true) ∨ valueE l p = 2 ∨ valueE l p = 4 ∨ valueE l p = 8 := by
  rcases fieldE_cases l with ⟨h, h0⟩ | ⟨-, h | h⟩
  · cases hp : inB p.x p.y with
    | true => exact .inl ⟨(valueE_ok h0 hp).1, h, rfl⟩
    | false => exact .inr (.inl (valueE_arg h0 hp).1)
  · exact .inr (.inr (.inl (valueE_field h (by decide)).1))
  · exact .inr (.inr (.inr (valueE_field h (by decide)).1))

set_option maxHeartbeats 1000000 in
theorem value_any (A : Option Addr) (n cap : Nat) (l : List Pull) (p : Pt) (w : World) (hn : l.length = n) (hl : n ≤ 4611686018427387904) (hv : Recs Pull.cells 5 w w.heap.size A l) (h64 : ∀ u ∈ l, u.In64) (hp : p.In64) :
    Calls Try.prog 13 #[.slice A n cap, p.v] w (Ret w (.tuple #[.int .i64 (valueV l p), .int .i64 (valueE l p)])) := by
  have c1 := fun w hv => check_any A n cap l w hn hl hv h64
  have c2 := fun w => inside_any p w hp
  have x1 := below_alloc w (.cells #[.int .i64 p.x, .int .i64 p.y] 24)
  have x3 := Blk.new w 24 #[.int .i64 p.x, .int .i64 p.y]
  have hx := Lib.hid (show _ ∧ _ from ⟨x1, x3⟩)
  have HN := Lib.hid hn
  clear hn x1 x3 h64 hp
  rcases fieldE_cases l with ⟨hf, he⟩ | ⟨-, he | he⟩
  · rw [he] at c1
    cases hi : inB p.x p.y with
    | true =>
      have HO := Lib.hid (valueE_ok he hi)
      have HI := Lib.hid hi
      rw [hi] at c2
      clear he hi
      go_enter Try.func13, Try.ntmps13
      go_wp2_with fail
      obtain ⟨x1, x3⟩ := hx.out
      generalize World.alloc _ _ = w0 at x1 x3 ⊢
      refine (c1 _ ((hv.below x1).more x1.size)).mono ?_
      rintro e w1 ⟨rfl, hb1⟩
      replace x1 := x1.trans (hb1.mono x1.size)
      replace x3 := x3.keep hb1
      have y0 := x3.cell (i := 0) rfl
      have y1 := x3.cell (i := 1) rfl
      clear hb1 hx c1
      go_wp2_with fail
      refine (c2 _).mono ?_
      rintro e w2 ⟨rfl, hb1⟩
      replace x1 := x1.trans (hb1.mono x1.size)
      replace x3 := x3.keep hb1
      clear hb1 c2 y0 y1
      have y0 := x3.cell (i := 0) rfl
      have y1 := x3.cell (i := 1) rfl
      go_wp2_with fail
      refine (sum_any A n cap l p _ HN.out ((hv.below x1).more x1.size) hf HI.out).mono ?_
      rintro e w3 ⟨rfl, hb1⟩
      replace x1 := x1.trans (hb1.mono x1.size)
      clear hb1 y0 y1 x3 hv
      go_wp2_with fail
      go_ret2
      exact ret2_ints HO.out.2.1.symm HO.out.1.symm x1
    | false =>
      have HO := Lib.hid (valueE_arg he hi)
      rw [hi] at c2
      clear he hi hf
      go_enter Try.func13, Try.ntmps13
      go_wp2_with fail
      obtain ⟨x1, x3⟩ := hx.out
      generalize World.alloc _ _ = w0 at x1 x3 ⊢
      refine (c1 _ ((hv.below x1).more x1.size)).mono ?_
      rintro e w1 ⟨rfl, hb1⟩
      replace x1 := x1.trans (hb1.mono x1.size)
      replace x3 := x3.keep hb1
      have y0 := x3.cell (i := 0) rfl
      have y1 := x3.cell (i := 1) rfl
      clear hb1 hx c1
      go_wp2_with fail
      refine (c2 _).mono ?_
      rintro e w2 ⟨rfl, hb1⟩
      replace x1 := x1.trans (hb1.mono x1.size)
      clear hb1 c2 y0 y1 x3 hv
      go_wp2_with fail
      go_ret2
      exact ret2_ints HO.out.2.1.symm HO.out.1.symm x1
  all_goals
    have HO := Lib.hid (valueE_field (p := p) he (by decide))
    rw [he] at c1
    clear he c2
    go_enter Try.func13, Try.ntmps13
    go_wp2_with fail
    obtain ⟨x1, x3⟩ := hx.out
    generalize World.alloc _ _ = w0 at x1 x3 ⊢
    refine (c1 _ ((hv.below x1).more x1.size)).mono ?_
    rintro e w1 ⟨rfl, hb1⟩
    replace x1 := x1.trans (hb1.mono x1.size)
    clear hb1 hx x3
    go_wp2_with fail
    go_ret2
    exact ret2_ints HO.out.2.1.symm HO.out.1.symm x1

set_option maxHeartbeats 1000000 in
theorem refValue_any (A : Option Addr) (n cap : Nat) (l : List Pull) (p : Pt) (w : World) (hn : l.length = n) (hl : n ≤ 4611686018427387904) (hv : Recs Pull.cells 5 w w.heap.size A l) (h64 : ∀ u ∈ l, u.In64) (hp : p.In64) :
    Calls Try.prog 14 #[.slice A n cap, p.v] w (Ret w (.tuple #[.int .i64 (valueV l p), .int .i64 (valueE l p)])) := by
  have c1 := fun w hv => refCheck_any A n cap l w hn hl hv h64
  have c2 := fun w => in_any p w hp
  have x1 := below_alloc w (.cells #[.int .i64 p.x, .int .i64 p.y] 24)
  have x3 := Blk.new w 24 #[.int .i64 p.x, .int .i64 p.y]
  have hx := Lib.hid (show _ ∧ _ from ⟨x1, x3⟩)
  have HN := Lib.hid hn
  clear hn x1 x3 h64 hp
  rcases fieldE_cases l with ⟨hf, he⟩ | ⟨-, he | he⟩
  · rw [he] at c1
    cases hi : inB p.x p.y with
    | true =>
      have HO := Lib.hid (valueE_ok he hi)
      have HI := Lib.hid hi
      rw [hi] at c2
      clear he hi
      go_enter Try.func14, Try.ntmps14
      go_wp2_with fail
      obtain ⟨x1, x3⟩ := hx.out
      generalize World.alloc _ _ = w0 at x1 x3 ⊢
      refine (c1 _ ((hv.below x1).more x1.size)).mono ?_
      rintro e w1 ⟨rfl, hb1⟩
      replace x1 := x1.trans (hb1.mono x1.size)
      replace x3 := x3.keep hb1
      have y0 := x3.cell (i := 0) rfl
      have y1 := x3.cell (i := 1) rfl
      clear hb1 hx c1
      go_wp2_with fail
      refine (c2 _).mono ?_
      rintro e w2 ⟨rfl, hb1⟩
      replace x1 := x1.trans (hb1.mono x1.size)
      replace x3 := x3.keep hb1
      clear hb1 c2 y0 y1
      have y0 := x3.cell (i := 0) rfl
      have y1 := x3.cell (i := 1) rfl
      go_wp2_with fail
      refine (refSum_any A n cap l p _ HN.out ((hv.below x1).more x1.size) hf HI.out).mono ?_
      rintro e w3 ⟨rfl, hb1⟩
      replace x1 := x1.trans (hb1.mono x1.size)
      clear hb1 y0 y1 x3 hv
      go_wp2_with fail
      go_ret2
      exact ret2_ints HO.out.2.1.symm HO.out.1.symm x1
    | false =>
      have HO := Lib.hid (valueE_arg he hi)
      rw [hi] at c2
      clear he hi hf
      go_enter Try.func14, Try.ntmps14
      go_wp2_with fail
      obtain ⟨x1, x3⟩ := hx.out
      generalize World.alloc _ _ = w0 at x1 x3 ⊢
      refine (c1 _ ((hv.below x1).more x1.size)).mono ?_
      rintro e w1 ⟨rfl, hb1⟩
      replace x1 := x1.trans (hb1.mono x1.size)
      replace x3 := x3.keep hb1
      have y0 := x3.cell (i := 0) rfl
      have y1 := x3.cell (i := 1) rfl
      clear hb1 hx c1
      go_wp2_with fail
      refine (c2 _).mono ?_
      rintro e w2 ⟨rfl, hb1⟩
      replace x1 := x1.trans (hb1.mono x1.size)
      clear hb1 c2 y0 y1 x3 hv
      go_wp2_with fail
      go_ret2
      exact ret2_ints HO.out.2.1.symm HO.out.1.symm x1
  all_goals
    have HO := Lib.hid (valueE_field (p := p) he (by decide))
    rw [he] at c1
    clear he c2
    go_enter Try.func14, Try.ntmps14
    go_wp2_with fail
    obtain ⟨x1, x3⟩ := hx.out
    generalize World.alloc _ _ = w0 at x1 x3 ⊢
    refine (c1 _ ((hv.below x1).more x1.size)).mono ?_
    rintro e w1 ⟨rfl, hb1⟩
    replace x1 := x1.trans (hb1.mono x1.size)
    clear hb1 hx x3
    go_wp2_with fail
    refine (c1 _ ((hv.below x1).more x1.size)).mono ?_
    rintro e w2 ⟨rfl, hb1⟩
    replace x1 := x1.trans (hb1.mono x1.size)
    clear hb1
    go_wp2_with fail
    go_ret2
    exact ret2_ints HO.out.2.1.symm HO.out.1.symm x1

set_option maxHeartbeats 1000000 in
theorem axisF_any (A : Option Addr) (n cap : Nat) (l : List Pull) (p : Pt) (w : World) (hn : l.length = n) (hl : n ≤ 4611686018427387904) (hv : Recs Pull.cells 5 w w.heap.size A l) (h64 : ∀ u ∈ l, u.In64) (hp : p.In64) :
    Calls Try.prog 15 #[.slice A n cap, p.v] w (Ret w (.tuple #[.int .u8 (axisV l p), .int .i64 (valueE l p)])) := by
  have c1 := fun w hv => value_any A n cap l p w hn hl hv h64 hp
  have x1 := below_alloc w (.cells #[.int .i64 p.x, .int .i64 p.y] 24)
  have x3 := Blk.new w 24 #[.int .i64 p.x, .int .i64 p.y]
  have hx := Lib.hid (show _ ∧ _ from ⟨x1, x3⟩)
  have HN := Lib.hid hn
  have HA : axisV l p = if valueE l p = 0 then axisP (valueP l p) else 0 := rfl
  clear hn x1 x3 h64 hp
  rcases valueE_cases l p with ⟨he, hf, hi⟩ | he | he | he
  · have HE := Lib.hid he
    have HI := Lib.hid hi
    rw [if_pos he] at HA
    have HA' := Lib.hid HA
    rw [he] at c1
    clear he hi HA
    go_enter Try.func15, Try.ntmps15
    go_wp2_with fail
    obtain ⟨x1, x3⟩ := hx.out
    generalize World.alloc _ _ = w0 at x1 x3 ⊢
    refine (c1 _ ((hv.below x1).more x1.size)).mono ?_
    rintro e w1 ⟨rfl, hb1⟩
    replace x1 := x1.trans (hb1.mono x1.size)
    replace x3 := x3.keep hb1
    have y0 := x3.cell (i := 0) rfl
    have y1 := x3.cell (i := 1) rfl
    clear hb1 hx c1
    go_wp2_with fail
    refine (axis_any A n cap l p _ HN.out ((hv.below x1).more x1.size) hf HI.out).mono ?_
    rintro e w2 ⟨rfl, hb1⟩
    replace x1 := x1.trans (hb1.mono x1.size)
    clear hb1 y0 y1 x3 hv
    go_wp2_with fail
    go_ret2
    exact ret2_ints HA'.out.symm HE.out.symm x1
  all_goals
    have HE := Lib.hid he
    rw [if_neg (by rw [he]; decide)] at HA
    have HA' := Lib.hid HA
    rw [he] at c1
    clear he HA
    go_enter Try.func15, Try.ntmps15
    go_wp2_with fail
    obtain ⟨x1, x3⟩ := hx.out
    generalize World.alloc _ _ = w0 at x1 x3 ⊢
    refine (c1 _ ((hv.below x1).more x1.size)).mono ?_
    rintro e w1 ⟨rfl, hb1⟩
    replace x1 := x1.trans (hb1.mono x1.size)
    clear hb1 hx c1 x3 hv
    go_wp2_with fail
    go_ret2
    exact ret2_ints HA'.out.symm HE.out.symm x1

set_option maxHeartbeats 1000000 in
theorem refAxis_any (A : Option Addr) (n cap : Nat) (l : List Pull) (p : Pt) (w : World) (hn : l.length = n) (hl : n ≤ 4611686018427387904) (hv : Recs Pull.cells 5 w w.heap.size A l) (h64 : ∀ u ∈ l, u.In64) (hp : p.In64) :
    Calls Try.prog 16 #[.slice A n cap, p.v] w (Ret w (.tuple #[.int .u8 (axisV l p), .int .i64 (valueE l p)])) := by
  have c1 := fun w hv => refValue_any A n cap l p w hn hl hv h64 hp
  have x1 := below_alloc w (.cells #[.int .i64 p.x, .int .i64 p.y] 24)
  have x3 := Blk.new w 24 #[.int .i64 p.x, .int .i64 p.y]
  have hx := Lib.hid (show _ ∧ _ from ⟨x1, x3⟩)
  have HN := Lib.hid hn
  have HA : axisV l p = if valueE l p = 0 then axisP (valueP l p) else 0 := rfl
  clear hn x1 x3 h64 hp
  rcases valueE_cases l p with ⟨he, hf, hi⟩ | he | he | he
  · have HE := Lib.hid he
    have HI := Lib.hid hi
    rw [if_pos he] at HA
    have HA' := Lib.hid HA
    rw [he] at c1
    clear he hi HA
    go_enter Try.func16, Try.ntmps16
    go_wp2_with fail
    obtain ⟨x1, x3⟩ := hx.out
    generalize World.alloc _ _ = w0 at x1 x3 ⊢
    refine (c1 _ ((hv.below x1).more x1.size)).mono ?_
    rintro e w1 ⟨rfl, hb1⟩
    replace x1 := x1.trans (hb1.mono x1.size)
    replace x3 := x3.keep hb1
    have y0 := x3.cell (i := 0) rfl
    have y1 := x3.cell (i := 1) rfl
    clear hb1 hx c1
    go_wp2_with fail
    refine (along_any A n cap l p _ HN.out ((hv.below x1).more x1.size) hf HI.out).mono ?_
    rintro e w2 ⟨rfl, hb1⟩
    replace x1 := x1.trans (hb1.mono x1.size)
    clear hb1 y0 y1 x3 hv
    go_wp2_with fail
    go_ret2
    exact ret2_ints HA'.out.symm HE.out.symm x1
  all_goals
    have HE := Lib.hid he
    rw [if_neg (by rw [he]; decide)] at HA
    have HA' := Lib.hid HA
    rw [he] at c1
    clear he HA
    go_enter Try.func16, Try.ntmps16
    go_wp2_with fail
    obtain ⟨x1, x3⟩ := hx.out
    generalize World.alloc _ _ = w0 at x1 x3 ⊢
    refine (c1 _ ((hv.below x1).more x1.size)).mono ?_
    rintro e w1 ⟨rfl, hb1⟩
    replace x1 := x1.trans (hb1.mono x1.size)
    clear hb1 hx c1 x3 hv
    go_wp2_with fail
    go_ret2
    exact ret2_ints HA'.out.symm HE.out.symm x1
end Go.Proofs.Ytmomjjjfjjgepaa
