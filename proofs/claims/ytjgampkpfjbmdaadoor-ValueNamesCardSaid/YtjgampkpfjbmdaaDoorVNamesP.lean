/- The examples of names, in plain terms. -/
import Derived.Test.YtjgampkpfjbmdaaDoorPack21
namespace Go.Proofs.YtjgampkpfjbmdaaDoor
open Go.RowKit Go.Rel
theorem bad_form {l : Bs} (h : parseVE l = 12) : parseVT l = .none_ := by
  unfold parseVE at h
  unfold parseVT
  split
  · rename_i h1; rw [if_pos h1] at h; cases h
  · rfl
theorem form1 : parseVE [91, 49, 44, 50, 93] = 12 := by decide +kernel
theorem form2 : parseVE [48, 49] = 12 := by decide +kernel
theorem form3 : parseVE [34, 97] = 12 := by decide +kernel
theorem form4 : parseVE [] = 12 := by decide +kernel
theorem form5 : parseVE [84, 114, 117, 101] = 12 := by decide +kernel
theorem form6 : parseVE [91, 49, 44, 32, 93] = 12 := by decide +kernel
theorem form7 : parseVE [91, 32, 93] = 12 := by decide +kernel
theorem form8 : parseVE [34, 92, 110, 34] = 12 := by decide +kernel
theorem form9 : parseVE [34, 92, 34] = 12 := by decide +kernel
theorem form10 : parseVE [32, 49] = 12 := by decide +kernel
theorem form11 : parseVE [49, 32] = 12 := by decide +kernel
theorem form12 : parseVE [91, 91, 91, 91, 91, 91, 91, 93, 93, 93, 93, 93, 93, 93] = 12 := by decide +kernel
theorem form13 : parseVE [50, 47, 52] = 12 := by decide +kernel
theorem form14 : parseVE [91, 49] = 12 := by decide +kernel
theorem form15 : parseVE [110, 105, 108] = 12 := by decide +kernel
/-- Lists in each other. -/
def nestT : Nat → Tree
  | 0 => tList []
  | n + 1 => tList [nestT n]
theorem nest_fit : ∀ n, n ≤ 8 → fitT (nestT n) (n + 1) = true
  | 0, _ => by decide
  | n + 1, h => by
    have := nest_fit n (by omega)
    unfold nestT tList
    rw [fitT_succ]
    simp only [fitL, this]
    rfl
theorem valid_kernel {T : Tree} (h : (decide (partsT T ≤ 100) && (decide (deepT T ≤ 6) && fineT T)) = true) : Valid T := by
  simp only [Bool.and_eq_true, decide_eq_true_eq] at h
  exact ⟨h.1, h.2.1, h.2.2⟩
theorem tv1 : Valid (tList []) := valid_kernel (by decide +kernel)
theorem tx1 : (parseVT [91, 93] = tList [] ∧ parseVE [91, 93] = 0) ∧ (textVS (tList []) = ⟨#[91, 93]⟩ ∧ textVE (tList []) = 0) := text_of (s := ⟨#[91, 93]⟩) tv1 (by decide +kernel) (by decide)
theorem tv2 : Valid (nestT 5) := valid_kernel (by decide +kernel)
theorem tx2 : (parseVT [91, 91, 91, 91, 91, 91, 93, 93, 93, 93, 93, 93] = nestT 5 ∧ parseVE [91, 91, 91, 91, 91, 91, 93, 93, 93, 93, 93, 93] = 0) ∧ (textVS (nestT 5) = ⟨#[91, 91, 91, 91, 91, 91, 93, 93, 93, 93, 93, 93]⟩ ∧ textVE (nestT 5) = 0) := text_of (s := ⟨#[91, 91, 91, 91, 91, 91, 93, 93, 93, 93, 93, 93]⟩) tv2 (by decide +kernel) (by decide)
theorem tv3 : Valid (tNum ⟨-7, 3⟩) := valid_kernel (by decide +kernel)
theorem tx3 : (parseVT [45, 55, 47, 51] = tNum ⟨-7, 3⟩ ∧ parseVE [45, 55, 47, 51] = 0) ∧ (textVS (tNum ⟨-7, 3⟩) = ⟨#[45, 55, 47, 51]⟩ ∧ textVE (tNum ⟨-7, 3⟩) = 0) := text_of (s := ⟨#[45, 55, 47, 51]⟩) tv3 (by decide +kernel) (by decide)
theorem tv4 : Valid (tStr ⟨#[]⟩) := valid_kernel (by decide +kernel)
theorem tx4 : (parseVT [34, 34] = tStr ⟨#[]⟩ ∧ parseVE [34, 34] = 0) ∧ (textVS (tStr ⟨#[]⟩) = ⟨#[34, 34]⟩ ∧ textVE (tStr ⟨#[]⟩) = 0) := text_of (s := ⟨#[34, 34]⟩) tv4 (by decide +kernel) (by decide)
theorem tv5 : Valid (tStr ⟨#[92]⟩) := valid_kernel (by decide +kernel)
theorem tx5 : (parseVT [34, 92, 92, 34] = tStr ⟨#[92]⟩ ∧ parseVE [34, 92, 92, 34] = 0) ∧ (textVS (tStr ⟨#[92]⟩) = ⟨#[34, 92, 92, 34]⟩ ∧ textVE (tStr ⟨#[92]⟩) = 0) := text_of (s := ⟨#[34, 92, 92, 34]⟩) tv5 (by decide +kernel) (by decide)
theorem tv6 : Valid (tBool false) := valid_kernel (by decide +kernel)
theorem tx6 : (parseVT [102, 97, 108, 115, 101] = tBool false ∧ parseVE [102, 97, 108, 115, 101] = 0) ∧ (textVS (tBool false) = ⟨#[102, 97, 108, 115, 101]⟩ ∧ textVE (tBool false) = 0) := text_of (s := ⟨#[102, 97, 108, 115, 101]⟩) tv6 (by decide +kernel) (by decide)
def many99 : List Tree := List.replicate 99 (tNum ⟨0, 1⟩)
theorem ck1 : chkT (nestT 6) = 4 := by decide +kernel
theorem ck2 : chkT (tList many99) = 0 := by decide +kernel
theorem ck3 : chkT (tList [tList many99]) = 4 := by decide +kernel
theorem ck4 : chkT .none_ = 8 := by decide +kernel
theorem ck5 : chkT (.node 2 ⟨0, 0⟩ true ⟨#[120]⟩ []) = 8 := by decide +kernel
theorem ck5' : chkT (.node 2 ⟨0, 0⟩ false ⟨#[120]⟩ []) = 8 := by decide +kernel
theorem ck6 : chkT (tStr ⟨#[97, 10]⟩) = 8 := by decide +kernel
theorem ck7 : chkT (tNum ⟨2, 4⟩) = 8 := by decide +kernel
theorem ck8 : chkT (.node 5 ⟨0, 0⟩ false ⟨#[]⟩ []) = 8 := by decide +kernel
theorem ck9 : chkT (tList [.none_]) = 8 := by decide +kernel
def sixtyS : ByteArray := ⟨#[48, 49, 50, 51, 52, 53, 54, 55, 56, 57, 48, 49, 50, 51, 52, 53, 54, 55, 56, 57, 48, 49, 50, 51, 52, 53, 54, 55, 56, 57, 48, 49, 50, 51, 52, 53, 54, 55, 56, 57, 48, 49, 50, 51, 52, 53, 54, 55, 56, 57, 48, 49, 50, 51, 52, 53, 54, 55, 56, 57]⟩
theorem er1 : addE (tList many99) (tList [tNum ⟨0, 1⟩]) = 4 := by decide +kernel
theorem er2 : addE (tStr sixtyS) (tStr ⟨#[48]⟩) = 4 := by decide +kernel
theorem er3 : addE (tBool true) (tBool true) = 20 := by decide +kernel
theorem er4 : atE (tNum ⟨1, 1⟩) (-1) = 20 := by decide +kernel
theorem er5 : atE (tList []) 0 = 2 := by decide +kernel
theorem er6 : atE (tStr ⟨#[97, 98, 99]⟩) 2 = 0 := by decide +kernel
theorem er7 : lenE (tBool true) = 20 := by decide +kernel
theorem er8 : makeE 1 0 = 18 := by decide +kernel
theorem er6' : (atT (tStr ⟨#[97, 98, 99]⟩) 2).s = ⟨#[99]⟩ := by decide +kernel
theorem cmpft : ordT (tBool false) (tBool true) = (-1, 0) := by unfold tBool; rw [ord_truth]; rfl
end Go.Proofs.YtjgampkpfjbmdaaDoor
