/-
  Plain laws on lists of bytes: what CollapseSpaces computes, written twice (as the reference goes, as the program goes), and that both agree. No condition.
-/
import Derived.Test.YtdhdjmeolkobeaaDoorBase
namespace Go.Proofs.YtdhdjmeolkobeaaDoor
open Go.RowKit
set_option linter.unusedVariables false
set_option linter.unusedSimpArgs false

/-- The reference: what stands in the output, and whether the byte before is a space. -/
def colStep (st : List UInt8 × Bool) (c : UInt8) : List UInt8 × Bool :=
  if c = 32 then (st.1, true) else (if st.1 = [] then [c] else if st.2 = true then st.1 ++ [32] ++ [c] else st.1 ++ [c], false)
def colSt (l : List UInt8) : List UInt8 × Bool := l.foldl colStep ([], false)
def collapse (l : List UInt8) : List UInt8 := (colSt l).1
theorem colSt_snoc (l : List UInt8) (c : UInt8) : colSt (l ++ [c]) = colStep (colSt l) c := by simp [colSt]
theorem colSt_two (l : List UInt8) (c : UInt8) : (colSt (l ++ [c])).2 = (c == 32) := by
  rw [colSt_snoc]; unfold colStep
  by_cases h : c = 32 <;> simp [h]
theorem collapse_space (l : List UInt8) (c : UInt8) (h : c = 32) : collapse (l ++ [c]) = collapse l := by
  unfold collapse; rw [colSt_snoc]; unfold colStep; rw [if_pos h]
theorem collapse_first (l : List UInt8) (c : UInt8) (h : c ≠ 32) (h0 : collapse l = []) : collapse (l ++ [c]) = [] ++ [c] := by
  unfold collapse at h0 ⊢; rw [colSt_snoc]; unfold colStep; rw [if_neg h, if_pos h0]; rfl
theorem collapse_gap (l : List UInt8) (c : UInt8) (h : c ≠ 32) (h0 : collapse l ≠ []) (h2 : (colSt l).2 = true) : collapse (l ++ [c]) = collapse l ++ [32] ++ [c] := by
  unfold collapse at h0 ⊢; rw [colSt_snoc]; unfold colStep; rw [if_neg h, if_neg h0, if_pos h2]
theorem collapse_more (l : List UInt8) (c : UInt8) (h : c ≠ 32) (h0 : collapse l ≠ []) (h2 : (colSt l).2 = false) : collapse (l ++ [c]) = collapse l ++ [c] := by
  unfold collapse at h0 ⊢; rw [colSt_snoc]; unfold colStep; rw [if_neg h, if_neg h0, if_neg (by simp [h2])]
theorem collapse_len : ∀ (l : List UInt8), (collapse l).length + (if (colSt l).2 = true ∧ collapse l ≠ [] then 1 else 0) ≤ l.length := by
  refine snoc_ind ?_ ?_
  · simp [collapse, colSt]
  · intro l c ih
    rw [colSt_two, List.length_append]
    by_cases h : c = 32
    · subst h
      rw [collapse_space l 32 rfl]
      split <;> simp <;> split at ih <;> omega
    · have hc : (c == 32) = false := by simp [h]
      rw [hc]
      by_cases h0 : collapse l = []
      · rw [collapse_first l c h h0]; simp
      · cases h2 : (colSt l).2
        · rw [collapse_more l c h h0 h2]; simp; omega
        · rw [collapse_gap l c h h0 h2]; rw [if_pos ⟨h2, h0⟩] at ih; simp; omega
/-- The last byte of the output is no space. -/
theorem collapse_last : ∀ (l : List UInt8), (collapse l).getLast? ≠ some 32 := by
  refine snoc_ind ?_ ?_
  · simp [collapse, colSt]
  · intro l c ih
    by_cases h : c = 32
    · rw [collapse_space l c h]; exact ih
    · by_cases h0 : collapse l = []
      · rw [collapse_first l c h h0]; simp [h]
      · cases h2 : (colSt l).2
        · rw [collapse_more l c h h0 h2]; simp [h]
        · rw [collapse_gap l c h h0 h2]; simp [h]

/-- The program's loop. -/
def icolStep (o : List UInt8) (c : UInt8) : List UInt8 := if c = 32 ∧ (o = [] ∨ o.getLast? = some 32) then o else o ++ [c]
def icol (l : List UInt8) : List UInt8 := l.foldl icolStep []
theorem icol_snoc (l : List UInt8) (c : UInt8) : icol (l ++ [c]) = icolStep (icol l) c := by simp [icol]
theorem icol_len : ∀ (l : List UInt8), (icol l).length ≤ l.length := by
  refine snoc_ind ?_ ?_
  · simp [icol]
  · intro l c ih; rw [icol_snoc]; unfold icolStep; split <;> simp <;> omega
theorem icol_eq : ∀ (l : List UInt8), icol l = collapse l ++ (if (colSt l).2 = true ∧ collapse l ≠ [] then [32] else []) := by
  refine snoc_ind ?_ ?_
  · simp [icol, collapse, colSt]
  · intro l c ih
    have hl := collapse_last l
    rw [icol_snoc, ih, colSt_two]
    unfold icolStep
    by_cases h : c = 32
    · subst h
      rw [collapse_space l 32 rfl]
      by_cases h0 : collapse l = []
      · simp [h0]
      · cases h2 : (colSt l).2 <;> simp [h0, h2, hl]
    · have hc : (c == 32) = false := by simp [h]
      rw [hc, if_neg (by simp [h])]
      by_cases h0 : collapse l = []
      · rw [collapse_first l c h h0]; simp [h0]
      · cases h2 : (colSt l).2
        · rw [collapse_more l c h h0 h2]; simp
        · rw [collapse_gap l c h h0 h2]; simp [h0]
/-- Without one space at the end. -/
def trim1 (l : List UInt8) : List UInt8 := if l.getLast? = some 32 then l.dropLast else l
theorem trim1_icol (l : List UInt8) : trim1 (icol l) = collapse l := by
  have hl := collapse_last l
  unfold trim1
  rw [icol_eq]
  by_cases h : (colSt l).2 = true ∧ collapse l ≠ []
  · rw [if_pos h]; simp
  · rw [if_neg h]; simp [hl]
end Go.Proofs.YtdhdjmeolkobeaaDoor
