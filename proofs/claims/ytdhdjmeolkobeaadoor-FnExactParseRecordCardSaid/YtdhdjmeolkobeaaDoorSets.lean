/-
  Walks of the reference's CommonTokens and UniteTokens. Condition: at most 2^20 elements each.
-/
import Derived.Test.YtdhdjmeolkobeaaDoorPutF
namespace Go.Proofs.YtdhdjmeolkobeaaDoor
open Go.RowKit Go.Sort
set_option linter.unusedVariables false
set_option linter.unusedSimpArgs false
set_option maxRecDepth 100000
def putsL (l : List ByteArray) : List ByteArray := (puts false (l.map bs)).map bstr
theorem putsL_nil : putsL [] = [] := rfl
theorem putsL_snoc (l : List ByteArray) (s : ByteArray) : putsL (l ++ [s]) = putL false (putsL l) s := by
  unfold putsL putL
  rw [map_bs_bstr, List.map_append]
  simp [puts, List.foldl_append]
theorem putS_len (tw : Bool) (s : Bs) : ∀ l : List Bs, (putS tw l s).length ≤ l.length + 1
  | [] => by simp [putS]
  | x :: l => by
    have := putS_len tw s l
    unfold putS
    split
    · simp; omega
    · split <;> simp
theorem putL_len (tw : Bool) (l : List ByteArray) (s : ByteArray) : (putL tw l s).length ≤ l.length + 1 := by
  unfold putL; rw [List.length_map]
  have := putS_len tw (bs s) (l.map bs)
  rw [List.length_map] at this; exact this
theorem putsL_le (l : List ByteArray) : (putsL l).length ≤ l.length := by
  have : ∀ l acc : List Bs, (l.foldl (putS false) acc).length ≤ acc.length + l.length := by
    intro l
    induction l with
    | nil => intro acc; simp
    | cons x l ih =>
      intro acc
      have h1 := ih (putS false acc x)
      have h2 := putS_len false x acc
      simp only [List.foldl_cons, List.length_cons]; omega
  have h := this (l.map bs) []
  unfold putsL puts
  rw [List.length_map]; simp at h; exact h
def inL (l : List ByteArray) (s : ByteArray) : Bool := l.any fun y => y.toList == s.toList
theorem inL_mem (l : List ByteArray) (s : ByteArray) : inL l s = decide (bs s ∈ l.map bs) := by
  unfold inL
  rw [Bool.eq_iff_iff, List.any_eq_true, decide_eq_true_eq, List.mem_map]
  constructor
  · rintro ⟨y, hy, he⟩; rw [beq_bs, beq_iff_eq] at he; exact ⟨y, hy, he⟩
  · rintro ⟨y, hy, he⟩; exact ⟨y, hy, by rw [beq_bs, beq_iff_eq]; exact he⟩
def comL (a b : List ByteArray) : List ByteArray := putsL (a.filter fun x => inL b x)
theorem filt_snoc (a b : List ByteArray) (k : Nat) (h : k < a.length) : (a.take (k + 1)).filter (fun x => inL b x) = (a.take k).filter (fun x => inL b x) ++ (if inL b a[k] then [a[k]] else []) := by
  rw [List.take_succ_eq_append_getElem h, List.filter_append]
  congr 1
  cases h2 : inL b a[k] <;> simp [h2]
theorem filt_len (a b : List ByteArray) (k : Nat) : ((a.take k).filter (fun x => inL b x)).length ≤ a.length := by
  refine Nat.le_trans (List.length_filter_le _ _) ?_
  rw [List.length_take]; omega
def uniL (a b : List ByteArray) : List ByteArray := putsL (a ++ b)
theorem uniL_eq (a b : List ByteArray) : uniL a b = (uniteS (a.map bs) (b.map bs)).map bstr := by
  unfold uniL putsL uniteS; rw [puts_sset, List.map_append]
theorem filter_map_bs (a b : List ByteArray) : (a.filter fun x => inL b x).map bs = (a.map bs).filter fun x => decide (x ∈ b.map bs) := by
  rw [List.filter_map]
  congr 1
  apply List.filter_congr
  intro x _
  simp only [Function.comp]
  exact inL_mem b x
theorem comL_eq (a b : List ByteArray) : comL a b = (commonS (a.map bs) (b.map bs)).map bstr := by
  unfold comL putsL commonS; rw [puts_sset, filter_map_bs]
end Go.Proofs.YtdhdjmeolkobeaaDoor
