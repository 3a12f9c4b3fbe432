/-
  Plain helpers: a row that lies below a bound is left alone by what turns higher blocks. No condition.
-/
import Derived.Test.YtdhdjmeolkobeaaDoorMark
namespace Go.Proofs.YtdhdjmeolkobeaaDoor
open Go.RowKit
set_option linter.unusedVariables false
set_option linter.unusedSimpArgs false
/-- A slice's row in a block below N. -/
def RowUp {α : Type} (f : α → Value) (N : Nat) (w : World) (a : Option Addr) (l : List α) : Prop :=
  N ≤ w.heap.size ∧ (l = [] ∨ ∃ b off, a = some ⟨b, off, none⟩ ∧ b < N ∧ ∀ i x, l[i]? = some x → w.cell? ⟨b, off + i, none⟩ = some (f x))
section
variable {α : Type} {f : α → Value}
theorem RowAt.up {w : World} {a : Option Addr} {l : List α} (h : RowAt f w a l) : RowUp f w.heap.size w a l := by
  refine ⟨Nat.le_refl _, ?_⟩
  rcases h with h | ⟨b, off, h1, h2⟩
  · exact Or.inl h
  · cases l with
    | nil => exact Or.inl rfl
    | cons x l => exact Or.inr ⟨b, off, h1, World.block_lt_of_cell? w _ (h2 0 x rfl), h2⟩
theorem RowUp.at {N : Nat} {w : World} {a : Option Addr} {l : List α} (h : RowUp f N w a l) : RowAt f w a l := by
  rcases h.2 with h | ⟨b, off, h1, h2, h3⟩
  · exact Or.inl h
  · exact Or.inr ⟨b, off, h1, h3⟩
theorem RowUp.below {N : Nat} {w w' : World} {a : Option Addr} {l : List α} (h : RowUp f N w a l) (hb : Below w.heap.size w w') : RowUp f N w' a l := by
  refine ⟨Nat.le_trans h.1 hb.size, ?_⟩
  rcases h.2 with h2 | ⟨b, off, h1, h2, h3⟩
  · exact Or.inl h2
  · exact Or.inr ⟨b, off, h1, h2, fun i x hx => (hb.cell (p := ⟨b, off + i, none⟩) (Nat.lt_of_lt_of_le h2 h.1)).trans (h3 i x hx)⟩
theorem RowUp.only {N lo hi : Nat} {w w' : World} {a : Option Addr} {l : List α} (h : RowUp f N w a l) (ho : Only lo hi w w') (hd : N ≤ lo) : RowUp f N w' a l := by
  refine ⟨Nat.le_trans h.1 ho.size, ?_⟩
  rcases h.2 with h2 | ⟨b, off, h1, h2, h3⟩
  · exact Or.inl h2
  · exact Or.inr ⟨b, off, h1, h2, fun i x hx => (World.cell?_of_block (a := ⟨b, off + i, none⟩) (ho.block b (Nat.lt_of_lt_of_le h2 h.1) (Or.inl (Nat.lt_of_lt_of_le h2 hd)))).trans (h3 i x hx)⟩
end
end Go.Proofs.YtdhdjmeolkobeaaDoor
