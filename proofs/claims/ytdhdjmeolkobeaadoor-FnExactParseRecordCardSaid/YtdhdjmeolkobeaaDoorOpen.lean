/-
  Plain helpers: what is known of a slice of strings, or of ints, that comes in as an argument of a law. No condition.
-/
import Derived.Test.YtdhdjmeolkobeaaDoorSeq
import Derived.ProofKit
import Derived.OpenShut
import Derived.SliceStrings
namespace Go.Proofs.YtdhdjmeolkobeaaDoor
open Go.ChangeShapes Go.WideShapes Go.ChangeAt Go.RowKit
set_option linter.unusedVariables false
set_option linter.unusedSimpArgs false

/-- The slice of length n with head a reads as the list l in w; all lengths are those of Go. -/
structure ArgS (w : World) (a : Option Addr) (n : Nat) (l : List ByteArray) : Prop where
  len : l.length = n
  row : RowAt fS w a l
  fit : n ≤ 9223372036854775807
  fits : ∀ k (h : k < l.length), l[k].size ≤ 9223372036854775807
structure ArgI (w : World) (a : Option Addr) (n : Nat) (l : List Int) : Prop where
  len : l.length = n
  row : RowAt fI w a l
  fit : n ≤ 9223372036854775807
  fits : ∀ k (h : k < l.length), -9223372036854775808 ≤ l[k] ∧ l[k] ≤ 9223372036854775807

theorem row_of_cells {α : Type} {f : α → Value} {w : World} {x : Addr} {l : List α} (h : ∀ i y, l[i]? = some y → w.cell? (x.add i) = some (f y)) : RowAt f w (some x) l := by
  cases l with
  | nil => exact Or.inl rfl
  | cons y l =>
    obtain ⟨b, off, spot⟩ := x
    have hc := h 0 y rfl
    have hspot : spot = none := by simpa [Addr.add] using World.cell?_spot hc
    subst hspot
    exact Or.inr ⟨b, off, rfl, fun i z hz => by have := h i z hz; rwa [addr_add] at this⟩

theorem open_strs_is {H : Type} {enc : TypeId × Value → H} {P : Program} {w : World} {base : Nat} {spare : Nat → Bool} {held : Bool} {t e : TypeId} {a : Option Addr} {len cap : Nat} {d : DataW H} {ps : List MemPlace}
    (ht : P.underlying t = some (.slice e)) (he : P.underlying e = some .string) (hc : P.cellsOf e = 1) (h : DataW.Trod enc P w base spare held t (.slice a len cap) d ps) : ∃ l, ArgS w a len l := by
  obtain ⟨fuel, hf⟩ := h
  rcases open_strings ht he hc hf with ⟨hcs, _⟩ | ⟨x, l, c, ss, hcs, _, hl, hm, hz, _, hcell, hws⟩
  · simp [Value.cells] at hcs
    obtain ⟨rfl, rfl, rfl⟩ := hcs
    exact ⟨[], rfl, Or.inl rfl, by omega, fun k h => by simp at h⟩
  · simp [Value.cells] at hcs
    obtain ⟨rfl, rfl, rfl⟩ := hcs
    have hll : len ≤ ss.length := by rw [hz]; split <;> omega
    unfold maxLen at hm hws
    refine ⟨ss.take len, by simp; omega, row_of_cells ?_, by omega, ?_⟩
    · intro i y hy
      rw [List.getElem?_take] at hy
      split at hy
      · have := hcell i (by omega)
        rw [this, List.getD, hy]; rfl
      · cases hy
    · intro k h
      have := hws (ss.take len)[k] (List.mem_of_mem_take (List.getElem_mem h))
      omega

theorem open_ints_is {H : Type} {enc : TypeId × Value → H} {P : Program} {w : World} {base : Nat} {spare : Nat → Bool} {held : Bool} {t e : TypeId} {a : Option Addr} {len cap : Nat} {d : DataW H} {ps : List MemPlace}
    (ht : P.underlying t = some (.slice e)) (he : P.underlying e = some (.int .i64)) (hc : P.cellsOf e = 1) (h : DataW.Trod enc P w base spare held t (.slice a len cap) d ps) : ∃ l, ArgI w a len l := by
  obtain ⟨fuel, hf⟩ := h
  rcases open_ints ht he hc hf with ⟨hcs, _⟩ | ⟨x, l, c, ss, hcs, _, hl, hm, hz, _, hcell, hws⟩
  · simp [Value.cells] at hcs
    obtain ⟨rfl, rfl, rfl⟩ := hcs
    exact ⟨[], rfl, Or.inl rfl, by omega, fun k h => by simp at h⟩
  · simp [Value.cells] at hcs
    obtain ⟨rfl, rfl, rfl⟩ := hcs
    have hll : len ≤ ss.length := by rw [hz]; split <;> omega
    unfold maxLen at hm
    refine ⟨ss.take len, by simp; omega, row_of_cells ?_, by omega, ?_⟩
    · intro i y hy
      rw [List.getElem?_take] at hy
      split at hy
      · have := hcell i (by omega)
        rw [this, List.getD, hy]; rfl
      · cases hy
    · intro k h
      have := hws (ss.take len)[k] (List.mem_of_mem_take (List.getElem_mem h))
      have h2 : IntKind.i64.min ≤ (ss.take len)[k] ∧ (ss.take len)[k] ≤ 9223372036854775807 := by simpa [Lit.wf] using this
      exact h2
end Go.Proofs.YtdhdjmeolkobeaaDoor
