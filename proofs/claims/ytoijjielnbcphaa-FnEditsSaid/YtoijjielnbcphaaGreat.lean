/-
  What the great laws share: the code as an argument, its size, the frame of a draw. No condition.
-/
import Derived.Test.YtoijjielnbcphaaDraw2
import Derived.Test.YtoijjielnbcphaaOpen
namespace Go.Proofs.Ytoijjielnbcphaa
open Go.ChangeShapes Go.WideShapes Go.ChangeAt Go.RowKit
set_option linter.unusedVariables false
set_option linter.unusedSimpArgs false
set_option maxRecDepth 100000
theorem fU_byte' (x : Nat) (h : x ≤ 255) : Value.int .u8 (x : Int) = fU (UInt8.ofNat x) := by unfold fU; rw [byte_of x (by omega)]
structure ArgB (w : World) (a : Option Addr) (n : Nat) (l : List UInt8) : Prop where
  len : l.length = n
  row : RowAt fU w a l
theorem open_bytes_is {H : Type} {enc : TypeId × Value → H} {P : Program} {w : World} {base : Nat} {spare : Nat → Bool} {held : Bool} {t e : TypeId} {a : Option Addr} {len cap : Nat} {d : DataW H} {ps : List MemPlace}
    (ht : P.underlying t = some (.slice e)) (he : P.underlying e = some (.int .u8)) (hc : P.cellsOf e = 1) (h : DataW.Trod enc P w base spare held t (.slice a len cap) d ps) : ∃ l, ArgB w a len l := by
  obtain ⟨fuel, hf⟩ := h
  rcases open_ints ht he hc hf with ⟨hcs, _⟩ | ⟨x, l, c, ss, hcs, _, hl, hm, hz, _, hcell, hws⟩
  · simp [Value.cells] at hcs
    obtain ⟨rfl, rfl, rfl⟩ := hcs
    exact ⟨[], rfl, Or.inl rfl⟩
  · simp [Value.cells] at hcs
    obtain ⟨rfl, rfl, rfl⟩ := hcs
    have hll : len ≤ ss.length := by rw [hz]; split <;> omega
    refine ⟨(ss.take len).map fun z => UInt8.ofNat z.toNat, by simp; omega, row_of_cells ?_⟩
    intro i y hy
    rw [List.getElem?_map, Option.map_eq_some_iff] at hy
    obtain ⟨z, hy, rfl⟩ := hy
    have hmem : z ∈ ss := List.mem_of_mem_take (List.mem_of_getElem? hy)
    have hr := hws z hmem
    have hr2 : 0 ≤ z ∧ z ≤ 255 := by
      have h2 : IntKind.u8.min ≤ z ∧ z ≤ IntKind.u8.max := by simpa [Lit.wf] using hr
      exact h2
    rw [List.getElem?_take] at hy
    split at hy
    · have := hcell i (by omega)
      rw [this, List.getD, hy]
      show some (Value.int .u8 z) = some (fU (UInt8.ofNat z.toNat))
      rw [← fU_byte' z.toNat (by omega)]
      congr 2; omega
    · cases hy
theorem big_any (a : Option Addr) (n c : Nat) (w : World) : Calls Try.prog 5 #[.slice a n c] w fun e w' => e = .returned (.bool (decide (1048576 < n))) ∧ w = w' := by
  by_cases h : 1048576 < n
  · have h1 : (1048576 : Int) < (n : Int) := by omega
    have H : Hid (decide (1048576 < n) = true) := Lib.hid (decide_eq_true h)
    go_enter Try.func5, Try.ntmps5
    go_wp2
    go_ret
    exact ⟨by rw [H.out]; rfl, rfl⟩
  · have h1 : decide ((1048576 : Int) < (n : Int)) = false := decide_eq_false (by omega)
    have H : Hid (decide (1048576 < n) = false) := Lib.hid (decide_eq_false h)
    go_enter Try.func5, Try.ntmps5
    go_wp2
    go_ret
    exact ⟨by rw [H.out]; rfl, rfl⟩
end Go.Proofs.Ytoijjielnbcphaa
