/-
  Closed facts of this seat's program that several walks use. No condition.
-/
import Derived.Test.YtdhdjmeolkobeaaDoorRows
import Derived.Test.YtdhdjmeolkobeaaDoorBase
namespace Go.Proofs.YtdhdjmeolkobeaaDoor
open Go.RowKit
set_option linter.unusedVariables false
set_option linter.unusedSimpArgs false
theorem own : ownKnob Tryd.prog.godebug = none := by kernel_rfl
theorem laidOut : laidOutB Tryd.prog = true := by kernel_rfl
theorem infoB : (Tryd.prog.info? 5).map (fun i => (i.zero, i.size, i.bytes)) = some (some (.int .u8 0), 1, 1) := by kernel_rfl
/-- 'string(out)' of a slice of bytes that the call has built. -/
theorem text {B : Nat} {w0 w : World} {v : Value} {l : List UInt8} (h : Bld 5 B w0 w v l) :
    (convert 42 9 v).run Tryd.prog w = .ok (.string (bstr l)) w :=
  h.text _ _ Tryd.underlying42 Tryd.underlying5 Tryd.underlying9
/-- 'string([]byte{c})'. -/
theorem text1 (w : World) (n : Int) (c : UInt8) (hn : n = (c.toNat : Int)) :
    (convert 42 9 (.slice (some ⟨w.heap.size, 0, none⟩) 1 1)).run Tryd.prog (w.alloc (.cells #[.int .u8 n] 5)) = .ok (.string (bstr [c])) (w.alloc (.cells #[.int .u8 n] 5)) := by
  subst hn
  have h : LiesB (w.alloc (.cells #[.int .u8 (c.toNat : Int)] 5)) w.heap.size [c] := by
    intro j hj
    obtain rfl : j = 0 := by simp at hj; omega
    exact ⟨by rw [World.cell?_alloc_at _ _ _ _ rfl]; rfl, World.frozen?_alloc_at _ _ _ _ rfl⟩
  exact h.text 1 1 rfl _ _ _ Tryd.underlying42 Tryd.underlying5 Tryd.underlying9
/-- 'make([]byte, n, c)'. -/
theorem makeB (w : World) (n c : Nat) (hn : n ≤ c) (hc : c ≤ 281474976710656) :
    (Instr.makeSlice 42 (.int .i64 (n : Int)) (.int .i64 (c : Int))).run Tryd.prog w = .ok (.slice (some ⟨w.heap.size, 0, none⟩) n c) (w.alloc (.cells (madeCells #[.int .u8 0] c) 5)) := by
  obtain ⟨i, hi0, h1, h2, h3⟩ := info_parts infoB
  have := run_make (P := Tryd.prog) w 42 5 i (.int .u8 0) Tryd.underlying42 hi0 h1 .i64 .i64 n c (by omega) (by omega) (by rw [h3]; omega) (by omega)
  rw [h2] at this
  simpa [Value.cells] using this
end Go.Proofs.YtdhdjmeolkobeaaDoor
