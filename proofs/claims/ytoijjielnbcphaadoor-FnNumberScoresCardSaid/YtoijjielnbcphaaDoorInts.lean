/-
  Walks of the laws' small helpers on slices of ints: toIntS, eqIntS. Condition: the slices' lengths are bounded as said.
-/
import Derived.Test.YtoijjielnbcphaaDoorStrs
namespace Go.Proofs.YtoijjielnbcphaaDoor
open Go.RowKit
set_option linter.unusedVariables false
set_option linter.unusedSimpArgs false
set_option maxRecDepth 100000

theorem makeI (w : World) (n : Nat) (hn : n ≤ 17592186044416) :
    (Instr.makeSlice 51 (.int .i64 (n : Int)) (.int .i64 (n : Int))).run Tryd.prog w = .ok (.slice (some ⟨w.heap.size, 0, none⟩) n n) (w.alloc (.cells (madeCells #[fI 0] n) 3)) := by
  obtain ⟨i, hi0, h1, h2, h3⟩ := info_parts infoI
  have := run_make (P := Tryd.prog) w 51 3 i (.int .i64 0) Tryd.underlying51 hi0 h1 .i64 .i64 n n (by omega) (by omega) (by rw [h3]; omega) (by omega)
  rw [h2] at this
  simpa [Value.cells, fI] using this


end Go.Proofs.YtoijjielnbcphaaDoor
