/-
  Closed facts of this seat's program that several walks use. No condition.
-/
import Derived.Test.YtnlpdpkhdkghiaaRows
import Derived.Test.YtnlpdpkhdkghiaaBase
namespace Go.Proofs.Ytnlpdpkhdkghiaa
open Go.RowKit
set_option linter.unusedVariables false
set_option linter.unusedSimpArgs false
theorem own : ownKnob Try.prog.godebug = none := by kernel_rfl
theorem laidOut : laidOutB Try.prog = true := by kernel_rfl
theorem infoB : (Try.prog.info? 5).map (fun i => (i.zero, i.size, i.bytes)) = some (some (.int .u8 0), 1, 1) := by kernel_rfl
/-- 'string(out)' of a slice of bytes that the call has built. -/
theorem text {B : Nat} {w0 w : World} {v : Value} {l : List UInt8} (h : Bld 5 B w0 w v l) :
    (convert 36 9 v).run Try.prog w = .ok (.string (bstr l)) w :=
  h.text _ _ Try.underlying36 Try.underlying5 Try.underlying9
end Go.Proofs.Ytnlpdpkhdkghiaa
