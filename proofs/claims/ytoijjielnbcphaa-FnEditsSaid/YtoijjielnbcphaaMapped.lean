/-
  A walk of mapped (program): each byte of s replaced by what the closure gives. Condition: s has at most 2^20 bytes.
-/
import Derived.Test.YtoijjielnbcphaaFacts
namespace Go.Proofs.Ytoijjielnbcphaa
open Go.RowKit
set_option linter.unusedVariables false
set_option linter.unusedSimpArgs false

end Go.Proofs.Ytoijjielnbcphaa
