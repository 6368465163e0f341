/- ImageGoes: abstract runs. -/
import Derived.Test.YtmmngmnmghpfaaaGreatImageGoesLy21
set_option linter.unusedVariables false
set_option linter.unusedSimpArgs false
namespace Go.Ab
open Go.RowKit
end Go.Ab
namespace Go.Ab
end Go.Ab
namespace Go.Ab
theorem wrapI {n : Int} (h : -9223372036854775808 ≤ n ∧ n < 9223372036854775808) : IntKind.i64.wrap n = n := by
  simp [IntKind.wrap, IntKind.bits, IntKind.signed]
  omega
end Go.Ab
