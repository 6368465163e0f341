/- DiskExact: abstract runs. -/
import Derived.Test.YtgoejddmglgogaaDiskExactLyy
set_option linter.unusedVariables false
set_option linter.unusedSimpArgs false
namespace Go.Ab
noncomputable section
open Go.RowKit
section
variable {P : Program} {tt : TypeId → Option TI} {fo : FuncId → Bool} {n : Nat}
end
end
end Go.Ab
