/- ImageGoes: abstract runs. -/
import Derived.Test.YtmmngmnmghpfaaaGreatImageGoesLyu
set_option linter.unusedVariables false
set_option linter.unusedSimpArgs false
namespace Go.Ab
noncomputable section
open Go.RowKit
section
variable {P : Program} {tt : TypeId → Option TI} {fo : FuncId → Bool} {n : Nat}
end
section
variable {P : Program} {tt : TypeId → Option TI} {fo : FuncId → Bool} {n k0 l : Nat}
end
end
end Go.Ab
