/- PrimaryAsked: abstract runs. -/
import Derived.Test.YtolkmjfkkkiboaaGreatPrimaryAskedLywk
set_option linter.unusedVariables false
set_option linter.unusedSimpArgs false
namespace Go.Ab
open Go.RowKit
variable {P:Program} {tt:TypeId→Option TI} {fo:FuncId→Bool} {n k0:Nat}
end Go.Ab
