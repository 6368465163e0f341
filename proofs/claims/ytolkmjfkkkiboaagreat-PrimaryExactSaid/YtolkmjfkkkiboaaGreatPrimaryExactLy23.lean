/- PrimaryExact: abstract runs. -/
import Derived.Test.YtolkmjfkkkiboaaGreatPrimaryExactLy22
set_option linter.all false
namespace Go.Ab
noncomputable section
open Go.RowKit
end
end Go.Ab
