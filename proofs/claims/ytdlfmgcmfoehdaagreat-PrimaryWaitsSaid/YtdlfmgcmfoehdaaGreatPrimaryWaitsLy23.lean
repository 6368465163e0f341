/- Part of the proof of PrimaryWaits: what an abstract run of the code shows of its runs. -/
import Derived.Test.YtdlfmgcmfoehdaaGreatPrimaryWaitsLy22

set_option linter.unusedVariables false
set_option linter.unusedSimpArgs false
namespace Go.Ab
noncomputable section
open Go.RowKit
end
end Go.Ab
