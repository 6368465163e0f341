/- PrimaryWorld: abstract runs. -/
import Derived.Test.YtdlfmgcmfoehdaaGreatPrimaryWorldLyy2
set_option linter.unusedVariables false
set_option linter.unusedSimpArgs false
namespace Go.Ab
end Go.Ab
