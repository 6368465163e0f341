/- ScriptPrintsCard: abstract runs. -/
import Derived.Test.YtkaepgfmpljlmaaDoorScriptPrintsCardLy27
import Derived.Laws.CopyRow
set_option linter.unusedVariables false
set_option linter.unusedSimpArgs false
namespace Go.Ab
open Go.RowKit
end Go.Ab
