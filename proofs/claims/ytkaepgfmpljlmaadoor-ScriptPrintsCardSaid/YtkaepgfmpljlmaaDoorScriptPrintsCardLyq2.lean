/- ScriptPrintsCard: abstract runs. -/
import Derived.Test.YtkaepgfmpljlmaaDoorScriptPrintsCardLyq
set_option linter.unusedVariables false
set_option linter.unusedSimpArgs false
namespace Go.Ab
end Go.Ab
