/- ScriptParsesCard: abstract runs. -/
import Derived.Test.YtkaepgfmpljlmaaDoorScriptParsesCardLyq
set_option linter.unusedVariables false
set_option linter.unusedSimpArgs false
namespace Go.Ab
end Go.Ab
