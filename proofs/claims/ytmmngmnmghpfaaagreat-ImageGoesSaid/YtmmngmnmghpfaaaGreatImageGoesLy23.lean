/- ImageGoes: abstract runs. -/
import Derived.Test.YtmmngmnmghpfaaaGreatImageGoesLy22
set_option linter.unusedVariables false
set_option linter.unusedSimpArgs false
namespace Go.Ab
noncomputable section
open Go.RowKit
theorem sp_any {t : Bool} {A B : Prop} (h1 : t = true → A) (h2 : t = false → B) : splitB t A B := splitB_intro h1 h2
end
end Go.Ab
