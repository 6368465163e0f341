/- PrimaryTicks: abstract runs. -/
import Derived.Test.YtolkmjfkkkiboaaGreatPrimaryTicksLyw
set_option linter.unusedVariables false
set_option linter.unusedSimpArgs false
namespace Go.Ab
noncomputable section
open Go.RowKit
theorem foldl_set_size {ps : List (Tmp × Value)} : ∀ {t : Array Value}, (ps.foldl (fun t (p, v) => t.setIfInBounds p v) t).size = t.size := by
  induction ps with
  | nil => intro t; rfl
  | cons p r ih => intro t; rw [List.foldl_cons, ih]; simp
end
end Go.Ab
