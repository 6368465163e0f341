/- DiskExact: abstract runs. -/
import Derived.Test.YtgoejddmglgogaaDiskExactLy22
set_option linter.unusedVariables false
set_option linter.unusedSimpArgs false
namespace Go.Ab
noncomputable section
open Go.RowKit
theorem sp_dec {p : Prop} [Decidable p] {A B : Prop} (h1 : p → A) (h2 : ¬ p → B) : splitB (decide p) A B :=
  splitB_intro (fun h => h1 (of_decide_eq_true h)) (fun h => h2 (of_decide_eq_false h))
theorem sp_eq {a b : Int} {A B : Prop} (h1 : a = b → A) (h2 : a ≠ b → B) : splitB (a == b) A B :=
  splitB_intro (fun h => h1 (by simpa using h)) (fun h => h2 (by simpa using h))
theorem sp_not {t : Bool} {A B : Prop} (h : splitB t B A) : splitB (!t) A B := by cases t <;> exact h
theorem sp_any {t : Bool} {A B : Prop} (h1 : t = true → A) (h2 : t = false → B) : splitB t A B := splitB_intro h1 h2
end
end Go.Ab
