/- DiskExact: abstract runs. -/
import Derived.Test.YtgoejddmglgogaaDiskExactLy27
import Derived.Laws.CopyRow
set_option linter.unusedVariables false
set_option linter.unusedSimpArgs false
namespace Go.Ab
open Go.RowKit
theorem flatten_takeN {n : Nat} : ∀ (xs : List (List DV)), (∀ cs ∈ xs, cs.length = n) → ∀ k : Nat, (xs.take k).flatten = xs.flatten.take (k * n)
  | [], _, k => by simp
  | c :: r, hl, 0 => by simp
  | c :: r, hl, k + 1 => by
    have hc : c.length = n := hl c (by simp)
    have := flatten_takeN r (fun x hx => hl x (by simp [hx])) k
    have e1 : (k + 1) * n = n + k * n := by rw [Nat.add_mul, Nat.one_mul, Nat.add_comm]
    have e2 : c.take (n + k * n) = c := List.take_of_length_le (by omega)
    rw [List.take_succ_cons, List.flatten_cons, this, List.flatten_cons, e1, List.take_append, hc, e2, Nat.add_sub_cancel_left]
end Go.Ab
