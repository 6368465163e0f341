/- ScriptParsesCard: abstract runs. -/
import Derived.Test.YtkaepgfmpljlmaaDoorScriptParsesCardLyk
set_option linter.unusedVariables false
set_option linter.unusedSimpArgs false
namespace Go.Ab
open Go.RowKit
theorem Cs_set {α : Type} {r : α → Value → Prop} : ∀ {xs : List α} {us : List Value} {p : Nat} {x y : α}, Cs r xs us → xs[p]? = some x → (∀ v, r x v → r y v) → Cs r (xs.set p y) us
  | [], us, p, x, y, h, hx, hr => by simp at hx
  | a :: l, us, p, x, y, h, hx, hr => by
    simp only [Cs] at h
    obtain ⟨u, us', rfl, h0, h1, h2⟩ := h
    cases p with
    | zero =>
      simp at hx
      subst hx
      simp only [List.set_cons_zero, Cs]
      exact ⟨u, us', rfl, h0, hr _ h1, h2⟩
    | succ p =>
      simp at hx
      simp only [List.set_cons_succ, Cs]
      exact ⟨u, us', rfl, h0, h1, Cs_set h2 hx hr⟩
end Go.Ab
