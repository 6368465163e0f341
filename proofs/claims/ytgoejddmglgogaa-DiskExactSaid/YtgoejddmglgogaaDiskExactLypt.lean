/- DiskExact: abstract runs. -/
import Derived.Test.YtgoejddmglgogaaDiskExactLynl
set_option linter.unusedVariables false
set_option linter.unusedSimpArgs false
namespace Go.Ab
open Go.RowKit
theorem acalls_kill {P : Program} {f : FuncId} {avs : List AV} {Lin : List AB} {post post2 : AV → List AB → Prop} (h : ACalls P f avs Lin post) (i : Nat)
    (hx : ∀ av L, post av L → ∃ e n xs sh, L[i]? = some (.row e n xs sh) ∧ post2 av (L.set i .dead)) : ACalls P f avs Lin post2 := by
  intro c vs hc hL hs hv
  refine (h c vs hc hL hs hv).mono ?_
  rintro e w' ⟨v, av, L', E', rfl, hp, h3, h4⟩
  obtain ⟨e, n, xs, sh, h5, h6⟩ := hx av L' hp
  obtain ⟨k1, k2⟩ := h3.kill h5
  exact ⟨v, av, _, _, rfl, h6, k1, VR.mono k2 _ _ h4⟩
end Go.Ab
