/- ScriptParsesCard: abstract runs. -/
import Derived.Test.YtkaepgfmpljlmaaDoorScriptParsesCardLyl
set_option linter.unusedVariables false
set_option linter.unusedSimpArgs false
namespace Go.Ab
open Go.RowKit
theorem acalls_rowUp {P : Program} {f : FuncId} {avs : List AV} {Lin : List AB} {post post' : AV → List AB → Prop} (h : ACalls P f avs Lin post)
    (hp : ∀ av L, post av L → post' av L ∨ ∃ (e n p : Nat) (cs : List AV) (r : List AV), 0 < n ∧ cs[p]? = some (.d .nils) ∧ av = .tup (.agg cs :: r) ∧ post' (.tup (.agg (cs.set p (.arr L.length)) :: r)) (L ++ [.row e n [] false])) : ACalls P f avs Lin post' := by
  intro c vs hc hL hs hv
  refine (h c vs hc hL hs hv).mono ?_
  rintro e w' ⟨v, av, L', E', h1, h2, h3, h4⟩
  rcases hp _ _ h2 with h0 | ⟨ee, n, p, cs, r, hn, hcs, rfl, hpo⟩
  · exact ⟨v, av, L', E', h1, h0, h3, h4⟩
  obtain ⟨g1, g2⟩ := h3.nilRow hc ee n false hn
  refine ⟨v, _, _, _, h1, hpo, g1, ?_⟩
  have h5 := VR.mono g2 _ _ h4
  simp only [VR, VRt] at h5 ⊢
  obtain ⟨us, rfl, u, us', e1, ⟨us2, rfl, hcs2⟩, hr⟩ := h5
  exact ⟨us, rfl, _, us', e1, ⟨us2, rfl, VRs_cs.2 (Cs_set (VRs_cs.1 hcs2) hcs fun v hv => by
    simp only [VR, VD] at hv ⊢
    subst hv
    exact ⟨.row ee n [] false, by simp, by simp [arRel, Eupd]⟩)⟩, hr⟩
end Go.Ab
