/- Part of the proof of PrimaryWaits: what an abstract run of the code shows of its runs. -/
import Derived.Test.YtdlfmgcmfoehdaaGreatPrimaryWaitsLyp

set_option linter.unusedVariables false
set_option linter.unusedSimpArgs false
namespace Go.Ab
open Go.RowKit
/-- a nil slice within what a call hands back, as data -/
theorem acalls_post3 {P : Program} {f : FuncId} {avs : List AV} {Lin : List AB} {post post' : AV → List AB → Prop} (h : ACalls P f avs Lin post)
    (hp : ∀ av L, post av L → ∃ av', post' av' L ∧ ∀ (R : RC) (v : Value), VR R av v → VR R av' v) : ACalls P f avs Lin post' := by
  intro c vs hc hL hs hv
  refine (h c vs hc hL hs hv).mono ?_
  rintro e w' ⟨v, av, L', E', h1, h2, h3, h4⟩
  obtain ⟨av', k1, k2⟩ := hp _ _ h2
  exact ⟨v, av', L', E', h1, k1, h3, k2 _ _ h4⟩
end Go.Ab
