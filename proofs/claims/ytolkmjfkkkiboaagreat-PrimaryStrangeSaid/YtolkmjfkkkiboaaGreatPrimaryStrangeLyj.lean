/- PrimaryStrange: abstract runs. -/
import Derived.Test.YtolkmjfkkkiboaaGreatPrimaryStrangeLyp
set_option linter.unusedVariables false
set_option linter.unusedSimpArgs false
namespace Go.Ab
open Go.RowKit
theorem acalls_post3 {P:Program} {f:FuncId} {avs:List AV} {Lin:List AB} {post post':AV→List AB→Prop} (h:ACalls P f avs Lin post)
  (hp:∀ av L,post av L→∃ av',post' av' L∧∀ (R:RC) (v:Value),VR R av v→VR R av' v):ACalls P f avs Lin post':=by
 intro c vs hc hL hs hv
 refine (h c vs hc hL hs hv).mono ?_
 rintro e w' ⟨v,av,L',E',h1,h2,h3,h4⟩
 obtain ⟨av',k1,k2⟩:=hp _ _ h2
 exact ⟨v,av',L',E',h1,k1,h3,k2 _ _ h4⟩
end Go.Ab
