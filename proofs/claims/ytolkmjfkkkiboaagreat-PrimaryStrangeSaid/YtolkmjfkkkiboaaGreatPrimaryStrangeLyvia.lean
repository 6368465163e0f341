/- PrimaryStrange: abstract runs. -/
import Derived.Test.YtolkmjfkkkiboaaGreatPrimaryStrangeLywl
set_option linter.unusedVariables false
set_option linter.unusedSimpArgs false
namespace Go.Ab
open Go.RowKit
theorem acalls_via {P:Program} {f:FuncId} {avs:List AV} {L L1:List AB} {post:AV→List AB→Prop} (ps:List (Nat×Nat)) (hs:sealsAt ps L=some L1) (h:callRawK P f avs L1 post):ACalls P f avs L post:=by
 intro c vs hc hL hsim hv
 obtain ⟨s1,l1⟩:=sealsAt_ok hc hsim hs
 refine (callRawK_ok hc s1 h (VRt.mono l1 _ _ hv)).mono ?_
 rintro e w' ⟨v,av,E',L',h1,h2,h3,h4,h5⟩
 exact ⟨v,av,L',E',h1,h2,h3,h5⟩
end Go.Ab
