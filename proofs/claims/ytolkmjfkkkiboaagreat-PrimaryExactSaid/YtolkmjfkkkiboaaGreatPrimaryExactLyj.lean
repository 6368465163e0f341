/- PrimaryExact: abstract runs. -/
import Derived.Test.YtolkmjfkkkiboaaGreatPrimaryExactLyp
set_option linter.all false
namespace Go.Ab
open Go.RowKit
theorem vM {P:Program} {f:FuncId} {cS:List AV} {cg:List AB} {post nF:AV->List AB->Prop} (h:ay P f cS cg post)
  (hp:∀ av L,post av L->∃ ny,nF ny L/\∀ (R:RC) (v:Value),VR R av v->VR R ny v):ay P f cS cg nF:=by
 intro c vs hc hL hs hv;refine (h c vs hc hL hs hv).mono ?_;rintro e w' ⟨v,av,L',E',h1,h2,h3,h4⟩;obtain ⟨ny,k1,k2⟩:=hp _ _ h2;exact ⟨v,ny,L',E',h1,k1,h3,k2 _ _ h4⟩
end Go.Ab
