/- PrimaryExact: abstract runs. -/
import Derived.Test.YtolkmjfkkkiboaaGreatPrimaryExactLywl
set_option linter.all false
namespace Go.Ab
open Go.RowKit
theorem mV {P:Program} {f:FuncId} {cS:List AV} {L L1:List AB} {post:AV->List AB->Prop} (ps:List (Nat×Nat)) (hs:kT ps L=some L1) (h:ry P f cS L1 post):ay P f cS L post:=by
 intro c vs hc hL fj hv;obtain ⟨s1,l1⟩:=kC hc fj hs;refine (rz hc s1 h (cD.mono l1 _ _ hv)).mono ?_;rintro e w' ⟨v,av,E',L',h1,h2,h3,h4,h5⟩;exact ⟨v,av,L',E',h1,h2,h3,h5⟩
end Go.Ab
