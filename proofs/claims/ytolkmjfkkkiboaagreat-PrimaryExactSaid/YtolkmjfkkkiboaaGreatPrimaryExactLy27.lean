/- PrimaryExact: abstract runs. -/
import Derived.Test.YtolkmjfkkkiboaaGreatPrimaryExactLy26
set_option linter.all false
namespace Go.Ab
noncomputable section
open Go.RowKit
structure Tw (p q A B:Prop):Prop where
 l:p->A
 r:q->B
theorem tw {p q A B:Prop} (l:p->A) (r:q->B):Tw p q A B:=⟨l,r⟩
theorem kz {t:Bool} {R S A B:Prop} (h1:t=true->R->A) (h2:t=false->S->B) (w:Tw (t=true) (t=false) R S):c_.match_1 (λ_=>Prop) (t) (λ_=>A) (λ_=>B):=Bo (λh=>h1 h (w.l h)) (λh=>h2 h (w.r h))
theorem kA {p:Prop} [Decidable p] {R S A B:Prop} (h1:p->R->A) (h2:¬p->S->B) (w:Tw p (¬p) R S):c_.match_1 (λ_=>Prop) (decide p) (λ_=>A) (λ_=>B):=iA (λh=>h1 h (w.l h)) (λh=>h2 h (w.r h))
theorem oT {a b:Int} {R S A B:Prop} (h1:a=b->R->A) (h2:a≠b->S->B) (w:Tw (a=b) (a≠b) R S):c_.match_1 (λ_=>Prop) (a == b) (λ_=>A) (λ_=>B):=Z6 (λh=>h1 h (w.l h)) (λh=>h2 h (w.r h))
theorem oU {a b:Int} {R S A B:Prop} (h1:a≠b->R->A) (h2:a=b->S->B) (w:Tw (a≠b) (a=b) R S):c_.match_1 (λ_=>Prop) (a != b) (λ_=>A) (λ_=>B):=Z7 (λh=>h1 h (w.l h)) (λh=>h2 h (w.r h))
theorem kB {t:Bool} {R S A B:Prop} (h1:t=false->R->A) (h2:t=true->S->B) (w:Tw (t=false) (t=true) R S):c_.match_1 (λ_=>Prop) (!t) (λ_=>A) (λ_=>B):=TJ (λh=>h1 h (w.l h)) (λh=>h2 h (w.r h))
section
variable {P:Program} {tt:TypeId->Option TI} {fo:FuncId->Bool}
theorem yR {full:List Oper} {o:Oper} {F:AF} {L:List AB} {v:AV} {R B:Prop} (h1:mT P tt fo full o F L v) (h2:R->B) (w:R):mT P tt fo full o F L v/\B:=⟨h1,h2 w⟩
theorem yS {o:Oper} {F:AF} {L:List AB} {v:AV} {R:Prop} {B:AV->Prop} (h1:KK P tt fo o F L v) (h2:R->B v) (w:R):∃ v,KK P tt fo o F L v/\B v:=⟨v,h1,h2 w⟩
end
theorem xR {e:Int} {R:Prop} {B:Int->Prop} (he : -9223372036854775808<=e/\e<9223372036854775808) (h:R->B e) (w:R):∀ z,z=IntKind.i64.wrap e->B z:=eU he (h w)
theorem eF {R G:Prop} (w:R) (h:R->G:=by
 repeat' (first|((with_reducible first|apply Go.Ab.yS|apply Go.Ab.yR);(focus ((conv=>whnf)<;>first|rfl|(intro K hK;(conv=>whnf);first|exact hK|exact Go.Ab.eU oM hK)));conv=>rhs;whnf)|((with_reducible apply Go.Ab.xR);(focus omega);conv=>rhs;whnf)|((with_reducible first|apply Go.Ab.kA|apply Go.Ab.oT|apply Go.Ab.oU|apply Go.Ab.kB|apply Go.Ab.kz)<;>first|(intro _;conv=>rhs;whnf)|skip))
 all_goals exact λw=>w):G:=h w
theorem XD {R G:Prop} (w:R) (h:R->G:=by
 repeat' (first|((with_reducible apply Go.Ab.xR);(focus omega);conv=>rhs;whnf)|((with_reducible first|apply Go.Ab.kA|apply Go.Ab.oT|apply Go.Ab.oU|apply Go.Ab.kB|apply Go.Ab.kz)<;>first|(intro _;conv=>rhs;whnf)|skip))
 all_goals exact λw=>w):G:=h w
theorem rdv {R G:Prop} (w:R) (h:R->G:=by
 (conv=>rhs;whnf)
 repeat' (first|((with_reducible first|apply Go.Ab.yS|apply Go.Ab.yR);(focus ((conv=>whnf)<;>first|rfl|(intro K hK;(conv=>whnf);first|exact hK|exact Go.Ab.eU oM hK)));conv=>rhs;whnf)|((with_reducible apply Go.Ab.xR);(focus omega);conv=>rhs;whnf)|((with_reducible first|apply Go.Ab.kA|apply Go.Ab.oT|apply Go.Ab.oU|apply Go.Ab.kB|apply Go.Ab.kz)<;>first|(intro _;conv=>rhs;whnf)|skip))
 all_goals exact λw=>w):G:=h w
theorem cm {R G:Prop} (w:R) (h:R->G:=by
 (conv=>rhs;whnf)
 repeat' (first|((with_reducible apply Go.Ab.xR);(focus omega);conv=>rhs;whnf)|((with_reducible first|apply Go.Ab.kA|apply Go.Ab.oT|apply Go.Ab.oU|apply Go.Ab.kB|apply Go.Ab.kz)<;>first|(intro _;conv=>rhs;whnf)|skip))
 all_goals exact λw=>w):G:=h w
theorem jz {R G:Prop} (w:R) (h:R->G:=by
 (first|((with_reducible first|apply Go.Ab.yS|apply Go.Ab.yR);(focus ((conv=>whnf)<;>first|rfl|(intro K hK;(conv=>whnf);first|exact hK|exact Go.Ab.eU oM hK)));conv=>rhs;whnf)|((with_reducible apply Go.Ab.xR);(focus omega);conv=>rhs;whnf)|((with_reducible first|apply Go.Ab.kA|apply Go.Ab.oT|apply Go.Ab.oU|apply Go.Ab.kB|apply Go.Ab.kz)<;>first|(intro _;conv=>rhs;whnf)|skip))
 repeat' (first|((with_reducible first|apply Go.Ab.yS|apply Go.Ab.yR);(focus ((conv=>whnf)<;>first|rfl|(intro K hK;(conv=>whnf);first|exact hK|exact Go.Ab.eU oM hK)));conv=>rhs;whnf)|((with_reducible apply Go.Ab.xR);(focus omega);conv=>rhs;whnf)|((with_reducible first|apply Go.Ab.kA|apply Go.Ab.oT|apply Go.Ab.oU|apply Go.Ab.kB|apply Go.Ab.kz)<;>first|(intro _;conv=>rhs;whnf)|skip))
 all_goals exact λw=>w):G:=h w
theorem aQ {P:Program} {f:FuncId} {cS:List AV} {L0:List AB} {x:AV} {y:List AB} {Q:AV->List AB->Prop} {R:Prop} (h:ay P f cS L0 (λav L=>av=x/\L=y)) (w:R) (k:R->Q x y:=by
 (conv=>rhs;whnf)
 repeat' (first|((with_reducible first|apply Go.Ab.yS|apply Go.Ab.yR);(focus ((conv=>whnf)<;>first|rfl|(intro K hK;(conv=>whnf);first|exact hK|exact Go.Ab.eU oM hK)));conv=>rhs;whnf)|((with_reducible apply Go.Ab.xR);(focus omega);conv=>rhs;whnf)|((with_reducible first|apply Go.Ab.kA|apply Go.Ab.oT|apply Go.Ab.oU|apply Go.Ab.kB|apply Go.Ab.kz)<;>first|(intro _;conv=>rhs;whnf)|skip))
 all_goals exact λw=>w):ay P f cS L0 Q:=h.mono λav L h=>by
 obtain ⟨rfl,rfl⟩:=h;exact k w
theorem qR {P:Program} {f:FuncId} {cS:List AV} {L0:List AB} {x:AV} {y:List AB} {Q:AV->List AB->Prop} {R:Prop} (h:ay P f cS L0 (λav L=>av=x/\L=y)) (w:R) (k:R->Q x y:=by
 (conv=>rhs;whnf)
 repeat' (first|((with_reducible apply Go.Ab.xR);(focus omega);conv=>rhs;whnf)|((with_reducible first|apply Go.Ab.kA|apply Go.Ab.oT|apply Go.Ab.oU|apply Go.Ab.kB|apply Go.Ab.kz)<;>first|(intro _;conv=>rhs;whnf)|skip))
 all_goals exact λw=>w):ay P f cS L0 Q:=h.mono λav L h=>by
 obtain ⟨rfl,rfl⟩:=h;exact k w
theorem uB {P:Program} {f:FuncId} {cS:List AV} {L0:List AB} {x:AV} {y:List AB} {Q:AV->List AB->Prop} {R:Prop} (h:ay P f cS L0 (λav L=>av=x/\L=y)) (w:R) (k:R->Q x y:=by
 (conv=>rhs;whnf)
 exact λw=>w):ay P f cS L0 Q:=h.mono λav L h=>by
 obtain ⟨rfl,rfl⟩:=h;exact k w
section
variable {P:Program} {tt:TypeId->Option TI} {fo:FuncId->Bool}
theorem tU {o:Oper} {F:AF} {L:List AB} {v:AV} {B:AV->Prop} {R T:Prop} (h:T) (w:R) (d:T->KK P tt fo o F L v:=by
 intro h K hK
 (conv=>whnf)
 refine h.mono ?_;rintro _ _ ⟨rfl,rfl⟩
 (conv=>whnf)
 exact hK) (k:R->B v:=by
 (conv=>rhs;whnf)
 exact λw=>w):∃ v,KK P tt fo o F L v/\B v:=⟨v,d h,k w⟩
theorem tV {full:List Oper} {o:Oper} {F:AF} {L:List AB} {v:AV} {B R T:Prop} (h:T) (w:R) (d:T->mT P tt fo full o F L v:=by
 intro h
 (conv=>whnf)
 intro K hK
 (conv=>whnf)
 refine h.mono ?_;rintro _ _ ⟨rfl,rfl⟩
 (conv=>whnf)
 exact hK) (k:R->B:=by
 (conv=>rhs;whnf)
 exact λw=>w):mT P tt fo full o F L v/\B:=⟨d h,k w⟩
end
end
abbrev pQ (x:AV) (y:List AB) (av:AV) (L:List AB):Prop:=av=x/\L=y
end Go.Ab
